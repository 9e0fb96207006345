/-
  Types, by the reference: all nodes; CheckType.
-/
import Derived.Test.YtodiioeddlmjhaaGreatDoorT14
set_option linter.unusedVariables false
set_option linter.unusedSimpArgs false
namespace Go.Proofs.YtodiioeddlmjhaaGreatDoor
open Go.RowKit Go.Ev
set_option maxRecDepth 100000
set_option linter.unusedVariables false
set_option linter.unusedSimpArgs false
attribute [local irreducible] Go.Ev.opE

theorem ne_ofa {r : Int} (h : (!decide (r = 0)) = true) : r ≠ 0 := by simpa using h
theorem eq_ofa {r : Int} (h : (!decide (r = 0)) = false) : r = 0 := by simpa using h

set_option maxHeartbeats 16000000 in
theorem refNode1 {t : Ty} {cs : List V} (ht : TyC t cs) (hrec : ∀ x ∈ t.l, ∀ v, TyV x v → Pu Tryz.prog 73 [.agg v.cells] (.int .i64 (tnodesE x)))
    {b1 b6 b5 : Bool} (hb1 : b1 = decide (1 = 1)) (hb6 : b6 = decide (1 = 6)) (hb5 : b5 = decide (1 = 5)) (g1 : decide (t.kind = 1) = b1) (g6 : decide (t.kind = 6) = b6) (g5 : decide (t.kind = 5) = b5) (t1 : tcls t.kind = 1) : Pu Tryz.prog 73 [.agg cs] (.int .i64 (tnodesE t)) := by
  obtain ⟨lv, bv, rfl, hk, hn, hs, hl, hll, hb, hbl, hB, htl, hL⟩ := ht.inv
  have hll : (elems lv).length ≤ 9223372036854775807 := hll
  have e1 : t.l.length = (elems lv).length := hL.1
  have e2 : t.labels.length = (elems bv).length := hB.1
  obtain ⟨rr, hrr⟩ : ∃ rr, tnodesE t = rr := ⟨_, rfl⟩
  have hall := tnodesE_eq t
  obtain ⟨r', hr'⟩ : ∃ r', tnodeE t = r' := ⟨_, rfl⟩
  have hspec := (tnode_ref t).symm
  rw [hr'] at hspec hall
  rw [hrr] at hall ⊢
  intro S
  obtain ⟨U, hU, bx, s0⟩ := box1 S 46 [.int .i64 t.kind, .int .i64 t.n, .str t.s, lv, bv, .int .i64 t.tail]
  have k0 : Same U U := Same.refl U
  have c1 := refIn t.kind 0 6
  have c2 := refIn t.n 0 999999999
  have c3 := refClass t.s hs 1 (by decide)
  have cr := refRow (tl := t.tail) hb hbl hB
  have cb := refBuiltin t.s
  have hn5 : intOp .neq .i64 t.kind 5 = some (.bool (!decide (t.kind = 5))) := neq_i rfl
  have hn6 : intOp .neq .i64 t.kind 6 = some (.bool (!decide (t.kind = 6))) := neq_i rfl
  obtain ⟨a0, h1⟩ : ∃ q, amongB t.kind 0 6 = q := ⟨_, rfl⟩
  obtain ⟨a1, h2⟩ : ∃ q, amongB t.n 0 999999999 = q := ⟨_, rfl⟩
  obtain ⟨nz, h3⟩ : ∃ q, (!decide (t.kind = 0)) = q := ⟨_, rfl⟩
  obtain ⟨nn, h4⟩ : ∃ q, (!decide (t.n = 0)) = q := ⟨_, rfl⟩
  obtain ⟨bi, h5⟩ : ∃ q, isBuiltinB t.s = q := ⟨_, rfl⟩
  obtain ⟨lb, h6⟩ : ∃ q, decide (((elems bv).length : Int) > 0) = q := ⟨_, rfl⟩
  obtain ⟨nt, h7⟩ : ∃ q, (!decide (t.tail = 0)) = q := ⟨_, rfl⟩
  obtain ⟨r, h8⟩ : ∃ r, rowE t.labels t.tail = r := ⟨_, rfl⟩
  obtain ⟨qc, h9⟩ : ∃ q, clsB t.s 1 = q := ⟨_, rfl⟩
  obtain ⟨l2, h10⟩ : ∃ q, (!decide (((elems lv).length : Int) = 2)) = q := ⟨_, rfl⟩
  obtain ⟨l4, h11⟩ : ∃ q, decide (((elems lv).length : Int) > 4) = q := ⟨_, rfl⟩
  obtain ⟨l0, h12⟩ : ∃ q, decide (((elems lv).length : Int) > 0) = q := ⟨_, rfl⟩
  obtain ⟨z, hz⟩ : ∃ q, (!decide (r = 0)) = q := ⟨_, rfl⟩
  rw [g5] at hn5
  rw [g6] at hn6
  rw [h1] at c1; rw [h2] at c2; rw [h8] at cr; rw [h5] at cb; rw [h9] at c3
  rw [t1, e1, e2, g5, g6, h1, h2, h3, h4, h5, h6, h7, h8, h9, h10, h11, h12] at hspec
  subst hb1 hb6 hb5
  refine CallTo.of (n := 125) Tryz.func73 rfl rfl ?_
  repeat' first
   | refine Go.joinC 102 (fun E S' => Sub [(1, .ptr S.next 0)] E ∧ Same U S' ∧ r' = 0) ?_ ?_
   | refine Opl.val (op_box rfl) rfl (Opl.cast (S' := U) ?_ hU)
   | refine Opl.val (op_load rfl (ld_bx bx (by assumption) _ rfl)) rfl ?_
   | refine Opl.val (op_lenL rfl hl.isL rfl) rfl ?_
   | refine Opl.val (op_lenL rfl hb.isL rfl) rfl ?_
   | refine Opl.val (op_int rfl rfl rfl (neq_i h3)) rfl ?_
   | refine Opl.val (op_int rfl rfl rfl (neq_i h4)) rfl ?_
   | refine Opl.val (op_int rfl rfl rfl (neq_i h7)) rfl ?_
   | refine Opl.val (op_int rfl rfl rfl (neq_i h10)) rfl ?_
   | refine Opl.val (op_int rfl rfl rfl hn5) rfl ?_
   | refine Opl.val (op_int rfl rfl rfl hn6) rfl ?_
   | refine Opl.val (op_int rfl rfl rfl (gtr_i h6)) rfl ?_
   | refine Opl.val (op_int rfl rfl rfl (gtr_i h11)) rfl ?_
   | refine Opl.val (op_int rfl rfl rfl (gtr_i h12)) rfl ?_
   | refine Opl.val (op_int rfl rfl rfl (eql_i g1)) rfl ?_
   | refine Opl.val (op_int rfl rfl rfl (eql_i g6)) rfl ?_
   | refine Opl.val (op_int rfl rfl rfl (eql_i g5)) rfl ?_
   | refine Opl.callS (U0 := U) (by assumption) rfl (by kernel_rfl) c1 rfl (fun S8 k8 => ?_)
   | refine Opl.callS (U0 := U) (by assumption) rfl (by kernel_rfl) c2 rfl (fun S8 k8 => ?_)
   | refine Opl.callS (U0 := U) (by assumption) rfl (by kernel_rfl) c3 rfl (fun S8 k8 => ?_)
   | refine Opl.callS (U0 := U) (by assumption) rfl (by kernel_rfl) cb rfl (fun S8 k8 => ?_)
   | refine op_gyes rfl ?_ rfl
   | refine .gn ?_
   | (refine Opl.gonTN rfl rfl (fun hq => ?_) (fun hq => ?_) <;> subst hq)
   | (refine Opl.gonFN rfl rfl (fun hq => ?_) (fun hq => ?_) <;> subst hq)
   | (refine Opl.gonT rfl rfl (fun hq => ?_) (fun hq => ?_) <;> subst hq)
   | (refine Opl.gonF rfl rfl (fun hq => ?_) (fun hq => ?_) <;> subst hq)
   | refine Go.condT rfl ?_
   | refine Go.condF rfl ?_
   | (refine Go.condN rfl (fun hq => ?_) (fun hq => ?_) <;> subst hq)
   | (refine Go.condV rfl (fun hq => ?_) (fun hq => ?_) <;> subst hq)
   | exact At.fnr rfl rfl rfl ⟨pack_n (by rw [hall, ← hspec]; rfl), s0.trans (by assumption)⟩
   | refine .std ?_ | refine .nil ?_ | refine .seq ?_ | refine .region ?_ | refine .xs ?_ | refine .kb ?_ | refine .leaf ?_ | refine .block ?_ | refine .gn ?_ | refine .dr ?_ | fail
  any_goals
    refine ⟨?_⟩
    rintro E S9 ⟨hE, k9, hr0⟩
    have hfin : tnodesLE t.l = rr := by rw [hall, hr0]; rfl
    exact (refTail rfl hl hll hL hrec bx s0 S9 k9 hfin).weaken hE
  all_goals
    refine ⟨fun hj => ?_⟩
    repeat' first
     | exact hj _ _ ⟨⟨rfl, trivial⟩, by assumption, by rw [← hspec]; rfl⟩
     | exact hj _ _ ⟨⟨rfl, trivial⟩, by assumption, by rw [← hspec]; exact eq_ofa hz⟩
     | refine Opl.val (op_load rfl (ld_agg ((bx.pt (by assumption)).drop 4) rfl)) rfl ?_
     | refine Opl.val (op_int rfl rfl rfl (neq_i hz)) rfl ?_
     | refine Opl.callS (U0 := U) (by assumption) rfl (by kernel_rfl) cr rfl (fun S8 k8 => ?_)
     | refine op_gyes rfl ?_ rfl
     | refine .gn ?_
     | (refine Opl.gonTN rfl rfl (fun hq => ?_) (fun hq => ?_) <;> subst hq)
     | (refine Opl.gonFN rfl rfl (fun hq => ?_) (fun hq => ?_) <;> subst hq)
     | (refine Opl.gonT rfl rfl (fun hq => ?_) (fun hq => ?_) <;> subst hq)
     | (refine Opl.gonF rfl rfl (fun hq => ?_) (fun hq => ?_) <;> subst hq)
     | refine Go.condT rfl ?_
     | refine Go.condF rfl ?_
     | (refine Go.condN rfl (fun hq => ?_) (fun hq => ?_) <;> subst hq)
     | (refine Go.condV rfl (fun hq => ?_) (fun hq => ?_) <;> subst hq)
     | exact At.fnr rfl rfl rfl ⟨pack_n (by rw [hall, ← hspec]; exact (thenE_ne (ne_ofa hz)).symm), s0.trans (by assumption)⟩
     | refine .std ?_ | refine .nil ?_ | refine .seq ?_ | refine .region ?_ | refine .xs ?_ | refine .kb ?_ | refine .leaf ?_ | refine .block ?_ | refine .gn ?_ | refine .dr ?_ | fail

end Go.Proofs.YtodiioeddlmjhaaGreatDoor
