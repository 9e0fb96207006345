/-
  Types: the first error of a node, of all nodes.
-/
import Derived.Test.YtodiioeddlmjhaaGreatDoorT9
set_option linter.unusedVariables false
set_option linter.unusedSimpArgs false
namespace Go.Proofs.YtodiioeddlmjhaaGreatDoor
open Go.RowKit Go.Ev
set_option maxRecDepth 100000
set_option linter.unusedVariables false
set_option linter.unusedSimpArgs false
attribute [local irreducible] Go.Ev.opE

theorem kindCase (k : Int) : (decide (k = 1) = true ∧ decide (k = 6) = false ∧ decide (k = 5) = false ∧ tcls k = 1 ∧ tlow k = 0 ∧ thigh k = 0) ∨ (decide (k = 1) = false ∧ decide (k = 6) = true ∧ decide (k = 5) = false ∧ tcls k = 2 ∧ tlow k = 0 ∧ thigh k = 4) ∨
    (decide (k = 1) = false ∧ decide (k = 6) = false ∧ decide (k = 5) = true ∧ tcls k = 0 ∧ tlow k = 2 ∧ thigh k = 2) ∨ (decide (k = 1) = false ∧ decide (k = 6) = false ∧ decide (k = 5) = false ∧ tcls k = 0 ∧ tlow k = 0 ∧ thigh k = 0) := by
  by_cases h1 : k = 1
  · subst h1; left; decide
  · by_cases h6 : k = 6
    · subst h6; right; left; decide
    · by_cases h5 : k = 5
      · subst h5; right; right; left; decide
      · right; right; right
        simp [tcls, tlow, thigh, h1, h6, h5]

set_option maxHeartbeats 16000000 in
theorem typeNodeF {t : Ty} {cs : List V} (ht : TyC t cs) : Pu Tryz.prog 132 [.agg cs] (.int .i64 (tnodeE t)) := by
  obtain ⟨lv, bv, rfl, hk, hn, hs, hl, hll, hb, hbl, hB, htl, hL⟩ := ht.inv
  have e1 : t.l.length = (elems lv).length := hL.1
  have e2 : t.labels.length = (elems bv).length := hB.1
  intro S
  obtain ⟨U, hU, bx, s0⟩ := box1 S 46 [.int .i64 t.kind, .int .i64 t.n, .str t.s, lv, bv, .int .i64 t.tail]
  have k0 : Same U U := Same.refl U
  obtain ⟨r', hr'⟩ : ∃ r', tnodeE t = r' := ⟨_, rfl⟩
  rw [hr']
  have hspec := hr'
  unfold tnodeE at hspec
  rw [e1, e2] at hspec
  have c1 := amongF t.kind 0 6
  have c2 := amongF t.n 0 999999999
  have cr := rowF (tl := t.tail) hb hbl hB
  obtain ⟨a0, h1⟩ : ∃ q, amongB t.kind 0 6 = q := ⟨_, rfl⟩
  obtain ⟨a1, h2⟩ : ∃ q, amongB t.n 0 999999999 = q := ⟨_, rfl⟩
  obtain ⟨nz, h3⟩ : ∃ q, (!decide (t.kind = 0)) = q := ⟨_, rfl⟩
  obtain ⟨np, h4⟩ : ∃ q, decide (t.n > 0) = q := ⟨_, rfl⟩
  obtain ⟨bi, h5⟩ : ∃ q, isBuiltinB t.s = q := ⟨_, rfl⟩
  obtain ⟨lb, h6⟩ : ∃ q, decide (((elems bv).length : Int) > 0) = q := ⟨_, rfl⟩
  obtain ⟨nt, h7⟩ : ∃ q, (!decide (t.tail = 0)) = q := ⟨_, rfl⟩
  obtain ⟨r, h8⟩ : ∃ r, rowE t.labels t.tail = r := ⟨_, rfl⟩
  have cb := builtinF t.s
  rw [h1] at c1; rw [h2] at c2; rw [h8] at cr; rw [h5] at cb
  rw [h1, h2, h3, h4, h5, h6, h7, h8] at hspec
  rcases kindCase t.kind with ⟨g1, g6, g5, t1, t2, t3⟩ | ⟨g1, g6, g5, t1, t2, t3⟩ | ⟨g1, g6, g5, t1, t2, t3⟩ | ⟨g1, g6, g5, t1, t2, t3⟩
  · rw [t1, t2, t3, g5] at hspec
    obtain ⟨qc, hqc⟩ : ∃ q, clsB t.s 1 = q := ⟨_, rfl⟩
    obtain ⟨ql, hql⟩ : ∃ q, amongB ((elems lv).length : Nat) 0 0 = q := ⟨_, rfl⟩
    have c3 := isF t.s hs 1 (by decide)
    have c4 := amongF ((elems lv).length : Nat) 0 0
    rw [hqc] at c3; rw [hql] at c4
    rw [hqc, hql] at hspec
    refine CallTo.of (n := 78) Tryz.func132 rfl rfl ?_
    repeat' first
     | refine Opl.val (op_box rfl) rfl (Opl.cast (S' := U) ?_ hU)
     | refine Opl.val (op_load rfl (ld_bx bx (by assumption) _ rfl)) rfl ?_
     | refine Opl.val (op_load rfl (ld_agg ((bx.pt (by assumption)).drop 4) rfl)) rfl ?_
     | refine Opl.val (op_lenL rfl hl.isL rfl) rfl ?_
     | refine Opl.val (op_lenL rfl hb.isL rfl) rfl ?_
     | refine Opl.val (op_int rfl rfl rfl (neq_i h3)) rfl ?_
     | refine Opl.val (op_int rfl rfl rfl (neq_i h7)) rfl ?_
     | refine Opl.val (op_int rfl rfl rfl (gtr_i h4)) rfl ?_
     | refine Opl.val (op_int rfl rfl rfl (gtr_i h6)) rfl ?_
     | refine Opl.val (op_int rfl rfl rfl (eql_i g1)) rfl ?_
     | refine Opl.val (op_int rfl rfl rfl (eql_i g6)) rfl ?_
     | refine Opl.val (op_int rfl rfl rfl (eql_i g5)) rfl ?_
     | refine Opl.callS (U0 := U) (by assumption) rfl (by kernel_rfl) c1 rfl (fun S8 k8 => ?_)
     | refine Opl.callS (U0 := U) (by assumption) rfl (by kernel_rfl) c2 rfl (fun S8 k8 => ?_)
     | refine Opl.callS (U0 := U) (by assumption) rfl (by kernel_rfl) c3 rfl (fun S8 k8 => ?_)
     | refine Opl.callS (U0 := U) (by assumption) rfl (by kernel_rfl) c4 rfl (fun S8 k8 => ?_)
     | refine Opl.callS (U0 := U) (by assumption) rfl (by kernel_rfl) cr rfl (fun S8 k8 => ?_)
     | (refine Opl.callQ (U0 := U) (by assumption) rfl (by kernel_rfl) cb rfl (fun v S8 hv k8 => ?_); obtain ⟨kk, rfl⟩ := hv)
     | refine op_gyes rfl ?_ rfl
     | refine .gn ?_
     | (refine Opl.gonTN rfl rfl (fun hq => ?_) (fun hq => ?_) <;> subst hq)
     | (refine Opl.gonFN rfl rfl (fun hq => ?_) (fun hq => ?_) <;> subst hq)
     | (refine Opl.gonT rfl rfl (fun hq => ?_) (fun hq => ?_) <;> subst hq)
     | (refine Opl.gonF rfl rfl (fun hq => ?_) (fun hq => ?_) <;> subst hq)
     | refine Go.condT rfl ?_
     | refine Go.condF rfl ?_
     | (refine Go.condN rfl (fun hq => ?_) (fun hq => ?_) <;> subst hq)
     | (refine Go.condV rfl (fun hq => ?_) (fun hq => ?_) <;> subst hq)
     | exact At.fnr rfl rfl rfl ⟨pack_n (by rw [← hspec]; rfl), s0.trans (by assumption)⟩
     | refine .std ?_ | refine .nil ?_ | refine .seq ?_ | refine .region ?_ | refine .xs ?_ | refine .kb ?_ | refine .leaf ?_ | refine .block ?_ | refine .gn ?_ | refine .dr ?_ | fail
  · rw [t1, t2, t3, g5] at hspec
    obtain ⟨qc, hqc⟩ : ∃ q, clsB t.s 2 = q := ⟨_, rfl⟩
    obtain ⟨ql, hql⟩ : ∃ q, amongB ((elems lv).length : Nat) 0 4 = q := ⟨_, rfl⟩
    have c3 := isF t.s hs 2 (by decide)
    have c4 := amongF ((elems lv).length : Nat) 0 4
    rw [hqc] at c3; rw [hql] at c4
    rw [hqc, hql] at hspec
    refine CallTo.of (n := 78) Tryz.func132 rfl rfl ?_
    repeat' first
     | refine Opl.val (op_box rfl) rfl (Opl.cast (S' := U) ?_ hU)
     | refine Opl.val (op_load rfl (ld_bx bx (by assumption) _ rfl)) rfl ?_
     | refine Opl.val (op_load rfl (ld_agg ((bx.pt (by assumption)).drop 4) rfl)) rfl ?_
     | refine Opl.val (op_lenL rfl hl.isL rfl) rfl ?_
     | refine Opl.val (op_lenL rfl hb.isL rfl) rfl ?_
     | refine Opl.val (op_int rfl rfl rfl (neq_i h3)) rfl ?_
     | refine Opl.val (op_int rfl rfl rfl (neq_i h7)) rfl ?_
     | refine Opl.val (op_int rfl rfl rfl (gtr_i h4)) rfl ?_
     | refine Opl.val (op_int rfl rfl rfl (gtr_i h6)) rfl ?_
     | refine Opl.val (op_int rfl rfl rfl (eql_i g1)) rfl ?_
     | refine Opl.val (op_int rfl rfl rfl (eql_i g6)) rfl ?_
     | refine Opl.val (op_int rfl rfl rfl (eql_i g5)) rfl ?_
     | refine Opl.callS (U0 := U) (by assumption) rfl (by kernel_rfl) c1 rfl (fun S8 k8 => ?_)
     | refine Opl.callS (U0 := U) (by assumption) rfl (by kernel_rfl) c2 rfl (fun S8 k8 => ?_)
     | refine Opl.callS (U0 := U) (by assumption) rfl (by kernel_rfl) c3 rfl (fun S8 k8 => ?_)
     | refine Opl.callS (U0 := U) (by assumption) rfl (by kernel_rfl) c4 rfl (fun S8 k8 => ?_)
     | refine Opl.callS (U0 := U) (by assumption) rfl (by kernel_rfl) cr rfl (fun S8 k8 => ?_)
     | (refine Opl.callQ (U0 := U) (by assumption) rfl (by kernel_rfl) cb rfl (fun v S8 hv k8 => ?_); obtain ⟨kk, rfl⟩ := hv)
     | refine op_gyes rfl ?_ rfl
     | refine .gn ?_
     | (refine Opl.gonTN rfl rfl (fun hq => ?_) (fun hq => ?_) <;> subst hq)
     | (refine Opl.gonFN rfl rfl (fun hq => ?_) (fun hq => ?_) <;> subst hq)
     | (refine Opl.gonT rfl rfl (fun hq => ?_) (fun hq => ?_) <;> subst hq)
     | (refine Opl.gonF rfl rfl (fun hq => ?_) (fun hq => ?_) <;> subst hq)
     | refine Go.condT rfl ?_
     | refine Go.condF rfl ?_
     | (refine Go.condN rfl (fun hq => ?_) (fun hq => ?_) <;> subst hq)
     | (refine Go.condV rfl (fun hq => ?_) (fun hq => ?_) <;> subst hq)
     | exact At.fnr rfl rfl rfl ⟨pack_n (by rw [← hspec]; rfl), s0.trans (by assumption)⟩
     | refine .std ?_ | refine .nil ?_ | refine .seq ?_ | refine .region ?_ | refine .xs ?_ | refine .kb ?_ | refine .leaf ?_ | refine .block ?_ | refine .gn ?_ | refine .dr ?_ | fail
  · rw [t1, t2, t3, g5] at hspec
    obtain ⟨qc, hqc⟩ : ∃ q, clsB t.s 0 = q := ⟨_, rfl⟩
    obtain ⟨ql, hql⟩ : ∃ q, amongB ((elems lv).length : Nat) 2 2 = q := ⟨_, rfl⟩
    have c3 := isF t.s hs 0 (by decide)
    have c4 := amongF ((elems lv).length : Nat) 2 2
    rw [hqc] at c3; rw [hql] at c4
    rw [hqc, hql] at hspec
    refine CallTo.of (n := 78) Tryz.func132 rfl rfl ?_
    repeat' first
     | refine Opl.val (op_box rfl) rfl (Opl.cast (S' := U) ?_ hU)
     | refine Opl.val (op_load rfl (ld_bx bx (by assumption) _ rfl)) rfl ?_
     | refine Opl.val (op_load rfl (ld_agg ((bx.pt (by assumption)).drop 4) rfl)) rfl ?_
     | refine Opl.val (op_lenL rfl hl.isL rfl) rfl ?_
     | refine Opl.val (op_lenL rfl hb.isL rfl) rfl ?_
     | refine Opl.val (op_int rfl rfl rfl (neq_i h3)) rfl ?_
     | refine Opl.val (op_int rfl rfl rfl (neq_i h7)) rfl ?_
     | refine Opl.val (op_int rfl rfl rfl (gtr_i h4)) rfl ?_
     | refine Opl.val (op_int rfl rfl rfl (gtr_i h6)) rfl ?_
     | refine Opl.val (op_int rfl rfl rfl (eql_i g1)) rfl ?_
     | refine Opl.val (op_int rfl rfl rfl (eql_i g6)) rfl ?_
     | refine Opl.val (op_int rfl rfl rfl (eql_i g5)) rfl ?_
     | refine Opl.callS (U0 := U) (by assumption) rfl (by kernel_rfl) c1 rfl (fun S8 k8 => ?_)
     | refine Opl.callS (U0 := U) (by assumption) rfl (by kernel_rfl) c2 rfl (fun S8 k8 => ?_)
     | refine Opl.callS (U0 := U) (by assumption) rfl (by kernel_rfl) c3 rfl (fun S8 k8 => ?_)
     | refine Opl.callS (U0 := U) (by assumption) rfl (by kernel_rfl) c4 rfl (fun S8 k8 => ?_)
     | refine Opl.callS (U0 := U) (by assumption) rfl (by kernel_rfl) cr rfl (fun S8 k8 => ?_)
     | (refine Opl.callQ (U0 := U) (by assumption) rfl (by kernel_rfl) cb rfl (fun v S8 hv k8 => ?_); obtain ⟨kk, rfl⟩ := hv)
     | refine op_gyes rfl ?_ rfl
     | refine .gn ?_
     | (refine Opl.gonTN rfl rfl (fun hq => ?_) (fun hq => ?_) <;> subst hq)
     | (refine Opl.gonFN rfl rfl (fun hq => ?_) (fun hq => ?_) <;> subst hq)
     | (refine Opl.gonT rfl rfl (fun hq => ?_) (fun hq => ?_) <;> subst hq)
     | (refine Opl.gonF rfl rfl (fun hq => ?_) (fun hq => ?_) <;> subst hq)
     | refine Go.condT rfl ?_
     | refine Go.condF rfl ?_
     | (refine Go.condN rfl (fun hq => ?_) (fun hq => ?_) <;> subst hq)
     | (refine Go.condV rfl (fun hq => ?_) (fun hq => ?_) <;> subst hq)
     | exact At.fnr rfl rfl rfl ⟨pack_n (by rw [← hspec]; rfl), s0.trans (by assumption)⟩
     | refine .std ?_ | refine .nil ?_ | refine .seq ?_ | refine .region ?_ | refine .xs ?_ | refine .kb ?_ | refine .leaf ?_ | refine .block ?_ | refine .gn ?_ | refine .dr ?_ | fail
  · rw [t1, t2, t3, g5] at hspec
    obtain ⟨qc, hqc⟩ : ∃ q, clsB t.s 0 = q := ⟨_, rfl⟩
    obtain ⟨ql, hql⟩ : ∃ q, amongB ((elems lv).length : Nat) 0 0 = q := ⟨_, rfl⟩
    have c3 := isF t.s hs 0 (by decide)
    have c4 := amongF ((elems lv).length : Nat) 0 0
    rw [hqc] at c3; rw [hql] at c4
    rw [hqc, hql] at hspec
    refine CallTo.of (n := 78) Tryz.func132 rfl rfl ?_
    repeat' first
     | refine Opl.val (op_box rfl) rfl (Opl.cast (S' := U) ?_ hU)
     | refine Opl.val (op_load rfl (ld_bx bx (by assumption) _ rfl)) rfl ?_
     | refine Opl.val (op_load rfl (ld_agg ((bx.pt (by assumption)).drop 4) rfl)) rfl ?_
     | refine Opl.val (op_lenL rfl hl.isL rfl) rfl ?_
     | refine Opl.val (op_lenL rfl hb.isL rfl) rfl ?_
     | refine Opl.val (op_int rfl rfl rfl (neq_i h3)) rfl ?_
     | refine Opl.val (op_int rfl rfl rfl (neq_i h7)) rfl ?_
     | refine Opl.val (op_int rfl rfl rfl (gtr_i h4)) rfl ?_
     | refine Opl.val (op_int rfl rfl rfl (gtr_i h6)) rfl ?_
     | refine Opl.val (op_int rfl rfl rfl (eql_i g1)) rfl ?_
     | refine Opl.val (op_int rfl rfl rfl (eql_i g6)) rfl ?_
     | refine Opl.val (op_int rfl rfl rfl (eql_i g5)) rfl ?_
     | refine Opl.callS (U0 := U) (by assumption) rfl (by kernel_rfl) c1 rfl (fun S8 k8 => ?_)
     | refine Opl.callS (U0 := U) (by assumption) rfl (by kernel_rfl) c2 rfl (fun S8 k8 => ?_)
     | refine Opl.callS (U0 := U) (by assumption) rfl (by kernel_rfl) c3 rfl (fun S8 k8 => ?_)
     | refine Opl.callS (U0 := U) (by assumption) rfl (by kernel_rfl) c4 rfl (fun S8 k8 => ?_)
     | refine Opl.callS (U0 := U) (by assumption) rfl (by kernel_rfl) cr rfl (fun S8 k8 => ?_)
     | (refine Opl.callQ (U0 := U) (by assumption) rfl (by kernel_rfl) cb rfl (fun v S8 hv k8 => ?_); obtain ⟨kk, rfl⟩ := hv)
     | refine op_gyes rfl ?_ rfl
     | refine .gn ?_
     | (refine Opl.gonTN rfl rfl (fun hq => ?_) (fun hq => ?_) <;> subst hq)
     | (refine Opl.gonFN rfl rfl (fun hq => ?_) (fun hq => ?_) <;> subst hq)
     | (refine Opl.gonT rfl rfl (fun hq => ?_) (fun hq => ?_) <;> subst hq)
     | (refine Opl.gonF rfl rfl (fun hq => ?_) (fun hq => ?_) <;> subst hq)
     | refine Go.condT rfl ?_
     | refine Go.condF rfl ?_
     | (refine Go.condN rfl (fun hq => ?_) (fun hq => ?_) <;> subst hq)
     | (refine Go.condV rfl (fun hq => ?_) (fun hq => ?_) <;> subst hq)
     | exact At.fnr rfl rfl rfl ⟨pack_n (by rw [← hspec]; rfl), s0.trans (by assumption)⟩
     | refine .std ?_ | refine .nil ?_ | refine .seq ?_ | refine .region ?_ | refine .xs ?_ | refine .kb ?_ | refine .leaf ?_ | refine .block ?_ | refine .gn ?_ | refine .dr ?_ | fail

end Go.Proofs.YtodiioeddlmjhaaGreatDoor
