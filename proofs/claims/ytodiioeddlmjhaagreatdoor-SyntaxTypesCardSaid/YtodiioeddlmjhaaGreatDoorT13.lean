/-
  Types, by the reference: rows, how many nodes.
-/
import Derived.Test.YtodiioeddlmjhaaGreatDoorT12
import Derived.Test.YtodiioeddlmjhaaGreatDoorT11
set_option linter.unusedVariables false
set_option linter.unusedSimpArgs false
namespace Go.Proofs.YtodiioeddlmjhaaGreatDoor
open Go.RowKit Go.Ev
set_option maxRecDepth 100000
set_option linter.unusedVariables false
set_option linter.unusedSimpArgs false
attribute [local irreducible] Go.Ev.opE

theorem refBuiltin (s : List UInt8) : Pu Tryz.prog 135 [.str s] (.bool (isBuiltinB s)) := by
  intro S
  have k0 : Same S S := Same.refl S
  have hp : ∀ s ∈ ([[73, 110, 116], [66, 111, 111, 108], [85, 110, 105, 116]] : List (List UInt8)), s.length ≤ huge := by decide
  have c3 := refHas (l := [[73, 110, 116], [66, 111, 111, 108], [85, 110, 105, 116]]) (nv := .list (some 9) 1 [.str [73, 110, 116], .str [66, 111, 111, 108], .str [85, 110, 105, 116]] .exact) ⟨.inr (.inr ⟨_, _, _, rfl⟩), by show 3 ≤ huge; decide, strs_map hp⟩ s
  have hbs : buildSliceE Tryz.prog 23 3 [(0, .str [73, 110, 116]), (1, .str [66, 111, 111, 108]), (2, .str [85, 110, 105, 116])] = some (.list (some 9) 1 [.str [73, 110, 116], .str [66, 111, 111, 108], .str [85, 110, 105, 116]] .exact) := by kernel_rfl
  have hr : isBuiltinB s = ([[73, 110, 116], [66, 111, 111, 108], [85, 110, 105, 116]] : List (List UInt8)).contains s := by
    rw [Bool.eq_iff_iff]
    simp [isBuiltinB, or_assoc]
  refine CallTo.of (n := 6) Tryz.func135 rfl rfl ?_
  repeat' first
   | refine Opl.val (op_bsG rfl hbs) rfl ?_
   | refine Opl.callS k0 rfl (by kernel_rfl) c3 rfl (fun S4 k4 => ?_)
   | exact At.fnr rfl rfl rfl ⟨pack_b hr.symm, by assumption⟩
   | refine .std ?_ | refine .nil ?_ | refine .seq ?_ | refine .region ?_ | refine .xs ?_ | refine .kb ?_ | refine .leaf ?_ | refine .block ?_ | refine .gn ?_ | refine .dr ?_ | fail

set_option maxHeartbeats 4000000 in
theorem refRow {l : List (List UInt8 × Int)} {bv : V} {tl : Int} (h1 : isLn 2 bv) (h2 : (elems bv).length ≤ huge) (h3 : All2 LabV l (elems bv)) : Pu Tryz.prog 136 [.agg [bv, .int .i64 tl]] (.int .i64 (rowE l tl)) := by
  have h2 : (elems bv).length ≤ 9223372036854775807 := h2
  intro S
  obtain ⟨U, hU, bx, s0⟩ := box1 S 44 [bv, .int .i64 tl]
  have k0 : Same U U := Same.refl U
  refine CallTo.of (n := 31) Tryz.func136 rfl rfl ?_
  repeat' first
   | refine Opl.val (op_box rfl) rfl (Opl.cast (S' := U) ?_ hU)
   | refine .std ?_ | refine .nil ?_ | refine .seq ?_ | refine .region ?_ | refine .xs ?_ | refine .kb ?_ | refine .leaf ?_ | refine .block ?_ | refine .gn ?_ | refine .dr ?_ | fail
  refine Go.weaken (E' := [(1, .ptr S.next 0), (3, .int .i64 (0 : Nat))]) ?_ ⟨rfl, rfl, trivial⟩
  refine Go.loop_ind (α := Nat) (fun i => (elems bv).length - i) (fun i E S' => E = [(1, .ptr S.next 0), (3, .int .i64 i)] ∧ i ≤ (elems bv).length ∧ Same U S' ∧ rowE l tl = thenE (labsE (l.drop i)) (if !amongB tl (-1) 999999999 then 1 else 0)) ?_ 0 _ _ ⟨rfl, Nat.zero_le _, k0, rfl⟩
  rintro i E S1 ⟨rfl, hi, k1, hd⟩ IH
  repeat' first
   | refine Opl.val (op_load rfl (ld_bx bx k1 _ rfl)) rfl ?_
   | refine Opl.val (op_lenL rfl h1.isL rfl) rfl ?_
   | refine Opl.fresh (op_int rfl rfl rfl rfl) rfl (fun q hq => ?_)
   | refine .std ?_ | refine .nil ?_ | refine .seq ?_ | refine .region ?_ | refine .xs ?_ | refine .kb ?_ | refine .leaf ?_ | refine .block ?_ | refine .gn ?_ | refine .dr ?_ | fail
  refine Go.cond rfl (fun hq => ?_) (fun hq => ?_)
  · subst hq
    have hq : i < (elems bv).length := by have := of_decide_eq_true (by assumption : decide ((i : Int) < ((elems bv).length : Nat)) = true); omega
    obtain ⟨x, v, hx, hix, ⟨hv, hs, hn⟩, hm⟩ := h3.at hq
    have hpt : ∀ S, Pt S (.cptr none v.cells 0) [.str x.1, .int .i64 x.2] := fun S => by rw [hv]; exact Pt.cptr _ _ _
    have c1 := refIsUpper x.1 hs
    have c2 := refIn x.2 0 999999999
    rw [drop_at hx] at hd
    simp only [labsE, labE, thenE_assoc] at hd
    obtain ⟨q1, e1⟩ : ∃ q, isUpperB x.1 = q := ⟨_, rfl⟩
    obtain ⟨q2, e2⟩ : ∃ q, amongB x.2 0 999999999 = q := ⟨_, rfl⟩
    rw [e1] at c1
    rw [e2] at c2
    rw [e1, e2] at hd
    repeat' first
     | refine Opl.val (op_load rfl (ld_bx bx (by assumption) _ rfl)) rfl ?_
     | refine Opl.val (op_ixaV h1 rfl rfl hix) rfl ?_
     | refine Opl.val (op_load rfl (ld_one ((hpt _).at _ rfl))) rfl ?_
     | refine Opl.callS (U0 := U) (by assumption) rfl (by kernel_rfl) c1 rfl (fun S8 k8 => ?_)
     | refine Opl.callS (U0 := U) (by assumption) rfl (by kernel_rfl) c2 rfl (fun S8 k8 => ?_)
     | refine op_gyes rfl ?_ rfl
     | refine .gn ?_
     | (refine Opl.gonTN rfl rfl (fun hq => ?_) (fun hq => ?_) <;> subst hq)
     | (refine Opl.gonFN rfl rfl (fun hq => ?_) (fun hq => ?_) <;> subst hq)
     | (refine Opl.gonT rfl rfl (fun hq => ?_) (fun hq => ?_) <;> subst hq)
     | (refine Opl.gonF rfl rfl (fun hq => ?_) (fun hq => ?_) <;> subst hq)
     | refine Go.condT rfl ?_
     | refine Go.condF rfl ?_
     | (refine Go.condN rfl (fun hq => ?_) (fun hq => ?_) <;> subst hq)
     | (refine Go.condV rfl (fun hq => ?_) (fun hq => ?_) <;> subst hq)
     | refine Opl.val (op_int rfl rfl rfl (inc_ok (i := i) (by omega))) rfl ?_
     | exact At.fnr rfl rfl rfl ⟨pack_n (by rw [hd]; rfl), s0.trans (by assumption)⟩
     | exact (IH (i + 1) _ _ (by omega) ⟨rfl, by omega, by assumption, by rw [hd]; rfl⟩).weaken ⟨rfl, rfl, trivial⟩
     | refine .std ?_ | refine .nil ?_ | refine .seq ?_ | refine .region ?_ | refine .xs ?_ | refine .kb ?_ | refine .leaf ?_ | refine .block ?_ | refine .gn ?_ | refine .dr ?_ | fail
  · subst hq
    have hq : (elems bv).length ≤ i := by have := of_decide_eq_false (by assumption : decide ((i : Int) < ((elems bv).length : Nat)) = false); omega
    have hnil : l.drop i = [] := List.drop_eq_nil_of_le (by rw [h3.1]; omega)
    rw [hnil] at hd
    have c2 := refIn tl (-1) 999999999
    obtain ⟨q2, e2⟩ : ∃ q, amongB tl (-1) 999999999 = q := ⟨_, rfl⟩
    rw [e2] at c2 hd
    repeat' first
     | refine Opl.val (op_load rfl (ld_bx bx k1 _ rfl)) rfl ?_
     | refine Opl.callS (U0 := U) k1 rfl (by kernel_rfl) c2 rfl (fun S8 k8 => ?_)
     | refine op_gyes rfl ?_ rfl
     | refine .gn ?_
     | (refine Opl.gonTN rfl rfl (fun hq => ?_) (fun hq => ?_) <;> subst hq)
     | (refine Opl.gonFN rfl rfl (fun hq => ?_) (fun hq => ?_) <;> subst hq)
     | (refine Opl.gonT rfl rfl (fun hq => ?_) (fun hq => ?_) <;> subst hq)
     | (refine Opl.gonF rfl rfl (fun hq => ?_) (fun hq => ?_) <;> subst hq)
     | refine Go.condT rfl ?_
     | refine Go.condF rfl ?_
     | (refine Go.condN rfl (fun hq => ?_) (fun hq => ?_) <;> subst hq)
     | (refine Go.condV rfl (fun hq => ?_) (fun hq => ?_) <;> subst hq)
     | exact At.fnr rfl rfl rfl ⟨pack_n (by rw [hd]; rfl), s0.trans (by assumption)⟩
     | refine .std ?_ | refine .nil ?_ | refine .seq ?_ | refine .region ?_ | refine .xs ?_ | refine .kb ?_ | refine .leaf ?_ | refine .block ?_ | refine .gn ?_ | refine .dr ?_ | fail

set_option maxHeartbeats 4000000 in
theorem refTypeLeft : ∀ (N : Nat) (t : Ty) (cs : List V), t.nodes ≤ N → TyC t cs → ∀ n d : Int, Pu Tryz.prog 72 [.agg cs, .int .i64 n, .int .i64 d] (.int .i64 (leftT t n d)) := by
  intro N
  induction N with
  | zero => intro t cs hN; cases t; simp [Ty.nodes] at hN
  | succ N IHN =>
    intro t cs hN ht n d S
    have hspec := leftT_eq t n d
    obtain ⟨lv, bv, rfl, hk, hn, hs, hl, hll, hb, hbl, hB, htl, hL⟩ := ht.inv
    have hll : (elems lv).length ≤ 9223372036854775807 := hll
    obtain ⟨U, hU, bx, s0⟩ := box1 S 46 [.int .i64 t.kind, .int .i64 t.n, .str t.s, lv, bv, .int .i64 t.tail]
    have k0 : Same U U := Same.refl U
    obtain ⟨q1, g1⟩ : ∃ q, decide (d < 1) = q := ⟨_, rfl⟩
    obtain ⟨q2, g2⟩ : ∃ q, decide (((elems bv).length : Int) > 24) = q := ⟨_, rfl⟩
    have hres : leftT t n d = if q1 || q2 then -1 else leftTs t.l (IntKind.wrap .i64 (n - 1)) d := by
      rw [hspec, hB.1, ← g1, ← g2]
      by_cases hc : d < 1 ∨ (elems bv).length > 24
      · rw [if_pos hc, if_pos (by simp; omega)]
      · rw [if_neg hc, if_neg (by simp; omega)]
    refine CallTo.of (n := 40) Tryz.func72 rfl rfl ?_
    cases hqq : (q1 || q2)
    case true =>
      rw [hqq] at hres
      repeat' first
       | refine Opl.val (op_box rfl) rfl (Opl.cast (S' := U) ?_ hU)
       | refine Opl.val (op_load rfl (ld_bx bx k0 _ rfl)) rfl ?_
       | refine Opl.val (op_lenL rfl hb.isL rfl) rfl ?_
       | refine Opl.val (op_int rfl rfl rfl (lss_i g1)) rfl ?_
       | refine Opl.val (op_int rfl rfl rfl (gtr_i g2)) rfl ?_
       | refine op_gyes rfl ?_ rfl
       | refine .gn ?_
       | (refine Opl.gonTN rfl rfl (fun hq => ?_) (fun hq => ?_) <;> subst hq)
       | (refine Opl.gonFN rfl rfl (fun hq => ?_) (fun hq => ?_) <;> subst hq)
       | (refine Opl.gonT rfl rfl (fun hq => ?_) (fun hq => ?_) <;> subst hq)
       | (refine Opl.gonF rfl rfl (fun hq => ?_) (fun hq => ?_) <;> subst hq)
       | refine Go.condT rfl ?_
       | refine Go.condF rfl ?_
       | (refine Go.condN rfl (fun hq => ?_) (fun hq => ?_) <;> subst hq)
       | (refine Go.condV rfl (fun hq => ?_) (fun hq => ?_) <;> subst hq)
       | exact At.fnr rfl rfl rfl ⟨pack_n hres.symm, s0⟩
       | (cases hqq; done)
       | refine .std ?_ | refine .nil ?_ | refine .seq ?_ | refine .region ?_ | refine .xs ?_ | refine .kb ?_ | refine .leaf ?_ | refine .block ?_ | refine .gn ?_ | refine .dr ?_ | fail
    case false =>
      rw [hqq] at hres
      have hq1 : q1 = false := by cases q1 <;> simp_all
      have hq2 : q2 = false := by cases q2 <;> simp_all
      subst hq1 hq2
      repeat' first
       | refine Opl.val (op_box rfl) rfl (Opl.cast (S' := U) ?_ hU)
       | refine Opl.val (op_load rfl (ld_bx bx k0 _ rfl)) rfl ?_
       | refine Opl.val (op_lenL rfl hb.isL rfl) rfl ?_
       | refine Opl.val (op_int rfl rfl rfl (lss_i g1)) rfl ?_
       | refine Opl.val (op_int rfl rfl rfl (gtr_i g2)) rfl ?_
       | refine op_gyes rfl ?_ rfl
       | refine Go.condF rfl ?_
       | refine .std ?_ | refine .nil ?_ | refine .seq ?_ | refine .region ?_ | refine .xs ?_ | refine .kb ?_ | refine .leaf ?_ | refine .block ?_ | refine .gn ?_ | refine .dr ?_ | fail
      refine Go.weaken (E' := [(1, .int .i64 (IntKind.wrap .i64 (n - 1))), (2, .int .i64 d), (3, .ptr S.next 0), (7, .int .i64 (0 : Nat))]) ?_ ⟨rfl, rfl, rfl, rfl, trivial⟩
      refine Go.loop_ind (α := Nat) (fun i => (elems lv).length - i) (fun i E S' => ∃ m, E = [(1, .int .i64 m), (2, .int .i64 d), (3, .ptr S.next 0), (7, .int .i64 i)] ∧ i ≤ (elems lv).length ∧ Same U S' ∧ leftT t n d = leftTs (t.l.drop i) m d) ?_ 0 _ _ ⟨_, rfl, Nat.zero_le _, k0, hres⟩
      rintro i E S1 ⟨m, rfl, hi, k1, hd⟩ IH
      obtain ⟨p1, e1⟩ : ∃ q, decide ((i : Int) < ((elems lv).length : Nat)) = q := ⟨_, rfl⟩
      obtain ⟨p2, e2⟩ : ∃ q, decide (m ≥ 0) = q := ⟨_, rfl⟩
      by_cases hq : i < (elems lv).length ∧ m ≥ 0
      · obtain ⟨hq, hm0⟩ := hq
        have e1 : decide ((i : Int) < ((elems lv).length : Nat)) = true := decide_eq_true (by omega)
        have e2 : decide (m ≥ 0) = true := decide_eq_true hm0
        obtain ⟨x, v, hx, hix, hv, hm⟩ := hL.at hq
        have hxx := IHN x _ (by have := Ty.part hm; omega) hv m (IntKind.wrap .i64 (d - 1))
        rw [drop_at hx] at hd
        simp only [leftTs, if_pos hm0] at hd
        repeat' first
         | refine Opl.val (op_load rfl (ld_bx bx k1 _ rfl)) rfl ?_
         | refine Opl.val (op_lenL rfl hl.isL rfl) rfl ?_
         | refine Opl.val (op_ixaV hl rfl rfl hix) rfl ?_
         | refine Opl.val (op_load rfl (ld_agg (Pt.cptr _ _ _) (TyC.len6 hv))) rfl ?_
         | refine Opl.val (op_int rfl rfl rfl (lss_i e1)) rfl ?_
         | refine Opl.val (op_int rfl rfl rfl (geq_i e2)) rfl ?_
         | refine Opl.callS (U0 := U) (by assumption) rfl (by kernel_rfl) hxx rfl (fun S8 k8 => ?_)
         | refine op_gyes rfl ?_ rfl
         | refine Go.condT rfl ?_
         | refine Opl.val (op_int rfl rfl rfl (inc_ok (i := i) (by omega))) rfl ?_
         | exact (IH (i + 1) _ _ (by omega) ⟨_, rfl, by omega, by assumption, hd⟩).weaken ⟨rfl, rfl, rfl, rfl, trivial⟩
         | refine .std ?_ | refine .nil ?_ | refine .seq ?_ | refine .region ?_ | refine .xs ?_ | refine .kb ?_ | refine .leaf ?_ | refine .block ?_ | refine .gn ?_ | refine .dr ?_ | fail
      · have hres2 : leftT t n d = m := by
          rw [hd]
          by_cases hr : m ≥ 0
          · have : t.l.drop i = [] := List.drop_eq_nil_of_le (by rw [hL.1]; omega)
            rw [this]; rfl
          · exact leftTs_neg hr
        have e12 : (p1 && p2) = false := by
          rw [← e1, ← e2, Bool.and_eq_false_iff]
          simp only [decide_eq_false_iff_not]
          by_cases h1 : i < (elems lv).length
          · right; exact fun h => hq ⟨h1, h⟩
          · left; omega
        cases p1
        case false =>
          repeat' first
           | refine Opl.val (op_load rfl (ld_bx bx k1 _ rfl)) rfl ?_
           | refine Opl.val (op_lenL rfl hl.isL rfl) rfl ?_
           | refine Opl.val (op_int rfl rfl rfl (lss_i e1)) rfl ?_
           | refine .gn ?_
           | refine Go.condF rfl ?_
           | exact At.fnr rfl rfl rfl ⟨pack_n hres2.symm, s0.trans k1⟩
           | refine .std ?_ | refine .nil ?_ | refine .seq ?_ | refine .region ?_ | refine .xs ?_ | refine .kb ?_ | refine .leaf ?_ | refine .block ?_ | refine .gn ?_ | refine .dr ?_ | fail
        case true =>
          cases p2
          case true => cases e12
          case false =>
            repeat' first
             | refine Opl.val (op_load rfl (ld_bx bx k1 _ rfl)) rfl ?_
             | refine Opl.val (op_lenL rfl hl.isL rfl) rfl ?_
             | refine Opl.val (op_int rfl rfl rfl (lss_i e1)) rfl ?_
             | refine Opl.val (op_int rfl rfl rfl (geq_i e2)) rfl ?_
             | refine op_gyes rfl ?_ rfl
             | refine Go.condF rfl ?_
             | exact At.fnr rfl rfl rfl ⟨pack_n hres2.symm, s0.trans k1⟩
             | refine .std ?_ | refine .nil ?_ | refine .seq ?_ | refine .region ?_ | refine .xs ?_ | refine .kb ?_ | refine .leaf ?_ | refine .block ?_ | refine .gn ?_ | refine .dr ?_ | fail

end Go.Proofs.YtodiioeddlmjhaaGreatDoor
