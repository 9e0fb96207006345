/-
  Types: the first error of a row, of a node.
-/
import Derived.Test.YtodiioeddlmjhaaGreatDoorT5
import Derived.Test.YtodiioeddlmjhaaGreatDoorE10
set_option linter.unusedVariables false
set_option linter.unusedSimpArgs false
namespace Go.Proofs.YtodiioeddlmjhaaGreatDoor
open Go.RowKit Go.Ev
set_option maxRecDepth 100000
set_option linter.unusedVariables false
set_option linter.unusedSimpArgs false
attribute [local irreducible] Go.Ev.opE

set_option maxHeartbeats 4000000 in
theorem rowF {l : List (List UInt8 × Int)} {bv : V} {tl : Int} (h1 : isLn 2 bv) (h2 : (elems bv).length ≤ huge) (h3 : All2 LabV l (elems bv)) : Pu Tryz.prog 190 [.agg [bv, .int .i64 tl]] (.int .i64 (rowE l tl)) := by
  have h2 : (elems bv).length ≤ 9223372036854775807 := h2
  intro S
  obtain ⟨U, hU, bx, s0⟩ := box1 S 44 [bv, .int .i64 tl]
  have k0 : Same U U := Same.refl U
  refine CallTo.of (n := 27) Tryz.func190 rfl rfl ?_
  repeat' first
   | refine Opl.val (op_box rfl) rfl (Opl.cast (S' := U) ?_ hU)
   | refine Opl.val (op_load rfl (ld_bx bx k0 _ rfl)) rfl ?_
   | refine Opl.val (op_lenL rfl h1.isL rfl) rfl ?_
   | refine .std ?_ | refine .nil ?_ | refine .seq ?_ | refine .region ?_ | refine .xs ?_ | refine .kb ?_ | refine .leaf ?_ | refine .block ?_ | refine .gn ?_ | refine .dr ?_ | fail
  refine Go.weaken (E' := [(1, .ptr S.next 0), (6, bv), (7, .int .i64 (elems bv).length), (8, .int .i64 (0 : Nat))]) ?_ ⟨rfl, rfl, rfl, rfl, trivial⟩
  refine Go.loop_ind (α := Nat) (fun i => (elems bv).length - i) (fun i E S' => E = [(1, .ptr S.next 0), (6, bv), (7, .int .i64 (elems bv).length), (8, .int .i64 i)] ∧ i ≤ (elems bv).length ∧ Same U S' ∧ rowE l tl = thenE (labsE (l.drop i)) (if !amongB tl (-1) 999999999 then 1 else 0)) ?_ 0 _ _ ⟨rfl, Nat.zero_le _, k0, rfl⟩
  rintro i E S1 ⟨rfl, hi, k1, hd⟩ IH
  repeat' first
   | refine Opl.fresh (op_int rfl rfl rfl rfl) rfl (fun q hq => ?_)
   | refine .std ?_ | refine .nil ?_ | refine .seq ?_ | refine .region ?_ | refine .xs ?_ | refine .kb ?_ | refine .leaf ?_ | refine .block ?_ | refine .gn ?_ | refine .dr ?_ | fail
  refine Go.cond rfl (fun hq => ?_) (fun hq => ?_)
  · subst hq
    have hq : i < (elems bv).length := by have := of_decide_eq_true (by assumption : decide ((i : Int) < ((elems bv).length : Nat)) = true); omega
    obtain ⟨x, v, hx, hix, ⟨hv, hs, hn⟩, hm⟩ := h3.at hq
    obtain ⟨W, st1, b4, k4⟩ := lay (P := Tryz.prog) (T := 107) [.str [], .int .i64 0] S1 (cs := v.cells) (by rw [hv]; rfl) (by rw [hv]; rfl)
    rw [hv] at b4
    have kW : Same W W := Same.refl W
    have hvl : v.cells.length = 2 := by rw [hv]; rfl
    have c1 := isF x.1 hs 2 (by decide)
    have c2 := amongF x.2 0 999999999
    rw [drop_at hx] at hd
    simp only [labsE, labE, thenE_assoc] at hd
    obtain ⟨q1, e1⟩ : ∃ q, clsB x.1 2 = q := ⟨_, rfl⟩
    obtain ⟨q2, e2⟩ : ∃ q, amongB x.2 0 999999999 = q := ⟨_, rfl⟩
    have e1' : isUpperB x.1 = q1 := e1
    rw [e1] at c1
    rw [e2] at c2
    rw [e1', e2] at hd
    have sW : Same U W := k1.trans k4
    repeat' first
     | refine Opl.val (op_ixaV h1 rfl rfl hix) rfl ?_
     | refine Opl.val (op_load rfl (ld_agg (Pt.cptr _ _ _) hvl)) rfl ?_
     | refine Opl.val op_alloc rfl ?_
     | refine Opl.eff (op_store rfl rfl st1) ?_
     | refine Opl.val (op_load rfl (ld_bx b4 (by assumption) _ rfl)) rfl ?_
     | refine Opl.callS (U0 := W) (by assumption) rfl (by kernel_rfl) c1 rfl (fun S8 k8 => ?_)
     | refine Opl.callS (U0 := W) (by assumption) rfl (by kernel_rfl) c2 rfl (fun S8 k8 => ?_)
     | refine op_gyes rfl ?_ rfl
     | refine .gn ?_
     | (refine Opl.gonTN rfl rfl (fun hq => ?_) (fun hq => ?_) <;> subst hq)
     | (refine Opl.gonFN rfl rfl (fun hq => ?_) (fun hq => ?_) <;> subst hq)
     | (refine Opl.gonT rfl rfl (fun hq => ?_) (fun hq => ?_) <;> subst hq)
     | (refine Opl.gonF rfl rfl (fun hq => ?_) (fun hq => ?_) <;> subst hq)
     | refine Go.condT rfl ?_
     | refine Go.condF rfl ?_
     | (refine Go.condN rfl (fun hq => ?_) (fun hq => ?_) <;> subst hq)
     | (refine Go.condV rfl (fun hq => ?_) (fun hq => ?_) <;> subst hq)
     | refine Opl.val (op_int rfl rfl rfl (inc_ok (i := i) (by omega))) rfl ?_
     | exact At.fnr rfl rfl rfl ⟨pack_n (by rw [hd]; rfl), (s0.trans sW).trans (by assumption)⟩
     | exact (IH (i + 1) _ _ (by omega) ⟨rfl, by omega, sW.trans (by assumption), by rw [hd]; rfl⟩).weaken ⟨rfl, rfl, rfl, rfl, trivial⟩
     | refine .std ?_ | refine .nil ?_ | refine .seq ?_ | refine .region ?_ | refine .xs ?_ | refine .kb ?_ | refine .leaf ?_ | refine .block ?_ | refine .gn ?_ | refine .dr ?_ | fail
  · subst hq
    have hq : (elems bv).length ≤ i := by have := of_decide_eq_false (by assumption : decide ((i : Int) < ((elems bv).length : Nat)) = false); omega
    have hnil : l.drop i = [] := List.drop_eq_nil_of_le (by rw [h3.1]; omega)
    rw [hnil] at hd
    have c2 := amongF tl (-1) 999999999
    obtain ⟨q2, e2⟩ : ∃ q, amongB tl (-1) 999999999 = q := ⟨_, rfl⟩
    rw [e2] at c2 hd
    repeat' first
     | refine Opl.val (op_load rfl (ld_bx bx k1 _ rfl)) rfl ?_
     | refine Opl.callS (U0 := U) k1 rfl (by kernel_rfl) c2 rfl (fun S8 k8 => ?_)
     | refine op_gyes rfl ?_ rfl
     | refine .gn ?_
     | (refine Opl.gonTN rfl rfl (fun hq => ?_) (fun hq => ?_) <;> subst hq)
     | (refine Opl.gonFN rfl rfl (fun hq => ?_) (fun hq => ?_) <;> subst hq)
     | (refine Opl.gonT rfl rfl (fun hq => ?_) (fun hq => ?_) <;> subst hq)
     | (refine Opl.gonF rfl rfl (fun hq => ?_) (fun hq => ?_) <;> subst hq)
     | refine Go.condT rfl ?_
     | refine Go.condF rfl ?_
     | (refine Go.condN rfl (fun hq => ?_) (fun hq => ?_) <;> subst hq)
     | (refine Go.condV rfl (fun hq => ?_) (fun hq => ?_) <;> subst hq)
     | exact At.fnr rfl rfl rfl ⟨pack_n (by rw [hd]; rfl), s0.trans (by assumption)⟩
     | refine .std ?_ | refine .nil ?_ | refine .seq ?_ | refine .region ?_ | refine .xs ?_ | refine .kb ?_ | refine .leaf ?_ | refine .block ?_ | refine .gn ?_ | refine .dr ?_ | fail

set_option maxHeartbeats 2000000 in
theorem builtinF (s : List UInt8) : PuQ Tryz.prog 189 [.str s] (fun v => ∃ k : Int, v = .tup [.int .i64 k, .bool (isBuiltinB s)]) := by
  intro S
  obtain ⟨q1, e1⟩ : ∃ q, decide (s = [73, 110, 116]) = q := ⟨_, rfl⟩
  obtain ⟨q2, e2⟩ : ∃ q, decide (s = [66, 111, 111, 108]) = q := ⟨_, rfl⟩
  obtain ⟨q3, e3⟩ : ∃ q, decide (s = [85, 110, 105, 116]) = q := ⟨_, rfl⟩
  have hr : isBuiltinB s = (q1 || q2 || q3) := by unfold isBuiltinB; rw [e1, e2, e3]
  rw [hr]
  refine CallTo.of (n := 11) Tryz.func189 rfl rfl ?_
  repeat' first
   | refine Opl.val (op_str rfl rfl (eql_s e1)) rfl ?_
   | refine Opl.val (op_str rfl rfl (eql_s e2)) rfl ?_
   | refine Opl.val (op_str rfl rfl (eql_s e3)) rfl ?_
   | refine op_gyes rfl ?_ rfl
   | refine .gn ?_
   | (refine Opl.gonTN rfl rfl (fun hq => ?_) (fun hq => ?_) <;> subst hq)
   | (refine Opl.gonFN rfl rfl (fun hq => ?_) (fun hq => ?_) <;> subst hq)
   | (refine Opl.gonT rfl rfl (fun hq => ?_) (fun hq => ?_) <;> subst hq)
   | (refine Opl.gonF rfl rfl (fun hq => ?_) (fun hq => ?_) <;> subst hq)
   | refine Go.condT rfl ?_
   | refine Go.condF rfl ?_
   | (refine Go.condN rfl (fun hq => ?_) (fun hq => ?_) <;> subst hq)
   | (refine Go.condV rfl (fun hq => ?_) (fun hq => ?_) <;> subst hq)
   | exact At.fnr rfl rfl rfl ⟨⟨_, rfl⟩, Same.refl S⟩
   | refine .std ?_ | refine .nil ?_ | refine .seq ?_ | refine .region ?_ | refine .xs ?_ | refine .kb ?_ | refine .leaf ?_ | refine .block ?_ | refine .gn ?_ | refine .dr ?_ | fail

end Go.Proofs.YtodiioeddlmjhaaGreatDoor
