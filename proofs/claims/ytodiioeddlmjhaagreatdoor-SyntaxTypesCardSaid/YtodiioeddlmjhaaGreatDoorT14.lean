/-
  Types, by the reference: all nodes; the parts of one.
-/
import Derived.Test.YtodiioeddlmjhaaGreatDoorT13
set_option linter.unusedVariables false
set_option linter.unusedSimpArgs false
namespace Go.Proofs.YtodiioeddlmjhaaGreatDoor
open Go.RowKit Go.Ev
set_option maxRecDepth 100000
set_option linter.unusedVariables false
set_option linter.unusedSimpArgs false
attribute [local irreducible] Go.Ev.opE

set_option maxHeartbeats 4000000 in
theorem refTail {t : Ty} {cs : List V} {lv : V} (hcs : cs[3]? = some lv) (hl : isLn 6 lv) (hll : (elems lv).length ≤ 9223372036854775807) (hL : All2 TyV t.l (elems lv)) (hrec : ∀ x ∈ t.l, ∀ v, TyV x v → Pu Tryz.prog 73 [.agg v.cells] (.int .i64 (tnodesE x)))
    {S U : St} {id : Nat} (bx : Bx U id 46 cs) (s0 : Same S U) (S1 : St) (k1 : Same U S1) {r : Int} (hr : tnodesLE t.l = r) :
    Go Tryz.prog ⟨125, [], .norm⟩ [(1, .ptr id 0)] S1 (bodyT Tryz.f73 9) (Kf Tryz.prog Tryz.f73 (fun v S' => v = .int .i64 r ∧ Same S S') (fun _ _ => False)) := by
  repeat' first | refine .std ?_ | refine .nil ?_ | refine .seq ?_ | refine .region ?_ | refine .xs ?_ | refine .kb ?_ | refine .leaf ?_ | refine .block ?_ | refine .gn ?_ | refine .dr ?_ | fail
  refine Go.weaken (E' := [(1, .ptr id 0), (5, .int .i64 (0 : Nat))]) ?_ ⟨rfl, rfl, trivial⟩
  refine Go.loop_ind (α := Nat) (fun i => (elems lv).length - i) (fun i E S' => E = [(1, .ptr id 0), (5, .int .i64 i)] ∧ i ≤ (elems lv).length ∧ Same U S' ∧ r = tnodesLE (t.l.drop i)) ?_ 0 _ _ ⟨rfl, Nat.zero_le _, k1, hr.symm⟩
  rintro i E S2 ⟨rfl, hi, k2, hd⟩ IH
  by_cases hq : i < (elems lv).length
  · have e1 : decide ((i : Int) < ((elems lv).length : Nat)) = true := decide_eq_true (by omega)
    obtain ⟨x, v, hx, hix, hv, hm⟩ := hL.at hq
    have hxx := hrec x hm v hv
    rw [drop_at hx] at hd
    simp only [tnodesLE] at hd
    obtain ⟨e, he⟩ : ∃ e, tnodesE x = e := ⟨_, rfl⟩
    rw [he] at hd hxx
    obtain ⟨z, hz⟩ : ∃ q, (!decide (e = 0)) = q := ⟨_, rfl⟩
    cases z
    case true =>
      have hne : e ≠ 0 := by simpa using hz
      rw [thenE_ne hne] at hd
      repeat' first
       | refine Opl.val (op_load rfl (ld_bx bx k2 _ hcs)) rfl ?_
       | refine Opl.val (op_lenL rfl hl.isL rfl) rfl ?_
       | refine Opl.val (op_ixaV hl rfl rfl hix) rfl ?_
       | refine Opl.val (op_load rfl (ld_agg (Pt.cptr _ _ _) (TyC.len6 hv))) rfl ?_
       | refine Opl.val (op_int rfl rfl rfl (lss_i e1)) rfl ?_
       | refine Opl.val (op_int rfl rfl rfl (neq_i hz)) rfl ?_
       | refine Opl.callS (U0 := U) (by assumption) rfl (by kernel_rfl) hxx rfl (fun S8 k8 => ?_)
       | refine Go.condT rfl ?_
       | exact At.fnr rfl rfl rfl ⟨pack_n hd.symm, s0.trans (by assumption)⟩
       | refine .std ?_ | refine .nil ?_ | refine .seq ?_ | refine .region ?_ | refine .xs ?_ | refine .kb ?_ | refine .leaf ?_ | refine .block ?_ | refine .gn ?_ | refine .dr ?_ | fail
    case false =>
      have he0 : e = 0 := by simpa using hz
      rw [he0, thenE_zero] at hd
      repeat' first
       | refine Opl.val (op_load rfl (ld_bx bx k2 _ hcs)) rfl ?_
       | refine Opl.val (op_lenL rfl hl.isL rfl) rfl ?_
       | refine Opl.val (op_ixaV hl rfl rfl hix) rfl ?_
       | refine Opl.val (op_load rfl (ld_agg (Pt.cptr _ _ _) (TyC.len6 hv))) rfl ?_
       | refine Opl.val (op_int rfl rfl rfl (lss_i e1)) rfl ?_
       | refine Opl.val (op_int rfl rfl rfl (neq_i hz)) rfl ?_
       | refine Opl.callS (U0 := U) (by assumption) rfl (by kernel_rfl) hxx rfl (fun S8 k8 => ?_)
       | refine Go.condT rfl ?_
       | refine Go.condF rfl ?_
       | refine Opl.val (op_int rfl rfl rfl (inc_ok (i := i) (by omega))) rfl ?_
       | exact (IH (i + 1) _ _ (by omega) ⟨rfl, by omega, by assumption, hd⟩).weaken ⟨rfl, rfl, trivial⟩
       | refine .std ?_ | refine .nil ?_ | refine .seq ?_ | refine .region ?_ | refine .xs ?_ | refine .kb ?_ | refine .leaf ?_ | refine .block ?_ | refine .gn ?_ | refine .dr ?_ | fail
  · have e1 : decide ((i : Int) < ((elems lv).length : Nat)) = false := decide_eq_false (by omega)
    have hnil : t.l.drop i = [] := List.drop_eq_nil_of_le (by rw [hL.1]; omega)
    rw [hnil] at hd
    have hd : r = 0 := hd
    repeat' first
     | refine Opl.val (op_load rfl (ld_bx bx k2 _ hcs)) rfl ?_
     | refine Opl.val (op_lenL rfl hl.isL rfl) rfl ?_
     | refine Opl.val (op_int rfl rfl rfl (lss_i e1)) rfl ?_
     | refine Go.condF rfl ?_
     | exact At.fnr rfl rfl rfl ⟨pack_n hd.symm, s0.trans k2⟩
     | refine .std ?_ | refine .nil ?_ | refine .seq ?_ | refine .region ?_ | refine .xs ?_ | refine .kb ?_ | refine .leaf ?_ | refine .block ?_ | refine .gn ?_ | refine .dr ?_ | fail

end Go.Proofs.YtodiioeddlmjhaaGreatDoor
