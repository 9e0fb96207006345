import Derived.Test.YtodiioeddlmjhaaGreatDoorT4
set_option linter.unusedVariables false
set_option linter.unusedSimpArgs false
namespace Go.Proofs.YtodiioeddlmjhaaGreatDoor
open Go.RowKit Go.Ev
set_option maxRecDepth 100000
set_option linter.unusedVariables false
set_option linter.unusedSimpArgs false
attribute [local irreducible] Go.Ev.opE
set_option maxHeartbeats 16000000 in
theorem nodeTail {e : Ex} {nv lv av : V} (he : ExC e [.int .i64 e.kind, .int .i64 e.n, .str e.s, .str e.t, nv, lv, av]) (ha : isLn 9 av) (hal : (elems av).length ≤ 9223372036854775807) (e3 : e.arms.length = (elems av).length)
    {S W : St} {idE idS : Nat} (bx : Bx W idE 27 [.int .i64 e.kind, .int .i64 e.n, .str e.s, .str e.t, nv, lv, av]) {v0 v1 v2 v3 v4 v5 v7 v8 : V} {xa : Bool} (b1 : Bx W idS 214 [v0, v1, v2, v3, v4, v5, .bool xa, v7, v8]) (sW : Same S W)
    {d3 : Int} {z3 k11 ae : Bool} (g3 : armsE e.kind [] e.arms = d3) (h10 : (!decide (d3 = 0)) = z3) (h11 : decide (e.kind = 11) = k11) (h12 : decide (((elems av).length : Int) = 0) = ae)
    (hspec : nodeE e = if z3 then d3 else if !k11 && xa && ae then 7 else 0) (S8 : St) (k8 : Same W S8) :
    Go Tryz.prog ⟨132, [], .norm⟩ [(1, .ptr idE 0), (3, .ptr idS 0)] S8 (bodyT Tryz.f144 8) (Kf Tryz.prog Tryz.f144 (fun v S' => v = .int .i64 (nodeE e) ∧ Same S S') (fun _ _ => False)) := by
  repeat' first
   | refine Opl.val (op_load rfl (ld_bx bx k8 _ rfl)) rfl ?_
   | refine Opl.val (op_lenL rfl ha.isL rfl) rfl ?_
   | refine .std ?_ | refine .nil ?_ | refine .seq ?_ | refine .region ?_ | refine .xs ?_ | refine .kb ?_ | refine .leaf ?_ | refine .block ?_ | refine .gn ?_ | refine .dr ?_ | fail
  refine Go.weaken (E' := [(1, .ptr idE 0), (3, .ptr idS 0), (108, .int .i64 (elems av).length), (109, .int .i64 (0 : Nat))]) ?_ ⟨rfl, rfl, rfl, rfl, trivial⟩
  refine Go.loop_ind (α := Nat) (fun i => (elems av).length - i) (fun i E S' => E = [(1, .ptr idE 0), (3, .ptr idS 0), (108, .int .i64 (elems av).length), (109, .int .i64 i)] ∧ i ≤ (elems av).length ∧ Same W S' ∧ d3 = armsE e.kind ((e.arms.take i).map Ar.op) (e.arms.drop i)) ?_ 0 _ _ ⟨rfl, Nat.zero_le _, k8, g3.symm⟩
  rintro i E S9 ⟨rfl, hi, k9, hd⟩ IH
  repeat' first
   | refine Opl.fresh (op_int rfl rfl rfl rfl) rfl (fun q hq => ?_)
   | refine .std ?_ | refine .nil ?_ | refine .seq ?_ | refine .region ?_ | refine .xs ?_ | refine .kb ?_ | refine .leaf ?_ | refine .block ?_ | refine .gn ?_ | refine .dr ?_ | fail
  refine Go.cond rfl (fun hq => ?_) (fun hq => ?_)
  · subst hq
    have hq : i < (elems av).length := by have := of_decide_eq_true (by assumption : decide ((i : Int) < ((elems av).length : Nat)) = true); omega
    have hq2 : i < e.arms.length := by rw [e3]; exact hq
    have ca := armF he i hq2
    rw [armsE_step (List.getElem?_eq_getElem hq2) hq2] at hd
    obtain ⟨r, hr⟩ : ∃ r, armE e.kind ((e.arms.take i).map Ar.op) e.arms[i] = r := ⟨_, rfl⟩
    rw [hr] at ca hd
    obtain ⟨z, hz⟩ : ∃ q, (!decide (r = 0)) = q := ⟨_, rfl⟩
    have hcs : ([.int .i64 e.kind, .int .i64 e.n, .str e.s, .str e.t, nv, lv, av] : List V).length = 7 := rfl
    cases z
    case true =>
      have hr0 : r ≠ 0 := by simpa using hz
      have hd3 : d3 = r := by rw [hd]; exact if_neg hr0
      have hz3 : z3 = true := by rw [← h10, hd3]; exact hz
      rw [hz3, hd3] at hspec
      repeat' first
       | refine Opl.val (op_load rfl (ld_bxA bx k9 hcs)) rfl ?_
       | refine Opl.val (op_int rfl rfl rfl (neq_i hz)) rfl ?_
       | refine Opl.callS (U0 := W) (by assumption) rfl (by kernel_rfl) ca rfl (fun S8 k8 => ?_)
       | refine Go.condT rfl ?_
       | exact At.fnr rfl rfl rfl ⟨pack_n (by rw [hspec]; rfl), sW.trans (by assumption)⟩
       | refine .std ?_ | refine .nil ?_ | refine .seq ?_ | refine .region ?_ | refine .xs ?_ | refine .kb ?_ | refine .leaf ?_ | refine .block ?_ | refine .gn ?_ | refine .dr ?_ | fail
    case false =>
      have hr0 : r = 0 := by simpa using hz
      rw [hr0, thenE_zero] at hd
      repeat' first
       | refine Opl.val (op_load rfl (ld_bxA bx k9 hcs)) rfl ?_
       | refine Opl.val (op_int rfl rfl rfl (neq_i hz)) rfl ?_
       | refine Opl.callS (U0 := W) (by assumption) rfl (by kernel_rfl) ca rfl (fun S8 k8 => ?_)
       | refine Go.condF rfl ?_
       | refine Opl.val (op_int rfl rfl rfl (inc_ok (i := i) (by omega))) rfl ?_
       | exact (IH (i + 1) _ _ (by omega) ⟨rfl, by omega, by assumption, hd⟩).weaken ⟨rfl, rfl, rfl, rfl, trivial⟩
       | refine .std ?_ | refine .nil ?_ | refine .seq ?_ | refine .region ?_ | refine .xs ?_ | refine .kb ?_ | refine .leaf ?_ | refine .block ?_ | refine .gn ?_ | refine .dr ?_ | fail
  · subst hq
    have hq : (elems av).length ≤ i := by have := of_decide_eq_false (by assumption : decide ((i : Int) < ((elems av).length : Nat)) = false); omega
    have hnil : e.arms.drop i = [] := List.drop_eq_nil_of_le (by rw [e3]; omega)
    rw [hnil] at hd
    have hd3 : d3 = 0 := hd
    have hz3 : z3 = false := by rw [← h10, hd3]; rfl
    rw [hz3] at hspec
    simp only [Bool.false_eq_true, if_false] at hspec
    have hne : intOp .neq .i64 e.kind 11 = some (.bool (!k11)) := neq_i (by rw [h11])
    have heq : intOp .eql .i64 ((elems av).length : Int) 0 = some (.bool ae) := eql_i h12
    cases k11 <;> cases xa <;> cases ae <;> simp only [Bool.not_true, Bool.not_false, Bool.true_and, Bool.false_and, Bool.and_true, Bool.and_false, Bool.false_eq_true, if_false, if_true] at hspec hne
    all_goals
      repeat' first
       | refine Opl.val (op_load rfl (ld_bx bx k9 _ rfl)) rfl ?_
       | refine Opl.val (op_load rfl (ld_bx b1 k9 _ rfl)) rfl ?_
       | refine Opl.val (op_lenL rfl ha.isL rfl) rfl ?_
       | refine Opl.val (op_int rfl rfl rfl hne) rfl ?_
       | refine Opl.val (op_int rfl rfl rfl heq) rfl ?_
       | refine op_gyes rfl ?_ rfl
       | refine .gn ?_
       | refine Go.condT rfl ?_
       | refine Go.condF rfl ?_
       | exact At.fnr rfl rfl rfl ⟨pack_n hspec.symm, sW.trans k9⟩
       | refine .std ?_ | refine .nil ?_ | refine .seq ?_ | refine .region ?_ | refine .xs ?_ | refine .kb ?_ | refine .leaf ?_ | refine .block ?_ | refine .gn ?_ | refine .dr ?_ | fail
end Go.Proofs.YtodiioeddlmjhaaGreatDoor
