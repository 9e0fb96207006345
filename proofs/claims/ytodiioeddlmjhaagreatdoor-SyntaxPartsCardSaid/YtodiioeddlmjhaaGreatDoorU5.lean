import Derived.Test.YtodiioeddlmjhaaGreatDoorU4
set_option linter.unusedVariables false
set_option linter.unusedSimpArgs false
namespace Go.Proofs.YtodiioeddlmjhaaGreatDoor
open Go.RowKit Go.Ev
set_option maxRecDepth 100000
set_option linter.unusedVariables false
set_option linter.unusedSimpArgs false
attribute [local irreducible] Go.Ev.opE
theorem bs1 (a : List UInt8) : buildSliceE Tryz.prog 23 1 [(0, .str a)] = some (.list (some 9) 1 [.str a] .exact) := by kernel_rfl
theorem bs2 (a b : List UInt8) : buildSliceE Tryz.prog 23 2 [(0, .str a), (1, .str b)] = some (.list (some 9) 1 [.str a, .str b] .exact) := by kernel_rfl
set_option maxHeartbeats 4000000 in
theorem listF (id : Nat) {by_ : List UInt8} (hby : by_.length ≤ huge) {ws : List (List UInt8)} (hws : ws.length ≤ huge) {g : FuncId} {caps : List V} (hb : hasBody Tryz.prog g = true) {I : St → Prop} (hI : ∀ S S', I S → KeepB S S' id → I S')
    (hf : ∀ i w, ws[i]? = some w → Pri g (.int .i64 (i : Nat) :: caps) id I w) : Pri 171 [.ptr id 0, .int .i64 (ws.length : Nat), .str by_, .func g [] caps] id I (joinW by_ ws) := by
  intro S s hp hIS hlen
  have hws : ws.length ≤ 9223372036854775807 := hws
  have c1 := put1F id (lt := some 9) (tk := .exact) hby
  refine CallTo.of (n := 23) Tryz.func171 rfl rfl ?_
  repeat' first | refine .std ?_ | refine .nil ?_ | refine .seq ?_ | refine .region ?_ | refine .xs ?_ | refine .kb ?_ | refine .leaf ?_ | refine .block ?_ | refine .gn ?_ | refine .dr ?_ | fail
  refine Go.weaken (E' := [(0, .ptr id 0), (2, .str by_), (3, .func g [] caps), (9, .int .i64 (ws.length : Nat)), (10, .int .i64 (0 : Nat))]) ?_ ⟨rfl, rfl, rfl, rfl, rfl, trivial⟩
  refine Go.loop_ind (α := Nat) (fun i => ws.length - i) (fun i E S' => E = [(0, .ptr id 0), (2, .str by_), (3, .func g [] caps), (9, .int .i64 (ws.length : Nat)), (10, .int .i64 i)] ∧ i ≤ ws.length ∧ Prz S' id (s ++ joinW by_ (ws.take i)) ∧ KeepB S S' id) ?_ 0 _ _ ⟨rfl, Nat.zero_le _, by simpa [joinW] using hp, KeepB.refl S id⟩
  rintro i E S1 ⟨rfl, hi, p1, k1⟩ IH
  repeat' first
   | refine Opl.fresh (op_int rfl rfl rfl rfl) rfl (fun q hq => ?_)
   | refine .std ?_ | refine .nil ?_ | refine .seq ?_ | refine .region ?_ | refine .xs ?_ | refine .kb ?_ | refine .leaf ?_ | refine .block ?_ | refine .gn ?_ | refine .dr ?_ | fail
  refine Go.cond rfl (fun hq => ?_) (fun hq => ?_)
  · subst hq
    have hq : i < ws.length := by have := of_decide_eq_true (by assumption : decide ((i : Int) < (ws.length : Nat)) = true); omega
    have hx : ws[i]? = some ws[i] := List.getElem?_eq_getElem hq
    generalize ws[i] = x at hx
    have hj := joinW_take (by_ := by_) hx
    have hle : s.length + (joinW by_ (ws.take (i + 1))).length ≤ 1099511627776 := by have := joinW_le by_ ws (i + 1); omega
    rw [hj] at hle
    have c2 := hf i x hx
    by_cases h0 : i = 0
    · subst h0
      simp only [if_true, List.length_append, List.length_nil] at hle
      repeat' first
       | refine Opl.val (op_int rfl rfl rfl (gtr_i (q := false) (decide_eq_false (by decide)))) rfl ?_
       | refine Go.condF rfl ?_
       | refine Opl.callP (U0 := S) p1 k1 rfl hb c2 (hI _ _ hIS k1) (by simp only [List.length_append]; omega) rfl (fun v S2 p2 k2 => ?_)
       | refine Opl.val (op_int rfl rfl rfl (inc_ok (i := 0) (by decide))) rfl ?_
       | refine .std ?_ | refine .nil ?_ | refine .seq ?_ | refine .region ?_ | refine .xs ?_ | refine .kb ?_ | refine .leaf ?_ | refine .block ?_ | refine .gn ?_ | refine .dr ?_ | fail
      exact (IH 1 _ S2 (by omega) ⟨rfl, by omega, p2.eq (by rw [hj]; simp), k2⟩).weaken ⟨rfl, rfl, rfl, rfl, rfl, trivial⟩
    · simp only [if_neg h0, List.length_append] at hle
      repeat' first
       | refine Opl.val (op_int rfl rfl rfl (gtr_i (q := true) (decide_eq_true (by omega)))) rfl ?_
       | refine Go.condT rfl ?_
       | refine Opl.val (op_bsG rfl (bs1 _)) rfl ?_
       | refine Opl.callP (U0 := S) p1 k1 rfl (by kernel_rfl) c1 trivial (by simp only [List.length_append]; omega) rfl (fun v S2 p2 k2 => ?_)
       | refine Opl.callP (U0 := S) p2 k2 rfl hb c2 (hI _ _ hIS k2) (by simp only [List.length_append]; omega) rfl (fun v S3 p3 k3 => ?_)
       | refine Opl.val (op_int rfl rfl rfl (inc_ok (i := i) (by omega))) rfl ?_
       | refine .std ?_ | refine .nil ?_ | refine .seq ?_ | refine .region ?_ | refine .xs ?_ | refine .kb ?_ | refine .leaf ?_ | refine .block ?_ | refine .gn ?_ | refine .dr ?_ | fail
      exact (IH (i + 1) _ S3 (by omega) ⟨rfl, by omega, p3.eq (by rw [hj, if_neg h0]; simp), k3⟩).weaken ⟨rfl, rfl, rfl, rfl, rfl, trivial⟩
  · subst hq
    have hq : ws.length ≤ i := by have := of_decide_eq_false (by assumption : decide ((i : Int) < (ws.length : Nat)) = false); omega
    have hnil : ws.take i = ws := List.take_of_length_le hq
    rw [hnil] at p1
    repeat' first | refine .std ?_ | refine .nil ?_ | refine .seq ?_ | refine .region ?_ | refine .xs ?_ | refine .kb ?_ | refine .leaf ?_ | refine .block ?_ | refine .gn ?_ | refine .dr ?_ | fail
    exact At.fn rfl rfl rfl ⟨p1, k1⟩
end Go.Proofs.YtodiioeddlmjhaaGreatDoor
