import Derived.Test.YtodiioeddlmjhaaGreatDoorV6
set_option linter.unusedVariables false
set_option linter.unusedSimpArgs false
namespace Go.Proofs.YtodiioeddlmjhaaGreatDoor
open Go.RowKit Go.Ev
set_option maxRecDepth 100000
set_option linter.unusedVariables false
set_option linter.unusedSimpArgs false
attribute [local irreducible] Go.Ev.opE
def PcV (id : Nat) (w : List UInt8) (v : V) : Prop := (v = .iface 9 (.str w) ∧ w.length ≤ huge) ∨ ∃ cs, v = .iface 27 (.agg cs) ∧ cs.length = 7 ∧ cs.all V.one = true ∧ Prc 50 [.ptr id 0, .agg cs] id w
theorem as1 (w : List UInt8) : assertE Tryz.prog (.iface 9 (.str w)) 9 true = some (.tup [.str w, .bool true]) := by kernel_rfl
theorem as2 (cs : List V) : assertE Tryz.prog (.iface 27 (.agg cs)) 9 true = some (.tup [.str [], .bool false]) := by kernel_rfl
theorem as3 (cs : List V) : assertE Tryz.prog (.iface 27 (.agg cs)) 27 true = some (.tup [.agg cs, .bool true]) := by kernel_rfl
theorem bsA2 (a : List UInt8) (cs : List V) : buildSliceE Tryz.prog 202 2 [(0, .iface 9 (.str a)), (1, .iface 27 (.agg cs))] = some (.list (some 20) 1 [.iface 9 (.str a), .iface 27 (.agg cs)] .exact) := by kernel_rfl
theorem bsA4 (a : List UInt8) (cs : List V) (c : List UInt8) (ds : List V) : buildSliceE Tryz.prog 202 4 [(0, .iface 9 (.str a)), (1, .iface 27 (.agg cs)), (2, .iface 9 (.str c)), (3, .iface 27 (.agg ds))] = some (.list (some 20) 1 [.iface 9 (.str a), .iface 27 (.agg cs), .iface 9 (.str c), .iface 27 (.agg ds)] .exact) := by kernel_rfl
set_option maxHeartbeats 8000000 in
theorem wordsF (id : Nat) {w0 w1 : List UInt8} {cs0 : List V} (hc0 : cs0.length = 7) (h0 : w0.length ≤ huge) (c1 : Prc 50 [.ptr id 0, .agg cs0] id w1) {ws : List (List UInt8)} {mv : V} (hml : isLn 1 mv) (hmll : (elems mv).length ≤ huge) (hmA : All2 (PcV id) ws (elems mv)) :
    Prc 103 [.ptr id 0, .str w0, .agg cs0, mv] id (w0 ++ w1 ++ ws.flatten) := by
  intro S s hp _ hlen
  have hmll : (elems mv).length ≤ 9223372036854775807 := hmll
  obtain ⟨U, hU, b0, ks, p0⟩ := box_ex hp cs0
  have k0 : KeepB U U id := KeepB.refl U id
  have f1 := put1F id (lt := some 9) (tk := .exact) (a := w0) h0
  simp only [List.length_append] at hlen
  refine CallTo.of (n := 40) Tryz.func103 rfl rfl ?_
  repeat' first
   | refine Opl.val (op_box rfl) rfl (Opl.cast (S' := U) ?_ hU)
   | refine Opl.val (op_load rfl (ld_pA b0 (by assumption) hc0)) rfl ?_
   | refine Opl.val (op_bsG rfl (bs1 _)) rfl ?_
   | refine Opl.callP (U0 := U) (by assumption) (by assumption) rfl (by kernel_rfl) f1 trivial (by omega) rfl (fun v S2 p2 k2 => ?_)
   | refine Opl.callP (U0 := U) (by assumption) (by assumption) rfl (by kernel_rfl) c1 trivial (by simp only [List.length_append]; omega) rfl (fun v S3 p3 k3 => ?_)
   | refine Opl.val (op_lenL rfl hml.isL rfl) rfl ?_
   | refine .std ?_ | refine .nil ?_ | refine .seq ?_ | refine .region ?_ | refine .xs ?_ | refine .kb ?_ | refine .leaf ?_ | refine .block ?_ | refine .gn ?_ | refine .dr ?_ | fail
  refine Go.weaken (E' := [(0, .ptr id 0), (19, mv), (20, .int .i64 (elems mv).length), (21, .int .i64 (0 : Nat))]) ?_ ⟨rfl, rfl, rfl, rfl, trivial⟩
  refine Go.loop_ind (α := Nat) (fun i => (elems mv).length - i) (fun i E S' => E = [(0, .ptr id 0), (19, mv), (20, .int .i64 (elems mv).length), (21, .int .i64 i)] ∧ i ≤ (elems mv).length ∧ Prz S' id (s ++ w0 ++ w1 ++ (ws.take i).flatten) ∧ KeepB U S' id) ?_ 0 _ _ ⟨rfl, Nat.zero_le _, Prn.eq (by assumption) (by simp), by assumption⟩
  rintro i E S3 ⟨rfl, hi, p3, k3⟩ IH
  repeat' first
   | refine Opl.fresh (op_int rfl rfl rfl rfl) rfl (fun q hq => ?_)
   | refine .std ?_ | refine .nil ?_ | refine .seq ?_ | refine .region ?_ | refine .xs ?_ | refine .kb ?_ | refine .leaf ?_ | refine .block ?_ | refine .gn ?_ | refine .dr ?_ | fail
  refine Go.cond rfl (fun hq => ?_) (fun hq => ?_)
  · subst hq
    have hq : i < (elems mv).length := by have := of_decide_eq_true (by assumption : decide ((i : Int) < ((elems mv).length : Nat)) = true); omega
    obtain ⟨x, v, hx, hix, hv, hm⟩ := hmA.at hq
    have hst := flatten_step hx
    have hle := flatten_le ws (i + 1)
    rw [hst, List.length_append] at hle
    rcases hv with ⟨rfl, hxl⟩ | ⟨cs, rfl, hcl, hone, cx⟩
    · have f3 := put1F id (lt := some 9) (tk := .exact) (a := x) hxl
      repeat' first
       | refine Opl.val (op_ixaV hml rfl rfl hix) rfl ?_
       | refine Opl.val (op_load rfl (ld_one (Pt.cptr _ _ _))) rfl ?_
       | refine Opl.val (op_asT rfl (as1 _)) rfl ?_
       | refine Opl.val (op_bsG rfl (bs1 _)) rfl ?_
       | refine Opl.callP (U0 := U) p3 k3 rfl (by kernel_rfl) f3 trivial (by simp only [List.length_append]; omega) rfl (fun v S5 p5 k5 => ?_)
       | refine Opl.val (op_int rfl rfl rfl (inc_ok (i := i) (by omega))) rfl ?_
       | refine Go.condT rfl ?_
       | refine Go.condF rfl ?_
       | refine .std ?_ | refine .nil ?_ | refine .seq ?_ | refine .region ?_ | refine .xs ?_ | refine .kb ?_ | refine .leaf ?_ | refine .block ?_ | refine .gn ?_ | refine .dr ?_ | fail
      exact (IH (i + 1) _ _ (by omega) ⟨rfl, by omega, Prn.eq p5 (by rw [hst]; simp only [List.append_assoc]), k5⟩).weaken ⟨rfl, rfl, rfl, rfl, trivial⟩
    · obtain ⟨W, st1, b1, k4⟩ := lay (P := Tryz.prog) (T := 27) [.int .i64 0, .int .i64 0, .str [], .str [], .nils, .nils, .nils] S3 hcl hone
      have hne1 : S3.next ≠ id := by have := p3.lt; omega
      have b2 := Bp.of b1 hne1
      have kW : KeepB W W id := KeepB.refl W id
      have pW := p3.same k4
      have kUW : KeepB U W id := k3.then k4
      repeat' first
       | refine Opl.val (op_ixaV hml rfl rfl hix) rfl ?_
       | refine Opl.val (op_load rfl (ld_one (Pt.cptr _ _ _))) rfl ?_
       | refine Opl.val (op_asT rfl (as2 _)) rfl ?_
       | refine Opl.val (op_asT rfl (as3 _)) rfl ?_
       | refine Opl.val op_alloc rfl ?_
       | refine Opl.eff (op_store rfl rfl st1) ?_
       | refine Opl.val (op_load rfl (ld_pA b2 (by assumption) hcl)) rfl ?_
       | refine Opl.callP (U0 := W) pW kW rfl (by kernel_rfl) cx trivial (by simp only [List.length_append]; omega) rfl (fun v S5 p5 k5 => ?_)
       | refine Opl.val (op_int rfl rfl rfl (inc_ok (i := i) (by omega))) rfl ?_
       | refine Go.condT rfl ?_
       | refine Go.condF rfl ?_
       | refine .std ?_ | refine .nil ?_ | refine .seq ?_ | refine .region ?_ | refine .xs ?_ | refine .kb ?_ | refine .leaf ?_ | refine .block ?_ | refine .gn ?_ | refine .dr ?_ | fail
      exact (IH (i + 1) _ _ (by omega) ⟨rfl, by omega, Prn.eq p5 (by rw [hst]; simp only [List.append_assoc]), kUW.trans k5⟩).weaken ⟨rfl, rfl, rfl, rfl, trivial⟩
  · subst hq
    have hq : (elems mv).length ≤ i := by have := of_decide_eq_false (by assumption : decide ((i : Int) < ((elems mv).length : Nat)) = false); omega
    have hnil : ws.take i = ws := List.take_of_length_le (by rw [hmA.1]; omega)
    rw [hnil] at p3
    repeat' first | refine .std ?_ | refine .nil ?_ | refine .seq ?_ | refine .region ?_ | refine .xs ?_ | refine .kb ?_ | refine .leaf ?_ | refine .block ?_ | refine .gn ?_ | refine .dr ?_ | fail
    exact At.fn rfl rfl rfl ⟨Prn.eq p3 (by simp only [List.append_assoc]), ks.trans k3⟩
end Go.Proofs.YtodiioeddlmjhaaGreatDoor
