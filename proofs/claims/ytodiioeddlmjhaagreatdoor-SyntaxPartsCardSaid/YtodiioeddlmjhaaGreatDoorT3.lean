import Derived.Test.YtodiioeddlmjhaaGreatDoorT2
set_option linter.unusedVariables false
set_option linter.unusedSimpArgs false
namespace Go.Proofs.YtodiioeddlmjhaaGreatDoor
open Go.RowKit Go.Ev
set_option maxRecDepth 100000
set_option linter.unusedVariables false
set_option linter.unusedSimpArgs false
attribute [local irreducible] Go.Ev.opE
set_option maxHeartbeats 2000000 in
theorem indexS {l : List (List UInt8)} {nv : V} (h : StrsV l nv) (s : List UInt8) : PuQ Tryz.prog 210 [nv, .str s] (fun v => ∃ r : Int, v = .int .i64 r ∧ decide (r ≥ 0) = l.contains s) := by
  obtain ⟨h1, h2, h3⟩ := h
  have h2 : (elems nv).length ≤ 9223372036854775807 := h2
  intro S
  refine CallTo.of (n := 19) Tryz.func210 rfl rfl ?_
  repeat' first
   | refine Opl.val (op_lenL rfl h1.isL rfl) rfl ?_
   | refine .std ?_ | refine .nil ?_ | refine .seq ?_ | refine .region ?_ | refine .xs ?_ | refine .kb ?_ | refine .leaf ?_ | refine .block ?_ | refine .gn ?_ | refine .dr ?_ | fail
  refine Go.weaken (E' := [(0, nv), (1, .str s), (7, .int .i64 (elems nv).length), (8, .int .i64 (0 : Nat))]) ?_ ⟨rfl, rfl, rfl, rfl, trivial⟩
  refine Go.loop_ind (α := Nat) (fun i => (elems nv).length - i) (fun i E S' => E = [(0, nv), (1, .str s), (7, .int .i64 (elems nv).length), (8, .int .i64 i)] ∧ i ≤ (elems nv).length ∧ Same S S' ∧ l.contains s = (l.drop i).contains s) ?_ 0 _ _ ⟨rfl, Nat.zero_le _, Same.refl _, rfl⟩
  rintro i E S1 ⟨rfl, hi, k1, hc⟩ IH
  repeat' first
   | refine Opl.fresh (op_int rfl rfl rfl rfl) rfl (fun q hq => ?_)
   | refine .std ?_ | refine .nil ?_ | refine .seq ?_ | refine .region ?_ | refine .xs ?_ | refine .kb ?_ | refine .leaf ?_ | refine .block ?_ | refine .gn ?_ | refine .dr ?_ | fail
  refine Go.cond rfl (fun hq => ?_) (fun hq => ?_)
  · subst hq
    have hq : i < (elems nv).length := by have := of_decide_eq_true (by assumption : decide ((i : Int) < ((elems nv).length : Nat)) = true); omega
    obtain ⟨x, v, hx, hix, ⟨hv, hs⟩, _⟩ := h3.at hq
    have hpt : Pt S1 (.cptr none v.cells 0) [.str x] := by rw [hv]; exact Pt.cptr _ _ _
    rw [contains_step hx] at hc
    obtain ⟨q, he⟩ : ∃ q, decide (s = x) = q := ⟨_, rfl⟩
    rw [he] at hc
    repeat' first
     | refine Opl.val (op_ixaV h1 rfl rfl hix) rfl ?_
     | refine Opl.val (op_str rfl rfl (eql_s he)) rfl ?_
     | refine .std ?_ | refine .nil ?_ | refine .seq ?_ | refine .region ?_ | refine .xs ?_ | refine .kb ?_ | refine .leaf ?_ | refine .block ?_ | refine .gn ?_ | refine .dr ?_ | fail
    cases q with
    | true =>
      repeat' first
       | refine Go.condT rfl ?_
       | refine .std ?_ | refine .nil ?_ | refine .seq ?_ | refine .region ?_ | refine .xs ?_ | refine .kb ?_ | refine .leaf ?_ | refine .block ?_ | refine .gn ?_ | refine .dr ?_ | fail
      exact At.fnr rfl rfl rfl ⟨⟨_, rfl, by rw [hc]; simp⟩, k1⟩
    | false =>
      repeat' first
       | refine Go.condF rfl ?_
       | refine Opl.val (op_int rfl rfl rfl (inc_ok (i := i) (by omega))) rfl ?_
       | refine .std ?_ | refine .nil ?_ | refine .seq ?_ | refine .region ?_ | refine .xs ?_ | refine .kb ?_ | refine .leaf ?_ | refine .block ?_ | refine .gn ?_ | refine .dr ?_ | fail
      exact (IH (i + 1) _ S1 (by omega) ⟨rfl, by omega, k1, by rw [hc]; simp⟩).weaken ⟨rfl, rfl, rfl, rfl, trivial⟩
  · subst hq
    have hq : (elems nv).length ≤ i := by have := of_decide_eq_false (by assumption : decide ((i : Int) < ((elems nv).length : Nat)) = false); omega
    have hnil : l.drop i = [] := List.drop_eq_nil_of_le (by rw [h3.1]; omega)
    rw [hnil] at hc
    repeat' first | refine .std ?_ | refine .nil ?_ | refine .seq ?_ | refine .region ?_ | refine .xs ?_ | refine .kb ?_ | refine .leaf ?_ | refine .block ?_ | refine .gn ?_ | refine .dr ?_ | fail
    exact At.fnr rfl rfl rfl ⟨⟨_, rfl, by rw [hc]; rfl⟩, k1⟩
theorem containsS {l : List (List UInt8)} {nv : V} (h : StrsV l nv) (s : List UInt8) : Pu Tryz.prog 191 [nv, .str s] (.bool (l.contains s)) := by
  intro S
  have k0 : Same S S := Same.refl S
  refine CallTo.of (n := 9) Tryz.func191 rfl rfl ?_
  repeat' first
   | (refine Opl.callQ (by assumption) rfl (by kernel_rfl) (indexS h s) rfl (fun v S1 hv k1 => ?_); obtain ⟨r, rfl, hr⟩ := hv)
   | refine Opl.val (op_int rfl rfl rfl (geq_i (by assumption))) rfl ?_
   | exact At.fnr rfl rfl rfl ⟨rfl, by assumption⟩
   | refine .std ?_ | refine .nil ?_ | refine .seq ?_ | refine .region ?_ | refine .xs ?_ | refine .kb ?_ | refine .leaf ?_ | refine .block ?_ | refine .gn ?_ | refine .dr ?_ | fail
set_option maxHeartbeats 4000000 in
theorem distinctF {l : List (List UInt8)} {nv : V} (h : StrsV l nv) (hls : ∀ s ∈ l, s.length ≤ huge) (n : Nat) (hn : n < 4) : Pu Tryz.prog 138 [nv, .int .i64 n] (.int .i64 (distE n [] l)) := by
  have h0 := h
  obtain ⟨h1, h2, h3⟩ := h
  have h2 : (elems nv).length ≤ 9223372036854775807 := h2
  intro S
  refine CallTo.of (n := 26) Tryz.func138 rfl rfl ?_
  repeat' first
   | refine Opl.val (op_lenL rfl h1.isL rfl) rfl ?_
   | refine .std ?_ | refine .nil ?_ | refine .seq ?_ | refine .region ?_ | refine .xs ?_ | refine .kb ?_ | refine .leaf ?_ | refine .block ?_ | refine .gn ?_ | refine .dr ?_ | fail
  refine Go.weaken (E' := [(0, nv), (1, .int .i64 n), (7, nv), (8, .int .i64 (elems nv).length), (9, .int .i64 (0 : Nat))]) ?_ ⟨rfl, rfl, rfl, rfl, rfl, trivial⟩
  refine Go.loop_ind (α := Nat) (fun i => (elems nv).length - i) (fun i E S' => E = [(0, nv), (1, .int .i64 n), (7, nv), (8, .int .i64 (elems nv).length), (9, .int .i64 i)] ∧ i ≤ (elems nv).length ∧ Same S S' ∧ distE n [] l = distE n (l.take i) (l.drop i)) ?_ 0 _ _ ⟨rfl, Nat.zero_le _, Same.refl _, rfl⟩
  rintro i E S1 ⟨rfl, hi, k1, hd⟩ IH
  repeat' first
   | refine Opl.fresh (op_int rfl rfl rfl rfl) rfl (fun q hq => ?_)
   | refine .std ?_ | refine .nil ?_ | refine .seq ?_ | refine .region ?_ | refine .xs ?_ | refine .kb ?_ | refine .leaf ?_ | refine .block ?_ | refine .gn ?_ | refine .dr ?_ | fail
  refine Go.cond rfl (fun hq => ?_) (fun hq => ?_)
  · subst hq
    have hq : i < (elems nv).length := by have := of_decide_eq_true (by assumption : decide ((i : Int) < ((elems nv).length : Nat)) = true); omega
    obtain ⟨x, v, hx, hix, ⟨hv, hs⟩, hm⟩ := h3.at hq
    have hpt : Pt S1 (.cptr none v.cells 0) [.str x] := by rw [hv]; exact Pt.cptr _ _ _
    have c1 := isF x hs n hn
    obtain ⟨mv, hmv, hsv⟩ := strs_take (P := Tryz.prog) (T := 23) ElT.h SzN.h h0 i hi
    have c2 := containsS hsv x
    have htk : l.take (i + 1) = l.take i ++ [x] := by
      obtain ⟨hlt, hxe⟩ := List.getElem?_eq_some_iff.1 hx
      rw [List.take_succ_eq_append_getElem hlt, hxe]
    rw [drop_at hx] at hd
    simp only [distE] at hd
    obtain ⟨q1, e1⟩ : ∃ q, clsB x n = q := ⟨_, rfl⟩
    obtain ⟨q2, e2⟩ : ∃ q, (l.take i).contains x = q := ⟨_, rfl⟩
    rw [e1] at c1
    rw [e2] at c2
    rw [e1, e2, ← htk] at hd
    repeat' first
     | refine Opl.val (op_ixaV h1 rfl rfl hix) rfl ?_
     | refine Opl.val (op_slH rfl rfl hmv) rfl ?_
     | refine Opl.callS (by assumption) rfl (by kernel_rfl) c1 rfl (fun S4 k4 => ?_)
     | refine Opl.callS (by assumption) rfl (by kernel_rfl) c2 rfl (fun S4 k4 => ?_)
     | refine Opl.val (op_int rfl rfl rfl (inc_ok (i := i) (by omega))) rfl ?_
     | refine op_gyes rfl ?_ rfl
     | refine .gn ?_
     | (refine Opl.gonTN rfl rfl (fun hq => ?_) (fun hq => ?_) <;> subst hq)
     | (refine Opl.gonFN rfl rfl (fun hq => ?_) (fun hq => ?_) <;> subst hq)
     | (refine Opl.gonT rfl rfl (fun hq => ?_) (fun hq => ?_) <;> subst hq)
     | (refine Opl.gonF rfl rfl (fun hq => ?_) (fun hq => ?_) <;> subst hq)
     | refine Go.condT rfl ?_
     | refine Go.condF rfl ?_
     | (refine Go.condN rfl (fun hq => ?_) (fun hq => ?_) <;> subst hq)
     | (refine Go.condV rfl (fun hq => ?_) (fun hq => ?_) <;> subst hq)
     | exact At.fnr rfl rfl rfl ⟨pack_n (by rw [hd]; rfl), by assumption⟩
     | exact (IH (i + 1) _ _ (by omega) ⟨rfl, by omega, by assumption, by rw [hd]; rfl⟩).weaken ⟨rfl, rfl, rfl, rfl, rfl, trivial⟩
     | refine .std ?_ | refine .nil ?_ | refine .seq ?_ | refine .region ?_ | refine .xs ?_ | refine .kb ?_ | refine .leaf ?_ | refine .block ?_ | refine .gn ?_ | refine .dr ?_ | fail
  · subst hq
    have hq : (elems nv).length ≤ i := by have := of_decide_eq_false (by assumption : decide ((i : Int) < ((elems nv).length : Nat)) = false); omega
    have hnil : l.drop i = [] := List.drop_eq_nil_of_le (by rw [h3.1]; omega)
    rw [hnil] at hd
    repeat' first | refine .std ?_ | refine .nil ?_ | refine .seq ?_ | refine .region ?_ | refine .xs ?_ | refine .kb ?_ | refine .leaf ?_ | refine .block ?_ | refine .gn ?_ | refine .dr ?_ | fail
    exact At.fnr rfl rfl rfl ⟨pack_n (by rw [hd]; rfl), k1⟩
end Go.Proofs.YtodiioeddlmjhaaGreatDoor
