/-
  Printing: lists, types at a place.
-/
import Derived.Test.YtodiioeddlmjhaaGreatDoorU4
import Derived.Test.YtodiioeddlmjhaaGreatDoorU3
set_option linter.unusedVariables false
set_option linter.unusedSimpArgs false
namespace Go.Proofs.YtodiioeddlmjhaaGreatDoor
open Go.RowKit Go.Ev
set_option maxRecDepth 100000
set_option linter.unusedVariables false
set_option linter.unusedSimpArgs false
attribute [local irreducible] Go.Ev.opE

theorem bs1 (a : List UInt8) : buildSliceE Tryz.prog 23 1 [(0, .str a)] = some (.list (some 9) 1 [.str a] .exact) := by kernel_rfl
theorem bs2 (a b : List UInt8) : buildSliceE Tryz.prog 23 2 [(0, .str a), (1, .str b)] = some (.list (some 9) 1 [.str a, .str b] .exact) := by kernel_rfl

set_option maxHeartbeats 4000000 in
theorem listF (id : Nat) {by_ : List UInt8} (hby : by_.length ≤ huge) {ws : List (List UInt8)} (hws : ws.length ≤ huge) {g : FuncId} {caps : List V} (hb : hasBody Tryz.prog g = true) {I : St → Prop} (hI : ∀ S S', I S → KeepB S S' id → I S')
    (hf : ∀ i w, ws[i]? = some w → Pri g (.int .i64 (i : Nat) :: caps) id I w) : Pri 171 [.ptr id 0, .int .i64 (ws.length : Nat), .str by_, .func g [] caps] id I (joinW by_ ws) := by
  intro S s hp hIS hlen
  have hws : ws.length ≤ 9223372036854775807 := hws
  have c1 := put1F id (lt := some 9) (tk := .exact) hby
  refine CallTo.of (n := 23) Tryz.func171 rfl rfl ?_
  repeat' first | refine .std ?_ | refine .nil ?_ | refine .seq ?_ | refine .region ?_ | refine .xs ?_ | refine .kb ?_ | refine .leaf ?_ | refine .block ?_ | refine .gn ?_ | refine .dr ?_ | fail
  refine Go.weaken (E' := [(0, .ptr id 0), (2, .str by_), (3, .func g [] caps), (9, .int .i64 (ws.length : Nat)), (10, .int .i64 (0 : Nat))]) ?_ ⟨rfl, rfl, rfl, rfl, rfl, trivial⟩
  refine Go.loop_ind (α := Nat) (fun i => ws.length - i) (fun i E S' => E = [(0, .ptr id 0), (2, .str by_), (3, .func g [] caps), (9, .int .i64 (ws.length : Nat)), (10, .int .i64 i)] ∧ i ≤ ws.length ∧ Prz S' id (s ++ joinW by_ (ws.take i)) ∧ KeepB S S' id) ?_ 0 _ _ ⟨rfl, Nat.zero_le _, by simpa [joinW] using hp, KeepB.refl S id⟩
  rintro i E S1 ⟨rfl, hi, p1, k1⟩ IH
  repeat' first
   | refine Opl.fresh (op_int rfl rfl rfl rfl) rfl (fun q hq => ?_)
   | refine .std ?_ | refine .nil ?_ | refine .seq ?_ | refine .region ?_ | refine .xs ?_ | refine .kb ?_ | refine .leaf ?_ | refine .block ?_ | refine .gn ?_ | refine .dr ?_ | fail
  refine Go.cond rfl (fun hq => ?_) (fun hq => ?_)
  · subst hq
    have hq : i < ws.length := by have := of_decide_eq_true (by assumption : decide ((i : Int) < (ws.length : Nat)) = true); omega
    have hx : ws[i]? = some ws[i] := List.getElem?_eq_getElem hq
    generalize ws[i] = x at hx
    have hj := joinW_take (by_ := by_) hx
    have hle : s.length + (joinW by_ (ws.take (i + 1))).length ≤ 1099511627776 := by have := joinW_le by_ ws (i + 1); omega
    rw [hj] at hle
    have c2 := hf i x hx
    by_cases h0 : i = 0
    · subst h0
      simp only [if_true, List.length_append, List.length_nil] at hle
      repeat' first
       | refine Opl.val (op_int rfl rfl rfl (gtr_i (q := false) (decide_eq_false (by decide)))) rfl ?_
       | refine Go.condF rfl ?_
       | refine Opl.callP (U0 := S) p1 k1 rfl hb c2 (hI _ _ hIS k1) (by simp only [List.length_append]; omega) rfl (fun v S2 p2 k2 => ?_)
       | refine Opl.val (op_int rfl rfl rfl (inc_ok (i := 0) (by decide))) rfl ?_
       | refine .std ?_ | refine .nil ?_ | refine .seq ?_ | refine .region ?_ | refine .xs ?_ | refine .kb ?_ | refine .leaf ?_ | refine .block ?_ | refine .gn ?_ | refine .dr ?_ | fail
      exact (IH 1 _ S2 (by omega) ⟨rfl, by omega, p2.eq (by rw [hj]; simp), k2⟩).weaken ⟨rfl, rfl, rfl, rfl, rfl, trivial⟩
    · simp only [if_neg h0, List.length_append] at hle
      repeat' first
       | refine Opl.val (op_int rfl rfl rfl (gtr_i (q := true) (decide_eq_true (by omega)))) rfl ?_
       | refine Go.condT rfl ?_
       | refine Opl.val (op_bsG rfl (bs1 _)) rfl ?_
       | refine Opl.callP (U0 := S) p1 k1 rfl (by kernel_rfl) c1 trivial (by simp only [List.length_append]; omega) rfl (fun v S2 p2 k2 => ?_)
       | refine Opl.callP (U0 := S) p2 k2 rfl hb c2 (hI _ _ hIS k2) (by simp only [List.length_append]; omega) rfl (fun v S3 p3 k3 => ?_)
       | refine Opl.val (op_int rfl rfl rfl (inc_ok (i := i) (by omega))) rfl ?_
       | refine .std ?_ | refine .nil ?_ | refine .seq ?_ | refine .region ?_ | refine .xs ?_ | refine .kb ?_ | refine .leaf ?_ | refine .block ?_ | refine .gn ?_ | refine .dr ?_ | fail
      exact (IH (i + 1) _ S3 (by omega) ⟨rfl, by omega, p3.eq (by rw [hj, if_neg h0]; simp), k3⟩).weaken ⟨rfl, rfl, rfl, rfl, rfl, trivial⟩
  · subst hq
    have hq : ws.length ≤ i := by have := of_decide_eq_false (by assumption : decide ((i : Int) < (ws.length : Nat)) = false); omega
    have hnil : ws.take i = ws := List.take_of_length_le hq
    rw [hnil] at p1
    repeat' first | refine .std ?_ | refine .nil ?_ | refine .seq ?_ | refine .region ?_ | refine .xs ?_ | refine .kb ?_ | refine .leaf ?_ | refine .block ?_ | refine .gn ?_ | refine .dr ?_ | fail
    exact At.fn rfl rfl rfl ⟨p1, k1⟩

set_option maxHeartbeats 4000000 in
theorem typeAtF (id : Nat) {e : Ty} {cs : List V} (he : TyC e cs) (place : Int) (c1 : Prc 68 [.ptr id 0, .agg cs] id (textT e)) : Prc 126 [.ptr id 0, .agg cs, .int .i64 place] id (atT e place) := by
  obtain ⟨lv, bv, rfl, hk, hn, hs, hl, hll, hb, hbl, hB, htl, hL⟩ := he.inv
  have e1 : e.l.length = (elems lv).length := hL.1
  intro S s hp _ hlen
  obtain ⟨U, hU, bx, s0⟩ := box1 S 46 [.int .i64 e.kind, .int .i64 e.n, .str e.s, lv, bv, .int .i64 e.tail]
  have hne : S.next ≠ id := by have := hp.lt; omega
  have b0 := Bp.of bx hne
  have ks : KeepB S U id := s0.keepB id
  have p0 : Prz U id s := hp.same s0
  have k0 : KeepB U U id := KeepB.refl U id
  have h6 : [V.int .i64 e.kind, .int .i64 e.n, .str e.s, lv, bv, .int .i64 e.tail].length = 6 := rfl
  obtain ⟨q5, h5⟩ : ∃ q, decide (e.kind = 5) = q := ⟨_, rfl⟩
  obtain ⟨q6, h6'⟩ : ∃ q, decide (e.kind = 6) = q := ⟨_, rfl⟩
  obtain ⟨qn, h7⟩ : ∃ q, decide (((elems lv).length : Int) > 0) = q := ⟨_, rfl⟩
  obtain ⟨r0, h8⟩ : ∃ q, decide (place > 0) = q := ⟨_, rfl⟩
  obtain ⟨r1, h9⟩ : ∃ q, decide (place > 1) = q := ⟨_, rfl⟩
  have hspec : atT e place = atW ((q5 && r0) || (q6 && qn && r1)) (textT e) := by
    unfold atT parT
    rw [e1, h5, h6', h7, h8, h9]
  rw [hspec] at hlen ⊢
  have co := put1F id (lt := some 9) (tk := .exact) (a := [40]) (by decide)
  have cc := put1F id (lt := some 9) (tk := .exact) (a := [41]) (by decide)
  refine CallTo.of (n := 40) Tryz.func126 rfl rfl ?_
  repeat' first
   | refine Opl.val (op_box rfl) rfl (Opl.cast (S' := U) ?_ hU)
   | refine Opl.val (op_load rfl (ld_p b0 (by assumption) _ rfl)) rfl ?_
   | refine Opl.val (op_load rfl (ld_pA b0 (by assumption) h6)) rfl ?_
   | refine Opl.val (op_lenL rfl hl.isL rfl) rfl ?_
   | refine Opl.val (op_int rfl rfl rfl (eql_i h5)) rfl ?_
   | refine Opl.val (op_int rfl rfl rfl (eql_i h6')) rfl ?_
   | refine Opl.val (op_int rfl rfl rfl (gtr_i h7)) rfl ?_
   | refine Opl.val (op_int rfl rfl rfl (gtr_i h8)) rfl ?_
   | refine Opl.val (op_int rfl rfl rfl (gtr_i h9)) rfl ?_
   | refine Opl.val (op_bsG rfl (bs1 _)) rfl ?_
   | refine Opl.callP (U0 := U) (by assumption) (by assumption) rfl (by kernel_rfl) co trivial (by simp [atW] at hlen ⊢; omega) rfl (fun v S2 p2 k2 => ?_)
   | refine Opl.callP (U0 := U) (by assumption) (by assumption) rfl (by kernel_rfl) c1 trivial (by simp [atW] at hlen ⊢; omega) rfl (fun v S3 p3 k3 => ?_)
   | refine Opl.callP (U0 := U) (by assumption) (by assumption) rfl (by kernel_rfl) cc trivial (by simp [atW] at hlen ⊢; omega) rfl (fun v S4 p4 k4 => ?_)
   | refine op_gyes rfl ?_ rfl
   | refine .gn ?_
   | (refine Opl.gonTN rfl rfl (fun hq => ?_) (fun hq => ?_) <;> subst hq)
   | (refine Opl.gonFN rfl rfl (fun hq => ?_) (fun hq => ?_) <;> subst hq)
   | (refine Opl.gonT rfl rfl (fun hq => ?_) (fun hq => ?_) <;> subst hq)
   | (refine Opl.gonF rfl rfl (fun hq => ?_) (fun hq => ?_) <;> subst hq)
   | refine Go.condT rfl ?_
   | refine Go.condF rfl ?_
   | (refine Go.condN rfl (fun hq => ?_) (fun hq => ?_) <;> subst hq)
   | (refine Go.condV rfl (fun hq => ?_) (fun hq => ?_) <;> subst hq)
   | exact At.fnr rfl rfl rfl ⟨Prn.eq (by assumption) (by simp [atW]), ks.trans (by assumption)⟩
   | exact At.fn rfl rfl rfl ⟨Prn.eq (by assumption) (by simp [atW]), ks.trans (by assumption)⟩
   | refine .std ?_ | refine .nil ?_ | refine .seq ?_ | refine .region ?_ | refine .xs ?_ | refine .kb ?_ | refine .leaf ?_ | refine .block ?_ | refine .gn ?_ | refine .dr ?_ | fail

end Go.Proofs.YtodiioeddlmjhaaGreatDoor
