import Derived.Test.YtodiioeddlmjhaaGreatDoorT9
import Derived.Test.YtodiioeddlmjhaaGreatDoorE11
set_option linter.unusedVariables false
set_option linter.unusedSimpArgs false
namespace Go.Proofs.YtodiioeddlmjhaaGreatDoor
open Go.RowKit Go.Ev
set_option maxRecDepth 100000
set_option linter.unusedVariables false
set_option linter.unusedSimpArgs false
attribute [local irreducible] Go.Ev.opE
theorem u_i32 : Tryz.prog.underlying 21 = some (.int .i32) := by kernel_rfl
set_option maxHeartbeats 4000000 in
theorem digitsF : ∀ (N : Nat) (n : Int), 2 * n.natAbs + (if n < 0 then 1 else 0) ≤ N → -1000000000 < n → n < 1000000000 → Pu Tryz.prog 107 [.int .i64 n] (.str (digI n)) := by
 intro N
 induction N using Nat.strongRecOn with
 | _ N IHN =>
 intro n hN h1 h2 S
 have k0 : Same S S := Same.refl S
 refine CallTo.of (n := 32) Tryz.func107 rfl rfl ?_
 by_cases hn : n < 0
 ·rw [if_pos hn] at hN
  by_cases hs : n > -10
  ·have c1 := IHN (2 * (-n).natAbs + (if -n < 0 then 1 else 0)) (by rw [if_neg (by omega)]; omega) (-n) (Nat.le_refl _) (by omega) (by omega)
   have hl := digI_len (n := -n) (by omega) (by omega)
   rw [digI_neg hn (by omega)]
   repeat' first
    | refine Opl.val (op_int rfl rfl rfl (lss_i (q := true) (decide_eq_true hn))) rfl ?_
    | refine Opl.val (op_int rfl rfl rfl (gtr_i (q := true) (decide_eq_true hs))) rfl ?_
    | refine Opl.val (op_un rfl (i_neg (n := n) (by constructor <;> omega))) rfl ?_
    | refine Opl.callS (by assumption) rfl (by kernel_rfl) c1 rfl (fun S8 k8 => ?_)
    | refine Opl.val (op_str rfl rfl (str_add (a := [45]) (by simp; omega))) rfl ?_
    | refine Go.condT rfl ?_
    | refine Go.condF rfl ?_
    | exact At.fnr rfl rfl rfl ⟨rfl, by assumption⟩
    | refine .std ?_ | refine .nil ?_ | refine .seq ?_ | refine .region ?_ | refine .xs ?_ | refine .kb ?_ | refine .leaf ?_ | refine .block ?_ | refine .gn ?_ | refine .dr ?_ | fail
  ·have ht := Int.natAbs_tdiv_le_natAbs n 10
   have ht2 : n.tdiv 10 = -((-n) / 10) := by
    have e : n = -(-n) := by omega
    conv => lhs; rw [e]
    rw [Int.neg_tdiv, Int.tdiv_eq_ediv_of_nonneg (by omega)]
   have hm2 : -(n.tmod 10) = (-n) % 10 := by
    have e : n = -(-n) := by omega
    conv => lhs; rw [e]
    rw [Int.neg_tmod, Int.tmod_eq_emod_of_nonneg (by omega)]; omega
   have c1 := IHN (2 * (n.tdiv 10).natAbs + (if n.tdiv 10 < 0 then 1 else 0)) (by rw [ht2]; split <;> omega) (n.tdiv 10) (Nat.le_refl _) (by omega) (by omega)
   have c2 := IHN (2 * (-(n.tmod 10)).natAbs + (if -(n.tmod 10) < 0 then 1 else 0)) (by rw [hm2]; split <;> omega) (-(n.tmod 10)) (Nat.le_refl _) (by omega) (by omega)
   have hl1 := digI_len (n := n.tdiv 10) (by omega) (by omega)
   have hl2 := digI_len (n := -(n.tmod 10)) (by omega) (by omega)
   rw [digI_low (by omega)]
   repeat' first
    | refine Opl.val (op_int rfl rfl rfl (lss_i (q := true) (decide_eq_true hn))) rfl ?_
    | refine Opl.val (op_int rfl rfl rfl (gtr_i (q := false) (decide_eq_false hs))) rfl ?_
    | refine Opl.val (op_int rfl rfl rfl (i_quo ⟨h1, h2⟩)) rfl ?_
    | refine Opl.val (op_int rfl rfl rfl i_rem) rfl ?_
    | refine Opl.val (op_un rfl (i_neg (n := n.tmod 10) (by constructor <;> omega))) rfl ?_
    | refine Opl.callS (by assumption) rfl (by kernel_rfl) c1 rfl (fun S8 k8 => ?_)
    | refine Opl.callS (by assumption) rfl (by kernel_rfl) c2 rfl (fun S9 k9 => ?_)
    | refine Opl.val (op_str rfl rfl (str_add (by omega))) rfl ?_
    | refine Go.condT rfl ?_
    | refine Go.condF rfl ?_
    | exact At.fnr rfl rfl rfl ⟨rfl, by assumption⟩
    | refine .std ?_ | refine .nil ?_ | refine .seq ?_ | refine .region ?_ | refine .xs ?_ | refine .kb ?_ | refine .leaf ?_ | refine .block ?_ | refine .gn ?_ | refine .dr ?_ | fail
 ·rw [if_neg hn] at hN
  by_cases hs : n < 10
  ·obtain ⟨d, rfl⟩ := Int.eq_ofNat_of_zero_le (show 0 ≤ n by omega)
   have he := enc_dig d (by omega)
   rw [digI_nat, digN_lo (by omega)]
   have hi : IntKind.wrap .i32 ((48 + d : Nat) : Int) = ((48 + d : Nat) : Int) := by
    have : IntKind.wrap .i32 ((48 + d : Nat) : Int) = if ((48 + d : Nat) : Int) % 4294967296 ≥ 2147483648 then ((48 + d : Nat) : Int) % 4294967296 - 4294967296 else ((48 + d : Nat) : Int) % 4294967296 := by simp [IntKind.wrap, IntKind.bits, IntKind.signed]
    rw [this]; split <;> omega
   repeat' first
    | refine Opl.val (op_move rfl) rfl ?_
    | refine Opl.val (op_assign rfl) rfl ?_
    | refine .nil ?_
    | refine .seq ?_
    | refine .region ?_
    | refine .xs ?_
    | refine .kb ?_
    | refine .leaf ?_
    | refine Opl.val (op_int rfl rfl rfl (lss_i (q := false) (decide_eq_false hn))) rfl ?_
    | refine Opl.val (op_int rfl rfl rfl (lss_i (q := true) (decide_eq_true hs))) rfl ?_
    | refine Opl.val (op_int rfl rfl rfl (add_nat (a := 48) (b := d) (by omega))) rfl ?_
    | refine Opl.val (op_convN rfl hi) rfl ?_
    | refine Opl.val (op_conv rfl (conv_chrW u_i32 he)) rfl ?_
    | refine Go.condT rfl ?_
    | refine Go.condF rfl ?_
    | exact At.fnr rfl rfl rfl ⟨rfl, by assumption⟩
  ·have ht2 : n.tdiv 10 = n / 10 := Int.tdiv_eq_ediv_of_nonneg (by omega)
   have hm2 : n.tmod 10 = n % 10 := Int.tmod_eq_emod_of_nonneg (by omega)
   have c1 := IHN (2 * (n.tdiv 10).natAbs + (if n.tdiv 10 < 0 then 1 else 0)) (by rw [ht2]; split <;> omega) (n.tdiv 10) (Nat.le_refl _) (by omega) (by omega)
   have c2 := IHN (2 * (n.tmod 10).natAbs + (if n.tmod 10 < 0 then 1 else 0)) (by rw [hm2]; split <;> omega) (n.tmod 10) (Nat.le_refl _) (by omega) (by omega)
   have hl1 := digI_len (n := n.tdiv 10) (by omega) (by omega)
   have hl2 := digI_len (n := n.tmod 10) (by omega) (by omega)
   rw [digI_hi (by omega)]
   repeat' first
    | refine Opl.val (op_int rfl rfl rfl (lss_i (q := false) (decide_eq_false hn))) rfl ?_
    | refine Opl.val (op_int rfl rfl rfl (lss_i (q := false) (decide_eq_false hs))) rfl ?_
    | refine Opl.val (op_int rfl rfl rfl (i_quo ⟨h1, h2⟩)) rfl ?_
    | refine Opl.val (op_int rfl rfl rfl i_rem) rfl ?_
    | refine Opl.callS (by assumption) rfl (by kernel_rfl) c1 rfl (fun S8 k8 => ?_)
    | refine Opl.callS (by assumption) rfl (by kernel_rfl) c2 rfl (fun S9 k9 => ?_)
    | refine Opl.val (op_str rfl rfl (str_add (by omega))) rfl ?_
    | refine Go.condT rfl ?_
    | refine Go.condF rfl ?_
    | exact At.fnr rfl rfl rfl ⟨rfl, by assumption⟩
    | refine .std ?_ | refine .nil ?_ | refine .seq ?_ | refine .region ?_ | refine .xs ?_ | refine .kb ?_ | refine .leaf ?_ | refine .block ?_ | refine .gn ?_ | refine .dr ?_ | fail
set_option maxHeartbeats 4000000 in
theorem joinedF {ws : List (List UInt8)} {lv : V} (h : StrsV ws lv) (by_ : List UInt8) (hb : (joinW by_ ws).length ≤ 1099511627776) : Pu Tryz.prog 112 [lv, .str by_] (.str (joinW by_ ws)) := by
 obtain ⟨hl, hll, hA⟩ := h
 have hll : (elems lv).length ≤ 9223372036854775807 := hll
 intro S
 have k0 : Same S S := Same.refl S
 refine CallTo.of (n := 25) Tryz.func112 rfl rfl ?_
 repeat' first | refine .std ?_ | refine .nil ?_ | refine .seq ?_ | refine .region ?_ | refine .xs ?_ | refine .kb ?_ | refine .leaf ?_ | refine .block ?_ | refine .gn ?_ | refine .dr ?_ | fail
 refine Go.weaken (E' := [(0, lv), (1, .str by_), (5, .str []), (6, .int .i64 (0 : Nat))]) ?_ ⟨rfl, rfl, rfl, rfl, trivial⟩
 refine Go.loop_ind (α := Nat) (fun i => (elems lv).length - i) (fun i E S' => E = [(0, lv), (1, .str by_), (5, .str (joinW by_ (ws.take i))), (6, .int .i64 i)] ∧ i ≤ (elems lv).length ∧ Same S S') ?_ 0 _ _ ⟨rfl, Nat.zero_le _, k0⟩
 rintro i E S1 ⟨rfl, hi, k1⟩ IH
 repeat' first
  | refine Opl.val (op_lenL rfl hl.isL rfl) rfl ?_
  | refine Opl.fresh (op_int rfl rfl rfl rfl) rfl (fun q hq => ?_)
  | refine .std ?_ | refine .nil ?_ | refine .seq ?_ | refine .region ?_ | refine .xs ?_ | refine .kb ?_ | refine .leaf ?_ | refine .block ?_ | refine .gn ?_ | refine .dr ?_ | fail
 refine Go.cond rfl (fun hq => ?_) (fun hq => ?_)
 ·subst hq
  have hq : i < (elems lv).length := by have := of_decide_eq_true (by assumption : decide ((i : Int) < ((elems lv).length : Nat)) = true); omega
  obtain ⟨x, v, hx, hix, ⟨hc, hxl⟩, hm⟩ := hA.at hq
  have hpt : ∀ S, Pt S (.cptr none v.cells 0) [.str x] := fun S => by rw [hc]; exact Pt.cptr _ _ _
  have hj := joinW_take (by_ := by_) hx
  have hle := joinW_le by_ ws (i + 1)
  rw [hj] at hle
  by_cases h0 : i = 0
  ·subst h0
   simp only [if_true, List.length_append, List.length_nil] at hle
   repeat' first
    | refine Opl.val (op_int rfl rfl rfl (gtr_i (q := false) (decide_eq_false (by decide)))) rfl ?_
    | refine Go.condF rfl ?_
    | refine Opl.val (op_ixaV hl rfl rfl hix) rfl ?_
    | refine Opl.val (op_load rfl (ld_one (hpt _))) rfl ?_
    | refine Opl.val (op_str rfl rfl (str_add (by omega))) rfl ?_
    | refine Opl.val (op_int rfl rfl rfl (inc_ok (i := 0) (by decide))) rfl ?_
    | refine .std ?_ | refine .nil ?_ | refine .seq ?_ | refine .region ?_ | refine .xs ?_ | refine .kb ?_ | refine .leaf ?_ | refine .block ?_ | refine .gn ?_ | refine .dr ?_ | fail
   have hj2 : joinW by_ (ws.take 1) = joinW by_ (ws.take 0) ++ x := by rw [hj]; simp
   exact (IH 1 [(0, lv), (1, .str by_), (5, .str (joinW by_ (ws.take 0) ++ x)), (6, .int .i64 ((1 : Nat) : Int))] _ (by omega) ⟨by rw [hj2], by omega, k1⟩).weaken ⟨rfl, rfl, rfl, rfl, trivial⟩
  ·simp only [if_neg h0, List.length_append] at hle
   repeat' first
    | refine Opl.val (op_int rfl rfl rfl (gtr_i (q := true) (decide_eq_true (by omega)))) rfl ?_
    | refine Go.condT rfl ?_
    | refine Opl.val (op_ixaV hl rfl rfl hix) rfl ?_
    | refine Opl.val (op_load rfl (ld_one (hpt _))) rfl ?_
    | refine Opl.val (op_str rfl rfl (str_add (by (try simp only [List.length_append]); omega))) rfl ?_
    | refine Opl.val (op_int rfl rfl rfl (inc_ok (i := i) (by omega))) rfl ?_
    | refine .std ?_ | refine .nil ?_ | refine .seq ?_ | refine .region ?_ | refine .xs ?_ | refine .kb ?_ | refine .leaf ?_ | refine .block ?_ | refine .gn ?_ | refine .dr ?_ | fail
   have hj2 : joinW by_ (ws.take (i + 1)) = (joinW by_ (ws.take i) ++ by_) ++ x := by rw [hj, if_neg h0]; simp
   exact (IH (i + 1) [(0, lv), (1, .str by_), (5, .str ((joinW by_ (ws.take i) ++ by_) ++ x)), (6, .int .i64 ((i + 1 : Nat) : Int))] _ (by omega) ⟨by rw [hj2], by omega, k1⟩).weaken ⟨rfl, rfl, rfl, rfl, trivial⟩
 ·subst hq
  have hq : (elems lv).length ≤ i := by have := of_decide_eq_false (by assumption : decide ((i : Int) < ((elems lv).length : Nat)) = false); omega
  have hnil : ws.take i = ws := List.take_of_length_le (by rw [hA.1]; omega)
  repeat' first | refine .std ?_ | refine .nil ?_ | refine .seq ?_ | refine .region ?_ | refine .xs ?_ | refine .kb ?_ | refine .leaf ?_ | refine .block ?_ | refine .gn ?_ | refine .dr ?_ | fail
  exact At.fnr rfl rfl rfl ⟨by rw [hnil]; rfl, k1⟩
end Go.Proofs.YtodiioeddlmjhaaGreatDoor
namespace Go.Proofs.YtodiioeddlmjhaaGreatDoor
open Go.RowKit Go.Ev
set_option maxRecDepth 100000
set_option linter.unusedVariables false
set_option linter.unusedSimpArgs false
attribute [local irreducible] Go.Ev.opE
theorem bs1' (a : List UInt8) : buildSliceE Tryz.prog 23 1 [(0, .str a)] = some (.list (some 9) 1 [.str a] .exact) := by kernel_rfl
end Go.Proofs.YtodiioeddlmjhaaGreatDoor
