import Derived.Test.YtodiioeddlmjhaaGreatDoorT0
import Derived.Test.YtodiioeddlmjhaaGreatDoorE11
set_option linter.unusedVariables false
set_option linter.unusedSimpArgs false
namespace Go.Proofs.YtodiioeddlmjhaaGreatDoor
open Go.RowKit Go.Ev
set_option maxRecDepth 100000
set_option linter.unusedVariables false
set_option linter.unusedSimpArgs false
attribute [local irreducible] Go.Ev.opE
def Wrote (S S' : St) (id : Nat) (t : TypeId) (cs : List V) : Prop := S'.h.find id = some (.box t cs) ∧ S'.next = S.next ∧ ∀ j, j ≠ id → S'.h.find j = S.h.find j
theorem pow_cell : ∀ n : Nat, n < 20 → cells2[n]? = some (.int .u64 ((10 ^ n : Nat) : Int))
 | 0, _ => rfl
 | 1, _ => rfl
 | 2, _ => rfl
 | 3, _ => rfl
 | 4, _ => rfl
 | 5, _ => rfl
 | 6, _ => rfl
 | 7, _ => rfl
 | 8, _ => rfl
 | 9, _ => rfl
 | 10, _ => rfl
 | 11, _ => rfl
 | 12, _ => rfl
 | 13, _ => rfl
 | 14, _ => rfl
 | 15, _ => rfl
 | 16, _ => rfl
 | 17, _ => rfl
 | 18, _ => rfl
 | 19, _ => rfl
 | n + 20, h => absurd h (by omega)
set_option maxHeartbeats 4000000 in
theorem len64F {d : Nat} (h0 : 0 < d) (hd : d < 1000000000) : ∃ L : Nat, Bits d L ∧ Pu Tryz.prog 238 [.int .u64 (d : Int)] (.int .i64 (L : Int)) := by
 by_cases hh : 65536 ≤ d ∧ 256 ≤ d / 65536
 ·obtain ⟨g1, g2⟩ := hh
  obtain ⟨c, hc, hc8, hb1, hb2⟩ := len8_ok (x := d / 65536 / 256) (by omega)
  have hL : Bits d (0 + 16 + 8 + c.toNat) := by
   have hb : Bits (d / 65536 / 256) c.toNat := ⟨hb1, hb2⟩
   have e : 0 + 16 + 8 + c.toNat = 16 + (8 + c.toNat) := by omega
   rw [e]
   exact (hb.up (d := d / 65536) (n := 8) rfl (by omega)).up (n := 16) rfl (by omega)
  refine ⟨_, hL, fun S => ?_⟩
  refine CallTo.of (n := 25) Tryz.func238 rfl rfl ?_
  repeat' first
   | refine Opl.val (op_int rfl rfl rfl (geq_i (q := false) (decide_eq_false (by omega)))) rfl ?_
   | refine Opl.val (op_int rfl rfl rfl (geq_i (q := true) (decide_eq_true (by omega)))) rfl ?_
   | refine Opl.val (op_shift rfl rfl rfl (shr_n 16 65536 (by decide) rfl rfl)) rfl ?_
   | refine Opl.val (op_shift rfl rfl rfl (shr_n 8 256 (by decide) rfl rfl)) rfl ?_
   | refine Opl.val (op_convN rfl (c_u8n (by omega))) rfl ?_
   | refine Opl.val (op_idxS rfl rfl hc) rfl ?_
   | refine Opl.val (op_convN rfl (c_i64n (by omega))) rfl ?_
   | refine Opl.val (op_int rfl rfl rfl (add_nat (a := 0) (b := 16) (by decide))) rfl ?_
   | refine Opl.val (op_int rfl rfl rfl (add_nat (a := 0 + 16) (b := 8) (by decide))) rfl ?_
   | refine Opl.val (op_int rfl rfl rfl (add_nat (a := 0) (b := 8) (by decide))) rfl ?_
   | refine Opl.val (op_int rfl rfl rfl (add_nat (a := 0 + 16 + 8) (b := c.toNat) (by omega))) rfl ?_
   | refine Go.condT rfl ?_
   | refine Go.condF rfl ?_
   | exact At.fnr rfl rfl rfl ⟨rfl, Same.refl _⟩
   | refine .std ?_ | refine .nil ?_ | refine .seq ?_ | refine .region ?_ | refine .xs ?_ | refine .kb ?_ | refine .leaf ?_ | refine .block ?_ | refine .gn ?_ | refine .dr ?_ | fail
 by_cases hl : 65536 ≤ d ∧ ¬ 256 ≤ d / 65536
 ·obtain ⟨g1, g2⟩ := hl
  obtain ⟨c, hc, hc8, hb1, hb2⟩ := len8_ok (x := d / 65536) (by omega)
  have hL : Bits d (0 + 16 + c.toNat) := by
   have hb : Bits (d / 65536) c.toNat := ⟨hb1, hb2⟩
   rw [Nat.zero_add]
   exact hb.up (n := 16) rfl (by omega)
  refine ⟨_, hL, fun S => ?_⟩
  refine CallTo.of (n := 25) Tryz.func238 rfl rfl ?_
  repeat' first
   | refine Opl.val (op_int rfl rfl rfl (geq_i (q := false) (decide_eq_false (by omega)))) rfl ?_
   | refine Opl.val (op_int rfl rfl rfl (geq_i (q := true) (decide_eq_true (by omega)))) rfl ?_
   | refine Opl.val (op_shift rfl rfl rfl (shr_n 16 65536 (by decide) rfl rfl)) rfl ?_
   | refine Opl.val (op_shift rfl rfl rfl (shr_n 8 256 (by decide) rfl rfl)) rfl ?_
   | refine Opl.val (op_convN rfl (c_u8n (by omega))) rfl ?_
   | refine Opl.val (op_idxS rfl rfl hc) rfl ?_
   | refine Opl.val (op_convN rfl (c_i64n (by omega))) rfl ?_
   | refine Opl.val (op_int rfl rfl rfl (add_nat (a := 0) (b := 16) (by decide))) rfl ?_
   | refine Opl.val (op_int rfl rfl rfl (add_nat (a := 0 + 16) (b := 8) (by decide))) rfl ?_
   | refine Opl.val (op_int rfl rfl rfl (add_nat (a := 0) (b := 8) (by decide))) rfl ?_
   | refine Opl.val (op_int rfl rfl rfl (add_nat (a := 0 + 16) (b := c.toNat) (by omega))) rfl ?_
   | refine Go.condT rfl ?_
   | refine Go.condF rfl ?_
   | exact At.fnr rfl rfl rfl ⟨rfl, Same.refl _⟩
   | refine .std ?_ | refine .nil ?_ | refine .seq ?_ | refine .region ?_ | refine .xs ?_ | refine .kb ?_ | refine .leaf ?_ | refine .block ?_ | refine .gn ?_ | refine .dr ?_ | fail
 by_cases lh : ¬ 65536 ≤ d ∧ 256 ≤ d
 ·obtain ⟨g1, g2⟩ := lh
  obtain ⟨c, hc, hc8, hb1, hb2⟩ := len8_ok (x := d / 256) (by omega)
  have hL : Bits d (0 + 8 + c.toNat) := by
   have hb : Bits (d / 256) c.toNat := ⟨hb1, hb2⟩
   rw [Nat.zero_add]
   exact hb.up (n := 8) rfl (by omega)
  refine ⟨_, hL, fun S => ?_⟩
  refine CallTo.of (n := 25) Tryz.func238 rfl rfl ?_
  repeat' first
   | refine Opl.val (op_int rfl rfl rfl (geq_i (q := false) (decide_eq_false (by omega)))) rfl ?_
   | refine Opl.val (op_int rfl rfl rfl (geq_i (q := true) (decide_eq_true (by omega)))) rfl ?_
   | refine Opl.val (op_shift rfl rfl rfl (shr_n 16 65536 (by decide) rfl rfl)) rfl ?_
   | refine Opl.val (op_shift rfl rfl rfl (shr_n 8 256 (by decide) rfl rfl)) rfl ?_
   | refine Opl.val (op_convN rfl (c_u8n (by omega))) rfl ?_
   | refine Opl.val (op_idxS rfl rfl hc) rfl ?_
   | refine Opl.val (op_convN rfl (c_i64n (by omega))) rfl ?_
   | refine Opl.val (op_int rfl rfl rfl (add_nat (a := 0) (b := 16) (by decide))) rfl ?_
   | refine Opl.val (op_int rfl rfl rfl (add_nat (a := 0 + 16) (b := 8) (by decide))) rfl ?_
   | refine Opl.val (op_int rfl rfl rfl (add_nat (a := 0) (b := 8) (by decide))) rfl ?_
   | refine Opl.val (op_int rfl rfl rfl (add_nat (a := 0 + 8) (b := c.toNat) (by omega))) rfl ?_
   | refine Go.condT rfl ?_
   | refine Go.condF rfl ?_
   | exact At.fnr rfl rfl rfl ⟨rfl, Same.refl _⟩
   | refine .std ?_ | refine .nil ?_ | refine .seq ?_ | refine .region ?_ | refine .xs ?_ | refine .kb ?_ | refine .leaf ?_ | refine .block ?_ | refine .gn ?_ | refine .dr ?_ | fail
 by_cases ll : ¬ 65536 ≤ d ∧ ¬ 256 ≤ d
 ·obtain ⟨g1, g2⟩ := ll
  obtain ⟨c, hc, hc8, hb1, hb2⟩ := len8_ok (x := d) (by omega)
  have hL : Bits d (0 + c.toNat) := by
   have hb : Bits (d) c.toNat := ⟨hb1, hb2⟩
   rw [Nat.zero_add]
   exact hb
  refine ⟨_, hL, fun S => ?_⟩
  refine CallTo.of (n := 25) Tryz.func238 rfl rfl ?_
  repeat' first
   | refine Opl.val (op_int rfl rfl rfl (geq_i (q := false) (decide_eq_false (by omega)))) rfl ?_
   | refine Opl.val (op_int rfl rfl rfl (geq_i (q := true) (decide_eq_true (by omega)))) rfl ?_
   | refine Opl.val (op_shift rfl rfl rfl (shr_n 16 65536 (by decide) rfl rfl)) rfl ?_
   | refine Opl.val (op_shift rfl rfl rfl (shr_n 8 256 (by decide) rfl rfl)) rfl ?_
   | refine Opl.val (op_convN rfl (c_u8n (by omega))) rfl ?_
   | refine Opl.val (op_idxS rfl rfl hc) rfl ?_
   | refine Opl.val (op_convN rfl (c_i64n (by omega))) rfl ?_
   | refine Opl.val (op_int rfl rfl rfl (add_nat (a := 0) (b := 16) (by decide))) rfl ?_
   | refine Opl.val (op_int rfl rfl rfl (add_nat (a := 0 + 16) (b := 8) (by decide))) rfl ?_
   | refine Opl.val (op_int rfl rfl rfl (add_nat (a := 0) (b := 8) (by decide))) rfl ?_
   | refine Opl.val (op_int rfl rfl rfl (add_nat (a := 0) (b := c.toNat) (by omega))) rfl ?_
   | refine Go.condT rfl ?_
   | refine Go.condF rfl ?_
   | exact At.fnr rfl rfl rfl ⟨rfl, Same.refl _⟩
   | refine .std ?_ | refine .nil ?_ | refine .seq ?_ | refine .region ?_ | refine .xs ?_ | refine .kb ?_ | refine .leaf ?_ | refine .block ?_ | refine .gn ?_ | refine .dr ?_ | fail
 omega
theorem log10F {L : Nat} (h : L < 100) : Pu Tryz.prog 237 [.int .i64 (L : Int)] (.int .i64 ((L * 78913 / 262144 : Nat) : Int)) := by
 intro S
 refine CallTo.of (n := 6) Tryz.func237 rfl rfl ?_
 repeat' first
  | refine Opl.val (op_int rfl rfl rfl (n_muli 78913 (by omega))) rfl ?_
  | refine Opl.val (op_shift rfl rfl rfl (shr_n 18 262144 (by decide) rfl rfl)) rfl ?_
  | exact At.fnr rfl rfl rfl ⟨rfl, Same.refl _⟩
  | refine .std ?_ | refine .nil ?_ | refine .seq ?_ | refine .region ?_ | refine .xs ?_ | refine .kb ?_ | refine .leaf ?_ | refine .block ?_ | refine .gn ?_ | refine .dr ?_ | fail
theorem bool2F (q : Bool) : Pu Tryz.prog 239 [.bool q] (.int .i64 ((if q then 1 else 0 : Nat) : Int)) := by
 intro S
 refine CallTo.of (n := 4) Tryz.func239 rfl rfl ?_
 cases q
 case true =>
  repeat' first
   | refine Go.condT rfl ?_
   | exact At.fnr rfl rfl rfl ⟨rfl, Same.refl _⟩
   | refine .std ?_ | refine .nil ?_ | refine .seq ?_ | refine .region ?_ | refine .xs ?_ | refine .kb ?_ | refine .leaf ?_ | refine .block ?_ | refine .gn ?_ | refine .dr ?_ | fail
 case false =>
  repeat' first
   | refine Go.condF rfl ?_
   | exact At.fnr rfl rfl rfl ⟨rfl, Same.refl _⟩
   | refine .std ?_ | refine .nil ?_ | refine .seq ?_ | refine .region ?_ | refine .xs ?_ | refine .kb ?_ | refine .leaf ?_ | refine .block ?_ | refine .gn ?_ | refine .dr ?_ | fail
theorem arr_pow : Tryz.prog.underlying 248 = some (.array 20 237) := by kernel_rfl
theorem sz_u64 : szOf Tryz.prog 237 = some 1 := by kernel_rfl
set_option maxHeartbeats 4000000 in
theorem numDigitsF {d : Nat} (h0 : 0 < d) (hd : d < 1000000000) : ∃ r : Nat, 1 ≤ r ∧ r ≤ 9 ∧ d < 10 ^ r ∧ 10 ^ (r - 1) ≤ d ∧ Pu Tryz.prog 224 [.int .u64 (d : Int)] (.int .i64 (r : Int)) := by
 obtain ⟨L, hL, c1⟩ := len64F h0 hd
 obtain ⟨n, r, hn, hn2, hr, h1, h9, h3, h4⟩ := nd_ok hL h0 hd
 have hLb : L < 100 := by
  apply Classical.byContradiction
  intro hc
  have : 2 ^ 100 ≤ 2 ^ L := Nat.pow_le_pow_right (by decide) (by omega)
  have := hL.2
  omega
 have c2 := log10F hLb
 rw [← hn] at c2
 have hcell := pow_cell n hn2
 obtain ⟨q, hq⟩ : ∃ q, decide ((d : Int) ≥ ((10 ^ n : Nat) : Int)) = q := ⟨_, rfl⟩
 have c3 := bool2F q
 have hres : r = n + (if q then 1 else 0) := by
  rw [hr]
  cases q with
  | true => have := of_decide_eq_true hq; rw [if_pos (by omega)]; rfl
  | false => have := of_decide_eq_false hq; rw [if_neg (by omega)]; rfl
 refine ⟨r, h1, h9, h3, h4, fun S => ?_⟩
 have k0 : Same S S := Same.refl S
 have hpt : ∀ S, Pt S (.cptr none cells2 (0 + (n : Int).toNat * 1)) [.int .u64 ((10 ^ n : Nat) : Int)] := fun S i v hi => by
  cases i with
  | zero => simp at hi ⊢; rw [← hi]; exact_mod_cast hcell
  | succ i => simp at hi
 refine CallTo.of (n := 15) Tryz.func224 rfl rfl ?_
 repeat' first
  | refine Opl.callS (by assumption) rfl (by kernel_rfl) c1 rfl (fun S8 k8 => ?_)
  | refine Opl.callS (by assumption) rfl (by kernel_rfl) c2 rfl (fun S8 k8 => ?_)
  | refine Opl.callS (by assumption) rfl (by kernel_rfl) c3 rfl (fun S8 k8 => ?_)
  | refine Opl.val (op_ixaT arr_pow sz_u64 rfl rfl (by omega) (by omega)) rfl ?_
  | refine Opl.val (op_load rfl (ld_one (hpt _))) rfl ?_
  | refine Opl.val (op_int rfl rfl rfl (geq_i hq)) rfl ?_
  | refine Opl.val (op_int rfl rfl rfl (add_nat (a := n) (b := if q then 1 else 0) (by split <;> omega))) rfl ?_
  | exact At.fnr rfl rfl rfl ⟨by rw [hres]; rfl, by assumption⟩
  | refine .std ?_ | refine .nil ?_ | refine .seq ?_ | refine .region ?_ | refine .xs ?_ | refine .kb ?_ | refine .leaf ?_ | refine .block ?_ | refine .gn ?_ | refine .dr ?_ | fail
end Go.Proofs.YtodiioeddlmjhaaGreatDoor
