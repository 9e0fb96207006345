import Derived.Test.YtodiioeddlmjhaaGreatDoorT5
import Derived.Test.YtodiioeddlmjhaaGreatDoorE10
import Derived.Test.YtodiioeddlmjhaaGreatDoorT0
set_option linter.unusedVariables false
set_option linter.unusedSimpArgs false
namespace Go.Proofs.YtodiioeddlmjhaaGreatDoor
open Go.RowKit Go.Ev
set_option maxRecDepth 100000
set_option linter.unusedVariables false
set_option linter.unusedSimpArgs false
attribute [local irreducible] Go.Ev.opE
end Go.Proofs.YtodiioeddlmjhaaGreatDoor
namespace Go.Proofs.YtodiioeddlmjhaaGreatDoor
open Go.RowKit Go.Ev
set_option maxRecDepth 100000
set_option linter.unusedVariables false
set_option linter.unusedSimpArgs false
attribute [local irreducible] Go.Ev.opE
end Go.Proofs.YtodiioeddlmjhaaGreatDoor
namespace Go.Proofs.YtodiioeddlmjhaaGreatDoor
open Go.RowKit Go.Ev
set_option maxRecDepth 100000
set_option linter.unusedVariables false
set_option linter.unusedSimpArgs false
attribute [local irreducible] Go.Ev.opE
end Go.Proofs.YtodiioeddlmjhaaGreatDoor
namespace Go.Proofs.YtodiioeddlmjhaaGreatDoor
open Go.RowKit Go.Ev
set_option maxRecDepth 100000
set_option linter.unusedVariables false
set_option linter.unusedSimpArgs false
attribute [local irreducible] Go.Ev.opE
set_option maxHeartbeats 2000000 in
theorem refIn (n a b : Int) : Pu Tryz.prog 133 [.int .i64 n, .int .i64 a, .int .i64 b] (.bool (amongB n a b)) := by
 intro S
 obtain ⟨q1, h1⟩ : ∃ q, decide (a ≤ n) = q := ⟨_, rfl⟩
 obtain ⟨q2, h2⟩ : ∃ q, decide (n ≤ b) = q := ⟨_, rfl⟩
 refine CallTo.of (n := 15) Tryz.func133 rfl rfl ?_
 repeat' first
  | refine Opl.val (op_int rfl rfl rfl (leq_i h1)) rfl ?_
  | refine Opl.val (op_int rfl rfl rfl (leq_i h2)) rfl ?_
  | refine op_gyes rfl ?_ rfl
  | refine .gn ?_
  | (refine Opl.gonTN rfl rfl (fun hq => ?_) (fun hq => ?_) <;> subst hq)
  | (refine Opl.gonFN rfl rfl (fun hq => ?_) (fun hq => ?_) <;> subst hq)
  | (refine Opl.gonT rfl rfl (fun hq => ?_) (fun hq => ?_) <;> subst hq)
  | (refine Opl.gonF rfl rfl (fun hq => ?_) (fun hq => ?_) <;> subst hq)
  | refine Go.condT rfl ?_
  | refine Go.condF rfl ?_
  | (refine Go.condN rfl (fun hq => ?_) (fun hq => ?_) <;> subst hq)
  | (refine Go.condV rfl (fun hq => ?_) (fun hq => ?_) <;> subst hq)
  | exact At.fnr rfl rfl rfl ⟨pack_b (by unfold amongB; rw [h1, h2]; simp only [Bool.true_and, Bool.false_and]), Same.refl S⟩
  | refine .std ?_ | refine .nil ?_ | refine .seq ?_ | refine .region ?_ | refine .xs ?_ | refine .kb ?_ | refine .leaf ?_ | refine .block ?_ | refine .gn ?_ | refine .dr ?_ | fail
set_option maxHeartbeats 2000000 in
theorem refIndex {l : List (List UInt8)} {nv : V} (h : StrsV l nv) (s : List UInt8) : PuQ Tryz.prog 198 [nv, .str s] (fun v => ∃ r : Int, v = .int .i64 r ∧ decide (r ≥ 0) = l.contains s) := by
 obtain ⟨h1, h2, h3⟩ := h
 have h2 : (elems nv).length ≤ 9223372036854775807 := h2
 intro S
 refine CallTo.of (n := 19) Tryz.func198 rfl rfl ?_
 repeat' first | refine .std ?_ | refine .nil ?_ | refine .seq ?_ | refine .region ?_ | refine .xs ?_ | refine .kb ?_ | refine .leaf ?_ | refine .block ?_ | refine .gn ?_ | refine .dr ?_ | fail
 refine Go.weaken (E' := [(0, nv), (1, .str s), (5, .int .i64 (0 : Nat))]) ?_ ⟨rfl, rfl, rfl, trivial⟩
 refine Go.loop_ind (α := Nat) (fun i => (elems nv).length - i) (fun i E S' => E = [(0, nv), (1, .str s), (5, .int .i64 i)] ∧ i ≤ (elems nv).length ∧ Same S S' ∧ l.contains s = (l.drop i).contains s) ?_ 0 _ _ ⟨rfl, Nat.zero_le _, Same.refl _, rfl⟩
 rintro i E S1 ⟨rfl, hi, k1, hc⟩ IH
 repeat' first
  | refine Opl.val (op_lenL rfl h1.isL rfl) rfl ?_
  | refine Opl.fresh (op_int rfl rfl rfl rfl) rfl (fun q hq => ?_)
  | refine .std ?_ | refine .nil ?_ | refine .seq ?_ | refine .region ?_ | refine .xs ?_ | refine .kb ?_ | refine .leaf ?_ | refine .block ?_ | refine .gn ?_ | refine .dr ?_ | fail
 refine Go.cond rfl (fun hq => ?_) (fun hq => ?_)
 ·subst hq
  have hq : i < (elems nv).length := by have := of_decide_eq_true (by assumption : decide ((i : Int) < ((elems nv).length : Nat)) = true); omega
  obtain ⟨x, v, hx, hix, ⟨hv, hs⟩, _⟩ := h3.at hq
  have hpt : Pt S1 (.cptr none v.cells 0) [.str x] := by rw [hv]; exact Pt.cptr _ _ _
  rw [contains_step hx] at hc
  obtain ⟨q, he⟩ : ∃ q, decide (x = s) = q := ⟨_, rfl⟩
  rw [show decide (s = x) = q by rw [← he]; exact decide_eq_decide.2 eq_comm] at hc
  cases q
  case true =>
   repeat' first
    | refine Opl.val (op_ixaV h1 rfl rfl hix) rfl ?_
    | refine Opl.val (op_str rfl rfl (eql_s he)) rfl ?_
    | refine Go.condT rfl ?_
    | exact At.fnr rfl rfl rfl ⟨⟨_, rfl, by rw [hc]; simp⟩, k1⟩
    | refine .std ?_ | refine .nil ?_ | refine .seq ?_ | refine .region ?_ | refine .xs ?_ | refine .kb ?_ | refine .leaf ?_ | refine .block ?_ | refine .gn ?_ | refine .dr ?_ | fail
  case false =>
   repeat' first
    | refine Opl.val (op_ixaV h1 rfl rfl hix) rfl ?_
    | refine Opl.val (op_str rfl rfl (eql_s he)) rfl ?_
    | refine Go.condF rfl ?_
    | refine Opl.val (op_int rfl rfl rfl (inc_ok (i := i) (by omega))) rfl ?_
    | exact (IH (i + 1) _ S1 (by omega) ⟨rfl, by omega, k1, by rw [hc]; simp⟩).weaken ⟨rfl, rfl, rfl, trivial⟩
    | refine .std ?_ | refine .nil ?_ | refine .seq ?_ | refine .region ?_ | refine .xs ?_ | refine .kb ?_ | refine .leaf ?_ | refine .block ?_ | refine .gn ?_ | refine .dr ?_ | fail
 ·subst hq
  have hq : (elems nv).length ≤ i := by have := of_decide_eq_false (by assumption : decide ((i : Int) < ((elems nv).length : Nat)) = false); omega
  have hnil : l.drop i = [] := List.drop_eq_nil_of_le (by rw [h3.1]; omega)
  rw [hnil] at hc
  repeat' first
   | exact At.fnr rfl rfl rfl ⟨⟨_, rfl, by rw [hc]; rfl⟩, k1⟩
   | refine .std ?_ | refine .nil ?_ | refine .seq ?_ | refine .region ?_ | refine .xs ?_ | refine .kb ?_ | refine .leaf ?_ | refine .block ?_ | refine .gn ?_ | refine .dr ?_ | fail
theorem refHas {l : List (List UInt8)} {nv : V} (h : StrsV l nv) (s : List UInt8) : Pu Tryz.prog 155 [nv, .str s] (.bool (l.contains s)) := by
 intro S
 have k0 : Same S S := Same.refl S
 refine CallTo.of (n := 9) Tryz.func155 rfl rfl ?_
 repeat' first
  | (refine Opl.callQ (by assumption) rfl (by kernel_rfl) (refIndex h s) rfl (fun v S1 hv k1 => ?_); obtain ⟨r, rfl, hr⟩ := hv)
  | refine Opl.val (op_int rfl rfl rfl (geq_i (by assumption))) rfl ?_
  | exact At.fnr rfl rfl rfl ⟨rfl, by assumption⟩
  | refine .std ?_ | refine .nil ?_ | refine .seq ?_ | refine .region ?_ | refine .xs ?_ | refine .kb ?_ | refine .leaf ?_ | refine .block ?_ | refine .gn ?_ | refine .dr ?_ | fail
set_option maxHeartbeats 8000000 in
theorem refWord (s : List UInt8) (hl : s.length ≤ huge) (low high : Int) (u : Bool) (n : Nat) (hf : ∀ c : UInt8, Nat.beq (kindB c) n = ((decide ((c.toNat : Int) ≥ low) && decide ((c.toNat : Int) ≤ high)) || (u && decide ((c.toNat : Int) = 95)))) :
 Pu Tryz.prog 154 [.str s, .int .u8 low, .int .u8 high, .bool u] (.bool (wordB s n)) := by
 have hl : s.length ≤ 9223372036854775807 := hl
 intro S
 have k0 : Same S S := Same.refl S
 have c0 := refIn (s.length : Nat) 1 12
 cases hs0 : s[0]? with
 | none =>
  have : s = [] := by cases s with
   | nil => rfl
   | cons a l => cases hs0
  subst this
  rw [show amongB ((([] : List UInt8).length : Nat) : Int) 1 12 = false from rfl] at c0
  refine CallTo.of (n := 72) Tryz.func154 rfl rfl ?_
  repeat' first
   | refine Opl.callS k0 rfl (by kernel_rfl) c0 rfl (fun S4 k4 => ?_)
   | refine .gn ?_
   | refine Go.condT rfl ?_
   | exact At.fnr rfl rfl rfl ⟨rfl, by assumption⟩
   | refine .std ?_ | refine .nil ?_ | refine .seq ?_ | refine .region ?_ | refine .xs ?_ | refine .kb ?_ | refine .leaf ?_ | refine .block ?_ | refine .gn ?_ | refine .dr ?_ | fail
 | some c =>
  have hw : wordB s n = (Nat.ble s.length 12 && Nat.beq (kindB c) n && s.all fun c => Nat.ble 2 (kindB c)) := by
   cases s with
   | nil => cases hs0
   | cons a l => cases hs0; rfl
  have hpos : 0 < s.length := by cases s with
   | nil => cases hs0
   | cons a l => simp
  have hb : Nat.ble s.length 12 = amongB (s.length : Nat) 1 12 := by
   unfold amongB
   rw [Bool.eq_iff_iff]
   simp only [Nat.ble_eq, Bool.and_eq_true, decide_eq_true_eq]
   omega
  rw [hb, hf c] at hw
  obtain ⟨q0, h0⟩ : ∃ q, amongB (s.length : Nat) 1 12 = q := ⟨_, rfl⟩
  obtain ⟨q1, h1⟩ : ∃ q, decide ((c.toNat : Int) ≥ low) = q := ⟨_, rfl⟩
  obtain ⟨q2, h2⟩ : ∃ q, decide ((c.toNat : Int) ≤ high) = q := ⟨_, rfl⟩
  obtain ⟨q3, h3⟩ : ∃ q, decide ((c.toNat : Int) = 95) = q := ⟨_, rfl⟩
  obtain ⟨al, hal⟩ : ∃ q, (s.all fun c => Nat.ble 2 (kindB c)) = q := ⟨_, rfl⟩
  rw [h0] at c0
  rw [h0, h1, h2, h3, hal] at hw
  clear hf
  refine CallTo.of (n := 72) Tryz.func154 rfl rfl ?_
  have hloop : ∀ S1, Same S S1 → (q0 && ((q1 && q2) || (u && q3))) = true → Go Tryz.prog ⟨72, [], .norm⟩ [(0, .str s)] S1 (bodyT Tryz.f154 2) (Kf Tryz.prog Tryz.f154 (fun v S' => v = .bool (wordB s n) ∧ Same S S') (fun _ _ => False)) := by
   intro S1 k1 hq
   have hw : wordB s n = al := by rw [hw, hq]; rfl
   repeat' first | refine .std ?_ | refine .nil ?_ | refine .seq ?_ | refine .region ?_ | refine .xs ?_ | refine .kb ?_ | refine .leaf ?_ | refine .block ?_ | refine .gn ?_ | refine .dr ?_ | fail
   refine Go.weaken (E' := [(0, .str s), (9, .int .i64 (0 : Nat))]) ?_ ⟨rfl, rfl, trivial⟩
   refine Go.loop_ind (α := Nat) (fun i => s.length - i) (fun i E S' => E = [(0, .str s), (9, .int .i64 i)] ∧ i ≤ s.length ∧ Same S S' ∧ al = (s.drop i).all fun c => Nat.ble 2 (kindB c)) ?_ 0 _ _ ⟨rfl, Nat.zero_le _, k1, hal.symm⟩
   rintro i E S2 ⟨rfl, hi, k2, hall⟩ IH
   by_cases hq : i < s.length
   ·have hlt : decide ((i : Int) < (s.length : Nat)) = true := decide_eq_true (by omega)
    rw [all_step hq] at hall
    obtain ⟨b, hb⟩ : ∃ b, s[i] = b := ⟨_, rfl⟩
    have hix : s[i]? = some b := by rw [List.getElem?_eq_getElem hq, hb]
    rw [hb, kind_word] at hall
    obtain ⟨p1, g1⟩ : ∃ q, decide ((b.toNat : Int) ≥ 97) = q := ⟨_, rfl⟩
    obtain ⟨p2, g2⟩ : ∃ q, decide ((b.toNat : Int) ≤ 122) = q := ⟨_, rfl⟩
    obtain ⟨p3, g3⟩ : ∃ q, decide ((b.toNat : Int) ≥ 65) = q := ⟨_, rfl⟩
    obtain ⟨p4, g4⟩ : ∃ q, decide ((b.toNat : Int) ≤ 90) = q := ⟨_, rfl⟩
    obtain ⟨p5, g5⟩ : ∃ q, decide ((b.toNat : Int) ≥ 48) = q := ⟨_, rfl⟩
    obtain ⟨p6, g6⟩ : ∃ q, decide ((b.toNat : Int) ≤ 57) = q := ⟨_, rfl⟩
    obtain ⟨p7, g7⟩ : ∃ q, decide ((b.toNat : Int) = 95) = q := ⟨_, rfl⟩
    rw [g1, g2, g3, g4, g5, g6, g7] at hall
    repeat' first
     | refine Opl.val (op_int rfl rfl rfl (lss_i hlt)) rfl ?_
     | refine Opl.val (op_idxS (i := i) rfl rfl hix) rfl ?_
     | refine Opl.val (op_int rfl rfl rfl (geq_i g1)) rfl ?_
     | refine Opl.val (op_int rfl rfl rfl (leq_i g2)) rfl ?_
     | refine Opl.val (op_int rfl rfl rfl (geq_i g3)) rfl ?_
     | refine Opl.val (op_int rfl rfl rfl (leq_i g4)) rfl ?_
     | refine Opl.val (op_int rfl rfl rfl (geq_i g5)) rfl ?_
     | refine Opl.val (op_int rfl rfl rfl (leq_i g6)) rfl ?_
     | refine Opl.val (op_int rfl rfl rfl (eql_i g7)) rfl ?_
     | refine Opl.val (op_int rfl rfl rfl (inc_ok (i := i) (by omega))) rfl ?_
     | refine op_gyes rfl ?_ rfl
     | refine .gn ?_
     | (refine Opl.gonTN rfl rfl (fun hq => ?_) (fun hq => ?_) <;> subst hq)
     | (refine Opl.gonFN rfl rfl (fun hq => ?_) (fun hq => ?_) <;> subst hq)
     | (refine Opl.gonT rfl rfl (fun hq => ?_) (fun hq => ?_) <;> subst hq)
     | (refine Opl.gonF rfl rfl (fun hq => ?_) (fun hq => ?_) <;> subst hq)
     | refine Go.condT rfl ?_
     | refine Go.condF rfl ?_
     | (refine Go.condN rfl (fun hq => ?_) (fun hq => ?_) <;> subst hq)
     | (refine Go.condV rfl (fun hq => ?_) (fun hq => ?_) <;> subst hq)
     | exact At.fnr rfl rfl rfl ⟨pack_b (by rw [hw, hall]; rfl), k2⟩
     | exact (IH (i + 1) _ S2 (by omega) ⟨rfl, by omega, k2, by rw [hall]; rfl⟩).weaken ⟨rfl, rfl, trivial⟩
     | refine .std ?_ | refine .nil ?_ | refine .seq ?_ | refine .region ?_ | refine .xs ?_ | refine .kb ?_ | refine .leaf ?_ | refine .block ?_ | refine .gn ?_ | refine .dr ?_ | fail
   ·have hlt : decide ((i : Int) < (s.length : Nat)) = false := decide_eq_false (by omega)
    have hnil : s.drop i = [] := List.drop_eq_nil_of_le (by omega)
    rw [hnil] at hall
    repeat' first
     | refine Opl.val (op_int rfl rfl rfl (lss_i hlt)) rfl ?_
     | refine Go.condF rfl ?_
     | exact At.fnr rfl rfl rfl ⟨pack_b (by rw [hw, hall]; rfl), k2⟩
     | refine .std ?_ | refine .nil ?_ | refine .seq ?_ | refine .region ?_ | refine .xs ?_ | refine .kb ?_ | refine .leaf ?_ | refine .block ?_ | refine .gn ?_ | refine .dr ?_ | fail
  refine Go.seq (Go.region ?_)
  refine Opl.std ?_
  refine Opl.nil (At.seq (Go.seq ?_))
  refine Go.joinS (fun E S' => Sub [(0, .str s)] E ∧ Same S S' ∧ (q0 && ((q1 && q2) || (u && q3))) = true) (fun E S9 ⟨hE, k9, hq9⟩ => (hloop S9 k9 hq9).weaken hE) (fun hj => ?_)
  repeat' first
   | exact hj _ _ ⟨⟨rfl, trivial⟩, by assumption, rfl⟩
   | refine Opl.callS k0 rfl (by kernel_rfl) c0 rfl (fun S4 k4 => ?_)
   | refine Opl.val (op_idxS (i := 0) rfl rfl hs0) rfl ?_
   | refine Opl.val (op_int rfl rfl rfl (geq_i h1)) rfl ?_
   | refine Opl.val (op_int rfl rfl rfl (leq_i h2)) rfl ?_
   | refine Opl.val (op_int rfl rfl rfl (eql_i h3)) rfl ?_
   | refine op_gyes rfl ?_ rfl
   | refine .gn ?_
   | (refine Opl.gonTN rfl rfl (fun hq => ?_) (fun hq => ?_) <;> subst hq)
   | (refine Opl.gonFN rfl rfl (fun hq => ?_) (fun hq => ?_) <;> subst hq)
   | (refine Opl.gonT rfl rfl (fun hq => ?_) (fun hq => ?_) <;> subst hq)
   | (refine Opl.gonF rfl rfl (fun hq => ?_) (fun hq => ?_) <;> subst hq)
   | refine Go.condT rfl ?_
   | refine Go.condF rfl ?_
   | (refine Go.condN rfl (fun hq => ?_) (fun hq => ?_) <;> subst hq)
   | (refine Go.condV rfl (fun hq => ?_) (fun hq => ?_) <;> subst hq)
   | exact At.fnr rfl rfl rfl ⟨pack_b (by rw [hw]; rfl), by assumption⟩
   | refine .std ?_ | refine .nil ?_ | refine .seq ?_ | refine .region ?_ | refine .xs ?_ | refine .kb ?_ | refine .leaf ?_ | refine .block ?_ | refine .gn ?_ | refine .dr ?_ | fail
theorem kwStrs : ∃ v, ent156 = ⟨v, 0, []⟩ ∧ ∀ k, (∃ lt tk, v.up k = .list lt 1 (kws.map V.str) tk) := ⟨_, rfl, fun k => ⟨_, _, rfl⟩⟩
theorem kwCallR (S : St) : ∃ S' v, lim Tryz.prog (.call 156 []) S = some (.ret v S') ∧ Same S S' ∧ StrsV kws v := by
 obtain ⟨v, h1, h2⟩ := kwStrs
 have h := lim_tab (P := Tryz.prog) (f := 156) (E := ent156) rfl S
 rw [h1] at h
 obtain ⟨lt, tk, hv⟩ := h2 S.next
 refine ⟨_, _, h, ⟨by simp [St.add], fun id _ => rfl⟩, ?_⟩
 rw [hv]
 have hk : ∀ s ∈ kws, s.length ≤ huge := by decide
 exact ⟨.inr (.inr ⟨_, _, _, rfl⟩), by show (kws.map V.str).length ≤ huge; decide, strs_map hk⟩
set_option maxHeartbeats 2000000 in
theorem refIsVar (s : List UInt8) (hl : s.length ≤ huge) : Pu Tryz.prog 92 [.str s] (.bool (isVarB s)) := by
 intro S
 have k0 : Same S S := Same.refl S
 have c1 := refWord s hl 97 122 true 2 kind_var
 obtain ⟨q1, h1⟩ : ∃ q, wordB s 2 = q := ⟨_, rfl⟩
 obtain ⟨q2, h2⟩ : ∃ q, isKw s = q := ⟨_, rfl⟩
 rw [h1] at c1
 have hspec : isVarB s = (q1 && !q2) := by unfold isVarB; rw [h1, h2]
 refine CallTo.of (n := 11) Tryz.func92 rfl rfl ?_
 repeat' first
  | refine Opl.callS k0 rfl (by kernel_rfl) c1 rfl (fun S4 k4 => ?_)
  | refine .std ?_ | refine .nil ?_ | refine .seq ?_ | refine .region ?_ | refine .xs ?_ | refine .kb ?_ | refine .leaf ?_ | refine .block ?_ | refine .gn ?_ | refine .dr ?_ | fail
 obtain ⟨S5, kv, h5, k5, hkv⟩ := kwCallR S4
 have c2 : Pu Tryz.prog 155 [kv, .str s] (.bool q2) := h2 ▸ refHas hkv s
 have k45 : Same S S5 := k4.trans k5
 repeat' first
  | refine Opl.callr rfl (by kernel_rfl) h5 rfl ?_
  | refine Opl.callS k45 rfl (by kernel_rfl) c2 rfl (fun S6 k6 => ?_)
  | refine op_gyes rfl ?_ rfl
  | refine .gn ?_
  | (refine Opl.gonTN rfl rfl (fun hq => ?_) (fun hq => ?_) <;> subst hq)
  | (refine Opl.gonFN rfl rfl (fun hq => ?_) (fun hq => ?_) <;> subst hq)
  | (refine Opl.gonT rfl rfl (fun hq => ?_) (fun hq => ?_) <;> subst hq)
  | (refine Opl.gonF rfl rfl (fun hq => ?_) (fun hq => ?_) <;> subst hq)
  | refine Go.condT rfl ?_
  | refine Go.condF rfl ?_
  | (refine Go.condN rfl (fun hq => ?_) (fun hq => ?_) <;> subst hq)
  | (refine Go.condV rfl (fun hq => ?_) (fun hq => ?_) <;> subst hq)
  | exact At.fnr rfl rfl rfl ⟨pack_b (by rw [hspec]; rfl), by assumption⟩
  | refine .std ?_ | refine .nil ?_ | refine .seq ?_ | refine .region ?_ | refine .xs ?_ | refine .kb ?_ | refine .leaf ?_ | refine .block ?_ | refine .gn ?_ | refine .dr ?_ | fail
theorem refIsUpper (s : List UInt8) (hl : s.length ≤ huge) : Pu Tryz.prog 151 [.str s] (.bool (isUpperB s)) := by
 intro S
 have k0 : Same S S := Same.refl S
 have c1 := refWord s hl 65 90 false 3 kind_upper
 refine CallTo.of (n := 5) Tryz.func151 rfl rfl ?_
 repeat' first
  | refine Opl.callS k0 rfl (by kernel_rfl) c1 rfl (fun S4 k4 => ?_)
  | exact At.fnr rfl rfl rfl ⟨rfl, by assumption⟩
  | refine .std ?_ | refine .nil ?_ | refine .seq ?_ | refine .region ?_ | refine .xs ?_ | refine .kb ?_ | refine .leaf ?_ | refine .block ?_ | refine .gn ?_ | refine .dr ?_ | fail
set_option maxHeartbeats 4000000 in
theorem refClass (s : List UInt8) (hl : s.length ≤ huge) (n : Nat) (hn : n < 4) : Pu Tryz.prog 134 [.str s, .int .i64 n] (.bool (clsB s n)) := by
 intro S
 have k0 : Same S S := Same.refl S
 have c1 := refIsVar s hl
 have c2 := refIsUpper s hl
 have hp : ∀ s ∈ ([[43], [45], [42], [60], [61, 61]] : List (List UInt8)), s.length ≤ huge := by decide
 have c3 := refHas (l := [[43], [45], [42], [60], [61, 61]]) (nv := .list (some 9) 1 [.str [43], .str [45], .str [42], .str [60], .str [61, 61]] .exact) ⟨.inr (.inr ⟨_, _, _, rfl⟩), by show 5 ≤ huge; decide, strs_map hp⟩ s
 have hbs : buildSliceE Tryz.prog 23 5 [(0, .str [43]), (1, .str [45]), (2, .str [42]), (3, .str [60]), (4, .str [61, 61])] = some (.list (some 9) 1 [.str [43], .str [45], .str [42], .str [60], .str [61, 61]] .exact) := by kernel_rfl
 refine CallTo.of (n := 20) Tryz.func134 rfl rfl ?_
 have h4 : n = 0 ∨ n = 1 ∨ n = 2 ∨ n = 3 := by omega
 rcases h4 with rfl | rfl | rfl | rfl
 ·obtain ⟨q0, h0⟩ : ∃ q, decide (s = []) = q := ⟨_, rfl⟩
  repeat' first
   | refine Opl.val (op_str rfl rfl (eql_s h0)) rfl ?_
   | refine Go.condF rfl ?_
   | exact At.fnr rfl rfl rfl ⟨pack_b h0.symm, by assumption⟩
   | refine .std ?_ | refine .nil ?_ | refine .seq ?_ | refine .region ?_ | refine .xs ?_ | refine .kb ?_ | refine .leaf ?_ | refine .block ?_ | refine .gn ?_ | refine .dr ?_ | fail
 ·skip
  repeat' first
   | refine Opl.callS k0 rfl (by kernel_rfl) c1 rfl (fun S4 k4 => ?_)
   | refine Go.condT rfl ?_
   | refine Go.condF rfl ?_
   | exact At.fnr rfl rfl rfl ⟨rfl, by assumption⟩
   | refine .std ?_ | refine .nil ?_ | refine .seq ?_ | refine .region ?_ | refine .xs ?_ | refine .kb ?_ | refine .leaf ?_ | refine .block ?_ | refine .gn ?_ | refine .dr ?_ | fail
 ·skip
  repeat' first
   | refine Opl.callS k0 rfl (by kernel_rfl) c2 rfl (fun S4 k4 => ?_)
   | refine Go.condT rfl ?_
   | refine Go.condF rfl ?_
   | exact At.fnr rfl rfl rfl ⟨rfl, by assumption⟩
   | refine .std ?_ | refine .nil ?_ | refine .seq ?_ | refine .region ?_ | refine .xs ?_ | refine .kb ?_ | refine .leaf ?_ | refine .block ?_ | refine .gn ?_ | refine .dr ?_ | fail
 ·have hr : clsB s 3 = ([[43], [45], [42], [60], [61, 61]] : List (List UInt8)).contains s := by
   rw [Bool.eq_iff_iff]
   simp [clsB, or_assoc]
  repeat' first
   | refine Opl.val (op_bsG rfl hbs) rfl ?_
   | refine Opl.callS k0 rfl (by kernel_rfl) c3 rfl (fun S4 k4 => ?_)
   | refine Go.condT rfl ?_
   | refine Go.condF rfl ?_
   | exact At.fnr rfl rfl rfl ⟨pack_b hr.symm, by assumption⟩
   | refine .std ?_ | refine .nil ?_ | refine .seq ?_ | refine .region ?_ | refine .xs ?_ | refine .kb ?_ | refine .leaf ?_ | refine .block ?_ | refine .gn ?_ | refine .dr ?_ | fail
end Go.Proofs.YtodiioeddlmjhaaGreatDoor
namespace Go.Proofs.YtodiioeddlmjhaaGreatDoor
open Go.RowKit Go.Ev
set_option maxRecDepth 100000
set_option linter.unusedVariables false
set_option linter.unusedSimpArgs false
attribute [local irreducible] Go.Ev.opE
end Go.Proofs.YtodiioeddlmjhaaGreatDoor
