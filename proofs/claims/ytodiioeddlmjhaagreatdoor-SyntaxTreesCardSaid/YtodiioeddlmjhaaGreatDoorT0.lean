import Derived.Test.YtodiioeddlmjhaaGreatDoorTab
import Derived.Test.YtodiioeddlmjhaaGreatDoorE10
set_option linter.unusedVariables false
set_option linter.unusedSimpArgs false
namespace Go.Proofs.YtodiioeddlmjhaaGreatDoor
open Go.RowKit Go.Ev
set_option maxRecDepth 100000
set_option linter.unusedVariables false
set_option linter.unusedSimpArgs false
attribute [local irreducible] Go.Ev.opE
theorem pack_n {a b : Int} (h : a = b) : packV [V.int .i64 a] = V.int .i64 b := by rw [h]; rfl
set_option maxHeartbeats 2000000 in
theorem kindF (c : UInt8) : Pu Tryz.prog 202 [.int .u8 c.toNat] (.int .i64 (kindB c : Nat)) := by
 intro S
 rw [kindB_nat]
 refine CallTo.of (n := 39) Tryz.func202 rfl rfl ?_
 repeat' first
  | refine Opl.fresh (op_int rfl rfl rfl rfl) rfl (fun q hq => ?_)
  | refine op_gyes rfl ?_ rfl
  | refine .gn ?_
  | (refine Opl.gonTN rfl rfl (fun hq => ?_) (fun hq => ?_) <;> subst hq)
  | (refine Opl.gonFN rfl rfl (fun hq => ?_) (fun hq => ?_) <;> subst hq)
  | (refine Opl.gonT rfl rfl (fun hq => ?_) (fun hq => ?_) <;> subst hq)
  | (refine Opl.gonF rfl rfl (fun hq => ?_) (fun hq => ?_) <;> subst hq)
  | refine Go.condT rfl ?_
  | refine Go.condF rfl ?_
  | (refine Go.condN rfl (fun hq => ?_) (fun hq => ?_) <;> subst hq)
  | (refine Go.condV rfl (fun hq => ?_) (fun hq => ?_) <;> subst hq)
  | refine At.fnr rfl rfl rfl ⟨pack_n ?_, Same.refl _⟩
  | refine .std ?_ | refine .nil ?_ | refine .seq ?_ | refine .region ?_ | refine .xs ?_ | refine .kb ?_ | refine .leaf ?_ | refine .block ?_ | refine .gn ?_ | refine .dr ?_ | fail
 all_goals
  simp only [beq_iff_eq, beq_eq_false_iff_ne, decide_eq_true_eq, decide_eq_false_iff_not, ne_eq] at *
  (repeat' split) <;> first | rfl | omega
end Go.Proofs.YtodiioeddlmjhaaGreatDoor
namespace Go.Proofs.YtodiioeddlmjhaaGreatDoor
open Go.RowKit Go.Ev
set_option maxRecDepth 100000
set_option linter.unusedVariables false
set_option linter.unusedSimpArgs false
attribute [local irreducible] Go.Ev.opE
theorem kindF2 (c : UInt8) {n : Int} (h : n = c.toNat) : Pu Tryz.prog 202 [.int .u8 n] (.int .i64 (kindB c : Nat)) := by rw [h]; exact kindF c
theorem all_step {s : List UInt8} {i : Nat} {f : UInt8 → Bool} (h : i < s.length) : (s.drop i).all f = (f s[i] && (s.drop (i + 1)).all f) := by
 rw [List.drop_eq_getElem_cons h]; rfl
theorem kind_big {b : UInt8} (h : 128 ≤ b.toNat) : Nat.ble 2 (kindB b) = false := by
 rw [kindB_nat, if_neg (by omega), if_neg (by omega), if_neg (by omega), if_neg (by omega)]; rfl
set_option maxHeartbeats 4000000 in
theorem wordNil (n : Nat) : Pu Tryz.prog 193 [.str [], .int .i64 n] (.bool (wordB [] n)) := by
 intro S
 have hE : strOp .eql [] [] = some (.bool true) := str_eql []
 refine CallTo.of (n := 34) Tryz.func193 rfl rfl ?_
 repeat' first
  | refine Opl.val (op_str rfl rfl hE) rfl ?_
  | refine Go.condT rfl ?_
  | exact At.fnr rfl rfl rfl ⟨rfl, Same.refl _⟩
  | refine .std ?_ | refine .nil ?_ | refine .seq ?_ | refine .region ?_ | refine .xs ?_ | refine .kb ?_ | refine .leaf ?_ | refine .block ?_ | refine .gn ?_ | refine .dr ?_ | fail
set_option maxHeartbeats 4000000 in
theorem wordCons (c : UInt8) (l : List UInt8) (n : Nat) (hl : (c :: l).length ≤ huge) : Pu Tryz.prog 193 [.str (c :: l), .int .i64 n] (.bool (wordB (c :: l) n)) := by
 have hl : (c :: l).length ≤ 9223372036854775807 := hl
 intro S
 have hE : strOp .eql (c :: l) [] = some (.bool false) := eql_s (by simp)
 obtain ⟨s, hs⟩ : ∃ s, c :: l = s := ⟨_, rfl⟩
 have hs0 : s[0]? = some c := by rw [← hs]; rfl
 have hw : wordB s n = (Nat.ble s.length 12 && Nat.beq (kindB c) n && s.all fun c => Nat.ble 2 (kindB c)) := by rw [← hs]; rfl
 rw [hs] at hE hl ⊢
 clear hs
 obtain ⟨q1, h1⟩ : ∃ q, decide ((s.length : Int) > 12) = q := ⟨_, rfl⟩
 obtain ⟨q2, h2⟩ : ∃ q, (!decide ((kindB c : Int) = n)) = q := ⟨_, rfl⟩
 have e1 : Nat.ble s.length 12 = !q1 := ble_gtr h1
 have e2 : Nat.beq (kindB c) n = !q2 := beq_neq h2
 rw [e1, e2] at hw
 have k0 : Same S S := Same.refl S
 refine CallTo.of (n := 34) Tryz.func193 rfl rfl ?_
 repeat' first
  | refine Opl.val (op_str rfl rfl hE) rfl ?_
  | refine Opl.val (op_int rfl rfl rfl (gtr_i h1)) rfl ?_
  | refine Opl.val (op_int rfl rfl rfl (neq_i h2)) rfl ?_
  | refine Opl.val (op_idxS (i := 0) rfl rfl hs0) rfl ?_
  | refine Opl.callS (by assumption) rfl (by kernel_rfl) (kindF c) rfl (fun S1 k1 => ?_)
  | refine Opl.val (op_rangeS rfl) rfl ?_
  | refine op_gyes rfl ?_ rfl
  | refine .gn ?_
  | (refine Opl.gonTN rfl rfl (fun hq => ?_) (fun hq => ?_) <;> subst hq)
  | (refine Opl.gonFN rfl rfl (fun hq => ?_) (fun hq => ?_) <;> subst hq)
  | (refine Opl.gonT rfl rfl (fun hq => ?_) (fun hq => ?_) <;> subst hq)
  | (refine Opl.gonF rfl rfl (fun hq => ?_) (fun hq => ?_) <;> subst hq)
  | refine Go.condT rfl ?_
  | refine Go.condF rfl ?_
  | (refine Go.condN rfl (fun hq => ?_) (fun hq => ?_) <;> subst hq)
  | (refine Go.condV rfl (fun hq => ?_) (fun hq => ?_) <;> subst hq)
  | exact At.fnr rfl rfl rfl ⟨pack_b (by rw [hw]; simp only [Bool.not_true, Bool.not_false, Bool.false_and, Bool.and_false, Bool.true_and]), by assumption⟩
  | refine .std ?_ | refine .nil ?_ | refine .seq ?_ | refine .region ?_ | refine .xs ?_ | refine .kb ?_ | refine .leaf ?_ | refine .block ?_ | refine .gn ?_ | refine .dr ?_ | fail
 simp only [Bool.not_false, Bool.true_and] at hw
 refine Go.weaken (E' := [(22, .ptr S1.next 0)]) ?_ ⟨rfl, trivial⟩
 refine Go.loop_ind (α := Nat) (fun i => s.length - i) (fun i E S' => E = [(22, .ptr S1.next 0)] ∧ i ≤ s.length ∧ S'.h.find S1.next = some (.oth (.sit s i)) ∧ S1.next < S'.next ∧ Same S1 S' ∧ wordB s n = (s.drop i).all fun c => Nat.ble 2 (kindB c)) ?_ 0 _ _
  ⟨rfl, Nat.zero_le _, find_new S1 _, by simp [St.new], Same.new _ _, by rw [hw]; rfl⟩
 rintro i E S2 ⟨rfl, hi, hf, hlt, k2, hall⟩ IH
 by_cases hq : i < s.length
 ·rw [all_step hq] at hall
  obtain ⟨b, hb⟩ : ∃ b, s[i] = b := ⟨_, rfl⟩
  rw [hb] at hall
  have hnx := op_nextS (P := Tryz.prog) (ev := Env.opd [(22, .ptr S1.next 0)]) (x := .tmp 22) rfl hf hq
  by_cases ha : b.toNat < 128
  ·have hd := decode_small' hq hb ha
   rw [hd] at hnx
   obtain ⟨S3, hS3⟩ : ∃ S3 : St, S3 = { S2 with h := S2.h.put S1.next (.oth (.sit s (i + 1))) } := ⟨_, rfl⟩
   have k3 : Same S1 S3 := by rw [hS3]; exact k2.put (Nat.le_refl _) _
   have f3 : S3.h.find S1.next = some (.oth (.sit s (i + 1))) := by rw [hS3]; simp [Tr.find_put]
   have l3 : S1.next < S3.next := by rw [hS3]; exact hlt
   have k33 : Same S3 S3 := Same.refl S3
   obtain ⟨q, h3⟩ : ∃ q, decide ((kindB b : Int) < 2) = q := ⟨_, rfl⟩
   have e3 : Nat.ble 2 (kindB b) = !q := ble_gtr h3
   rw [e3] at hall
   have hu : IntKind.wrap .u8 (b.toNat : Int) = (b.toNat : Int) := by rw [wrap_u8]; omega
   have hg : intOp .gtr .i32 (b.toNat : Int) 127 = some (.bool false) := gtr_i (decide_eq_false (by omega))
   cases q with
   | false =>
    simp only [Bool.not_false, Bool.true_and] at hall
    repeat' first
     | refine Opl.val hnx rfl (Opl.cast (S' := S3) ?_ hS3)
     | refine Opl.val (op_int rfl rfl rfl hg) rfl ?_
     | refine Opl.val (op_int rfl rfl rfl (lss_i h3)) rfl ?_
     | refine Opl.callS k33 rfl (by kernel_rfl) (kindF2 b hu) rfl (fun S4 k4 => ?_)
     | refine op_gyes rfl ?_ rfl
     | refine Go.condT rfl ?_
     | refine Go.condF rfl ?_
     | refine .std ?_ | refine .nil ?_ | refine .seq ?_ | refine .region ?_ | refine .xs ?_ | refine .kb ?_ | refine .leaf ?_ | refine .block ?_ | refine .gn ?_ | refine .dr ?_ | fail
    exact (IH (i + 1) _ S4 (by omega) ⟨rfl, by omega, by rw [k4.find _ l3]; exact f3, Nat.lt_of_lt_of_le l3 k4.next, k3.trans k4, hall⟩).weaken ⟨rfl, trivial⟩
   | true =>
    simp only [Bool.not_true, Bool.false_and] at hall
    repeat' first
     | refine Opl.val hnx rfl (Opl.cast (S' := S3) ?_ hS3)
     | refine Opl.val (op_int rfl rfl rfl hg) rfl ?_
     | refine Opl.val (op_int rfl rfl rfl (lss_i h3)) rfl ?_
     | refine Opl.callS k33 rfl (by kernel_rfl) (kindF2 b hu) rfl (fun S4 k4 => ?_)
     | refine op_gyes rfl ?_ rfl
     | refine Go.condT rfl ?_
     | refine Go.condF rfl ?_
     | exact At.fnr rfl rfl rfl ⟨pack_b hall.symm, k1.trans (k3.trans (by assumption))⟩
     | refine .std ?_ | refine .nil ?_ | refine .seq ?_ | refine .region ?_ | refine .xs ?_ | refine .kb ?_ | refine .leaf ?_ | refine .block ?_ | refine .gn ?_ | refine .dr ?_ | fail
  ·have hd := decode_big' hq hb (by omega)
   rw [kind_big (by omega)] at hall
   simp only [Bool.false_and] at hall
   obtain ⟨d, n', hdd⟩ : ∃ d n', Utf8.decode ⟨s.toArray⟩ i = (d, n') := ⟨_, _, rfl⟩
   rw [hdd] at hnx hd
   obtain ⟨S3, hS3⟩ : ∃ S3 : St, S3 = { S2 with h := S2.h.put S1.next (.oth (.sit s (i + n'))) } := ⟨_, rfl⟩
   have k3 : Same S1 S3 := by rw [hS3]; exact k2.put (Nat.le_refl _) _
   have hd : 128 ≤ d := hd
   have hg : intOp .gtr .i32 (d : Int) 127 = some (.bool true) := gtr_i (decide_eq_true (by omega))
   repeat' first
    | refine Opl.val hnx rfl (Opl.cast (S' := S3) ?_ hS3)
    | refine Opl.val (op_int rfl rfl rfl hg) rfl ?_
    | refine Go.condT rfl ?_
    | refine Go.condF rfl ?_
    | exact At.fnr rfl rfl rfl ⟨pack_b hall.symm, k1.trans k3⟩
    | refine .std ?_ | refine .nil ?_ | refine .seq ?_ | refine .region ?_ | refine .xs ?_ | refine .kb ?_ | refine .leaf ?_ | refine .block ?_ | refine .gn ?_ | refine .dr ?_ | fail
 ·have hnx := op_nextN (P := Tryz.prog) (ev := Env.opd [(22, .ptr S1.next 0)]) (x := .tmp 22) rfl hf (by omega)
  have hnil : s.drop i = [] := List.drop_eq_nil_of_le (by omega)
  rw [hnil] at hall
  repeat' first
   | refine Opl.val hnx rfl ?_
   | refine Go.condT rfl ?_
   | refine Go.condF rfl ?_
   | exact At.fnr rfl rfl rfl ⟨pack_b hall.symm, k1.trans k2⟩
   | refine .std ?_ | refine .nil ?_ | refine .seq ?_ | refine .region ?_ | refine .xs ?_ | refine .kb ?_ | refine .leaf ?_ | refine .block ?_ | refine .gn ?_ | refine .dr ?_ | fail
theorem wordF (s : List UInt8) (n : Nat) (hl : s.length ≤ huge) : Pu Tryz.prog 193 [.str s, .int .i64 n] (.bool (wordB s n)) := by
 cases s with
 | nil => exact wordNil n
 | cons c l => exact wordCons c l n hl
end Go.Proofs.YtodiioeddlmjhaaGreatDoor
namespace Go.Proofs.YtodiioeddlmjhaaGreatDoor
open Go.RowKit Go.Ev
set_option maxRecDepth 100000
set_option linter.unusedVariables false
set_option linter.unusedSimpArgs false
attribute [local irreducible] Go.Ev.opE
theorem kwObjs : ∃ es c, ent214.objs = [(0, .oth (.map es c))] ∧ (∀ k, keysOf (upEs k es) = some kws) ∧ ent214.v = .map 0 := ⟨_, _, rfl, fun k => rfl, rfl⟩
theorem kwCall (S : St) : ∃ S' es c, lim Tryz.prog (.call 214 []) S = some (.ret (.map S.next) S') ∧ Same S S' ∧ S'.h.find S.next = some (.oth (.map es c)) ∧ keysOf es = some kws := by
 obtain ⟨es, c, h1, h2, h3⟩ := kwObjs
 have h := lim_tab (P := Tryz.prog) (f := 214) (E := ent214) rfl S
 rw [h1, h3] at h
 refine ⟨S.add ent214.n [(0, .oth (.map es c))], upEs S.next es, c, ?_, add1_same _ _ _ _, ?_, h2 _⟩
 ·rw [h]; simp [V.up]
 ·have := add1_find S ent214.n 0 (.oth (.map es c))
  simpa [Ob.up] using this
theorem mapT_kw : mapT Tryz.prog 228 = some (.string, 70) := by kernel_rfl
theorem zero_kw : zeroV Tryz.prog 70 = some (.int .i64 0) := by kernel_rfl
set_option maxHeartbeats 2000000 in
theorem keywordF (s : List UInt8) : Pu Tryz.prog 194 [.str s] (.bool (isKw s)) := by
 intro S
 obtain ⟨S1, es, c, h1, k1, hf, hk⟩ := kwCall S
 obtain ⟨v, hl⟩ := op_look (P := Tryz.prog) (ev := Env.opd [(7, .str s), (6, .map S.next), (2, .bool false), (0, .str s)]) (x := .tmp 6) (y := .tmp 7) (S := S1) mapT_kw zero_kw rfl rfl hf hk
 refine CallTo.of (n := 12) Tryz.func194 rfl rfl ?_
 repeat' first
  | refine Opl.callr rfl (by kernel_rfl) h1 rfl ?_
  | refine Opl.val hl rfl ?_
  | exact At.fnr rfl rfl rfl ⟨rfl, k1⟩
  | refine .std ?_ | refine .nil ?_ | refine .seq ?_ | refine .region ?_ | refine .xs ?_ | refine .kb ?_ | refine .leaf ?_ | refine .block ?_ | refine .gn ?_ | refine .dr ?_ | fail
set_option maxHeartbeats 2000000 in
theorem isVarF (s : List UInt8) (hl : s.length ≤ huge) : Pu Tryz.prog 142 [.str s] (.bool (isVarB s)) := by
 intro S
 have k0 : Same S S := Same.refl S
 have c1 := wordF s 2 hl
 have c2 := keywordF s
 obtain ⟨q1, h1⟩ : ∃ q, wordB s 2 = q := ⟨_, rfl⟩
 obtain ⟨q2, h2⟩ : ∃ q, isKw s = q := ⟨_, rfl⟩
 rw [h1] at c1
 rw [h2] at c2
 refine CallTo.of (n := 10) Tryz.func142 rfl rfl ?_
 repeat' first
  | refine Opl.callS (by assumption) rfl (by kernel_rfl) c1 rfl (fun S4 k4 => ?_)
  | refine Opl.callS (by assumption) rfl (by kernel_rfl) c2 rfl (fun S4 k4 => ?_)
  | refine op_gyes rfl ?_ rfl
  | refine .gn ?_
  | (refine Opl.gonTN rfl rfl (fun hq => ?_) (fun hq => ?_) <;> subst hq)
  | (refine Opl.gonFN rfl rfl (fun hq => ?_) (fun hq => ?_) <;> subst hq)
  | (refine Opl.gonT rfl rfl (fun hq => ?_) (fun hq => ?_) <;> subst hq)
  | (refine Opl.gonF rfl rfl (fun hq => ?_) (fun hq => ?_) <;> subst hq)
  | refine Go.condT rfl ?_
  | refine Go.condF rfl ?_
  | (refine Go.condN rfl (fun hq => ?_) (fun hq => ?_) <;> subst hq)
  | (refine Go.condV rfl (fun hq => ?_) (fun hq => ?_) <;> subst hq)
  | exact At.fnr rfl rfl rfl ⟨pack_b (by unfold isVarB; rw [h1, h2]; simp only [Bool.true_and, Bool.false_and]), by assumption⟩
  | refine .std ?_ | refine .nil ?_ | refine .seq ?_ | refine .region ?_ | refine .xs ?_ | refine .kb ?_ | refine .leaf ?_ | refine .block ?_ | refine .gn ?_ | refine .dr ?_ | fail
theorem isUpperF (s : List UInt8) (hl : s.length ≤ huge) : Pu Tryz.prog 143 [.str s] (.bool (isUpperB s)) := by
 intro S
 have k0 : Same S S := Same.refl S
 have c1 := wordF s 3 hl
 refine CallTo.of (n := 5) Tryz.func143 rfl rfl ?_
 repeat' first
  | refine Opl.callS (by assumption) rfl (by kernel_rfl) c1 rfl (fun S4 k4 => ?_)
  | exact At.fnr rfl rfl rfl ⟨rfl, by assumption⟩
  | refine .std ?_ | refine .nil ?_ | refine .seq ?_ | refine .region ?_ | refine .xs ?_ | refine .kb ?_ | refine .leaf ?_ | refine .block ?_ | refine .gn ?_ | refine .dr ?_ | fail
set_option maxHeartbeats 4000000 in
theorem isF (s : List UInt8) (hl : s.length ≤ huge) (n : Nat) (hn : n < 4) : Pu Tryz.prog 81 [.str s, .int .i64 n] (.bool (clsB s n)) := by
 intro S
 have k0 : Same S S := Same.refl S
 have c1 := isVarF s hl
 have c2 := isUpperF s hl
 refine CallTo.of (n := 36) Tryz.func81 rfl rfl ?_
 have h4 : n = 0 ∨ n = 1 ∨ n = 2 ∨ n = 3 := by omega
 rcases h4 with rfl | rfl | rfl | rfl
 ·skip
  obtain ⟨q0, h0⟩ : ∃ q, decide (s = []) = q := ⟨_, rfl⟩
  repeat' first
   | refine Opl.val (op_str rfl rfl (eql_s h0)) rfl ?_
   | refine Go.condF rfl ?_
   | exact At.fnr rfl rfl rfl ⟨pack_b h0.symm, by assumption⟩
   | refine .std ?_ | refine .nil ?_ | refine .seq ?_ | refine .region ?_ | refine .xs ?_ | refine .kb ?_ | refine .leaf ?_ | refine .block ?_ | refine .gn ?_ | refine .dr ?_ | fail
 ·skip
  repeat' first
   | refine Opl.callS (by assumption) rfl (by kernel_rfl) c1 rfl (fun S4 k4 => ?_)
   | refine Go.condT rfl ?_
   | refine Go.condF rfl ?_
   | exact At.fnr rfl rfl rfl ⟨rfl, by assumption⟩
   | refine .std ?_ | refine .nil ?_ | refine .seq ?_ | refine .region ?_ | refine .xs ?_ | refine .kb ?_ | refine .leaf ?_ | refine .block ?_ | refine .gn ?_ | refine .dr ?_ | fail
 ·skip
  repeat' first
   | refine Opl.callS (by assumption) rfl (by kernel_rfl) c2 rfl (fun S4 k4 => ?_)
   | refine Go.condT rfl ?_
   | refine Go.condF rfl ?_
   | exact At.fnr rfl rfl rfl ⟨rfl, by assumption⟩
   | refine .std ?_ | refine .nil ?_ | refine .seq ?_ | refine .region ?_ | refine .xs ?_ | refine .kb ?_ | refine .leaf ?_ | refine .block ?_ | refine .gn ?_ | refine .dr ?_ | fail
 ·skip
  obtain ⟨q1, h1⟩ : ∃ q, decide (s = [43]) = q := ⟨_, rfl⟩
  obtain ⟨q2, h2⟩ : ∃ q, decide (s = [45]) = q := ⟨_, rfl⟩
  obtain ⟨q3, h3⟩ : ∃ q, decide (s = [42]) = q := ⟨_, rfl⟩
  obtain ⟨q4, h4⟩ : ∃ q, decide (s = [60]) = q := ⟨_, rfl⟩
  obtain ⟨q5, h5⟩ : ∃ q, decide (s = [61, 61]) = q := ⟨_, rfl⟩
  have hr : clsB s 3 = (q1 || q2 || q3 || q4 || q5) := by rw [← h1, ← h2, ← h3, ← h4, ← h5]; rfl
  repeat' first
   | refine Opl.val (op_str rfl rfl (eql_s h1)) rfl ?_
   | refine Opl.val (op_str rfl rfl (eql_s h2)) rfl ?_
   | refine Opl.val (op_str rfl rfl (eql_s h3)) rfl ?_
   | refine Opl.val (op_str rfl rfl (eql_s h4)) rfl ?_
   | refine Opl.val (op_str rfl rfl (eql_s h5)) rfl ?_
   | refine op_gyes rfl ?_ rfl
   | refine .gn ?_
   | (refine Opl.gonTN rfl rfl (fun hq => ?_) (fun hq => ?_) <;> subst hq)
   | (refine Opl.gonFN rfl rfl (fun hq => ?_) (fun hq => ?_) <;> subst hq)
   | (refine Opl.gonT rfl rfl (fun hq => ?_) (fun hq => ?_) <;> subst hq)
   | (refine Opl.gonF rfl rfl (fun hq => ?_) (fun hq => ?_) <;> subst hq)
   | refine Go.condT rfl ?_
   | refine Go.condF rfl ?_
   | (refine Go.condN rfl (fun hq => ?_) (fun hq => ?_) <;> subst hq)
   | (refine Go.condV rfl (fun hq => ?_) (fun hq => ?_) <;> subst hq)
   | exact At.fnr rfl rfl rfl ⟨pack_b (by rw [hr]; simp only [Bool.true_or, Bool.false_or, Bool.or_true, Bool.or_false]), by assumption⟩
   | refine .std ?_ | refine .nil ?_ | refine .seq ?_ | refine .region ?_ | refine .xs ?_ | refine .kb ?_ | refine .leaf ?_ | refine .block ?_ | refine .gn ?_ | refine .dr ?_ | fail
set_option maxHeartbeats 2000000 in
theorem amongF (n a b : Int) : Pu Tryz.prog 188 [.int .i64 n, .int .i64 a, .int .i64 b] (.bool (amongB n a b)) := by
 intro S
 obtain ⟨q1, h1⟩ : ∃ q, decide (a ≤ n) = q := ⟨_, rfl⟩
 obtain ⟨q2, h2⟩ : ∃ q, decide (n ≤ b) = q := ⟨_, rfl⟩
 refine CallTo.of (n := 15) Tryz.func188 rfl rfl ?_
 repeat' first
  | refine Opl.val (op_int rfl rfl rfl (leq_i h1)) rfl ?_
  | refine Opl.val (op_int rfl rfl rfl (leq_i h2)) rfl ?_
  | refine op_gyes rfl ?_ rfl
  | refine .gn ?_
  | (refine Opl.gonTN rfl rfl (fun hq => ?_) (fun hq => ?_) <;> subst hq)
  | (refine Opl.gonFN rfl rfl (fun hq => ?_) (fun hq => ?_) <;> subst hq)
  | (refine Opl.gonT rfl rfl (fun hq => ?_) (fun hq => ?_) <;> subst hq)
  | (refine Opl.gonF rfl rfl (fun hq => ?_) (fun hq => ?_) <;> subst hq)
  | refine Go.condT rfl ?_
  | refine Go.condF rfl ?_
  | (refine Go.condN rfl (fun hq => ?_) (fun hq => ?_) <;> subst hq)
  | (refine Go.condV rfl (fun hq => ?_) (fun hq => ?_) <;> subst hq)
  | exact At.fnr rfl rfl rfl ⟨pack_b (by unfold amongB; rw [h1, h2]; simp only [Bool.true_and, Bool.false_and]), Same.refl S⟩
  | refine .std ?_ | refine .nil ?_ | refine .seq ?_ | refine .region ?_ | refine .xs ?_ | refine .kb ?_ | refine .leaf ?_ | refine .block ?_ | refine .gn ?_ | refine .dr ?_ | fail
end Go.Proofs.YtodiioeddlmjhaaGreatDoor
namespace Go.Proofs.YtodiioeddlmjhaaGreatDoor
open Go.RowKit Go.Ev
set_option maxRecDepth 100000
set_option linter.unusedVariables false
set_option linter.unusedSimpArgs false
attribute [local irreducible] Go.Ev.opE
set_option maxHeartbeats 2000000 in
theorem indexS {l : List (List UInt8)} {nv : V} (h : StrsV l nv) (s : List UInt8) : PuQ Tryz.prog 210 [nv, .str s] (fun v => ∃ r : Int, v = .int .i64 r ∧ decide (r ≥ 0) = l.contains s) := by
 obtain ⟨h1, h2, h3⟩ := h
 have h2 : (elems nv).length ≤ 9223372036854775807 := h2
 intro S
 refine CallTo.of (n := 19) Tryz.func210 rfl rfl ?_
 repeat' first
  | refine Opl.val (op_lenL rfl h1.isL rfl) rfl ?_
  | refine .std ?_ | refine .nil ?_ | refine .seq ?_ | refine .region ?_ | refine .xs ?_ | refine .kb ?_ | refine .leaf ?_ | refine .block ?_ | refine .gn ?_ | refine .dr ?_ | fail
 refine Go.weaken (E' := [(0, nv), (1, .str s), (7, .int .i64 (elems nv).length), (8, .int .i64 (0 : Nat))]) ?_ ⟨rfl, rfl, rfl, rfl, trivial⟩
 refine Go.loop_ind (α := Nat) (fun i => (elems nv).length - i) (fun i E S' => E = [(0, nv), (1, .str s), (7, .int .i64 (elems nv).length), (8, .int .i64 i)] ∧ i ≤ (elems nv).length ∧ Same S S' ∧ l.contains s = (l.drop i).contains s) ?_ 0 _ _ ⟨rfl, Nat.zero_le _, Same.refl _, rfl⟩
 rintro i E S1 ⟨rfl, hi, k1, hc⟩ IH
 repeat' first
  | refine Opl.fresh (op_int rfl rfl rfl rfl) rfl (fun q hq => ?_)
  | refine .std ?_ | refine .nil ?_ | refine .seq ?_ | refine .region ?_ | refine .xs ?_ | refine .kb ?_ | refine .leaf ?_ | refine .block ?_ | refine .gn ?_ | refine .dr ?_ | fail
 refine Go.cond rfl (fun hq => ?_) (fun hq => ?_)
 ·subst hq
  have hq : i < (elems nv).length := by have := of_decide_eq_true (by assumption : decide ((i : Int) < ((elems nv).length : Nat)) = true); omega
  obtain ⟨x, v, hx, hix, ⟨hv, hs⟩, _⟩ := h3.at hq
  have hpt : Pt S1 (.cptr none v.cells 0) [.str x] := by rw [hv]; exact Pt.cptr _ _ _
  rw [contains_step hx] at hc
  obtain ⟨q, he⟩ : ∃ q, decide (s = x) = q := ⟨_, rfl⟩
  rw [he] at hc
  repeat' first
   | refine Opl.val (op_ixaV h1 rfl rfl hix) rfl ?_
   | refine Opl.val (op_str rfl rfl (eql_s he)) rfl ?_
   | refine .std ?_ | refine .nil ?_ | refine .seq ?_ | refine .region ?_ | refine .xs ?_ | refine .kb ?_ | refine .leaf ?_ | refine .block ?_ | refine .gn ?_ | refine .dr ?_ | fail
  cases q with
  | true =>
   repeat' first
    | refine Go.condT rfl ?_
    | refine .std ?_ | refine .nil ?_ | refine .seq ?_ | refine .region ?_ | refine .xs ?_ | refine .kb ?_ | refine .leaf ?_ | refine .block ?_ | refine .gn ?_ | refine .dr ?_ | fail
   exact At.fnr rfl rfl rfl ⟨⟨_, rfl, by rw [hc]; simp⟩, k1⟩
  | false =>
   repeat' first
    | refine Go.condF rfl ?_
    | refine Opl.val (op_int rfl rfl rfl (inc_ok (i := i) (by omega))) rfl ?_
    | refine .std ?_ | refine .nil ?_ | refine .seq ?_ | refine .region ?_ | refine .xs ?_ | refine .kb ?_ | refine .leaf ?_ | refine .block ?_ | refine .gn ?_ | refine .dr ?_ | fail
   exact (IH (i + 1) _ S1 (by omega) ⟨rfl, by omega, k1, by rw [hc]; simp⟩).weaken ⟨rfl, rfl, rfl, rfl, trivial⟩
 ·subst hq
  have hq : (elems nv).length ≤ i := by have := of_decide_eq_false (by assumption : decide ((i : Int) < ((elems nv).length : Nat)) = false); omega
  have hnil : l.drop i = [] := List.drop_eq_nil_of_le (by rw [h3.1]; omega)
  rw [hnil] at hc
  repeat' first | refine .std ?_ | refine .nil ?_ | refine .seq ?_ | refine .region ?_ | refine .xs ?_ | refine .kb ?_ | refine .leaf ?_ | refine .block ?_ | refine .gn ?_ | refine .dr ?_ | fail
  exact At.fnr rfl rfl rfl ⟨⟨_, rfl, by rw [hc]; rfl⟩, k1⟩
theorem containsS {l : List (List UInt8)} {nv : V} (h : StrsV l nv) (s : List UInt8) : Pu Tryz.prog 191 [nv, .str s] (.bool (l.contains s)) := by
 intro S
 have k0 : Same S S := Same.refl S
 refine CallTo.of (n := 9) Tryz.func191 rfl rfl ?_
 repeat' first
  | (refine Opl.callQ (by assumption) rfl (by kernel_rfl) (indexS h s) rfl (fun v S1 hv k1 => ?_); obtain ⟨r, rfl, hr⟩ := hv)
  | refine Opl.val (op_int rfl rfl rfl (geq_i (by assumption))) rfl ?_
  | exact At.fnr rfl rfl rfl ⟨rfl, by assumption⟩
  | refine .std ?_ | refine .nil ?_ | refine .seq ?_ | refine .region ?_ | refine .xs ?_ | refine .kb ?_ | refine .leaf ?_ | refine .block ?_ | refine .gn ?_ | refine .dr ?_ | fail
set_option maxHeartbeats 4000000 in
theorem distinctF {l : List (List UInt8)} {nv : V} (h : StrsV l nv) (hls : ∀ s ∈ l, s.length ≤ huge) (n : Nat) (hn : n < 4) : Pu Tryz.prog 138 [nv, .int .i64 n] (.int .i64 (distE n [] l)) := by
 have h0 := h
 obtain ⟨h1, h2, h3⟩ := h
 have h2 : (elems nv).length ≤ 9223372036854775807 := h2
 intro S
 refine CallTo.of (n := 26) Tryz.func138 rfl rfl ?_
 repeat' first
  | refine Opl.val (op_lenL rfl h1.isL rfl) rfl ?_
  | refine .std ?_ | refine .nil ?_ | refine .seq ?_ | refine .region ?_ | refine .xs ?_ | refine .kb ?_ | refine .leaf ?_ | refine .block ?_ | refine .gn ?_ | refine .dr ?_ | fail
 refine Go.weaken (E' := [(0, nv), (1, .int .i64 n), (7, nv), (8, .int .i64 (elems nv).length), (9, .int .i64 (0 : Nat))]) ?_ ⟨rfl, rfl, rfl, rfl, rfl, trivial⟩
 refine Go.loop_ind (α := Nat) (fun i => (elems nv).length - i) (fun i E S' => E = [(0, nv), (1, .int .i64 n), (7, nv), (8, .int .i64 (elems nv).length), (9, .int .i64 i)] ∧ i ≤ (elems nv).length ∧ Same S S' ∧ distE n [] l = distE n (l.take i) (l.drop i)) ?_ 0 _ _ ⟨rfl, Nat.zero_le _, Same.refl _, rfl⟩
 rintro i E S1 ⟨rfl, hi, k1, hd⟩ IH
 repeat' first
  | refine Opl.fresh (op_int rfl rfl rfl rfl) rfl (fun q hq => ?_)
  | refine .std ?_ | refine .nil ?_ | refine .seq ?_ | refine .region ?_ | refine .xs ?_ | refine .kb ?_ | refine .leaf ?_ | refine .block ?_ | refine .gn ?_ | refine .dr ?_ | fail
 refine Go.cond rfl (fun hq => ?_) (fun hq => ?_)
 ·subst hq
  have hq : i < (elems nv).length := by have := of_decide_eq_true (by assumption : decide ((i : Int) < ((elems nv).length : Nat)) = true); omega
  obtain ⟨x, v, hx, hix, ⟨hv, hs⟩, hm⟩ := h3.at hq
  have hpt : Pt S1 (.cptr none v.cells 0) [.str x] := by rw [hv]; exact Pt.cptr _ _ _
  have c1 := isF x hs n hn
  obtain ⟨mv, hmv, hsv⟩ := strs_take (P := Tryz.prog) (T := 23) ElT.h SzN.h h0 i hi
  have c2 := containsS hsv x
  have htk : l.take (i + 1) = l.take i ++ [x] := by
   obtain ⟨hlt, hxe⟩ := List.getElem?_eq_some_iff.1 hx
   rw [List.take_succ_eq_append_getElem hlt, hxe]
  rw [drop_at hx] at hd
  simp only [distE] at hd
  obtain ⟨q1, e1⟩ : ∃ q, clsB x n = q := ⟨_, rfl⟩
  obtain ⟨q2, e2⟩ : ∃ q, (l.take i).contains x = q := ⟨_, rfl⟩
  rw [e1] at c1
  rw [e2] at c2
  rw [e1, e2, ← htk] at hd
  repeat' first
   | refine Opl.val (op_ixaV h1 rfl rfl hix) rfl ?_
   | refine Opl.val (op_slH rfl rfl hmv) rfl ?_
   | refine Opl.callS (by assumption) rfl (by kernel_rfl) c1 rfl (fun S4 k4 => ?_)
   | refine Opl.callS (by assumption) rfl (by kernel_rfl) c2 rfl (fun S4 k4 => ?_)
   | refine Opl.val (op_int rfl rfl rfl (inc_ok (i := i) (by omega))) rfl ?_
   | refine op_gyes rfl ?_ rfl
   | refine .gn ?_
   | (refine Opl.gonTN rfl rfl (fun hq => ?_) (fun hq => ?_) <;> subst hq)
   | (refine Opl.gonFN rfl rfl (fun hq => ?_) (fun hq => ?_) <;> subst hq)
   | (refine Opl.gonT rfl rfl (fun hq => ?_) (fun hq => ?_) <;> subst hq)
   | (refine Opl.gonF rfl rfl (fun hq => ?_) (fun hq => ?_) <;> subst hq)
   | refine Go.condT rfl ?_
   | refine Go.condF rfl ?_
   | (refine Go.condN rfl (fun hq => ?_) (fun hq => ?_) <;> subst hq)
   | (refine Go.condV rfl (fun hq => ?_) (fun hq => ?_) <;> subst hq)
   | exact At.fnr rfl rfl rfl ⟨pack_n (by rw [hd]; rfl), by assumption⟩
   | exact (IH (i + 1) _ _ (by omega) ⟨rfl, by omega, by assumption, by rw [hd]; rfl⟩).weaken ⟨rfl, rfl, rfl, rfl, rfl, trivial⟩
   | refine .std ?_ | refine .nil ?_ | refine .seq ?_ | refine .region ?_ | refine .xs ?_ | refine .kb ?_ | refine .leaf ?_ | refine .block ?_ | refine .gn ?_ | refine .dr ?_ | fail
 ·subst hq
  have hq : (elems nv).length ≤ i := by have := of_decide_eq_false (by assumption : decide ((i : Int) < ((elems nv).length : Nat)) = false); omega
  have hnil : l.drop i = [] := List.drop_eq_nil_of_le (by rw [h3.1]; omega)
  rw [hnil] at hd
  repeat' first | refine .std ?_ | refine .nil ?_ | refine .seq ?_ | refine .region ?_ | refine .xs ?_ | refine .kb ?_ | refine .leaf ?_ | refine .block ?_ | refine .gn ?_ | refine .dr ?_ | fail
  exact At.fnr rfl rfl rfl ⟨pack_n (by rw [hd]; rfl), k1⟩
end Go.Proofs.YtodiioeddlmjhaaGreatDoor
