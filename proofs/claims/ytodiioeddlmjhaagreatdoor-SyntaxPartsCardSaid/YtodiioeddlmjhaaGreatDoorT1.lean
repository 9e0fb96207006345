import Derived.Test.YtodiioeddlmjhaaGreatDoorT0
set_option linter.unusedVariables false
set_option linter.unusedSimpArgs false
namespace Go.Proofs.YtodiioeddlmjhaaGreatDoor
open Go.RowKit Go.Ev
set_option maxRecDepth 100000
set_option linter.unusedVariables false
set_option linter.unusedSimpArgs false
attribute [local irreducible] Go.Ev.opE
theorem kindF2 (c : UInt8) {n : Int} (h : n = c.toNat) : Pu Tryz.prog 202 [.int .u8 n] (.int .i64 (kindB c : Nat)) := by rw [h]; exact kindF c
theorem all_step {s : List UInt8} {i : Nat} {f : UInt8 → Bool} (h : i < s.length) : (s.drop i).all f = (f s[i] && (s.drop (i + 1)).all f) := by
  rw [List.drop_eq_getElem_cons h]; rfl
theorem kind_big {b : UInt8} (h : 128 ≤ b.toNat) : Nat.ble 2 (kindB b) = false := by
  rw [kindB_nat, if_neg (by omega), if_neg (by omega), if_neg (by omega), if_neg (by omega)]; rfl
set_option maxHeartbeats 4000000 in
theorem wordNil (n : Nat) : Pu Tryz.prog 193 [.str [], .int .i64 n] (.bool (wordB [] n)) := by
  intro S
  have hE : strOp .eql [] [] = some (.bool true) := str_eql []
  refine CallTo.of (n := 34) Tryz.func193 rfl rfl ?_
  repeat' first
   | refine Opl.val (op_str rfl rfl hE) rfl ?_
   | refine Go.condT rfl ?_
   | exact At.fnr rfl rfl rfl ⟨rfl, Same.refl _⟩
   | refine .std ?_ | refine .nil ?_ | refine .seq ?_ | refine .region ?_ | refine .xs ?_ | refine .kb ?_ | refine .leaf ?_ | refine .block ?_ | refine .gn ?_ | refine .dr ?_ | fail
set_option maxHeartbeats 4000000 in
theorem wordCons (c : UInt8) (l : List UInt8) (n : Nat) (hl : (c :: l).length ≤ huge) : Pu Tryz.prog 193 [.str (c :: l), .int .i64 n] (.bool (wordB (c :: l) n)) := by
  have hl : (c :: l).length ≤ 9223372036854775807 := hl
  intro S
  have hE : strOp .eql (c :: l) [] = some (.bool false) := eql_s (by simp)
  obtain ⟨s, hs⟩ : ∃ s, c :: l = s := ⟨_, rfl⟩
  have hs0 : s[0]? = some c := by rw [← hs]; rfl
  have hw : wordB s n = (Nat.ble s.length 12 && Nat.beq (kindB c) n && s.all fun c => Nat.ble 2 (kindB c)) := by rw [← hs]; rfl
  rw [hs] at hE hl ⊢
  clear hs
  obtain ⟨q1, h1⟩ : ∃ q, decide ((s.length : Int) > 12) = q := ⟨_, rfl⟩
  obtain ⟨q2, h2⟩ : ∃ q, (!decide ((kindB c : Int) = n)) = q := ⟨_, rfl⟩
  have e1 : Nat.ble s.length 12 = !q1 := ble_gtr h1
  have e2 : Nat.beq (kindB c) n = !q2 := beq_neq h2
  rw [e1, e2] at hw
  have k0 : Same S S := Same.refl S
  refine CallTo.of (n := 34) Tryz.func193 rfl rfl ?_
  repeat' first
   | refine Opl.val (op_str rfl rfl hE) rfl ?_
   | refine Opl.val (op_int rfl rfl rfl (gtr_i h1)) rfl ?_
   | refine Opl.val (op_int rfl rfl rfl (neq_i h2)) rfl ?_
   | refine Opl.val (op_idxS (i := 0) rfl rfl hs0) rfl ?_
   | refine Opl.callS (by assumption) rfl (by kernel_rfl) (kindF c) rfl (fun S1 k1 => ?_)
   | refine Opl.val (op_rangeS rfl) rfl ?_
   | refine op_gyes rfl ?_ rfl
   | refine .gn ?_
   | (refine Opl.gonTN rfl rfl (fun hq => ?_) (fun hq => ?_) <;> subst hq)
   | (refine Opl.gonFN rfl rfl (fun hq => ?_) (fun hq => ?_) <;> subst hq)
   | (refine Opl.gonT rfl rfl (fun hq => ?_) (fun hq => ?_) <;> subst hq)
   | (refine Opl.gonF rfl rfl (fun hq => ?_) (fun hq => ?_) <;> subst hq)
   | refine Go.condT rfl ?_
   | refine Go.condF rfl ?_
   | (refine Go.condN rfl (fun hq => ?_) (fun hq => ?_) <;> subst hq)
   | (refine Go.condV rfl (fun hq => ?_) (fun hq => ?_) <;> subst hq)
   | exact At.fnr rfl rfl rfl ⟨pack_b (by rw [hw]; simp only [Bool.not_true, Bool.not_false, Bool.false_and, Bool.and_false, Bool.true_and]), by assumption⟩
   | refine .std ?_ | refine .nil ?_ | refine .seq ?_ | refine .region ?_ | refine .xs ?_ | refine .kb ?_ | refine .leaf ?_ | refine .block ?_ | refine .gn ?_ | refine .dr ?_ | fail
  simp only [Bool.not_false, Bool.true_and] at hw
  refine Go.weaken (E' := [(22, .ptr S1.next 0)]) ?_ ⟨rfl, trivial⟩
  refine Go.loop_ind (α := Nat) (fun i => s.length - i) (fun i E S' => E = [(22, .ptr S1.next 0)] ∧ i ≤ s.length ∧ S'.h.find S1.next = some (.oth (.sit s i)) ∧ S1.next < S'.next ∧ Same S1 S' ∧ wordB s n = (s.drop i).all fun c => Nat.ble 2 (kindB c)) ?_ 0 _ _
    ⟨rfl, Nat.zero_le _, find_new S1 _, by simp [St.new], Same.new _ _, by rw [hw]; rfl⟩
  rintro i E S2 ⟨rfl, hi, hf, hlt, k2, hall⟩ IH
  by_cases hq : i < s.length
  · rw [all_step hq] at hall
    obtain ⟨b, hb⟩ : ∃ b, s[i] = b := ⟨_, rfl⟩
    rw [hb] at hall
    have hnx := op_nextS (P := Tryz.prog) (ev := Env.opd [(22, .ptr S1.next 0)]) (x := .tmp 22) rfl hf hq
    by_cases ha : b.toNat < 128
    · have hd := decode_small' hq hb ha
      rw [hd] at hnx
      obtain ⟨S3, hS3⟩ : ∃ S3 : St, S3 = { S2 with h := S2.h.put S1.next (.oth (.sit s (i + 1))) } := ⟨_, rfl⟩
      have k3 : Same S1 S3 := by rw [hS3]; exact k2.put (Nat.le_refl _) _
      have f3 : S3.h.find S1.next = some (.oth (.sit s (i + 1))) := by rw [hS3]; simp [Tr.find_put]
      have l3 : S1.next < S3.next := by rw [hS3]; exact hlt
      have k33 : Same S3 S3 := Same.refl S3
      obtain ⟨q, h3⟩ : ∃ q, decide ((kindB b : Int) < 2) = q := ⟨_, rfl⟩
      have e3 : Nat.ble 2 (kindB b) = !q := ble_gtr h3
      rw [e3] at hall
      have hu : IntKind.wrap .u8 (b.toNat : Int) = (b.toNat : Int) := by rw [wrap_u8]; omega
      have hg : intOp .gtr .i32 (b.toNat : Int) 127 = some (.bool false) := gtr_i (decide_eq_false (by omega))
      cases q with
      | false =>
        simp only [Bool.not_false, Bool.true_and] at hall
        repeat' first
         | refine Opl.val hnx rfl (Opl.cast (S' := S3) ?_ hS3)
         | refine Opl.val (op_int rfl rfl rfl hg) rfl ?_
         | refine Opl.val (op_int rfl rfl rfl (lss_i h3)) rfl ?_
         | refine Opl.callS k33 rfl (by kernel_rfl) (kindF2 b hu) rfl (fun S4 k4 => ?_)
         | refine op_gyes rfl ?_ rfl
         | refine Go.condT rfl ?_
         | refine Go.condF rfl ?_
         | refine .std ?_ | refine .nil ?_ | refine .seq ?_ | refine .region ?_ | refine .xs ?_ | refine .kb ?_ | refine .leaf ?_ | refine .block ?_ | refine .gn ?_ | refine .dr ?_ | fail
        exact (IH (i + 1) _ S4 (by omega) ⟨rfl, by omega, by rw [k4.find _ l3]; exact f3, Nat.lt_of_lt_of_le l3 k4.next, k3.trans k4, hall⟩).weaken ⟨rfl, trivial⟩
      | true =>
        simp only [Bool.not_true, Bool.false_and] at hall
        repeat' first
         | refine Opl.val hnx rfl (Opl.cast (S' := S3) ?_ hS3)
         | refine Opl.val (op_int rfl rfl rfl hg) rfl ?_
         | refine Opl.val (op_int rfl rfl rfl (lss_i h3)) rfl ?_
         | refine Opl.callS k33 rfl (by kernel_rfl) (kindF2 b hu) rfl (fun S4 k4 => ?_)
         | refine op_gyes rfl ?_ rfl
         | refine Go.condT rfl ?_
         | refine Go.condF rfl ?_
         | exact At.fnr rfl rfl rfl ⟨pack_b hall.symm, k1.trans (k3.trans (by assumption))⟩
         | refine .std ?_ | refine .nil ?_ | refine .seq ?_ | refine .region ?_ | refine .xs ?_ | refine .kb ?_ | refine .leaf ?_ | refine .block ?_ | refine .gn ?_ | refine .dr ?_ | fail
    · have hd := decode_big' hq hb (by omega)
      rw [kind_big (by omega)] at hall
      simp only [Bool.false_and] at hall
      obtain ⟨d, n', hdd⟩ : ∃ d n', Utf8.decode ⟨s.toArray⟩ i = (d, n') := ⟨_, _, rfl⟩
      rw [hdd] at hnx hd
      obtain ⟨S3, hS3⟩ : ∃ S3 : St, S3 = { S2 with h := S2.h.put S1.next (.oth (.sit s (i + n'))) } := ⟨_, rfl⟩
      have k3 : Same S1 S3 := by rw [hS3]; exact k2.put (Nat.le_refl _) _
      have hd : 128 ≤ d := hd
      have hg : intOp .gtr .i32 (d : Int) 127 = some (.bool true) := gtr_i (decide_eq_true (by omega))
      repeat' first
       | refine Opl.val hnx rfl (Opl.cast (S' := S3) ?_ hS3)
       | refine Opl.val (op_int rfl rfl rfl hg) rfl ?_
       | refine Go.condT rfl ?_
       | refine Go.condF rfl ?_
       | exact At.fnr rfl rfl rfl ⟨pack_b hall.symm, k1.trans k3⟩
       | refine .std ?_ | refine .nil ?_ | refine .seq ?_ | refine .region ?_ | refine .xs ?_ | refine .kb ?_ | refine .leaf ?_ | refine .block ?_ | refine .gn ?_ | refine .dr ?_ | fail
  · have hnx := op_nextN (P := Tryz.prog) (ev := Env.opd [(22, .ptr S1.next 0)]) (x := .tmp 22) rfl hf (by omega)
    have hnil : s.drop i = [] := List.drop_eq_nil_of_le (by omega)
    rw [hnil] at hall
    repeat' first
     | refine Opl.val hnx rfl ?_
     | refine Go.condT rfl ?_
     | refine Go.condF rfl ?_
     | exact At.fnr rfl rfl rfl ⟨pack_b hall.symm, k1.trans k2⟩
     | refine .std ?_ | refine .nil ?_ | refine .seq ?_ | refine .region ?_ | refine .xs ?_ | refine .kb ?_ | refine .leaf ?_ | refine .block ?_ | refine .gn ?_ | refine .dr ?_ | fail
theorem wordF (s : List UInt8) (n : Nat) (hl : s.length ≤ huge) : Pu Tryz.prog 193 [.str s, .int .i64 n] (.bool (wordB s n)) := by
  cases s with
  | nil => exact wordNil n
  | cons c l => exact wordCons c l n hl
end Go.Proofs.YtodiioeddlmjhaaGreatDoor
