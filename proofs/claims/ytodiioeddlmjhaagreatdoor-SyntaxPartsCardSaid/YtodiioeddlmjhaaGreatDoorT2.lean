import Derived.Test.YtodiioeddlmjhaaGreatDoorT1
set_option linter.unusedVariables false
set_option linter.unusedSimpArgs false
namespace Go.Proofs.YtodiioeddlmjhaaGreatDoor
open Go.RowKit Go.Ev
set_option maxRecDepth 100000
set_option linter.unusedVariables false
set_option linter.unusedSimpArgs false
attribute [local irreducible] Go.Ev.opE
theorem kwObjs : ∃ es c, ent214.objs = [(0, .oth (.map es c))] ∧ (∀ k, keysOf (upEs k es) = some kws) ∧ ent214.v = .map 0 := ⟨_, _, rfl, fun k => rfl, rfl⟩
theorem kwCall (S : St) : ∃ S' es c, lim Tryz.prog (.call 214 []) S = some (.ret (.map S.next) S') ∧ Same S S' ∧ S'.h.find S.next = some (.oth (.map es c)) ∧ keysOf es = some kws := by
  obtain ⟨es, c, h1, h2, h3⟩ := kwObjs
  have h := lim_tab (P := Tryz.prog) (f := 214) (E := ent214) rfl S
  rw [h1, h3] at h
  refine ⟨S.add ent214.n [(0, .oth (.map es c))], upEs S.next es, c, ?_, add1_same _ _ _ _, ?_, h2 _⟩
  · rw [h]; simp [V.up]
  · have := add1_find S ent214.n 0 (.oth (.map es c))
    simpa [Ob.up] using this
theorem mapT_kw : mapT Tryz.prog 228 = some (.string, 70) := by kernel_rfl
theorem zero_kw : zeroV Tryz.prog 70 = some (.int .i64 0) := by kernel_rfl
set_option maxHeartbeats 2000000 in
theorem keywordF (s : List UInt8) : Pu Tryz.prog 194 [.str s] (.bool (isKw s)) := by
  intro S
  obtain ⟨S1, es, c, h1, k1, hf, hk⟩ := kwCall S
  obtain ⟨v, hl⟩ := op_look (P := Tryz.prog) (ev := Env.opd [(7, .str s), (6, .map S.next), (2, .bool false), (0, .str s)]) (x := .tmp 6) (y := .tmp 7) (S := S1) mapT_kw zero_kw rfl rfl hf hk
  refine CallTo.of (n := 12) Tryz.func194 rfl rfl ?_
  repeat' first
   | refine Opl.callr rfl (by kernel_rfl) h1 rfl ?_
   | refine Opl.val hl rfl ?_
   | exact At.fnr rfl rfl rfl ⟨rfl, k1⟩
   | refine .std ?_ | refine .nil ?_ | refine .seq ?_ | refine .region ?_ | refine .xs ?_ | refine .kb ?_ | refine .leaf ?_ | refine .block ?_ | refine .gn ?_ | refine .dr ?_ | fail
set_option maxHeartbeats 2000000 in
theorem isVarF (s : List UInt8) (hl : s.length ≤ huge) : Pu Tryz.prog 142 [.str s] (.bool (isVarB s)) := by
  intro S
  have k0 : Same S S := Same.refl S
  have c1 := wordF s 2 hl
  have c2 := keywordF s
  obtain ⟨q1, h1⟩ : ∃ q, wordB s 2 = q := ⟨_, rfl⟩
  obtain ⟨q2, h2⟩ : ∃ q, isKw s = q := ⟨_, rfl⟩
  rw [h1] at c1
  rw [h2] at c2
  refine CallTo.of (n := 10) Tryz.func142 rfl rfl ?_
  repeat' first
   | refine Opl.callS (by assumption) rfl (by kernel_rfl) c1 rfl (fun S4 k4 => ?_)
   | refine Opl.callS (by assumption) rfl (by kernel_rfl) c2 rfl (fun S4 k4 => ?_)
   | refine op_gyes rfl ?_ rfl
   | refine .gn ?_
   | (refine Opl.gonTN rfl rfl (fun hq => ?_) (fun hq => ?_) <;> subst hq)
   | (refine Opl.gonFN rfl rfl (fun hq => ?_) (fun hq => ?_) <;> subst hq)
   | (refine Opl.gonT rfl rfl (fun hq => ?_) (fun hq => ?_) <;> subst hq)
   | (refine Opl.gonF rfl rfl (fun hq => ?_) (fun hq => ?_) <;> subst hq)
   | refine Go.condT rfl ?_
   | refine Go.condF rfl ?_
   | (refine Go.condN rfl (fun hq => ?_) (fun hq => ?_) <;> subst hq)
   | (refine Go.condV rfl (fun hq => ?_) (fun hq => ?_) <;> subst hq)
   | exact At.fnr rfl rfl rfl ⟨pack_b (by unfold isVarB; rw [h1, h2]; simp only [Bool.true_and, Bool.false_and]), by assumption⟩
   | refine .std ?_ | refine .nil ?_ | refine .seq ?_ | refine .region ?_ | refine .xs ?_ | refine .kb ?_ | refine .leaf ?_ | refine .block ?_ | refine .gn ?_ | refine .dr ?_ | fail
theorem isUpperF (s : List UInt8) (hl : s.length ≤ huge) : Pu Tryz.prog 143 [.str s] (.bool (isUpperB s)) := by
  intro S
  have k0 : Same S S := Same.refl S
  have c1 := wordF s 3 hl
  refine CallTo.of (n := 5) Tryz.func143 rfl rfl ?_
  repeat' first
   | refine Opl.callS (by assumption) rfl (by kernel_rfl) c1 rfl (fun S4 k4 => ?_)
   | exact At.fnr rfl rfl rfl ⟨rfl, by assumption⟩
   | refine .std ?_ | refine .nil ?_ | refine .seq ?_ | refine .region ?_ | refine .xs ?_ | refine .kb ?_ | refine .leaf ?_ | refine .block ?_ | refine .gn ?_ | refine .dr ?_ | fail
set_option maxHeartbeats 4000000 in
theorem isF (s : List UInt8) (hl : s.length ≤ huge) (n : Nat) (hn : n < 4) : Pu Tryz.prog 81 [.str s, .int .i64 n] (.bool (clsB s n)) := by
  intro S
  have k0 : Same S S := Same.refl S
  have c1 := isVarF s hl
  have c2 := isUpperF s hl
  refine CallTo.of (n := 36) Tryz.func81 rfl rfl ?_
  have h4 : n = 0 ∨ n = 1 ∨ n = 2 ∨ n = 3 := by omega
  rcases h4 with rfl | rfl | rfl | rfl
  · skip
    obtain ⟨q0, h0⟩ : ∃ q, decide (s = []) = q := ⟨_, rfl⟩
    repeat' first
     | refine Opl.val (op_str rfl rfl (eql_s h0)) rfl ?_
     | refine Go.condF rfl ?_
     | exact At.fnr rfl rfl rfl ⟨pack_b h0.symm, by assumption⟩
     | refine .std ?_ | refine .nil ?_ | refine .seq ?_ | refine .region ?_ | refine .xs ?_ | refine .kb ?_ | refine .leaf ?_ | refine .block ?_ | refine .gn ?_ | refine .dr ?_ | fail
  · skip
    repeat' first
     | refine Opl.callS (by assumption) rfl (by kernel_rfl) c1 rfl (fun S4 k4 => ?_)
     | refine Go.condT rfl ?_
     | refine Go.condF rfl ?_
     | exact At.fnr rfl rfl rfl ⟨rfl, by assumption⟩
     | refine .std ?_ | refine .nil ?_ | refine .seq ?_ | refine .region ?_ | refine .xs ?_ | refine .kb ?_ | refine .leaf ?_ | refine .block ?_ | refine .gn ?_ | refine .dr ?_ | fail
  · skip
    repeat' first
     | refine Opl.callS (by assumption) rfl (by kernel_rfl) c2 rfl (fun S4 k4 => ?_)
     | refine Go.condT rfl ?_
     | refine Go.condF rfl ?_
     | exact At.fnr rfl rfl rfl ⟨rfl, by assumption⟩
     | refine .std ?_ | refine .nil ?_ | refine .seq ?_ | refine .region ?_ | refine .xs ?_ | refine .kb ?_ | refine .leaf ?_ | refine .block ?_ | refine .gn ?_ | refine .dr ?_ | fail
  · skip
    obtain ⟨q1, h1⟩ : ∃ q, decide (s = [43]) = q := ⟨_, rfl⟩
    obtain ⟨q2, h2⟩ : ∃ q, decide (s = [45]) = q := ⟨_, rfl⟩
    obtain ⟨q3, h3⟩ : ∃ q, decide (s = [42]) = q := ⟨_, rfl⟩
    obtain ⟨q4, h4⟩ : ∃ q, decide (s = [60]) = q := ⟨_, rfl⟩
    obtain ⟨q5, h5⟩ : ∃ q, decide (s = [61, 61]) = q := ⟨_, rfl⟩
    have hr : clsB s 3 = (q1 || q2 || q3 || q4 || q5) := by rw [← h1, ← h2, ← h3, ← h4, ← h5]; rfl
    repeat' first
     | refine Opl.val (op_str rfl rfl (eql_s h1)) rfl ?_
     | refine Opl.val (op_str rfl rfl (eql_s h2)) rfl ?_
     | refine Opl.val (op_str rfl rfl (eql_s h3)) rfl ?_
     | refine Opl.val (op_str rfl rfl (eql_s h4)) rfl ?_
     | refine Opl.val (op_str rfl rfl (eql_s h5)) rfl ?_
     | refine op_gyes rfl ?_ rfl
     | refine .gn ?_
     | (refine Opl.gonTN rfl rfl (fun hq => ?_) (fun hq => ?_) <;> subst hq)
     | (refine Opl.gonFN rfl rfl (fun hq => ?_) (fun hq => ?_) <;> subst hq)
     | (refine Opl.gonT rfl rfl (fun hq => ?_) (fun hq => ?_) <;> subst hq)
     | (refine Opl.gonF rfl rfl (fun hq => ?_) (fun hq => ?_) <;> subst hq)
     | refine Go.condT rfl ?_
     | refine Go.condF rfl ?_
     | (refine Go.condN rfl (fun hq => ?_) (fun hq => ?_) <;> subst hq)
     | (refine Go.condV rfl (fun hq => ?_) (fun hq => ?_) <;> subst hq)
     | exact At.fnr rfl rfl rfl ⟨pack_b (by rw [hr]; simp only [Bool.true_or, Bool.false_or, Bool.or_true, Bool.or_false]), by assumption⟩
     | refine .std ?_ | refine .nil ?_ | refine .seq ?_ | refine .region ?_ | refine .xs ?_ | refine .kb ?_ | refine .leaf ?_ | refine .block ?_ | refine .gn ?_ | refine .dr ?_ | fail
set_option maxHeartbeats 2000000 in
theorem amongF (n a b : Int) : Pu Tryz.prog 188 [.int .i64 n, .int .i64 a, .int .i64 b] (.bool (amongB n a b)) := by
  intro S
  obtain ⟨q1, h1⟩ : ∃ q, decide (a ≤ n) = q := ⟨_, rfl⟩
  obtain ⟨q2, h2⟩ : ∃ q, decide (n ≤ b) = q := ⟨_, rfl⟩
  refine CallTo.of (n := 15) Tryz.func188 rfl rfl ?_
  repeat' first
   | refine Opl.val (op_int rfl rfl rfl (leq_i h1)) rfl ?_
   | refine Opl.val (op_int rfl rfl rfl (leq_i h2)) rfl ?_
   | refine op_gyes rfl ?_ rfl
   | refine .gn ?_
   | (refine Opl.gonTN rfl rfl (fun hq => ?_) (fun hq => ?_) <;> subst hq)
   | (refine Opl.gonFN rfl rfl (fun hq => ?_) (fun hq => ?_) <;> subst hq)
   | (refine Opl.gonT rfl rfl (fun hq => ?_) (fun hq => ?_) <;> subst hq)
   | (refine Opl.gonF rfl rfl (fun hq => ?_) (fun hq => ?_) <;> subst hq)
   | refine Go.condT rfl ?_
   | refine Go.condF rfl ?_
   | (refine Go.condN rfl (fun hq => ?_) (fun hq => ?_) <;> subst hq)
   | (refine Go.condV rfl (fun hq => ?_) (fun hq => ?_) <;> subst hq)
   | exact At.fnr rfl rfl rfl ⟨pack_b (by unfold amongB; rw [h1, h2]; simp only [Bool.true_and, Bool.false_and]), Same.refl S⟩
   | refine .std ?_ | refine .nil ?_ | refine .seq ?_ | refine .region ?_ | refine .xs ?_ | refine .kb ?_ | refine .leaf ?_ | refine .block ?_ | refine .gn ?_ | refine .dr ?_ | fail
end Go.Proofs.YtodiioeddlmjhaaGreatDoor
