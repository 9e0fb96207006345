/-
  Lists that are the same.
-/
import Derived.Test.YtodiioeddlmjhaaGreatDoorTab
set_option linter.unusedVariables false
set_option linter.unusedSimpArgs false
namespace Go.Proofs.YtodiioeddlmjhaaGreatDoor
open Go.RowKit Go.Ev
set_option maxRecDepth 100000
set_option linter.unusedVariables false

theorem strs61 {l m : List (List UInt8)} {nv mv : V} (hl : StrsV l nv) (hm : StrsV m mv) : Pu Tryz.prog 61 [nv, mv] (.bool (decide (l = m))) := by
  obtain ⟨h1, h2, h3⟩ := hl
  obtain ⟨g1, g2, g3⟩ := hm
  have h2 : (elems nv).length ≤ 9223372036854775807 := h2
  rw [← sameL_eq]
  intro S
  refine CallTo.of (n := 26) Tryz.func61 rfl rfl ?_
  repeat' first
   | refine Opl.val (op_lenL rfl h1.isL rfl) rfl ?_
   | refine Opl.val (op_lenL rfl g1.isL rfl) rfl ?_
   | refine Opl.fresh (op_int rfl rfl rfl rfl) rfl (fun q hq => ?_)
   | refine .std ?_ | refine .nil ?_ | refine .seq ?_ | refine .region ?_ | refine .xs ?_ | refine .kb ?_ | refine .leaf ?_ | refine .block ?_ | refine .gn ?_ | refine .dr ?_ | fail
  refine Go.cond rfl (fun hq => ?_) (fun hq => ?_)
  · subst hq
    have hne : l.length ≠ m.length := by
      have hd : (!decide (((elems nv).length : Int) = ((elems mv).length : Int))) = true := by assumption
      rw [h3.1, g3.1]
      intro e; rw [e] at hd; simp at hd
    repeat' first | refine .std ?_ | refine .nil ?_ | refine .seq ?_ | refine .region ?_ | refine .xs ?_ | refine .kb ?_ | refine .leaf ?_ | refine .block ?_ | refine .gn ?_ | refine .dr ?_ | fail
    exact At.fnr rfl rfl rfl ⟨by rw [sameL_len hne]; rfl, Same.refl _⟩
  · subst hq
    have hle : l.length = m.length := by
      have hd : (!decide (((elems nv).length : Int) = ((elems mv).length : Int))) = false := by assumption
      rw [h3.1, g3.1]
      simp at hd; omega
    repeat' first
     | refine Opl.val (op_lenL rfl h1.isL rfl) rfl ?_
     | refine .std ?_ | refine .nil ?_ | refine .seq ?_ | refine .region ?_ | refine .xs ?_ | refine .kb ?_ | refine .leaf ?_ | refine .block ?_ | refine .gn ?_ | refine .dr ?_ | fail
    refine Go.weaken (E' := (fun (i : Nat) => [(0, nv), (1, mv), (12, .int .i64 (elems nv).length), (13, .int .i64 i)]) 0) ?_ (by repeat' first | exact trivial | refine ⟨rfl, ?_⟩)
    refine Go.loop_ind (α := Nat) (fun i => (elems nv).length - i) (fun i E S' => E = (fun (i : Nat) => [(0, nv), (1, mv), (12, .int .i64 (elems nv).length), (13, .int .i64 i)]) i ∧ i ≤ (elems nv).length ∧ Same S S' ∧ sameL (fun a b => decide (a = b)) l m = sameL (fun a b => decide (a = b)) (l.drop i) (m.drop i)) ?_ 0 _ _ ⟨rfl, Nat.zero_le _, Same.refl _, rfl⟩
    rintro i E S1 ⟨rfl, hi, k1, hs1⟩ IH
    simp only at IH ⊢
    repeat' first
     | refine Opl.val (op_lenL rfl h1.isL rfl) rfl ?_
     | refine .std ?_ | refine .nil ?_ | refine .seq ?_ | refine .region ?_ | refine .xs ?_ | refine .kb ?_ | refine .leaf ?_ | refine .block ?_ | refine .gn ?_ | refine .dr ?_ | fail
    refine Go.cond rfl (fun hq => ?_) (fun hq => ?_)
    · have hq : i < (elems nv).length := by have := of_decide_eq_true hq; omega
      obtain ⟨s, v, hs, hix, ⟨hv, _⟩, _⟩ := h3.at hq
      obtain ⟨t, w, ht, gix, ⟨hw, _⟩, _⟩ := g3.at (i := i) (by rw [← g3.1, ← hle, h3.1]; exact hq)
      have hpt : ∀ S, Pt S (.cptr none v.cells 0) [.str s] := fun S => by rw [hv]; exact Pt.cptr _ _ _
      have gpt : ∀ S, Pt S (.cptr none w.cells 0) [.str t] := fun S => by rw [hw]; exact Pt.cptr _ _ _
      rw [sameL_drop hs ht] at hs1
      obtain ⟨q, hq2⟩ : ∃ q, decide (s = t) = q := ⟨_, rfl⟩
      simp only [hq2] at hs1
      have hcmp : strOp .neq s t = some (.bool (!q)) := neq_s (by rw [hq2])
      repeat' first
       | refine Opl.val (op_ixaV h1 rfl rfl hix) rfl ?_
       | refine Opl.val (op_ixaV g1 rfl rfl gix) rfl ?_
       | refine Opl.val (op_load rfl (ld_one (hpt _))) rfl ?_
       | refine Opl.val (op_load rfl (ld_one (gpt _))) rfl ?_
       | refine Opl.val (op_str rfl rfl hcmp) rfl ?_
       | refine .std ?_ | refine .nil ?_ | refine .seq ?_ | refine .region ?_ | refine .xs ?_ | refine .kb ?_ | refine .leaf ?_ | refine .block ?_ | refine .gn ?_ | refine .dr ?_ | fail
      cases q with
      | false =>
        repeat' first
         | refine Go.condT rfl ?_
         | refine .std ?_ | refine .nil ?_ | refine .seq ?_ | refine .region ?_ | refine .xs ?_ | refine .kb ?_ | refine .leaf ?_ | refine .block ?_ | refine .gn ?_ | refine .dr ?_ | fail
        exact At.fnr rfl rfl rfl ⟨by rw [hs1]; rfl, k1⟩
      | true =>
        repeat' first
         | refine Go.condF rfl ?_
         | refine Opl.val (op_int rfl rfl rfl (inc_ok (i := i) (by omega))) rfl ?_
         | refine .std ?_ | refine .nil ?_ | refine .seq ?_ | refine .region ?_ | refine .xs ?_ | refine .kb ?_ | refine .leaf ?_ | refine .block ?_ | refine .gn ?_ | refine .dr ?_ | fail
        exact (IH (i + 1) _ S1 (by omega) ⟨rfl, by omega, k1, by rw [hs1]; rfl⟩).weaken (by repeat' first | exact trivial | refine ⟨rfl, ?_⟩)
    · have hq : i = l.length := by have := of_decide_eq_false hq; rw [h3.1]; omega
      subst hq
      rw [sameL_end hle] at hs1
      repeat' first | refine .std ?_ | refine .nil ?_ | refine .seq ?_ | refine .region ?_ | refine .xs ?_ | refine .kb ?_ | refine .leaf ?_ | refine .block ?_ | refine .gn ?_ | refine .dr ?_ | fail
      exact At.fnr rfl rfl rfl ⟨by rw [hs1]; rfl, k1⟩

theorem strs59 {l m : List (List UInt8)} {nv mv : V} (hl : StrsV l nv) (hm : StrsV m mv) : Pu Tryz.prog 59 [nv, mv] (.bool (decide (l = m))) := by
  obtain ⟨h1, h2, h3⟩ := hl
  obtain ⟨g1, g2, g3⟩ := hm
  have h2 : (elems nv).length ≤ 9223372036854775807 := h2
  rw [← sameL_eq]
  intro S
  refine CallTo.of (n := 26) Tryz.func59 rfl rfl ?_
  repeat' first
   | refine Opl.val (op_lenL rfl h1.isL rfl) rfl ?_
   | refine Opl.val (op_lenL rfl g1.isL rfl) rfl ?_
   | refine Opl.fresh (op_int rfl rfl rfl rfl) rfl (fun q hq => ?_)
   | refine .std ?_ | refine .nil ?_ | refine .seq ?_ | refine .region ?_ | refine .xs ?_ | refine .kb ?_ | refine .leaf ?_ | refine .block ?_ | refine .gn ?_ | refine .dr ?_ | fail
  refine Go.cond rfl (fun hq => ?_) (fun hq => ?_)
  · subst hq
    have hne : l.length ≠ m.length := by
      have hd : (!decide (((elems nv).length : Int) = ((elems mv).length : Int))) = true := by assumption
      rw [h3.1, g3.1]
      intro e; rw [e] at hd; simp at hd
    repeat' first | refine .std ?_ | refine .nil ?_ | refine .seq ?_ | refine .region ?_ | refine .xs ?_ | refine .kb ?_ | refine .leaf ?_ | refine .block ?_ | refine .gn ?_ | refine .dr ?_ | fail
    exact At.fnr rfl rfl rfl ⟨by rw [sameL_len hne]; rfl, Same.refl _⟩
  · subst hq
    have hle : l.length = m.length := by
      have hd : (!decide (((elems nv).length : Int) = ((elems mv).length : Int))) = false := by assumption
      rw [h3.1, g3.1]
      simp at hd; omega
    repeat' first
     | refine Opl.val (op_lenL rfl h1.isL rfl) rfl ?_
     | refine .std ?_ | refine .nil ?_ | refine .seq ?_ | refine .region ?_ | refine .xs ?_ | refine .kb ?_ | refine .leaf ?_ | refine .block ?_ | refine .gn ?_ | refine .dr ?_ | fail
    refine Go.weaken (E' := (fun (i : Nat) => [(0, nv), (1, mv), (5, .int .i64 i)]) 0) ?_ (by repeat' first | exact trivial | refine ⟨rfl, ?_⟩)
    refine Go.loop_ind (α := Nat) (fun i => (elems nv).length - i) (fun i E S' => E = (fun (i : Nat) => [(0, nv), (1, mv), (5, .int .i64 i)]) i ∧ i ≤ (elems nv).length ∧ Same S S' ∧ sameL (fun a b => decide (a = b)) l m = sameL (fun a b => decide (a = b)) (l.drop i) (m.drop i)) ?_ 0 _ _ ⟨rfl, Nat.zero_le _, Same.refl _, rfl⟩
    rintro i E S1 ⟨rfl, hi, k1, hs1⟩ IH
    simp only at IH ⊢
    repeat' first
     | refine Opl.val (op_lenL rfl h1.isL rfl) rfl ?_
     | refine .std ?_ | refine .nil ?_ | refine .seq ?_ | refine .region ?_ | refine .xs ?_ | refine .kb ?_ | refine .leaf ?_ | refine .block ?_ | refine .gn ?_ | refine .dr ?_ | fail
    refine Go.cond rfl (fun hq => ?_) (fun hq => ?_)
    · have hq : i < (elems nv).length := by have := of_decide_eq_true hq; omega
      obtain ⟨s, v, hs, hix, ⟨hv, _⟩, _⟩ := h3.at hq
      obtain ⟨t, w, ht, gix, ⟨hw, _⟩, _⟩ := g3.at (i := i) (by rw [← g3.1, ← hle, h3.1]; exact hq)
      have hpt : ∀ S, Pt S (.cptr none v.cells 0) [.str s] := fun S => by rw [hv]; exact Pt.cptr _ _ _
      have gpt : ∀ S, Pt S (.cptr none w.cells 0) [.str t] := fun S => by rw [hw]; exact Pt.cptr _ _ _
      rw [sameL_drop hs ht] at hs1
      obtain ⟨q, hq2⟩ : ∃ q, decide (s = t) = q := ⟨_, rfl⟩
      simp only [hq2] at hs1
      have hcmp : strOp .neq s t = some (.bool (!q)) := neq_s (by rw [hq2])
      repeat' first
       | refine Opl.val (op_ixaV h1 rfl rfl hix) rfl ?_
       | refine Opl.val (op_ixaV g1 rfl rfl gix) rfl ?_
       | refine Opl.val (op_load rfl (ld_one (hpt _))) rfl ?_
       | refine Opl.val (op_load rfl (ld_one (gpt _))) rfl ?_
       | refine Opl.val (op_str rfl rfl hcmp) rfl ?_
       | refine .std ?_ | refine .nil ?_ | refine .seq ?_ | refine .region ?_ | refine .xs ?_ | refine .kb ?_ | refine .leaf ?_ | refine .block ?_ | refine .gn ?_ | refine .dr ?_ | fail
      cases q with
      | false =>
        repeat' first
         | refine Go.condT rfl ?_
         | refine .std ?_ | refine .nil ?_ | refine .seq ?_ | refine .region ?_ | refine .xs ?_ | refine .kb ?_ | refine .leaf ?_ | refine .block ?_ | refine .gn ?_ | refine .dr ?_ | fail
        exact At.fnr rfl rfl rfl ⟨by rw [hs1]; rfl, k1⟩
      | true =>
        repeat' first
         | refine Go.condF rfl ?_
         | refine Opl.val (op_int rfl rfl rfl (inc_ok (i := i) (by omega))) rfl ?_
         | refine .std ?_ | refine .nil ?_ | refine .seq ?_ | refine .region ?_ | refine .xs ?_ | refine .kb ?_ | refine .leaf ?_ | refine .block ?_ | refine .gn ?_ | refine .dr ?_ | fail
        exact (IH (i + 1) _ S1 (by omega) ⟨rfl, by omega, k1, by rw [hs1]; rfl⟩).weaken (by repeat' first | exact trivial | refine ⟨rfl, ?_⟩)
    · have hq : i = l.length := by have := of_decide_eq_false hq; rw [h3.1]; omega
      subst hq
      rw [sameL_end hle] at hs1
      repeat' first | refine .std ?_ | refine .nil ?_ | refine .seq ?_ | refine .region ?_ | refine .xs ?_ | refine .kb ?_ | refine .leaf ?_ | refine .block ?_ | refine .gn ?_ | refine .dr ?_ | fail
      exact At.fnr rfl rfl rfl ⟨by rw [hs1]; rfl, k1⟩

set_option maxHeartbeats 1000000 in
theorem eqf62 {l m : List Ex} {nv mv : V} (h1 : isLn 7 nv) (h2 : (elems nv).length ≤ huge) (h3 : All2 ExV l (elems nv)) (g1 : isLn 7 mv) (g3 : All2 ExV m (elems mv))
    (hf : ∀ a ∈ l, ∀ b v w, ExV a v → ExV b w → Pu Tryz.prog 28 [.agg v.cells, .agg w.cells] (.bool (Ex.same a b))) : Pu Tryz.prog 62 [nv, mv, .func 28 [] []] (.bool (sameL Ex.same l m)) := by
  have h2 : (elems nv).length ≤ 9223372036854775807 := h2
  intro S
  refine CallTo.of (n := 32) Tryz.func62 rfl rfl ?_
  repeat' first
   | refine Opl.val (op_lenL rfl h1.isL rfl) rfl ?_
   | refine Opl.val (op_lenL rfl g1.isL rfl) rfl ?_
   | refine Opl.fresh (op_int rfl rfl rfl rfl) rfl (fun q hq => ?_)
   | refine .std ?_ | refine .nil ?_ | refine .seq ?_ | refine .region ?_ | refine .xs ?_ | refine .kb ?_ | refine .leaf ?_ | refine .block ?_ | refine .gn ?_ | refine .dr ?_ | fail
  refine Go.cond rfl (fun hq => ?_) (fun hq => ?_)
  · subst hq
    have hne : l.length ≠ m.length := by
      have hd : (!decide (((elems nv).length : Int) = ((elems mv).length : Int))) = true := by assumption
      rw [h3.1, g3.1]
      intro e; rw [e] at hd; simp at hd
    repeat' first | refine .std ?_ | refine .nil ?_ | refine .seq ?_ | refine .region ?_ | refine .xs ?_ | refine .kb ?_ | refine .leaf ?_ | refine .block ?_ | refine .gn ?_ | refine .dr ?_ | fail
    exact At.fnr rfl rfl rfl ⟨by rw [sameL_len hne]; rfl, Same.refl _⟩
  · subst hq
    have hle : l.length = m.length := by
      have hd : (!decide (((elems nv).length : Int) = ((elems mv).length : Int))) = false := by assumption
      rw [h3.1, g3.1]
      simp at hd; omega
    repeat' first
     | refine Opl.val (op_lenL rfl h1.isL rfl) rfl ?_
     | refine .std ?_ | refine .nil ?_ | refine .seq ?_ | refine .region ?_ | refine .xs ?_ | refine .kb ?_ | refine .leaf ?_ | refine .block ?_ | refine .gn ?_ | refine .dr ?_ | fail
    refine Go.weaken (E' := [(0, nv), (1, mv), (2, .func 28 [] []), (15, nv), (16, .int .i64 (elems nv).length), (17, .int .i64 (0 : Nat))]) ?_ (by repeat' first | exact trivial | refine ⟨rfl, ?_⟩)
    refine Go.loop_ind (α := Nat) (fun i => (elems nv).length - i) (fun i E S' => E = [(0, nv), (1, mv), (2, .func 28 [] []), (15, nv), (16, .int .i64 (elems nv).length), (17, .int .i64 i)] ∧ i ≤ (elems nv).length ∧ Same S S' ∧ sameL Ex.same l m = sameL Ex.same (l.drop i) (m.drop i)) ?_ 0 _ _ ⟨rfl, Nat.zero_le _, Same.refl _, rfl⟩
    rintro i E S1 ⟨rfl, hi, k1, hs1⟩ IH
    repeat' first | refine .std ?_ | refine .nil ?_ | refine .seq ?_ | refine .region ?_ | refine .xs ?_ | refine .kb ?_ | refine .leaf ?_ | refine .block ?_ | refine .gn ?_ | refine .dr ?_ | fail
    refine Go.cond rfl (fun hq => ?_) (fun hq => ?_)
    · have hq : i < (elems nv).length := by have := of_decide_eq_true hq; omega
      obtain ⟨s, v, hs, hix, hv, hmem⟩ := h3.at hq
      obtain ⟨t, w, ht, gix, hw, _⟩ := g3.at (i := i) (by rw [← g3.1, ← hle, h3.1]; exact hq)
      rw [sameL_drop hs ht] at hs1
      obtain ⟨q, hq2⟩ : ∃ q, Ex.same s t = q := ⟨_, rfl⟩
      rw [hq2] at hs1
      have hcall := hf s hmem t v w hv hw
      rw [hq2] at hcall
      obtain ⟨W1, st1, b1, k2⟩ := lay (P := Tryz.prog) (T := 27) [.int .i64 0, .int .i64 0, .str [], .str [], .nils, .nils, .nils] S1 hv.len7 hv.ones
      obtain ⟨W2, st2, b2, k3⟩ := lay (P := Tryz.prog) (T := 27) [.int .i64 0, .int .i64 0, .str [], .str [], .nils, .nils, .nils] W1 hw.len7 hw.ones
      have k5 : Same S W2 := (k1.trans k2).trans k3
      have b1 := b1.same k3
      repeat' first
       | refine Opl.val (op_ixaV h1 rfl rfl hix) rfl ?_
       | refine Opl.val (op_ixaV g1 rfl rfl gix) rfl ?_
       | refine Opl.val (op_load rfl (ld_agg (Pt.cptr _ _ _) hv.len7)) rfl ?_
       | refine Opl.val (op_load rfl (ld_agg (Pt.cptr _ _ _) hw.len7)) rfl ?_
       | refine Opl.val op_alloc rfl ?_
       | refine Opl.eff (op_store rfl rfl st1) ?_
       | refine Opl.eff (op_store rfl rfl st2) ?_
       | refine Opl.val (op_load rfl (ld_bxA b1 (Same.refl _) hv.len7)) rfl ?_
       | refine Opl.val (op_load rfl (ld_bxA b2 (Same.refl _) hw.len7)) rfl ?_
       | refine Opl.callS k5 rfl (by kernel_rfl) hcall rfl (fun S4 k6 => ?_)
       | refine .std ?_ | refine .nil ?_ | refine .seq ?_ | refine .region ?_ | refine .xs ?_ | refine .kb ?_ | refine .leaf ?_ | refine .block ?_ | refine .gn ?_ | refine .dr ?_ | fail
      rename_i S4 k6
      cases q with
      | false =>
        repeat' first
         | refine Go.condT rfl ?_
         | refine .std ?_ | refine .nil ?_ | refine .seq ?_ | refine .region ?_ | refine .xs ?_ | refine .kb ?_ | refine .leaf ?_ | refine .block ?_ | refine .gn ?_ | refine .dr ?_ | fail
        exact At.fnr rfl rfl rfl ⟨by rw [hs1]; rfl, k6⟩
      | true =>
        repeat' first
         | refine Go.condF rfl ?_
         | refine Opl.val (op_int rfl rfl rfl (inc_ok (i := i) (by omega))) rfl ?_
         | refine .std ?_ | refine .nil ?_ | refine .seq ?_ | refine .region ?_ | refine .xs ?_ | refine .kb ?_ | refine .leaf ?_ | refine .block ?_ | refine .gn ?_ | refine .dr ?_ | fail
        exact (IH (i + 1) _ S4 (by omega) ⟨rfl, by omega, k6, by rw [hs1]; rfl⟩).weaken (by repeat' first | exact trivial | refine ⟨rfl, ?_⟩)
    · have hq : i = l.length := by have := of_decide_eq_false hq; rw [h3.1]; omega
      subst hq
      rw [sameL_end hle] at hs1
      repeat' first | refine .std ?_ | refine .nil ?_ | refine .seq ?_ | refine .region ?_ | refine .xs ?_ | refine .kb ?_ | refine .leaf ?_ | refine .block ?_ | refine .gn ?_ | refine .dr ?_ | fail
      exact At.fnr rfl rfl rfl ⟨by rw [hs1]; rfl, k1⟩

set_option maxHeartbeats 1000000 in
theorem eqf63 {l m : List Ar} {nv mv : V} (h1 : isLn 9 nv) (h2 : (elems nv).length ≤ huge) (h3 : All2 ArV l (elems nv)) (g1 : isLn 9 mv) (g3 : All2 ArV m (elems mv))
    (hf : ∀ a ∈ l, ∀ b v w, ArV a v → ArV b w → Pu Tryz.prog 64 [.agg v.cells, .agg w.cells] (.bool (Ar.same a b))) : Pu Tryz.prog 63 [nv, mv, .func 64 [] []] (.bool (sameL Ar.same l m)) := by
  have h2 : (elems nv).length ≤ 9223372036854775807 := h2
  intro S
  refine CallTo.of (n := 32) Tryz.func63 rfl rfl ?_
  repeat' first
   | refine Opl.val (op_lenL rfl h1.isL rfl) rfl ?_
   | refine Opl.val (op_lenL rfl g1.isL rfl) rfl ?_
   | refine Opl.fresh (op_int rfl rfl rfl rfl) rfl (fun q hq => ?_)
   | refine .std ?_ | refine .nil ?_ | refine .seq ?_ | refine .region ?_ | refine .xs ?_ | refine .kb ?_ | refine .leaf ?_ | refine .block ?_ | refine .gn ?_ | refine .dr ?_ | fail
  refine Go.cond rfl (fun hq => ?_) (fun hq => ?_)
  · subst hq
    have hne : l.length ≠ m.length := by
      have hd : (!decide (((elems nv).length : Int) = ((elems mv).length : Int))) = true := by assumption
      rw [h3.1, g3.1]
      intro e; rw [e] at hd; simp at hd
    repeat' first | refine .std ?_ | refine .nil ?_ | refine .seq ?_ | refine .region ?_ | refine .xs ?_ | refine .kb ?_ | refine .leaf ?_ | refine .block ?_ | refine .gn ?_ | refine .dr ?_ | fail
    exact At.fnr rfl rfl rfl ⟨by rw [sameL_len hne]; rfl, Same.refl _⟩
  · subst hq
    have hle : l.length = m.length := by
      have hd : (!decide (((elems nv).length : Int) = ((elems mv).length : Int))) = false := by assumption
      rw [h3.1, g3.1]
      simp at hd; omega
    repeat' first
     | refine Opl.val (op_lenL rfl h1.isL rfl) rfl ?_
     | refine .std ?_ | refine .nil ?_ | refine .seq ?_ | refine .region ?_ | refine .xs ?_ | refine .kb ?_ | refine .leaf ?_ | refine .block ?_ | refine .gn ?_ | refine .dr ?_ | fail
    refine Go.weaken (E' := [(0, nv), (1, mv), (2, .func 64 [] []), (15, nv), (16, .int .i64 (elems nv).length), (17, .int .i64 (0 : Nat))]) ?_ (by repeat' first | exact trivial | refine ⟨rfl, ?_⟩)
    refine Go.loop_ind (α := Nat) (fun i => (elems nv).length - i) (fun i E S' => E = [(0, nv), (1, mv), (2, .func 64 [] []), (15, nv), (16, .int .i64 (elems nv).length), (17, .int .i64 i)] ∧ i ≤ (elems nv).length ∧ Same S S' ∧ sameL Ar.same l m = sameL Ar.same (l.drop i) (m.drop i)) ?_ 0 _ _ ⟨rfl, Nat.zero_le _, Same.refl _, rfl⟩
    rintro i E S1 ⟨rfl, hi, k1, hs1⟩ IH
    repeat' first | refine .std ?_ | refine .nil ?_ | refine .seq ?_ | refine .region ?_ | refine .xs ?_ | refine .kb ?_ | refine .leaf ?_ | refine .block ?_ | refine .gn ?_ | refine .dr ?_ | fail
    refine Go.cond rfl (fun hq => ?_) (fun hq => ?_)
    · have hq : i < (elems nv).length := by have := of_decide_eq_true hq; omega
      obtain ⟨s, v, hs, hix, hv, hmem⟩ := h3.at hq
      obtain ⟨t, w, ht, gix, hw, _⟩ := g3.at (i := i) (by rw [← g3.1, ← hle, h3.1]; exact hq)
      rw [sameL_drop hs ht] at hs1
      obtain ⟨q, hq2⟩ : ∃ q, Ar.same s t = q := ⟨_, rfl⟩
      rw [hq2] at hs1
      have hcall := hf s hmem t v w hv hw
      rw [hq2] at hcall
      obtain ⟨W1, st1, b1, k2⟩ := lay (P := Tryz.prog) (T := 100) [.str [], .nils, .int .i64 0, .int .i64 0, .str [], .str [], .nils, .nils, .nils] S1 hv.len9 hv.ones
      obtain ⟨W2, st2, b2, k3⟩ := lay (P := Tryz.prog) (T := 100) [.str [], .nils, .int .i64 0, .int .i64 0, .str [], .str [], .nils, .nils, .nils] W1 hw.len9 hw.ones
      have k5 : Same S W2 := (k1.trans k2).trans k3
      have b1 := b1.same k3
      repeat' first
       | refine Opl.val (op_ixaV h1 rfl rfl hix) rfl ?_
       | refine Opl.val (op_ixaV g1 rfl rfl gix) rfl ?_
       | refine Opl.val (op_load rfl (ld_agg (Pt.cptr _ _ _) hv.len9)) rfl ?_
       | refine Opl.val (op_load rfl (ld_agg (Pt.cptr _ _ _) hw.len9)) rfl ?_
       | refine Opl.val op_alloc rfl ?_
       | refine Opl.eff (op_store rfl rfl st1) ?_
       | refine Opl.eff (op_store rfl rfl st2) ?_
       | refine Opl.val (op_load rfl (ld_bxA b1 (Same.refl _) hv.len9)) rfl ?_
       | refine Opl.val (op_load rfl (ld_bxA b2 (Same.refl _) hw.len9)) rfl ?_
       | refine Opl.callS k5 rfl (by kernel_rfl) hcall rfl (fun S4 k6 => ?_)
       | refine .std ?_ | refine .nil ?_ | refine .seq ?_ | refine .region ?_ | refine .xs ?_ | refine .kb ?_ | refine .leaf ?_ | refine .block ?_ | refine .gn ?_ | refine .dr ?_ | fail
      rename_i S4 k6
      cases q with
      | false =>
        repeat' first
         | refine Go.condT rfl ?_
         | refine .std ?_ | refine .nil ?_ | refine .seq ?_ | refine .region ?_ | refine .xs ?_ | refine .kb ?_ | refine .leaf ?_ | refine .block ?_ | refine .gn ?_ | refine .dr ?_ | fail
        exact At.fnr rfl rfl rfl ⟨by rw [hs1]; rfl, k6⟩
      | true =>
        repeat' first
         | refine Go.condF rfl ?_
         | refine Opl.val (op_int rfl rfl rfl (inc_ok (i := i) (by omega))) rfl ?_
         | refine .std ?_ | refine .nil ?_ | refine .seq ?_ | refine .region ?_ | refine .xs ?_ | refine .kb ?_ | refine .leaf ?_ | refine .block ?_ | refine .gn ?_ | refine .dr ?_ | fail
        exact (IH (i + 1) _ S4 (by omega) ⟨rfl, by omega, k6, by rw [hs1]; rfl⟩).weaken (by repeat' first | exact trivial | refine ⟨rfl, ?_⟩)
    · have hq : i = l.length := by have := of_decide_eq_false hq; rw [h3.1]; omega
      subst hq
      rw [sameL_end hle] at hs1
      repeat' first | refine .std ?_ | refine .nil ?_ | refine .seq ?_ | refine .region ?_ | refine .xs ?_ | refine .kb ?_ | refine .leaf ?_ | refine .block ?_ | refine .gn ?_ | refine .dr ?_ | fail
      exact At.fnr rfl rfl rfl ⟨by rw [hs1]; rfl, k1⟩

set_option maxHeartbeats 1000000 in
theorem eqf66 {l m : List Ty} {nv mv : V} (h1 : isLn 6 nv) (h2 : (elems nv).length ≤ huge) (h3 : All2 TyV l (elems nv)) (g1 : isLn 6 mv) (g3 : All2 TyV m (elems mv))
    (hf : ∀ a ∈ l, ∀ b v w, TyV a v → TyV b w → Pu Tryz.prog 29 [.agg v.cells, .agg w.cells] (.bool (Ty.same a b))) : Pu Tryz.prog 66 [nv, mv, .func 29 [] []] (.bool (sameL Ty.same l m)) := by
  have h2 : (elems nv).length ≤ 9223372036854775807 := h2
  intro S
  refine CallTo.of (n := 32) Tryz.func66 rfl rfl ?_
  repeat' first
   | refine Opl.val (op_lenL rfl h1.isL rfl) rfl ?_
   | refine Opl.val (op_lenL rfl g1.isL rfl) rfl ?_
   | refine Opl.fresh (op_int rfl rfl rfl rfl) rfl (fun q hq => ?_)
   | refine .std ?_ | refine .nil ?_ | refine .seq ?_ | refine .region ?_ | refine .xs ?_ | refine .kb ?_ | refine .leaf ?_ | refine .block ?_ | refine .gn ?_ | refine .dr ?_ | fail
  refine Go.cond rfl (fun hq => ?_) (fun hq => ?_)
  · subst hq
    have hne : l.length ≠ m.length := by
      have hd : (!decide (((elems nv).length : Int) = ((elems mv).length : Int))) = true := by assumption
      rw [h3.1, g3.1]
      intro e; rw [e] at hd; simp at hd
    repeat' first | refine .std ?_ | refine .nil ?_ | refine .seq ?_ | refine .region ?_ | refine .xs ?_ | refine .kb ?_ | refine .leaf ?_ | refine .block ?_ | refine .gn ?_ | refine .dr ?_ | fail
    exact At.fnr rfl rfl rfl ⟨by rw [sameL_len hne]; rfl, Same.refl _⟩
  · subst hq
    have hle : l.length = m.length := by
      have hd : (!decide (((elems nv).length : Int) = ((elems mv).length : Int))) = false := by assumption
      rw [h3.1, g3.1]
      simp at hd; omega
    repeat' first
     | refine Opl.val (op_lenL rfl h1.isL rfl) rfl ?_
     | refine .std ?_ | refine .nil ?_ | refine .seq ?_ | refine .region ?_ | refine .xs ?_ | refine .kb ?_ | refine .leaf ?_ | refine .block ?_ | refine .gn ?_ | refine .dr ?_ | fail
    refine Go.weaken (E' := [(0, nv), (1, mv), (2, .func 29 [] []), (15, nv), (16, .int .i64 (elems nv).length), (17, .int .i64 (0 : Nat))]) ?_ (by repeat' first | exact trivial | refine ⟨rfl, ?_⟩)
    refine Go.loop_ind (α := Nat) (fun i => (elems nv).length - i) (fun i E S' => E = [(0, nv), (1, mv), (2, .func 29 [] []), (15, nv), (16, .int .i64 (elems nv).length), (17, .int .i64 i)] ∧ i ≤ (elems nv).length ∧ Same S S' ∧ sameL Ty.same l m = sameL Ty.same (l.drop i) (m.drop i)) ?_ 0 _ _ ⟨rfl, Nat.zero_le _, Same.refl _, rfl⟩
    rintro i E S1 ⟨rfl, hi, k1, hs1⟩ IH
    repeat' first | refine .std ?_ | refine .nil ?_ | refine .seq ?_ | refine .region ?_ | refine .xs ?_ | refine .kb ?_ | refine .leaf ?_ | refine .block ?_ | refine .gn ?_ | refine .dr ?_ | fail
    refine Go.cond rfl (fun hq => ?_) (fun hq => ?_)
    · have hq : i < (elems nv).length := by have := of_decide_eq_true hq; omega
      obtain ⟨s, v, hs, hix, hv, hmem⟩ := h3.at hq
      obtain ⟨t, w, ht, gix, hw, _⟩ := g3.at (i := i) (by rw [← g3.1, ← hle, h3.1]; exact hq)
      rw [sameL_drop hs ht] at hs1
      obtain ⟨q, hq2⟩ : ∃ q, Ty.same s t = q := ⟨_, rfl⟩
      rw [hq2] at hs1
      have hcall := hf s hmem t v w hv hw
      rw [hq2] at hcall
      obtain ⟨W1, st1, b1, k2⟩ := lay (P := Tryz.prog) (T := 46) [.int .i64 0, .int .i64 0, .str [], .nils, .nils, .int .i64 0] S1 hv.len6 hv.ones
      obtain ⟨W2, st2, b2, k3⟩ := lay (P := Tryz.prog) (T := 46) [.int .i64 0, .int .i64 0, .str [], .nils, .nils, .int .i64 0] W1 hw.len6 hw.ones
      have k5 : Same S W2 := (k1.trans k2).trans k3
      have b1 := b1.same k3
      repeat' first
       | refine Opl.val (op_ixaV h1 rfl rfl hix) rfl ?_
       | refine Opl.val (op_ixaV g1 rfl rfl gix) rfl ?_
       | refine Opl.val (op_load rfl (ld_agg (Pt.cptr _ _ _) hv.len6)) rfl ?_
       | refine Opl.val (op_load rfl (ld_agg (Pt.cptr _ _ _) hw.len6)) rfl ?_
       | refine Opl.val op_alloc rfl ?_
       | refine Opl.eff (op_store rfl rfl st1) ?_
       | refine Opl.eff (op_store rfl rfl st2) ?_
       | refine Opl.val (op_load rfl (ld_bxA b1 (Same.refl _) hv.len6)) rfl ?_
       | refine Opl.val (op_load rfl (ld_bxA b2 (Same.refl _) hw.len6)) rfl ?_
       | refine Opl.callS k5 rfl (by kernel_rfl) hcall rfl (fun S4 k6 => ?_)
       | refine .std ?_ | refine .nil ?_ | refine .seq ?_ | refine .region ?_ | refine .xs ?_ | refine .kb ?_ | refine .leaf ?_ | refine .block ?_ | refine .gn ?_ | refine .dr ?_ | fail
      rename_i S4 k6
      cases q with
      | false =>
        repeat' first
         | refine Go.condT rfl ?_
         | refine .std ?_ | refine .nil ?_ | refine .seq ?_ | refine .region ?_ | refine .xs ?_ | refine .kb ?_ | refine .leaf ?_ | refine .block ?_ | refine .gn ?_ | refine .dr ?_ | fail
        exact At.fnr rfl rfl rfl ⟨by rw [hs1]; rfl, k6⟩
      | true =>
        repeat' first
         | refine Go.condF rfl ?_
         | refine Opl.val (op_int rfl rfl rfl (inc_ok (i := i) (by omega))) rfl ?_
         | refine .std ?_ | refine .nil ?_ | refine .seq ?_ | refine .region ?_ | refine .xs ?_ | refine .kb ?_ | refine .leaf ?_ | refine .block ?_ | refine .gn ?_ | refine .dr ?_ | fail
        exact (IH (i + 1) _ S4 (by omega) ⟨rfl, by omega, k6, by rw [hs1]; rfl⟩).weaken (by repeat' first | exact trivial | refine ⟨rfl, ?_⟩)
    · have hq : i = l.length := by have := of_decide_eq_false hq; rw [h3.1]; omega
      subst hq
      rw [sameL_end hle] at hs1
      repeat' first | refine .std ?_ | refine .nil ?_ | refine .seq ?_ | refine .region ?_ | refine .xs ?_ | refine .kb ?_ | refine .leaf ?_ | refine .block ?_ | refine .gn ?_ | refine .dr ?_ | fail
      exact At.fnr rfl rfl rfl ⟨by rw [hs1]; rfl, k1⟩

end Go.Proofs.YtodiioeddlmjhaaGreatDoor
