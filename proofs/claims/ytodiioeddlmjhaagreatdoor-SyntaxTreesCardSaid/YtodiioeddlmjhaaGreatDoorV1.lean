import Derived.Test.YtodiioeddlmjhaaGreatDoorT0
import Derived.Test.YtodiioeddlmjhaaGreatDoorE12
set_option linter.unusedVariables false
set_option linter.unusedSimpArgs false
namespace Go.Proofs.YtodiioeddlmjhaaGreatDoor
open Go.RowKit Go.Ev
set_option maxRecDepth 100000
set_option linter.unusedVariables false
set_option linter.unusedSimpArgs false
attribute [local irreducible] Go.Ev.opE
theorem kinds {k : Int} (h0 : 0 ≤ k) (h1 : k ≤ 19) : k = 0 ∨ k = 1 ∨ k = 2 ∨ k = 3 ∨ k = 4 ∨ k = 5 ∨ k = 6 ∨ k = 7 ∨ k = 8 ∨ k = 9 ∨ k = 10 ∨ k = 11 ∨ k = 12 ∨ k = 13 ∨ k = 14 ∨ k = 15 ∨ k = 16 ∨ k = 17 ∨ k = 18 ∨ k = 19 := by omega
set_option maxHeartbeats 8000000 in
theorem levelF {e : Ex} {cs : List V} (he : ExC e cs) (h0 : 0 ≤ e.kind) (h1 : e.kind ≤ 19) : Pu Tryz.prog 105 [.agg cs] (.int .i64 (levE e.kind e.s)) := by
 obtain ⟨nv, lv, av, rfl, hk, hn, hs, ht, hnm, hl, hll, ha, hal, hL, hA⟩ := he.inv
 intro S
 obtain ⟨U, hU, bx, s0⟩ := box1 S 27 [.int .i64 e.kind, .int .i64 e.n, .str e.s, .str e.t, nv, lv, av]
 have k0 : Same U U := Same.refl U
 refine CallTo.of (n := 28) Tryz.func105 rfl rfl ?_
 rcases kinds h0 h1 with h | h | h | h | h | h | h | h | h | h | h | h | h | h | h | h | h | h | h | h
 ·rw [h] at hU bx ⊢
  repeat' first
   | refine Opl.val (op_box rfl) rfl (Opl.cast (S' := U) ?_ hU)
   | refine Opl.val (op_load rfl (ld_bx bx (by assumption) _ rfl)) rfl ?_
   | refine Go.condT rfl ?_
   | refine Go.condF rfl ?_
   | exact At.fnr rfl rfl rfl ⟨pack_n rfl, s0.trans (by assumption)⟩
   | refine .std ?_ | refine .nil ?_ | refine .seq ?_ | refine .region ?_ | refine .xs ?_ | refine .kb ?_ | refine .leaf ?_ | refine .block ?_ | refine .gn ?_ | refine .dr ?_ | fail
 ·rw [h] at hU bx ⊢
  repeat' first
   | refine Opl.val (op_box rfl) rfl (Opl.cast (S' := U) ?_ hU)
   | refine Opl.val (op_load rfl (ld_bx bx (by assumption) _ rfl)) rfl ?_
   | refine Go.condT rfl ?_
   | refine Go.condF rfl ?_
   | exact At.fnr rfl rfl rfl ⟨pack_n rfl, s0.trans (by assumption)⟩
   | refine .std ?_ | refine .nil ?_ | refine .seq ?_ | refine .region ?_ | refine .xs ?_ | refine .kb ?_ | refine .leaf ?_ | refine .block ?_ | refine .gn ?_ | refine .dr ?_ | fail
 ·rw [h] at hU bx ⊢
  repeat' first
   | refine Opl.val (op_box rfl) rfl (Opl.cast (S' := U) ?_ hU)
   | refine Opl.val (op_load rfl (ld_bx bx (by assumption) _ rfl)) rfl ?_
   | refine Go.condT rfl ?_
   | refine Go.condF rfl ?_
   | exact At.fnr rfl rfl rfl ⟨pack_n rfl, s0.trans (by assumption)⟩
   | refine .std ?_ | refine .nil ?_ | refine .seq ?_ | refine .region ?_ | refine .xs ?_ | refine .kb ?_ | refine .leaf ?_ | refine .block ?_ | refine .gn ?_ | refine .dr ?_ | fail
 ·rw [h] at hU bx ⊢
  repeat' first
   | refine Opl.val (op_box rfl) rfl (Opl.cast (S' := U) ?_ hU)
   | refine Opl.val (op_load rfl (ld_bx bx (by assumption) _ rfl)) rfl ?_
   | refine Go.condT rfl ?_
   | refine Go.condF rfl ?_
   | exact At.fnr rfl rfl rfl ⟨pack_n rfl, s0.trans (by assumption)⟩
   | refine .std ?_ | refine .nil ?_ | refine .seq ?_ | refine .region ?_ | refine .xs ?_ | refine .kb ?_ | refine .leaf ?_ | refine .block ?_ | refine .gn ?_ | refine .dr ?_ | fail
 ·rw [h] at hU bx ⊢
  repeat' first
   | refine Opl.val (op_box rfl) rfl (Opl.cast (S' := U) ?_ hU)
   | refine Opl.val (op_load rfl (ld_bx bx (by assumption) _ rfl)) rfl ?_
   | refine Go.condT rfl ?_
   | refine Go.condF rfl ?_
   | exact At.fnr rfl rfl rfl ⟨pack_n rfl, s0.trans (by assumption)⟩
   | refine .std ?_ | refine .nil ?_ | refine .seq ?_ | refine .region ?_ | refine .xs ?_ | refine .kb ?_ | refine .leaf ?_ | refine .block ?_ | refine .gn ?_ | refine .dr ?_ | fail
 ·rw [h] at hU bx ⊢
  repeat' first
   | refine Opl.val (op_box rfl) rfl (Opl.cast (S' := U) ?_ hU)
   | refine Opl.val (op_load rfl (ld_bx bx (by assumption) _ rfl)) rfl ?_
   | refine Go.condT rfl ?_
   | refine Go.condF rfl ?_
   | exact At.fnr rfl rfl rfl ⟨pack_n rfl, s0.trans (by assumption)⟩
   | refine .std ?_ | refine .nil ?_ | refine .seq ?_ | refine .region ?_ | refine .xs ?_ | refine .kb ?_ | refine .leaf ?_ | refine .block ?_ | refine .gn ?_ | refine .dr ?_ | fail
 ·rw [h] at hU bx ⊢
  repeat' first
   | refine Opl.val (op_box rfl) rfl (Opl.cast (S' := U) ?_ hU)
   | refine Opl.val (op_load rfl (ld_bx bx (by assumption) _ rfl)) rfl ?_
   | refine Go.condT rfl ?_
   | refine Go.condF rfl ?_
   | exact At.fnr rfl rfl rfl ⟨pack_n rfl, s0.trans (by assumption)⟩
   | refine .std ?_ | refine .nil ?_ | refine .seq ?_ | refine .region ?_ | refine .xs ?_ | refine .kb ?_ | refine .leaf ?_ | refine .block ?_ | refine .gn ?_ | refine .dr ?_ | fail
 ·rw [h] at hU bx ⊢
  repeat' first
   | refine Opl.val (op_box rfl) rfl (Opl.cast (S' := U) ?_ hU)
   | refine Opl.val (op_load rfl (ld_bx bx (by assumption) _ rfl)) rfl ?_
   | refine Go.condT rfl ?_
   | refine Go.condF rfl ?_
   | exact At.fnr rfl rfl rfl ⟨pack_n rfl, s0.trans (by assumption)⟩
   | refine .std ?_ | refine .nil ?_ | refine .seq ?_ | refine .region ?_ | refine .xs ?_ | refine .kb ?_ | refine .leaf ?_ | refine .block ?_ | refine .gn ?_ | refine .dr ?_ | fail
 ·rw [h] at hU bx ⊢
  repeat' first
   | refine Opl.val (op_box rfl) rfl (Opl.cast (S' := U) ?_ hU)
   | refine Opl.val (op_load rfl (ld_bx bx (by assumption) _ rfl)) rfl ?_
   | refine Go.condT rfl ?_
   | refine Go.condF rfl ?_
   | exact At.fnr rfl rfl rfl ⟨pack_n rfl, s0.trans (by assumption)⟩
   | refine .std ?_ | refine .nil ?_ | refine .seq ?_ | refine .region ?_ | refine .xs ?_ | refine .kb ?_ | refine .leaf ?_ | refine .block ?_ | refine .gn ?_ | refine .dr ?_ | fail
 ·rw [h] at hU bx ⊢
  obtain ⟨q1, g1⟩ : ∃ q, decide (e.s = [42]) = q := ⟨_, rfl⟩
  obtain ⟨q2, g2⟩ : ∃ q, decide (e.s = [43]) = q := ⟨_, rfl⟩
  obtain ⟨q3, g3⟩ : ∃ q, decide (e.s = [45]) = q := ⟨_, rfl⟩
  have hspec : levE 9 e.s = if q1 then 3 else if q2 || q3 then 2 else 1 := by
   have i1 : (e.s = [42]) ↔ q1 = true := by rw [← g1]; simp
   have i2 : (e.s = [43] ∨ e.s = [45]) ↔ (q2 || q3) = true := by rw [← g2, ← g3]; simp
   show (if e.s = [42] then (3 : Int) else if e.s = [43] ∨ e.s = [45] then 2 else 1) = _
   simp only [i1, i2]
  repeat' first
   | refine Opl.val (op_box rfl) rfl (Opl.cast (S' := U) ?_ hU)
   | refine Opl.val (op_load rfl (ld_bx bx (by assumption) _ rfl)) rfl ?_
   | refine Opl.val (op_str rfl rfl (eql_s g1)) rfl ?_
   | refine Opl.val (op_str rfl rfl (eql_s g2)) rfl ?_
   | refine Opl.val (op_str rfl rfl (eql_s g3)) rfl ?_
   | refine op_gyes rfl ?_ rfl
   | refine .gn ?_
   | (refine Opl.gonTN rfl rfl (fun hq => ?_) (fun hq => ?_) <;> subst hq)
   | (refine Opl.gonFN rfl rfl (fun hq => ?_) (fun hq => ?_) <;> subst hq)
   | (refine Opl.gonT rfl rfl (fun hq => ?_) (fun hq => ?_) <;> subst hq)
   | (refine Opl.gonF rfl rfl (fun hq => ?_) (fun hq => ?_) <;> subst hq)
   | refine Go.condT rfl ?_
   | refine Go.condF rfl ?_
   | (refine Go.condN rfl (fun hq => ?_) (fun hq => ?_) <;> subst hq)
   | (refine Go.condV rfl (fun hq => ?_) (fun hq => ?_) <;> subst hq)
   | exact At.fnr rfl rfl rfl ⟨pack_n (by rw [hspec]; rfl), s0.trans (by assumption)⟩
   | refine .std ?_ | refine .nil ?_ | refine .seq ?_ | refine .region ?_ | refine .xs ?_ | refine .kb ?_ | refine .leaf ?_ | refine .block ?_ | refine .gn ?_ | refine .dr ?_ | fail
 ·rw [h] at hU bx ⊢
  repeat' first
   | refine Opl.val (op_box rfl) rfl (Opl.cast (S' := U) ?_ hU)
   | refine Opl.val (op_load rfl (ld_bx bx (by assumption) _ rfl)) rfl ?_
   | refine Go.condT rfl ?_
   | refine Go.condF rfl ?_
   | exact At.fnr rfl rfl rfl ⟨pack_n rfl, s0.trans (by assumption)⟩
   | refine .std ?_ | refine .nil ?_ | refine .seq ?_ | refine .region ?_ | refine .xs ?_ | refine .kb ?_ | refine .leaf ?_ | refine .block ?_ | refine .gn ?_ | refine .dr ?_ | fail
 ·rw [h] at hU bx ⊢
  repeat' first
   | refine Opl.val (op_box rfl) rfl (Opl.cast (S' := U) ?_ hU)
   | refine Opl.val (op_load rfl (ld_bx bx (by assumption) _ rfl)) rfl ?_
   | refine Go.condT rfl ?_
   | refine Go.condF rfl ?_
   | exact At.fnr rfl rfl rfl ⟨pack_n rfl, s0.trans (by assumption)⟩
   | refine .std ?_ | refine .nil ?_ | refine .seq ?_ | refine .region ?_ | refine .xs ?_ | refine .kb ?_ | refine .leaf ?_ | refine .block ?_ | refine .gn ?_ | refine .dr ?_ | fail
 ·rw [h] at hU bx ⊢
  repeat' first
   | refine Opl.val (op_box rfl) rfl (Opl.cast (S' := U) ?_ hU)
   | refine Opl.val (op_load rfl (ld_bx bx (by assumption) _ rfl)) rfl ?_
   | refine Go.condT rfl ?_
   | refine Go.condF rfl ?_
   | exact At.fnr rfl rfl rfl ⟨pack_n rfl, s0.trans (by assumption)⟩
   | refine .std ?_ | refine .nil ?_ | refine .seq ?_ | refine .region ?_ | refine .xs ?_ | refine .kb ?_ | refine .leaf ?_ | refine .block ?_ | refine .gn ?_ | refine .dr ?_ | fail
 ·rw [h] at hU bx ⊢
  repeat' first
   | refine Opl.val (op_box rfl) rfl (Opl.cast (S' := U) ?_ hU)
   | refine Opl.val (op_load rfl (ld_bx bx (by assumption) _ rfl)) rfl ?_
   | refine Go.condT rfl ?_
   | refine Go.condF rfl ?_
   | exact At.fnr rfl rfl rfl ⟨pack_n rfl, s0.trans (by assumption)⟩
   | refine .std ?_ | refine .nil ?_ | refine .seq ?_ | refine .region ?_ | refine .xs ?_ | refine .kb ?_ | refine .leaf ?_ | refine .block ?_ | refine .gn ?_ | refine .dr ?_ | fail
 ·rw [h] at hU bx ⊢
  repeat' first
   | refine Opl.val (op_box rfl) rfl (Opl.cast (S' := U) ?_ hU)
   | refine Opl.val (op_load rfl (ld_bx bx (by assumption) _ rfl)) rfl ?_
   | refine Go.condT rfl ?_
   | refine Go.condF rfl ?_
   | exact At.fnr rfl rfl rfl ⟨pack_n rfl, s0.trans (by assumption)⟩
   | refine .std ?_ | refine .nil ?_ | refine .seq ?_ | refine .region ?_ | refine .xs ?_ | refine .kb ?_ | refine .leaf ?_ | refine .block ?_ | refine .gn ?_ | refine .dr ?_ | fail
 ·rw [h] at hU bx ⊢
  repeat' first
   | refine Opl.val (op_box rfl) rfl (Opl.cast (S' := U) ?_ hU)
   | refine Opl.val (op_load rfl (ld_bx bx (by assumption) _ rfl)) rfl ?_
   | refine Go.condT rfl ?_
   | refine Go.condF rfl ?_
   | exact At.fnr rfl rfl rfl ⟨pack_n rfl, s0.trans (by assumption)⟩
   | refine .std ?_ | refine .nil ?_ | refine .seq ?_ | refine .region ?_ | refine .xs ?_ | refine .kb ?_ | refine .leaf ?_ | refine .block ?_ | refine .gn ?_ | refine .dr ?_ | fail
 ·rw [h] at hU bx ⊢
  repeat' first
   | refine Opl.val (op_box rfl) rfl (Opl.cast (S' := U) ?_ hU)
   | refine Opl.val (op_load rfl (ld_bx bx (by assumption) _ rfl)) rfl ?_
   | refine Go.condT rfl ?_
   | refine Go.condF rfl ?_
   | exact At.fnr rfl rfl rfl ⟨pack_n rfl, s0.trans (by assumption)⟩
   | refine .std ?_ | refine .nil ?_ | refine .seq ?_ | refine .region ?_ | refine .xs ?_ | refine .kb ?_ | refine .leaf ?_ | refine .block ?_ | refine .gn ?_ | refine .dr ?_ | fail
 ·rw [h] at hU bx ⊢
  repeat' first
   | refine Opl.val (op_box rfl) rfl (Opl.cast (S' := U) ?_ hU)
   | refine Opl.val (op_load rfl (ld_bx bx (by assumption) _ rfl)) rfl ?_
   | refine Go.condT rfl ?_
   | refine Go.condF rfl ?_
   | exact At.fnr rfl rfl rfl ⟨pack_n rfl, s0.trans (by assumption)⟩
   | refine .std ?_ | refine .nil ?_ | refine .seq ?_ | refine .region ?_ | refine .xs ?_ | refine .kb ?_ | refine .leaf ?_ | refine .block ?_ | refine .gn ?_ | refine .dr ?_ | fail
 ·rw [h] at hU bx ⊢
  repeat' first
   | refine Opl.val (op_box rfl) rfl (Opl.cast (S' := U) ?_ hU)
   | refine Opl.val (op_load rfl (ld_bx bx (by assumption) _ rfl)) rfl ?_
   | refine Go.condT rfl ?_
   | refine Go.condF rfl ?_
   | exact At.fnr rfl rfl rfl ⟨pack_n rfl, s0.trans (by assumption)⟩
   | refine .std ?_ | refine .nil ?_ | refine .seq ?_ | refine .region ?_ | refine .xs ?_ | refine .kb ?_ | refine .leaf ?_ | refine .block ?_ | refine .gn ?_ | refine .dr ?_ | fail
 ·rw [h] at hU bx ⊢
  repeat' first
   | refine Opl.val (op_box rfl) rfl (Opl.cast (S' := U) ?_ hU)
   | refine Opl.val (op_load rfl (ld_bx bx (by assumption) _ rfl)) rfl ?_
   | refine Go.condT rfl ?_
   | refine Go.condF rfl ?_
   | exact At.fnr rfl rfl rfl ⟨pack_n rfl, s0.trans (by assumption)⟩
   | refine .std ?_ | refine .nil ?_ | refine .seq ?_ | refine .region ?_ | refine .xs ?_ | refine .kb ?_ | refine .leaf ?_ | refine .block ?_ | refine .gn ?_ | refine .dr ?_ | fail
theorem fmtBoolF (q : Bool) : Pu Tryz.prog 170 [.bool q] (.str (if q then [116, 114, 117, 101] else [102, 97, 108, 115, 101])) := by
 have c1 : Pu Tryz.prog 205 [.bool q] (.str (if q then [116, 114, 117, 101] else [102, 97, 108, 115, 101])) := by
  intro S
  refine CallTo.of (n := 4) Tryz.func205 rfl rfl ?_
  cases q
  case true =>
   repeat' first
    | refine Go.condT rfl ?_
    | exact At.fnr rfl rfl rfl ⟨rfl, Same.refl _⟩
    | refine .std ?_ | refine .nil ?_ | refine .seq ?_ | refine .region ?_ | refine .xs ?_ | refine .kb ?_ | refine .leaf ?_ | refine .block ?_ | refine .gn ?_ | refine .dr ?_ | fail
  case false =>
   repeat' first
    | refine Go.condF rfl ?_
    | exact At.fnr rfl rfl rfl ⟨rfl, Same.refl _⟩
    | refine .std ?_ | refine .nil ?_ | refine .seq ?_ | refine .region ?_ | refine .xs ?_ | refine .kb ?_ | refine .leaf ?_ | refine .block ?_ | refine .gn ?_ | refine .dr ?_ | fail
 intro S
 have k0 : Same S S := Same.refl S
 refine CallTo.of (n := 5) Tryz.func170 rfl rfl ?_
 repeat' first
  | refine Opl.callS (by assumption) rfl (by kernel_rfl) c1 rfl (fun S8 k8 => ?_)
  | exact At.fnr rfl rfl rfl ⟨rfl, by assumption⟩
  | refine .std ?_ | refine .nil ?_ | refine .seq ?_ | refine .region ?_ | refine .xs ?_ | refine .kb ?_ | refine .leaf ?_ | refine .block ?_ | refine .gn ?_ | refine .dr ?_ | fail
end Go.Proofs.YtodiioeddlmjhaaGreatDoor
