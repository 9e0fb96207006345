import Derived.Test.YtodiioeddlmjhaaGreatDoorV1
import Derived.Test.YtodiioeddlmjhaaGreatDoorU9
import Derived.Test.YtodiioeddlmjhaaGreatDoorE12
set_option linter.unusedVariables false
set_option linter.unusedSimpArgs false
namespace Go.Proofs.YtodiioeddlmjhaaGreatDoor
open Go.RowKit Go.Ev
set_option maxRecDepth 100000
set_option linter.unusedVariables false
set_option linter.unusedSimpArgs false
attribute [local irreducible] Go.Ev.opE
set_option maxHeartbeats 8000000 in
theorem refLevel {e : Ex} {cs : List V} (he : ExC e cs) (h0 : 0 ≤ e.kind) (h1 : e.kind ≤ 19) : Pu Tryz.prog 175 [.agg cs] (.int .i64 (levE e.kind e.s)) := by
 obtain ⟨nv, lv, av, rfl, hk, hn, hs, ht, hnm, hl, hll, ha, hal, hL, hA⟩ := he.inv
 intro S
 obtain ⟨U, hU, bx, s0⟩ := box1 S 27 [.int .i64 e.kind, .int .i64 e.n, .str e.s, .str e.t, nv, lv, av]
 have k0 : Same U U := Same.refl U
 refine CallTo.of (n := 68) Tryz.func175 rfl rfl ?_
 rcases kinds h0 h1 with h | h | h | h | h | h | h | h | h | h | h | h | h | h | h | h | h | h | h | h
 ·rw [h] at hU bx ⊢
  repeat' first
   | refine Opl.val (op_box rfl) rfl (Opl.cast (S' := U) ?_ hU)
   | refine Opl.val (op_load rfl (ld_bx bx (by assumption) _ rfl)) rfl ?_
   | refine op_gyes rfl ?_ rfl
   | refine .gn ?_
   | refine Go.condT rfl ?_
   | refine Go.condF rfl ?_
   | exact At.fnr rfl rfl rfl ⟨pack_n rfl, s0.trans (by assumption)⟩
   | refine .std ?_ | refine .nil ?_ | refine .seq ?_ | refine .region ?_ | refine .xs ?_ | refine .kb ?_ | refine .leaf ?_ | refine .block ?_ | refine .gn ?_ | refine .dr ?_ | fail
 ·rw [h] at hU bx ⊢
  repeat' first
   | refine Opl.val (op_box rfl) rfl (Opl.cast (S' := U) ?_ hU)
   | refine Opl.val (op_load rfl (ld_bx bx (by assumption) _ rfl)) rfl ?_
   | refine op_gyes rfl ?_ rfl
   | refine .gn ?_
   | refine Go.condT rfl ?_
   | refine Go.condF rfl ?_
   | exact At.fnr rfl rfl rfl ⟨pack_n rfl, s0.trans (by assumption)⟩
   | refine .std ?_ | refine .nil ?_ | refine .seq ?_ | refine .region ?_ | refine .xs ?_ | refine .kb ?_ | refine .leaf ?_ | refine .block ?_ | refine .gn ?_ | refine .dr ?_ | fail
 ·rw [h] at hU bx ⊢
  repeat' first
   | refine Opl.val (op_box rfl) rfl (Opl.cast (S' := U) ?_ hU)
   | refine Opl.val (op_load rfl (ld_bx bx (by assumption) _ rfl)) rfl ?_
   | refine op_gyes rfl ?_ rfl
   | refine .gn ?_
   | refine Go.condT rfl ?_
   | refine Go.condF rfl ?_
   | exact At.fnr rfl rfl rfl ⟨pack_n rfl, s0.trans (by assumption)⟩
   | refine .std ?_ | refine .nil ?_ | refine .seq ?_ | refine .region ?_ | refine .xs ?_ | refine .kb ?_ | refine .leaf ?_ | refine .block ?_ | refine .gn ?_ | refine .dr ?_ | fail
 ·rw [h] at hU bx ⊢
  repeat' first
   | refine Opl.val (op_box rfl) rfl (Opl.cast (S' := U) ?_ hU)
   | refine Opl.val (op_load rfl (ld_bx bx (by assumption) _ rfl)) rfl ?_
   | refine op_gyes rfl ?_ rfl
   | refine .gn ?_
   | refine Go.condT rfl ?_
   | refine Go.condF rfl ?_
   | exact At.fnr rfl rfl rfl ⟨pack_n rfl, s0.trans (by assumption)⟩
   | refine .std ?_ | refine .nil ?_ | refine .seq ?_ | refine .region ?_ | refine .xs ?_ | refine .kb ?_ | refine .leaf ?_ | refine .block ?_ | refine .gn ?_ | refine .dr ?_ | fail
 ·rw [h] at hU bx ⊢
  repeat' first
   | refine Opl.val (op_box rfl) rfl (Opl.cast (S' := U) ?_ hU)
   | refine Opl.val (op_load rfl (ld_bx bx (by assumption) _ rfl)) rfl ?_
   | refine op_gyes rfl ?_ rfl
   | refine .gn ?_
   | refine Go.condT rfl ?_
   | refine Go.condF rfl ?_
   | exact At.fnr rfl rfl rfl ⟨pack_n rfl, s0.trans (by assumption)⟩
   | refine .std ?_ | refine .nil ?_ | refine .seq ?_ | refine .region ?_ | refine .xs ?_ | refine .kb ?_ | refine .leaf ?_ | refine .block ?_ | refine .gn ?_ | refine .dr ?_ | fail
 ·rw [h] at hU bx ⊢
  repeat' first
   | refine Opl.val (op_box rfl) rfl (Opl.cast (S' := U) ?_ hU)
   | refine Opl.val (op_load rfl (ld_bx bx (by assumption) _ rfl)) rfl ?_
   | refine op_gyes rfl ?_ rfl
   | refine .gn ?_
   | refine Go.condT rfl ?_
   | refine Go.condF rfl ?_
   | exact At.fnr rfl rfl rfl ⟨pack_n rfl, s0.trans (by assumption)⟩
   | refine .std ?_ | refine .nil ?_ | refine .seq ?_ | refine .region ?_ | refine .xs ?_ | refine .kb ?_ | refine .leaf ?_ | refine .block ?_ | refine .gn ?_ | refine .dr ?_ | fail
 ·rw [h] at hU bx ⊢
  repeat' first
   | refine Opl.val (op_box rfl) rfl (Opl.cast (S' := U) ?_ hU)
   | refine Opl.val (op_load rfl (ld_bx bx (by assumption) _ rfl)) rfl ?_
   | refine op_gyes rfl ?_ rfl
   | refine .gn ?_
   | refine Go.condT rfl ?_
   | refine Go.condF rfl ?_
   | exact At.fnr rfl rfl rfl ⟨pack_n rfl, s0.trans (by assumption)⟩
   | refine .std ?_ | refine .nil ?_ | refine .seq ?_ | refine .region ?_ | refine .xs ?_ | refine .kb ?_ | refine .leaf ?_ | refine .block ?_ | refine .gn ?_ | refine .dr ?_ | fail
 ·rw [h] at hU bx ⊢
  repeat' first
   | refine Opl.val (op_box rfl) rfl (Opl.cast (S' := U) ?_ hU)
   | refine Opl.val (op_load rfl (ld_bx bx (by assumption) _ rfl)) rfl ?_
   | refine op_gyes rfl ?_ rfl
   | refine .gn ?_
   | refine Go.condT rfl ?_
   | refine Go.condF rfl ?_
   | exact At.fnr rfl rfl rfl ⟨pack_n rfl, s0.trans (by assumption)⟩
   | refine .std ?_ | refine .nil ?_ | refine .seq ?_ | refine .region ?_ | refine .xs ?_ | refine .kb ?_ | refine .leaf ?_ | refine .block ?_ | refine .gn ?_ | refine .dr ?_ | fail
 ·rw [h] at hU bx ⊢
  repeat' first
   | refine Opl.val (op_box rfl) rfl (Opl.cast (S' := U) ?_ hU)
   | refine Opl.val (op_load rfl (ld_bx bx (by assumption) _ rfl)) rfl ?_
   | refine op_gyes rfl ?_ rfl
   | refine .gn ?_
   | refine Go.condT rfl ?_
   | refine Go.condF rfl ?_
   | exact At.fnr rfl rfl rfl ⟨pack_n rfl, s0.trans (by assumption)⟩
   | refine .std ?_ | refine .nil ?_ | refine .seq ?_ | refine .region ?_ | refine .xs ?_ | refine .kb ?_ | refine .leaf ?_ | refine .block ?_ | refine .gn ?_ | refine .dr ?_ | fail
 ·rw [h] at hU bx ⊢
  obtain ⟨q1, g1⟩ : ∃ q, decide (e.s = [42]) = q := ⟨_, rfl⟩
  obtain ⟨q2, g2⟩ : ∃ q, decide (e.s = [43]) = q := ⟨_, rfl⟩
  obtain ⟨q3, g3⟩ : ∃ q, decide (e.s = [45]) = q := ⟨_, rfl⟩
  have hspec : levE 9 e.s = if q1 then 3 else if q2 || q3 then 2 else 1 := by
   have i1 : (e.s = [42]) ↔ q1 = true := by rw [← g1]; simp
   have i2 : (e.s = [43] ∨ e.s = [45]) ↔ (q2 || q3) = true := by rw [← g2, ← g3]; simp
   show (if e.s = [42] then (3 : Int) else if e.s = [43] ∨ e.s = [45] then 2 else 1) = _
   simp only [i1, i2]
  repeat' first
   | refine Opl.val (op_box rfl) rfl (Opl.cast (S' := U) ?_ hU)
   | refine Opl.val (op_load rfl (ld_bx bx (by assumption) _ rfl)) rfl ?_
   | refine Opl.val (op_str rfl rfl (eql_s g1)) rfl ?_
   | refine Opl.val (op_str rfl rfl (eql_s g2)) rfl ?_
   | refine Opl.val (op_str rfl rfl (eql_s g3)) rfl ?_
   | refine op_gyes rfl ?_ rfl
   | refine .gn ?_
   | (refine Opl.gonTN rfl rfl (fun hq => ?_) (fun hq => ?_) <;> subst hq)
   | (refine Opl.gonFN rfl rfl (fun hq => ?_) (fun hq => ?_) <;> subst hq)
   | (refine Opl.gonT rfl rfl (fun hq => ?_) (fun hq => ?_) <;> subst hq)
   | (refine Opl.gonF rfl rfl (fun hq => ?_) (fun hq => ?_) <;> subst hq)
   | refine Go.condT rfl ?_
   | refine Go.condF rfl ?_
   | (refine Go.condN rfl (fun hq => ?_) (fun hq => ?_) <;> subst hq)
   | (refine Go.condV rfl (fun hq => ?_) (fun hq => ?_) <;> subst hq)
   | exact At.fnr rfl rfl rfl ⟨pack_n (by rw [hspec]; rfl), s0.trans (by assumption)⟩
   | refine .std ?_ | refine .nil ?_ | refine .seq ?_ | refine .region ?_ | refine .xs ?_ | refine .kb ?_ | refine .leaf ?_ | refine .block ?_ | refine .gn ?_ | refine .dr ?_ | fail
 ·rw [h] at hU bx ⊢
  repeat' first
   | refine Opl.val (op_box rfl) rfl (Opl.cast (S' := U) ?_ hU)
   | refine Opl.val (op_load rfl (ld_bx bx (by assumption) _ rfl)) rfl ?_
   | refine op_gyes rfl ?_ rfl
   | refine .gn ?_
   | refine Go.condT rfl ?_
   | refine Go.condF rfl ?_
   | exact At.fnr rfl rfl rfl ⟨pack_n rfl, s0.trans (by assumption)⟩
   | refine .std ?_ | refine .nil ?_ | refine .seq ?_ | refine .region ?_ | refine .xs ?_ | refine .kb ?_ | refine .leaf ?_ | refine .block ?_ | refine .gn ?_ | refine .dr ?_ | fail
 ·rw [h] at hU bx ⊢
  repeat' first
   | refine Opl.val (op_box rfl) rfl (Opl.cast (S' := U) ?_ hU)
   | refine Opl.val (op_load rfl (ld_bx bx (by assumption) _ rfl)) rfl ?_
   | refine op_gyes rfl ?_ rfl
   | refine .gn ?_
   | refine Go.condT rfl ?_
   | refine Go.condF rfl ?_
   | exact At.fnr rfl rfl rfl ⟨pack_n rfl, s0.trans (by assumption)⟩
   | refine .std ?_ | refine .nil ?_ | refine .seq ?_ | refine .region ?_ | refine .xs ?_ | refine .kb ?_ | refine .leaf ?_ | refine .block ?_ | refine .gn ?_ | refine .dr ?_ | fail
 ·rw [h] at hU bx ⊢
  repeat' first
   | refine Opl.val (op_box rfl) rfl (Opl.cast (S' := U) ?_ hU)
   | refine Opl.val (op_load rfl (ld_bx bx (by assumption) _ rfl)) rfl ?_
   | refine op_gyes rfl ?_ rfl
   | refine .gn ?_
   | refine Go.condT rfl ?_
   | refine Go.condF rfl ?_
   | exact At.fnr rfl rfl rfl ⟨pack_n rfl, s0.trans (by assumption)⟩
   | refine .std ?_ | refine .nil ?_ | refine .seq ?_ | refine .region ?_ | refine .xs ?_ | refine .kb ?_ | refine .leaf ?_ | refine .block ?_ | refine .gn ?_ | refine .dr ?_ | fail
 ·rw [h] at hU bx ⊢
  repeat' first
   | refine Opl.val (op_box rfl) rfl (Opl.cast (S' := U) ?_ hU)
   | refine Opl.val (op_load rfl (ld_bx bx (by assumption) _ rfl)) rfl ?_
   | refine op_gyes rfl ?_ rfl
   | refine .gn ?_
   | refine Go.condT rfl ?_
   | refine Go.condF rfl ?_
   | exact At.fnr rfl rfl rfl ⟨pack_n rfl, s0.trans (by assumption)⟩
   | refine .std ?_ | refine .nil ?_ | refine .seq ?_ | refine .region ?_ | refine .xs ?_ | refine .kb ?_ | refine .leaf ?_ | refine .block ?_ | refine .gn ?_ | refine .dr ?_ | fail
 ·rw [h] at hU bx ⊢
  repeat' first
   | refine Opl.val (op_box rfl) rfl (Opl.cast (S' := U) ?_ hU)
   | refine Opl.val (op_load rfl (ld_bx bx (by assumption) _ rfl)) rfl ?_
   | refine op_gyes rfl ?_ rfl
   | refine .gn ?_
   | refine Go.condT rfl ?_
   | refine Go.condF rfl ?_
   | exact At.fnr rfl rfl rfl ⟨pack_n rfl, s0.trans (by assumption)⟩
   | refine .std ?_ | refine .nil ?_ | refine .seq ?_ | refine .region ?_ | refine .xs ?_ | refine .kb ?_ | refine .leaf ?_ | refine .block ?_ | refine .gn ?_ | refine .dr ?_ | fail
 ·rw [h] at hU bx ⊢
  repeat' first
   | refine Opl.val (op_box rfl) rfl (Opl.cast (S' := U) ?_ hU)
   | refine Opl.val (op_load rfl (ld_bx bx (by assumption) _ rfl)) rfl ?_
   | refine op_gyes rfl ?_ rfl
   | refine .gn ?_
   | refine Go.condT rfl ?_
   | refine Go.condF rfl ?_
   | exact At.fnr rfl rfl rfl ⟨pack_n rfl, s0.trans (by assumption)⟩
   | refine .std ?_ | refine .nil ?_ | refine .seq ?_ | refine .region ?_ | refine .xs ?_ | refine .kb ?_ | refine .leaf ?_ | refine .block ?_ | refine .gn ?_ | refine .dr ?_ | fail
 ·rw [h] at hU bx ⊢
  repeat' first
   | refine Opl.val (op_box rfl) rfl (Opl.cast (S' := U) ?_ hU)
   | refine Opl.val (op_load rfl (ld_bx bx (by assumption) _ rfl)) rfl ?_
   | refine op_gyes rfl ?_ rfl
   | refine .gn ?_
   | refine Go.condT rfl ?_
   | refine Go.condF rfl ?_
   | exact At.fnr rfl rfl rfl ⟨pack_n rfl, s0.trans (by assumption)⟩
   | refine .std ?_ | refine .nil ?_ | refine .seq ?_ | refine .region ?_ | refine .xs ?_ | refine .kb ?_ | refine .leaf ?_ | refine .block ?_ | refine .gn ?_ | refine .dr ?_ | fail
 ·rw [h] at hU bx ⊢
  repeat' first
   | refine Opl.val (op_box rfl) rfl (Opl.cast (S' := U) ?_ hU)
   | refine Opl.val (op_load rfl (ld_bx bx (by assumption) _ rfl)) rfl ?_
   | refine op_gyes rfl ?_ rfl
   | refine .gn ?_
   | refine Go.condT rfl ?_
   | refine Go.condF rfl ?_
   | exact At.fnr rfl rfl rfl ⟨pack_n rfl, s0.trans (by assumption)⟩
   | refine .std ?_ | refine .nil ?_ | refine .seq ?_ | refine .region ?_ | refine .xs ?_ | refine .kb ?_ | refine .leaf ?_ | refine .block ?_ | refine .gn ?_ | refine .dr ?_ | fail
 ·rw [h] at hU bx ⊢
  repeat' first
   | refine Opl.val (op_box rfl) rfl (Opl.cast (S' := U) ?_ hU)
   | refine Opl.val (op_load rfl (ld_bx bx (by assumption) _ rfl)) rfl ?_
   | refine op_gyes rfl ?_ rfl
   | refine .gn ?_
   | refine Go.condT rfl ?_
   | refine Go.condF rfl ?_
   | exact At.fnr rfl rfl rfl ⟨pack_n rfl, s0.trans (by assumption)⟩
   | refine .std ?_ | refine .nil ?_ | refine .seq ?_ | refine .region ?_ | refine .xs ?_ | refine .kb ?_ | refine .leaf ?_ | refine .block ?_ | refine .gn ?_ | refine .dr ?_ | fail
 ·rw [h] at hU bx ⊢
  repeat' first
   | refine Opl.val (op_box rfl) rfl (Opl.cast (S' := U) ?_ hU)
   | refine Opl.val (op_load rfl (ld_bx bx (by assumption) _ rfl)) rfl ?_
   | refine op_gyes rfl ?_ rfl
   | refine .gn ?_
   | refine Go.condT rfl ?_
   | refine Go.condF rfl ?_
   | exact At.fnr rfl rfl rfl ⟨pack_n rfl, s0.trans (by assumption)⟩
   | refine .std ?_ | refine .nil ?_ | refine .seq ?_ | refine .region ?_ | refine .xs ?_ | refine .kb ?_ | refine .leaf ?_ | refine .block ?_ | refine .gn ?_ | refine .dr ?_ | fail
set_option maxHeartbeats 4000000 in
theorem refAt {e : Ex} {cs : List V} (he : ExC e cs) (h0 : 0 ≤ e.kind) (h1 : e.kind ≤ 19) (least : Int) (hlen : ((partW e).at least).length ≤ 1099511627776) (c1 : Pu Tryz.prog 52 [.agg cs] (.str (textE e))) : Pu Tryz.prog 108 [.agg cs, .int .i64 least] (.str ((partW e).at least)) := by
 intro S
 obtain ⟨U, hU, bx, s0⟩ := box1 S 27 cs
 have k0 : Same U U := Same.refl U
 have cv := refLevel he h0 h1
 obtain ⟨q, hq⟩ : ∃ q, decide (levE e.kind e.s < least) = q := ⟨_, rfl⟩
 have hspec : (partW e).at least = if q then [40] ++ textE e ++ [41] else textE e := by
  unfold Pw.at partW
  cases q with
  | true => have := of_decide_eq_true hq; rw [if_neg (by show ¬ levE e.kind e.s ≥ least; omega)]; rfl
  | false => have := of_decide_eq_false hq; rw [if_pos (by show levE e.kind e.s ≥ least; omega)]; rfl
 rw [hspec] at hlen ⊢
 refine CallTo.of (n := 15) Tryz.func108 rfl rfl ?_
 repeat' first
  | refine Opl.val (op_box rfl) rfl (Opl.cast (S' := U) ?_ hU)
  | refine Opl.val (op_load rfl (ld_bxA bx (by assumption) he.len7)) rfl ?_
  | refine Opl.callS (U0 := U) (by assumption) rfl (by kernel_rfl) cv rfl (fun S8 k8 => ?_)
  | refine Opl.callS (U0 := U) (by assumption) rfl (by kernel_rfl) c1 rfl (fun S9 k9 => ?_)
  | refine Opl.val (op_int rfl rfl rfl (lss_i hq)) rfl ?_
  | refine Opl.val (op_str rfl rfl (str_add (by simp at hlen ⊢; omega))) rfl ?_
  | (refine Go.condV rfl (fun hq => ?_) (fun hq => ?_) <;> subst hq)
  | exact At.fnr rfl rfl rfl ⟨congrArg V.str (by simp), s0.trans (by assumption)⟩
  | refine .std ?_ | refine .nil ?_ | refine .seq ?_ | refine .region ?_ | refine .xs ?_ | refine .kb ?_ | refine .leaf ?_ | refine .block ?_ | refine .gn ?_ | refine .dr ?_ | fail
end Go.Proofs.YtodiioeddlmjhaaGreatDoor
namespace Go.Proofs.YtodiioeddlmjhaaGreatDoor
open Go.RowKit Go.Ev
set_option maxRecDepth 100000
set_option linter.unusedVariables false
set_option linter.unusedSimpArgs false
attribute [local irreducible] Go.Ev.opE
theorem levE_lo (k : Int) (s : List UInt8) : 0 ≤ levE k s := by
 unfold levE
 repeat' split
 all_goals decide
theorem at_zero (x : Ex) : (partW x).at 0 = textE x := by
 unfold Pw.at partW
 rw [if_pos (by show levE x.kind x.s ≥ 0; exact levE_lo _ _)]
theorem readS_s {S : St} {v : V} (h : isLn 1 v) : readS S false 1 v = some (elems v) := by
 rcases h with rfl | rfl | ⟨_, _, _, rfl⟩ <;> rfl
theorem app_strs {S : St} {a : List UInt8} (ha : a.length ≤ huge) {l : List (List UInt8)} {y : V} (hy : StrsV l y) (hr : l.length ≤ 1000000) :
 ∃ v' S', appendE Tryz.prog 23 23 (.list (some 9) 1 [.str a] .exact) y S = some (v', S') ∧ StrsV (a :: l) v' ∧ Same S S' := by
 obtain ⟨hl, hll, hA⟩ := hy
 have hrd := readS_s (S := S) hl
 have happ : App Tryz.prog 23 23 9 1 false 16 := inferInstance
 obtain ⟨i, ud, z, h1, h2, h3, h4, h5, h6, h7, h8, h9⟩ := happ.inf
 have hall : (elems y).all (fun v => Nat.beq v.cells.length 1 && v.cells.all V.one) = true := List.all_eq_true.2 fun z hz => by
  obtain ⟨j, hj⟩ := List.getElem?_of_mem hz
  obtain ⟨x, v, hx, hv, hR, _⟩ := hA.at (i := j) (List.getElem?_eq_some_iff.1 hj).1
  rw [hj] at hv
  obtain rfl := Option.some.inj hv
  rw [hR.1]; rfl
 have hb : Nat.ble 1 1 = true := rfl
 have hlm := hA.1
 have hroom : roomOk ([V.str a].length + (elems y).length) 16 = true := by
  unfold roomOk
  simp only [List.length_cons, List.length_nil]
  rw [Nat.ble_eq_true_of_le (by omega), Nat.ble_eq_true_of_le (by omega)]; rfl
 have hcons : All2 StrV (a :: l) (V.str a :: elems y) := All2.cons ⟨rfl, ha⟩ hA
 by_cases hne : (elems y).isEmpty = true
 ·have hnil : elems y = [] := by simpa using hne
  rw [hnil] at hcons
  refine ⟨.list (some 9) 1 [.str a] .exact, S, ?_, ⟨.inr (.inr ⟨_, _, _, rfl⟩), by show 1 ≤ huge; decide, hcons⟩, Same.refl S⟩
  unfold appendE
  rw [happ.el]
  simp only [h1, h4, h5, h7, h6, h2, hb, h8, Nat.beq_refl, hrd, hall, hne, Bool.not_true, Bool.or_false, Bool.false_eq_true, if_false, if_true]
 ·have hne : (elems y).isEmpty = false := by simpa using hne
  refine ⟨.list (some 9) 1 (V.str a :: elems y) (.own S.next), S.new .tok, ?_, ⟨.inr (.inr ⟨_, _, _, rfl⟩), ?_, hcons⟩, Same.new S .tok⟩
  ·unfold appendE
   rw [happ.el]
   simp only [h1, h4, h5, h7, h6, h2, h3, hb, h8, Nat.beq_refl, hrd, hall, hne, hroom, Bool.not_true, Bool.or_false, Bool.false_eq_true, if_false, if_true, List.cons_append, List.nil_append]
  ·show (V.str a :: elems y).length ≤ 9223372036854775807
   simp only [List.length_cons]
   omega
theorem room16 {n : Nat} (h : n ≤ 1099511627776) : roomOk n 16 = true := by
 unfold roomOk
 rw [Nat.ble_eq_true_of_le (by omega), Nat.ble_eq_true_of_le (by omega)]; rfl
set_option maxHeartbeats 4000000 in
theorem refListed {l : List Ex} {lv : V} (hl : isLn 7 lv) (hll : (elems lv).length ≤ huge) (hL : All2 ExV l (elems lv)) (hsm : l.length ≤ 1000000) (hc : ∀ x ∈ l, ∀ cs, ExC x cs → Pu Tryz.prog 108 [.agg cs, .int .i64 0] (.str (textE x))) (hw : ∀ x ∈ l, (textE x).length ≤ 1099511627776)
 (hlen : (joinW [44, 32] (l.map textE)).length ≤ 1099511627000) : Pu Tryz.prog 110 [lv] (.str ([91] ++ joinW [44, 32] (l.map textE) ++ [93])) := by
 have hll : (elems lv).length ≤ 9223372036854775807 := hll
 have e1 : l.length = (elems lv).length := hL.1
 intro S
 have k0 : Same S S := Same.refl S
 refine CallTo.of (n := 23) Tryz.func110 rfl rfl ?_
 repeat' first | refine .std ?_ | refine .nil ?_ | refine .seq ?_ | refine .region ?_ | refine .xs ?_ | refine .kb ?_ | refine .leaf ?_ | refine .block ?_ | refine .gn ?_ | refine .dr ?_ | fail
 refine Go.weaken (E' := [(0, lv), (3, .nils), (4, .int .i64 (0 : Nat))]) ?_ ⟨rfl, rfl, rfl, trivial⟩
 refine Go.loop_ind (α := Nat) (fun i => (elems lv).length - i) (fun i E S' => (∃ lst, E = [(0, lv), (3, lst), (4, .int .i64 i)] ∧ LstV 9 S S' lst ((l.take i).map textE)) ∧ i ≤ (elems lv).length ∧ Same S S') ?_ 0 _ _ ⟨⟨_, rfl, .inl ⟨rfl, rfl⟩⟩, Nat.zero_le _, k0⟩
 rintro i E S2 ⟨⟨lst, rfl, hlst⟩, hi, k2⟩ IH
 repeat' first
  | refine Opl.val (op_lenL rfl hl.isL rfl) rfl ?_
  | refine Opl.fresh (op_int rfl rfl rfl rfl) rfl (fun q hq => ?_)
  | refine .std ?_ | refine .nil ?_ | refine .seq ?_ | refine .region ?_ | refine .xs ?_ | refine .kb ?_ | refine .leaf ?_ | refine .block ?_ | refine .gn ?_ | refine .dr ?_ | fail
 refine Go.cond rfl (fun hq => ?_) (fun hq => ?_)
 ·subst hq
  have hq : i < (elems lv).length := by have := of_decide_eq_true (by assumption : decide ((i : Int) < ((elems lv).length : Nat)) = true); omega
  obtain ⟨x, v, hx, hix, hv, hm⟩ := hL.at hq
  have hvl := hv.len7
  have cx := hc x hm _ hv
  have hstep : (l.take (i + 1)).map textE = (l.take i).map textE ++ [textE x] := by
   obtain ⟨hlt, rfl⟩ := List.getElem?_eq_some_iff.1 hx
   rw [List.take_succ_eq_append_getElem hlt, List.map_append]; rfl
  have hrm : roomOk (((l.take i).map textE).length + 1) 16 = true := room16 (by rw [List.length_map, List.length_take]; omega)
  repeat' first
   | refine Opl.val (op_ixaV hl rfl rfl hix) rfl ?_
   | refine Opl.val (op_load rfl (ld_agg (Pt.cptr _ _ _) hvl)) rfl ?_
   | (refine Opl.callS (U0 := S2) (Same.refl S2) rfl (by kernel_rfl) cx rfl (fun S8 k8 => ?_); have k8u := k2.trans k8)
   | refine Opl.val (op_bsG rfl (bs1' _)) rfl ?_
   | (obtain ⟨lst', S9, happ, hl9, k9⟩ := app_lst (P := Tryz.prog) (t := 23) (u := 23) (hlst.same k8) k8u (textE x) (lt := some 9) (tk := .exact) hrm; refine Opl.val (op_app rfl rfl happ) rfl ?_)
   | refine Opl.val (op_int rfl rfl rfl (inc_ok (i := i) (by omega))) rfl ?_
   | refine .std ?_ | refine .nil ?_ | refine .seq ?_ | refine .region ?_ | refine .xs ?_ | refine .kb ?_ | refine .leaf ?_ | refine .block ?_ | refine .gn ?_ | refine .dr ?_ | fail
  exact (IH (i + 1) _ _ (by omega) ⟨⟨_, rfl, by rw [hstep]; exact hl9⟩, by omega, k9⟩).weaken ⟨rfl, rfl, rfl, trivial⟩
 ·subst hq
  have hq : (elems lv).length ≤ i := by have := of_decide_eq_false (by assumption : decide ((i : Int) < ((elems lv).length : Nat)) = false); omega
  have hnil : l.take i = l := List.take_of_length_le (by omega)
  rw [hnil] at hlst
  have hst := hlst.strs (by rw [List.length_map]; show _ ≤ 9223372036854775807; omega) fun w hw' => by
   obtain ⟨x, hx, rfl⟩ := List.mem_map.1 hw'
   have := hw x hx
   show _ ≤ 9223372036854775807
   omega
  have cj := joinedF hst [44, 32] (by omega)
  repeat' first
   | refine Opl.callS (U0 := S) (by assumption) rfl (by kernel_rfl) cj rfl (fun S8 k8 => ?_)
   | refine Opl.val (op_str rfl rfl (str_add (by (try simp only [List.length_append, List.length_cons, List.length_nil]); omega))) rfl ?_
   | exact At.fnr rfl rfl rfl ⟨rfl, by assumption⟩
   | refine .std ?_ | refine .nil ?_ | refine .seq ?_ | refine .region ?_ | refine .xs ?_ | refine .kb ?_ | refine .leaf ?_ | refine .block ?_ | refine .gn ?_ | refine .dr ?_ | fail
set_option maxHeartbeats 8000000 in
theorem refClauses {l : List Ar} {av : V} (ha : isLn 9 av) (hal : (elems av).length ≤ huge) (hA : All2 ArV l (elems av)) (hsm : l.length ≤ 1000000) (hf : ∀ a ∈ l, ArF a) (hc : ∀ a ∈ l, ∀ cs, ExC a.body cs → Pu Tryz.prog 108 [.agg cs, .int .i64 0] (.str (textE a.body))) (hw : ∀ a ∈ l, a.text.length ≤ 1099511627000)
 (hlen : (brW (l.map Ar.text)).length ≤ 1099511627000) : Pu Tryz.prog 111 [av] (.str (brW (l.map Ar.text))) := by
 have hal : (elems av).length ≤ 9223372036854775807 := hal
 have e1 : l.length = (elems av).length := hA.1
 intro S
 have k0 : Same S S := Same.refl S
 refine CallTo.of (n := 42) Tryz.func111 rfl rfl ?_
 by_cases h0 : l.length = 0
 ·have hspec : brW (l.map Ar.text) = [123, 32, 125] := if_pos (by rw [List.length_map]; exact h0)
  rw [hspec]
  repeat' first
   | refine Opl.val (op_lenL rfl ha.isL rfl) rfl ?_
   | refine Opl.val (op_int rfl rfl rfl (eql_i (q := true) (decide_eq_true (by omega)))) rfl ?_
   | refine Go.condT rfl ?_
   | exact At.fnr rfl rfl rfl ⟨rfl, k0⟩
   | refine .std ?_ | refine .nil ?_ | refine .seq ?_ | refine .region ?_ | refine .xs ?_ | refine .kb ?_ | refine .leaf ?_ | refine .block ?_ | refine .gn ?_ | refine .dr ?_ | fail
 have hspec : brW (l.map Ar.text) = [123, 32] ++ joinW [59, 32] (l.map Ar.text) ++ [32, 125] := if_neg (by rw [List.length_map]; exact h0)
 rw [hspec] at hlen ⊢
 simp only [List.length_append, List.length_cons, List.length_nil] at hlen
 repeat' first
  | refine Opl.val (op_lenL rfl ha.isL rfl) rfl ?_
  | refine Opl.val (op_int rfl rfl rfl (eql_i (q := false) (decide_eq_false (by omega)))) rfl ?_
  | refine Go.condF rfl ?_
  | refine .std ?_ | refine .nil ?_ | refine .seq ?_ | refine .region ?_ | refine .xs ?_ | refine .kb ?_ | refine .leaf ?_ | refine .block ?_ | refine .gn ?_ | refine .dr ?_ | fail
 refine Go.weaken (E' := [(0, av), (3, .nils), (4, .int .i64 (0 : Nat))]) ?_ ⟨rfl, rfl, rfl, trivial⟩
 refine Go.loop_ind (α := Nat) (fun i => (elems av).length - i) (fun i E S' => (∃ lst, E = [(0, av), (3, lst), (4, .int .i64 i)] ∧ LstV 9 S S' lst ((l.take i).map Ar.text)) ∧ i ≤ (elems av).length ∧ Same S S') ?_ 0 _ _ ⟨⟨_, rfl, .inl ⟨rfl, rfl⟩⟩, Nat.zero_le _, k0⟩
 rintro i E S2 ⟨⟨lst, rfl, hlst⟩, hi, k2⟩ IH
 repeat' first
  | refine Opl.val (op_lenL rfl ha.isL rfl) rfl ?_
  | refine Opl.fresh (op_int rfl rfl rfl rfl) rfl (fun q hq => ?_)
  | refine .std ?_ | refine .nil ?_ | refine .seq ?_ | refine .region ?_ | refine .xs ?_ | refine .kb ?_ | refine .leaf ?_ | refine .block ?_ | refine .gn ?_ | refine .dr ?_ | fail
 refine Go.cond rfl (fun hq => ?_) (fun hq => ?_)
 ·subst hq
  have hq : i < (elems av).length := by have := of_decide_eq_true (by assumption : decide ((i : Int) < ((elems av).length : Nat)) = true); omega
  obtain ⟨a, v, hx, hix, hv, hm⟩ := hA.at hq
  obtain ⟨nv, cs, hcv, ho, hn, hbd⟩ := hv
  have hpt : ∀ S, Pt S (.cptr none v.cells 0) (.str a.op :: nv :: cs) := fun S => by rw [hcv]; exact Pt.cptr _ _ _
  have hfa := hf a hm
  have cx := hc a hm cs hbd
  have haw := hw a hm
  have htx : a.text = joinW [32] (a.op :: a.names) ++ [32, 45, 62, 32] ++ textE a.body := rfl
  rw [htx] at haw
  simp only [List.length_append, List.length_cons, List.length_nil] at haw
  obtain ⟨sv, S5, happ1, hsv, k5⟩ := app_strs (S := S2) ho hn (by have := hfa.nmc; omega)
  have cj := joinedF hsv [32] (by omega)
  have hstep : (l.take (i + 1)).map Ar.text = (l.take i).map Ar.text ++ [a.text] := by
   obtain ⟨hlt, rfl⟩ := List.getElem?_eq_some_iff.1 hx
   rw [List.take_succ_eq_append_getElem hlt, List.map_append]; rfl
  have hrm : roomOk (((l.take i).map Ar.text).length + 1) 16 = true := room16 (by rw [List.length_map, List.length_take]; omega)
  have kk : Same S2 S2 := Same.refl S2
  generalize joinW [32] (a.op :: a.names) = J at cj haw htx
  repeat' first
   | refine Go.draw [0, 0, 0, 6, 14, 30, 62, 0, 0, 384, 896, 1920, 4094, 8190, 16382, 0, 0, 98304, 229376, 491520, 1032190, 2097150, 4194302, 8388607, 16777215] [1, 2, 3, 4, 5, 6, 7, 8, 9, 10, 11, 12, 13, 15, 16, 17, 18, 19, 20, 0, 14, 21, 22, 23, 24] (by kernel_rfl) (fun _ => True) ?_
   | refine .std ?_ | refine .nil ?_ | refine .seq ?_ | refine .region ?_ | refine .xs ?_ | refine .kb ?_ | refine .leaf ?_ | refine .block ?_ | refine .gn ?_ | refine .dr ?_ | fail
  repeat' first
   | refine Drw.c0 rfl rfl (op_move rfl) rfl ?_
   | refine Drw.c0 rfl rfl (op_assign rfl) rfl ?_
   | refine Drw.c0 rfl rfl (op_fld2 rfl (by first | rfl | assumption)) rfl ?_
   | refine Drw.c0 rfl rfl (op_fld rfl rfl) rfl ?_
   | refine Drw.c0 rfl rfl (op_bsG rfl (bs1' _)) rfl ?_
   | refine Drw.c0 rfl rfl (op_ixaV ha rfl rfl hix) rfl ?_
   | refine Drw.c2g rfl rfl trivial trivial (fun U hU => op_load rfl (ld_one ((hpt U).at _ rfl))) rfl ?_
   | refine Drw.c2g rfl rfl trivial trivial (fun U hU => op_load rfl (ld_agg ((hpt U).drop 2) hbd.len7)) rfl ?_
   | refine Drw.c3 rfl rfl (op_app rfl rfl happ1) trivial rfl ?_
   | (refine Drw.call rfl rfl (by kernel_rfl) (cj S5) rfl (fun v6 S6 h6 => ⟨trivial, ?_⟩); obtain ⟨rfl, k6⟩ := h6)
   | (refine Drw.call rfl rfl (by kernel_rfl) (cx S6) rfl (fun v7 S7 h7 => ⟨trivial, ?_⟩); obtain ⟨rfl, k7'⟩ := h7; have k7 := (k5.trans k6).trans k7'; obtain ⟨lst', S9, happ, hl9, k9⟩ := app_lst (P := Tryz.prog) (t := 23) (u := 23) (hlst.same k7) (k2.trans k7) (J ++ [32, 45, 62, 32] ++ textE a.body) (lt := some 9) (tk := .exact) hrm)
   | refine Drw.c0 rfl rfl (op_str rfl rfl (str_add (by (try simp only [List.length_append, List.length_cons, List.length_nil]); omega))) rfl ?_
   | refine Drw.c3 rfl rfl (op_app rfl rfl happ) trivial rfl ?_
   | refine Drw.nil ?_
  repeat' first
   | refine Opl.val (op_int rfl rfl rfl (inc_ok (i := i) (by omega))) rfl ?_
   | refine .std ?_ | refine .nil ?_ | refine .seq ?_ | refine .region ?_ | refine .xs ?_ | refine .kb ?_ | refine .leaf ?_ | refine .block ?_ | refine .gn ?_ | refine .dr ?_ | fail
  exact (IH (i + 1) _ _ (by omega) ⟨⟨_, rfl, by rw [hstep, htx]; exact hl9⟩, by omega, k9⟩).weaken ⟨rfl, rfl, rfl, trivial⟩
 ·subst hq
  have hq : (elems av).length ≤ i := by have := of_decide_eq_false (by assumption : decide ((i : Int) < ((elems av).length : Nat)) = false); omega
  have hnil : l.take i = l := List.take_of_length_le (by omega)
  rw [hnil] at hlst
  have hst := hlst.strs (by rw [List.length_map]; show _ ≤ 9223372036854775807; omega) fun w hw' => by
   obtain ⟨x, hx, rfl⟩ := List.mem_map.1 hw'
   have := hw x hx
   show _ ≤ 9223372036854775807
   omega
  have cj := joinedF hst [59, 32] (by omega)
  repeat' first
   | refine Opl.callS (U0 := S) (by assumption) rfl (by kernel_rfl) cj rfl (fun S8 k8 => ?_)
   | refine Opl.val (op_str rfl rfl (str_add (by (try simp only [List.length_append, List.length_cons, List.length_nil]); omega))) rfl ?_
   | exact At.fnr rfl rfl rfl ⟨rfl, by assumption⟩
   | refine .std ?_ | refine .nil ?_ | refine .seq ?_ | refine .region ?_ | refine .xs ?_ | refine .kb ?_ | refine .leaf ?_ | refine .block ?_ | refine .gn ?_ | refine .dr ?_ | fail
end Go.Proofs.YtodiioeddlmjhaaGreatDoor
