import Derived.Test.YtodiioeddlmjhaaGreatDoorT9
import Derived.Test.YtodiioeddlmjhaaGreatDoorE11
set_option linter.unusedVariables false
set_option linter.unusedSimpArgs false
namespace Go.Proofs.YtodiioeddlmjhaaGreatDoor
open Go.RowKit Go.Ev
set_option maxRecDepth 100000
set_option linter.unusedVariables false
set_option linter.unusedSimpArgs false
attribute [local irreducible] Go.Ev.opE
theorem u_strs4 : Tryz.prog.underlying 23 = some (.slice 9) := by kernel_rfl
theorem sz_str4 : szOf Tryz.prog 9 = some 1 := by kernel_rfl
set_option maxHeartbeats 4000000 in
theorem refDistinct {l : List (List UInt8)} {nv : V} (h : StrsV l nv) : Pu Tryz.prog 152 [nv] (.int .i64 (distE 1 [] l)) := by
 have h0 := h
 obtain ⟨hl, hll, hA⟩ := h
 have hll : (elems nv).length ≤ 9223372036854775807 := hll
 intro S
 have k0 : Same S S := Same.refl S
 refine CallTo.of (n := 24) Tryz.func152 rfl rfl ?_
 repeat' first | refine .std ?_ | refine .nil ?_ | refine .seq ?_ | refine .region ?_ | refine .xs ?_ | refine .kb ?_ | refine .leaf ?_ | refine .block ?_ | refine .gn ?_ | refine .dr ?_ | fail
 refine Go.weaken (E' := [(0, nv), (3, .int .i64 (0 : Nat))]) ?_ ⟨rfl, rfl, trivial⟩
 refine Go.loop_ind (α := Nat) (fun i => (elems nv).length - i) (fun i E S' => E = [(0, nv), (3, .int .i64 i)] ∧ i ≤ (elems nv).length ∧ Same S S' ∧ distE 1 [] l = distE 1 (l.take i) (l.drop i)) ?_ 0 _ _ ⟨rfl, Nat.zero_le _, k0, rfl⟩
 rintro i E S1 ⟨rfl, hi, k1, hd⟩ IH
 repeat' first
  | refine Opl.val (op_lenL rfl hl.isL rfl) rfl ?_
  | refine Opl.fresh (op_int rfl rfl rfl rfl) rfl (fun q hq => ?_)
  | refine .std ?_ | refine .nil ?_ | refine .seq ?_ | refine .region ?_ | refine .xs ?_ | refine .kb ?_ | refine .leaf ?_ | refine .block ?_ | refine .gn ?_ | refine .dr ?_ | fail
 refine Go.cond rfl (fun hq => ?_) (fun hq => ?_)
 ·subst hq
  have hq : i < (elems nv).length := by have := of_decide_eq_true (by assumption : decide ((i : Int) < ((elems nv).length : Nat)) = true); omega
  obtain ⟨x, v, hx, hix, ⟨hc, hxl⟩, hm⟩ := hA.at hq
  have hpt : ∀ S, Pt S (.cptr none v.cells 0) [.str x] := fun S => by rw [hc]; exact Pt.cptr _ _ _
  obtain ⟨mv, hsl, hmv⟩ := strs_take (T := 23) (e := 9) u_strs4 sz_str4 h0 i (by omega)
  have c1 := refIsVar x hxl
  have c2 := refHas hmv x
  obtain ⟨q1, g1⟩ : ∃ q, isVarB x = q := ⟨_, rfl⟩
  obtain ⟨q2, g2⟩ : ∃ q, (l.take i).contains x = q := ⟨_, rfl⟩
  have hst : l.take (i + 1) = l.take i ++ [x] := by
   obtain ⟨hlt, rfl⟩ := List.getElem?_eq_some_iff.1 hx
   exact List.take_succ_eq_append_getElem hlt
  have hspec : distE 1 [] l = if !q1 then 4 else if q2 then 5 else distE 1 (l.take (i + 1)) (l.drop (i + 1)) := by
   rw [hd, drop_at hx, hst]
   show (if !isVarB x then (4 : Int) else if (l.take i).contains x then 5 else distE 1 (l.take i ++ [x]) (l.drop (i + 1))) = _
   rw [g1, g2]
  rw [g1] at c1
  rw [g2] at c2
  repeat' first
   | refine Opl.val (op_ixaV hl rfl rfl hix) rfl ?_
   | refine Opl.val (op_load rfl (ld_one (hpt _))) rfl ?_
   | refine Opl.val (op_slH rfl rfl hsl) rfl ?_
   | refine Opl.callS (U0 := S) (by assumption) rfl (by kernel_rfl) c1 rfl (fun S8 k8 => ?_)
   | refine Opl.callS (U0 := S) (by assumption) rfl (by kernel_rfl) c2 rfl (fun S8 k8 => ?_)
   | refine op_gyes rfl ?_ rfl
   | refine .gn ?_
   | (refine Opl.gonTN rfl rfl (fun hq => ?_) (fun hq => ?_) <;> subst hq)
   | (refine Opl.gonFN rfl rfl (fun hq => ?_) (fun hq => ?_) <;> subst hq)
   | (refine Opl.gonT rfl rfl (fun hq => ?_) (fun hq => ?_) <;> subst hq)
   | (refine Opl.gonF rfl rfl (fun hq => ?_) (fun hq => ?_) <;> subst hq)
   | refine Go.condT rfl ?_
   | refine Go.condF rfl ?_
   | (refine Go.condN rfl (fun hq => ?_) (fun hq => ?_) <;> subst hq)
   | (refine Go.condV rfl (fun hq => ?_) (fun hq => ?_) <;> subst hq)
   | refine Opl.val (op_int rfl rfl rfl (inc_ok (i := i) (by omega))) rfl ?_
   | exact At.fnr rfl rfl rfl ⟨pack_n (by rw [hspec]; rfl), by assumption⟩
   | exact (IH (i + 1) _ _ (by omega) ⟨rfl, by omega, by assumption, by rw [hspec]; rfl⟩).weaken ⟨rfl, rfl, trivial⟩
   | refine .std ?_ | refine .nil ?_ | refine .seq ?_ | refine .region ?_ | refine .xs ?_ | refine .kb ?_ | refine .leaf ?_ | refine .block ?_ | refine .gn ?_ | refine .dr ?_ | fail
 ·subst hq
  have hq : (elems nv).length ≤ i := by have := of_decide_eq_false (by assumption : decide ((i : Int) < ((elems nv).length : Nat)) = false); omega
  have hnil : l.drop i = [] := List.drop_eq_nil_of_le (by rw [hA.1]; omega)
  rw [hnil] at hd
  repeat' first | refine .std ?_ | refine .nil ?_ | refine .seq ?_ | refine .region ?_ | refine .xs ?_ | refine .kb ?_ | refine .leaf ?_ | refine .block ?_ | refine .gn ?_ | refine .dr ?_ | fail
  exact At.fnr rfl rfl rfl ⟨pack_n (by rw [hd]; rfl), k1⟩
end Go.Proofs.YtodiioeddlmjhaaGreatDoor
namespace Go.Proofs.YtodiioeddlmjhaaGreatDoor
open Go.RowKit Go.Ev
set_option maxRecDepth 100000
set_option linter.unusedVariables false
set_option linter.unusedSimpArgs false
attribute [local irreducible] Go.Ev.opE
theorem thenE_nz {a b : Int} (h : a ≠ 0) : thenE a b = a := if_neg h
theorem strs_mid {P : Program} {T e : TypeId} {l : List (List UInt8)} {nv : V} (hT : P.underlying T = some (.slice e)) (hn : szOf P e = some 1) (h : StrsV l nv) (i : Nat) (h1 : 1 ≤ i) (hi : i < (elems nv).length) :
 ∃ mv, sliceE P T nv (some (.int .i64 1)) (some (.int .i64 i)) none = some mv ∧ StrsV ((l.take i).drop 1) mv := by
 obtain ⟨hl, hlen, hA⟩ := h
 rcases hl with rfl | rfl | ⟨lt, es, tk, rfl⟩
 ·simp [elems] at hi
 ·simp [elems] at hi
 ·have hi : i < es.length := hi
  have hlen : es.length ≤ huge := hlen
  have hb1 : boundB (some (.int .i64 1)) 0 i = some 1 := boundB_nat (i := 1) h1
  have hb2 : boundB (some (.int .i64 (i : Int))) es.length es.length = some i := boundB_nat (by omega)
  have hb : sliceB (some (.int .i64 1)) (some (.int .i64 (i : Int))) es.length es.length = some (1, i) := by
   show (match boundB (some (.int .i64 (i : Int))) es.length es.length with
    | none => none
    | some h => match boundB (some (.int .i64 1)) 0 h with
     | none => none
     | some l => some (l, h)) = _
   rw [hb2]
   show (match boundB (some (.int .i64 1)) 0 i with
    | none => none
    | some l => some (l, i)) = _
   rw [hb1]
  have hbl : Nat.blt 1 es.length = true := Nat.ble_eq_true_of_le (by omega)
  have hbe : Nat.beq i es.length = false := by
   cases h : Nat.beq i es.length with
   | false => rfl
   | true => have := Nat.eq_of_beq_eq_true h; omega
  refine ⟨.list lt 1 ((es.take i).drop 1) .no, ?_, .inr (.inr ⟨_, _, _, rfl⟩), ?_, ?_⟩
  ·unfold sliceE
   simp only [hT, hn, hb, hbl, hbe, Nat.beq_refl, if_true, Bool.false_eq_true, if_false]
   rfl
  ·show ((es.take i).drop 1).length ≤ huge
   simp; omega
  ·exact (hA.take i).drop 1
theorem distE_seen (c : Nat) {l : List (List UInt8)} {i : Nat} {x : List UInt8} (hx : l[i]? = some x) (h1 : 1 ≤ i) :
 distE c ((l.take i).drop 1) (l.drop i) = if !clsB x c then 4 else if ((l.take i).drop 1).contains x then 5 else distE c ((l.take (i + 1)).drop 1) (l.drop (i + 1)) := by
 have hst : (l.take (i + 1)).drop 1 = (l.take i).drop 1 ++ [x] := by
  obtain ⟨hlt, rfl⟩ := List.getElem?_eq_some_iff.1 hx
  rw [List.take_succ_eq_append_getElem hlt, List.drop_append_of_le_length (by simp; omega)]
 rw [drop_at hx, hst]
 rfl
set_option maxHeartbeats 8000000 in
theorem refNames {e : Ex} {cs : List V} (he : ExC e cs) {fi : Nat} (hfi : (if decide (e.kind = 17) then 1 else e.names.length) = fi) (h1 : fi ≤ e.names.length) :
 Pu Tryz.prog 177 [.agg cs] (.int .i64 (thenE (distE 1 [] (e.names.take fi)) (distE 2 [] (e.names.drop fi)))) := by
 obtain ⟨nv, lv, av, rfl, hk, hn, hs, ht, hnm, hl, hll, ha, hal, hL, hA⟩ := he.inv
 have e1 : e.names.length = (elems nv).length := hnm.2.2.1
 have hnl : (elems nv).length ≤ 9223372036854775807 := hnm.2.1
 intro S
 obtain ⟨U, hU, bx, s0⟩ := box1 S 27 [.int .i64 e.kind, .int .i64 e.n, .str e.s, .str e.t, nv, lv, av]
 have k0 : Same U U := Same.refl U
 refine CallTo.of (n := 42) Tryz.func177 rfl rfl ?_
 by_cases h17 : e.kind = 17
 case neg =>
  have q17 : (!decide (e.kind = 17)) = true := by simpa using h17
  have hfi : fi = e.names.length := by rw [← hfi]; simp [h17]
  have c1 := refDistinct hnm
  have hr : thenE (distE 1 [] (e.names.take fi)) (distE 2 [] (e.names.drop fi)) = distE 1 [] e.names := by
   rw [hfi, List.take_length, List.drop_length]
   show thenE _ 0 = _
   unfold thenE
   split
   ·rename_i h; exact h.symm
   ·rfl
  repeat' first
   | refine Opl.val (op_box rfl) rfl (Opl.cast (S' := U) ?_ hU)
   | refine Opl.val (op_load rfl (ld_bx bx (by assumption) _ rfl)) rfl ?_
   | refine Opl.val (op_int rfl rfl rfl (neq_i q17)) rfl ?_
   | refine Opl.callS (U0 := U) (by assumption) rfl (by kernel_rfl) c1 rfl (fun S8 k8 => ?_)
   | refine Go.condT rfl ?_
   | exact At.fnr rfl rfl rfl ⟨pack_n hr.symm, s0.trans (by assumption)⟩
   | refine .std ?_ | refine .nil ?_ | refine .seq ?_ | refine .region ?_ | refine .xs ?_ | refine .kb ?_ | refine .leaf ?_ | refine .block ?_ | refine .gn ?_ | refine .dr ?_ | fail
 case pos =>
  have q17 : (!decide (e.kind = 17)) = false := by simpa using h17
  have hfi : fi = 1 := by rw [← hfi]; simp [h17]
  subst hfi
  obtain ⟨mv, hmv, hsv⟩ := strs_take (P := Tryz.prog) (T := 23) u_strs4 sz_str4 hnm 1 (by omega)
  have c1 := refDistinct hsv
  have hdn : (e.names.take 1).drop 1 = [] := List.drop_eq_nil_of_le (by rw [List.length_take]; omega)
  obtain ⟨d1, hd1⟩ : ∃ d, distE 1 [] (e.names.take 1) = d := ⟨_, rfl⟩
  obtain ⟨z1, hz1⟩ : ∃ q, (!decide (d1 = 0)) = q := ⟨_, rfl⟩
  rw [hd1] at c1 ⊢
  cases z1
  case true =>
   have hr : thenE d1 (distE 2 [] (e.names.drop 1)) = d1 := thenE_nz (by simpa using hz1)
   repeat' first
    | refine Opl.val (op_box rfl) rfl (Opl.cast (S' := U) ?_ hU)
    | refine Opl.val (op_load rfl (ld_bx bx (by assumption) _ rfl)) rfl ?_
    | refine Opl.val (op_int rfl rfl rfl (neq_i q17)) rfl ?_
    | refine Opl.val (op_int rfl rfl rfl (neq_i hz1)) rfl ?_
    | refine Opl.val (op_slH rfl rfl hmv) rfl ?_
    | refine Opl.callS (U0 := U) (by assumption) rfl (by kernel_rfl) c1 rfl (fun S8 k8 => ?_)
    | refine Go.condT rfl ?_
    | refine Go.condF rfl ?_
    | exact At.fnr rfl rfl rfl ⟨pack_n hr.symm, s0.trans (by assumption)⟩
    | refine .std ?_ | refine .nil ?_ | refine .seq ?_ | refine .region ?_ | refine .xs ?_ | refine .kb ?_ | refine .leaf ?_ | refine .block ?_ | refine .gn ?_ | refine .dr ?_ | fail
  case false =>
   have hz : d1 = 0 := by simpa using hz1
   rw [hz, thenE_zero]
   repeat' first
    | refine Opl.val (op_box rfl) rfl (Opl.cast (S' := U) ?_ hU)
    | refine Opl.val (op_load rfl (ld_bx bx (by assumption) _ rfl)) rfl ?_
    | refine Opl.val (op_int rfl rfl rfl (neq_i q17)) rfl ?_
    | refine Opl.val (op_int rfl rfl rfl (neq_i hz1)) rfl ?_
    | refine Opl.val (op_slH rfl rfl hmv) rfl ?_
    | refine Opl.callS (U0 := U) (by assumption) rfl (by kernel_rfl) c1 rfl (fun S8 k8 => ?_)
    | refine Go.condF rfl ?_
    | refine .std ?_ | refine .nil ?_ | refine .seq ?_ | refine .region ?_ | refine .xs ?_ | refine .kb ?_ | refine .leaf ?_ | refine .block ?_ | refine .gn ?_ | refine .dr ?_ | fail
   refine Go.weaken (E' := [(1, .ptr S.next 0), (4, .int .i64 (1 : Nat))]) ?_ ⟨rfl, rfl, trivial⟩
   refine Go.loop_ind (α := Nat) (fun i => (elems nv).length - i) (fun i E S' => E = [(1, .ptr S.next 0), (4, .int .i64 i)] ∧ 1 ≤ i ∧ i ≤ (elems nv).length ∧ Same U S' ∧ distE 2 [] (e.names.drop 1) = distE 2 ((e.names.take i).drop 1) (e.names.drop i)) ?_ 1 _ _ ⟨rfl, Nat.le_refl _, by omega, by assumption, by rw [hdn]⟩
   rintro i E S2 ⟨rfl, hi1, hi, k2, hd⟩ IH
   repeat' first
    | refine Opl.val (op_load rfl (ld_bx bx k2 _ rfl)) rfl ?_
    | refine Opl.val (op_lenL rfl hnm.1.isL rfl) rfl ?_
    | refine Opl.fresh (op_int rfl rfl rfl rfl) rfl (fun q hq => ?_)
    | refine .std ?_ | refine .nil ?_ | refine .seq ?_ | refine .region ?_ | refine .xs ?_ | refine .kb ?_ | refine .leaf ?_ | refine .block ?_ | refine .gn ?_ | refine .dr ?_ | fail
   refine Go.cond rfl (fun hq => ?_) (fun hq => ?_)
   ·subst hq
    have hq : i < (elems nv).length := by have := of_decide_eq_true (by assumption : decide ((i : Int) < ((elems nv).length : Nat)) = true); omega
    obtain ⟨x, v, hx, hix, ⟨hc, hxl⟩, hm⟩ := hnm.2.2.at hq
    have hpt : ∀ S, Pt S (.cptr none v.cells 0) [.str x] := fun S => by rw [hc]; exact Pt.cptr _ _ _
    obtain ⟨mw, hmw, hsw⟩ := strs_mid (P := Tryz.prog) (T := 23) u_strs4 sz_str4 hnm i hi1 hq
    have c2 := refIsUpper x hxl
    have c3 := refHas hsw x
    obtain ⟨q1, g1⟩ : ∃ q, isUpperB x = q := ⟨_, rfl⟩
    obtain ⟨q2, g2⟩ : ∃ q, ((e.names.take i).drop 1).contains x = q := ⟨_, rfl⟩
    rw [distE_seen 2 hx hi1] at hd
    have hd : distE 2 [] (e.names.drop 1) = if !q1 then 4 else if q2 then 5 else distE 2 ((e.names.take (i + 1)).drop 1) (e.names.drop (i + 1)) := by rw [hd, ← g1, ← g2]; rfl
    rw [g1] at c2
    rw [g2] at c3
    cases q1
    case false =>
     repeat' first
      | refine Opl.val (op_load rfl (ld_bx bx (by assumption) _ rfl)) rfl ?_
      | refine Opl.val (op_ixaV hnm.1 rfl rfl hix) rfl ?_
      | refine Opl.val (op_load rfl (ld_one (hpt _))) rfl ?_
      | refine Opl.callS (U0 := U) (by assumption) rfl (by kernel_rfl) c2 rfl (fun S8 k8 => ?_)
      | refine Go.condT rfl ?_
      | exact At.fnr rfl rfl rfl ⟨pack_n (by rw [hd]; rfl), s0.trans (by assumption)⟩
      | refine .std ?_ | refine .nil ?_ | refine .seq ?_ | refine .region ?_ | refine .xs ?_ | refine .kb ?_ | refine .leaf ?_ | refine .block ?_ | refine .gn ?_ | refine .dr ?_ | fail
    case true =>
     repeat' first
      | refine Opl.val (op_load rfl (ld_bx bx (by assumption) _ rfl)) rfl ?_
      | refine Opl.val (op_ixaV hnm.1 rfl rfl hix) rfl ?_
      | refine Opl.val (op_load rfl (ld_one (hpt _))) rfl ?_
      | refine Opl.callS (U0 := U) (by assumption) rfl (by kernel_rfl) c2 rfl (fun S8 k8 => ?_)
      | refine Opl.val (op_slLH rfl rfl rfl hmw) rfl ?_
      | refine Opl.callS (U0 := U) (by assumption) rfl (by kernel_rfl) c3 rfl (fun S8 k8 => ?_)
      | refine Go.condF rfl ?_
      | refine op_gyes rfl ?_ rfl
      | refine .gn ?_
      | (refine Opl.gonTN rfl rfl (fun hq => ?_) (fun hq => ?_) <;> subst hq)
      | (refine Opl.gonFN rfl rfl (fun hq => ?_) (fun hq => ?_) <;> subst hq)
      | (refine Opl.gonT rfl rfl (fun hq => ?_) (fun hq => ?_) <;> subst hq)
      | (refine Opl.gonF rfl rfl (fun hq => ?_) (fun hq => ?_) <;> subst hq)
      | refine Go.condT rfl ?_
      | refine Go.condF rfl ?_
      | (refine Go.condN rfl (fun hq => ?_) (fun hq => ?_) <;> subst hq)
      | (refine Go.condV rfl (fun hq => ?_) (fun hq => ?_) <;> subst hq)
      | refine Opl.val (op_int rfl rfl rfl (inc_ok (i := i) (by omega))) rfl ?_
      | exact At.fnr rfl rfl rfl ⟨pack_n (by rw [hd]; rfl), s0.trans (by assumption)⟩
      | exact (IH (i + 1) _ _ (by omega) ⟨rfl, by omega, by omega, by assumption, by rw [hd]; rfl⟩).weaken ⟨rfl, rfl, trivial⟩
      | refine .std ?_ | refine .nil ?_ | refine .seq ?_ | refine .region ?_ | refine .xs ?_ | refine .kb ?_ | refine .leaf ?_ | refine .block ?_ | refine .gn ?_ | refine .dr ?_ | fail
   ·subst hq
    have hq : (elems nv).length ≤ i := by have := of_decide_eq_false (by assumption : decide ((i : Int) < ((elems nv).length : Nat)) = false); omega
    have hnil : e.names.drop i = [] := List.drop_eq_nil_of_le (by omega)
    rw [hnil] at hd
    repeat' first | refine .std ?_ | refine .nil ?_ | refine .seq ?_ | refine .region ?_ | refine .xs ?_ | refine .kb ?_ | refine .leaf ?_ | refine .block ?_ | refine .gn ?_ | refine .dr ?_ | fail
    exact At.fnr rfl rfl rfl ⟨pack_n hd.symm, s0.trans k2⟩
end Go.Proofs.YtodiioeddlmjhaaGreatDoor
