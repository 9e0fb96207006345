/-
  The reference's texts: rows.
-/
import Derived.Test.YtodiioeddlmjhaaGreatDoorU9
set_option linter.unusedVariables false
set_option linter.unusedSimpArgs false
namespace Go.Proofs.YtodiioeddlmjhaaGreatDoor
open Go.RowKit Go.Ev
set_option maxRecDepth 100000
set_option linter.unusedVariables false
set_option linter.unusedSimpArgs false
attribute [local irreducible] Go.Ev.opE

theorem bs1' (a : List UInt8) : buildSliceE Tryz.prog 23 1 [(0, .str a)] = some (.list (some 9) 1 [.str a] .exact) := by kernel_rfl

set_option maxHeartbeats 8000000 in
theorem rowTail {l : List (List UInt8 × Int)} {bv : V} {tl : Int} (h1 : isLn 2 bv) (h2 : (elems bv).length ≤ 9223372036854775807) (h3 : All2 LabV l (elems bv)) (hok : ∀ x ∈ l, isUpperB x.1 = true ∧ 0 ≤ x.2 ∧ x.2 ≤ 999999999) (ht0 : -1 ≤ tl) (ht1 : tl ≤ 999999999) {J : List UInt8} (hJ : joinW [44, 32] (l.map labW) = J)
    (hlen : ([60] ++ J ++ (if tl ≥ 0 then (if l.length > 0 then [32] else []) ++ ([124, 32, 114] ++ digI tl) else []) ++ [62, 32]).length ≤ 1099511627776) {S U : St} {id : Nat} (bx : Bx U id 44 [bv, .int .i64 tl]) (s0 : Same S U) (S1 : St) (k1 : Same U S1) :
    Go Tryz.prog ⟨69, [], .norm⟩ [(1, .ptr id 0)] S1 (bodyT Tryz.f129 2) (Kf Tryz.prog Tryz.f129 (fun v S' => v = .str ([60] ++ J ++ (if tl ≥ 0 then (if l.length > 0 then [32] else []) ++ ([124, 32, 114] ++ digI tl) else []) ++ [62, 32]) ∧ Same S S') (fun _ _ => False)) := by
  have e1 : l.length = (elems bv).length := h3.1
  have hJl : J.length ≤ 1099511627776 := by simp only [List.length_append] at hlen; omega
  have hn : l.length ≤ J.length := by
    have := joinW_ge [44, 32] (l.map labW) fun w hw => by
      obtain ⟨x, hx, rfl⟩ := List.mem_map.1 hw
      have := upper_ne (hok x hx).1
      unfold labW
      simp [this]
    rw [hJ, List.length_map] at this
    exact this
  have hroom : ∀ n, n ≤ 1099511627776 → roomOk n 16 = true := by
    intro n hn
    unfold roomOk
    rw [Nat.ble_eq_true_of_le (by omega), Nat.ble_eq_true_of_le (by omega)]; rfl
  repeat' first | refine .std ?_ | refine .nil ?_ | refine .seq ?_ | refine .region ?_ | refine .xs ?_ | refine .kb ?_ | refine .leaf ?_ | refine .block ?_ | refine .gn ?_ | refine .dr ?_ | fail
  refine Go.weaken (E' := [(1, .ptr id 0), (3, .nils), (4, .int .i64 (0 : Nat))]) ?_ ⟨rfl, rfl, rfl, trivial⟩
  refine Go.loop_ind (α := Nat) (fun i => (elems bv).length - i) (fun i E S' => (∃ lst, E = [(1, .ptr id 0), (3, lst), (4, .int .i64 i)] ∧ LstV 9 U S' lst ((l.take i).map labW)) ∧ i ≤ (elems bv).length ∧ Same U S') ?_ 0 _ _ ⟨⟨_, rfl, .inl ⟨rfl, rfl⟩⟩, Nat.zero_le _, k1⟩
  rintro i E S2 ⟨⟨lst, rfl, hlst⟩, hi, k2⟩ IH
  repeat' first
   | refine Opl.val (op_load rfl (ld_bx bx k2 _ rfl)) rfl ?_
   | refine Opl.val (op_lenL rfl h1.isL rfl) rfl ?_
   | refine Opl.fresh (op_int rfl rfl rfl rfl) rfl (fun q hq => ?_)
   | refine .std ?_ | refine .nil ?_ | refine .seq ?_ | refine .region ?_ | refine .xs ?_ | refine .kb ?_ | refine .leaf ?_ | refine .block ?_ | refine .gn ?_ | refine .dr ?_ | fail
  refine Go.cond rfl (fun hq => ?_) (fun hq => ?_)
  · subst hq
    have hq : i < (elems bv).length := by have := of_decide_eq_true (by assumption : decide ((i : Int) < ((elems bv).length : Nat)) = true); omega
    obtain ⟨x, v, hx, hix, ⟨hv, hs, hn64⟩, hm⟩ := h3.at hq
    have hxo := hok x hm
    have hpt : ∀ S, Pt S (.cptr none v.cells 0) [.str x.1, .int .i64 x.2] := fun S => by rw [hv]; exact Pt.cptr _ _ _
    have hd := digI_len (n := x.2) (by omega) (by omega)
    have hxl := wordB_len hxo.1
    have f2 := digitsF _ x.2 (Nat.le_refl _) (by omega) (by omega)
    have hstep : (l.take (i + 1)).map labW = (l.take i).map labW ++ [labW x] := by
      obtain ⟨hlt, rfl⟩ := List.getElem?_eq_some_iff.1 hx
      rw [List.take_succ_eq_append_getElem hlt, List.map_append]; rfl
    have hrm : roomOk (((l.take i).map labW).length + 1) 16 = true := hroom _ (by rw [List.length_map, List.length_take]; omega)
    obtain ⟨q1, g1⟩ : ∃ q, decide (x.2 > 0) = q := ⟨_, rfl⟩
    cases q1
    case true =>
      have hlab : labW x = x.1 ++ [64] ++ digI x.2 := by unfold labW; rw [if_pos (of_decide_eq_true g1)]; simp
      repeat' first
       | refine Opl.val (op_load rfl (ld_bx bx (by assumption) _ rfl)) rfl ?_
       | refine Opl.val (op_ixaV h1 rfl rfl hix) rfl ?_
       | refine Opl.val (op_load rfl (ld_one ((hpt _).at _ rfl))) rfl ?_
       | refine Opl.val (op_int rfl rfl rfl (gtr_i g1)) rfl ?_
       | refine Go.condT rfl ?_
       | refine Opl.val (op_str rfl rfl (str_add (by (try simp only [List.length_append, List.length_cons, List.length_nil]); omega))) rfl ?_
       | (refine Opl.callS (U0 := S2) (Same.refl S2) rfl (by kernel_rfl) f2 rfl (fun S8 k8 => ?_); have k8u := k2.trans k8)
       | refine Opl.val (op_bsG rfl (bs1' _)) rfl ?_
       | (obtain ⟨lst', S9, happ, hl9, k9⟩ := app_lst (P := Tryz.prog) (t := 23) (u := 23) (hlst.same k8) k8u (x.1 ++ [64] ++ digI x.2) (lt := some 9) (tk := .exact) hrm; refine Opl.val (op_app rfl rfl happ) rfl ?_)
       | refine Opl.val (op_int rfl rfl rfl (inc_ok (i := i) (by omega))) rfl ?_
       | refine .std ?_ | refine .nil ?_ | refine .seq ?_ | refine .region ?_ | refine .xs ?_ | refine .kb ?_ | refine .leaf ?_ | refine .block ?_ | refine .gn ?_ | refine .dr ?_ | fail
      exact (IH (i + 1) _ _ (by omega) ⟨⟨_, rfl, by rw [hstep, hlab]; exact hl9⟩, by omega, k9⟩).weaken ⟨rfl, rfl, rfl, trivial⟩
    case false =>
      have hlab : labW x = x.1 := by unfold labW; rw [if_neg (of_decide_eq_false g1)]; simp
      repeat' first
       | refine Opl.val (op_load rfl (ld_bx bx (by assumption) _ rfl)) rfl ?_
       | refine Opl.val (op_ixaV h1 rfl rfl hix) rfl ?_
       | refine Opl.val (op_load rfl (ld_one ((hpt _).at _ rfl))) rfl ?_
       | refine Opl.val (op_int rfl rfl rfl (gtr_i g1)) rfl ?_
       | refine Go.condF rfl ?_
       | refine Opl.val (op_bsG rfl (bs1' _)) rfl ?_
       | (obtain ⟨lst', S9, happ, hl9, k9⟩ := app_lst (P := Tryz.prog) (t := 23) (u := 23) hlst k2 x.1 (lt := some 9) (tk := .exact) hrm; refine Opl.val (op_app rfl rfl happ) rfl ?_)
       | refine Opl.val (op_int rfl rfl rfl (inc_ok (i := i) (by omega))) rfl ?_
       | refine .std ?_ | refine .nil ?_ | refine .seq ?_ | refine .region ?_ | refine .xs ?_ | refine .kb ?_ | refine .leaf ?_ | refine .block ?_ | refine .gn ?_ | refine .dr ?_ | fail
      exact (IH (i + 1) _ _ (by omega) ⟨⟨_, rfl, by rw [hstep, hlab]; exact hl9⟩, by omega, k9⟩).weaken ⟨rfl, rfl, rfl, trivial⟩
  · subst hq
    have hq : (elems bv).length ≤ i := by have := of_decide_eq_false (by assumption : decide ((i : Int) < ((elems bv).length : Nat)) = false); omega
    have hnil : l.take i = l := List.take_of_length_le (by omega)
    rw [hnil] at hlst
    have hst := hlst.strs (by rw [List.length_map]; show _ ≤ 9223372036854775807; omega) fun w hw => by
      obtain ⟨x, hx, rfl⟩ := List.mem_map.1 hw
      have := labW_len (hok x hx)
      show _ ≤ 9223372036854775807
      omega
    have hel : (elems lst).length = l.length := by have := hst.2.2.1; rw [List.length_map] at this; exact this.symm
    have cj := joinedF hst [44, 32] (by rw [hJ]; exact hJl)
    rw [hJ] at cj
    have hd := digI_len (n := tl) (by omega) (by omega)
    have f3 := digitsF _ tl (Nat.le_refl _) (by omega) (by omega)
    have hlL : isL lst = true := hst.1.isL
    obtain ⟨ql, gl⟩ : ∃ q, decide (((l.length : Nat) : Int) > 0) = q := ⟨_, rfl⟩
    obtain ⟨qg, gg⟩ : ∃ q, decide (tl ≥ 0) = q := ⟨_, rfl⟩
    have i1 : (tl ≥ 0) ↔ qg = true := by rw [← gg]; simp
    have i2 : (l.length > 0) ↔ ql = true := by rw [← gl]; simp
    simp only [i1, i2] at hlen ⊢
    repeat' first
     | refine Opl.val (op_load rfl (ld_bx bx (by assumption) _ rfl)) rfl ?_
     | refine Opl.val (op_lenE rfl hlL hel rfl) rfl ?_
     | refine Opl.callS (U0 := U) (by assumption) rfl (by kernel_rfl) cj rfl (fun S8 k8 => ?_)
     | refine Opl.callS (U0 := U) (by assumption) rfl (by kernel_rfl) f3 rfl (fun S8 k8 => ?_)
     | refine Opl.val (op_int rfl rfl rfl (geq_i gg)) rfl ?_
     | refine Opl.val (op_int rfl rfl rfl (gtr_i gl)) rfl ?_
     | refine Opl.val (op_str rfl rfl (str_add (by (try simp only [List.length_append, List.length_cons, List.length_nil, if_true, if_false, Bool.false_eq_true] at hlen ⊢); omega))) rfl ?_
     | refine op_gyes rfl ?_ rfl
     | refine .gn ?_
     | (refine Opl.gonTN rfl rfl (fun hq => ?_) (fun hq => ?_) <;> subst hq)
     | (refine Opl.gonFN rfl rfl (fun hq => ?_) (fun hq => ?_) <;> subst hq)
     | (refine Opl.gonT rfl rfl (fun hq => ?_) (fun hq => ?_) <;> subst hq)
     | (refine Opl.gonF rfl rfl (fun hq => ?_) (fun hq => ?_) <;> subst hq)
     | refine Go.condT rfl ?_
     | refine Go.condF rfl ?_
     | (refine Go.condN rfl (fun hq => ?_) (fun hq => ?_) <;> subst hq)
     | (refine Go.condV rfl (fun hq => ?_) (fun hq => ?_) <;> subst hq)
     | exact At.fnr rfl rfl rfl ⟨congrArg V.str (by simp), s0.trans (by assumption)⟩
     | refine .std ?_ | refine .nil ?_ | refine .seq ?_ | refine .region ?_ | refine .xs ?_ | refine .kb ?_ | refine .leaf ?_ | refine .block ?_ | refine .gn ?_ | refine .dr ?_ | fail

end Go.Proofs.YtodiioeddlmjhaaGreatDoor
