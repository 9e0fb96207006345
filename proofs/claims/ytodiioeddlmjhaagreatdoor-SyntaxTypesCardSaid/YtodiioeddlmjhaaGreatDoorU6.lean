/-
  Printing: rows.
-/
import Derived.Test.YtodiioeddlmjhaaGreatDoorU5
set_option linter.unusedVariables false
set_option linter.unusedSimpArgs false
namespace Go.Proofs.YtodiioeddlmjhaaGreatDoor
open Go.RowKit Go.Ev
set_option maxRecDepth 100000
set_option linter.unusedVariables false
set_option linter.unusedSimpArgs false
attribute [local irreducible] Go.Ev.opE

set_option maxHeartbeats 4000000 in
theorem rowLabF (id : Nat) {l : List (List UInt8 × Int)} {bv : V} {tl : Int} (h1 : isLn 2 bv) (h2 : (elems bv).length ≤ huge) (h3 : All2 LabV l (elems bv)) {U : St} {j1 j2 : Nat} (b1 : Bp U id j1 81 [.ptr id 0]) (b2 : Bp U id j2 44 [bv, .int .i64 tl])
    {i : Nat} {x : List UInt8 × Int} (hx : l[i]? = some x) (hn : 0 ≤ x.2 ∧ x.2 ≤ 999999999) : Pri 186 [.int .i64 (i : Nat), .ptr j2 0, .ptr j1 0] id (fun S => KeepB U S id) (labW x) := by
  intro S s hp k0 hlen
  have hq : i < (elems bv).length := by rw [← h3.1]; exact (List.getElem?_eq_some_iff.1 hx).1
  obtain ⟨x', v, hx', hix, ⟨hv, hs, hn64⟩, hm⟩ := h3.at hq
  obtain rfl : x' = x := by rw [hx] at hx'; exact (Option.some.inj hx').symm
  obtain ⟨W, st1, b4, k4⟩ := lay (P := Tryz.prog) (T := 107) [.str [], .int .i64 0] S (cs := v.cells) (by rw [hv]; rfl) (by rw [hv]; rfl)
  rw [hv] at b4
  have hvl : v.cells.length = 2 := by rw [hv]; rfl
  have hne : S.next ≠ id := by have := hp.lt; omega
  have b3 := Bp.of b4 hne
  have kW0 : KeepB U W id := k0.then k4
  have c1 := b1.keep kW0
  have c2 := b2.keep kW0
  have kW : KeepB W W id := KeepB.refl W id
  have pW : Prz W id s := hp.same k4
  have ks : KeepB S W id := k4.keepB id
  have f1 := put1F id (lt := some 9) (tk := .exact) hs
  have hd := digI_len (n := x'.2) (by omega) (by omega)
  have f2 := itoaF (n := x'.2) (by omega) (by omega)
  have f3 := put2F id (lt := some 9) (tk := .exact) (a := [64]) (b := digI x'.2) (by decide) (by show _ ≤ 9223372036854775807; omega)
  obtain ⟨q1, e1⟩ : ∃ q, decide (x'.2 > 0) = q := ⟨_, rfl⟩
  have hspec : labW x' = x'.1 ++ (if q1 then [64] ++ digI x'.2 else []) := by
    unfold labW
    cases q1 with
    | true => rw [if_pos (of_decide_eq_true e1)]; rfl
    | false => rw [if_neg (of_decide_eq_false e1)]; rfl
  rw [hspec] at hlen ⊢
  have hl1 : s.length + x'.1.length ≤ 1099511627776 := by simp only [List.length_append] at hlen; omega
  refine CallTo.of (n := 24) Tryz.func186 rfl rfl ?_
  repeat' first
   | refine Opl.val (op_load rfl (ld_p b2 k0 _ rfl)) rfl ?_
   | refine Opl.val (op_ixaV h1 rfl rfl hix) rfl ?_
   | refine Opl.val (op_load rfl (ld_agg (Pt.cptr _ _ _) hvl)) rfl ?_
   | refine Opl.val op_alloc rfl ?_
   | refine Opl.eff (op_store rfl rfl st1) ?_
   | refine Opl.val (op_load rfl (ld_p1 c1 (by assumption))) rfl ?_
   | refine Opl.val (op_load rfl (ld_p b3 (by assumption) _ rfl)) rfl ?_
   | refine Opl.val (op_int rfl rfl rfl (gtr_i e1)) rfl ?_
   | refine Opl.val (op_bsG rfl (bs1 _)) rfl ?_
   | refine Opl.callP (U0 := W) (by assumption) (by assumption) rfl (by kernel_rfl) f1 trivial hl1 rfl (fun v S2 p2 k2 => ?_)
   | (refine Go.condV rfl (fun hq => ?_) (fun hq => ?_) <;> subst hq)
   | refine Go.draw [0, 0, 2, 6, 14, 31] [1, 2, 3, 0, 4, 5] (by kernel_rfl) (Kpb W id) ?_
   | exact At.fn rfl rfl rfl ⟨Prn.eq (by assumption) (by simp), ks.trans (by assumption)⟩
   | refine .std ?_ | refine .nil ?_ | refine .seq ?_ | refine .region ?_ | refine .xs ?_ | refine .kb ?_ | refine .leaf ?_ | refine .block ?_ | refine .gn ?_ | refine .dr ?_ | fail
  have hl2 : (s ++ x'.1).length + ([64] ++ digI x'.2).length ≤ 1099511627776 := by simp only [List.length_append, if_true] at hlen ⊢; omega
  repeat' first
    | refine Drw.c0 rfl rfl (op_fld rfl rfl) rfl ?_
    | refine Drw.c0 rfl rfl (op_bsG rfl (bs2 _ _)) rfl ?_
    | refine Drw.c2g rfl rfl (by assumption) (by assumption) (fun U hU => op_load rfl (ld_p b3 hU _ rfl)) rfl ?_
    | refine Drw.c2g rfl rfl (by assumption) (by assumption) (fun U hU => op_load rfl (ld_p1 c1 hU)) rfl ?_
    | refine Drw.callU (U0 := W) (by assumption) (by assumption) rfl rfl (by kernel_rfl) f2 rfl (fun S8 p8 k8 => ?_)
    | refine Drw.callP (U0 := W) (by assumption) (by assumption) rfl rfl (by kernel_rfl) f3 trivial hl2 rfl (fun v S9 p9 k9 => ?_)
    | refine Drw.nil ?_
  repeat' first | refine .std ?_ | refine .nil ?_ | refine .seq ?_ | refine .region ?_ | refine .xs ?_ | refine .kb ?_ | refine .leaf ?_ | refine .block ?_ | refine .gn ?_ | refine .dr ?_ | fail
  exact At.fn rfl rfl rfl ⟨Prn.eq (by assumption) (by simp), ks.trans (by assumption)⟩

set_option maxHeartbeats 8000000 in
theorem rowPF (id : Nat) {l : List (List UInt8 × Int)} {bv : V} {tl : Int} (h1 : isLn 2 bv) (h2 : (elems bv).length ≤ huge) (h3 : All2 LabV l (elems bv)) (hok : ∀ x ∈ l, 0 ≤ x.2 ∧ x.2 ≤ 999999999) (ht0 : -1 ≤ tl) (ht1 : tl ≤ 999999999) :
    Prc 127 [.ptr id 0, .agg [bv, .int .i64 tl]] id (rowW l tl) := by
  intro S s hp _ hlen
  obtain ⟨U1, U, hU1, hU, x1, x2, s0⟩ := box2 S 81 44 [.ptr id 0] [bv, .int .i64 tl]
  have hid := hp.lt
  have hn1 : U1.next = S.next + 1 := by rw [hU1]; rfl
  have b1 := Bp.of (c := id) x1 (by omega)
  have b2 := Bp.of (c := id) x2 (by omega)
  have ks : KeepB S U id := s0.keepB id
  have p0 : Prz U id s := hp.same s0
  have k0 : KeepB U U id := KeepB.refl U id
  have hlw : (l.map labW).length = (elems bv).length := by rw [List.length_map]; exact h3.1
  have e1 : l.length = (elems bv).length := h3.1
  have cl := listF id (by_ := [44, 32]) (by decide) (ws := l.map labW) (by rw [hlw]; exact h2) (g := 186) (caps := [.ptr U1.next 0, .ptr S.next 0]) (by kernel_rfl) (I := Kpb U id) (fun A B h k => KeepB.trans h k)
    (fun i w hw => by
      rw [List.getElem?_map] at hw
      obtain ⟨x, hx, rfl⟩ := Option.map_eq_some_iff.1 hw
      exact rowLabF id h1 h2 h3 b1 b2 hx (hok x (List.mem_of_getElem? hx)))
  rw [hlw] at cl
  generalize hJ : joinW [44, 32] (l.map labW) = J at cl
  have f1 := put1F id (lt := some 9) (tk := .exact) (a := [60]) (by decide)
  have f2 := put1F id (lt := some 9) (tk := .exact) (a := [32]) (by decide)
  have f3 := put1F id (lt := some 9) (tk := .exact) (a := [62, 32]) (by decide)
  have hd := digI_len (n := tl) (by omega) (by omega)
  have f4 := itoaF (n := tl) (by omega) (by omega)
  have f5 := put2F id (lt := some 9) (tk := .exact) (a := [124, 32, 114]) (b := digI tl) (by decide) (by show _ ≤ 9223372036854775807; omega)
  obtain ⟨q0, g0⟩ : ∃ q, decide (((elems bv).length : Int) = 0) = q := ⟨_, rfl⟩
  obtain ⟨ql, gl⟩ : ∃ q, decide (((elems bv).length : Int) > 0) = q := ⟨_, rfl⟩
  obtain ⟨qt, gt⟩ : ∃ q, decide (tl < 0) = q := ⟨_, rfl⟩
  obtain ⟨qg, gg⟩ : ∃ q, decide (tl ≥ 0) = q := ⟨_, rfl⟩
  have hspec : rowW l tl = if q0 && qt then [] else [60] ++ J ++ (if qg then (if ql then [32] else []) ++ ([124, 32, 114] ++ digI tl) else []) ++ [62, 32] := by
    have i0 : (l.length = 0 ∧ tl < 0) ↔ (q0 && qt) = true := by rw [← g0, ← gt, e1]; simp
    have i1 : (tl ≥ 0) ↔ qg = true := by rw [← gg]; simp
    have i2 : (l.length > 0) ↔ ql = true := by rw [← gl, e1]; simp
    unfold rowW
    simp only [i0, i1, i2, hJ]
  rw [hspec] at hlen ⊢
  refine CallTo.of (n := 41) Tryz.func127 rfl rfl ?_
  repeat' first
   | refine Opl.val (op_box rfl) rfl (Opl.cast (S' := U1) ?_ hU1)
   | refine Opl.val (op_box rfl) rfl (Opl.cast (S' := U) ?_ hU)
   | refine Opl.val (op_load rfl (ld_p b2 (by assumption) _ rfl)) rfl ?_
   | refine Opl.val (op_load rfl (ld_p1 b1 (by assumption))) rfl ?_
   | refine Opl.val (op_lenL rfl h1.isL rfl) rfl ?_
   | refine Opl.val (op_int rfl rfl rfl (eql_i g0)) rfl ?_
   | refine Opl.val (op_int rfl rfl rfl (lss_i gt)) rfl ?_
   | refine Opl.val (op_int rfl rfl rfl (geq_i gg)) rfl ?_
   | refine Opl.val (op_int rfl rfl rfl (gtr_i gl)) rfl ?_
   | refine Opl.val (op_bsG rfl (bs1 _)) rfl ?_
   | refine Opl.callP (U0 := U) (by assumption) (by assumption) rfl (by kernel_rfl) f1 trivial (by simp at hlen ⊢; omega) rfl (fun v S2 p2 k2 => ?_)
   | refine Opl.callP (U0 := U) (by assumption) (by assumption) rfl (by kernel_rfl) cl (by assumption) (by simp at hlen ⊢; omega) rfl (fun v S3 p3 k3 => ?_)
   | refine Opl.callP (U0 := U) (by assumption) (by assumption) rfl (by kernel_rfl) f2 trivial (by simp at hlen ⊢; omega) rfl (fun v S4 p4 k4 => ?_)
   | refine Opl.callP (U0 := U) (by assumption) (by assumption) rfl (by kernel_rfl) f3 trivial (by simp at hlen ⊢; omega) rfl (fun v S5 p5 k5 => ?_)
   | refine op_gyes rfl ?_ rfl
   | refine .gn ?_
   | (refine Opl.gonTN rfl rfl (fun hq => ?_) (fun hq => ?_) <;> subst hq)
   | (refine Opl.gonFN rfl rfl (fun hq => ?_) (fun hq => ?_) <;> subst hq)
   | (refine Opl.gonT rfl rfl (fun hq => ?_) (fun hq => ?_) <;> subst hq)
   | (refine Opl.gonF rfl rfl (fun hq => ?_) (fun hq => ?_) <;> subst hq)
   | refine Go.condT rfl ?_
   | refine Go.condF rfl ?_
   | (refine Go.condN rfl (fun hq => ?_) (fun hq => ?_) <;> subst hq)
   | (refine Go.condV rfl (fun hq => ?_) (fun hq => ?_) <;> subst hq)
   | refine Go.draw [0, 0, 2, 6, 14, 31] [1, 2, 3, 0, 4, 5] (by kernel_rfl) (Kpb U id) ?_
   | refine Drw.c0 rfl rfl (op_fld rfl rfl) rfl ?_
   | refine Drw.c0 rfl rfl (op_bsG rfl (bs2 _ _)) rfl ?_
   | refine Drw.c2g rfl rfl (by assumption) (by assumption) (fun U hU => op_load rfl (ld_p b2 hU _ rfl)) rfl ?_
   | refine Drw.c2g rfl rfl (by assumption) (by assumption) (fun U hU => op_load rfl (ld_p1 b1 hU)) rfl ?_
   | refine Drw.callU (U0 := U) (by assumption) (by assumption) rfl rfl (by kernel_rfl) f4 rfl (fun S8 p8 k8 => ?_)
   | refine Drw.callP (U0 := U) (by assumption) (by assumption) rfl rfl (by kernel_rfl) f5 trivial (by simp at hlen ⊢; omega) rfl (fun v S9 p9 k9 => ?_)
   | refine Drw.nil ?_
   | exact At.fnr rfl rfl rfl ⟨Prn.eq (by assumption) (by simp), ks.trans (by assumption)⟩
   | exact At.fn rfl rfl rfl ⟨Prn.eq (by assumption) (by simp), ks.trans (by assumption)⟩
   | refine .std ?_ | refine .nil ?_ | refine .seq ?_ | refine .region ?_ | refine .xs ?_ | refine .kb ?_ | refine .leaf ?_ | refine .block ?_ | refine .gn ?_ | refine .dr ?_ | fail

end Go.Proofs.YtodiioeddlmjhaaGreatDoor
