/-
  Printing: types.
-/
import Derived.Test.YtodiioeddlmjhaaGreatDoorU6
set_option linter.unusedVariables false
set_option linter.unusedSimpArgs false
namespace Go.Proofs.YtodiioeddlmjhaaGreatDoor
open Go.RowKit Go.Ev
set_option maxRecDepth 100000
set_option linter.unusedVariables false
set_option linter.unusedSimpArgs false
attribute [local irreducible] Go.Ev.opE

set_option maxHeartbeats 8000000 in
theorem typF (id : Nat) : ∀ (N : Nat) (e : Ty) (cs : List V), e.nodes ≤ N → TyC e cs → tnodesE e = 0 → Prc 68 [.ptr id 0, .agg cs] id (textT e) := by
  intro N
  induction N with
  | zero => intro e cs hN; cases e; simp [Ty.nodes] at hN
  | succ N IHN =>
  intro e cs hN he h0
  obtain ⟨hf, hp0⟩ := tnodes_ok h0
  obtain ⟨lv, bv, rfl, hk, hn, hs, hl, hll, hb, hbl, hB, htl, hL⟩ := he.inv
  have e1 : e.l.length = (elems lv).length := hL.1
  have hll : (elems lv).length ≤ 9223372036854775807 := hll
  intro S s hp _ hlen
  rw [textT_eq] at hlen ⊢
  obtain ⟨U, hU, bx, s0⟩ := box1 S 46 [.int .i64 e.kind, .int .i64 e.n, .str e.s, lv, bv, .int .i64 e.tail]
  have hne : S.next ≠ id := by have := hp.lt; omega
  have b0 := Bp.of bx hne
  have ks : KeepB S U id := s0.keepB id
  have p0 : Prz U id s := hp.same s0
  have k0 : KeepB U U id := KeepB.refl U id
  have hd := digI_len (n := e.n) (by have := hf.n0; omega) (by have := hf.n9; omega)
  have f0 := itoaF (n := e.n) (by have := hf.n0; omega) (by have := hf.n9; omega)
  have f1 := put2F id (lt := some 9) (tk := .exact) (a := [116]) (b := digI e.n) (by decide) (by show _ ≤ 9223372036854775807; omega)
  have f2 := put1F id (lt := some 9) (tk := .exact) (a := e.s) hs
  have f3 := put1F id (lt := some 9) (tk := .exact) (a := [73, 110, 116]) (by decide)
  have f4 := put1F id (lt := some 9) (tk := .exact) (a := [66, 111, 111, 108]) (by decide)
  have f5 := put1F id (lt := some 9) (tk := .exact) (a := [85, 110, 105, 116]) (by decide)
  have f6 := put1F id (lt := some 9) (tk := .exact) (a := [32, 45, 62, 32]) (by decide)
  have f7 := put1F id (lt := some 9) (tk := .exact) (a := [32]) (by decide)
  have hk7 : e.kind = 0 ∨ e.kind = 1 ∨ e.kind = 2 ∨ e.kind = 3 ∨ e.kind = 4 ∨ e.kind = 5 ∨ e.kind = 6 := by have := hf.k0; have := hf.k6; omega
  refine CallTo.of (n := 80) Tryz.func68 rfl rfl ?_
  rcases hk7 with h | h | h | h | h | h | h
  · rw [h] at hU b0 hlen ⊢
    simp only [if_true, if_false, Int.reduceEq] at hlen ⊢
    repeat' first
     | refine Opl.val (op_box rfl) rfl (Opl.cast (S' := U) ?_ hU)
     | refine Opl.val (op_load rfl (ld_p b0 (by assumption) _ rfl)) rfl ?_
     | refine Opl.val (op_bsG rfl (bs1 _)) rfl ?_
     | refine Opl.val (op_bsG rfl (bs2 _ _)) rfl ?_
     | refine Opl.callU (U0 := U) (by assumption) (by assumption) rfl (by kernel_rfl) f0 rfl (fun S8 p8 k8 => ?_)
     | refine Opl.callP (U0 := U) (by assumption) (by assumption) rfl (by kernel_rfl) f1 trivial hlen rfl (fun v S2 p2 k2 => ?_)
     | refine Go.condT rfl ?_
     | refine Go.condF rfl ?_
     | exact At.fn rfl rfl rfl ⟨by assumption, ks.trans (by assumption)⟩
     | refine .std ?_ | refine .nil ?_ | refine .seq ?_ | refine .region ?_ | refine .xs ?_ | refine .kb ?_ | refine .leaf ?_ | refine .block ?_ | refine .gn ?_ | refine .dr ?_ | fail
  · rw [h] at hU b0 hlen ⊢
    simp only [if_true, if_false, Int.reduceEq] at hlen ⊢
    repeat' first
     | refine Opl.val (op_box rfl) rfl (Opl.cast (S' := U) ?_ hU)
     | refine Opl.val (op_load rfl (ld_p b0 (by assumption) _ rfl)) rfl ?_
     | refine Opl.val (op_bsG rfl (bs1 _)) rfl ?_
     | refine Opl.val (op_bsG rfl (bs2 _ _)) rfl ?_
     | refine Opl.callU (U0 := U) (by assumption) (by assumption) rfl (by kernel_rfl) f0 rfl (fun S8 p8 k8 => ?_)
     | refine Opl.callP (U0 := U) (by assumption) (by assumption) rfl (by kernel_rfl) f2 trivial hlen rfl (fun v S2 p2 k2 => ?_)
     | refine Go.condT rfl ?_
     | refine Go.condF rfl ?_
     | exact At.fn rfl rfl rfl ⟨by assumption, ks.trans (by assumption)⟩
     | refine .std ?_ | refine .nil ?_ | refine .seq ?_ | refine .region ?_ | refine .xs ?_ | refine .kb ?_ | refine .leaf ?_ | refine .block ?_ | refine .gn ?_ | refine .dr ?_ | fail
  · rw [h] at hU b0 hlen ⊢
    simp only [if_true, if_false, Int.reduceEq] at hlen ⊢
    repeat' first
     | refine Opl.val (op_box rfl) rfl (Opl.cast (S' := U) ?_ hU)
     | refine Opl.val (op_load rfl (ld_p b0 (by assumption) _ rfl)) rfl ?_
     | refine Opl.val (op_bsG rfl (bs1 _)) rfl ?_
     | refine Opl.val (op_bsG rfl (bs2 _ _)) rfl ?_
     | refine Opl.callU (U0 := U) (by assumption) (by assumption) rfl (by kernel_rfl) f0 rfl (fun S8 p8 k8 => ?_)
     | refine Opl.callP (U0 := U) (by assumption) (by assumption) rfl (by kernel_rfl) f3 trivial hlen rfl (fun v S2 p2 k2 => ?_)
     | refine Go.condT rfl ?_
     | refine Go.condF rfl ?_
     | exact At.fn rfl rfl rfl ⟨by assumption, ks.trans (by assumption)⟩
     | refine .std ?_ | refine .nil ?_ | refine .seq ?_ | refine .region ?_ | refine .xs ?_ | refine .kb ?_ | refine .leaf ?_ | refine .block ?_ | refine .gn ?_ | refine .dr ?_ | fail
  · rw [h] at hU b0 hlen ⊢
    simp only [if_true, if_false, Int.reduceEq] at hlen ⊢
    repeat' first
     | refine Opl.val (op_box rfl) rfl (Opl.cast (S' := U) ?_ hU)
     | refine Opl.val (op_load rfl (ld_p b0 (by assumption) _ rfl)) rfl ?_
     | refine Opl.val (op_bsG rfl (bs1 _)) rfl ?_
     | refine Opl.val (op_bsG rfl (bs2 _ _)) rfl ?_
     | refine Opl.callU (U0 := U) (by assumption) (by assumption) rfl (by kernel_rfl) f0 rfl (fun S8 p8 k8 => ?_)
     | refine Opl.callP (U0 := U) (by assumption) (by assumption) rfl (by kernel_rfl) f4 trivial hlen rfl (fun v S2 p2 k2 => ?_)
     | refine Go.condT rfl ?_
     | refine Go.condF rfl ?_
     | exact At.fn rfl rfl rfl ⟨by assumption, ks.trans (by assumption)⟩
     | refine .std ?_ | refine .nil ?_ | refine .seq ?_ | refine .region ?_ | refine .xs ?_ | refine .kb ?_ | refine .leaf ?_ | refine .block ?_ | refine .gn ?_ | refine .dr ?_ | fail
  · rw [h] at hU b0 hlen ⊢
    simp only [if_true, if_false, Int.reduceEq] at hlen ⊢
    repeat' first
     | refine Opl.val (op_box rfl) rfl (Opl.cast (S' := U) ?_ hU)
     | refine Opl.val (op_load rfl (ld_p b0 (by assumption) _ rfl)) rfl ?_
     | refine Opl.val (op_bsG rfl (bs1 _)) rfl ?_
     | refine Opl.val (op_bsG rfl (bs2 _ _)) rfl ?_
     | refine Opl.callU (U0 := U) (by assumption) (by assumption) rfl (by kernel_rfl) f0 rfl (fun S8 p8 k8 => ?_)
     | refine Opl.callP (U0 := U) (by assumption) (by assumption) rfl (by kernel_rfl) f5 trivial hlen rfl (fun v S2 p2 k2 => ?_)
     | refine Go.condT rfl ?_
     | refine Go.condF rfl ?_
     | exact At.fn rfl rfl rfl ⟨by assumption, ks.trans (by assumption)⟩
     | refine .std ?_ | refine .nil ?_ | refine .seq ?_ | refine .region ?_ | refine .xs ?_ | refine .kb ?_ | refine .leaf ?_ | refine .block ?_ | refine .gn ?_ | refine .dr ?_ | fail
  · have h2 := hf.two h
    obtain ⟨x, v, hx, hix, hv, hm⟩ := hL.at (i := 0) (by omega)
    obtain ⟨y, w, hy, hiy, hw, hm2⟩ := hL.at (i := 1) (by omega)
    have cx := typeAtF id hv 1 (IHN x _ (by have := Ty.part hm; omega) hv (hp0 x hm))
    have cy := typeAtF id hw 0 (IHN y _ (by have := Ty.part hm2; omega) hw (hp0 y hm2))
    have hlab := hf.lab h
    have cr := rowPF id hb hbl hB (fun z hz => (hlab z hz).2) (hf.tail h).1 (hf.tail h).2
    have hvl := TyC.len6 hv
    have hwl := TyC.len6 hw
    rw [funW_two hx hy] at hlen ⊢
    rw [h] at hU b0 hlen ⊢
    simp only [if_true, if_false, Int.reduceEq, List.length_append, List.length_cons, List.length_nil] at hlen ⊢
    repeat' first
     | refine Opl.val (op_box rfl) rfl (Opl.cast (S' := U) ?_ hU)
     | refine Opl.val (op_load rfl (ld_p b0 (by assumption) _ rfl)) rfl ?_
     | refine Opl.val (op_load rfl (ld_agg ((b0.pt (by assumption)).drop 4) rfl)) rfl ?_
     | refine Opl.val (op_ixaV (i := 0) hl rfl rfl hix) rfl ?_
     | refine Opl.val (op_ixaV (i := 1) hl rfl rfl hiy) rfl ?_
     | refine Opl.val (op_load rfl (ld_agg (Pt.cptr _ _ _) hvl)) rfl ?_
     | refine Opl.val (op_load rfl (ld_agg (Pt.cptr _ _ _) hwl)) rfl ?_
     | refine Opl.val (op_bsG rfl (bs1 _)) rfl ?_
     | refine Opl.callP (U0 := U) (by assumption) (by assumption) rfl (by kernel_rfl) cx trivial (by (try simp only [List.length_append, List.length_cons, List.length_nil]); omega) rfl (fun v S2 p2 k2 => ?_)
     | refine Opl.callP (U0 := U) (by assumption) (by assumption) rfl (by kernel_rfl) f6 trivial (by (try simp only [List.length_append, List.length_cons, List.length_nil]); omega) rfl (fun v S3 p3 k3 => ?_)
     | refine Opl.callP (U0 := U) (by assumption) (by assumption) rfl (by kernel_rfl) cr trivial (by (try simp only [List.length_append, List.length_cons, List.length_nil]); omega) rfl (fun v S4 p4 k4 => ?_)
     | refine Opl.callP (U0 := U) (by assumption) (by assumption) rfl (by kernel_rfl) cy trivial (by (try simp only [List.length_append, List.length_cons, List.length_nil]); omega) rfl (fun v S5 p5 k5 => ?_)
     | refine Go.condT rfl ?_
     | refine Go.condF rfl ?_
     | exact At.fn rfl rfl rfl ⟨Prn.eq (by assumption) (by simp only [List.append_assoc]), ks.trans (by assumption)⟩
     | refine .std ?_ | refine .nil ?_ | refine .seq ?_ | refine .region ?_ | refine .xs ?_ | refine .kb ?_ | refine .leaf ?_ | refine .block ?_ | refine .gn ?_ | refine .dr ?_ | fail
  · rw [h] at hU b0 hlen ⊢
    simp only [if_true, if_false, Int.reduceEq, List.length_append] at hlen ⊢
    repeat' first
     | refine Opl.val (op_box rfl) rfl (Opl.cast (S' := U) ?_ hU)
     | refine Opl.val (op_load rfl (ld_p b0 (by assumption) _ rfl)) rfl ?_
     | refine Opl.val (op_lenL rfl hl.isL rfl) rfl ?_
     | refine Opl.val (op_bsG rfl (bs1 _)) rfl ?_
     | refine Opl.callP (U0 := U) (by assumption) (by assumption) rfl (by kernel_rfl) f2 trivial (by omega) rfl (fun v S2 p2 k2 => ?_)
     | refine Go.condT rfl ?_
     | refine Go.condF rfl ?_
     | refine .std ?_ | refine .nil ?_ | refine .seq ?_ | refine .region ?_ | refine .xs ?_ | refine .kb ?_ | refine .leaf ?_ | refine .block ?_ | refine .gn ?_ | refine .dr ?_ | fail
    refine Go.weaken (E' := [(0, .ptr id 0), (67, lv), (68, .int .i64 (elems lv).length), (69, .int .i64 (0 : Nat))]) ?_ ⟨rfl, rfl, rfl, rfl, trivial⟩
    refine Go.loop_ind (α := Nat) (fun i => (elems lv).length - i) (fun i E S' => E = [(0, .ptr id 0), (67, lv), (68, .int .i64 (elems lv).length), (69, .int .i64 i)] ∧ i ≤ (elems lv).length ∧ Prz S' id (s ++ e.s ++ argsT (e.l.take i)) ∧ KeepB U S' id) ?_ 0 _ _ ⟨rfl, Nat.zero_le _, Prn.eq (by assumption) (by simp [argsT]), by assumption⟩
    rintro i E S3 ⟨rfl, hi, p3, k3⟩ IH
    repeat' first
     | refine Opl.fresh (op_int rfl rfl rfl rfl) rfl (fun q hq => ?_)
     | refine .std ?_ | refine .nil ?_ | refine .seq ?_ | refine .region ?_ | refine .xs ?_ | refine .kb ?_ | refine .leaf ?_ | refine .block ?_ | refine .gn ?_ | refine .dr ?_ | fail
    refine Go.cond rfl (fun hq => ?_) (fun hq => ?_)
    · subst hq
      have hq : i < (elems lv).length := by have := of_decide_eq_true (by assumption : decide ((i : Int) < ((elems lv).length : Nat)) = true); omega
      obtain ⟨x, v, hx, hix, hv, hm⟩ := hL.at hq
      obtain ⟨W, st1, b1, k4⟩ := lay (P := Tryz.prog) (T := 46) [.int .i64 0, .int .i64 0, .str [], .nils, .nils, .int .i64 0] S3 hv.len6 hv.ones
      have hvl := TyC.len6 hv
      have hne1 : S3.next ≠ id := by have := p3.lt; omega
      have b2 := Bp.of b1 hne1
      have kW : KeepB W W id := KeepB.refl W id
      have pW : Prz W id (s ++ e.s ++ argsT (e.l.take i)) := p3.same k4
      have kUW : KeepB U W id := k3.then k4
      have cx := typeAtF id hv 2 (IHN x _ (by have := Ty.part hm; omega) hv (hp0 x hm))
      have hstep := argsT_take hx
      have hle := argsT_le e.l (i + 1)
      rw [hstep] at hle
      simp only [List.length_append, List.length_cons, List.length_nil] at hle
      repeat' first
       | refine Opl.val (op_ixaV hl rfl rfl hix) rfl ?_
       | refine Opl.val (op_load rfl (ld_agg (Pt.cptr _ _ _) hvl)) rfl ?_
       | refine Opl.val op_alloc rfl ?_
       | refine Opl.eff (op_store rfl rfl st1) ?_
       | refine Opl.val (op_load rfl (ld_pA b2 (by assumption) hvl)) rfl ?_
       | refine Opl.val (op_bsG rfl (bs1 _)) rfl ?_
       | refine Opl.callP (U0 := W) (by assumption) (by assumption) rfl (by kernel_rfl) f7 trivial (by (try simp only [List.length_append, List.length_cons, List.length_nil]); omega) rfl (fun v S5 p5 k5 => ?_)
       | refine Opl.callP (U0 := W) (by assumption) (by assumption) rfl (by kernel_rfl) cx trivial (by (try simp only [List.length_append, List.length_cons, List.length_nil]); omega) rfl (fun v S6 p6 k6 => ?_)
       | refine Opl.val (op_int rfl rfl rfl (inc_ok (i := i) (by omega))) rfl ?_
       | refine .std ?_ | refine .nil ?_ | refine .seq ?_ | refine .region ?_ | refine .xs ?_ | refine .kb ?_ | refine .leaf ?_ | refine .block ?_ | refine .gn ?_ | refine .dr ?_ | fail
      exact (IH (i + 1) _ _ (by omega) ⟨rfl, by omega, Prn.eq (by assumption) (by rw [hstep]; simp only [List.append_assoc]), kUW.trans (by assumption)⟩).weaken ⟨rfl, rfl, rfl, rfl, trivial⟩
    · subst hq
      have hq : (elems lv).length ≤ i := by have := of_decide_eq_false (by assumption : decide ((i : Int) < ((elems lv).length : Nat)) = false); omega
      have hnil : e.l.take i = e.l := List.take_of_length_le (by omega)
      rw [hnil] at p3
      repeat' first | refine .std ?_ | refine .nil ?_ | refine .seq ?_ | refine .region ?_ | refine .xs ?_ | refine .kb ?_ | refine .leaf ?_ | refine .block ?_ | refine .gn ?_ | refine .dr ?_ | fail
      exact At.fn rfl rfl rfl ⟨Prn.eq p3 (by simp only [List.append_assoc]), ks.trans k3⟩

end Go.Proofs.YtodiioeddlmjhaaGreatDoor
