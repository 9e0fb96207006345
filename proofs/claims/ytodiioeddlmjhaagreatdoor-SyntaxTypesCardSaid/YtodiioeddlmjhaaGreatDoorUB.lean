/-
  ShowType, by the reference.
-/
import Derived.Test.YtodiioeddlmjhaaGreatDoorUA
import Derived.Test.YtodiioeddlmjhaaGreatDoorT16
import Derived.Test.YtodiioeddlmjhaaGreatDoorU8
set_option linter.unusedVariables false
set_option linter.unusedSimpArgs false
namespace Go.Proofs.YtodiioeddlmjhaaGreatDoor
open Go.RowKit Go.Ev
set_option maxRecDepth 100000
set_option linter.unusedVariables false
set_option linter.unusedSimpArgs false
attribute [local irreducible] Go.Ev.opE

set_option maxHeartbeats 8000000 in
theorem rowTextF {l : List (List UInt8 × Int)} {bv : V} {tl : Int} (h1 : isLn 2 bv) (h2 : (elems bv).length ≤ huge) (h3 : All2 LabV l (elems bv)) (hok : ∀ x ∈ l, isUpperB x.1 = true ∧ 0 ≤ x.2 ∧ x.2 ≤ 999999999) (ht0 : -1 ≤ tl) (ht1 : tl ≤ 999999999) (hlen : (rowW l tl).length ≤ 1099511627776) :
    Pu Tryz.prog 129 [.agg [bv, .int .i64 tl]] (.str (rowW l tl)) := by
  have h2 : (elems bv).length ≤ 9223372036854775807 := h2
  have e1 : l.length = (elems bv).length := h3.1
  intro S
  obtain ⟨U, hU, bx, s0⟩ := box1 S 44 [bv, .int .i64 tl]
  have k0 : Same U U := Same.refl U
  obtain ⟨q0, g0⟩ : ∃ q, decide (((elems bv).length : Int) = 0) = q := ⟨_, rfl⟩
  obtain ⟨qt, gt⟩ : ∃ q, decide (tl < 0) = q := ⟨_, rfl⟩
  have i0 : (l.length = 0 ∧ tl < 0) ↔ (q0 && qt) = true := by rw [← g0, ← gt, e1]; simp
  refine CallTo.of (n := 69) Tryz.func129 rfl rfl ?_
  by_cases hz : (q0 && qt) = true
  · have hspec : rowW l tl = [] := by unfold rowW; rw [if_pos (i0.2 hz)]
    simp only [Bool.and_eq_true] at hz
    obtain ⟨rfl, rfl⟩ := hz
    rw [hspec]
    repeat' first
     | refine Opl.val (op_box rfl) rfl (Opl.cast (S' := U) ?_ hU)
     | refine Opl.val (op_load rfl (ld_bx bx (by assumption) _ rfl)) rfl ?_
     | refine Opl.val (op_lenL rfl h1.isL rfl) rfl ?_
     | refine Opl.val (op_int rfl rfl rfl (eql_i g0)) rfl ?_
     | refine Opl.val (op_int rfl rfl rfl (lss_i gt)) rfl ?_
     | refine op_gyes rfl ?_ rfl
     | refine .gn ?_
     | (refine Opl.gonTN rfl rfl (fun hq => ?_) (fun hq => ?_) <;> subst hq)
     | (refine Opl.gonFN rfl rfl (fun hq => ?_) (fun hq => ?_) <;> subst hq)
     | (refine Opl.gonT rfl rfl (fun hq => ?_) (fun hq => ?_) <;> subst hq)
     | (refine Opl.gonF rfl rfl (fun hq => ?_) (fun hq => ?_) <;> subst hq)
     | refine Go.condT rfl ?_
     | refine Go.condF rfl ?_
     | (refine Go.condN rfl (fun hq => ?_) (fun hq => ?_) <;> subst hq)
     | (refine Go.condV rfl (fun hq => ?_) (fun hq => ?_) <;> subst hq)
     | exact At.fnr rfl rfl rfl ⟨rfl, s0.trans (by assumption)⟩
     | refine .std ?_ | refine .nil ?_ | refine .seq ?_ | refine .region ?_ | refine .xs ?_ | refine .kb ?_ | refine .leaf ?_ | refine .block ?_ | refine .gn ?_ | refine .dr ?_ | fail
  · have hspec : rowW l tl = [60] ++ joinW [44, 32] (l.map labW) ++ (if tl ≥ 0 then (if l.length > 0 then [32] else []) ++ ([124, 32, 114] ++ digI tl) else []) ++ [62, 32] := by
      unfold rowW; rw [if_neg (fun h => hz (i0.1 h))]
    rw [hspec] at hlen ⊢
    cases q0
    case true =>
      have hqt : qt = false := by simpa using hz
      subst hqt
      repeat' first
       | refine Opl.val (op_box rfl) rfl (Opl.cast (S' := U) ?_ hU)
       | exact (rowTail h1 h2 h3 hok ht0 ht1 rfl hlen bx s0 _ (by assumption)).weaken ⟨rfl, trivial⟩
       | refine Opl.val (op_load rfl (ld_bx bx (by assumption) _ rfl)) rfl ?_
       | refine Opl.val (op_lenL rfl h1.isL rfl) rfl ?_
       | refine Opl.val (op_int rfl rfl rfl (eql_i g0)) rfl ?_
       | refine Opl.val (op_int rfl rfl rfl (lss_i gt)) rfl ?_
       | refine op_gyes rfl ?_ rfl
       | refine .gn ?_
       | refine Go.condF rfl ?_
       | refine .std ?_ | refine .nil ?_ | refine .seq ?_ | refine .region ?_ | refine .xs ?_ | refine .kb ?_ | refine .leaf ?_ | refine .block ?_ | refine .gn ?_ | refine .dr ?_ | fail
    case false =>
      repeat' first
       | refine Opl.val (op_box rfl) rfl (Opl.cast (S' := U) ?_ hU)
       | exact (rowTail h1 h2 h3 hok ht0 ht1 rfl hlen bx s0 _ (by assumption)).weaken ⟨rfl, trivial⟩
       | refine Opl.val (op_load rfl (ld_bx bx (by assumption) _ rfl)) rfl ?_
       | refine Opl.val (op_lenL rfl h1.isL rfl) rfl ?_
       | refine Opl.val (op_int rfl rfl rfl (eql_i g0)) rfl ?_
       | refine Opl.val (op_int rfl rfl rfl (lss_i gt)) rfl ?_
       | refine op_gyes rfl ?_ rfl
       | refine .gn ?_
       | refine Go.condF rfl ?_
       | refine .std ?_ | refine .nil ?_ | refine .seq ?_ | refine .region ?_ | refine .xs ?_ | refine .kb ?_ | refine .leaf ?_ | refine .block ?_ | refine .gn ?_ | refine .dr ?_ | fail

set_option maxHeartbeats 4000000 in
theorem refTypeAt {e : Ty} {cs : List V} (he : TyC e cs) (place : Int) (hlen : (atT e place).length ≤ 1099511627776) (c1 : Pu Tryz.prog 69 [.agg cs] (.str (textT e))) : Pu Tryz.prog 128 [.agg cs, .int .i64 place] (.str (atT e place)) := by
  obtain ⟨lv, bv, rfl, hk, hn, hs, hl, hll, hb, hbl, hB, htl, hL⟩ := he.inv
  have e1 : e.l.length = (elems lv).length := hL.1
  intro S
  obtain ⟨U, hU, bx, s0⟩ := box1 S 46 [.int .i64 e.kind, .int .i64 e.n, .str e.s, lv, bv, .int .i64 e.tail]
  have k0 : Same U U := Same.refl U
  have h6 : [V.int .i64 e.kind, .int .i64 e.n, .str e.s, lv, bv, .int .i64 e.tail].length = 6 := rfl
  obtain ⟨q5, h5⟩ : ∃ q, decide (e.kind = 5) = q := ⟨_, rfl⟩
  obtain ⟨q6, h6'⟩ : ∃ q, decide (e.kind = 6) = q := ⟨_, rfl⟩
  obtain ⟨qn, h7⟩ : ∃ q, decide (((elems lv).length : Int) > 0) = q := ⟨_, rfl⟩
  obtain ⟨r0, h8⟩ : ∃ q, decide (place > 0) = q := ⟨_, rfl⟩
  obtain ⟨r1, h9⟩ : ∃ q, decide (place > 1) = q := ⟨_, rfl⟩
  have hspec : atT e place = atW ((q5 && r0) || (q6 && qn && r1)) (textT e) := by
    unfold atT parT
    rw [e1, h5, h6', h7, h8, h9]
  rw [hspec] at hlen ⊢
  refine CallTo.of (n := 33) Tryz.func128 rfl rfl ?_
  repeat' first
   | refine Opl.val (op_box rfl) rfl (Opl.cast (S' := U) ?_ hU)
   | refine Opl.val (op_load rfl (ld_bx bx (by assumption) _ rfl)) rfl ?_
   | refine Opl.val (op_load rfl (ld_bxA bx (by assumption) h6)) rfl ?_
   | refine Opl.val (op_lenL rfl hl.isL rfl) rfl ?_
   | refine Opl.val (op_int rfl rfl rfl (eql_i h5)) rfl ?_
   | refine Opl.val (op_int rfl rfl rfl (eql_i h6')) rfl ?_
   | refine Opl.val (op_int rfl rfl rfl (gtr_i h7)) rfl ?_
   | refine Opl.val (op_int rfl rfl rfl (gtr_i h8)) rfl ?_
   | refine Opl.val (op_int rfl rfl rfl (gtr_i h9)) rfl ?_
   | refine Opl.callS (U0 := U) (by assumption) rfl (by kernel_rfl) c1 rfl (fun S8 k8 => ?_)
   | refine Opl.val (op_str rfl rfl (str_add (by simp [atW] at hlen ⊢; omega))) rfl ?_
   | refine op_gyes rfl ?_ rfl
   | refine .gn ?_
   | (refine Opl.gonTN rfl rfl (fun hq => ?_) (fun hq => ?_) <;> subst hq)
   | (refine Opl.gonFN rfl rfl (fun hq => ?_) (fun hq => ?_) <;> subst hq)
   | (refine Opl.gonT rfl rfl (fun hq => ?_) (fun hq => ?_) <;> subst hq)
   | (refine Opl.gonF rfl rfl (fun hq => ?_) (fun hq => ?_) <;> subst hq)
   | refine Go.condT rfl ?_
   | refine Go.condF rfl ?_
   | (refine Go.condN rfl (fun hq => ?_) (fun hq => ?_) <;> subst hq)
   | (refine Go.condV rfl (fun hq => ?_) (fun hq => ?_) <;> subst hq)
   | exact At.fnr rfl rfl rfl ⟨congrArg V.str (by simp [atW]), s0.trans (by assumption)⟩
   | refine .std ?_ | refine .nil ?_ | refine .seq ?_ | refine .region ?_ | refine .xs ?_ | refine .kb ?_ | refine .leaf ?_ | refine .block ?_ | refine .gn ?_ | refine .dr ?_ | fail

set_option maxHeartbeats 8000000 in
theorem refTypeText : ∀ (N : Nat) (e : Ty) (cs : List V), e.nodes ≤ N → TyC e cs → tnodesE e = 0 → (textT e).length ≤ 1099511627776 → Pu Tryz.prog 69 [.agg cs] (.str (textT e)) := by
  intro N
  induction N with
  | zero => intro e cs hN; cases e; simp [Ty.nodes] at hN
  | succ N IHN =>
  intro e cs hN he h0 hlen
  obtain ⟨hf, hp0⟩ := tnodes_ok h0
  obtain ⟨lv, bv, rfl, hk, hn, hs, hl, hll, hb, hbl, hB, htl, hL⟩ := he.inv
  have e1 : e.l.length = (elems lv).length := hL.1
  have hll : (elems lv).length ≤ 9223372036854775807 := hll
  intro S
  rw [textT_eq] at hlen ⊢
  obtain ⟨U, hU, bx, s0⟩ := box1 S 46 [.int .i64 e.kind, .int .i64 e.n, .str e.s, lv, bv, .int .i64 e.tail]
  have k0 : Same U U := Same.refl U
  have hd := digI_len (n := e.n) (by have := hf.n0; omega) (by have := hf.n9; omega)
  have f0 := digitsF _ e.n (Nat.le_refl _) (by have := hf.n0; omega) (by have := hf.n9; omega)
  have hk7 : e.kind = 0 ∨ e.kind = 1 ∨ e.kind = 2 ∨ e.kind = 3 ∨ e.kind = 4 ∨ e.kind = 5 ∨ e.kind = 6 := by have := hf.k0; have := hf.k6; omega
  refine CallTo.of (n := 64) Tryz.func69 rfl rfl ?_
  rcases hk7 with h | h | h | h | h | h | h
  · rw [h] at hU bx hlen ⊢
    simp only [if_true, if_false, Int.reduceEq] at hlen ⊢
    repeat' first
     | refine Opl.val (op_box rfl) rfl (Opl.cast (S' := U) ?_ hU)
     | refine Opl.val (op_load rfl (ld_bx bx (by assumption) _ rfl)) rfl ?_
     | refine Opl.callS (U0 := U) (by assumption) rfl (by kernel_rfl) f0 rfl (fun S8 k8 => ?_)
     | refine Opl.val (op_str rfl rfl (str_add (by simp; omega))) rfl ?_
     | refine Go.condT rfl ?_
     | refine Go.condF rfl ?_
     | exact At.fnr rfl rfl rfl ⟨rfl, s0.trans (by assumption)⟩
     | refine .std ?_ | refine .nil ?_ | refine .seq ?_ | refine .region ?_ | refine .xs ?_ | refine .kb ?_ | refine .leaf ?_ | refine .block ?_ | refine .gn ?_ | refine .dr ?_ | fail
  · rw [h] at hU bx hlen ⊢
    simp only [if_true, if_false, Int.reduceEq] at hlen ⊢
    repeat' first
     | refine Opl.val (op_box rfl) rfl (Opl.cast (S' := U) ?_ hU)
     | refine Opl.val (op_load rfl (ld_bx bx (by assumption) _ rfl)) rfl ?_
     | refine Opl.callS (U0 := U) (by assumption) rfl (by kernel_rfl) f0 rfl (fun S8 k8 => ?_)
     | refine Opl.val (op_str rfl rfl (str_add (by simp; omega))) rfl ?_
     | refine Go.condT rfl ?_
     | refine Go.condF rfl ?_
     | exact At.fnr rfl rfl rfl ⟨rfl, s0.trans (by assumption)⟩
     | refine .std ?_ | refine .nil ?_ | refine .seq ?_ | refine .region ?_ | refine .xs ?_ | refine .kb ?_ | refine .leaf ?_ | refine .block ?_ | refine .gn ?_ | refine .dr ?_ | fail
  · rw [h] at hU bx hlen ⊢
    simp only [if_true, if_false, Int.reduceEq] at hlen ⊢
    repeat' first
     | refine Opl.val (op_box rfl) rfl (Opl.cast (S' := U) ?_ hU)
     | refine Opl.val (op_load rfl (ld_bx bx (by assumption) _ rfl)) rfl ?_
     | refine Opl.callS (U0 := U) (by assumption) rfl (by kernel_rfl) f0 rfl (fun S8 k8 => ?_)
     | refine Opl.val (op_str rfl rfl (str_add (by simp; omega))) rfl ?_
     | refine Go.condT rfl ?_
     | refine Go.condF rfl ?_
     | exact At.fnr rfl rfl rfl ⟨rfl, s0.trans (by assumption)⟩
     | refine .std ?_ | refine .nil ?_ | refine .seq ?_ | refine .region ?_ | refine .xs ?_ | refine .kb ?_ | refine .leaf ?_ | refine .block ?_ | refine .gn ?_ | refine .dr ?_ | fail
  · rw [h] at hU bx hlen ⊢
    simp only [if_true, if_false, Int.reduceEq] at hlen ⊢
    repeat' first
     | refine Opl.val (op_box rfl) rfl (Opl.cast (S' := U) ?_ hU)
     | refine Opl.val (op_load rfl (ld_bx bx (by assumption) _ rfl)) rfl ?_
     | refine Opl.callS (U0 := U) (by assumption) rfl (by kernel_rfl) f0 rfl (fun S8 k8 => ?_)
     | refine Opl.val (op_str rfl rfl (str_add (by simp; omega))) rfl ?_
     | refine Go.condT rfl ?_
     | refine Go.condF rfl ?_
     | exact At.fnr rfl rfl rfl ⟨rfl, s0.trans (by assumption)⟩
     | refine .std ?_ | refine .nil ?_ | refine .seq ?_ | refine .region ?_ | refine .xs ?_ | refine .kb ?_ | refine .leaf ?_ | refine .block ?_ | refine .gn ?_ | refine .dr ?_ | fail
  · rw [h] at hU bx hlen ⊢
    simp only [if_true, if_false, Int.reduceEq] at hlen ⊢
    repeat' first
     | refine Opl.val (op_box rfl) rfl (Opl.cast (S' := U) ?_ hU)
     | refine Opl.val (op_load rfl (ld_bx bx (by assumption) _ rfl)) rfl ?_
     | refine Opl.callS (U0 := U) (by assumption) rfl (by kernel_rfl) f0 rfl (fun S8 k8 => ?_)
     | refine Opl.val (op_str rfl rfl (str_add (by simp; omega))) rfl ?_
     | refine Go.condT rfl ?_
     | refine Go.condF rfl ?_
     | exact At.fnr rfl rfl rfl ⟨rfl, s0.trans (by assumption)⟩
     | refine .std ?_ | refine .nil ?_ | refine .seq ?_ | refine .region ?_ | refine .xs ?_ | refine .kb ?_ | refine .leaf ?_ | refine .block ?_ | refine .gn ?_ | refine .dr ?_ | fail
  · have h2 := hf.two h
    obtain ⟨x, v, hx, hix, hv, hm⟩ := hL.at (i := 0) (by omega)
    obtain ⟨y, w, hy, hiy, hw, hm2⟩ := hL.at (i := 1) (by omega)
    rw [funW_two hx hy] at hlen ⊢
    rw [h] at hU bx hlen ⊢
    simp only [if_true, if_false, Int.reduceEq, List.length_append, List.length_cons, List.length_nil] at hlen ⊢
    have hxl : (textT x).length ≤ (atT x 1).length := by unfold atT atW; split <;> simp <;> omega
    have hyl : (textT y).length ≤ (atT y 0).length := by unfold atT atW; split <;> simp <;> omega
    have cx := refTypeAt hv 1 (by omega) (IHN x _ (by have := Ty.part hm; omega) hv (hp0 x hm) (by omega))
    have cy := refTypeAt hw 0 (by omega) (IHN y _ (by have := Ty.part hm2; omega) hw (hp0 y hm2) (by omega))
    have cr := rowTextF hb hbl hB (hf.lab h) (hf.tail h).1 (hf.tail h).2 (by omega)
    have hvl := TyC.len6 hv
    have hwl := TyC.len6 hw
    repeat' first
     | refine Opl.val (op_box rfl) rfl (Opl.cast (S' := U) ?_ hU)
     | refine Opl.val (op_load rfl (ld_bx bx (by assumption) _ rfl)) rfl ?_
     | refine Go.condT rfl ?_
     | refine Go.condF rfl ?_
     | refine Go.draw [0, 1, 3, 7, 15, 31, 0, 64, 223, 511, 0, 1024, 3072, 7168, 15839, 32767, 65535] [0, 1, 2, 3, 4, 6, 7, 8, 10, 11, 12, 13, 14, 5, 9, 15, 16] (by kernel_rfl) (Same U) ?_
     | refine .std ?_ | refine .nil ?_ | refine .seq ?_ | refine .region ?_ | refine .xs ?_ | refine .kb ?_ | refine .leaf ?_ | refine .block ?_ | refine .gn ?_ | refine .dr ?_ | fail
    repeat' first
      | refine Drw.c0 rfl rfl (op_fld rfl rfl) rfl ?_
      | refine Drw.c0 rfl rfl (op_assign rfl) rfl ?_
      | refine Drw.c0 rfl rfl (op_str rfl rfl (str_add (by (try simp only [List.length_append, List.length_cons, List.length_nil]); omega))) rfl ?_
      | refine Drw.c0 rfl rfl (op_ixaV (i := 0) hl rfl rfl hix) rfl ?_
      | refine Drw.c0 rfl rfl (op_ixaV (i := 1) hl rfl rfl hiy) rfl ?_
      | refine Drw.c2g rfl rfl (by assumption) (by assumption) (fun U hU => op_ixaV (i := 0) hl rfl rfl hix) rfl ?_
      | refine Drw.c2g rfl rfl (by assumption) (by assumption) (fun U hU => op_ixaV (i := 1) hl rfl rfl hiy) rfl ?_
      | refine Drw.c2g rfl rfl (by assumption) (by assumption) (fun U hU => op_load rfl (ld_bx bx hU _ rfl)) rfl ?_
      | refine Drw.c2g rfl rfl (by assumption) (by assumption) (fun U hU => op_load rfl (ld_agg ((bx.pt hU).drop 4) rfl)) rfl ?_
      | refine Drw.c2g rfl rfl (by assumption) (by assumption) (fun U hU => op_load rfl (ld_agg (Pt.cptr _ _ _) hvl)) rfl ?_
      | refine Drw.c2g rfl rfl (by assumption) (by assumption) (fun U hU => op_load rfl (ld_agg (Pt.cptr _ _ _) hwl)) rfl ?_
      | refine Drw.callS (by assumption) rfl rfl (by kernel_rfl) cx rfl (fun S4 k4 => ?_)
      | refine Drw.callS (by assumption) rfl rfl (by kernel_rfl) cr rfl (fun S4 k4 => ?_)
      | refine Drw.callS (by assumption) rfl rfl (by kernel_rfl) cy rfl (fun S4 k4 => ?_)
      | refine Drw.nil ?_
    repeat' first | refine .std ?_ | refine .nil ?_ | refine .seq ?_ | refine .region ?_ | refine .xs ?_ | refine .kb ?_ | refine .leaf ?_ | refine .block ?_ | refine .gn ?_ | refine .dr ?_ | fail
    exact At.fnr rfl rfl rfl ⟨rfl, s0.trans (by assumption)⟩
  · rw [h] at hU bx hlen ⊢
    simp only [if_true, if_false, Int.reduceEq, List.length_append] at hlen ⊢
    repeat' first
     | refine Opl.val (op_box rfl) rfl (Opl.cast (S' := U) ?_ hU)
     | refine Opl.val (op_load rfl (ld_bx bx (by assumption) _ rfl)) rfl ?_
     | refine Go.condT rfl ?_
     | refine Go.condF rfl ?_
     | refine .std ?_ | refine .nil ?_ | refine .seq ?_ | refine .region ?_ | refine .xs ?_ | refine .kb ?_ | refine .leaf ?_ | refine .block ?_ | refine .gn ?_ | refine .dr ?_ | fail
    refine Go.weaken (E' := [(1, .ptr S.next 0), (3, .str e.s), (4, .int .i64 (0 : Nat))]) ?_ ⟨rfl, rfl, rfl, trivial⟩
    refine Go.loop_ind (α := Nat) (fun i => (elems lv).length - i) (fun i E S' => E = [(1, .ptr S.next 0), (3, .str (e.s ++ argsT (e.l.take i))), (4, .int .i64 i)] ∧ i ≤ (elems lv).length ∧ Same U S') ?_ 0 _ _ ⟨by simp [argsT], Nat.zero_le _, by assumption⟩
    rintro i E S3 ⟨rfl, hi, k3⟩ IH
    repeat' first
     | refine Opl.val (op_load rfl (ld_bx bx (by assumption) _ rfl)) rfl ?_
     | refine Opl.val (op_lenL rfl hl.isL rfl) rfl ?_
     | refine Opl.fresh (op_int rfl rfl rfl rfl) rfl (fun q hq => ?_)
     | refine .std ?_ | refine .nil ?_ | refine .seq ?_ | refine .region ?_ | refine .xs ?_ | refine .kb ?_ | refine .leaf ?_ | refine .block ?_ | refine .gn ?_ | refine .dr ?_ | fail
    refine Go.cond rfl (fun hq => ?_) (fun hq => ?_)
    · subst hq
      have hq : i < (elems lv).length := by have := of_decide_eq_true (by assumption : decide ((i : Int) < ((elems lv).length : Nat)) = true); omega
      obtain ⟨x, v, hx, hix, hv, hm⟩ := hL.at hq
      have hvl := TyC.len6 hv
      have hstep := argsT_take hx
      have hle := argsT_le e.l (i + 1)
      rw [hstep] at hle
      simp only [List.length_append, List.length_cons, List.length_nil] at hle
      have hxl : (textT x).length ≤ (atT x 2).length := by unfold atT atW; split <;> simp <;> omega
      have cx := refTypeAt hv 2 (by omega) (IHN x _ (by have := Ty.part hm; omega) hv (hp0 x hm) (by omega))
      repeat' first
       | refine Opl.val (op_load rfl (ld_bx bx (by assumption) _ rfl)) rfl ?_
       | refine Opl.val (op_ixaV hl rfl rfl hix) rfl ?_
       | refine Opl.val (op_load rfl (ld_agg (Pt.cptr _ _ _) hvl)) rfl ?_
       | refine Opl.callS (U0 := U) (by assumption) rfl (by kernel_rfl) cx rfl (fun S8 k8 => ?_)
       | refine Opl.val (op_str rfl rfl (str_add (by (try simp only [List.length_append, List.length_cons, List.length_nil]); omega))) rfl ?_
       | refine Opl.val (op_int rfl rfl rfl (inc_ok (i := i) (by omega))) rfl ?_
       | refine .std ?_ | refine .nil ?_ | refine .seq ?_ | refine .region ?_ | refine .xs ?_ | refine .kb ?_ | refine .leaf ?_ | refine .block ?_ | refine .gn ?_ | refine .dr ?_ | fail
      exact (IH (i + 1) [(1, .ptr S.next 0), (3, .str (((e.s ++ argsT (e.l.take i)) ++ [32]) ++ atT x 2)), (4, .int .i64 ((i + 1 : Nat) : Int))] _ (by omega) ⟨by rw [hstep]; simp only [List.append_assoc], by omega, by assumption⟩).weaken ⟨rfl, rfl, rfl, trivial⟩
    · subst hq
      have hq : (elems lv).length ≤ i := by have := of_decide_eq_false (by assumption : decide ((i : Int) < ((elems lv).length : Nat)) = false); omega
      have hnil : e.l.take i = e.l := List.take_of_length_le (by omega)
      repeat' first | refine .std ?_ | refine .nil ?_ | refine .seq ?_ | refine .region ?_ | refine .xs ?_ | refine .kb ?_ | refine .leaf ?_ | refine .block ?_ | refine .gn ?_ | refine .dr ?_ | fail
      exact At.fnr rfl rfl rfl ⟨by rw [hnil]; rfl, s0.trans k3⟩

set_option maxHeartbeats 4000000 in
theorem refShowType {t : Ty} {cs : List V} (ht : TyC t cs) : Pu Tryz.prog 32 [.agg cs] (showTyV t) := by
  intro S
  have c1 := refCheckType ht
  obtain ⟨U, hU, bx, s0⟩ := box1 S 46 cs
  have k0 : Same U U := Same.refl U
  refine CallTo.of (n := 12) Tryz.func32 rfl rfl ?_
  by_cases h0 : checkTyE t = 0
  · obtain ⟨hn, hl⟩ := check_ok h0
    have hv : showTyV t = .tup [.str (textT t), .int .i64 0] := if_pos h0
    rw [hv]
    have c2 := refTypeText _ t cs (Nat.le_refl _) ht hn (by omega)
    repeat' first
     | refine Opl.val (op_box rfl) rfl (Opl.cast (S' := U) ?_ hU)
     | refine Opl.val (op_load rfl (ld_bxA bx (by assumption) ht.len6)) rfl ?_
     | refine Opl.callS (U0 := U) (by assumption) rfl (by kernel_rfl) c1 rfl (fun S1 k1 => ?_)
     | refine Opl.callS (U0 := U) (by assumption) rfl (by kernel_rfl) c2 rfl (fun S2 k2 => ?_)
     | refine Opl.val (op_int rfl rfl rfl (neq_i (q := false) (by rw [h0]; rfl))) rfl ?_
     | refine Go.condF rfl ?_
     | exact At.fnr rfl rfl rfl ⟨rfl, s0.trans (by assumption)⟩
     | refine .std ?_ | refine .nil ?_ | refine .seq ?_ | refine .region ?_ | refine .xs ?_ | refine .kb ?_ | refine .leaf ?_ | refine .block ?_ | refine .gn ?_ | refine .dr ?_ | fail
  · have hv : showTyV t = .tup [.str [], .int .i64 (checkTyE t)] := if_neg h0
    rw [hv]
    repeat' first
     | refine Opl.val (op_box rfl) rfl (Opl.cast (S' := U) ?_ hU)
     | refine Opl.val (op_load rfl (ld_bxA bx (by assumption) ht.len6)) rfl ?_
     | refine Opl.callS (U0 := U) (by assumption) rfl (by kernel_rfl) c1 rfl (fun S1 k1 => ?_)
     | refine Opl.val (op_int rfl rfl rfl (neq_i (q := true) (by rw [decide_eq_false h0]; rfl))) rfl ?_
     | refine Go.condT rfl ?_
     | exact At.fnr rfl rfl rfl ⟨rfl, s0.trans (by assumption)⟩
     | refine .std ?_ | refine .nil ?_ | refine .seq ?_ | refine .region ?_ | refine .xs ?_ | refine .kb ?_ | refine .leaf ?_ | refine .block ?_ | refine .gn ?_ | refine .dr ?_ | fail

end Go.Proofs.YtodiioeddlmjhaaGreatDoor
