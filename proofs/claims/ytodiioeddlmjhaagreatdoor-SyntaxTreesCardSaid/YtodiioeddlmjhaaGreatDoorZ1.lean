import Derived.Test.YtodiioeddlmjhaaGreatDoorTab
import Derived.Test.YtodiioeddlmjhaaGreatDoorE12
set_option linter.unusedVariables false
set_option linter.unusedSimpArgs false
namespace Go.Proofs.YtodiioeddlmjhaaGreatDoor
open Go.RowKit Go.Ev
set_option maxRecDepth 100000
set_option linter.unusedVariables false
set_option linter.unusedSimpArgs false
attribute [local irreducible] Go.Ev.opE
theorem longS {l : List (List UInt8)} {nv : V} (h : StrsV l nv) : PuQ Tryz.prog 74 [nv] (fun v => ∃ q, v = .bool q) := by
 obtain ⟨h1, h2, h3⟩ := h
 have h2 : (elems nv).length ≤ 9223372036854775807 := h2
 intro S
 refine CallTo.of (n := 19) Tryz.func74 rfl rfl ?_
 repeat' first
  | refine Opl.val (op_lenL rfl h1.isL rfl) rfl ?_
  | refine Opl.fresh (op_int rfl rfl rfl rfl) rfl (fun q hq => ?_)
  | refine .std ?_ | refine .nil ?_ | refine .seq ?_ | refine .region ?_ | refine .xs ?_ | refine .kb ?_ | refine .leaf ?_ | refine .block ?_ | refine .gn ?_ | refine .dr ?_ | fail
 refine Go.cond rfl (fun hq => ?_) (fun hq => ?_)
 ·skip
  repeat' first | refine .std ?_ | refine .nil ?_ | refine .seq ?_ | refine .region ?_ | refine .xs ?_ | refine .kb ?_ | refine .leaf ?_ | refine .block ?_ | refine .gn ?_ | refine .dr ?_ | fail
  exact At.fnr rfl rfl rfl ⟨⟨_, rfl⟩, Same.refl _⟩
 ·skip
  repeat' first | refine .std ?_ | refine .nil ?_ | refine .seq ?_ | refine .region ?_ | refine .xs ?_ | refine .kb ?_ | refine .leaf ?_ | refine .block ?_ | refine .gn ?_ | refine .dr ?_ | fail
  refine Go.weaken (E' := [(0, nv), (3, .int .i64 (0 : Nat))]) ?_ ⟨rfl, rfl, trivial⟩
  refine Go.loop_ind (α := Nat) (fun i => (elems nv).length - i) (fun i E S' => E = [(0, nv), (3, .int .i64 i)] ∧ i ≤ (elems nv).length ∧ Same S S') ?_ 0 _ _ ⟨rfl, Nat.zero_le _, Same.refl _⟩
  rintro i E S1 ⟨rfl, hi, k1⟩ IH
  repeat' first
   | refine Opl.val (op_lenL rfl h1.isL rfl) rfl ?_
   | refine .std ?_ | refine .nil ?_ | refine .seq ?_ | refine .region ?_ | refine .xs ?_ | refine .kb ?_ | refine .leaf ?_ | refine .block ?_ | refine .gn ?_ | refine .dr ?_ | fail
  refine Go.cond rfl (fun hq => ?_) (fun hq => ?_)
  ·have hq : i < (elems nv).length := by have := of_decide_eq_true hq; omega
   obtain ⟨s, v, _, hix, ⟨hv, hs⟩, _⟩ := h3.at hq
   have hpt : Pt S1 (.cptr none v.cells 0) [.str s] := by rw [hv]; exact Pt.cptr _ _ _
   repeat' first
    | refine Opl.val (op_ixaV h1 rfl rfl hix) rfl ?_
    | refine Opl.fresh (op_int rfl rfl rfl rfl) rfl (fun q hq => ?_)
    | refine .std ?_ | refine .nil ?_ | refine .seq ?_ | refine .region ?_ | refine .xs ?_ | refine .kb ?_ | refine .leaf ?_ | refine .block ?_ | refine .gn ?_ | refine .dr ?_ | fail
   refine Go.cond rfl (fun hq => ?_) (fun hq => ?_)
   ·skip
    repeat' first | refine .std ?_ | refine .nil ?_ | refine .seq ?_ | refine .region ?_ | refine .xs ?_ | refine .kb ?_ | refine .leaf ?_ | refine .block ?_ | refine .gn ?_ | refine .dr ?_ | fail
    exact At.fnr rfl rfl rfl ⟨⟨_, rfl⟩, k1⟩
   ·skip
    repeat' first
     | refine Opl.val (op_int rfl rfl rfl (inc_ok (i := i) (by omega))) rfl ?_
     | refine .std ?_ | refine .nil ?_ | refine .seq ?_ | refine .region ?_ | refine .xs ?_ | refine .kb ?_ | refine .leaf ?_ | refine .block ?_ | refine .gn ?_ | refine .dr ?_ | fail
    exact (IH (i + 1) _ S1 (by omega) ⟨rfl, by omega, k1⟩).weaken ⟨rfl, rfl, trivial⟩
  ·skip
   repeat' first | refine .std ?_ | refine .nil ?_ | refine .seq ?_ | refine .region ?_ | refine .xs ?_ | refine .kb ?_ | refine .leaf ?_ | refine .block ?_ | refine .gn ?_ | refine .dr ?_ | fail
   exact At.fnr rfl rfl rfl ⟨⟨_, rfl⟩, k1⟩
set_option maxHeartbeats 8000000 in
theorem leftS : ∀ (N : Nat) (e : Ex) (cs : List V), e.nodes ≤ N → ExC e cs → ∀ a b : Int, PuQ Tryz.prog 49 [.agg cs, .int .i64 a, .int .i64 b] (fun v => ∃ r : Int, v = .int .i64 r ∧ (r ≥ 0 → SmallX e)) := by
 intro N
 induction N with
 | zero => intro e cs hN; cases e; simp [Ex.nodes] at hN
 | succ N IHN =>
  intro e cs hN he a b S
  obtain ⟨nv, lv, av, rfl, hk, hn, hs, ht, hnm, hl, hll, ha, hal, hL, hA⟩ := he.inv
  obtain ⟨U, hU, bx, s0⟩ := box1 S 27 [.int .i64 e.kind, .int .i64 e.n, .str e.s, .str e.t, nv, lv, av]
  have k0 : Same U U := Same.refl U
  have hll : (elems lv).length ≤ 9223372036854775807 := hll
  have hal : (elems av).length ≤ 9223372036854775807 := hal
  have e2 : e.l.length = (elems lv).length := hL.1
  have e3 : e.arms.length = (elems av).length := hA.1
  obtain ⟨w1, f1⟩ : ∃ q, decide (((elems lv).length : Int) > 50) = q := ⟨_, rfl⟩
  obtain ⟨w2, f2⟩ : ∃ q, decide (((elems av).length : Int) > 50) = q := ⟨_, rfl⟩
  refine CallTo.of (n := 101) Tryz.func49 rfl rfl ?_
  repeat' first
   | refine Opl.val (op_box rfl) rfl (Opl.cast (S' := U) ?_ hU)
   | refine Opl.val (op_load rfl (ld_bx bx (by assumption) _ rfl)) rfl ?_
   | refine Opl.val (op_lenL rfl hl.isL rfl) rfl ?_
   | refine Opl.val (op_lenL rfl ha.isL rfl) rfl ?_
   | refine Opl.val (op_int rfl rfl rfl (gtr_i f1)) rfl ?_
   | refine Opl.val (op_int rfl rfl rfl (gtr_i f2)) rfl ?_
   | refine Opl.fresh (op_int rfl rfl rfl rfl) rfl (fun q hq => ?_)
   | refine op_gyes rfl ?_ rfl
   | refine .gn ?_
   | (refine Opl.gonTN rfl rfl (fun hq => ?_) (fun hq => ?_) <;> subst hq)
   | (refine Opl.gonFN rfl rfl (fun hq => ?_) (fun hq => ?_) <;> subst hq)
   | (refine Opl.gonT rfl rfl (fun hq => ?_) (fun hq => ?_) <;> subst hq)
   | (refine Opl.gonF rfl rfl (fun hq => ?_) (fun hq => ?_) <;> subst hq)
   | refine Go.condT rfl ?_
   | refine Go.condF rfl ?_
   | (refine Go.condN rfl (fun hq => ?_) (fun hq => ?_) <;> subst hq)
   | (refine Go.condV rfl (fun hq => ?_) (fun hq => ?_) <;> subst hq)
   | (refine Opl.callQ (by assumption) rfl (by kernel_rfl) (longS hnm) rfl (fun v S1 hv k1 => ?_); obtain ⟨q, rfl⟩ := hv)
   | refine Go.condT rfl ?_
   | refine Go.condF rfl ?_
   | (refine Go.condV rfl (fun hq => ?_) (fun hq => ?_) <;> subst hq)
   | refine Go.joinN 0 (fun E S' => ∃ a1 : Int, Sub [(1, .int .i64 a1), (2, .int .i64 b), (3, .ptr S.next 0)] E ∧ Same U S' ∧ (elems lv).length ≤ 50 ∧ (elems av).length ≤ 50 ∧ (a1 ≥ 0 → ∀ x ∈ e.l, SmallX x)) ?_ ?_
   | exact At.fnr rfl rfl rfl ⟨⟨_, rfl, fun h => absurd h (by decide)⟩, s0.trans (by assumption)⟩
   | refine .std ?_ | refine .nil ?_ | refine .seq ?_ | refine .region ?_ | refine .xs ?_ | refine .kb ?_ | refine .leaf ?_ | refine .block ?_ | refine .gn ?_ | refine .dr ?_ | fail
  ·refine ⟨?_⟩
   rintro E S2 ⟨a1, hE, k2, n1, n2, hsl⟩
   refine Go.weaken ?_ hE
   repeat' first | refine .std ?_ | refine .nil ?_ | refine .seq ?_ | refine .region ?_ | refine .xs ?_ | refine .kb ?_ | refine .leaf ?_ | refine .block ?_ | refine .gn ?_ | refine .dr ?_ | fail
   refine Go.weaken (E' := [(1, .int .i64 a1), (2, .int .i64 b), (3, .ptr S.next 0), (8, .int .i64 (0 : Nat))]) ?_ ⟨rfl, rfl, rfl, rfl, trivial⟩
   refine Go.loop_ind (α := Nat) (fun i => (elems av).length - i) (fun i E S' => (∃ a1 : Int, E = [(1, .int .i64 a1), (2, .int .i64 b), (3, .ptr S.next 0), (8, .int .i64 i)] ∧ (a1 ≥ 0 → (∀ x ∈ e.l, SmallX x) ∧ ∀ x ∈ e.arms.take i, SmallX x.body)) ∧ i ≤ (elems av).length ∧ Same U S') ?_ 0 _ _ ⟨⟨_, rfl, fun h => ⟨hsl h, fun x hx => by simp at hx⟩⟩, Nat.zero_le _, k2⟩
   rintro i E S2 ⟨⟨a1, rfl, hsm⟩, hi, k2⟩ IH
   obtain ⟨p1, g1⟩ : ∃ q, decide ((i : Int) < ((elems av).length : Nat)) = q := ⟨_, rfl⟩
   obtain ⟨p2, g2⟩ : ∃ q, decide (a1 ≥ 0) = q := ⟨_, rfl⟩
   have hexit : (p1 && p2) = false → a1 ≥ 0 → SmallX e := by
    intro hp h0
    rw [← g1, ← g2, decide_eq_true h0, Bool.and_true] at hp
    have hp := of_decide_eq_false hp
    have hnil : e.arms.take i = e.arms := List.take_of_length_le (by omega)
    have := hsm h0
    rw [hnil] at this
    exact .of (by omega) (by omega) this.1 this.2
   cases p1
   case false =>
    repeat' first
     | refine Opl.val (op_load rfl (ld_bx bx (by assumption) _ rfl)) rfl ?_
     | refine Opl.val (op_lenL rfl ha.isL rfl) rfl ?_
     | refine Opl.val (op_int rfl rfl rfl (lss_i g1)) rfl ?_
     | refine .gn ?_
     | refine Go.condF rfl ?_
     | exact At.fnr rfl rfl rfl ⟨⟨_, rfl, hexit rfl⟩, s0.trans (by assumption)⟩
     | refine .std ?_ | refine .nil ?_ | refine .seq ?_ | refine .region ?_ | refine .xs ?_ | refine .kb ?_ | refine .leaf ?_ | refine .block ?_ | refine .gn ?_ | refine .dr ?_ | fail
   case true =>
   cases p2
   case false =>
    repeat' first
     | refine Opl.val (op_load rfl (ld_bx bx (by assumption) _ rfl)) rfl ?_
     | refine Opl.val (op_lenL rfl ha.isL rfl) rfl ?_
     | refine Opl.val (op_int rfl rfl rfl (lss_i g1)) rfl ?_
     | refine Opl.val (op_int rfl rfl rfl (geq_i g2)) rfl ?_
     | refine op_gyes rfl ?_ rfl
     | refine Go.condF rfl ?_
     | exact At.fnr rfl rfl rfl ⟨⟨_, rfl, hexit rfl⟩, s0.trans (by assumption)⟩
     | refine .std ?_ | refine .nil ?_ | refine .seq ?_ | refine .region ?_ | refine .xs ?_ | refine .kb ?_ | refine .leaf ?_ | refine .block ?_ | refine .gn ?_ | refine .dr ?_ | fail
   case true =>
   have h0 : a1 ≥ 0 := of_decide_eq_true g2
   have hsm := hsm h0
   have hq : i < (elems av).length := by have := of_decide_eq_true g1; omega
   obtain ⟨x, v, hxx, hix, ⟨nv2, cs2, hc, ho, hn2, hb⟩, hm⟩ := hA.at hq
   have hx := IHN x.body _ (by have := Ex.part_a hm; omega) hb
   have hpt : ∀ S, Pt S (.cptr none v.cells 0) (.str x.op :: nv2 :: cs2) := fun S => by rw [hc]; exact Pt.cptr _ _ _
   repeat' first
    | refine Opl.val (op_load rfl (ld_bx bx (by assumption) _ rfl)) rfl ?_
    | refine Opl.val (op_ixaV ha rfl rfl hix) rfl ?_
    | refine Opl.val (op_load rfl (ld_one ((hpt _).at _ rfl))) rfl ?_
    | refine Opl.val (op_load rfl (ld_agg ((hpt _).drop 2) (ExC.len7 hb))) rfl ?_
    | refine Opl.val (op_lenL rfl ha.isL rfl) rfl ?_
    | refine Opl.val (op_int rfl rfl rfl (lss_i g1)) rfl ?_
    | refine Opl.val (op_int rfl rfl rfl (geq_i g2)) rfl ?_
    | refine Opl.fresh (op_int rfl rfl rfl rfl) rfl (fun q hq => ?_)
    | refine op_gyes rfl ?_ rfl
    | refine .gn ?_
    | (refine Opl.gonTN rfl rfl (fun hq => ?_) (fun hq => ?_) <;> subst hq)
    | (refine Opl.gonFN rfl rfl (fun hq => ?_) (fun hq => ?_) <;> subst hq)
    | (refine Opl.gonT rfl rfl (fun hq => ?_) (fun hq => ?_) <;> subst hq)
    | (refine Opl.gonF rfl rfl (fun hq => ?_) (fun hq => ?_) <;> subst hq)
    | refine Go.condT rfl ?_
    | refine Go.condF rfl ?_
    | (refine Go.condN rfl (fun hq => ?_) (fun hq => ?_) <;> subst hq)
    | (refine Go.condV rfl (fun hq => ?_) (fun hq => ?_) <;> subst hq)
    | (refine Opl.callQ (by assumption) rfl (by kernel_rfl) (longS hn2) rfl (fun v S3 hv k3 => ?_); obtain ⟨r, rfl⟩ := hv)
    | (refine Opl.callQ (by assumption) rfl (by kernel_rfl) (hx _ _) rfl (fun v S3 hv k3 => ?_); obtain ⟨r, rfl, hr⟩ := hv)
    | refine Opl.val (op_int rfl rfl rfl (inc_ok (i := i) (by omega))) rfl ?_
    | exact At.fnr rfl rfl rfl ⟨⟨_, rfl, fun h => absurd h (by decide)⟩, s0.trans (by assumption)⟩
    | exact (IH (i + 1) _ _ (by omega) ⟨⟨_, rfl, fun h => ⟨hsm.1, fun y hy => by rcases mem_take_succ hxx hy with hy | rfl; exact hsm.2 y hy; exact hr h⟩⟩, by omega, by assumption⟩).weaken ⟨rfl, rfl, rfl, rfl, trivial⟩
    | refine .std ?_ | refine .nil ?_ | refine .seq ?_ | refine .region ?_ | refine .xs ?_ | refine .kb ?_ | refine .leaf ?_ | refine .block ?_ | refine .gn ?_ | refine .dr ?_ | fail
  ·refine ⟨fun hj => ?_⟩
   have n1 : (elems lv).length ≤ 50 := by have := of_decide_eq_false f1; omega
   have n2 : (elems av).length ≤ 50 := by have := of_decide_eq_false f2; omega
   repeat' first | refine .std ?_ | refine .nil ?_ | refine .seq ?_ | refine .region ?_ | refine .xs ?_ | refine .kb ?_ | refine .leaf ?_ | refine .block ?_ | refine .gn ?_ | refine .dr ?_ | fail
   refine Go.weaken (E' := [(1, .int .i64 (IntKind.wrap .i64 (a - 1))), (2, .int .i64 b), (3, .ptr S.next 0), (7, .int .i64 (0 : Nat))]) ?_ ⟨rfl, rfl, rfl, rfl, trivial⟩
   refine Go.loop_ind (α := Nat) (fun i => (elems lv).length - i) (fun i E S' => (∃ a1 : Int, E = [(1, .int .i64 a1), (2, .int .i64 b), (3, .ptr S.next 0), (7, .int .i64 i)] ∧ (a1 ≥ 0 → ∀ x ∈ e.l.take i, SmallX x)) ∧ i ≤ (elems lv).length ∧ Same U S') ?_ 0 _ _ ⟨⟨_, rfl, fun _ x hx => by simp at hx⟩, Nat.zero_le _, by assumption⟩
   rintro i E S2 ⟨⟨a1, rfl, hsm⟩, hi, k2⟩ IH
   obtain ⟨p1, g1⟩ : ∃ q, decide ((i : Int) < ((elems lv).length : Nat)) = q := ⟨_, rfl⟩
   obtain ⟨p2, g2⟩ : ∃ q, decide (a1 ≥ 0) = q := ⟨_, rfl⟩
   have hexit : (p1 && p2) = false → a1 ≥ 0 → ∀ x ∈ e.l, SmallX x := by
    intro hp h0
    rw [← g1, ← g2, decide_eq_true h0, Bool.and_true] at hp
    have hp := of_decide_eq_false hp
    have hnil : e.l.take i = e.l := List.take_of_length_le (by omega)
    have := hsm h0
    rw [hnil] at this
    exact this
   cases p1
   case false =>
    repeat' first
     | exact hj _ _ ⟨_, ⟨rfl, rfl, rfl, trivial⟩, by assumption, n1, n2, hexit rfl⟩
     | refine Opl.val (op_load rfl (ld_bx bx (by assumption) _ rfl)) rfl ?_
     | refine Opl.val (op_lenL rfl hl.isL rfl) rfl ?_
     | refine Opl.val (op_int rfl rfl rfl (lss_i g1)) rfl ?_
     | refine .gn ?_
     | refine Go.condF rfl ?_
     | refine .std ?_ | refine .nil ?_ | refine .seq ?_ | refine .region ?_ | refine .xs ?_ | refine .kb ?_ | refine .leaf ?_ | refine .block ?_ | refine .gn ?_ | refine .dr ?_ | fail
   case true =>
   cases p2
   case false =>
    repeat' first
     | exact hj _ _ ⟨_, ⟨rfl, rfl, rfl, trivial⟩, by assumption, n1, n2, hexit rfl⟩
     | refine Opl.val (op_load rfl (ld_bx bx (by assumption) _ rfl)) rfl ?_
     | refine Opl.val (op_lenL rfl hl.isL rfl) rfl ?_
     | refine Opl.val (op_int rfl rfl rfl (lss_i g1)) rfl ?_
     | refine Opl.val (op_int rfl rfl rfl (geq_i g2)) rfl ?_
     | refine op_gyes rfl ?_ rfl
     | refine Go.condF rfl ?_
     | refine .std ?_ | refine .nil ?_ | refine .seq ?_ | refine .region ?_ | refine .xs ?_ | refine .kb ?_ | refine .leaf ?_ | refine .block ?_ | refine .gn ?_ | refine .dr ?_ | fail
   case true =>
   have h0 : a1 ≥ 0 := of_decide_eq_true g2
   have hsm := hsm h0
   have hq : i < (elems lv).length := by have := of_decide_eq_true g1; omega
   obtain ⟨x, v, hxx, hix, hv, hm⟩ := hL.at hq
   have hx := IHN x _ (by have := Ex.part_l hm; omega) hv
   repeat' first
    | refine Opl.val (op_load rfl (ld_bx bx (by assumption) _ rfl)) rfl ?_
    | refine Opl.val (op_lenL rfl hl.isL rfl) rfl ?_
    | refine Opl.val (op_int rfl rfl rfl (lss_i g1)) rfl ?_
    | refine Opl.val (op_int rfl rfl rfl (geq_i g2)) rfl ?_
    | refine Opl.val (op_ixaV hl rfl rfl hix) rfl ?_
    | refine Opl.val (op_load rfl (ld_agg (Pt.cptr _ _ _) (ExC.len7 hv))) rfl ?_
    | refine op_gyes rfl ?_ rfl
    | refine Go.condT rfl ?_
    | (refine Opl.callQ (by assumption) rfl (by kernel_rfl) (hx _ _) rfl (fun v S3 hv k3 => ?_); obtain ⟨r, rfl, hr⟩ := hv)
    | refine Opl.val (op_int rfl rfl rfl (inc_ok (i := i) (by omega))) rfl ?_
    | exact (IH (i + 1) _ _ (by omega) ⟨⟨_, rfl, fun h y hy => by rcases mem_take_succ hxx hy with hy | rfl; exact hsm y hy; exact hr h⟩, by omega, by assumption⟩).weaken ⟨rfl, rfl, rfl, rfl, trivial⟩
    | refine .std ?_ | refine .nil ?_ | refine .seq ?_ | refine .region ?_ | refine .xs ?_ | refine .kb ?_ | refine .leaf ?_ | refine .block ?_ | refine .gn ?_ | refine .dr ?_ | fail
theorem greatS {e : Ex} {cs : List V} (he : ExC e cs) : PuQ Tryz.prog 13 [.agg cs] (fun v => ∃ q, v = .bool q ∧ (q = false → SmallX e)) := by
 have hc := leftS _ e cs (Nat.le_refl _) he
 intro S
 obtain ⟨U, hU, bx, s0⟩ := box1 S 27 cs
 have k0 : Same U U := Same.refl U
 refine CallTo.of (n := 6) Tryz.func13 rfl rfl ?_
 repeat' first
  | refine Opl.val (op_box rfl) rfl (Opl.cast (S' := U) ?_ hU)
  | refine Opl.val (op_load rfl (ld_bxA bx (by assumption) he.len7)) rfl ?_
  | (refine Opl.callQ k0 rfl (by kernel_rfl) (hc _ _) rfl (fun v S3 hv k3 => ?_); obtain ⟨r, rfl, hr⟩ := hv)
  | refine Opl.fresh (op_int rfl rfl rfl rfl) rfl (fun q hq => ?_)
  | exact At.fnr rfl rfl rfl ⟨⟨_, rfl, fun h => hr (by have := of_decide_eq_false (hq.trans h); omega)⟩, s0.trans (by assumption)⟩
  | refine .std ?_ | refine .nil ?_ | refine .seq ?_ | refine .region ?_ | refine .xs ?_ | refine .kb ?_ | refine .leaf ?_ | refine .block ?_ | refine .gn ?_ | refine .dr ?_ | fail
end Go.Proofs.YtodiioeddlmjhaaGreatDoor
