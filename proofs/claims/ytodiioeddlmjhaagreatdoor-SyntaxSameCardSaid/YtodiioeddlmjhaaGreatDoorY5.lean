/-
  Expressions that are the same, as the reference says.
-/
import Derived.Test.YtodiioeddlmjhaaGreatDoorY3
set_option linter.unusedVariables false
set_option linter.unusedSimpArgs false
namespace Go.Proofs.YtodiioeddlmjhaaGreatDoor
open Go.RowKit Go.Ev
set_option maxRecDepth 100000
set_option linter.unusedVariables false

set_option maxHeartbeats 8000000 in
theorem refSame : ∀ (N : Nat) (e : Ex) (cs : List V) (f : Ex) (ds : List V), e.nodes ≤ N → ExC e cs → ExC f ds → Pu Tryz.prog 24 [.agg cs, .agg ds] (.bool (e.same f)) := by
  intro N
  induction N with
  | zero => intro e cs f ds hN; cases e; simp [Ex.nodes] at hN
  | succ N IHN =>
    intro e cs f ds hN he hf S
    obtain ⟨nv, lv, av, rfl, hk, hn, hs, ht, hnm, hl, hll, ha, hal, hL, hA⟩ := he.inv
    obtain ⟨nw, lw, aw, rfl, gk, gn, gs, gt, gnm, gl, gll, ga, gal, gL, gA⟩ := hf.inv
    have hll : (elems lv).length ≤ 9223372036854775807 := hll
    have hal : (elems av).length ≤ 9223372036854775807 := hal
    have c5 := strs59 hnm gnm
    obtain ⟨U1, U2, hU1, hU2, b1, b2, s0⟩ := box2 S 27 27 [.int .i64 e.kind, .int .i64 e.n, .str e.s, .str e.t, nv, lv, av] [.int .i64 f.kind, .int .i64 f.n, .str f.s, .str f.t, nw, lw, aw]
    have k0 : Same U2 U2 := Same.refl U2
    obtain ⟨q1, h1⟩ : ∃ q, decide (e.kind = f.kind) = !q := ⟨_, (Bool.not_not _).symm⟩
    obtain ⟨q2, h2⟩ : ∃ q, decide (e.n = f.n) = !q := ⟨_, (Bool.not_not _).symm⟩
    obtain ⟨q3, h3⟩ : ∃ q, decide (e.s = f.s) = !q := ⟨_, (Bool.not_not _).symm⟩
    obtain ⟨q4, h4⟩ : ∃ q, decide (e.t = f.t) = !q := ⟨_, (Bool.not_not _).symm⟩
    obtain ⟨q5, h5⟩ : ∃ q, decide (e.names = f.names) = !q := ⟨_, (Bool.not_not _).symm⟩
    obtain ⟨q6, h6⟩ : ∃ q, decide (((elems lv).length : Int) = ((elems lw).length : Int)) = !q := ⟨_, (Bool.not_not _).symm⟩
    obtain ⟨q7, h7⟩ : ∃ q, decide (((elems av).length : Int) = ((elems aw).length : Int)) = !q := ⟨_, (Bool.not_not _).symm⟩
    have n6 : q6 = true → sameL Ex.same e.l f.l = false := fun h => sameL_len (by rw [hL.1, gL.1]; intro e; rw [e, h] at h6; simp at h6)
    have n7 : q7 = true → sameL Ar.same e.arms f.arms = false := fun h => sameL_len (by rw [hA.1, gA.1]; intro e; rw [e, h] at h7; simp at h7)
    rw [h5] at c5
    refine CallTo.of (n := 130) Tryz.func24 rfl rfl ?_
    repeat' first
     | refine Opl.val (op_box rfl) rfl (Opl.cast (S' := U1) ?_ hU1)
     | refine Opl.val (op_box rfl) rfl (Opl.cast (S' := U2) ?_ hU2)
     | refine Opl.val (op_load rfl (ld_bx b1 (by assumption) _ rfl)) rfl ?_
     | refine Opl.val (op_load rfl (ld_bx b2 (by assumption) _ rfl)) rfl ?_
     | refine Opl.val (op_int rfl rfl rfl (neq_i (q := q1) (by rw [h1, Bool.not_not]))) rfl ?_
     | refine Opl.val (op_int rfl rfl rfl (neq_i (q := q2) (by rw [h2, Bool.not_not]))) rfl ?_
     | refine Opl.val (op_str rfl rfl (neq_s (q := q3) (by rw [h3, Bool.not_not]))) rfl ?_
     | refine Opl.val (op_str rfl rfl (neq_s (q := q4) (by rw [h4, Bool.not_not]))) rfl ?_
     | refine Opl.val (op_int rfl rfl rfl (neq_i (q := q6) (by rw [h6, Bool.not_not]))) rfl ?_
     | refine Opl.val (op_int rfl rfl rfl (neq_i (q := q7) (by rw [h7, Bool.not_not]))) rfl ?_
     | refine Opl.val (op_un (w := .bool q5) rfl (by simp only [unE, Bool.not_not])) rfl ?_
     | refine Opl.val (op_lenL rfl hl.isL rfl) rfl ?_
     | refine Opl.val (op_lenL rfl gl.isL rfl) rfl ?_
     | refine Opl.val (op_lenL rfl ha.isL rfl) rfl ?_
     | refine Opl.val (op_lenL rfl ga.isL rfl) rfl ?_
     | refine op_gyes rfl ?_ rfl
     | refine .gn ?_
     | (refine Opl.gonT rfl rfl (fun hq => ?_) (fun hq => ?_) <;> subst hq)
     | (refine Opl.gonF rfl rfl (fun hq => ?_) (fun hq => ?_) <;> subst hq)
     | refine Go.condT rfl ?_
     | refine Go.condF rfl ?_
     | (refine Go.condV rfl (fun hq => ?_) (fun hq => ?_) <;> subst hq)
     | refine Opl.callS (by assumption) rfl (by kernel_rfl) c5 rfl (fun S4 k4 => ?_)
     | refine Go.joinN 0 (fun E S' => Sub [(2, .ptr S.next 0), (3, .ptr U1.next 0)] E ∧ Same U2 S' ∧ sameL Ex.same e.l f.l = true) ?_ ?_
     | exact At.fnr rfl rfl rfl ⟨pack_b (by rw [Ex.same_eq]; simp only [h1, h2, h3, h4, h5, n6, n7, Bool.not_true, Bool.not_false, Bool.and_true, Bool.true_and, Bool.false_and, Bool.and_false]), s0.trans (by assumption)⟩
     | refine .std ?_ | refine .nil ?_ | refine .seq ?_ | refine .region ?_ | refine .xs ?_ | refine .kb ?_ | refine .leaf ?_ | refine .block ?_ | refine .gn ?_ | refine .dr ?_ | fail
    · refine ⟨?_⟩
      rintro E S2 ⟨hE, k2, hl1⟩
      refine Go.weaken ?_ hE
      have hle : e.arms.length = f.arms.length := by rw [hA.1, gA.1]; have := of_decide_eq_true h7; omega
      repeat' first | refine .std ?_ | refine .nil ?_ | refine .seq ?_ | refine .region ?_ | refine .xs ?_ | refine .kb ?_ | refine .leaf ?_ | refine .block ?_ | refine .gn ?_ | refine .dr ?_ | fail
      refine Go.weaken (E' := [(2, .ptr S.next 0), (3, .ptr U1.next 0), (6, .int .i64 (0 : Nat))]) ?_ ⟨rfl, rfl, rfl, trivial⟩
      refine Go.loop_ind (α := Nat) (fun i => (elems av).length - i) (fun i E S' => E = [(2, .ptr S.next 0), (3, .ptr U1.next 0), (6, .int .i64 i)] ∧ i ≤ (elems av).length ∧ Same U2 S' ∧ sameL Ar.same e.arms f.arms = sameL Ar.same (e.arms.drop i) (f.arms.drop i)) ?_ 0 _ _ ⟨rfl, Nat.zero_le _, k2, rfl⟩
      rintro i E S3 ⟨rfl, hi, k3, hs1⟩ IH
      repeat' first
       | refine Opl.val (op_load rfl (ld_bx b1 (by assumption) _ rfl)) rfl ?_
       | refine Opl.val (op_lenL rfl ha.isL rfl) rfl ?_
       | refine .std ?_ | refine .nil ?_ | refine .seq ?_ | refine .region ?_ | refine .xs ?_ | refine .kb ?_ | refine .leaf ?_ | refine .block ?_ | refine .gn ?_ | refine .dr ?_ | fail
      refine Go.cond rfl (fun hq => ?_) (fun hq => ?_)
      · have hq : i < (elems av).length := by have := of_decide_eq_true hq; omega
        obtain ⟨a, v, hs, hix, ⟨nv2, cs2, hc, _, hn2, hb⟩, hmem⟩ := hA.at hq
        obtain ⟨b, w, ht, gix, ⟨nw2, ds2, hd, _, gn2, gb⟩, _⟩ := gA.at (i := i) (by rw [← gA.1, ← hle, hA.1]; exact hq)
        have hpt : ∀ S, Pt S (.cptr none v.cells 0) (.str a.op :: nv2 :: cs2) := fun S => by rw [hc]; exact Pt.cptr _ _ _
        have gpt : ∀ S, Pt S (.cptr none w.cells 0) (.str b.op :: nw2 :: ds2) := fun S => by rw [hd]; exact Pt.cptr _ _ _
        rw [sameL_drop hs ht] at hs1
        simp only [Ar.same] at hs1
        have d2 := strs59 hn2 gn2
        have d3 := IHN a.body _ b.body _ (by have := Ex.part_a hmem; omega) hb gb
        obtain ⟨r1, p1⟩ : ∃ q, decide (a.op = b.op) = !q := ⟨_, (Bool.not_not _).symm⟩
        obtain ⟨r2, p2⟩ : ∃ q, decide (a.names = b.names) = !q := ⟨_, (Bool.not_not _).symm⟩
        obtain ⟨r3, p3⟩ : ∃ q, a.body.same b.body = !q := ⟨_, (Bool.not_not _).symm⟩
        rw [p2] at d2
        rw [p3] at d3
        repeat' first
         | refine Opl.val (op_load rfl (ld_bx b1 (by assumption) _ rfl)) rfl ?_
         | refine Opl.val (op_load rfl (ld_bx b2 (by assumption) _ rfl)) rfl ?_
         | refine Opl.val (op_ixaV ha rfl rfl hix) rfl ?_
         | refine Opl.val (op_ixaV ga rfl rfl gix) rfl ?_
         | refine Opl.val (op_load rfl (ld_one ((hpt _).at _ rfl))) rfl ?_
         | refine Opl.val (op_load rfl (ld_one ((gpt _).at _ rfl))) rfl ?_
         | refine Opl.val (op_load rfl (ld_agg ((hpt _).drop 2) hb.len7)) rfl ?_
         | refine Opl.val (op_load rfl (ld_agg ((gpt _).drop 2) gb.len7)) rfl ?_
         | refine Opl.val (op_str rfl rfl (neq_s (q := r1) (by rw [p1, Bool.not_not]))) rfl ?_
         | refine Opl.val (op_un (w := .bool r2) rfl (by simp only [unE, Bool.not_not])) rfl ?_
         | refine Opl.val (op_un (w := .bool r3) rfl (by simp only [unE, Bool.not_not])) rfl ?_
         | refine op_gyes rfl ?_ rfl
         | refine .gn ?_
         | (refine Opl.gonT rfl rfl (fun hq => ?_) (fun hq => ?_) <;> subst hq)
         | (refine Opl.gonF rfl rfl (fun hq => ?_) (fun hq => ?_) <;> subst hq)
         | refine Go.condT rfl ?_
         | refine Go.condF rfl ?_
         | (refine Go.condV rfl (fun hq => ?_) (fun hq => ?_) <;> subst hq)
         | refine Opl.callS (by assumption) rfl (by kernel_rfl) d2 rfl (fun S4 k4 => ?_)
         | refine Opl.callS (by assumption) rfl (by kernel_rfl) d3 rfl (fun S4 k4 => ?_)
         | refine Opl.val (op_int rfl rfl rfl (inc_ok (i := i) (by omega))) rfl ?_
         | exact At.fnr rfl rfl rfl ⟨pack_b (by rw [Ex.same_eq, hs1]; simp only [p1, p2, p3, Bool.not_true, Bool.not_false, Bool.and_true, Bool.true_and, Bool.false_and, Bool.and_false]), s0.trans (by assumption)⟩
         | exact (IH (i + 1) _ _ (by omega) ⟨rfl, by omega, by assumption, by rw [hs1]; simp only [p1, p2, p3, Bool.not_true, Bool.not_false, Bool.and_true, Bool.true_and, Bool.false_and, Bool.and_false]⟩).weaken ⟨rfl, rfl, rfl, trivial⟩
         | refine .std ?_ | refine .nil ?_ | refine .seq ?_ | refine .region ?_ | refine .xs ?_ | refine .kb ?_ | refine .leaf ?_ | refine .block ?_ | refine .gn ?_ | refine .dr ?_ | fail
      · have hq : i = e.arms.length := by have := of_decide_eq_false hq; rw [hA.1]; omega
        subst hq
        rw [sameL_end hle] at hs1
        repeat' first | refine .std ?_ | refine .nil ?_ | refine .seq ?_ | refine .region ?_ | refine .xs ?_ | refine .kb ?_ | refine .leaf ?_ | refine .block ?_ | refine .gn ?_ | refine .dr ?_ | fail
        exact At.fnr rfl rfl rfl ⟨pack_b (by rw [Ex.same_eq, hs1, hl1]; simp only [h1, h2, h3, h4, h5, Bool.not_true, Bool.not_false, Bool.and_true, Bool.true_and, Bool.false_and, Bool.and_false]), s0.trans (by assumption)⟩
    · refine ⟨fun hj => ?_⟩
      have hle : e.l.length = f.l.length := by rw [hL.1, gL.1]; have := of_decide_eq_true h6; omega
      repeat' first | refine .std ?_ | refine .nil ?_ | refine .seq ?_ | refine .region ?_ | refine .xs ?_ | refine .kb ?_ | refine .leaf ?_ | refine .block ?_ | refine .gn ?_ | refine .dr ?_ | fail
      refine Go.weaken (E' := [(2, .ptr S.next 0), (3, .ptr U1.next 0), (5, .int .i64 (0 : Nat))]) ?_ ⟨rfl, rfl, rfl, trivial⟩
      refine Go.loop_ind (α := Nat) (fun i => (elems lv).length - i) (fun i E S' => E = [(2, .ptr S.next 0), (3, .ptr U1.next 0), (5, .int .i64 i)] ∧ i ≤ (elems lv).length ∧ Same U2 S' ∧ sameL Ex.same e.l f.l = sameL Ex.same (e.l.drop i) (f.l.drop i)) ?_ 0 _ _ ⟨rfl, Nat.zero_le _, by assumption, rfl⟩
      rintro i E S3 ⟨rfl, hi, k3, hs1⟩ IH
      repeat' first
       | refine Opl.val (op_load rfl (ld_bx b1 (by assumption) _ rfl)) rfl ?_
       | refine Opl.val (op_lenL rfl hl.isL rfl) rfl ?_
       | refine .std ?_ | refine .nil ?_ | refine .seq ?_ | refine .region ?_ | refine .xs ?_ | refine .kb ?_ | refine .leaf ?_ | refine .block ?_ | refine .gn ?_ | refine .dr ?_ | fail
      refine Go.cond rfl (fun hq => ?_) (fun hq => ?_)
      · have hq : i < (elems lv).length := by have := of_decide_eq_true hq; omega
        obtain ⟨a, v, hs, hix, hv, hmem⟩ := hL.at hq
        obtain ⟨b, w, ht, gix, hw, _⟩ := gL.at (i := i) (by rw [← gL.1, ← hle, hL.1]; exact hq)
        rw [sameL_drop hs ht] at hs1
        have d3 := IHN a _ b _ (by have := Ex.part_l hmem; omega) hv hw
        obtain ⟨r3, p3⟩ : ∃ q, a.same b = !q := ⟨_, (Bool.not_not _).symm⟩
        rw [p3] at d3 hs1
        repeat' first
         | refine Opl.val (op_load rfl (ld_bx b1 (by assumption) _ rfl)) rfl ?_
         | refine Opl.val (op_load rfl (ld_bx b2 (by assumption) _ rfl)) rfl ?_
         | refine Opl.val (op_ixaV hl rfl rfl hix) rfl ?_
         | refine Opl.val (op_ixaV gl rfl rfl gix) rfl ?_
         | refine Opl.val (op_load rfl (ld_agg (Pt.cptr _ _ _) hv.len7)) rfl ?_
         | refine Opl.val (op_load rfl (ld_agg (Pt.cptr _ _ _) hw.len7)) rfl ?_
         | refine Opl.val (op_un (w := .bool r3) rfl (by simp only [unE, Bool.not_not])) rfl ?_
         | refine op_gyes rfl ?_ rfl
         | refine .gn ?_
         | (refine Opl.gonT rfl rfl (fun hq => ?_) (fun hq => ?_) <;> subst hq)
         | (refine Opl.gonF rfl rfl (fun hq => ?_) (fun hq => ?_) <;> subst hq)
         | refine Go.condT rfl ?_
         | refine Go.condF rfl ?_
         | (refine Go.condV rfl (fun hq => ?_) (fun hq => ?_) <;> subst hq)
         | refine Opl.callS (by assumption) rfl (by kernel_rfl) d3 rfl (fun S4 k4 => ?_)
         | refine Opl.val (op_int rfl rfl rfl (inc_ok (i := i) (by omega))) rfl ?_
         | exact At.fnr rfl rfl rfl ⟨pack_b (by rw [Ex.same_eq, hs1]; simp only [Bool.not_true, Bool.not_false, Bool.and_true, Bool.true_and, Bool.false_and, Bool.and_false]), s0.trans (by assumption)⟩
         | exact (IH (i + 1) _ _ (by omega) ⟨rfl, by omega, by assumption, by rw [hs1]; simp only [Bool.not_true, Bool.not_false, Bool.and_true, Bool.true_and, Bool.false_and, Bool.and_false]⟩).weaken ⟨rfl, rfl, rfl, trivial⟩
         | refine .std ?_ | refine .nil ?_ | refine .seq ?_ | refine .region ?_ | refine .xs ?_ | refine .kb ?_ | refine .leaf ?_ | refine .block ?_ | refine .gn ?_ | refine .dr ?_ | fail
      · have hq : i = e.l.length := by have := of_decide_eq_false hq; rw [hL.1]; omega
        subst hq
        rw [sameL_end hle] at hs1
        repeat' first
         | exact hj _ _ ⟨⟨rfl, rfl, trivial⟩, by assumption, hs1⟩
         | refine .std ?_ | refine .nil ?_ | refine .seq ?_ | refine .region ?_ | refine .xs ?_ | refine .kb ?_ | refine .leaf ?_ | refine .block ?_ | refine .gn ?_ | refine .dr ?_ | fail

end Go.Proofs.YtodiioeddlmjhaaGreatDoor
