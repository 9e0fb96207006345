/-
  Types that are the same.
-/
import Derived.Test.YtodiioeddlmjhaaGreatDoorY3
set_option linter.unusedVariables false
set_option linter.unusedSimpArgs false
namespace Go.Proofs.YtodiioeddlmjhaaGreatDoor
open Go.RowKit Go.Ev
set_option maxRecDepth 100000
set_option linter.unusedVariables false
set_option linter.unusedSimpArgs false
attribute [local irreducible] Go.Ev.opE

theorem neq_lab {ev : Operand → Option V} {S : St} {x y : Operand} {u : TypeId} {s t : List UInt8 × Int} {q : Bool} (hx : ev x = some (.agg [.str s.1, .int .i64 s.2])) (hy : ev y = some (.agg [.str t.1, .int .i64 t.2])) (hq : decide (s = t) = !q) :
    opE Tryz.prog (.binOp .neq 107 x y u) ev S = some (.bool q, S) :=
  neq_two (a := 9) (b := 3) (k := .i64) hx hy hq (by kernel_rfl) (by kernel_rfl) (by kernel_rfl) (by kernel_rfl) (by kernel_rfl) (by kernel_rfl)

theorem labs65 {l m : List (List UInt8 × Int)} {nv mv : V} (h1 : isLn 2 nv) (h2 : (elems nv).length ≤ huge) (h3 : All2 LabV l (elems nv)) (g1 : isLn 2 mv) (g3 : All2 LabV m (elems mv)) : Pu Tryz.prog 65 [nv, mv] (.bool (decide (l = m))) := by
  have h2 : (elems nv).length ≤ 9223372036854775807 := h2
  rw [← sameL_eq]
  intro S
  refine CallTo.of (n := 26) Tryz.func65 rfl rfl ?_
  repeat' first
   | refine Opl.val (op_lenL rfl h1.isL rfl) rfl ?_
   | refine Opl.val (op_lenL rfl g1.isL rfl) rfl ?_
   | refine Opl.fresh (op_int rfl rfl rfl rfl) rfl (fun q hq => ?_)
   | refine .std ?_ | refine .nil ?_ | refine .seq ?_ | refine .region ?_ | refine .xs ?_ | refine .kb ?_ | refine .leaf ?_ | refine .block ?_ | refine .gn ?_ | refine .dr ?_ | fail
  refine Go.cond rfl (fun hq => ?_) (fun hq => ?_)
  · subst hq
    have hne : l.length ≠ m.length := by
      have hd : (!decide (((elems nv).length : Int) = ((elems mv).length : Int))) = true := by assumption
      rw [h3.1, g3.1]
      intro e; rw [e] at hd; simp at hd
    repeat' first | refine .std ?_ | refine .nil ?_ | refine .seq ?_ | refine .region ?_ | refine .xs ?_ | refine .kb ?_ | refine .leaf ?_ | refine .block ?_ | refine .gn ?_ | refine .dr ?_ | fail
    exact At.fnr rfl rfl rfl ⟨by rw [sameL_len hne]; rfl, Same.refl _⟩
  · subst hq
    have hle : l.length = m.length := by
      have hd : (!decide (((elems nv).length : Int) = ((elems mv).length : Int))) = false := by assumption
      rw [h3.1, g3.1]
      simp at hd; omega
    repeat' first
     | refine Opl.val (op_lenL rfl h1.isL rfl) rfl ?_
     | refine .std ?_ | refine .nil ?_ | refine .seq ?_ | refine .region ?_ | refine .xs ?_ | refine .kb ?_ | refine .leaf ?_ | refine .block ?_ | refine .gn ?_ | refine .dr ?_ | fail
    refine Go.weaken (E' := (fun (i : Nat) => [(0, nv), (1, mv), (12, .int .i64 (elems nv).length), (13, .int .i64 i)]) 0) ?_ (by repeat' first | exact trivial | refine ⟨rfl, ?_⟩)
    refine Go.loop_ind (α := Nat) (fun i => (elems nv).length - i) (fun i E S' => E = (fun (i : Nat) => [(0, nv), (1, mv), (12, .int .i64 (elems nv).length), (13, .int .i64 i)]) i ∧ i ≤ (elems nv).length ∧ Same S S' ∧ sameL (fun a b => decide (a = b)) l m = sameL (fun a b => decide (a = b)) (l.drop i) (m.drop i)) ?_ 0 _ _ ⟨rfl, Nat.zero_le _, Same.refl _, rfl⟩
    rintro i E S1 ⟨rfl, hi, k1, hs1⟩ IH
    simp only at IH ⊢
    repeat' first
     | refine Opl.val (op_lenL rfl h1.isL rfl) rfl ?_
     | refine .std ?_ | refine .nil ?_ | refine .seq ?_ | refine .region ?_ | refine .xs ?_ | refine .kb ?_ | refine .leaf ?_ | refine .block ?_ | refine .gn ?_ | refine .dr ?_ | fail
    refine Go.cond rfl (fun hq => ?_) (fun hq => ?_)
    · have hq : i < (elems nv).length := by have := of_decide_eq_true hq; omega
      obtain ⟨s, v, hs, hix, ⟨hv, _, _⟩, _⟩ := h3.at hq
      obtain ⟨t, w, ht, gix, ⟨hw, _, _⟩, _⟩ := g3.at (i := i) (by rw [← g3.1, ← hle, h3.1]; exact hq)
      have hpt : ∀ S, Pt S (.cptr none v.cells 0) [.str s.1, .int .i64 s.2] := fun S => by rw [hv]; exact Pt.cptr _ _ _
      have gpt : ∀ S, Pt S (.cptr none w.cells 0) [.str t.1, .int .i64 t.2] := fun S => by rw [hw]; exact Pt.cptr _ _ _
      rw [sameL_drop hs ht] at hs1
      obtain ⟨q, hq2⟩ : ∃ q, decide (s = t) = !q := ⟨_, (Bool.not_not _).symm⟩
      simp only [hq2] at hs1
      repeat' first
       | refine Opl.val (op_ixaV h1 rfl rfl hix) rfl ?_
       | refine Opl.val (op_ixaV g1 rfl rfl gix) rfl ?_
       | refine Opl.val (op_load rfl (ld_agg (hpt _) rfl)) rfl ?_
       | refine Opl.val (op_load rfl (ld_agg (gpt _) rfl)) rfl ?_
       | refine Opl.val (neq_lab rfl rfl hq2) rfl ?_
       | refine .std ?_ | refine .nil ?_ | refine .seq ?_ | refine .region ?_ | refine .xs ?_ | refine .kb ?_ | refine .leaf ?_ | refine .block ?_ | refine .gn ?_ | refine .dr ?_ | fail
      cases q with
      | true =>
        repeat' first
         | refine Go.condT rfl ?_
         | refine .std ?_ | refine .nil ?_ | refine .seq ?_ | refine .region ?_ | refine .xs ?_ | refine .kb ?_ | refine .leaf ?_ | refine .block ?_ | refine .gn ?_ | refine .dr ?_ | fail
        exact At.fnr rfl rfl rfl ⟨by rw [hs1]; rfl, k1⟩
      | false =>
        repeat' first
         | refine Go.condF rfl ?_
         | refine Opl.val (op_int rfl rfl rfl (inc_ok (i := i) (by omega))) rfl ?_
         | refine .std ?_ | refine .nil ?_ | refine .seq ?_ | refine .region ?_ | refine .xs ?_ | refine .kb ?_ | refine .leaf ?_ | refine .block ?_ | refine .gn ?_ | refine .dr ?_ | fail
        exact (IH (i + 1) _ S1 (by omega) ⟨rfl, by omega, k1, by rw [hs1]; rfl⟩).weaken (by repeat' first | exact trivial | refine ⟨rfl, ?_⟩)
    · have hq : i = l.length := by have := of_decide_eq_false hq; rw [h3.1]; omega
      subst hq
      rw [sameL_end hle] at hs1
      repeat' first | refine .std ?_ | refine .nil ?_ | refine .seq ?_ | refine .region ?_ | refine .xs ?_ | refine .kb ?_ | refine .leaf ?_ | refine .block ?_ | refine .gn ?_ | refine .dr ?_ | fail
      exact At.fnr rfl rfl rfl ⟨by rw [hs1]; rfl, k1⟩


set_option maxHeartbeats 4000000 in
theorem syntaxSameType : ∀ (N : Nat) (e : Ty) (cs : List V) (f : Ty) (ds : List V), e.nodes ≤ N → TyC e cs → TyC f ds → Pu Tryz.prog 29 [.agg cs, .agg ds] (.bool (e.same f)) := by
  intro N
  induction N with
  | zero => intro e cs f ds hN; cases e; simp [Ty.nodes] at hN
  | succ N IHN =>
    intro e cs f ds hN he hf S
    obtain ⟨lv, bv, rfl, hk, hn, hs, hl, hll, hb, hbl, hB, ht, hL⟩ := he.inv
    obtain ⟨lw, bw, rfl, gk, gn, gs, gl, gll, gb, gbl, gB, gt, gL⟩ := hf.inv
    have c5 := labs65 hb hbl hB gb gB
    have c6 := eqf66 hl hll hL gl gL (fun a ha b v w hv hw => IHN a _ b _ (by have := Ty.part ha; omega) hv hw)
    obtain ⟨U1, U2, hU1, hU2, b1, b2, s0⟩ := box2 S 46 46 [.int .i64 e.kind, .int .i64 e.n, .str e.s, lv, bv, .int .i64 e.tail] [.int .i64 f.kind, .int .i64 f.n, .str f.s, lw, bw, .int .i64 f.tail]
    have k0 : Same U2 U2 := Same.refl U2
    obtain ⟨q1, h1⟩ : ∃ q, decide (e.kind = f.kind) = q := ⟨_, rfl⟩
    obtain ⟨q2, h2⟩ : ∃ q, decide (e.n = f.n) = q := ⟨_, rfl⟩
    obtain ⟨q3, h3⟩ : ∃ q, decide (e.s = f.s) = q := ⟨_, rfl⟩
    obtain ⟨q4, h4⟩ : ∃ q, decide (e.tail = f.tail) = q := ⟨_, rfl⟩
    obtain ⟨q5, h5⟩ : ∃ q, decide (e.labels = f.labels) = q := ⟨_, rfl⟩
    obtain ⟨q6, h6⟩ : ∃ q, sameL Ty.same e.l f.l = q := ⟨_, rfl⟩
    rw [h5] at c5
    rw [h6] at c6
    refine CallTo.of (n := 49) Tryz.func29 rfl rfl ?_
    repeat' first
     | refine Opl.val (op_box rfl) rfl (Opl.cast (S' := U1) ?_ hU1)
     | refine Opl.val (op_box rfl) rfl (Opl.cast (S' := U2) ?_ hU2)
     | refine Opl.val (op_load rfl (ld_bx b1 (by assumption) _ rfl)) rfl ?_
     | refine Opl.val (op_load rfl (ld_bx b2 (by assumption) _ rfl)) rfl ?_
     | refine Opl.val (op_int rfl rfl rfl (eql_i h1)) rfl ?_
     | refine Opl.val (op_int rfl rfl rfl (eql_i h2)) rfl ?_
     | refine Opl.val (op_int rfl rfl rfl (eql_i h4)) rfl ?_
     | refine Opl.val (op_str rfl rfl (eql_s h3)) rfl ?_
     | refine op_gyes rfl ?_ rfl
     | refine .gn ?_
     | (refine Opl.gonT rfl rfl (fun hq => ?_) (fun hq => ?_) <;> subst hq)
     | (refine Opl.gonF rfl rfl (fun hq => ?_) (fun hq => ?_) <;> subst hq)
     | refine Go.condT rfl ?_
     | refine Go.condF rfl ?_
     | (refine Go.condV rfl (fun hq => ?_) (fun hq => ?_) <;> subst hq)
     | refine Opl.callS (by assumption) rfl (by kernel_rfl) c5 rfl (fun S4 k4 => ?_)
     | refine Opl.callS (by assumption) rfl (by kernel_rfl) c6 rfl (fun S4 k4 => ?_)
     | exact At.fnr rfl rfl rfl ⟨pack_b (by rw [Ty.same_eq]; simp only [h1, h2, h3, h4, h5, h6, Bool.not_true, Bool.not_false, Bool.and_true, Bool.true_and, Bool.false_and, Bool.and_false]), s0.trans (by assumption)⟩
     | refine .std ?_ | refine .nil ?_ | refine .seq ?_ | refine .region ?_ | refine .xs ?_ | refine .kb ?_ | refine .leaf ?_ | refine .block ?_ | refine .gn ?_ | refine .dr ?_ | fail

set_option maxHeartbeats 4000000 in
theorem refSameRow {l m : List (List UInt8 × Int)} {tl tm : Int} {bv bw : V} (hb : isLn 2 bv) (hbl : (elems bv).length ≤ huge) (hB : All2 LabV l (elems bv)) (gb : isLn 2 bw) (gB : All2 LabV m (elems bw)) :
    Pu Tryz.prog 67 [.agg [bv, .int .i64 tl], .agg [bw, .int .i64 tm]] (.bool (decide (tl = tm) && decide (l = m))) := by
  intro S
  have hbl : (elems bv).length ≤ 9223372036854775807 := hbl
  obtain ⟨U1, U2, hU1, hU2, b1, b2, s0⟩ := box2 S 44 44 [bv, .int .i64 tl] [bw, .int .i64 tm]
  have k0 : Same U2 U2 := Same.refl U2
  obtain ⟨q1, h1⟩ : ∃ q, decide (tl = tm) = !q := ⟨_, (Bool.not_not _).symm⟩
  obtain ⟨q6, h6⟩ : ∃ q, decide (((elems bv).length : Int) = ((elems bw).length : Int)) = !q := ⟨_, (Bool.not_not _).symm⟩
  rw [← sameL_eq]
  have n6 : q6 = true → sameL (fun a b => decide (a = b)) l m = false := fun h => sameL_len (by rw [hB.1, gB.1]; intro e; rw [e, h] at h6; simp at h6)
  refine CallTo.of (n := 38) Tryz.func67 rfl rfl ?_
  repeat' first
   | refine Opl.val (op_box rfl) rfl (Opl.cast (S' := U1) ?_ hU1)
   | refine Opl.val (op_box rfl) rfl (Opl.cast (S' := U2) ?_ hU2)
   | refine Opl.val (op_load rfl (ld_bx b1 (by assumption) _ rfl)) rfl ?_
   | refine Opl.val (op_load rfl (ld_bx b2 (by assumption) _ rfl)) rfl ?_
   | refine Opl.val (op_int rfl rfl rfl (neq_i (q := q1) (by rw [h1, Bool.not_not]))) rfl ?_
   | refine Opl.val (op_int rfl rfl rfl (neq_i (q := q6) (by rw [h6, Bool.not_not]))) rfl ?_
   | refine Opl.val (op_lenL rfl hb.isL rfl) rfl ?_
   | refine Opl.val (op_lenL rfl gb.isL rfl) rfl ?_
   | refine op_gyes rfl ?_ rfl
   | refine .gn ?_
   | (refine Opl.gonT rfl rfl (fun hq => ?_) (fun hq => ?_) <;> subst hq)
   | (refine Opl.gonF rfl rfl (fun hq => ?_) (fun hq => ?_) <;> subst hq)
   | refine Go.condT rfl ?_
   | refine Go.condF rfl ?_
   | (refine Go.condV rfl (fun hq => ?_) (fun hq => ?_) <;> subst hq)
   | exact At.fnr rfl rfl rfl ⟨pack_b (by simp only [h1, n6, Bool.not_true, Bool.not_false, Bool.and_true, Bool.true_and, Bool.false_and, Bool.and_false]), s0.trans (by assumption)⟩
   | refine .std ?_ | refine .nil ?_ | refine .seq ?_ | refine .region ?_ | refine .xs ?_ | refine .kb ?_ | refine .leaf ?_ | refine .block ?_ | refine .gn ?_ | refine .dr ?_ | fail
  have hle : l.length = m.length := by rw [hB.1, gB.1]; have := of_decide_eq_true h6; omega
  refine Go.weaken (E' := [(2, .ptr S.next 0), (3, .ptr U1.next 0), (5, .int .i64 (0 : Nat))]) ?_ ⟨rfl, rfl, rfl, trivial⟩
  refine Go.loop_ind (α := Nat) (fun i => (elems bv).length - i) (fun i E S' => E = [(2, .ptr S.next 0), (3, .ptr U1.next 0), (5, .int .i64 i)] ∧ i ≤ (elems bv).length ∧ Same U2 S' ∧ sameL (fun a b => decide (a = b)) l m = sameL (fun a b => decide (a = b)) (l.drop i) (m.drop i)) ?_ 0 _ _ ⟨rfl, Nat.zero_le _, by assumption, rfl⟩
  rintro i E S3 ⟨rfl, hi, k3, hs1⟩ IH
  repeat' first
   | refine Opl.val (op_load rfl (ld_bx b1 (by assumption) _ rfl)) rfl ?_
   | refine Opl.val (op_lenL rfl hb.isL rfl) rfl ?_
   | refine .std ?_ | refine .nil ?_ | refine .seq ?_ | refine .region ?_ | refine .xs ?_ | refine .kb ?_ | refine .leaf ?_ | refine .block ?_ | refine .gn ?_ | refine .dr ?_ | fail
  refine Go.cond rfl (fun hq => ?_) (fun hq => ?_)
  · have hq : i < (elems bv).length := by have := of_decide_eq_true hq; omega
    obtain ⟨s, v, hs, hix, ⟨hv, _, _⟩, _⟩ := hB.at hq
    obtain ⟨t, w, ht, gix, ⟨hw, _, _⟩, _⟩ := gB.at (i := i) (by rw [← gB.1, ← hle, hB.1]; exact hq)
    have hpt : ∀ S, Pt S (.cptr none v.cells 0) [.str s.1, .int .i64 s.2] := fun S => by rw [hv]; exact Pt.cptr _ _ _
    have gpt : ∀ S, Pt S (.cptr none w.cells 0) [.str t.1, .int .i64 t.2] := fun S => by rw [hw]; exact Pt.cptr _ _ _
    rw [sameL_drop hs ht] at hs1
    obtain ⟨q, hq2⟩ : ∃ q, decide (s = t) = !q := ⟨_, (Bool.not_not _).symm⟩
    simp only [hq2] at hs1
    repeat' first
     | refine Opl.val (op_load rfl (ld_bx b1 (by assumption) _ rfl)) rfl ?_
     | refine Opl.val (op_load rfl (ld_bx b2 (by assumption) _ rfl)) rfl ?_
     | refine Opl.val (op_ixaV hb rfl rfl hix) rfl ?_
     | refine Opl.val (op_ixaV gb rfl rfl gix) rfl ?_
     | refine Opl.val (op_load rfl (ld_agg (hpt _) rfl)) rfl ?_
     | refine Opl.val (op_load rfl (ld_agg (gpt _) rfl)) rfl ?_
     | refine Opl.val (neq_lab rfl rfl hq2) rfl ?_
     | refine op_gyes rfl ?_ rfl
     | refine .gn ?_
     | (refine Opl.gonT rfl rfl (fun hq => ?_) (fun hq => ?_) <;> subst hq)
     | (refine Opl.gonF rfl rfl (fun hq => ?_) (fun hq => ?_) <;> subst hq)
     | refine Go.condT rfl ?_
     | refine Go.condF rfl ?_
     | (refine Go.condV rfl (fun hq => ?_) (fun hq => ?_) <;> subst hq)
     | refine Opl.val (op_int rfl rfl rfl (inc_ok (i := i) (by omega))) rfl ?_
     | exact At.fnr rfl rfl rfl ⟨pack_b (by rw [hs1]; simp only [Bool.not_true, Bool.not_false, Bool.and_true, Bool.true_and, Bool.false_and, Bool.and_false]), s0.trans (by assumption)⟩
     | exact (IH (i + 1) _ _ (by omega) ⟨rfl, by omega, by assumption, by rw [hs1]; simp only [Bool.not_true, Bool.not_false, Bool.and_true, Bool.true_and, Bool.false_and, Bool.and_false]⟩).weaken ⟨rfl, rfl, rfl, trivial⟩
     | refine .std ?_ | refine .nil ?_ | refine .seq ?_ | refine .region ?_ | refine .xs ?_ | refine .kb ?_ | refine .leaf ?_ | refine .block ?_ | refine .gn ?_ | refine .dr ?_ | fail
  · have hq : i = l.length := by have := of_decide_eq_false hq; rw [hB.1]; omega
    subst hq
    rw [sameL_end hle] at hs1
    repeat' first | refine .std ?_ | refine .nil ?_ | refine .seq ?_ | refine .region ?_ | refine .xs ?_ | refine .kb ?_ | refine .leaf ?_ | refine .block ?_ | refine .gn ?_ | refine .dr ?_ | fail
    exact At.fnr rfl rfl rfl ⟨pack_b (by rw [hs1]; simp only [h1, Bool.not_true, Bool.not_false, Bool.and_true, Bool.true_and, Bool.false_and, Bool.and_false]), s0.trans (by assumption)⟩

set_option maxHeartbeats 4000000 in
theorem refSameType : ∀ (N : Nat) (e : Ty) (cs : List V) (f : Ty) (ds : List V), e.nodes ≤ N → TyC e cs → TyC f ds → Pu Tryz.prog 30 [.agg cs, .agg ds] (.bool (e.same f)) := by
  intro N
  induction N with
  | zero => intro e cs f ds hN; cases e; simp [Ty.nodes] at hN
  | succ N IHN =>
    intro e cs f ds hN he hf S
    obtain ⟨lv, bv, rfl, hk, hn, hs, hl, hll, hb, hbl, hB, ht, hL⟩ := he.inv
    obtain ⟨lw, bw, rfl, gk, gn, gs, gl, gll, gb, gbl, gB, gt, gL⟩ := hf.inv
    have hll : (elems lv).length ≤ 9223372036854775807 := hll
    have c5 := refSameRow (tl := e.tail) (tm := f.tail) hb hbl hB gb gB
    obtain ⟨U1, U2, hU1, hU2, b1, b2, s0⟩ := box2 S 46 46 [.int .i64 e.kind, .int .i64 e.n, .str e.s, lv, bv, .int .i64 e.tail] [.int .i64 f.kind, .int .i64 f.n, .str f.s, lw, bw, .int .i64 f.tail]
    have k0 : Same U2 U2 := Same.refl U2
    obtain ⟨q1, h1⟩ : ∃ q, decide (e.kind = f.kind) = !q := ⟨_, (Bool.not_not _).symm⟩
    obtain ⟨q2, h2⟩ : ∃ q, decide (e.n = f.n) = !q := ⟨_, (Bool.not_not _).symm⟩
    obtain ⟨q3, h3⟩ : ∃ q, decide (e.s = f.s) = !q := ⟨_, (Bool.not_not _).symm⟩
    obtain ⟨q5, h5⟩ : ∃ q, (decide (e.tail = f.tail) && decide (e.labels = f.labels)) = !q := ⟨_, (Bool.not_not _).symm⟩
    obtain ⟨q6, h6⟩ : ∃ q, decide (((elems lv).length : Int) = ((elems lw).length : Int)) = !q := ⟨_, (Bool.not_not _).symm⟩
    have n6 : q6 = true → sameL Ty.same e.l f.l = false := fun h => sameL_len (by rw [hL.1, gL.1]; intro e; rw [e, h] at h6; simp at h6)
    have hsame : e.same f = (decide (e.kind = f.kind) && decide (e.n = f.n) && decide (e.s = f.s) && (decide (e.tail = f.tail) && decide (e.labels = f.labels)) && sameL Ty.same e.l f.l) := by rw [Ty.same_eq]; simp only [Bool.and_assoc]
    rw [h5] at c5
    refine CallTo.of (n := 61) Tryz.func30 rfl rfl ?_
    repeat' first
     | refine Opl.val (op_box rfl) rfl (Opl.cast (S' := U1) ?_ hU1)
     | refine Opl.val (op_box rfl) rfl (Opl.cast (S' := U2) ?_ hU2)
     | refine Opl.val (op_load rfl (ld_bx b1 (by assumption) _ rfl)) rfl ?_
     | refine Opl.val (op_load rfl (ld_bx b2 (by assumption) _ rfl)) rfl ?_
     | refine Opl.val (op_load rfl (ld_agg ((b1.pt (by assumption)).drop 4) rfl)) rfl ?_
     | refine Opl.val (op_load rfl (ld_agg ((b2.pt (by assumption)).drop 4) rfl)) rfl ?_
     | refine Opl.val (op_int rfl rfl rfl (neq_i (q := q1) (by rw [h1, Bool.not_not]))) rfl ?_
     | refine Opl.val (op_int rfl rfl rfl (neq_i (q := q2) (by rw [h2, Bool.not_not]))) rfl ?_
     | refine Opl.val (op_str rfl rfl (neq_s (q := q3) (by rw [h3, Bool.not_not]))) rfl ?_
     | refine Opl.val (op_int rfl rfl rfl (neq_i (q := q6) (by rw [h6, Bool.not_not]))) rfl ?_
     | refine Opl.val (op_un (w := .bool q5) rfl (by simp only [unE, Bool.not_not])) rfl ?_
     | refine Opl.val (op_lenL rfl hl.isL rfl) rfl ?_
     | refine Opl.val (op_lenL rfl gl.isL rfl) rfl ?_
     | refine op_gyes rfl ?_ rfl
     | refine .gn ?_
     | (refine Opl.gonT rfl rfl (fun hq => ?_) (fun hq => ?_) <;> subst hq)
     | (refine Opl.gonF rfl rfl (fun hq => ?_) (fun hq => ?_) <;> subst hq)
     | refine Go.condT rfl ?_
     | refine Go.condF rfl ?_
     | (refine Go.condV rfl (fun hq => ?_) (fun hq => ?_) <;> subst hq)
     | refine Opl.callS (by assumption) rfl (by kernel_rfl) c5 rfl (fun S4 k4 => ?_)
     | exact At.fnr rfl rfl rfl ⟨pack_b (by rw [hsame]; simp only [h1, h2, h3, h5, n6, Bool.not_true, Bool.not_false, Bool.and_true, Bool.true_and, Bool.false_and, Bool.and_false]), s0.trans (by assumption)⟩
     | refine .std ?_ | refine .nil ?_ | refine .seq ?_ | refine .region ?_ | refine .xs ?_ | refine .kb ?_ | refine .leaf ?_ | refine .block ?_ | refine .gn ?_ | refine .dr ?_ | fail
    have hle : e.l.length = f.l.length := by rw [hL.1, gL.1]; have := of_decide_eq_true h6; omega
    refine Go.weaken (E' := [(2, .ptr S.next 0), (3, .ptr U1.next 0), (5, .int .i64 (0 : Nat))]) ?_ ⟨rfl, rfl, rfl, trivial⟩
    refine Go.loop_ind (α := Nat) (fun i => (elems lv).length - i) (fun i E S' => E = [(2, .ptr S.next 0), (3, .ptr U1.next 0), (5, .int .i64 i)] ∧ i ≤ (elems lv).length ∧ Same U2 S' ∧ sameL Ty.same e.l f.l = sameL Ty.same (e.l.drop i) (f.l.drop i)) ?_ 0 _ _ ⟨rfl, Nat.zero_le _, by assumption, rfl⟩
    rintro i E S3 ⟨rfl, hi, k3, hs1⟩ IH
    repeat' first
     | refine Opl.val (op_load rfl (ld_bx b1 (by assumption) _ rfl)) rfl ?_
     | refine Opl.val (op_lenL rfl hl.isL rfl) rfl ?_
     | refine .std ?_ | refine .nil ?_ | refine .seq ?_ | refine .region ?_ | refine .xs ?_ | refine .kb ?_ | refine .leaf ?_ | refine .block ?_ | refine .gn ?_ | refine .dr ?_ | fail
    refine Go.cond rfl (fun hq => ?_) (fun hq => ?_)
    · have hq : i < (elems lv).length := by have := of_decide_eq_true hq; omega
      obtain ⟨a, v, hs, hix, hv, hmem⟩ := hL.at hq
      obtain ⟨b, w, ht, gix, hw, _⟩ := gL.at (i := i) (by rw [← gL.1, ← hle, hL.1]; exact hq)
      rw [sameL_drop hs ht] at hs1
      have d3 := IHN a _ b _ (by have := Ty.part hmem; omega) hv hw
      obtain ⟨r3, p3⟩ : ∃ q, a.same b = !q := ⟨_, (Bool.not_not _).symm⟩
      rw [p3] at d3 hs1
      repeat' first
       | refine Opl.val (op_load rfl (ld_bx b1 (by assumption) _ rfl)) rfl ?_
       | refine Opl.val (op_load rfl (ld_bx b2 (by assumption) _ rfl)) rfl ?_
       | refine Opl.val (op_ixaV hl rfl rfl hix) rfl ?_
       | refine Opl.val (op_ixaV gl rfl rfl gix) rfl ?_
       | refine Opl.val (op_load rfl (ld_agg (Pt.cptr _ _ _) hv.len6)) rfl ?_
       | refine Opl.val (op_load rfl (ld_agg (Pt.cptr _ _ _) hw.len6)) rfl ?_
       | refine Opl.val (op_un (w := .bool r3) rfl (by simp only [unE, Bool.not_not])) rfl ?_
       | refine op_gyes rfl ?_ rfl
       | refine .gn ?_
       | (refine Opl.gonT rfl rfl (fun hq => ?_) (fun hq => ?_) <;> subst hq)
       | (refine Opl.gonF rfl rfl (fun hq => ?_) (fun hq => ?_) <;> subst hq)
       | refine Go.condT rfl ?_
       | refine Go.condF rfl ?_
       | (refine Go.condV rfl (fun hq => ?_) (fun hq => ?_) <;> subst hq)
       | refine Opl.callS (by assumption) rfl (by kernel_rfl) d3 rfl (fun S4 k4 => ?_)
       | refine Opl.val (op_int rfl rfl rfl (inc_ok (i := i) (by omega))) rfl ?_
       | exact At.fnr rfl rfl rfl ⟨pack_b (by rw [hsame, hs1]; simp only [Bool.not_true, Bool.not_false, Bool.and_true, Bool.true_and, Bool.false_and, Bool.and_false]), s0.trans (by assumption)⟩
       | exact (IH (i + 1) _ _ (by omega) ⟨rfl, by omega, by assumption, by rw [hs1]; simp only [Bool.not_true, Bool.not_false, Bool.and_true, Bool.true_and, Bool.false_and, Bool.and_false]⟩).weaken ⟨rfl, rfl, rfl, trivial⟩
       | refine .std ?_ | refine .nil ?_ | refine .seq ?_ | refine .region ?_ | refine .xs ?_ | refine .kb ?_ | refine .leaf ?_ | refine .block ?_ | refine .gn ?_ | refine .dr ?_ | fail
    · have hq : i = e.l.length := by have := of_decide_eq_false hq; rw [hL.1]; omega
      subst hq
      rw [sameL_end hle] at hs1
      repeat' first | refine .std ?_ | refine .nil ?_ | refine .seq ?_ | refine .region ?_ | refine .xs ?_ | refine .kb ?_ | refine .leaf ?_ | refine .block ?_ | refine .gn ?_ | refine .dr ?_ | fail
      exact At.fnr rfl rfl rfl ⟨pack_b (by rw [hsame, hs1]; simp only [h1, h2, h3, h5, Bool.not_true, Bool.not_false, Bool.and_true, Bool.true_and, Bool.false_and, Bool.and_false]), s0.trans (by assumption)⟩

end Go.Proofs.YtodiioeddlmjhaaGreatDoor
