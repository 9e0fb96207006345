/-
  Expressions that are the same.
-/
import Derived.Test.YtodiioeddlmjhaaGreatDoorY3
set_option linter.unusedVariables false
set_option linter.unusedSimpArgs false
namespace Go.Proofs.YtodiioeddlmjhaaGreatDoor
open Go.RowKit Go.Ev
set_option maxRecDepth 100000
set_option linter.unusedVariables false

set_option maxHeartbeats 4000000 in
theorem same1 {a b : Ar} {v w : V} (hv : ArV a v) (hw : ArV b w) (hb : ∀ cs ds, ExC a.body cs → ExC b.body ds → Pu Tryz.prog 28 [.agg cs, .agg ds] (.bool (a.body.same b.body))) :
    Pu Tryz.prog 64 [.agg v.cells, .agg w.cells] (.bool (a.same b)) := by
  obtain ⟨nv, cs, hc, _, hn, he⟩ := hv
  obtain ⟨mv, ds, hd, _, hm, hf⟩ := hw
  rw [hc, hd]
  intro S
  obtain ⟨U1, U2, hU1, hU2, b1, b2, s0⟩ := box2 S 100 100 (.str a.op :: nv :: cs) (.str b.op :: mv :: ds)
  have k0 : Same U2 U2 := Same.refl U2
  obtain ⟨q1, h1⟩ : ∃ q, decide (a.op = b.op) = q := ⟨_, rfl⟩
  obtain ⟨q2, h2⟩ : ∃ q, decide (a.names = b.names) = q := ⟨_, rfl⟩
  obtain ⟨q3, h3⟩ : ∃ q, a.body.same b.body = q := ⟨_, rfl⟩
  have c2 := strs61 hn hm
  rw [h2] at c2
  have c3 := hb cs ds he hf
  rw [h3] at c3
  refine CallTo.of (n := 24) Tryz.func64 rfl rfl ?_
  repeat' first
   | refine Opl.val (op_box rfl) rfl (Opl.cast (S' := U1) ?_ hU1)
   | refine Opl.val (op_box rfl) rfl (Opl.cast (S' := U2) ?_ hU2)
   | refine Opl.val (op_load rfl (ld_bx b1 (by assumption) _ rfl)) rfl ?_
   | refine Opl.val (op_load rfl (ld_bx b2 (by assumption) _ rfl)) rfl ?_
   | refine Opl.val (op_load rfl (ld_agg ((b1.pt (by assumption)).drop 2) he.len7)) rfl ?_
   | refine Opl.val (op_load rfl (ld_agg ((b2.pt (by assumption)).drop 2) hf.len7)) rfl ?_
   | refine Opl.val (op_str rfl rfl (eql_s h1)) rfl ?_
   | refine op_gyes rfl ?_ rfl
   | refine .gn ?_
   | (refine Opl.gonT rfl rfl (fun hq => ?_) (fun hq => ?_) <;> subst hq)
   | (refine Opl.gonF rfl rfl (fun hq => ?_) (fun hq => ?_) <;> subst hq)
   | refine Go.condT rfl ?_
   | refine Go.condF rfl ?_
   | (refine Go.condV rfl (fun hq => ?_) (fun hq => ?_) <;> subst hq)
   | refine Opl.callS (by assumption) rfl (by kernel_rfl) c2 rfl (fun S4 k4 => ?_)
   | refine Opl.callS (by assumption) rfl (by kernel_rfl) c3 rfl (fun S4 k4 => ?_)
   | exact At.fnr rfl rfl rfl ⟨pack_b (by unfold Ar.same; simp only [h1, h2, h3, Bool.and_true, Bool.true_and, Bool.false_and, Bool.and_false]), s0.trans (by assumption)⟩
   | refine .std ?_ | refine .nil ?_ | refine .seq ?_ | refine .region ?_ | refine .xs ?_ | refine .kb ?_ | refine .leaf ?_ | refine .block ?_ | refine .gn ?_ | refine .dr ?_ | fail

set_option maxHeartbeats 4000000 in
theorem syntaxSame : ∀ (N : Nat) (e : Ex) (cs : List V) (f : Ex) (ds : List V), e.nodes ≤ N → ExC e cs → ExC f ds → Pu Tryz.prog 28 [.agg cs, .agg ds] (.bool (e.same f)) := by
  intro N
  induction N with
  | zero => intro e cs f ds hN; cases e; simp [Ex.nodes] at hN
  | succ N IHN =>
    intro e cs f ds hN he hf S
    obtain ⟨nv, lv, av, rfl, hk, hn, hs, ht, hnm, hl, hll, ha, hal, hL, hA⟩ := he.inv
    obtain ⟨nw, lw, aw, rfl, gk, gn, gs, gt, gnm, gl, gll, ga, gal, gL, gA⟩ := hf.inv
    have c5 := strs61 hnm gnm
    have c6 := eqf62 hl hll hL gl gL (fun a ha b v w hv hw => IHN a _ b _ (by have := Ex.part_l ha; omega) hv hw)
    have c7 := eqf63 ha hal hA ga gA (fun a ha b v w hv hw => same1 hv hw (fun cs ds h1 h2 => IHN a.body _ b.body _ (by have := Ex.part_a ha; omega) h1 h2))
    obtain ⟨U1, U2, hU1, hU2, b1, b2, s0⟩ := box2 S 27 27 [.int .i64 e.kind, .int .i64 e.n, .str e.s, .str e.t, nv, lv, av] [.int .i64 f.kind, .int .i64 f.n, .str f.s, .str f.t, nw, lw, aw]
    have k0 : Same U2 U2 := Same.refl U2
    obtain ⟨q1, h1⟩ : ∃ q, decide (e.kind = f.kind) = q := ⟨_, rfl⟩
    obtain ⟨q2, h2⟩ : ∃ q, decide (e.n = f.n) = q := ⟨_, rfl⟩
    obtain ⟨q3, h3⟩ : ∃ q, decide (e.s = f.s) = q := ⟨_, rfl⟩
    obtain ⟨q4, h4⟩ : ∃ q, decide (e.t = f.t) = q := ⟨_, rfl⟩
    obtain ⟨q5, h5⟩ : ∃ q, decide (e.names = f.names) = q := ⟨_, rfl⟩
    obtain ⟨q6, h6⟩ : ∃ q, sameL Ex.same e.l f.l = q := ⟨_, rfl⟩
    obtain ⟨q7, h7⟩ : ∃ q, sameL Ar.same e.arms f.arms = q := ⟨_, rfl⟩
    rw [h5] at c5
    rw [h6] at c6
    rw [h7] at c7
    refine CallTo.of (n := 52) Tryz.func28 rfl rfl ?_
    repeat' first
     | refine Opl.val (op_box rfl) rfl (Opl.cast (S' := U1) ?_ hU1)
     | refine Opl.val (op_box rfl) rfl (Opl.cast (S' := U2) ?_ hU2)
     | refine Opl.val (op_load rfl (ld_bx b1 (by assumption) _ rfl)) rfl ?_
     | refine Opl.val (op_load rfl (ld_bx b2 (by assumption) _ rfl)) rfl ?_
     | refine Opl.val (op_int rfl rfl rfl (eql_i h1)) rfl ?_
     | refine Opl.val (op_int rfl rfl rfl (eql_i h2)) rfl ?_
     | refine Opl.val (op_str rfl rfl (eql_s h3)) rfl ?_
     | refine Opl.val (op_str rfl rfl (eql_s h4)) rfl ?_
     | refine op_gyes rfl ?_ rfl
     | refine .gn ?_
     | (refine Opl.gonT rfl rfl (fun hq => ?_) (fun hq => ?_) <;> subst hq)
     | (refine Opl.gonF rfl rfl (fun hq => ?_) (fun hq => ?_) <;> subst hq)
     | refine Go.condT rfl ?_
     | refine Go.condF rfl ?_
     | (refine Go.condV rfl (fun hq => ?_) (fun hq => ?_) <;> subst hq)
     | refine Opl.callS (by assumption) rfl (by kernel_rfl) c5 rfl (fun S4 k4 => ?_)
     | refine Opl.callS (by assumption) rfl (by kernel_rfl) c6 rfl (fun S4 k4 => ?_)
     | refine Opl.callS (by assumption) rfl (by kernel_rfl) c7 rfl (fun S4 k4 => ?_)
     | exact At.fnr rfl rfl rfl ⟨pack_b (by rw [Ex.same_eq]; simp only [h1, h2, h3, h4, h5, h6, h7, Bool.and_true, Bool.true_and, Bool.false_and, Bool.and_false]), s0.trans (by assumption)⟩
     | refine .std ?_ | refine .nil ?_ | refine .seq ?_ | refine .region ?_ | refine .xs ?_ | refine .kb ?_ | refine .leaf ?_ | refine .block ?_ | refine .gn ?_ | refine .dr ?_ | fail

end Go.Proofs.YtodiioeddlmjhaaGreatDoor
