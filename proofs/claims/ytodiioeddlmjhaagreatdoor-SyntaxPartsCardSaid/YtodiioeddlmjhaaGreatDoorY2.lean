import Derived.Test.YtodiioeddlmjhaaGreatDoorY1
set_option linter.unusedVariables false
set_option linter.unusedSimpArgs false
namespace Go.Proofs.YtodiioeddlmjhaaGreatDoor
open Go.RowKit Go.Ev
set_option maxRecDepth 100000
set_option linter.unusedVariables false
set_option linter.unusedSimpArgs false
attribute [local irreducible] Go.Ev.opE
set_option maxHeartbeats 4000000 in
theorem typeLeft : ∀ (N : Nat) (e : Ty) (cs : List V), e.nodes ≤ N → TyC e cs → ∀ a b : Int, PuQ Tryz.prog 60 [.agg cs, .int .i64 a, .int .i64 b] (fun v => ∃ r, v = .int .i64 r) := by
  intro N
  induction N with
  | zero => intro e cs hN; cases e; simp [Ty.nodes] at hN
  | succ N IHN =>
    intro e cs hN he a b S
    obtain ⟨lv, bv, rfl, hk, hn, hs, hl, hll, hb, hbl, hB, ht, hL⟩ := he.inv
    obtain ⟨U, hU, bx, s0⟩ := box1 S 46 [.int .i64 e.kind, .int .i64 e.n, .str e.s, lv, bv, .int .i64 e.tail]
    have k0 : Same U U := Same.refl U
    have hll : (elems lv).length ≤ 9223372036854775807 := hll
    have hbl : (elems bv).length ≤ 9223372036854775807 := hbl
    refine CallTo.of (n := 70) Tryz.func60 rfl rfl ?_
    repeat' first
     | refine Opl.val (op_box rfl) rfl (Opl.cast (S' := U) ?_ hU)
     | refine Opl.val (op_load rfl (ld_bx bx (by assumption) _ rfl)) rfl ?_
     | refine Opl.val (op_lenL rfl hl.isL rfl) rfl ?_
     | refine Opl.val (op_lenL rfl hb.isL rfl) rfl ?_
     | refine Opl.fresh (op_int rfl rfl rfl rfl) rfl (fun q hq => ?_)
     | refine op_gyes rfl ?_ rfl
     | refine .gn ?_
     | (refine Opl.gonTN rfl rfl (fun hq => ?_) (fun hq => ?_) <;> subst hq)
     | (refine Opl.gonFN rfl rfl (fun hq => ?_) (fun hq => ?_) <;> subst hq)
     | (refine Opl.gonT rfl rfl (fun hq => ?_) (fun hq => ?_) <;> subst hq)
     | (refine Opl.gonF rfl rfl (fun hq => ?_) (fun hq => ?_) <;> subst hq)
     | refine Go.condT rfl ?_
     | refine Go.condF rfl ?_
     | (refine Go.condN rfl (fun hq => ?_) (fun hq => ?_) <;> subst hq)
     | (refine Go.condV rfl (fun hq => ?_) (fun hq => ?_) <;> subst hq)
     | refine Go.joinN 0 (fun E S' => ∃ a1, Sub [(1, .int .i64 a1), (2, .int .i64 b), (3, .ptr S.next 0)] E ∧ Same U S') ?_ ?_
     | exact At.fnr rfl rfl rfl ⟨⟨_, rfl⟩, s0.trans (by assumption)⟩
     | refine .std ?_ | refine .nil ?_ | refine .seq ?_ | refine .region ?_ | refine .xs ?_ | refine .kb ?_ | refine .leaf ?_ | refine .block ?_ | refine .gn ?_ | refine .dr ?_ | fail
    · refine ⟨?_⟩
      rintro E S2 ⟨a1, hE, k2⟩
      refine Go.weaken ?_ hE
      repeat' first | refine .std ?_ | refine .nil ?_ | refine .seq ?_ | refine .region ?_ | refine .xs ?_ | refine .kb ?_ | refine .leaf ?_ | refine .block ?_ | refine .gn ?_ | refine .dr ?_ | fail
      refine Go.weaken (E' := [(1, .int .i64 a1), (2, .int .i64 b), (3, .ptr S.next 0), (8, .int .i64 (0 : Nat))]) ?_ ⟨rfl, rfl, rfl, rfl, trivial⟩
      refine Go.loop_ind (α := Nat) (fun i => (elems lv).length - i) (fun i E S' => (∃ a1, E = [(1, .int .i64 a1), (2, .int .i64 b), (3, .ptr S.next 0), (8, .int .i64 i)]) ∧ i ≤ (elems lv).length ∧ Same U S') ?_ 0 _ _ ⟨⟨_, rfl⟩, Nat.zero_le _, k2⟩
      rintro i E S2 ⟨⟨a1, rfl⟩, hi, k2⟩ IH
      repeat' first
       | refine Opl.val (op_load rfl (ld_bx bx (by assumption) _ rfl)) rfl ?_
       | refine Opl.val (op_lenL rfl hl.isL rfl) rfl ?_
       | refine Opl.val (op_lenL rfl hb.isL rfl) rfl ?_
       | refine Opl.fresh (op_int rfl rfl rfl rfl) rfl (fun q hq => ?_)
       | refine op_gyes rfl ?_ rfl
       | refine .gn ?_
       | (refine Opl.gonTN rfl rfl (fun hq => ?_) (fun hq => ?_) <;> subst hq)
       | (refine Opl.gonFN rfl rfl (fun hq => ?_) (fun hq => ?_) <;> subst hq)
       | (refine Opl.gonT rfl rfl (fun hq => ?_) (fun hq => ?_) <;> subst hq)
       | (refine Opl.gonF rfl rfl (fun hq => ?_) (fun hq => ?_) <;> subst hq)
       | refine Go.condT rfl ?_
       | refine Go.condF rfl ?_
       | (refine Go.condN rfl (fun hq => ?_) (fun hq => ?_) <;> subst hq)
       | (refine Go.condV rfl (fun hq => ?_) (fun hq => ?_) <;> subst hq)
       | exact At.fnr rfl rfl rfl ⟨⟨_, rfl⟩, s0.trans (by assumption)⟩
       | refine .std ?_ | refine .nil ?_ | refine .seq ?_ | refine .region ?_ | refine .xs ?_ | refine .kb ?_ | refine .leaf ?_ | refine .block ?_ | refine .gn ?_ | refine .dr ?_ | fail
      have hq : i < (elems lv).length := by have := of_decide_eq_true (by assumption : decide ((i : Int) < ((elems lv).length : Nat)) = true); omega
      obtain ⟨x, v, _, hix, hv, hm⟩ := hL.at hq
      have hx := IHN x _ (by have := Ty.part hm; omega) hv
      repeat' first
       | refine Opl.val (op_load rfl (ld_bx bx (by assumption) _ rfl)) rfl ?_
       | refine Opl.val (op_ixaV hl rfl rfl hix) rfl ?_
       | refine Opl.val (op_load rfl (ld_agg (Pt.cptr _ _ _) (TyC.len6 hv))) rfl ?_
       | (refine Opl.callQ (by assumption) rfl (by kernel_rfl) (hx _ _) rfl (fun v S3 hv k3 => ?_); obtain ⟨r, rfl⟩ := hv)
       | refine Opl.val (op_int rfl rfl rfl (inc_ok (i := i) (by omega))) rfl ?_
       | exact (IH (i + 1) _ _ (by omega) ⟨⟨_, rfl⟩, by omega, by assumption⟩).weaken ⟨rfl, rfl, rfl, rfl, trivial⟩
       | refine .std ?_ | refine .nil ?_ | refine .seq ?_ | refine .region ?_ | refine .xs ?_ | refine .kb ?_ | refine .leaf ?_ | refine .block ?_ | refine .gn ?_ | refine .dr ?_ | fail
    · refine ⟨fun hj => ?_⟩
      repeat' first | refine .std ?_ | refine .nil ?_ | refine .seq ?_ | refine .region ?_ | refine .xs ?_ | refine .kb ?_ | refine .leaf ?_ | refine .block ?_ | refine .gn ?_ | refine .dr ?_ | fail
      refine Go.weaken (E' := [(1, .int .i64 (IntKind.wrap .i64 (a - 1))), (2, .int .i64 b), (3, .ptr S.next 0), (7, .int .i64 (0 : Nat))]) ?_ ⟨rfl, rfl, rfl, rfl, trivial⟩
      refine Go.loop_ind (α := Nat) (fun i => (elems bv).length - i) (fun i E S' => (∃ a1, E = [(1, .int .i64 a1), (2, .int .i64 b), (3, .ptr S.next 0), (7, .int .i64 i)]) ∧ i ≤ (elems bv).length ∧ Same U S') ?_ 0 _ _ ⟨⟨_, rfl⟩, Nat.zero_le _, by assumption⟩
      rintro i E S2 ⟨⟨a1, rfl⟩, hi, k2⟩ IH
      repeat' first
       | exact hj _ _ ⟨_, ⟨rfl, rfl, rfl, trivial⟩, by assumption⟩
       | refine Opl.val (op_load rfl (ld_bx bx (by assumption) _ rfl)) rfl ?_
       | refine Opl.val (op_lenL rfl hl.isL rfl) rfl ?_
       | refine Opl.val (op_lenL rfl hb.isL rfl) rfl ?_
       | refine Opl.fresh (op_int rfl rfl rfl rfl) rfl (fun q hq => ?_)
       | refine op_gyes rfl ?_ rfl
       | refine .gn ?_
       | (refine Opl.gonTN rfl rfl (fun hq => ?_) (fun hq => ?_) <;> subst hq)
       | (refine Opl.gonFN rfl rfl (fun hq => ?_) (fun hq => ?_) <;> subst hq)
       | (refine Opl.gonT rfl rfl (fun hq => ?_) (fun hq => ?_) <;> subst hq)
       | (refine Opl.gonF rfl rfl (fun hq => ?_) (fun hq => ?_) <;> subst hq)
       | refine Go.condT rfl ?_
       | refine Go.condF rfl ?_
       | (refine Go.condN rfl (fun hq => ?_) (fun hq => ?_) <;> subst hq)
       | (refine Go.condV rfl (fun hq => ?_) (fun hq => ?_) <;> subst hq)
       | refine .std ?_ | refine .nil ?_ | refine .seq ?_ | refine .region ?_ | refine .xs ?_ | refine .kb ?_ | refine .leaf ?_ | refine .block ?_ | refine .gn ?_ | refine .dr ?_ | fail
      have hq : i < (elems bv).length := by have := of_decide_eq_true (by assumption : decide ((i : Int) < ((elems bv).length : Nat)) = true); omega
      obtain ⟨x, v, _, hix, ⟨hc, _, _⟩, hm⟩ := hB.at hq
      have hpt : ∀ S, Pt S (.cptr none v.cells 0) [.str x.1, .int .i64 x.2] := fun S => by rw [hc]; exact Pt.cptr _ _ _
      repeat' first
       | refine Opl.val (op_load rfl (ld_bx bx (by assumption) _ rfl)) rfl ?_
       | refine Opl.val (op_ixaV hb rfl rfl hix) rfl ?_
       | refine Opl.val (op_load rfl (ld_one ((hpt _).at _ rfl))) rfl ?_
       | refine Opl.fresh (op_int rfl rfl rfl rfl) rfl (fun q hq => ?_)
       | (refine Go.condV rfl (fun hq => ?_) (fun hq => ?_) <;> subst hq)
       | refine Opl.val (op_int rfl rfl rfl (inc_ok (i := i) (by omega))) rfl ?_
       | exact At.fnr rfl rfl rfl ⟨⟨_, rfl⟩, s0.trans (by assumption)⟩
       | exact (IH (i + 1) _ _ (by omega) ⟨⟨_, rfl⟩, by omega, by assumption⟩).weaken ⟨rfl, rfl, rfl, rfl, trivial⟩
       | refine .std ?_ | refine .nil ?_ | refine .seq ?_ | refine .region ?_ | refine .xs ?_ | refine .kb ?_ | refine .leaf ?_ | refine .block ?_ | refine .gn ?_ | refine .dr ?_ | fail
theorem fGreat {e : _} {cs : List V} (h : ExC e cs) : PuQ Tryz.prog 13 [.agg cs] (fun v => ∃ q, v = .bool q) := by
  intro S
  obtain ⟨U, hU, bx, s0⟩ := box1 S 27 cs
  have k0 : Same U U := Same.refl U
  refine CallTo.of (n := 6) Tryz.func13 rfl rfl ?_
  repeat' first
   | refine Opl.val (op_box rfl) rfl (Opl.cast (S' := U) ?_ hU)
   | refine Opl.val (op_load rfl (ld_bxA bx (by assumption) h.len7)) rfl ?_
   | (refine Opl.callQ (by assumption) rfl (by kernel_rfl) (left _ _ _ (Nat.le_refl _) h _ _) rfl (fun v S3 hv k3 => ?_); obtain ⟨r, rfl⟩ := hv)
   | exact At.fnr rfl rfl rfl ⟨⟨_, rfl⟩, s0.trans (by assumption)⟩
   | refine .std ?_ | refine .nil ?_ | refine .seq ?_ | refine .region ?_ | refine .xs ?_ | refine .kb ?_ | refine .leaf ?_ | refine .block ?_ | refine .gn ?_ | refine .dr ?_ | fail
theorem fGreatType {e : _} {cs : List V} (h : TyC e cs) : PuQ Tryz.prog 27 [.agg cs] (fun v => ∃ q, v = .bool q) := by
  intro S
  obtain ⟨U, hU, bx, s0⟩ := box1 S 46 cs
  have k0 : Same U U := Same.refl U
  refine CallTo.of (n := 6) Tryz.func27 rfl rfl ?_
  repeat' first
   | refine Opl.val (op_box rfl) rfl (Opl.cast (S' := U) ?_ hU)
   | refine Opl.val (op_load rfl (ld_bxA bx (by assumption) h.len6)) rfl ?_
   | (refine Opl.callQ (by assumption) rfl (by kernel_rfl) (typeLeft _ _ _ (Nat.le_refl _) h _ _) rfl (fun v S3 hv k3 => ?_); obtain ⟨r, rfl⟩ := hv)
   | exact At.fnr rfl rfl rfl ⟨⟨_, rfl⟩, s0.trans (by assumption)⟩
   | refine .std ?_ | refine .nil ?_ | refine .seq ?_ | refine .region ?_ | refine .xs ?_ | refine .kb ?_ | refine .leaf ?_ | refine .block ?_ | refine .gn ?_ | refine .dr ?_ | fail
end Go.Proofs.YtodiioeddlmjhaaGreatDoor
