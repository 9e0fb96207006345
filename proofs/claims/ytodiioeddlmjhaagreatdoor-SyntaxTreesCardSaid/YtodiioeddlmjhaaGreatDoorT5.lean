import Derived.Test.YtodiioeddlmjhaaGreatDoorT0
set_option linter.unusedVariables false
set_option linter.unusedSimpArgs false
namespace Go.Proofs.YtodiioeddlmjhaaGreatDoor
open Go.RowKit Go.Ev
set_option maxRecDepth 100000
set_option linter.unusedVariables false
set_option linter.unusedSimpArgs false
attribute [local irreducible] Go.Ev.opE
set_option maxHeartbeats 2000000 in
theorem idxFArm {σ : Type} {l : List Ar} {nv : V} (h1 : isLn 9 nv) (h2 : (elems nv).length ≤ huge) (h3 : All2 ArV l (elems nv)) (hlen : ∀ a v, ArV a v → v.cells.length = 9)
 (g : FuncId) (caps : List V) (hb : hasBody Tryz.prog g = true) (step : Ar → σ → Bool × σ) (J : σ → St → Prop) (c : Option Nat) (S : St)
 (hstep : ∀ a ∈ l, ∀ v, ArV a v → ∀ s S1, Kp c S S1 → J s S1 → CallTo Tryz.prog g (.agg v.cells :: caps) S1 (fun u S' => u = .bool (step a s).1 ∧ J (step a s).2 S' ∧ Kp c S1 S') (fun _ _ => False)) (s0 : σ) (h0 : J s0 S) :
 CallTo Tryz.prog 229 [nv, .func g [] caps] S (fun u S' => (∃ r : Int, u = .int .i64 r ∧ decide (r ≥ 0) = (anyS step l s0).1) ∧ J (anyS step l s0).2 S' ∧ Kp c S S') (fun _ _ => False) := by
 have h2 : (elems nv).length ≤ 9223372036854775807 := h2
 refine CallTo.of (n := 19) Tryz.func229 rfl rfl ?_
 repeat' first
  | refine Opl.val (op_lenL rfl h1.isL rfl) rfl ?_
  | refine .std ?_ | refine .nil ?_ | refine .seq ?_ | refine .region ?_ | refine .xs ?_ | refine .kb ?_ | refine .leaf ?_ | refine .block ?_ | refine .gn ?_ | refine .dr ?_ | fail
 refine Go.weaken (E' := [(0, nv), (1, .func g [] caps), (7, .int .i64 (elems nv).length), (8, .int .i64 (0 : Nat))]) ?_ ⟨rfl, rfl, rfl, rfl, trivial⟩
 refine Go.loop_ind (α := Nat) (fun i => (elems nv).length - i) (fun i E S' => E = [(0, nv), (1, .func g [] caps), (7, .int .i64 (elems nv).length), (8, .int .i64 i)] ∧ i ≤ (elems nv).length ∧ Kp c S S' ∧ ∃ s, J s S' ∧ anyS step l s0 = anyS step (l.drop i) s) ?_ 0 _ _ ⟨rfl, Nat.zero_le _, Kp.refl c S, s0, h0, rfl⟩
 rintro i E S1 ⟨rfl, hi, k1, s, hs, hd⟩ IH
 repeat' first
  | refine Opl.fresh (op_int rfl rfl rfl rfl) rfl (fun q hq => ?_)
  | refine .std ?_ | refine .nil ?_ | refine .seq ?_ | refine .region ?_ | refine .xs ?_ | refine .kb ?_ | refine .leaf ?_ | refine .block ?_ | refine .gn ?_ | refine .dr ?_ | fail
 refine Go.cond rfl (fun hq => ?_) (fun hq => ?_)
 ·subst hq
  have hq : i < (elems nv).length := by have := of_decide_eq_true (by assumption : decide ((i : Int) < ((elems nv).length : Nat)) = true); omega
  obtain ⟨x, v, hx, hix, hv, hm⟩ := h3.at hq
  have hst := hstep x hm v hv s S1 k1 hs
  rw [drop_at hx, anyS_cons] at hd
  obtain ⟨q, hq1⟩ : ∃ q, (step x s).1 = q := ⟨_, rfl⟩
  obtain ⟨s2, hs2⟩ : ∃ s2, (step x s).2 = s2 := ⟨_, rfl⟩
  rw [hq1, hs2] at hst hd
  repeat' first
   | refine Opl.val (op_ixaV h1 rfl rfl hix) rfl ?_
   | refine Opl.val (op_load rfl (ld_agg (Pt.cptr _ _ _) (hlen _ _ hv))) rfl ?_
   | refine Opl.callv rfl hb hst rfl (fun S2 h => ?_) (fun _ _ h => h.elim)
   | refine .std ?_ | refine .nil ?_ | refine .seq ?_ | refine .region ?_ | refine .xs ?_ | refine .kb ?_ | refine .leaf ?_ | refine .block ?_ | refine .gn ?_ | refine .dr ?_ | fail
  obtain ⟨j2, k2⟩ := h
  cases q with
  | true =>
   repeat' first
    | refine Go.condT rfl ?_
    | refine .std ?_ | refine .nil ?_ | refine .seq ?_ | refine .region ?_ | refine .xs ?_ | refine .kb ?_ | refine .leaf ?_ | refine .block ?_ | refine .gn ?_ | refine .dr ?_ | fail
   exact At.fnr rfl rfl rfl ⟨⟨_, rfl, by rw [hd]; simp⟩, by rw [hd]; exact j2, k1.trans k2⟩
  | false =>
   repeat' first
    | refine Go.condF rfl ?_
    | refine Opl.val (op_int rfl rfl rfl (inc_ok (i := i) (by omega))) rfl ?_
    | refine .std ?_ | refine .nil ?_ | refine .seq ?_ | refine .region ?_ | refine .xs ?_ | refine .kb ?_ | refine .leaf ?_ | refine .block ?_ | refine .gn ?_ | refine .dr ?_ | fail
   exact (IH (i + 1) _ S2 (by omega) ⟨rfl, by omega, k1.trans k2, s2, j2, by rw [hd]; rfl⟩).weaken ⟨rfl, rfl, rfl, rfl, trivial⟩
 ·subst hq
  have hq : (elems nv).length ≤ i := by have := of_decide_eq_false (by assumption : decide ((i : Int) < ((elems nv).length : Nat)) = false); omega
  have hnil : l.drop i = [] := List.drop_eq_nil_of_le (by rw [h3.1]; omega)
  rw [hnil] at hd
  repeat' first | refine .std ?_ | refine .nil ?_ | refine .seq ?_ | refine .region ?_ | refine .xs ?_ | refine .kb ?_ | refine .leaf ?_ | refine .block ?_ | refine .gn ?_ | refine .dr ?_ | fail
  exact At.fnr rfl rfl rfl ⟨⟨_, rfl, by rw [hd]; rfl⟩, by rw [hd]; exact hs, k1⟩
theorem contFArm {σ : Type} {l : List Ar} {nv : V} (h1 : isLn 9 nv) (h2 : (elems nv).length ≤ huge) (h3 : All2 ArV l (elems nv)) (hlen : ∀ a v, ArV a v → v.cells.length = 9)
 (g : FuncId) (caps : List V) (hb : hasBody Tryz.prog g = true) (step : Ar → σ → Bool × σ) (J : σ → St → Prop) (c : Option Nat) (S : St)
 (hstep : ∀ a ∈ l, ∀ v, ArV a v → ∀ s S1, Kp c S S1 → J s S1 → CallTo Tryz.prog g (.agg v.cells :: caps) S1 (fun u S' => u = .bool (step a s).1 ∧ J (step a s).2 S' ∧ Kp c S1 S') (fun _ _ => False)) (s0 : σ) (h0 : J s0 S) :
 CallTo Tryz.prog 215 [nv, .func g [] caps] S (fun u S' => u = .bool (anyS step l s0).1 ∧ J (anyS step l s0).2 S' ∧ Kp c S S') (fun _ _ => False) := by
 refine CallTo.of (n := 9) Tryz.func215 rfl rfl ?_
 repeat' first
  | (refine Opl.call rfl (by kernel_rfl) (idxFArm h1 h2 h3 hlen g caps hb step J c S hstep s0 h0) rfl (fun v S1 hv => ?_) (fun _ _ h => h.elim); obtain ⟨⟨r, rfl, hr⟩, j1, k1⟩ := hv)
  | refine Opl.val (op_int rfl rfl rfl (geq_i (by assumption))) rfl ?_
  | exact At.fnr rfl rfl rfl ⟨rfl, by assumption, by assumption⟩
  | refine .std ?_ | refine .nil ?_ | refine .seq ?_ | refine .region ?_ | refine .xs ?_ | refine .kb ?_ | refine .leaf ?_ | refine .block ?_ | refine .gn ?_ | refine .dr ?_ | fail
set_option maxHeartbeats 4000000 in
theorem eachF {σ : Type} {e : Ex} {cs : List V} (he : ExC e cs) (g : FuncId) (caps : List V) (hb : hasBody Tryz.prog g = true) (step : Ex → σ → Bool × σ) (J : σ → St → Prop) (c : Option Nat) (S : St) (hc : ∀ d, c = some d → d < S.next)
 (hJ : ∀ s S1 S2, J s S1 → Same S1 S2 → J s S2)
 (hstep : ∀ x ∈ e.parts, ∀ xs, ExC x xs → ∀ s S1, Kp c S S1 → J s S1 → CallTo Tryz.prog g (.agg xs :: caps) S1 (fun u S' => u = .bool (step x s).1 ∧ J (step x s).2 S' ∧ Kp c S1 S') (fun _ _ => False)) (s0 : σ) (h0 : J s0 S) :
 CallTo Tryz.prog 140 [.agg cs, .func g [] caps] S (fun u S' => u = .bool (runS step e.parts s0).1 ∧ J (runS step e.parts s0).2 S' ∧ Kp c S S') (fun _ _ => False) := by
 obtain ⟨nv, lv, av, rfl, hk, hn, hs, ht, hnm, hl, hll, ha, hal, hL, hA⟩ := he.inv
 have hll : (elems lv).length ≤ 9223372036854775807 := hll
 have hal : (elems av).length ≤ 9223372036854775807 := hal
 obtain ⟨U, hU, bx, s1⟩ := box1 S 27 [.int .i64 e.kind, .int .i64 e.n, .str e.s, .str e.t, nv, lv, av]
 have bk : Bk c U S.next 27 [.int .i64 e.kind, .int .i64 e.n, .str e.s, .str e.t, nv, lv, av] := Bk.of bx (fun h => by have := hc _ h; omega)
 have ks : Kp c S U := s1.kp c
 have k0 : Kp c U U := Kp.refl c U
 have j0 : J s0 U := hJ _ _ _ h0 s1
 refine CallTo.of (n := 34) Tryz.func140 rfl rfl ?_
 repeat' first
  | refine Opl.val (op_box rfl) rfl (Opl.cast (S' := U) ?_ hU)
  | refine Opl.val (op_load rfl (ld_k bk k0 _ rfl)) rfl ?_
  | refine Opl.val (op_lenL rfl hl.isL rfl) rfl ?_
  | refine Go.joinN 0 (fun E S' => Sub [(1, .func g [] caps), (2, .ptr S.next 0)] E ∧ Kp c U S' ∧ ∃ s, J s S' ∧ runS step e.parts s0 = runS step (e.arms.map Ar.body) s) ?_ ?_
  | refine .std ?_ | refine .nil ?_ | refine .seq ?_ | refine .region ?_ | refine .xs ?_ | refine .kb ?_ | refine .leaf ?_ | refine .block ?_ | refine .gn ?_ | refine .dr ?_ | fail
 ·refine ⟨?_⟩
  rintro E S2 ⟨hE, k2, s2, j2, hd2⟩
  refine Go.weaken ?_ hE
  repeat' first
   | refine Opl.val (op_load rfl (ld_k bk k2 _ rfl)) rfl ?_
   | refine Opl.val (op_lenL rfl ha.isL rfl) rfl ?_
   | refine .std ?_ | refine .nil ?_ | refine .seq ?_ | refine .region ?_ | refine .xs ?_ | refine .kb ?_ | refine .leaf ?_ | refine .block ?_ | refine .gn ?_ | refine .dr ?_ | fail
  refine Go.weaken (E' := [(1, .func g [] caps), (22, av), (23, .int .i64 (elems av).length), (24, .int .i64 (0 : Nat))]) ?_ ⟨rfl, rfl, rfl, rfl, trivial⟩
  refine Go.loop_ind (α := Nat) (fun i => (elems av).length - i) (fun i E S' => E = [(1, .func g [] caps), (22, av), (23, .int .i64 (elems av).length), (24, .int .i64 i)] ∧ i ≤ (elems av).length ∧ Kp c U S' ∧ ∃ s, J s S' ∧ runS step e.parts s0 = runS step ((e.arms.map Ar.body).drop i) s) ?_ 0 _ _ ⟨rfl, Nat.zero_le _, k2, s2, j2, hd2⟩
  rintro i E S3 ⟨rfl, hi, k3, s3, j3, hd⟩ IH
  repeat' first
   | refine Opl.fresh (op_int rfl rfl rfl rfl) rfl (fun q hq => ?_)
   | refine .std ?_ | refine .nil ?_ | refine .seq ?_ | refine .region ?_ | refine .xs ?_ | refine .kb ?_ | refine .leaf ?_ | refine .block ?_ | refine .gn ?_ | refine .dr ?_ | fail
  refine Go.cond rfl (fun hq => ?_) (fun hq => ?_)
  ·subst hq
   have hq : i < (elems av).length := by have := of_decide_eq_true (by assumption : decide ((i : Int) < ((elems av).length : Nat)) = true); omega
   obtain ⟨x, v, hx, hix, hv, hm⟩ := hA.at hq
   obtain ⟨W, st1, b1, k4⟩ := lay (P := Tryz.prog) (T := 100) [.str [], .nils, .int .i64 0, .int .i64 0, .str [], .str [], .nils, .nils, .nils] S3 hv.len9 hv.ones
   have hv2 := hv
   obtain ⟨nv2, cs2, hcv, ho, hn2, hbd⟩ := hv2
   rw [hcv] at b1
   have hx2 : (e.arms.map Ar.body)[i]? = some x.body := by simp [hx]
   have hmem : x.body ∈ e.parts := by unfold Ex.parts; exact List.mem_append_right _ (List.mem_map_of_mem hm)
   have k5 : Kp c U W := k3.then k4
   have hst := hstep x.body hmem _ hbd s3 W (ks.trans k5) (hJ _ _ _ j3 k4)
   rw [drop_at hx2, runS_cons] at hd
   obtain ⟨q, hq1⟩ : ∃ q, (step x.body s3).1 = q := ⟨_, rfl⟩
   obtain ⟨s4, hs4⟩ : ∃ s4, (step x.body s3).2 = s4 := ⟨_, rfl⟩
   rw [hq1, hs4] at hst hd
   repeat' first
    | refine Opl.val (op_ixaV ha rfl rfl hix) rfl ?_
    | refine Opl.val (op_load rfl (ld_agg (Pt.cptr _ _ _) hv.len9)) rfl ?_
    | refine Opl.val op_alloc rfl ?_
    | refine Opl.eff (op_store rfl rfl st1) ?_
    | refine Opl.val (op_load rfl (ld_agg ((b1.pt (Same.refl _)).drop 2) hbd.len7)) rfl ?_
    | refine Opl.callv rfl hb hst rfl (fun S4 h => ?_) (fun _ _ h => h.elim)
    | refine .std ?_ | refine .nil ?_ | refine .seq ?_ | refine .region ?_ | refine .xs ?_ | refine .kb ?_ | refine .leaf ?_ | refine .block ?_ | refine .gn ?_ | refine .dr ?_ | fail
   obtain ⟨j4, k6⟩ := h
   cases q with
   | false =>
    repeat' first
     | refine Go.condT rfl ?_
     | refine .std ?_ | refine .nil ?_ | refine .seq ?_ | refine .region ?_ | refine .xs ?_ | refine .kb ?_ | refine .leaf ?_ | refine .block ?_ | refine .gn ?_ | refine .dr ?_ | fail
    exact At.fnr rfl rfl rfl ⟨by rw [hd]; rfl, by rw [hd]; exact j4, (ks.trans k5).trans k6⟩
   | true =>
    repeat' first
     | refine Go.condF rfl ?_
     | refine Opl.val (op_int rfl rfl rfl (inc_ok (i := i) (by omega))) rfl ?_
     | refine .std ?_ | refine .nil ?_ | refine .seq ?_ | refine .region ?_ | refine .xs ?_ | refine .kb ?_ | refine .leaf ?_ | refine .block ?_ | refine .gn ?_ | refine .dr ?_ | fail
    exact (IH (i + 1) _ S4 (by omega) ⟨rfl, by omega, k5.trans k6, s4, j4, by rw [hd]; rfl⟩).weaken ⟨rfl, rfl, rfl, rfl, trivial⟩
  ·subst hq
   have hq : (elems av).length ≤ i := by have := of_decide_eq_false (by assumption : decide ((i : Int) < ((elems av).length : Nat)) = false); omega
   have hnil : (e.arms.map Ar.body).drop i = [] := List.drop_eq_nil_of_le (by simp [hA.1]; omega)
   rw [hnil] at hd
   repeat' first | refine .std ?_ | refine .nil ?_ | refine .seq ?_ | refine .region ?_ | refine .xs ?_ | refine .kb ?_ | refine .leaf ?_ | refine .block ?_ | refine .gn ?_ | refine .dr ?_ | fail
   exact At.fnr rfl rfl rfl ⟨by rw [hd]; rfl, by rw [hd]; exact j3, ks.trans k3⟩
 ·refine ⟨fun hj => ?_⟩
  repeat' first | refine .std ?_ | refine .nil ?_ | refine .seq ?_ | refine .region ?_ | refine .xs ?_ | refine .kb ?_ | refine .leaf ?_ | refine .block ?_ | refine .gn ?_ | refine .dr ?_ | fail
  refine Go.weaken (E' := [(1, .func g [] caps), (2, .ptr S.next 0), (10, lv), (11, .int .i64 (elems lv).length), (12, .int .i64 (0 : Nat))]) ?_ ⟨rfl, rfl, rfl, rfl, rfl, trivial⟩
  refine Go.loop_ind (α := Nat) (fun i => (elems lv).length - i) (fun i E S' => E = [(1, .func g [] caps), (2, .ptr S.next 0), (10, lv), (11, .int .i64 (elems lv).length), (12, .int .i64 i)] ∧ i ≤ (elems lv).length ∧ Kp c U S' ∧ ∃ s, J s S' ∧ runS step e.parts s0 = runS step (e.l.drop i ++ e.arms.map Ar.body) s) ?_ 0 _ _ ⟨rfl, Nat.zero_le _, k0, s0, j0, rfl⟩
  rintro i E S3 ⟨rfl, hi, k3, s3, j3, hd⟩ IH
  repeat' first
   | refine Opl.fresh (op_int rfl rfl rfl rfl) rfl (fun q hq => ?_)
   | refine .std ?_ | refine .nil ?_ | refine .seq ?_ | refine .region ?_ | refine .xs ?_ | refine .kb ?_ | refine .leaf ?_ | refine .block ?_ | refine .gn ?_ | refine .dr ?_ | fail
  refine Go.cond rfl (fun hq => ?_) (fun hq => ?_)
  ·subst hq
   have hq : i < (elems lv).length := by have := of_decide_eq_true (by assumption : decide ((i : Int) < ((elems lv).length : Nat)) = true); omega
   obtain ⟨x, v, hx, hix, hv, hm⟩ := hL.at hq
   obtain ⟨W, st1, b1, k4⟩ := lay (P := Tryz.prog) (T := 27) [.int .i64 0, .int .i64 0, .str [], .str [], .nils, .nils, .nils] S3 hv.len7 hv.ones
   have hmem : x ∈ e.parts := by unfold Ex.parts; exact List.mem_append_left _ hm
   have k5 : Kp c U W := k3.then k4
   have hst := hstep x hmem _ hv s3 W (ks.trans k5) (hJ _ _ _ j3 k4)
   rw [drop_at hx, List.cons_append, runS_cons] at hd
   obtain ⟨q, hq1⟩ : ∃ q, (step x s3).1 = q := ⟨_, rfl⟩
   obtain ⟨s4, hs4⟩ : ∃ s4, (step x s3).2 = s4 := ⟨_, rfl⟩
   rw [hq1, hs4] at hst hd
   repeat' first
    | refine Opl.val (op_ixaV hl rfl rfl hix) rfl ?_
    | refine Opl.val (op_load rfl (ld_agg (Pt.cptr _ _ _) hv.len7)) rfl ?_
    | refine Opl.val op_alloc rfl ?_
    | refine Opl.eff (op_store rfl rfl st1) ?_
    | refine Opl.val (op_load rfl (ld_bxA b1 (Same.refl _) hv.len7)) rfl ?_
    | refine Opl.callv rfl hb hst rfl (fun S4 h => ?_) (fun _ _ h => h.elim)
    | refine .std ?_ | refine .nil ?_ | refine .seq ?_ | refine .region ?_ | refine .xs ?_ | refine .kb ?_ | refine .leaf ?_ | refine .block ?_ | refine .gn ?_ | refine .dr ?_ | fail
   obtain ⟨j4, k6⟩ := h
   cases q with
   | false =>
    repeat' first
     | refine Go.condT rfl ?_
     | refine .std ?_ | refine .nil ?_ | refine .seq ?_ | refine .region ?_ | refine .xs ?_ | refine .kb ?_ | refine .leaf ?_ | refine .block ?_ | refine .gn ?_ | refine .dr ?_ | fail
    exact At.fnr rfl rfl rfl ⟨by rw [hd]; rfl, by rw [hd]; exact j4, (ks.trans k5).trans k6⟩
   | true =>
    repeat' first
     | refine Go.condF rfl ?_
     | refine Opl.val (op_int rfl rfl rfl (inc_ok (i := i) (by omega))) rfl ?_
     | refine .std ?_ | refine .nil ?_ | refine .seq ?_ | refine .region ?_ | refine .xs ?_ | refine .kb ?_ | refine .leaf ?_ | refine .block ?_ | refine .gn ?_ | refine .dr ?_ | fail
    exact (IH (i + 1) _ S4 (by omega) ⟨rfl, by omega, k5.trans k6, s4, j4, by rw [hd]; rfl⟩).weaken ⟨rfl, rfl, rfl, rfl, rfl, trivial⟩
  ·subst hq
   have hq : (elems lv).length ≤ i := by have := of_decide_eq_false (by assumption : decide ((i : Int) < ((elems lv).length : Nat)) = false); omega
   have hnil : e.l.drop i = [] := List.drop_eq_nil_of_le (by rw [hL.1]; omega)
   rw [hnil, List.nil_append] at hd
   repeat' first
    | exact hj _ _ ⟨⟨rfl, rfl, trivial⟩, k3, s3, j3, hd⟩
    | refine .std ?_ | refine .nil ?_ | refine .seq ?_ | refine .region ?_ | refine .xs ?_ | refine .kb ?_ | refine .leaf ?_ | refine .block ?_ | refine .gn ?_ | refine .dr ?_ | fail
def Meas (id : Nat) (s : Int × Int) (S : St) : Prop := id < S.next ∧ S.h.find id = some (.box 91 [.int .i64 s.1, .int .i64 s.2])
theorem Meas.same {id : Nat} {s : Int × Int} {S S' : St} (h : Meas id s S) (k : Same S S') : Meas id s S' := ⟨Nat.lt_of_lt_of_le h.1 k.next, by rw [k.find _ h.1]; exact h.2⟩
theorem dle {d : Nat} (h : decide ((d : Int) > 200) = false) : d ≤ 200 := by have := of_decide_eq_false h; omega
end Go.Proofs.YtodiioeddlmjhaaGreatDoor
