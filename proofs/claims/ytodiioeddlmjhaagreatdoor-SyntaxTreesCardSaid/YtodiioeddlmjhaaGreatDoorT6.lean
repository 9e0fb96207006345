import Derived.Test.YtodiioeddlmjhaaGreatDoorT4
import Derived.Test.YtodiioeddlmjhaaGreatDoorT5
set_option linter.unusedVariables false
set_option linter.unusedSimpArgs false
namespace Go.Proofs.YtodiioeddlmjhaaGreatDoor
open Go.RowKit Go.Ev
set_option maxRecDepth 100000
set_option linter.unusedVariables false
set_option linter.unusedSimpArgs false
attribute [local irreducible] Go.Ev.opE
def ErrB (id : Nat) (n : Int) (S : St) : Prop := id < S.next ∧ S.h.find id = some (.box 30 [.int .i64 n])
theorem ErrB.same {id : Nat} {n : Int} {S S' : St} (h : ErrB id n S) (k : Same S S') : ErrB id n S' := ⟨Nat.lt_of_lt_of_le h.1 k.next, by rw [k.find _ h.1]; exact h.2⟩
theorem nodesC {x : Ex} {xs : List V} (hx : ExC x xs) (hn : Pu Tryz.prog 82 [.agg xs] (.int .i64 (nodesE x))) (id : Nat) (n : Int) (S : St) (hb : ErrB id n S) :
 CallTo Tryz.prog 145 [.agg xs, .ptr id 0] S (fun u S' => u = .bool (nodeStep x n).1 ∧ ErrB id (nodeStep x n).2 S' ∧ Kp (some id) S S') (fun _ _ => False) := by
 obtain ⟨U, hU, bx, s0⟩ := box1 S 27 xs
 have k0 : Same U U := Same.refl U
 obtain ⟨q, hq⟩ : ∃ q, decide (nodesE x = 0) = q := ⟨_, rfl⟩
 refine CallTo.of (n := 8) Tryz.func145 rfl rfl ?_
 repeat' first
  | refine Opl.val (op_box rfl) rfl (Opl.cast (S' := U) ?_ hU)
  | refine Opl.val (op_load rfl (ld_bxA bx (by assumption) hx.len7)) rfl ?_
  | refine Opl.callS k0 rfl (by kernel_rfl) hn rfl (fun S4 k4 => ?_)
  | refine .std ?_ | refine .nil ?_ | refine .seq ?_ | refine .region ?_ | refine .xs ?_ | refine .kb ?_ | refine .leaf ?_ | refine .block ?_ | refine .gn ?_ | refine .dr ?_ | fail
 have b4 : ErrB id n S4 := (hb.same s0).same k4
 obtain ⟨S5, h5⟩ : ∃ S5 : St, S5 = { S4 with h := S4.h.put id (.box 30 [.int .i64 (nodesE x)]) } := ⟨_, rfl⟩
 have hst := st_box1 (P := Tryz.prog) (T := 30) (v := .int .i64 (nodesE x)) b4.2 rfl
 rw [← h5] at hst
 have b5 : S5.h.find id = some (.box 30 [.int .i64 (nodesE x)]) := by rw [h5]; simp [Tr.find_put]
 have k5 : Kp (some id) S S5 := by rw [h5]; exact ((s0.trans k4).kp _).put _
 repeat' first
  | refine Opl.eff (op_store rfl rfl hst) ?_
  | refine Opl.val (op_load rfl (ld_one (pt_box b5))) rfl ?_
  | refine Opl.val (op_int rfl rfl rfl (eql_i hq)) rfl ?_
  | exact At.fnr rfl rfl rfl ⟨pack_b hq.symm, ⟨by rw [h5]; exact b4.1, b5⟩, k5⟩
  | refine .std ?_ | refine .nil ?_ | refine .seq ?_ | refine .region ?_ | refine .xs ?_ | refine .kb ?_ | refine .leaf ?_ | refine .block ?_ | refine .gn ?_ | refine .dr ?_ | fail
set_option maxHeartbeats 4000000 in
theorem nodesF : ∀ (N : Nat) (e : Ex) (cs : List V), e.nodes ≤ N → ExC e cs → Pu Tryz.prog 82 [.agg cs] (.int .i64 (nodesE e)) := by
 intro N
 induction N with
 | zero => intro e cs hN; cases e; simp [Ex.nodes] at hN
 | succ N IHN =>
  intro e cs hN he S
  obtain ⟨U, hU, bx, s0⟩ := box1 S 27 cs
  have k0 : Same U U := Same.refl U
  have hnode := nodeF he
  obtain ⟨r, hr⟩ : ∃ r, nodeE e = r := ⟨_, rfl⟩
  have hspec := nodesE_eq e
  rw [hr] at hnode hspec
  refine CallTo.of (n := 12) Tryz.func82 rfl rfl ?_
  repeat' first
   | refine Opl.val (op_box rfl) rfl (Opl.cast (S' := U) ?_ hU)
   | refine Opl.val (op_load rfl (ld_bxA bx (by assumption) he.len7)) rfl ?_
   | refine Opl.callS k0 rfl (by kernel_rfl) hnode rfl (fun S4 k4 => ?_)
   | refine .std ?_ | refine .nil ?_ | refine .seq ?_ | refine .region ?_ | refine .xs ?_ | refine .kb ?_ | refine .leaf ?_ | refine .block ?_ | refine .gn ?_ | refine .dr ?_ | fail
  obtain ⟨W, st1, b1, k5⟩ := lay1 (P := Tryz.prog) (T := 30) [.int .i64 0] S4 (v := .int .i64 r) rfl
  obtain ⟨q, hq⟩ : ∃ q, decide (r = 0) = q := ⟨_, rfl⟩
  have kW : Same W W := Same.refl W
  have kUW : Same U W := k4.trans k5
  have hlt : S4.next < W.next := b1.lt
  have hst := eachF he 145 [.ptr S4.next 0] (by kernel_rfl) nodeStep (fun n S' => ErrB S4.next n S') (some S4.next) W (fun d hd => by cases hd; exact hlt) (fun s S1 S2 h k => h.same k)
   (fun x hx xs hxs s S1 k1 hJ => nodesC hxs (IHN x xs (by have := Ex.parts_nodes hx; omega) hxs) S4.next s S1 hJ)
  have hle : S.next ≤ S4.next := (s0.trans k4).next
  cases q with
  | false =>
   have hr0 : r ≠ 0 := of_decide_eq_false hq
   rw [show thenE r (errsE e.parts) = r from if_neg hr0] at hspec
   repeat' first
    | refine Opl.val op_alloc rfl ?_
    | refine Opl.eff (op_store rfl rfl st1) ?_
    | refine Opl.val (op_load rfl (ld_b1 b1 (by assumption))) rfl ?_
    | refine Opl.val (op_int rfl rfl rfl (eql_i hq)) rfl ?_
    | refine Go.condF rfl ?_
    | exact At.fnr rfl rfl rfl ⟨pack_n hspec.symm, s0.trans kUW⟩
    | refine .std ?_ | refine .nil ?_ | refine .seq ?_ | refine .region ?_ | refine .xs ?_ | refine .kb ?_ | refine .leaf ?_ | refine .block ?_ | refine .gn ?_ | refine .dr ?_ | fail
  | true =>
   have hr0 : r = 0 := of_decide_eq_true hq
   subst hr0
   have hst := hst 0 ⟨hlt, b1.box⟩
   rw [run_nodes] at hst
   rw [thenE_zero] at hspec
   rw [← hspec] at hst
   repeat' first
    | refine Opl.val op_alloc rfl ?_
    | refine Opl.eff (op_store rfl rfl st1) ?_
    | refine Opl.val (op_load rfl (ld_b1 b1 (by assumption))) rfl ?_
    | refine Opl.val (op_load rfl (ld_bxA bx kUW he.len7)) rfl ?_
    | refine Opl.val (op_int rfl rfl rfl (eql_i hq)) rfl ?_
    | refine Go.condT rfl ?_
    | refine Opl.callv rfl (by kernel_rfl) hst rfl (fun S6 h => ?_) (fun _ _ h => h.elim)
    | refine .std ?_ | refine .nil ?_ | refine .seq ?_ | refine .region ?_ | refine .xs ?_ | refine .kb ?_ | refine .leaf ?_ | refine .block ?_ | refine .gn ?_ | refine .dr ?_ | fail
   obtain ⟨j6, k6⟩ := h
   repeat' first
    | refine Opl.val (op_load rfl (ld_one (pt_box j6.2))) rfl ?_
    | exact At.fnr rfl rfl rfl ⟨rfl, k6.after (s0.trans kUW) hle⟩
    | refine .std ?_ | refine .nil ?_ | refine .seq ?_ | refine .region ?_ | refine .xs ?_ | refine .kb ?_ | refine .leaf ?_ | refine .block ?_ | refine .gn ?_ | refine .dr ?_ | fail
end Go.Proofs.YtodiioeddlmjhaaGreatDoor
namespace Go.Proofs.YtodiioeddlmjhaaGreatDoor
open Go.RowKit Go.Ev
set_option maxRecDepth 100000
set_option linter.unusedVariables false
set_option linter.unusedSimpArgs false
attribute [local irreducible] Go.Ev.opE
def TakeOk (x : Ex) (xs : List V) (d : Nat) : Prop := ∀ (id : Nat) (s : Int × Int) (S : St), Meas id s S →
 CallTo Tryz.prog 80 [.ptr id 0, .agg xs, .int .i64 d] S (fun u S' => u = .bool (takeX x d s).1 ∧ Meas id (takeX x d s).2 S' ∧ Kp (some id) S S') (fun _ _ => False)
set_option maxHeartbeats 2000000 in
theorem takeC {x : Ex} {xs : List V} (hx : ExC x xs) {id a b d : Nat} (hd : d ≤ 200) (hrec : TakeOk x xs (d + 1)) {U : St} (ba : Bk (some id) U a 174 [.ptr id 0]) (bb : Bk (some id) U b 3 [.int .i64 d]) (s : Int × Int) (S : St) (k : Kp (some id) U S) (hm : Meas id s S) :
 CallTo Tryz.prog 141 [.agg xs, .ptr a 0, .ptr b 0] S (fun u S' => u = .bool (takeStep (d + 1) x s).1 ∧ Meas id (takeStep (d + 1) x s).2 S' ∧ Kp (some id) S S') (fun _ _ => False) := by
 obtain ⟨U1, hU, bx, s0⟩ := box1 S 27 xs
 have k0 : Same U1 U1 := Same.refl U1
 have k1 : Kp (some id) U U1 := k.then s0
 have hc := hrec id s U1 (hm.same s0)
 refine CallTo.of (n := 10) Tryz.func141 rfl rfl ?_
 repeat' first
  | refine Opl.val (op_box rfl) rfl (Opl.cast (S' := U1) ?_ hU)
  | refine Opl.val (op_load rfl (ld_k1 ba k1)) rfl ?_
  | refine Opl.val (op_load rfl (ld_k1 bb k1)) rfl ?_
  | refine Opl.val (op_load rfl (ld_bxA bx k0 hx.len7)) rfl ?_
  | refine Opl.val (op_int rfl rfl rfl (inc_ok (i := d) (by omega))) rfl ?_
  | refine Opl.callv rfl (by kernel_rfl) hc rfl (fun S6 h => ?_) (fun _ _ h => h.elim)
  | refine .std ?_ | refine .nil ?_ | refine .seq ?_ | refine .region ?_ | refine .xs ?_ | refine .kb ?_ | refine .leaf ?_ | refine .block ?_ | refine .gn ?_ | refine .dr ?_ | fail
 exact At.fnr rfl rfl rfl ⟨rfl, h.1, (s0.kp _).trans h.2⟩
set_option maxHeartbeats 8000000 in
theorem takeF : ∀ (N : Nat) (e : Ex) (cs : List V), e.nodes ≤ N → ExC e cs → ∀ d : Nat, d ≤ 201 → TakeOk e cs d := by
 intro N
 induction N with
 | zero => intro e cs hN; cases e; simp [Ex.nodes] at hN
 | succ N IHN =>
  intro e cs hN he d hd id s S hm
  obtain ⟨l, p⟩ := s
  have hspec := takeX_eq e d (l, p)
  simp only at hspec
  obtain ⟨U1, U2, hU1, hU2, b1, b2, s0⟩ := box2 S 174 27 [.ptr id 0] cs
  obtain ⟨U, hU, b3, s1⟩ := box1 U2 3 [.int .i64 d]
  have sU : Same S U := s0.trans s1
  have hid := hm.1
  have n1 : U1.next = S.next + 1 := by rw [hU1]; rfl
  have n2 : U2.next = S.next + 2 := by rw [hU2]; simp [St.new, n1]
  have k1 : Bk (some id) U S.next 174 [.ptr id 0] := Bk.of (b1.same s1) (fun h => by cases h; omega)
  have k2 : Bk (some id) U U1.next 27 cs := Bk.of (b2.same s1) (fun h => by cases h; omega)
  have k3 : Bk (some id) U U2.next 3 [.int .i64 d] := Bk.of b3 (fun h => by cases h; omega)
  have mU : Meas id (l, p) U := hm.same sU
  obtain ⟨l1, hl1⟩ : ∃ l1, IntKind.wrap .i64 (l - 1) = l1 := ⟨_, rfl⟩
  obtain ⟨p1, hp1⟩ : ∃ p1, (if (d : Int) > p then (d : Int) else p) = p1 := ⟨_, rfl⟩
  rw [hl1, hp1] at hspec
  have hsub : intOp .sub .i64 l 1 = some (.int .i64 l1) := by simp only [intOp, hl1]
  have hmax : ∀ ts S, builtinE Tryz.prog .max ts [.int .i64 p, .int .i64 d] S = some (.int .i64 p1, S) := fun ts S => by
   rw [← hp1]
   simp [builtinE, foldMax]
  obtain ⟨S1, h1⟩ : ∃ S1 : St, S1 = { U with h := U.h.put id (.box 91 [.int .i64 l1, .int .i64 p]) } := ⟨_, rfl⟩
  have st1 : storeE Tryz.prog 3 (.ptr id 0) (.int .i64 l1) U = some S1 := by rw [h1]; exact st_one mU.2 rfl rfl
  have f1 : S1.h.find id = some (.box 91 [.int .i64 l1, .int .i64 p]) := by rw [h1]; simp [Tr.find_put]
  have kp1 : Kp (some id) U S1 := by rw [h1]; exact (Kp.refl _ _).put _
  obtain ⟨S2, h2⟩ : ∃ S2 : St, S2 = { S1 with h := S1.h.put id (.box 91 [.int .i64 l1, .int .i64 p1]) } := ⟨_, rfl⟩
  have st2 : storeE Tryz.prog 3 (.ptr id 1) (.int .i64 p1) S1 = some S2 := by rw [h2]; exact st_one f1 rfl rfl
  have f2 : S2.h.find id = some (.box 91 [.int .i64 l1, .int .i64 p1]) := by rw [h2]; simp [Tr.find_put]
  have kp2 : Kp (some id) U S2 := by rw [h2]; exact kp1.put _
  have hlt2 : id < S2.next := by rw [h2, h1]; exact mU.1
  have kS2 : Kp (some id) S S2 := (sU.kp _).trans kp2
  have kU : Kp (some id) U U := Kp.refl _ _
  obtain ⟨q1, g1⟩ : ∃ q, decide (l1 < 0) = q := ⟨_, rfl⟩
  obtain ⟨q2, g2⟩ : ∃ q, decide ((d : Int) > 200) = q := ⟨_, rfl⟩
  have hst := fun hd2 : d ≤ 200 => eachF he 141 [.ptr S.next 0, .ptr U2.next 0] (by kernel_rfl) (takeStep (d + 1)) (Meas id) (some id) S2 (fun d hd => by cases hd; exact hlt2) (fun s S1 S2 h k => h.same k)
   (fun x hx xs hxs s S3 k4 hM => takeC hxs hd2 (fun id' s' S' => IHN x xs (by have := Ex.parts_nodes hx; omega) hxs (d + 1) (by omega) id' s' S') k1 k3 s S3 (kp2.trans k4) hM) (l1, p1) ⟨hlt2, f2⟩
  have hres : ∀ q, (decide (l1 < 0) || decide ((d : Int) > 200)) = q → takeX e d (l, p) = if q then (false, (l1, p1)) else runS (takeStep (d + 1)) e.parts (l1, p1) := by
   intro q hq
   rw [hspec]
   have : (l1 < 0 ∨ d > 200) ↔ q = true := by rw [← hq]; simp; omega
   by_cases hc : l1 < 0 ∨ d > 200
   ·rw [if_pos hc, if_pos (this.1 hc)]
   ·rw [if_neg hc, if_neg (fun h => hc (this.2 h))]
  rw [g1, g2] at hres
  refine CallTo.of (n := 35) Tryz.func80 rfl rfl ?_
  repeat' first
   | refine Opl.val (op_box rfl) rfl (Opl.cast (S' := U1) ?_ hU1)
   | refine Opl.val (op_box rfl) rfl (Opl.cast (S' := U2) ?_ hU2)
   | refine Opl.val (op_box rfl) rfl (Opl.cast (S' := U) ?_ hU)
   | refine Opl.val (op_load rfl (ld_k1 k1 (by assumption))) rfl ?_
   | refine Opl.val (op_load rfl (ld_k1 k3 (by assumption))) rfl ?_
   | refine Opl.val (op_load rfl (ld_kA k2 (by assumption) he.len7)) rfl ?_
   | refine Opl.val (op_load rfl (ld_one ((pt_box mU.2).at 0 rfl))) rfl ?_
   | refine Opl.val (op_load rfl (ld_one ((pt_box f1).at 1 rfl))) rfl ?_
   | refine Opl.val (op_load rfl (ld_one ((pt_box f2).at 0 rfl))) rfl ?_
   | refine Opl.val (op_int rfl rfl rfl hsub) rfl ?_
   | refine Opl.val (op_bltn rfl (hmax _ _)) rfl ?_
   | refine Opl.eff (op_store rfl rfl st1) ?_
   | refine Opl.eff (op_store rfl rfl st2) ?_
   | refine Opl.val (op_int rfl rfl rfl (lss_i g1)) rfl ?_
   | refine Opl.val (op_int rfl rfl rfl (gtr_i g2)) rfl ?_
   | refine op_gyes rfl ?_ rfl
   | refine .gn ?_
   | (refine Opl.gonTN rfl rfl (fun hq => ?_) (fun hq => ?_) <;> subst hq)
   | (refine Opl.gonFN rfl rfl (fun hq => ?_) (fun hq => ?_) <;> subst hq)
   | (refine Opl.gonT rfl rfl (fun hq => ?_) (fun hq => ?_) <;> subst hq)
   | (refine Opl.gonF rfl rfl (fun hq => ?_) (fun hq => ?_) <;> subst hq)
   | refine Go.condT rfl ?_
   | refine Go.condF rfl ?_
   | (refine Go.condN rfl (fun hq => ?_) (fun hq => ?_) <;> subst hq)
   | (refine Go.condV rfl (fun hq => ?_) (fun hq => ?_) <;> subst hq)
   | (refine Opl.callv rfl (by kernel_rfl) (hst (dle g2)) rfl (fun S6 h => ?_) (fun _ _ h => h.elim); obtain ⟨m6, k6⟩ := h)
   | exact At.fnr rfl rfl rfl ⟨by rw [hres _ rfl]; rfl, by rw [hres _ rfl]; exact m6, kS2.trans k6⟩
   | exact At.fnr rfl rfl rfl ⟨by rw [hres _ rfl]; rfl, by rw [hres _ rfl]; exact ⟨hlt2, f2⟩, kS2⟩
   | refine .std ?_ | refine .nil ?_ | refine .seq ?_ | refine .region ?_ | refine .xs ?_ | refine .kb ?_ | refine .leaf ?_ | refine .block ?_ | refine .gn ?_ | refine .dr ?_ | fail
def MeasV (e : Ex) (v : V) : Prop := ∃ l p : Int, v = .tup [.agg [.int .i64 l, .int .i64 p], .int .i64 (checkE e)] ∧ (checkE e = 0 → l = 3000 - e.nodes ∧ p = e.depth)
theorem fits_take (e : Ex) : (takeX e 1 (3000, 0)).1 = fitsB e ∧ (fitsB e = true → (takeX e 1 (3000, 0)).2.1 = 3000 - e.nodes ∧ (takeX e 1 (3000, 0)).2.2 = e.depth) := by
 obtain ⟨h1, h2⟩ := takeX_fits e.nodes e (Nat.le_refl _) 1 3000 0 (by decide) (by decide)
 have hd := e.depth_parts
 have hb : fitsB e = (decide ((e.nodes : Int) ≤ 3000) && decide (1 + e.depth ≤ 201)) := by
  unfold fitsB
  rw [Bool.eq_iff_iff]
  simp only [Bool.and_eq_true, Nat.ble_eq, decide_eq_true_eq]
  omega
 refine ⟨h1.trans hb.symm, fun h => ?_⟩
 obtain ⟨g1, g2⟩ := h2 (h1.trans (hb.symm.trans h))
 refine ⟨g1, ?_⟩
 rw [g2]
 split <;> omega
set_option maxHeartbeats 4000000 in
theorem measuredF {e : Ex} {cs : List V} (he : ExC e cs) : PuQ Tryz.prog 53 [.agg cs] (MeasV e) := by
 intro S
 obtain ⟨U1, U2, hU1, hU2, b1, b2, s0⟩ := box2 S 27 91 cs [.int .i64 0, .int .i64 0]
 obtain ⟨W, st1, b4, k4⟩ := lay (P := Tryz.prog) (T := 91) [.int .i64 0, .int .i64 0] U2 (cs := [.int .i64 3000, .int .i64 0]) rfl rfl
 have sW : Same S W := s0.trans k4
 have b1 := b1.same k4
 have b2 := b2.same k4
 have n1 : U1.next = S.next + 1 := by rw [hU1]; rfl
 have n2 : U2.next = S.next + 2 := by rw [hU2]; simp [St.new, n1]
 obtain ⟨f1, f2⟩ := fits_take e
 have htk := takeF e.nodes e cs (Nat.le_refl _) he 1 (by decide) U2.next (3000, 0) W ⟨b4.lt, b4.box⟩
 obtain ⟨q, hq⟩ : ∃ q, fitsB e = q := ⟨_, rfl⟩
 obtain ⟨l, p, hlp⟩ : ∃ l p, (takeX e 1 (3000, 0)).2 = (l, p) := ⟨_, _, rfl⟩
 rw [f1, hq, hlp] at htk
 rw [hq, hlp] at f2
 have hb : buildE Tryz.prog 91 [(0, .int .i64 3000)] = some (.agg [.int .i64 3000, .int .i64 0]) := by kernel_rfl
 have k1 : Bk (some U2.next) W S.next 27 cs := Bk.of b1 (fun h => by have := Option.some.inj h; omega)
 have k2 : Bk (some U2.next) W U1.next 91 [.int .i64 0, .int .i64 0] := Bk.of b2 (fun h => by have := Option.some.inj h; omega)
 have kW : Kp (some U2.next) W W := Kp.refl _ _
 refine CallTo.of (n := 13) Tryz.func53 rfl rfl ?_
 repeat' first
  | refine Opl.val (op_box rfl) rfl (Opl.cast (S' := U1) ?_ hU1)
  | refine Opl.val op_alloc rfl (Opl.cast (S' := U2) ?_ hU2)
  | refine Opl.val (op_build1 rfl hb) rfl ?_
  | refine Opl.val op_alloc rfl ?_
  | refine Opl.eff (op_store rfl rfl st1) ?_
  | refine Opl.val (op_load rfl (ld_kA k1 kW he.len7)) rfl ?_
  | (refine Opl.callv rfl (by kernel_rfl) htk rfl (fun S6 h => ?_) (fun _ _ h => h.elim); obtain ⟨m6, k6⟩ := h)
  | refine .std ?_ | refine .nil ?_ | refine .seq ?_ | refine .region ?_ | refine .xs ?_ | refine .kb ?_ | refine .leaf ?_ | refine .block ?_ | refine .gn ?_ | refine .dr ?_ | fail
 obtain ⟨S7, h7⟩ : ∃ S7 : St, S7 = { S6 with h := S6.h.put U1.next (.box 91 [.int .i64 l, .int .i64 p]) } := ⟨_, rfl⟩
 have hk6 := k2.keep k6
 have m6 : S6.h.find U2.next = some (.box 91 [.int .i64 l, .int .i64 p]) := m6.2
 have sS6 : Same S S6 := k6.after sW (by omega)
 have lm : loadE Tryz.prog 91 (.ptr U2.next 0) S6 = some (.agg [.int .i64 l, .int .i64 p]) := ld_agg (pt_box m6) rfl
 cases q
 case false =>
  have hc : checkE e = 3 := by unfold checkE; rw [hq]; rfl
  have st2 : storeE Tryz.prog 91 (.ptr U1.next 0) (.agg [.int .i64 l, .int .i64 p]) S6 = some S7 := by rw [h7]; exact st_agg hk6.box rfl rfl rfl
  have s7 : Same S S7 := by rw [h7]; exact sS6.put (by omega) _
  have f7 : S7.h.find U1.next = some (.box 91 [.int .i64 l, .int .i64 p]) := by rw [h7]; simp [Tr.find_put]
  have l7 : loadE Tryz.prog 91 (.ptr U1.next 0) S7 = some (.agg [.int .i64 l, .int .i64 p]) := ld_agg (pt_box f7) rfl
  repeat' first
   | refine Opl.val (op_load rfl lm) rfl ?_
   | refine Opl.eff (op_store rfl rfl st2) ?_
   | refine Go.condT rfl ?_
   | exact At.fnr rfl rfl (resV_two rfl rfl l7) ⟨⟨l, p, by rw [hc]; rfl, fun h => by rw [hc] at h; cases h⟩, s7⟩
   | refine .std ?_ | refine .nil ?_ | refine .seq ?_ | refine .region ?_ | refine .xs ?_ | refine .kb ?_ | refine .leaf ?_ | refine .block ?_ | refine .gn ?_ | refine .dr ?_ | fail
 case true =>
  obtain ⟨g1, g2⟩ := f2 rfl
  have hc : checkE e = nodesE e := by unfold checkE; rw [hq]; rfl
  have hnd := nodesF e.nodes e cs (Nat.le_refl _) he
  have j1 : Bk (some U1.next) S6 S.next 27 cs := ⟨(k1.keep k6).lt, fun h => by have := Option.some.inj h; omega, (k1.keep k6).box⟩
  have j4 : Bk (some U1.next) S6 U2.next 91 [.int .i64 l, .int .i64 p] := ⟨Nat.lt_of_lt_of_le b4.lt k6.next, fun h => by have := Option.some.inj h; omega, m6⟩
  repeat' first
   | refine Go.draw [0, 0, 2, 7, 15] [1, 2, 0, 3, 4] (by kernel_rfl) (Kp (some U1.next) S6) ?_
   | refine Go.condF rfl ?_
   | refine .std ?_ | refine .nil ?_ | refine .seq ?_ | refine .region ?_ | refine .xs ?_ | refine .kb ?_ | refine .leaf ?_ | refine .block ?_ | refine .gn ?_ | refine .dr ?_ | fail
  refine Drw.c2g rfl rfl (Kp.refl _ _) (Kp.refl _ _) (fun U hU => op_load rfl (ld_kA j1 hU he.len7)) rfl ?_
  refine Drw.call rfl rfl (by kernel_rfl) (hnd S6) rfl (fun v S8 h => ?_)
  obtain ⟨rfl, k8⟩ := h
  have h8 : S8.h.find U1.next = some (.box 91 [.int .i64 0, .int .i64 0]) := by rw [k8.find _ hk6.lt]; exact hk6.box
  obtain ⟨S9, h9⟩ : ∃ S9 : St, S9 = { S8 with h := S8.h.put U1.next (.box 91 [.int .i64 l, .int .i64 p]) } := ⟨_, rfl⟩
  have st9 : storeE Tryz.prog 91 (.ptr U1.next 0) (.agg [.int .i64 l, .int .i64 p]) S8 = some S9 := by rw [h9]; exact st_agg h8 rfl rfl rfl
  have s9 : Same S S9 := by rw [h9]; exact (sS6.trans k8).put (by omega) _
  have i9 : Kp (some U1.next) S6 S9 := by rw [h9]; exact (k8.kp _).put _
  have f9 : S9.h.find U1.next = some (.box 91 [.int .i64 l, .int .i64 p]) := by rw [h9]; simp [Tr.find_put]
  have l9 : loadE Tryz.prog 91 (.ptr U1.next 0) S9 = some (.agg [.int .i64 l, .int .i64 p]) := ld_agg (pt_box f9) rfl
  refine ⟨k8.kp _, ?_⟩
  refine Drw.c2g rfl rfl (Kp.refl _ _) (k8.kp _) (fun U hU => op_load rfl (ld_kA j4 hU rfl)) rfl ?_
  refine Drw.eff rfl rfl (op_store rfl rfl st9) i9 ?_
  refine Drw.c0 rfl rfl (op_assign rfl) rfl ?_
  refine Drw.nil ?_
  repeat' first
   | exact At.fnr rfl rfl (resV_two rfl rfl l9) ⟨⟨l, p, by rw [hc]; rfl, fun _ => ⟨g1, g2⟩⟩, s9⟩
   | refine .std ?_ | refine .nil ?_ | refine .seq ?_ | refine .region ?_ | refine .xs ?_ | refine .kb ?_ | refine .leaf ?_ | refine .block ?_ | refine .gn ?_ | refine .dr ?_ | fail
end Go.Proofs.YtodiioeddlmjhaaGreatDoor
namespace Go.Proofs.YtodiioeddlmjhaaGreatDoor
open Go.RowKit Go.Ev
set_option maxRecDepth 100000
set_option linter.unusedVariables false
set_option linter.unusedSimpArgs false
attribute [local irreducible] Go.Ev.opE
theorem check_fits {e : Ex} (h : checkE e = 0) : e.nodes ≤ 3000 ∧ e.depth ≤ 200 := by
 unfold checkE at h
 cases hf : fitsB e with
 | false => rw [hf] at h; cases h
 | true =>
  unfold fitsB at hf
  simp only [Bool.and_eq_true, Nat.ble_eq] at hf
  exact hf
set_option maxHeartbeats 2000000 in
theorem checkF {e : Ex} {cs : List V} (he : ExC e cs) : Pu Tryz.prog 17 [.agg cs] (.int .i64 (checkE e)) := by
 intro S
 obtain ⟨U, hU, bx, s0⟩ := box1 S 27 cs
 have k0 : Same U U := Same.refl U
 refine CallTo.of (n := 11) Tryz.func17 rfl rfl ?_
 repeat' first
  | refine Opl.val (op_box rfl) rfl (Opl.cast (S' := U) ?_ hU)
  | refine Opl.val (op_load rfl (ld_bxA bx k0 he.len7)) rfl ?_
  | (refine Opl.callQ k0 rfl (by kernel_rfl) (measuredF he) rfl (fun v S3 hv k3 => ?_); obtain ⟨l, p, rfl, hlp⟩ := hv)
  | refine .std ?_ | refine .nil ?_ | refine .seq ?_ | refine .region ?_ | refine .xs ?_ | refine .kb ?_ | refine .leaf ?_ | refine .block ?_ | refine .gn ?_ | refine .dr ?_ | fail
 obtain ⟨W, st1, b4, k4⟩ := lay (P := Tryz.prog) (T := 91) [.int .i64 0, .int .i64 0] S3 (cs := [.int .i64 l, .int .i64 p]) rfl rfl
 repeat' first
  | refine Opl.val op_alloc rfl ?_
  | refine Opl.eff (op_store rfl rfl st1) ?_
  | exact At.fnr rfl rfl rfl ⟨rfl, (s0.trans k3).trans k4⟩
  | refine .std ?_ | refine .nil ?_ | refine .seq ?_ | refine .region ?_ | refine .xs ?_ | refine .kb ?_ | refine .leaf ?_ | refine .block ?_ | refine .gn ?_ | refine .dr ?_ | fail
set_option maxHeartbeats 2000000 in
theorem fSize {e : Ex} {cs : List V} (he : ExC e cs) : Pu Tryz.prog 19 [.agg cs] (.int .i64 (sizeE e)) := by
 intro S
 obtain ⟨U, hU, bx, s0⟩ := box1 S 27 cs
 have k0 : Same U U := Same.refl U
 obtain ⟨c, hc⟩ : ∃ c, checkE e = c := ⟨_, rfl⟩
 obtain ⟨q, hq⟩ : ∃ q, (!decide (c = 0)) = q := ⟨_, rfl⟩
 refine CallTo.of (n := 15) Tryz.func19 rfl rfl ?_
 repeat' first
  | refine Opl.val (op_box rfl) rfl (Opl.cast (S' := U) ?_ hU)
  | refine Opl.val (op_load rfl (ld_bxA bx k0 he.len7)) rfl ?_
  | (refine Opl.callQ k0 rfl (by kernel_rfl) (measuredF he) rfl (fun v S3 hv k3 => ?_); obtain ⟨l, p, rfl, hlp⟩ := hv)
  | refine .std ?_ | refine .nil ?_ | refine .seq ?_ | refine .region ?_ | refine .xs ?_ | refine .kb ?_ | refine .leaf ?_ | refine .block ?_ | refine .gn ?_ | refine .dr ?_ | fail
 rw [hc] at hlp
 rw [hc]
 obtain ⟨W, st1, b4, k4⟩ := lay (P := Tryz.prog) (T := 91) [.int .i64 0, .int .i64 0] S3 (cs := [.int .i64 l, .int .i64 p]) rfl rfl
 have kW : Same W W := Same.refl W
 cases q
 case true =>
  have h0 : c ≠ 0 := by simpa using hq
  have hr : sizeE e = 0 := by unfold sizeE; rw [hc, if_neg h0]
  repeat' first
   | refine Opl.val op_alloc rfl ?_
   | refine Opl.eff (op_store rfl rfl st1) ?_
   | refine Opl.val (op_int rfl rfl rfl (neq_i hq)) rfl ?_
   | refine Go.condT rfl ?_
   | exact At.fnr rfl rfl rfl ⟨pack_n hr.symm, (s0.trans k3).trans k4⟩
   | refine .std ?_ | refine .nil ?_ | refine .seq ?_ | refine .region ?_ | refine .xs ?_ | refine .kb ?_ | refine .leaf ?_ | refine .block ?_ | refine .gn ?_ | refine .dr ?_ | fail
 case false =>
  have h0 : c = 0 := by simpa using hq
  have hr : sizeE e = e.nodes := by unfold sizeE; rw [hc, if_pos h0]
  obtain ⟨hl, hp⟩ := hlp h0
  obtain ⟨hn1, hn2⟩ := check_fits (hc.trans h0)
  have hs : intOp .sub .i64 3000 l = some (.int .i64 (e.nodes : Int)) := by
   have : IntKind.wrap .i64 (3000 - l) = (e.nodes : Int) := by rw [hl, wrap_i64_id (by constructor <;> omega)]; omega
   simp only [intOp, this]
  repeat' first
   | refine Opl.val op_alloc rfl ?_
   | refine Opl.eff (op_store rfl rfl st1) ?_
   | refine Opl.val (op_load rfl (ld_bx b4 kW _ rfl)) rfl ?_
   | refine Opl.val (op_int rfl rfl rfl (neq_i hq)) rfl ?_
   | refine Opl.val (op_int rfl rfl rfl hs) rfl ?_
   | refine Go.condF rfl ?_
   | exact At.fnr rfl rfl rfl ⟨pack_n hr.symm, (s0.trans k3).trans k4⟩
   | refine .std ?_ | refine .nil ?_ | refine .seq ?_ | refine .region ?_ | refine .xs ?_ | refine .kb ?_ | refine .leaf ?_ | refine .block ?_ | refine .gn ?_ | refine .dr ?_ | fail
set_option maxHeartbeats 2000000 in
theorem fDepth {e : Ex} {cs : List V} (he : ExC e cs) : Pu Tryz.prog 21 [.agg cs] (.int .i64 (depthE e)) := by
 intro S
 obtain ⟨U, hU, bx, s0⟩ := box1 S 27 cs
 have k0 : Same U U := Same.refl U
 obtain ⟨c, hc⟩ : ∃ c, checkE e = c := ⟨_, rfl⟩
 obtain ⟨q, hq⟩ : ∃ q, (!decide (c = 0)) = q := ⟨_, rfl⟩
 refine CallTo.of (n := 14) Tryz.func21 rfl rfl ?_
 repeat' first
  | refine Opl.val (op_box rfl) rfl (Opl.cast (S' := U) ?_ hU)
  | refine Opl.val (op_load rfl (ld_bxA bx k0 he.len7)) rfl ?_
  | (refine Opl.callQ k0 rfl (by kernel_rfl) (measuredF he) rfl (fun v S3 hv k3 => ?_); obtain ⟨l, p, rfl, hlp⟩ := hv)
  | refine .std ?_ | refine .nil ?_ | refine .seq ?_ | refine .region ?_ | refine .xs ?_ | refine .kb ?_ | refine .leaf ?_ | refine .block ?_ | refine .gn ?_ | refine .dr ?_ | fail
 rw [hc] at hlp
 rw [hc]
 obtain ⟨W, st1, b4, k4⟩ := lay (P := Tryz.prog) (T := 91) [.int .i64 0, .int .i64 0] S3 (cs := [.int .i64 l, .int .i64 p]) rfl rfl
 have kW : Same W W := Same.refl W
 cases q
 case true =>
  have h0 : c ≠ 0 := by simpa using hq
  have hr : depthE e = 0 := by unfold depthE; rw [hc, if_neg h0]
  repeat' first
   | refine Opl.val op_alloc rfl ?_
   | refine Opl.eff (op_store rfl rfl st1) ?_
   | refine Opl.val (op_int rfl rfl rfl (neq_i hq)) rfl ?_
   | refine Go.condT rfl ?_
   | exact At.fnr rfl rfl rfl ⟨pack_n hr.symm, (s0.trans k3).trans k4⟩
   | refine .std ?_ | refine .nil ?_ | refine .seq ?_ | refine .region ?_ | refine .xs ?_ | refine .kb ?_ | refine .leaf ?_ | refine .block ?_ | refine .gn ?_ | refine .dr ?_ | fail
 case false =>
  have h0 : c = 0 := by simpa using hq
  have hr : depthE e = e.depth := by unfold depthE; rw [hc, if_pos h0]
  obtain ⟨hl, hp⟩ := hlp h0
  obtain ⟨hn1, hn2⟩ := check_fits (hc.trans h0)
  have hs : intOp .sub .i64 3000 l = some (.int .i64 (e.nodes : Int)) := by
   have : IntKind.wrap .i64 (3000 - l) = (e.nodes : Int) := by rw [hl, wrap_i64_id (by constructor <;> omega)]; omega
   simp only [intOp, this]
  repeat' first
   | refine Opl.val op_alloc rfl ?_
   | refine Opl.eff (op_store rfl rfl st1) ?_
   | refine Opl.val (op_load rfl (ld_bx b4 kW _ rfl)) rfl ?_
   | refine Opl.val (op_int rfl rfl rfl (neq_i hq)) rfl ?_
   | refine Opl.val (op_int rfl rfl rfl hs) rfl ?_
   | refine Go.condF rfl ?_
   | exact At.fnr rfl rfl rfl ⟨pack_n (hp.trans hr.symm), (s0.trans k3).trans k4⟩
   | refine .std ?_ | refine .nil ?_ | refine .seq ?_ | refine .region ?_ | refine .xs ?_ | refine .kb ?_ | refine .leaf ?_ | refine .block ?_ | refine .gn ?_ | refine .dr ?_ | fail
end Go.Proofs.YtodiioeddlmjhaaGreatDoor
