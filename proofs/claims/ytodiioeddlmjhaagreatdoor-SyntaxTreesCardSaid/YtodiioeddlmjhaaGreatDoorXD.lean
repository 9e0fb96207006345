import Derived.Test.YtodiioeddlmjhaaGreatDoorXC
import Derived.Test.YtodiioeddlmjhaaGreatDoorE12
set_option linter.unusedVariables false
set_option linter.unusedSimpArgs false
namespace Go.Proofs.YtodiioeddlmjhaaGreatDoor
open Go.RowKit Go.Ev
set_option maxRecDepth 100000
set_option linter.unusedVariables false
set_option linter.unusedSimpArgs false
attribute [local irreducible] Go.Ev.opE
def shR (x : Shp) : List V := [.int .i64 (x.s : Nat), .int .i64 (x.t : Nat), .int .i64 (x.names : Nat), .int .i64 (x.parts : Nat), .bool x.arms, .int .i64 x.low, .int .i64 x.high]
def shapesV : V := .list (some 206) 7 (shps.map fun x => .agg (shR x)) .exact
theorem ent_shapes : ∃ v, ent176 = ⟨v, 0, []⟩ ∧ ∀ k, v.up k = shapesV := ⟨_, rfl, fun k => rfl⟩
theorem refShapes : Pu Tryz.prog 176 [] shapesV := by
 intro S
 obtain ⟨v, h1, h2⟩ := ent_shapes
 have h := lim_tab (P := Tryz.prog) (f := 176) (E := ent176) rfl S
 rw [h1] at h
 exact .inl ⟨_, _, h, h2 S.next, ⟨by simp [St.add], fun id _ => rfl⟩⟩
theorem op_ixaZ {P : Program} {ev : Operand → Option V} {S : St} {x y : Operand} {t e : TypeId} {n i : Nat} {k : IntKind} {v u : V} {z : Int} [hs : ElT P t e] [hn : SzN P e n] (hl : isLn n v) (h : ev x = some v) (h2 : ev y = some (.int k z)) (hz : z = (i : Int)) (hc : (elems v)[i]? = some u) :
 opE P (.indexAddr t x y) ev S = some (.cptr none u.cells 0, S) := op_ixaV hl h (hz ▸ h2) hc
theorem shp_ref : ∀ k : Nat, k < 20 → ∃ x, shps[k]? = some x ∧ (elems shapesV)[k]? = some (.agg (shR x)) ∧ x.small = true ∧ x.more = (if k = 17 then 12 else 0) ∧ x.plus = (if k = 10 then 4 else 0) ∧ (k = 17 → x.names = 1) ∧ (k = 10 → x.parts = 0)
 | 0, _ => ⟨_, rfl, rfl, rfl, rfl, rfl, by decide, by decide⟩
 | 1, _ => ⟨_, rfl, rfl, rfl, rfl, rfl, by decide, by decide⟩
 | 2, _ => ⟨_, rfl, rfl, rfl, rfl, rfl, by decide, by decide⟩
 | 3, _ => ⟨_, rfl, rfl, rfl, rfl, rfl, by decide, by decide⟩
 | 4, _ => ⟨_, rfl, rfl, rfl, rfl, rfl, by decide, by decide⟩
 | 5, _ => ⟨_, rfl, rfl, rfl, rfl, rfl, by decide, by decide⟩
 | 6, _ => ⟨_, rfl, rfl, rfl, rfl, rfl, by decide, by decide⟩
 | 7, _ => ⟨_, rfl, rfl, rfl, rfl, rfl, by decide, by decide⟩
 | 8, _ => ⟨_, rfl, rfl, rfl, rfl, rfl, by decide, by decide⟩
 | 9, _ => ⟨_, rfl, rfl, rfl, rfl, rfl, by decide, by decide⟩
 | 10, _ => ⟨_, rfl, rfl, rfl, rfl, rfl, by decide, by decide⟩
 | 11, _ => ⟨_, rfl, rfl, rfl, rfl, rfl, by decide, by decide⟩
 | 12, _ => ⟨_, rfl, rfl, rfl, rfl, rfl, by decide, by decide⟩
 | 13, _ => ⟨_, rfl, rfl, rfl, rfl, rfl, by decide, by decide⟩
 | 14, _ => ⟨_, rfl, rfl, rfl, rfl, rfl, by decide, by decide⟩
 | 15, _ => ⟨_, rfl, rfl, rfl, rfl, rfl, by decide, by decide⟩
 | 16, _ => ⟨_, rfl, rfl, rfl, rfl, rfl, by decide, by decide⟩
 | 17, _ => ⟨_, rfl, rfl, rfl, rfl, rfl, by decide, by decide⟩
 | 18, _ => ⟨_, rfl, rfl, rfl, rfl, rfl, by decide, by decide⟩
 | 19, _ => ⟨_, rfl, rfl, rfl, rfl, rfl, by decide, by decide⟩
 | n + 20, h => absurd h (by omega)
theorem many_ref {l names more : Nat} {q17 : Bool} (hm : more = if q17 then 12 else 0) (hn : q17 = true → names = 1) :
 amongB (l : Nat) (names : Nat) ((names + more : Nat) : Int) = (decide ((l : Int) = (names : Int)) || ((q17 && decide ((l : Int) ≥ 1)) && decide ((l : Int) ≤ 13))) := by
 unfold amongB
 cases q17 with
 | true => rw [hn rfl, hm]; rw [Bool.eq_iff_iff]; simp; omega
 | false => rw [hm]; rw [Bool.eq_iff_iff]; simp; omega
theorem parts_ref {l parts plus : Nat} {q10 : Bool} (hm : plus = if q10 then 4 else 0) (hn : q10 = true → parts = 0) :
 amongB (l : Nat) (parts : Nat) ((parts + plus : Nat) : Int) = (decide ((l : Int) = (parts : Int)) || (q10 && decide ((l : Int) ≤ 4))) := by
 unfold amongB
 cases q10 with
 | true => rw [hn rfl, hm]; rw [Bool.eq_iff_iff]; simp; omega
 | false => rw [hm]; rw [Bool.eq_iff_iff]; simp; omega
theorem node_ref (e : Ex) (x : Shp) (h1 : amongB e.kind 0 19 = true) (h2 : shps[e.kind.toNat]? = some x) {fi : Nat} (hfi : (if decide (e.kind = 17) then 1 else e.names.length) = fi) : nodeE e =
 if !amongB e.n x.low x.high then 1 else if !clsB e.s x.s || !clsB e.t x.t then 4
 else if ((!amongB (e.names.length : Nat) (x.names : Nat) ((x.names + x.more : Nat) : Int) || !amongB (e.l.length : Nat) (x.parts : Nat) ((x.parts + x.plus : Nat) : Int)) || (!x.arms && decide ((e.arms.length : Int) > 0))) || decide ((e.arms.length : Int) > 9) then 7
 else thenE (thenE (distE 1 [] (e.names.take fi)) (distE 2 [] (e.names.drop fi))) (if x.arms then thenE (armsE e.kind [] e.arms) (if decide (e.kind ≠ 11) && decide ((e.arms.length : Int) = 0) then 7 else 0) else 0) := by
 rw [thenE_assoc]
 unfold nodeE
 simp only [h1, h2, Bool.not_true, Bool.false_eq_true, if_false, hfi]
 by_cases ha : e.arms.length = 0
 ·have hn : e.arms = [] := List.length_eq_zero_iff.1 ha
  have hz : armsE e.kind [] [] = 0 := rfl
  rw [hn, hz]
  generalize distE 1 [] _ = d1
  generalize distE 2 [] _ = d2
  cases x.arms <;> cases amongB e.n x.low x.high <;> cases clsB e.s x.s <;> cases clsB e.t x.t <;> cases amongB (e.names.length : Nat) (x.names : Nat) ((x.names + x.more : Nat) : Int) <;> cases amongB (e.l.length : Nat) (x.parts : Nat) ((x.parts + x.plus : Nat) : Int) <;> simp [thenE]
 ·have h0 : decide ((e.arms.length : Int) > 0) = true := decide_eq_true (by omega)
  have h9 : decide ((e.arms.length : Int) = 0) = false := decide_eq_false (by omega)
  rw [h0, h9]
  generalize distE 1 [] _ = d1
  generalize distE 2 [] _ = d2
  generalize armsE e.kind [] e.arms = d3
  generalize decide ((e.arms.length : Int) > 9) = q9
  cases x.arms <;> cases q9 <;> cases amongB e.n x.low x.high <;> cases clsB e.s x.s <;> cases clsB e.t x.t <;> cases amongB (e.names.length : Nat) (x.names : Nat) ((x.names + x.more : Nat) : Int) <;> cases amongB (e.l.length : Nat) (x.parts : Nat) ((x.parts + x.plus : Nat) : Int) <;> simp [thenE]
set_option maxHeartbeats 16000000 in
theorem refNode {e : Ex} {cs : List V} (he : ExC e cs) : Pu Tryz.prog 113 [.agg cs] (.int .i64 (nodeE e)) := by
 have cN : ∀ {fi : Nat}, (if decide (e.kind = 17) then 1 else e.names.length) = fi → fi ≤ e.names.length → _ := @refNames e cs he
 have cA := refArms he
 obtain ⟨nv, lv, av, rfl, hk, hn, hs, ht, hnm, hl, hll, ha, hal, hL, hA⟩ := he.inv
 have h7 : ([.int .i64 e.kind, .int .i64 e.n, .str e.s, .str e.t, nv, lv, av] : List V).length = 7 := rfl
 have e1 : e.names.length = (elems nv).length := hnm.2.2.1
 have e2 : e.l.length = (elems lv).length := hL.1
 have e3 : e.arms.length = (elems av).length := hA.1
 intro S
 obtain ⟨U, hU, bx, s0⟩ := box1 S 27 [.int .i64 e.kind, .int .i64 e.n, .str e.s, .str e.t, nv, lv, av]
 have k0 : Same U U := Same.refl U
 have c0 := refIn e.kind 0 19
 have cs0 := refShapes
 have hlsh : isLn 7 shapesV := .inr (.inr ⟨_, _, _, rfl⟩)
 have hsub : intOp .sub .i64 ((elems shapesV).length : Nat) 1 = some (.int .i64 19) := by kernel_rfl
 obtain ⟨q0, hq0⟩ : ∃ q, amongB e.kind 0 19 = q := ⟨_, rfl⟩
 rw [hq0] at c0
 refine CallTo.of (n := 115) Tryz.func113 rfl rfl ?_
 cases q0
 case false =>
  rw [nodeB_low hq0]
  repeat' first
   | refine Opl.val (op_box rfl) rfl (Opl.cast (S' := U) ?_ hU)
   | refine Opl.val (op_load rfl (ld_bx bx (by assumption) _ rfl)) rfl ?_
   | refine Opl.val (op_lenL rfl hlsh.isL rfl) rfl ?_
   | refine Opl.val (op_int rfl rfl rfl hsub) rfl ?_
   | refine Opl.callS (U0 := U) (by assumption) rfl (by kernel_rfl) cs0 rfl (fun S8 k8 => ?_)
   | refine Opl.callS (U0 := U) (by assumption) rfl (by kernel_rfl) c0 rfl (fun S8 k8 => ?_)
   | refine Go.condT rfl ?_
   | exact At.fnr rfl rfl rfl ⟨rfl, s0.trans (by assumption)⟩
   | refine .std ?_ | refine .nil ?_ | refine .seq ?_ | refine .region ?_ | refine .xs ?_ | refine .kb ?_ | refine .leaf ?_ | refine .block ?_ | refine .gn ?_ | refine .dr ?_ | fail
 case true =>
 obtain ⟨hk0, hk20⟩ := amongB_nat hq0
 obtain ⟨x, hx, hxe, hsm, hmo, hpl, hn17, hn10⟩ := shp_ref e.kind.toNat (by omega)
 have hkn : e.kind = (e.kind.toNat : Int) := by omega
 have hix : (elems shapesV)[e.kind.toNat]? = some (.agg (shR x)) := hxe
 simp only [Shp.small, Bool.and_eq_true, Nat.blt_eq] at hsm
 obtain ⟨⟨⟨⟨⟨m1, m2⟩, m3⟩, m4⟩, m5⟩, m6⟩ := hsm
 obtain ⟨fi, hfi⟩ : ∃ f, (if decide (e.kind = 17) then 1 else e.names.length) = f := ⟨_, rfl⟩
 have hspec := node_ref e x hq0 hx hfi
 obtain ⟨q17, h13⟩ : ∃ q, decide (e.kind = 17) = q := ⟨_, rfl⟩
 obtain ⟨q10, h14⟩ : ∃ q, decide (e.kind = 10) = q := ⟨_, rfl⟩
 have hmo : x.more = if q17 then 12 else 0 := by
  rw [hmo, ← h13]
  by_cases h : e.kind = 17
  ·rw [if_pos (by omega), if_pos (by simpa using h)]
  ·rw [if_neg (by omega), if_neg (by simpa using h)]
 have hpl : x.plus = if q10 then 4 else 0 := by
  rw [hpl, ← h14]
  by_cases h : e.kind = 10
  ·rw [if_pos (by omega), if_pos (by simpa using h)]
  ·rw [if_neg (by omega), if_neg (by simpa using h)]
 have hn17 : q17 = true → x.names = 1 := fun h => hn17 (by have : e.kind = 17 := of_decide_eq_true (h13.trans h); omega)
 have hn10 : q10 = true → x.parts = 0 := fun h => hn10 (by have : e.kind = 10 := of_decide_eq_true (h14.trans h); omega)
 rw [many_ref (l := e.names.length) hmo hn17, parts_ref (l := e.l.length) hpl hn10, e1, e2, e3] at hspec
 obtain ⟨nOk, h1⟩ : ∃ q, amongB e.n x.low x.high = q := ⟨_, rfl⟩
 obtain ⟨qs, h2⟩ : ∃ q, clsB e.s x.s = q := ⟨_, rfl⟩
 obtain ⟨qt, h3⟩ : ∃ q, clsB e.t x.t = q := ⟨_, rfl⟩
 obtain ⟨i1, h4⟩ : ∃ q, decide (((elems nv).length : Int) = (x.names : Nat)) = q := ⟨_, rfl⟩
 obtain ⟨i2, h5⟩ : ∃ q, decide (((elems nv).length : Int) ≥ 1) = q := ⟨_, rfl⟩
 obtain ⟨i3, h6⟩ : ∃ q, decide (((elems nv).length : Int) ≤ 13) = q := ⟨_, rfl⟩
 obtain ⟨j1, h7'⟩ : ∃ q, decide (((elems lv).length : Int) = (x.parts : Nat)) = q := ⟨_, rfl⟩
 obtain ⟨j2, h8⟩ : ∃ q, decide (((elems lv).length : Int) ≤ 4) = q := ⟨_, rfl⟩
 obtain ⟨a0, h9⟩ : ∃ q, decide (((elems av).length : Int) > 0) = q := ⟨_, rfl⟩
 obtain ⟨a9, h10⟩ : ∃ q, decide (((elems av).length : Int) > 9) = q := ⟨_, rfl⟩
 obtain ⟨xa, h11⟩ : ∃ q, x.arms = q := ⟨_, rfl⟩
 obtain ⟨d1, g1⟩ : ∃ d, thenE (distE 1 [] (e.names.take fi)) (distE 2 [] (e.names.drop fi)) = d := ⟨_, rfl⟩
 obtain ⟨d2, g2⟩ : ∃ d, thenE (armsE e.kind [] e.arms) (if decide (e.kind ≠ 11) && decide ((e.arms.length : Int) = 0) then 7 else 0) = d := ⟨_, rfl⟩
 rw [e3] at g2
 rw [h1, h2, h3, h4, h5, h6, h7', h8, h9, h10, h11, g1, g2] at hspec
 obtain ⟨my, hmy⟩ : ∃ q, (i1 || ((q17 && i2) && i3)) = q := ⟨_, rfl⟩
 obtain ⟨pt, hpt⟩ : ∃ q, (j1 || (q10 && j2)) = q := ⟨_, rfl⟩
 rw [hmy, hpt] at hspec
 have hfl : my = true → fi ≤ e.names.length := by
  intro h
  rw [← hfi]
  split
  ·rename_i hq
   have hq := h13.symm.trans hq
   subst hq
   rw [← hmy, ← h4, ← h5, hn17 rfl] at h
   rw [e1]
   simp at h
   omega
  ·exact Nat.le_refl _
 obtain ⟨z1, hz1⟩ : ∃ q, (!decide (d1 = 0)) = q := ⟨_, rfl⟩
 have c1 := refIn e.n x.low x.high
 have c2 := refClass e.s hs x.s m1
 have c3 := refClass e.t ht x.t m2
 rw [h1] at c1; rw [h2] at c2; rw [h3] at c3
 rw [e3, g2] at cA
 obtain ⟨b7, hb7⟩ : ∃ q, (((!my || !pt) || (!xa && a0)) || a9) = q := ⟨_, rfl⟩
 rw [hb7] at hspec
 repeat' first
  | refine Opl.val (op_box rfl) rfl (Opl.cast (S' := U) ?_ hU)
  | refine Opl.val (op_load rfl (ld_bx bx (by assumption) _ rfl)) rfl ?_
  | refine Opl.val (op_lenL rfl hlsh.isL rfl) rfl ?_
  | refine Opl.val (op_int rfl rfl rfl hsub) rfl ?_
  | refine Opl.callS (U0 := U) (by assumption) rfl (by kernel_rfl) cs0 rfl (fun S3 k3 => ?_)
  | refine Opl.callS (U0 := U) (by assumption) rfl (by kernel_rfl) c0 rfl (fun S4 k4 => ?_)
  | refine Go.condF rfl ?_
  | refine Opl.val (op_ixaZ hlsh rfl rfl hkn hix) rfl ?_
  | refine Opl.val (op_load rfl (ld_agg (Pt.cptr _ _ _) rfl)) rfl ?_
  | refine .std ?_ | refine .nil ?_ | refine .seq ?_ | refine .region ?_ | refine .xs ?_ | refine .kb ?_ | refine .leaf ?_ | refine .block ?_ | refine .gn ?_ | refine .dr ?_ | fail
 obtain ⟨W, st1, b1, k5⟩ := lay (P := Tryz.prog) (T := 206) [.int .i64 0, .int .i64 0, .int .i64 0, .int .i64 0, .bool false, .int .i64 0, .int .i64 0] S4 (cs := shR x) rfl rfl
 have b1 : Bx W S4.next 206 [.int .i64 (x.s : Nat), .int .i64 (x.t : Nat), .int .i64 (x.names : Nat), .int .i64 (x.parts : Nat), .bool xa, .int .i64 x.low, .int .i64 x.high] := h11 ▸ b1
 have bx : Bx W S.next 27 [.int .i64 e.kind, .int .i64 e.n, .str e.s, .str e.t, nv, lv, av] := (bx.same k4).same k5
 have sW : Same S W := (s0.trans k4).trans k5
 have kW : Same W W := Same.refl W
 repeat' first
  | refine Go.joinRI 9 (fun E S' => Sub [(1, .ptr S.next 0), (4, .ptr S4.next 0), (5, .bool my)] E ∧ Same W S') ?_ ?_
  | refine Opl.val op_alloc rfl ?_
  | refine Opl.eff (op_store rfl rfl st1) ?_
  | refine Opl.val (op_load rfl (ld_bx bx (by assumption) _ rfl)) rfl ?_
  | refine Opl.val (op_load rfl (ld_bx b1 (by assumption) _ rfl)) rfl ?_
  | refine Opl.callS (U0 := W) (by assumption) rfl (by kernel_rfl) c1 rfl (fun S8 k8 => ?_)
  | refine Opl.callS (U0 := W) (by assumption) rfl (by kernel_rfl) c2 rfl (fun S8 k8 => ?_)
  | refine Opl.callS (U0 := W) (by assumption) rfl (by kernel_rfl) c3 rfl (fun S8 k8 => ?_)
  | refine op_gyes rfl ?_ rfl
  | refine .gn ?_
  | (refine Opl.gonTN rfl rfl (fun hq => ?_) (fun hq => ?_) <;> subst hq)
  | (refine Opl.gonFN rfl rfl (fun hq => ?_) (fun hq => ?_) <;> subst hq)
  | (refine Opl.gonT rfl rfl (fun hq => ?_) (fun hq => ?_) <;> subst hq)
  | (refine Opl.gonF rfl rfl (fun hq => ?_) (fun hq => ?_) <;> subst hq)
  | refine Go.condT rfl ?_
  | refine Go.condF rfl ?_
  | (refine Go.condN rfl (fun hq => ?_) (fun hq => ?_) <;> subst hq)
  | (refine Go.condV rfl (fun hq => ?_) (fun hq => ?_) <;> subst hq)
  | exact At.fnr rfl rfl rfl ⟨pack_n (by rw [hspec]; rfl), sW.trans (by assumption)⟩
  | refine .std ?_ | refine .nil ?_ | refine .seq ?_ | refine .region ?_ | refine .xs ?_ | refine .kb ?_ | refine .leaf ?_ | refine .block ?_ | refine .gn ?_ | refine .dr ?_ | fail
 ·refine ⟨?_⟩
  rintro E S6 ⟨hE, k6⟩
  refine Go.weaken ?_ hE
  repeat' first
   | refine Go.joinRI 10 (fun E S' => Sub [(1, .ptr S.next 0), (4, .ptr S4.next 0), (5, .bool my), (6, .bool pt)] E ∧ Same W S') ?_ ?_
   | refine .std ?_ | refine .nil ?_ | refine .seq ?_ | refine .region ?_ | refine .xs ?_ | refine .kb ?_ | refine .leaf ?_ | refine .block ?_ | refine .gn ?_ | refine .dr ?_ | fail
  ·refine ⟨?_⟩
   rintro E S7 ⟨hE7, k7⟩
   refine Go.weaken ?_ hE7
   repeat' first
    | refine Go.joinRI 11 (fun E S' => Sub [(1, .ptr S.next 0), (4, .ptr S4.next 0), (105, .bool b7)] E ∧ Same W S') ?_ ?_
    | refine .std ?_ | refine .nil ?_ | refine .seq ?_ | refine .region ?_ | refine .xs ?_ | refine .kb ?_ | refine .leaf ?_ | refine .block ?_ | refine .gn ?_ | refine .dr ?_ | fail
   ·refine ⟨?_⟩
    rintro E S8 ⟨hE8, k8⟩
    refine Go.weaken ?_ hE8
    cases b7
    case true =>
     have hre : nodeE e = 7 := hspec
     repeat' first
      | refine Go.condT rfl ?_
      | exact At.fnr rfl rfl rfl ⟨pack_n hre.symm, sW.trans (by assumption)⟩
      | refine .std ?_ | refine .nil ?_ | refine .seq ?_ | refine .region ?_ | refine .xs ?_ | refine .kb ?_ | refine .leaf ?_ | refine .block ?_ | refine .gn ?_ | refine .dr ?_ | fail
    case false =>
     have hmt : my = true := by
      cases my with
      | true => rfl
      | false => cases hb7
     have hre : nodeE e = thenE d1 (if xa then d2 else 0) := hspec
     have cn := cN hfi (hfl hmt)
     rw [g1] at cn
     cases z1
     case true =>
      have hre : nodeE e = d1 := by rw [hre, thenE_nz (by simpa using hz1)]
      repeat' first
       | refine Opl.val (op_load rfl (ld_bxA bx (by assumption) h7)) rfl ?_
       | refine Opl.callS (U0 := W) (by assumption) rfl (by kernel_rfl) cn rfl (fun S9 k9 => ?_)
       | refine Opl.val (op_int rfl rfl rfl (neq_i hz1)) rfl ?_
       | refine Go.condF rfl ?_
       | refine Go.condT rfl ?_
       | exact At.fnr rfl rfl rfl ⟨pack_n hre.symm, sW.trans (by assumption)⟩
       | refine .std ?_ | refine .nil ?_ | refine .seq ?_ | refine .region ?_ | refine .xs ?_ | refine .kb ?_ | refine .leaf ?_ | refine .block ?_ | refine .gn ?_ | refine .dr ?_ | fail
     case false =>
      have hd0 : d1 = 0 := by simpa using hz1
      have hre : nodeE e = if xa then d2 else 0 := by rw [hre, hd0, thenE_zero]
      cases xa
      case true =>
       repeat' first
        | refine Opl.val (op_load rfl (ld_bxA bx (by assumption) h7)) rfl ?_
        | refine Opl.val (op_load rfl (ld_bx b1 (by assumption) _ rfl)) rfl ?_
        | refine Opl.callS (U0 := W) (by assumption) rfl (by kernel_rfl) cn rfl (fun S9 k9 => ?_)
        | refine Opl.callS (U0 := W) (by assumption) rfl (by kernel_rfl) cA rfl (fun S9 k9 => ?_)
        | refine Opl.val (op_int rfl rfl rfl (neq_i hz1)) rfl ?_
        | refine Go.condF rfl ?_
        | refine Go.condT rfl ?_
        | exact At.fnr rfl rfl rfl ⟨pack_n hre.symm, sW.trans (by assumption)⟩
        | refine .std ?_ | refine .nil ?_ | refine .seq ?_ | refine .region ?_ | refine .xs ?_ | refine .kb ?_ | refine .leaf ?_ | refine .block ?_ | refine .gn ?_ | refine .dr ?_ | fail
      case false =>
       repeat' first
        | refine Opl.val (op_load rfl (ld_bxA bx (by assumption) h7)) rfl ?_
        | refine Opl.val (op_load rfl (ld_bx b1 (by assumption) _ rfl)) rfl ?_
        | refine Opl.callS (U0 := W) (by assumption) rfl (by kernel_rfl) cn rfl (fun S9 k9 => ?_)
        | refine Opl.val (op_int rfl rfl rfl (neq_i hz1)) rfl ?_
        | refine Go.condF rfl ?_
        | exact At.fnr rfl rfl rfl ⟨pack_n hre.symm, sW.trans (by assumption)⟩
        | refine .std ?_ | refine .nil ?_ | refine .seq ?_ | refine .region ?_ | refine .xs ?_ | refine .kb ?_ | refine .leaf ?_ | refine .block ?_ | refine .gn ?_ | refine .dr ?_ | fail
   ·refine ⟨fun hj => ?_⟩
    repeat' first
     | exact hj _ _ ⟨⟨rfl, rfl, pack_bo hb7, trivial⟩, by assumption⟩
     | refine Opl.val (op_load rfl (ld_bx bx (by assumption) _ rfl)) rfl ?_
     | refine Opl.val (op_load rfl (ld_bx b1 (by assumption) _ rfl)) rfl ?_
     | refine Opl.val (op_lenL rfl ha.isL rfl) rfl ?_
     | refine Opl.val (op_int rfl rfl rfl (gtr_i h9)) rfl ?_
     | refine Opl.val (op_int rfl rfl rfl (gtr_i h10)) rfl ?_
     | refine op_gyes rfl ?_ rfl
     | refine .gn ?_
     | (refine Opl.gonTN rfl rfl (fun hq => ?_) (fun hq => ?_) <;> subst hq)
     | (refine Opl.gonFN rfl rfl (fun hq => ?_) (fun hq => ?_) <;> subst hq)
     | (refine Opl.gonT rfl rfl (fun hq => ?_) (fun hq => ?_) <;> subst hq)
     | (refine Opl.gonF rfl rfl (fun hq => ?_) (fun hq => ?_) <;> subst hq)
     | refine Go.condT rfl ?_
     | refine Go.condF rfl ?_
     | (refine Go.condN rfl (fun hq => ?_) (fun hq => ?_) <;> subst hq)
     | (refine Go.condV rfl (fun hq => ?_) (fun hq => ?_) <;> subst hq)
     | refine .std ?_ | refine .nil ?_ | refine .seq ?_ | refine .region ?_ | refine .xs ?_ | refine .kb ?_ | refine .leaf ?_ | refine .block ?_ | refine .gn ?_ | refine .dr ?_ | fail
  ·refine ⟨fun hj => ?_⟩
   repeat' first
    | exact hj _ _ ⟨⟨rfl, rfl, rfl, pack_bo hpt, trivial⟩, by assumption⟩
    | refine Opl.val (op_load rfl (ld_bx bx (by assumption) _ rfl)) rfl ?_
    | refine Opl.val (op_load rfl (ld_bx b1 (by assumption) _ rfl)) rfl ?_
    | refine Opl.val (op_lenL rfl hl.isL rfl) rfl ?_
    | refine Opl.val (op_int rfl rfl rfl (eql_i h7')) rfl ?_
    | refine Opl.val (op_int rfl rfl rfl (eql_i h14)) rfl ?_
    | refine Opl.val (op_int rfl rfl rfl (leq_i h8)) rfl ?_
    | refine op_gyes rfl ?_ rfl
    | refine .gn ?_
    | (refine Opl.gonTN rfl rfl (fun hq => ?_) (fun hq => ?_) <;> subst hq)
    | (refine Opl.gonFN rfl rfl (fun hq => ?_) (fun hq => ?_) <;> subst hq)
    | (refine Opl.gonT rfl rfl (fun hq => ?_) (fun hq => ?_) <;> subst hq)
    | (refine Opl.gonF rfl rfl (fun hq => ?_) (fun hq => ?_) <;> subst hq)
    | refine Go.condT rfl ?_
    | refine Go.condF rfl ?_
    | (refine Go.condN rfl (fun hq => ?_) (fun hq => ?_) <;> subst hq)
    | (refine Go.condV rfl (fun hq => ?_) (fun hq => ?_) <;> subst hq)
    | refine .std ?_ | refine .nil ?_ | refine .seq ?_ | refine .region ?_ | refine .xs ?_ | refine .kb ?_ | refine .leaf ?_ | refine .block ?_ | refine .gn ?_ | refine .dr ?_ | fail
 ·refine ⟨fun hj => ?_⟩
  repeat' first
   | exact hj _ _ ⟨⟨rfl, rfl, pack_bo hmy, trivial⟩, by assumption⟩
   | refine Opl.val (op_load rfl (ld_bx bx (by assumption) _ rfl)) rfl ?_
   | refine Opl.val (op_load rfl (ld_bx b1 (by assumption) _ rfl)) rfl ?_
   | refine Opl.val (op_lenL rfl hnm.1.isL rfl) rfl ?_
   | refine Opl.val (op_int rfl rfl rfl (eql_i h4)) rfl ?_
   | refine Opl.val (op_int rfl rfl rfl (eql_i h13)) rfl ?_
   | refine Opl.val (op_int rfl rfl rfl (geq_i h5)) rfl ?_
   | refine Opl.val (op_int rfl rfl rfl (leq_i h6)) rfl ?_
   | refine op_gyes rfl ?_ rfl
   | refine .gn ?_
   | (refine Opl.gonTN rfl rfl (fun hq => ?_) (fun hq => ?_) <;> subst hq)
   | (refine Opl.gonFN rfl rfl (fun hq => ?_) (fun hq => ?_) <;> subst hq)
   | (refine Opl.gonT rfl rfl (fun hq => ?_) (fun hq => ?_) <;> subst hq)
   | (refine Opl.gonF rfl rfl (fun hq => ?_) (fun hq => ?_) <;> subst hq)
   | refine Go.condT rfl ?_
   | refine Go.condF rfl ?_
   | (refine Go.condN rfl (fun hq => ?_) (fun hq => ?_) <;> subst hq)
   | (refine Go.condV rfl (fun hq => ?_) (fun hq => ?_) <;> subst hq)
   | refine .std ?_ | refine .nil ?_ | refine .seq ?_ | refine .region ?_ | refine .xs ?_ | refine .kb ?_ | refine .leaf ?_ | refine .block ?_ | refine .gn ?_ | refine .dr ?_ | fail
end Go.Proofs.YtodiioeddlmjhaaGreatDoor
