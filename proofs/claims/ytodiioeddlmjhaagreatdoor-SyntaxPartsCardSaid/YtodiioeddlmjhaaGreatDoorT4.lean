import Derived.Test.YtodiioeddlmjhaaGreatDoorT5
set_option linter.unusedVariables false
set_option linter.unusedSimpArgs false
namespace Go.Proofs.YtodiioeddlmjhaaGreatDoor
open Go.RowKit Go.Ev
set_option maxRecDepth 100000
set_option linter.unusedVariables false
set_option linter.unusedSimpArgs false
attribute [local irreducible] Go.Ev.opE
theorem armC {a b : Ar} {v : V} (hv : ArV b v) {id : Nat} {nw : V} {ds : List V} {U : St} (ba : Bx U id 100 (.str a.op :: nw :: ds)) (S : St) (k : Same U S) :
    CallTo Tryz.prog 216 [.agg v.cells, .ptr id 0] S (fun u S' => u = .bool (decide (b.op = a.op)) ∧ True ∧ Kp none S S') (fun _ _ => False) := by
  obtain ⟨nv, cs, hc, ho, hn, hb⟩ := hv
  rw [hc]
  obtain ⟨U1, hU1, b1, s0⟩ := box1 S 100 (.str b.op :: nv :: cs)
  have k1 : Same U U1 := k.trans s0
  have k0 : Same U1 U1 := Same.refl U1
  obtain ⟨q, hq⟩ : ∃ q, decide (b.op = a.op) = q := ⟨_, rfl⟩
  refine CallTo.of (n := 9) Tryz.func216 rfl rfl ?_
  repeat' first
   | refine Opl.val (op_box rfl) rfl (Opl.cast (S' := U1) ?_ hU1)
   | refine Opl.val (op_load rfl (ld_bx b1 k0 _ rfl)) rfl ?_
   | refine Opl.val (op_load rfl (ld_bx ba k1 _ rfl)) rfl ?_
   | refine Opl.val (op_str rfl rfl (eql_s hq)) rfl ?_
   | exact At.fnr rfl rfl rfl ⟨pack_b hq.symm, trivial, s0.kp none⟩
   | refine .std ?_ | refine .nil ?_ | refine .seq ?_ | refine .region ?_ | refine .xs ?_ | refine .kb ?_ | refine .leaf ?_ | refine .block ?_ | refine .gn ?_ | refine .dr ?_ | fail
theorem any_op (l : List Ar) (a : Ar) : (l.any fun b => decide (b.op = a.op)) = (l.map Ar.op).contains a.op := by
  induction l with
  | nil => rfl
  | cons b l ih =>
    rw [List.any_cons, List.map_cons, List.contains_cons, ih]
    congr 1
    rw [Bool.eq_iff_iff]; simp; exact ⟨Eq.symm, Eq.symm⟩
set_option maxHeartbeats 8000000 in
theorem armF {e : Ex} {cs : List V} (he : ExC e cs) (i : Nat) (hi : i < e.arms.length) : Pu Tryz.prog 195 [.agg cs, .int .i64 i] (.int .i64 (armE e.kind ((e.arms.take i).map Ar.op) e.arms[i])) := by
  obtain ⟨nv, lv, av, rfl, hk, hn, hs, ht, hnm, hl, hll, ha, hal, hL, hA⟩ := he.inv
  have hi2 : i < (elems av).length := by rw [← hA.1]; exact hi
  obtain ⟨a, v, hx, hix, hv, hm⟩ := hA.at hi2
  have hxe : e.arms[i] = a := (List.getElem?_eq_some_iff.1 hx).2
  rw [hxe]
  intro S
  obtain ⟨nw, ds, hcv, ho, hnw, hbd⟩ := hv
  obtain ⟨U, hU, bx, s0⟩ := box1 S 27 [.int .i64 e.kind, .int .i64 e.n, .str e.s, .str e.t, nv, lv, av]
  have hvl : v.cells.length = 9 := by rw [hcv]; simp [hbd.len7]
  have hvo : v.cells.all V.one = true := by rw [hcv]; simp only [List.all_cons, hnw.1.one, hbd.ones]; rfl
  obtain ⟨W, st1, b1, k1⟩ := lay (P := Tryz.prog) (T := 100) [.str [], .nils, .int .i64 0, .int .i64 0, .str [], .str [], .nils, .nils, .nils] U hvl hvo
  rw [hcv] at b1
  have bx := bx.same k1
  have k0 : Same W W := Same.refl W
  have k00 : Same U U := Same.refl U
  have bu : Bx U S.next 27 [.int .i64 e.kind, .int .i64 e.n, .str e.s, .str e.t, nv, lv, av] := hU ▸ Bx.new S _ _
  have sW : Same S W := s0.trans k1
  obtain ⟨mv, hmv, hln, hel⟩ := slice_take (P := Tryz.prog) (T := 25) ElT.h SzN.h ha i (by omega)
  have hnml : (elems nw).length = a.names.length := hnw.2.2.1.symm
  have hspec := armE_eq e.kind ((e.arms.take i).map Ar.op) a
  have hemp : ((e.arms.take i).map Ar.op).isEmpty = decide ((i : Int) = 0) := by
    rw [Bool.eq_iff_iff]; simp
    intro h; rw [h] at hi; simp at hi
  rw [hemp, ← hnml] at hspec
  have c1 := isF a.op ho 1 (by decide)
  have c2 := isF a.op ho 2 (by decide)
  have cd := distinctF hnw hnw.len 1 (by decide)
  have ct : ∀ S1, Same W S1 → CallTo Tryz.prog 215 [mv, .func 216 [] [.ptr U.next 0]] S1 (fun u S' => u = .bool (((e.arms.take i).map Ar.op).contains a.op) ∧ Same S1 S') (fun _ _ => False) := by
    intro S1 kk
    have := contFArm (σ := Unit) hln (by rw [hel]; simp; have := hal; omega) (by rw [hel]; exact hA.take i) (fun a v h => h.len9) 216 [.ptr U.next 0] (by kernel_rfl) (fun b s => (decide (b.op = a.op), s)) (fun _ _ => True) none S1
      (fun b _ w hw s S2 kk2 _ => armC hw b1 S2 (kk.trans kk2.same)) () trivial
    rw [anyS_any (fun b : Ar => decide (b.op = a.op)), any_op] at this
    exact this.mono (fun v S' h => ⟨h.1, h.2.2.same⟩) (fun _ _ h => h)
  obtain ⟨k11, hk11⟩ : ∃ q, decide (e.kind = 11) = q := ⟨_, rfl⟩
  obtain ⟨i0, hi0⟩ : ∃ q, decide ((i : Int) = 0) = q := ⟨_, rfl⟩
  obtain ⟨n1, hn1⟩ : ∃ q, decide (((elems nw).length : Int) = 1) = q := ⟨_, rfl⟩
  obtain ⟨n2, hn2⟩ : ∃ q, decide (((elems nw).length : Int) = 2) = q := ⟨_, rfl⟩
  obtain ⟨n4, hn4⟩ : ∃ q, decide (((elems nw).length : Int) ≤ 4) = q := ⟨_, rfl⟩
  obtain ⟨opr, hopr⟩ : ∃ q, decide (a.op = [114, 101, 116, 117, 114, 110]) = q := ⟨_, rfl⟩
  obtain ⟨q1, hq1⟩ : ∃ q, clsB a.op 1 = q := ⟨_, rfl⟩
  obtain ⟨q2, hq2⟩ : ∃ q, clsB a.op 2 = q := ⟨_, rfl⟩
  obtain ⟨tw, htw⟩ : ∃ q, ((e.arms.take i).map Ar.op).contains a.op = q := ⟨_, rfl⟩
  obtain ⟨d, hd⟩ : ∃ d, distE 1 [] a.names = d := ⟨_, rfl⟩
  rw [hd] at hspec cd
  obtain ⟨dn, hdn⟩ : ∃ q, (!decide (d = 0)) = q := ⟨_, rfl⟩
  rw [hk11, hi0, hn1, hn2, hn4, hopr, hq1, hq2, htw, hdn] at hspec
  rw [hq1] at c1
  rw [hq2] at c2
  simp only [htw] at ct
  refine CallTo.of (n := 61) Tryz.func195 rfl rfl ?_
  repeat' first
   | refine Opl.val (op_box rfl) rfl (Opl.cast (S' := U) ?_ hU)
   | refine Opl.val (op_load rfl (ld_bx bu k00 _ rfl)) rfl ?_
   | refine Opl.val (op_ixaV ha rfl rfl hix) rfl ?_
   | refine Opl.val (op_load rfl (ld_agg (Pt.cptr _ _ _) hvl)) rfl ?_
   | refine Opl.val op_alloc rfl ?_
   | refine Opl.eff (op_store rfl rfl st1) ?_
   | refine Opl.val (op_load rfl (ld_bx b1 (by assumption) _ rfl)) rfl ?_
   | refine Opl.val (op_load rfl (ld_bx bx (by assumption) _ rfl)) rfl ?_
   | refine Opl.val (op_lenL rfl hnw.1.isL rfl) rfl ?_
   | refine Opl.val (op_slH rfl rfl hmv) rfl ?_
   | refine Opl.val (op_int rfl rfl rfl (eql_i hn2)) rfl ?_
   | refine Opl.val (op_int rfl rfl rfl (eql_i hn1)) rfl ?_
   | refine Opl.val (op_int rfl rfl rfl (leq_i hn4)) rfl ?_
   | refine Opl.val (op_int rfl rfl rfl (eql_i hk11)) rfl ?_
   | refine Opl.val (op_int rfl rfl rfl (eql_i hi0)) rfl ?_
   | refine Opl.val (op_int rfl rfl rfl (neq_i hdn)) rfl ?_
   | refine Opl.val (op_str rfl rfl (eql_s hopr)) rfl ?_
   | refine Opl.callS (U0 := W) (by assumption) rfl (by kernel_rfl) c1 rfl (fun S4 k4 => ?_)
   | refine Opl.callS (U0 := W) (by assumption) rfl (by kernel_rfl) c2 rfl (fun S4 k4 => ?_)
   | refine Opl.callS (U0 := W) (by assumption) rfl (by kernel_rfl) cd rfl (fun S4 k4 => ?_)
   | refine Opl.callv rfl (by kernel_rfl) (ct _ (by assumption)) rfl (fun S4 k4 => Opl.withS (U := W) (Same.trans (by assumption) k4) (fun kW => ?_)) (fun _ _ h => h.elim)
   | refine op_gyes rfl ?_ rfl
   | refine .gn ?_
   | (refine Opl.gonTN rfl rfl (fun hq => ?_) (fun hq => ?_) <;> subst hq)
   | (refine Opl.gonFN rfl rfl (fun hq => ?_) (fun hq => ?_) <;> subst hq)
   | (refine Opl.gonT rfl rfl (fun hq => ?_) (fun hq => ?_) <;> subst hq)
   | (refine Opl.gonF rfl rfl (fun hq => ?_) (fun hq => ?_) <;> subst hq)
   | refine Go.condT rfl ?_
   | refine Go.condF rfl ?_
   | (refine Go.condN rfl (fun hq => ?_) (fun hq => ?_) <;> subst hq)
   | (refine Go.condV rfl (fun hq => ?_) (fun hq => ?_) <;> subst hq)
   | exact At.fnr rfl rfl rfl ⟨pack_n (by rw [hspec]; rfl), sW.trans (by assumption)⟩
   | refine .std ?_ | refine .nil ?_ | refine .seq ?_ | refine .region ?_ | refine .xs ?_ | refine .kb ?_ | refine .leaf ?_ | refine .block ?_ | refine .gn ?_ | refine .dr ?_ | fail
end Go.Proofs.YtodiioeddlmjhaaGreatDoor
