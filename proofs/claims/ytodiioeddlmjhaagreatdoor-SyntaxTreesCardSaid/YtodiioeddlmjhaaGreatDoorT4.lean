import Derived.Test.YtodiioeddlmjhaaGreatDoorT5
set_option linter.unusedVariables false
set_option linter.unusedSimpArgs false
namespace Go.Proofs.YtodiioeddlmjhaaGreatDoor
open Go.RowKit Go.Ev
set_option maxRecDepth 100000
set_option linter.unusedVariables false
set_option linter.unusedSimpArgs false
attribute [local irreducible] Go.Ev.opE
theorem armC {a b : Ar} {v : V} (hv : ArV b v) {id : Nat} {nw : V} {ds : List V} {U : St} (ba : Bx U id 100 (.str a.op :: nw :: ds)) (S : St) (k : Same U S) :
 CallTo Tryz.prog 216 [.agg v.cells, .ptr id 0] S (fun u S' => u = .bool (decide (b.op = a.op)) ∧ True ∧ Kp none S S') (fun _ _ => False) := by
 obtain ⟨nv, cs, hc, ho, hn, hb⟩ := hv
 rw [hc]
 obtain ⟨U1, hU1, b1, s0⟩ := box1 S 100 (.str b.op :: nv :: cs)
 have k1 : Same U U1 := k.trans s0
 have k0 : Same U1 U1 := Same.refl U1
 obtain ⟨q, hq⟩ : ∃ q, decide (b.op = a.op) = q := ⟨_, rfl⟩
 refine CallTo.of (n := 9) Tryz.func216 rfl rfl ?_
 repeat' first
  | refine Opl.val (op_box rfl) rfl (Opl.cast (S' := U1) ?_ hU1)
  | refine Opl.val (op_load rfl (ld_bx b1 k0 _ rfl)) rfl ?_
  | refine Opl.val (op_load rfl (ld_bx ba k1 _ rfl)) rfl ?_
  | refine Opl.val (op_str rfl rfl (eql_s hq)) rfl ?_
  | exact At.fnr rfl rfl rfl ⟨pack_b hq.symm, trivial, s0.kp none⟩
  | refine .std ?_ | refine .nil ?_ | refine .seq ?_ | refine .region ?_ | refine .xs ?_ | refine .kb ?_ | refine .leaf ?_ | refine .block ?_ | refine .gn ?_ | refine .dr ?_ | fail
theorem any_op (l : List Ar) (a : Ar) : (l.any fun b => decide (b.op = a.op)) = (l.map Ar.op).contains a.op := by
 induction l with
 | nil => rfl
 | cons b l ih =>
  rw [List.any_cons, List.map_cons, List.contains_cons, ih]
  congr 1
  rw [Bool.eq_iff_iff]; simp; exact ⟨Eq.symm, Eq.symm⟩
set_option maxHeartbeats 8000000 in
theorem armF {e : Ex} {cs : List V} (he : ExC e cs) (i : Nat) (hi : i < e.arms.length) : Pu Tryz.prog 195 [.agg cs, .int .i64 i] (.int .i64 (armE e.kind ((e.arms.take i).map Ar.op) e.arms[i])) := by
 obtain ⟨nv, lv, av, rfl, hk, hn, hs, ht, hnm, hl, hll, ha, hal, hL, hA⟩ := he.inv
 have hi2 : i < (elems av).length := by rw [← hA.1]; exact hi
 obtain ⟨a, v, hx, hix, hv, hm⟩ := hA.at hi2
 have hxe : e.arms[i] = a := (List.getElem?_eq_some_iff.1 hx).2
 rw [hxe]
 intro S
 obtain ⟨nw, ds, hcv, ho, hnw, hbd⟩ := hv
 obtain ⟨U, hU, bx, s0⟩ := box1 S 27 [.int .i64 e.kind, .int .i64 e.n, .str e.s, .str e.t, nv, lv, av]
 have hvl : v.cells.length = 9 := by rw [hcv]; simp [hbd.len7]
 have hvo : v.cells.all V.one = true := by rw [hcv]; simp only [List.all_cons, hnw.1.one, hbd.ones]; rfl
 obtain ⟨W, st1, b1, k1⟩ := lay (P := Tryz.prog) (T := 100) [.str [], .nils, .int .i64 0, .int .i64 0, .str [], .str [], .nils, .nils, .nils] U hvl hvo
 rw [hcv] at b1
 have bx := bx.same k1
 have k0 : Same W W := Same.refl W
 have k00 : Same U U := Same.refl U
 have bu : Bx U S.next 27 [.int .i64 e.kind, .int .i64 e.n, .str e.s, .str e.t, nv, lv, av] := hU ▸ Bx.new S _ _
 have sW : Same S W := s0.trans k1
 obtain ⟨mv, hmv, hln, hel⟩ := slice_take (P := Tryz.prog) (T := 25) ElT.h SzN.h ha i (by omega)
 have hnml : (elems nw).length = a.names.length := hnw.2.2.1.symm
 have hspec := armE_eq e.kind ((e.arms.take i).map Ar.op) a
 have hemp : ((e.arms.take i).map Ar.op).isEmpty = decide ((i : Int) = 0) := by
  rw [Bool.eq_iff_iff]; simp
  intro h; rw [h] at hi; simp at hi
 rw [hemp, ← hnml] at hspec
 have c1 := isF a.op ho 1 (by decide)
 have c2 := isF a.op ho 2 (by decide)
 have cd := distinctF hnw hnw.len 1 (by decide)
 have ct : ∀ S1, Same W S1 → CallTo Tryz.prog 215 [mv, .func 216 [] [.ptr U.next 0]] S1 (fun u S' => u = .bool (((e.arms.take i).map Ar.op).contains a.op) ∧ Same S1 S') (fun _ _ => False) := by
  intro S1 kk
  have := contFArm (σ := Unit) hln (by rw [hel]; simp; have := hal; omega) (by rw [hel]; exact hA.take i) (fun a v h => h.len9) 216 [.ptr U.next 0] (by kernel_rfl) (fun b s => (decide (b.op = a.op), s)) (fun _ _ => True) none S1
   (fun b _ w hw s S2 kk2 _ => armC hw b1 S2 (kk.trans kk2.same)) () trivial
  rw [anyS_any (fun b : Ar => decide (b.op = a.op)), any_op] at this
  exact this.mono (fun v S' h => ⟨h.1, h.2.2.same⟩) (fun _ _ h => h)
 obtain ⟨k11, hk11⟩ : ∃ q, decide (e.kind = 11) = q := ⟨_, rfl⟩
 obtain ⟨i0, hi0⟩ : ∃ q, decide ((i : Int) = 0) = q := ⟨_, rfl⟩
 obtain ⟨n1, hn1⟩ : ∃ q, decide (((elems nw).length : Int) = 1) = q := ⟨_, rfl⟩
 obtain ⟨n2, hn2⟩ : ∃ q, decide (((elems nw).length : Int) = 2) = q := ⟨_, rfl⟩
 obtain ⟨n4, hn4⟩ : ∃ q, decide (((elems nw).length : Int) ≤ 4) = q := ⟨_, rfl⟩
 obtain ⟨opr, hopr⟩ : ∃ q, decide (a.op = [114, 101, 116, 117, 114, 110]) = q := ⟨_, rfl⟩
 obtain ⟨q1, hq1⟩ : ∃ q, clsB a.op 1 = q := ⟨_, rfl⟩
 obtain ⟨q2, hq2⟩ : ∃ q, clsB a.op 2 = q := ⟨_, rfl⟩
 obtain ⟨tw, htw⟩ : ∃ q, ((e.arms.take i).map Ar.op).contains a.op = q := ⟨_, rfl⟩
 obtain ⟨d, hd⟩ : ∃ d, distE 1 [] a.names = d := ⟨_, rfl⟩
 rw [hd] at hspec cd
 obtain ⟨dn, hdn⟩ : ∃ q, (!decide (d = 0)) = q := ⟨_, rfl⟩
 rw [hk11, hi0, hn1, hn2, hn4, hopr, hq1, hq2, htw, hdn] at hspec
 rw [hq1] at c1
 rw [hq2] at c2
 simp only [htw] at ct
 refine CallTo.of (n := 61) Tryz.func195 rfl rfl ?_
 repeat' first
  | refine Opl.val (op_box rfl) rfl (Opl.cast (S' := U) ?_ hU)
  | refine Opl.val (op_load rfl (ld_bx bu k00 _ rfl)) rfl ?_
  | refine Opl.val (op_ixaV ha rfl rfl hix) rfl ?_
  | refine Opl.val (op_load rfl (ld_agg (Pt.cptr _ _ _) hvl)) rfl ?_
  | refine Opl.val op_alloc rfl ?_
  | refine Opl.eff (op_store rfl rfl st1) ?_
  | refine Opl.val (op_load rfl (ld_bx b1 (by assumption) _ rfl)) rfl ?_
  | refine Opl.val (op_load rfl (ld_bx bx (by assumption) _ rfl)) rfl ?_
  | refine Opl.val (op_lenL rfl hnw.1.isL rfl) rfl ?_
  | refine Opl.val (op_slH rfl rfl hmv) rfl ?_
  | refine Opl.val (op_int rfl rfl rfl (eql_i hn2)) rfl ?_
  | refine Opl.val (op_int rfl rfl rfl (eql_i hn1)) rfl ?_
  | refine Opl.val (op_int rfl rfl rfl (leq_i hn4)) rfl ?_
  | refine Opl.val (op_int rfl rfl rfl (eql_i hk11)) rfl ?_
  | refine Opl.val (op_int rfl rfl rfl (eql_i hi0)) rfl ?_
  | refine Opl.val (op_int rfl rfl rfl (neq_i hdn)) rfl ?_
  | refine Opl.val (op_str rfl rfl (eql_s hopr)) rfl ?_
  | refine Opl.callS (U0 := W) (by assumption) rfl (by kernel_rfl) c1 rfl (fun S4 k4 => ?_)
  | refine Opl.callS (U0 := W) (by assumption) rfl (by kernel_rfl) c2 rfl (fun S4 k4 => ?_)
  | refine Opl.callS (U0 := W) (by assumption) rfl (by kernel_rfl) cd rfl (fun S4 k4 => ?_)
  | refine Opl.callv rfl (by kernel_rfl) (ct _ (by assumption)) rfl (fun S4 k4 => Opl.withS (U := W) (Same.trans (by assumption) k4) (fun kW => ?_)) (fun _ _ h => h.elim)
  | refine op_gyes rfl ?_ rfl
  | refine .gn ?_
  | (refine Opl.gonTN rfl rfl (fun hq => ?_) (fun hq => ?_) <;> subst hq)
  | (refine Opl.gonFN rfl rfl (fun hq => ?_) (fun hq => ?_) <;> subst hq)
  | (refine Opl.gonT rfl rfl (fun hq => ?_) (fun hq => ?_) <;> subst hq)
  | (refine Opl.gonF rfl rfl (fun hq => ?_) (fun hq => ?_) <;> subst hq)
  | refine Go.condT rfl ?_
  | refine Go.condF rfl ?_
  | (refine Go.condN rfl (fun hq => ?_) (fun hq => ?_) <;> subst hq)
  | (refine Go.condV rfl (fun hq => ?_) (fun hq => ?_) <;> subst hq)
  | exact At.fnr rfl rfl rfl ⟨pack_n (by rw [hspec]; rfl), sW.trans (by assumption)⟩
  | refine .std ?_ | refine .nil ?_ | refine .seq ?_ | refine .region ?_ | refine .xs ?_ | refine .kb ?_ | refine .leaf ?_ | refine .block ?_ | refine .gn ?_ | refine .dr ?_ | fail
end Go.Proofs.YtodiioeddlmjhaaGreatDoor
namespace Go.Proofs.YtodiioeddlmjhaaGreatDoor
open Go.RowKit Go.Ev
set_option maxRecDepth 100000
set_option linter.unusedVariables false
set_option linter.unusedSimpArgs false
attribute [local irreducible] Go.Ev.opE
set_option maxHeartbeats 16000000 in
theorem nodeTail {e : Ex} {nv lv av : V} (he : ExC e [.int .i64 e.kind, .int .i64 e.n, .str e.s, .str e.t, nv, lv, av]) (ha : isLn 9 av) (hal : (elems av).length ≤ 9223372036854775807) (e3 : e.arms.length = (elems av).length)
 {S W : St} {idE idS : Nat} (bx : Bx W idE 27 [.int .i64 e.kind, .int .i64 e.n, .str e.s, .str e.t, nv, lv, av]) {v0 v1 v2 v3 v4 v5 v7 v8 : V} {xa : Bool} (b1 : Bx W idS 214 [v0, v1, v2, v3, v4, v5, .bool xa, v7, v8]) (sW : Same S W)
 {d3 : Int} {z3 k11 ae : Bool} (g3 : armsE e.kind [] e.arms = d3) (h10 : (!decide (d3 = 0)) = z3) (h11 : decide (e.kind = 11) = k11) (h12 : decide (((elems av).length : Int) = 0) = ae)
 (hspec : nodeE e = if z3 then d3 else if !k11 && xa && ae then 7 else 0) (S8 : St) (k8 : Same W S8) :
 Go Tryz.prog ⟨132, [], .norm⟩ [(1, .ptr idE 0), (3, .ptr idS 0)] S8 (bodyT Tryz.f144 8) (Kf Tryz.prog Tryz.f144 (fun v S' => v = .int .i64 (nodeE e) ∧ Same S S') (fun _ _ => False)) := by
 repeat' first
  | refine Opl.val (op_load rfl (ld_bx bx k8 _ rfl)) rfl ?_
  | refine Opl.val (op_lenL rfl ha.isL rfl) rfl ?_
  | refine .std ?_ | refine .nil ?_ | refine .seq ?_ | refine .region ?_ | refine .xs ?_ | refine .kb ?_ | refine .leaf ?_ | refine .block ?_ | refine .gn ?_ | refine .dr ?_ | fail
 refine Go.weaken (E' := [(1, .ptr idE 0), (3, .ptr idS 0), (108, .int .i64 (elems av).length), (109, .int .i64 (0 : Nat))]) ?_ ⟨rfl, rfl, rfl, rfl, trivial⟩
 refine Go.loop_ind (α := Nat) (fun i => (elems av).length - i) (fun i E S' => E = [(1, .ptr idE 0), (3, .ptr idS 0), (108, .int .i64 (elems av).length), (109, .int .i64 i)] ∧ i ≤ (elems av).length ∧ Same W S' ∧ d3 = armsE e.kind ((e.arms.take i).map Ar.op) (e.arms.drop i)) ?_ 0 _ _ ⟨rfl, Nat.zero_le _, k8, g3.symm⟩
 rintro i E S9 ⟨rfl, hi, k9, hd⟩ IH
 repeat' first
  | refine Opl.fresh (op_int rfl rfl rfl rfl) rfl (fun q hq => ?_)
  | refine .std ?_ | refine .nil ?_ | refine .seq ?_ | refine .region ?_ | refine .xs ?_ | refine .kb ?_ | refine .leaf ?_ | refine .block ?_ | refine .gn ?_ | refine .dr ?_ | fail
 refine Go.cond rfl (fun hq => ?_) (fun hq => ?_)
 ·subst hq
  have hq : i < (elems av).length := by have := of_decide_eq_true (by assumption : decide ((i : Int) < ((elems av).length : Nat)) = true); omega
  have hq2 : i < e.arms.length := by rw [e3]; exact hq
  have ca := armF he i hq2
  rw [armsE_step (List.getElem?_eq_getElem hq2) hq2] at hd
  obtain ⟨r, hr⟩ : ∃ r, armE e.kind ((e.arms.take i).map Ar.op) e.arms[i] = r := ⟨_, rfl⟩
  rw [hr] at ca hd
  obtain ⟨z, hz⟩ : ∃ q, (!decide (r = 0)) = q := ⟨_, rfl⟩
  have hcs : ([.int .i64 e.kind, .int .i64 e.n, .str e.s, .str e.t, nv, lv, av] : List V).length = 7 := rfl
  cases z
  case true =>
   have hr0 : r ≠ 0 := by simpa using hz
   have hd3 : d3 = r := by rw [hd]; exact if_neg hr0
   have hz3 : z3 = true := by rw [← h10, hd3]; exact hz
   rw [hz3, hd3] at hspec
   repeat' first
    | refine Opl.val (op_load rfl (ld_bxA bx k9 hcs)) rfl ?_
    | refine Opl.val (op_int rfl rfl rfl (neq_i hz)) rfl ?_
    | refine Opl.callS (U0 := W) (by assumption) rfl (by kernel_rfl) ca rfl (fun S8 k8 => ?_)
    | refine Go.condT rfl ?_
    | exact At.fnr rfl rfl rfl ⟨pack_n (by rw [hspec]; rfl), sW.trans (by assumption)⟩
    | refine .std ?_ | refine .nil ?_ | refine .seq ?_ | refine .region ?_ | refine .xs ?_ | refine .kb ?_ | refine .leaf ?_ | refine .block ?_ | refine .gn ?_ | refine .dr ?_ | fail
  case false =>
   have hr0 : r = 0 := by simpa using hz
   rw [hr0, thenE_zero] at hd
   repeat' first
    | refine Opl.val (op_load rfl (ld_bxA bx k9 hcs)) rfl ?_
    | refine Opl.val (op_int rfl rfl rfl (neq_i hz)) rfl ?_
    | refine Opl.callS (U0 := W) (by assumption) rfl (by kernel_rfl) ca rfl (fun S8 k8 => ?_)
    | refine Go.condF rfl ?_
    | refine Opl.val (op_int rfl rfl rfl (inc_ok (i := i) (by omega))) rfl ?_
    | exact (IH (i + 1) _ _ (by omega) ⟨rfl, by omega, by assumption, hd⟩).weaken ⟨rfl, rfl, rfl, rfl, trivial⟩
    | refine .std ?_ | refine .nil ?_ | refine .seq ?_ | refine .region ?_ | refine .xs ?_ | refine .kb ?_ | refine .leaf ?_ | refine .block ?_ | refine .gn ?_ | refine .dr ?_ | fail
 ·subst hq
  have hq : (elems av).length ≤ i := by have := of_decide_eq_false (by assumption : decide ((i : Int) < ((elems av).length : Nat)) = false); omega
  have hnil : e.arms.drop i = [] := List.drop_eq_nil_of_le (by rw [e3]; omega)
  rw [hnil] at hd
  have hd3 : d3 = 0 := hd
  have hz3 : z3 = false := by rw [← h10, hd3]; rfl
  rw [hz3] at hspec
  simp only [Bool.false_eq_true, if_false] at hspec
  have hne : intOp .neq .i64 e.kind 11 = some (.bool (!k11)) := neq_i (by rw [h11])
  have heq : intOp .eql .i64 ((elems av).length : Int) 0 = some (.bool ae) := eql_i h12
  cases k11 <;> cases xa <;> cases ae <;> simp only [Bool.not_true, Bool.not_false, Bool.true_and, Bool.false_and, Bool.and_true, Bool.and_false, Bool.false_eq_true, if_false, if_true] at hspec hne
  all_goals
   repeat' first
    | refine Opl.val (op_load rfl (ld_bx bx k9 _ rfl)) rfl ?_
    | refine Opl.val (op_load rfl (ld_bx b1 k9 _ rfl)) rfl ?_
    | refine Opl.val (op_lenL rfl ha.isL rfl) rfl ?_
    | refine Opl.val (op_int rfl rfl rfl hne) rfl ?_
    | refine Opl.val (op_int rfl rfl rfl heq) rfl ?_
    | refine op_gyes rfl ?_ rfl
    | refine .gn ?_
    | refine Go.condT rfl ?_
    | refine Go.condF rfl ?_
    | exact At.fnr rfl rfl rfl ⟨pack_n hspec.symm, sW.trans k9⟩
    | refine .std ?_ | refine .nil ?_ | refine .seq ?_ | refine .region ?_ | refine .xs ?_ | refine .kb ?_ | refine .leaf ?_ | refine .block ?_ | refine .gn ?_ | refine .dr ?_ | fail
end Go.Proofs.YtodiioeddlmjhaaGreatDoor
namespace Go.Proofs.YtodiioeddlmjhaaGreatDoor
open Go.RowKit Go.Ev
set_option maxRecDepth 100000
set_option linter.unusedVariables false
set_option linter.unusedSimpArgs false
attribute [local irreducible] Go.Ev.opE
theorem shp_at : ∀ k : Nat, k < 20 → ∃ x, shps[k]? = some x ∧ cut cells0 (0 + k * 9) 9 = some (shC x) ∧ x.small = true
 | 0, _ => ⟨_, rfl, rfl, rfl⟩
 | 1, _ => ⟨_, rfl, rfl, rfl⟩
 | 2, _ => ⟨_, rfl, rfl, rfl⟩
 | 3, _ => ⟨_, rfl, rfl, rfl⟩
 | 4, _ => ⟨_, rfl, rfl, rfl⟩
 | 5, _ => ⟨_, rfl, rfl, rfl⟩
 | 6, _ => ⟨_, rfl, rfl, rfl⟩
 | 7, _ => ⟨_, rfl, rfl, rfl⟩
 | 8, _ => ⟨_, rfl, rfl, rfl⟩
 | 9, _ => ⟨_, rfl, rfl, rfl⟩
 | 10, _ => ⟨_, rfl, rfl, rfl⟩
 | 11, _ => ⟨_, rfl, rfl, rfl⟩
 | 12, _ => ⟨_, rfl, rfl, rfl⟩
 | 13, _ => ⟨_, rfl, rfl, rfl⟩
 | 14, _ => ⟨_, rfl, rfl, rfl⟩
 | 15, _ => ⟨_, rfl, rfl, rfl⟩
 | 16, _ => ⟨_, rfl, rfl, rfl⟩
 | 17, _ => ⟨_, rfl, rfl, rfl⟩
 | 18, _ => ⟨_, rfl, rfl, rfl⟩
 | 19, _ => ⟨_, rfl, rfl, rfl⟩
 | n + 20, h => absurd h (by omega)
theorem arr_shp : Tryz.prog.underlying 215 = some (.array 20 214) := by kernel_rfl
theorem sz_shp : szOf Tryz.prog 214 = some 9 := by kernel_rfl
set_option maxHeartbeats 2000000 in
theorem nodeLow {e : Ex} {cs : List V} (he : ExC e cs) (h0 : amongB e.kind 0 19 = false) : Pu Tryz.prog 144 [.agg cs] (.int .i64 (nodeE e)) := by
 rw [nodeB_low h0]
 obtain ⟨nv, lv, av, rfl, hk, hn, hs, ht, hnm, hl, hll, ha, hal, hL, hA⟩ := he.inv
 intro S
 obtain ⟨U, hU, bx, s0⟩ := box1 S 27 [.int .i64 e.kind, .int .i64 e.n, .str e.s, .str e.t, nv, lv, av]
 have k0 : Same U U := Same.refl U
 have c0 := amongF e.kind 0 19
 rw [h0] at c0
 refine CallTo.of (n := 132) Tryz.func144 rfl rfl ?_
 repeat' first
  | refine Opl.val (op_box rfl) rfl (Opl.cast (S' := U) ?_ hU)
  | refine Opl.val (op_load rfl (ld_bx bx k0 _ rfl)) rfl ?_
  | refine Opl.callS k0 rfl (by kernel_rfl) c0 rfl (fun S4 k4 => ?_)
  | refine Go.condT rfl ?_
  | exact At.fnr rfl rfl rfl ⟨rfl, s0.trans (by assumption)⟩
  | refine .std ?_ | refine .nil ?_ | refine .seq ?_ | refine .region ?_ | refine .xs ?_ | refine .kb ?_ | refine .leaf ?_ | refine .block ?_ | refine .gn ?_ | refine .dr ?_ | fail
set_option maxHeartbeats 16000000 in
theorem nodeIn {e : Ex} {cs : List V} (he : ExC e cs) (h0 : amongB e.kind 0 19 = true) : Pu Tryz.prog 144 [.agg cs] (.int .i64 (nodeE e)) := by
 obtain ⟨hk0, hk20⟩ := amongB_nat h0
 obtain ⟨x, hx, hcut, hsm⟩ := shp_at e.kind.toNat (by omega)
 have hspec := nodeE_eq e x h0 hx
 obtain ⟨nv, lv, av, rfl, hk, hn, hs, ht, hnm, hl, hll, ha, hal, hL, hA⟩ := he.inv
 have hll : (elems lv).length ≤ 9223372036854775807 := hll
 have hal : (elems av).length ≤ 9223372036854775807 := hal
 have e1 : e.names.length = (elems nv).length := hnm.2.2.1
 have e2 : e.l.length = (elems lv).length := hL.1
 have e3 : e.arms.length = (elems av).length := hA.1
 intro S
 obtain ⟨U, hU, bx, s0⟩ := box1 S 27 [.int .i64 e.kind, .int .i64 e.n, .str e.s, .str e.t, nv, lv, av]
 have k0 : Same U U := Same.refl U
 have c0 := amongF e.kind 0 19
 rw [h0] at c0
 refine CallTo.of (n := 132) Tryz.func144 rfl rfl ?_
 repeat' first
  | refine Opl.val (op_box rfl) rfl (Opl.cast (S' := U) ?_ hU)
  | refine Opl.val (op_load rfl (ld_bx bx (by assumption) _ rfl)) rfl ?_
  | refine Opl.callS k0 rfl (by kernel_rfl) c0 rfl (fun S4 k4 => ?_)
  | refine Go.condF rfl ?_
  | refine Opl.val (op_ixaT arr_shp sz_shp rfl rfl hk0 hk20) rfl ?_
  | refine Opl.val (op_load rfl (ld_cut hcut)) rfl ?_
  | refine .std ?_ | refine .nil ?_ | refine .seq ?_ | refine .region ?_ | refine .xs ?_ | refine .kb ?_ | refine .leaf ?_ | refine .block ?_ | refine .gn ?_ | refine .dr ?_ | fail
 simp only [Shp.small, Bool.and_eq_true, Nat.blt_eq] at hsm
 obtain ⟨⟨⟨⟨⟨m1, m2⟩, m3⟩, m4⟩, m5⟩, m6⟩ := hsm
 have had1 : intOp .add .i64 (x.names : Int) (x.more : Int) = some (.int .i64 ((x.names + x.more : Nat) : Int)) := add_nat (by omega)
 have had2 : intOp .add .i64 (x.parts : Int) (x.plus : Int) = some (.int .i64 ((x.parts + x.plus : Nat) : Int)) := add_nat (by omega)
 obtain ⟨xa, hxa⟩ : ∃ q, x.arms = q := ⟨_, rfl⟩
 obtain ⟨W, st1, b1, k5⟩ := lay (P := Tryz.prog) (T := 214) [.int .i64 0, .int .i64 0, .int .i64 0, .int .i64 0, .int .i64 0, .int .i64 0, .bool false, .int .i64 0, .int .i64 0] S4 (cs := shC x) rfl rfl
 have b1 : Bx W S4.next 214 [.int .i64 (x.s : Nat), .int .i64 (x.t : Nat), .int .i64 (x.names : Nat), .int .i64 (x.more : Nat), .int .i64 (x.parts : Nat), .int .i64 (x.plus : Nat), .bool xa, .int .i64 x.low, .int .i64 x.high] := hxa ▸ b1
 have bx : Bx W S.next 27 [.int .i64 e.kind, .int .i64 e.n, .str e.s, .str e.t, nv, lv, av] := (bx.same k4).same k5
 have sW : Same S W := (s0.trans k4).trans k5
 have kW : Same W W := Same.refl W
 obtain ⟨fi, hfi⟩ : ∃ f, (if decide (e.kind = 17) then 1 else e.names.length) = f := ⟨_, rfl⟩
 rw [hfi, hxa, e1, e2, e3] at hspec
 obtain ⟨nOk, h1⟩ : ∃ q, amongB e.n x.low x.high = q := ⟨_, rfl⟩
 obtain ⟨qs, h2⟩ : ∃ q, clsB e.s x.s = q := ⟨_, rfl⟩
 obtain ⟨qt, h3⟩ : ∃ q, clsB e.t x.t = q := ⟨_, rfl⟩
 obtain ⟨qn, h4⟩ : ∃ q, amongB ((elems nv).length : Nat) (x.names : Nat) ((x.names + x.more : Nat) : Int) = q := ⟨_, rfl⟩
 obtain ⟨ql, h5⟩ : ∃ q, amongB ((elems lv).length : Nat) (x.parts : Nat) ((x.parts + x.plus : Nat) : Int) = q := ⟨_, rfl⟩
 obtain ⟨a0, h6⟩ : ∃ q, decide (((elems av).length : Int) > 0) = q := ⟨_, rfl⟩
 obtain ⟨a9, h7⟩ : ∃ q, decide (((elems av).length : Int) > 9) = q := ⟨_, rfl⟩
 obtain ⟨d1, g1⟩ : ∃ d, distE 1 [] (e.names.take fi) = d := ⟨_, rfl⟩
 obtain ⟨d2, g2⟩ : ∃ d, distE 2 [] (e.names.drop fi) = d := ⟨_, rfl⟩
 obtain ⟨d3, g3⟩ : ∃ d, armsE e.kind [] e.arms = d := ⟨_, rfl⟩
 obtain ⟨z1, h8⟩ : ∃ q, (!decide (d1 = 0)) = q := ⟨_, rfl⟩
 obtain ⟨z2, h9⟩ : ∃ q, (!decide (d2 = 0)) = q := ⟨_, rfl⟩
 obtain ⟨z3, h10⟩ : ∃ q, (!decide (d3 = 0)) = q := ⟨_, rfl⟩
 obtain ⟨k11, h11⟩ : ∃ q, decide (e.kind = 11) = q := ⟨_, rfl⟩
 obtain ⟨ae, h12⟩ : ∃ q, decide (((elems av).length : Int) = 0) = q := ⟨_, rfl⟩
 obtain ⟨q17, h13⟩ : ∃ q, decide (e.kind = 17) = q := ⟨_, rfl⟩
 rw [h1, h2, h3, h4, h5, h6, h7, g1, g2, g3, h8, h9, h10, h11, h12] at hspec
 have c1 := amongF e.n x.low x.high
 have c2 := isF e.s hs x.s m1
 have c3 := isF e.t ht x.t m2
 have c4 := amongF ((elems nv).length : Nat) (x.names : Nat) ((x.names + x.more : Nat) : Int)
 have c5 := amongF ((elems lv).length : Nat) (x.parts : Nat) ((x.parts + x.plus : Nat) : Int)
 rw [h1] at c1; rw [h2] at c2; rw [h3] at c3; rw [h4] at c4; rw [h5] at c5
 repeat' first
  | refine Opl.val op_alloc rfl ?_
  | refine Opl.eff (op_store rfl rfl st1) ?_
  | refine Go.joinN 0 (fun E S' => Sub [(1, .ptr S.next 0), (3, .ptr S4.next 0)] E ∧ Same W S' ∧ (nOk && qs && qt && qn && ql && (xa || !a0) && !a9) = true) ?_ ?_
  | refine .std ?_ | refine .nil ?_ | refine .seq ?_ | refine .region ?_ | refine .xs ?_ | refine .kb ?_ | refine .leaf ?_ | refine .block ?_ | refine .gn ?_ | refine .dr ?_ | fail
 ·refine ⟨?_⟩
  rintro E S6 ⟨hE, k6, hall⟩
  refine Go.weaken ?_ hE
  simp only [Bool.and_eq_true] at hall
  obtain ⟨⟨⟨⟨⟨⟨r1, r2⟩, r3⟩, r4⟩, r5⟩, r6⟩, r7⟩ := hall
  have r7 : a9 = false := by simpa using r7
  subst r1 r2 r3 r4 r5 r7
  rw [nodeB_on r6] at hspec
  have hfl : fi ≤ (elems nv).length := by
   rw [← hfi, e1]
   split
   ·rename_i hq
    have hq : e.kind = 17 := of_decide_eq_true hq
    rw [hq] at hx
    have hxx : x.names = 1 := by
     have h17 : shps[17]? = some x := hx
     simp only [shps, List.getElem?_cons_succ, List.getElem?_cons_zero, Option.some.injEq] at h17
     rw [← h17]
    rw [hxx] at h4
    unfold amongB at h4
    simp at h4
    omega
   ·exact Nat.le_refl _
  have hnl : (elems nv).length ≤ 9223372036854775807 := hnm.2.1
  obtain ⟨mv, hmv, hsv⟩ := strs_take (P := Tryz.prog) (T := 23) ElT.h SzN.h hnm fi hfl
  obtain ⟨mw, hmw, hsw⟩ := strs_drop (P := Tryz.prog) (T := 23) ElT.h SzN.h hnm fi hfl
  have cd1 := distinctF hsv hsv.len 1 (by decide)
  have cd2 := distinctF hsw hsw.len 2 (by decide)
  rw [g1] at cd1
  rw [g2] at cd2
  rw [h13] at hfi
  repeat' first
   | refine Opl.val (op_load rfl (ld_bx bx k6 _ rfl)) rfl ?_
   | refine Opl.val (op_lenL rfl hnm.1.isL rfl) rfl ?_
   | refine Opl.val (op_int rfl rfl rfl (eql_i h13)) rfl ?_
   | refine Go.joinC 89 (fun E S' => Sub [(1, .ptr S.next 0), (3, .ptr S4.next 0), (4, .int .i64 (fi : Int))] E ∧ Same W S') ?_ ?_
   | refine .std ?_ | refine .nil ?_ | refine .seq ?_ | refine .region ?_ | refine .xs ?_ | refine .kb ?_ | refine .leaf ?_ | refine .block ?_ | refine .gn ?_ | refine .dr ?_ | fail
  ·refine ⟨?_⟩
   rintro E S7 ⟨hE7, k7⟩
   refine Go.weaken ?_ hE7
   repeat' first
    | refine Go.joinC 104 (fun E S' => Sub [(1, .ptr S.next 0), (3, .ptr S4.next 0)] E ∧ Same W S' ∧ (!z2) = true) ?_ ?_
    | refine Opl.val (op_load rfl (ld_bx bx (by assumption) _ rfl)) rfl ?_
    | refine Opl.val (op_slH rfl rfl hmv) rfl ?_
    | refine Opl.val (op_slL rfl rfl hmw) rfl ?_
    | refine Opl.val (op_int rfl rfl rfl (neq_i h8)) rfl ?_
    | refine Opl.val (op_int rfl rfl rfl (neq_i h9)) rfl ?_
    | refine Opl.callS (U0 := W) (by assumption) rfl (by kernel_rfl) cd1 rfl (fun S8 k8 => ?_)
    | refine Opl.callS (U0 := W) (by assumption) rfl (by kernel_rfl) cd2 rfl (fun S8 k8 => ?_)
    | refine op_gyes rfl ?_ rfl
    | refine .gn ?_
    | (refine Opl.gonTN rfl rfl (fun hq => ?_) (fun hq => ?_) <;> subst hq)
    | (refine Opl.gonFN rfl rfl (fun hq => ?_) (fun hq => ?_) <;> subst hq)
    | (refine Opl.gonT rfl rfl (fun hq => ?_) (fun hq => ?_) <;> subst hq)
    | (refine Opl.gonF rfl rfl (fun hq => ?_) (fun hq => ?_) <;> subst hq)
    | refine Go.condT rfl ?_
    | refine Go.condF rfl ?_
    | (refine Go.condN rfl (fun hq => ?_) (fun hq => ?_) <;> subst hq)
    | (refine Go.condV rfl (fun hq => ?_) (fun hq => ?_) <;> subst hq)
    | exact At.fnr rfl rfl rfl ⟨pack_n (by rw [hspec]; rfl), sW.trans (by assumption)⟩
    | refine .std ?_ | refine .nil ?_ | refine .seq ?_ | refine .region ?_ | refine .xs ?_ | refine .kb ?_ | refine .leaf ?_ | refine .block ?_ | refine .gn ?_ | refine .dr ?_ | fail
   ·refine ⟨?_⟩
    rintro E S9 ⟨hE9, k9, hz2⟩
    have hz2 : z2 = false := by simpa using hz2
    subst hz2
    simp only [Bool.false_eq_true, if_false] at hspec
    exact (nodeTail he ha hal e3 bx b1 sW g3 h10 h11 h12 hspec S9 k9).weaken hE9
   ·refine ⟨fun hj => ?_⟩
    repeat' first
     | refine op_gyes rfl ?_ rfl
     | refine .gn ?_
     | (refine Opl.gonTN rfl rfl (fun hq => ?_) (fun hq => ?_) <;> subst hq)
     | (refine Opl.gonFN rfl rfl (fun hq => ?_) (fun hq => ?_) <;> subst hq)
     | (refine Opl.gonT rfl rfl (fun hq => ?_) (fun hq => ?_) <;> subst hq)
     | (refine Opl.gonF rfl rfl (fun hq => ?_) (fun hq => ?_) <;> subst hq)
     | refine Go.condT rfl ?_
     | refine Go.condF rfl ?_
     | (refine Go.condN rfl (fun hq => ?_) (fun hq => ?_) <;> subst hq)
     | (refine Go.condV rfl (fun hq => ?_) (fun hq => ?_) <;> subst hq)
     | exact hj _ _ ⟨⟨rfl, rfl, trivial⟩, by assumption, rfl⟩
     | exact At.fnr rfl rfl rfl ⟨pack_n (by rw [hspec]; rfl), sW.trans (by assumption)⟩
     | refine .std ?_ | refine .nil ?_ | refine .seq ?_ | refine .region ?_ | refine .xs ?_ | refine .kb ?_ | refine .leaf ?_ | refine .block ?_ | refine .gn ?_ | refine .dr ?_ | fail
  ·refine ⟨fun hj => ?_⟩
   repeat' first
    | refine op_gyes rfl ?_ rfl
    | refine .gn ?_
    | (refine Opl.gonTN rfl rfl (fun hq => ?_) (fun hq => ?_) <;> subst hq)
    | (refine Opl.gonFN rfl rfl (fun hq => ?_) (fun hq => ?_) <;> subst hq)
    | (refine Opl.gonT rfl rfl (fun hq => ?_) (fun hq => ?_) <;> subst hq)
    | (refine Opl.gonF rfl rfl (fun hq => ?_) (fun hq => ?_) <;> subst hq)
    | refine Go.condT rfl ?_
    | refine Go.condF rfl ?_
    | (refine Go.condN rfl (fun hq => ?_) (fun hq => ?_) <;> subst hq)
    | (refine Go.condV rfl (fun hq => ?_) (fun hq => ?_) <;> subst hq)
    | exact hj _ _ ⟨⟨rfl, rfl, by rw [← hfi]; rfl, trivial⟩, k6⟩
    | exact hj _ _ ⟨⟨rfl, rfl, by rw [← hfi, e1]; rfl, trivial⟩, k6⟩
    | refine .std ?_ | refine .nil ?_ | refine .seq ?_ | refine .region ?_ | refine .xs ?_ | refine .kb ?_ | refine .leaf ?_ | refine .block ?_ | refine .gn ?_ | refine .dr ?_ | fail
 ·refine ⟨fun hj => ?_⟩
  repeat' first
   | exact hj _ _ ⟨⟨rfl, rfl, trivial⟩, by assumption, rfl⟩
   | refine Opl.val (op_load rfl (ld_bx bx (by assumption) _ rfl)) rfl ?_
   | refine Opl.val (op_load rfl (ld_bx b1 (by assumption) _ rfl)) rfl ?_
   | refine Opl.val (op_lenL rfl hnm.1.isL rfl) rfl ?_
   | refine Opl.val (op_lenL rfl hl.isL rfl) rfl ?_
   | refine Opl.val (op_lenL rfl ha.isL rfl) rfl ?_
   | refine Opl.val (op_int rfl rfl rfl had1) rfl ?_
   | refine Opl.val (op_int rfl rfl rfl had2) rfl ?_
   | refine Opl.val (op_int rfl rfl rfl (gtr_i h6)) rfl ?_
   | refine Opl.val (op_int rfl rfl rfl (gtr_i h7)) rfl ?_
   | refine Opl.callS (U0 := W) (by assumption) rfl (by kernel_rfl) c1 rfl (fun S8 k8 => ?_)
   | refine Opl.callS (U0 := W) (by assumption) rfl (by kernel_rfl) c2 rfl (fun S8 k8 => ?_)
   | refine Opl.callS (U0 := W) (by assumption) rfl (by kernel_rfl) c3 rfl (fun S8 k8 => ?_)
   | refine Opl.callS (U0 := W) (by assumption) rfl (by kernel_rfl) c4 rfl (fun S8 k8 => ?_)
   | refine Opl.callS (U0 := W) (by assumption) rfl (by kernel_rfl) c5 rfl (fun S8 k8 => ?_)
   | refine op_gyes rfl ?_ rfl
   | refine .gn ?_
   | (refine Opl.gonTN rfl rfl (fun hq => ?_) (fun hq => ?_) <;> subst hq)
   | (refine Opl.gonFN rfl rfl (fun hq => ?_) (fun hq => ?_) <;> subst hq)
   | (refine Opl.gonT rfl rfl (fun hq => ?_) (fun hq => ?_) <;> subst hq)
   | (refine Opl.gonF rfl rfl (fun hq => ?_) (fun hq => ?_) <;> subst hq)
   | refine Go.condT rfl ?_
   | refine Go.condF rfl ?_
   | (refine Go.condN rfl (fun hq => ?_) (fun hq => ?_) <;> subst hq)
   | (refine Go.condV rfl (fun hq => ?_) (fun hq => ?_) <;> subst hq)
   | exact At.fnr rfl rfl rfl ⟨pack_n (by rw [hspec]; rfl), sW.trans (by assumption)⟩
   | refine .std ?_ | refine .nil ?_ | refine .seq ?_ | refine .region ?_ | refine .xs ?_ | refine .kb ?_ | refine .leaf ?_ | refine .block ?_ | refine .gn ?_ | refine .dr ?_ | fail
theorem nodeF {e : Ex} {cs : List V} (he : ExC e cs) : Pu Tryz.prog 144 [.agg cs] (.int .i64 (nodeE e)) := by
 cases h : amongB e.kind 0 19 with
 | false => exact nodeLow he h
 | true => exact nodeIn he h
end Go.Proofs.YtodiioeddlmjhaaGreatDoor
