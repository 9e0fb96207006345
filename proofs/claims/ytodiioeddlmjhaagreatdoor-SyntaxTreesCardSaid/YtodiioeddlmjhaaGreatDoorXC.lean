import Derived.Test.YtodiioeddlmjhaaGreatDoorXA
set_option linter.unusedVariables false
set_option linter.unusedSimpArgs false
namespace Go.Proofs.YtodiioeddlmjhaaGreatDoor
open Go.RowKit Go.Ev
set_option maxRecDepth 100000
set_option linter.unusedVariables false
set_option linter.unusedSimpArgs false
attribute [local irreducible] Go.Ev.opE
theorem pack_bo {a b : Bool} (h : a = b) : some (V.bool a) = some (V.bool b) := congrArg (fun x => some (V.bool x)) h
theorem armE_ref (kind : Int) (seen : List (List UInt8)) (a : Ar) {hd z0 nr l1 l2 l4 c1 c2 tw : Bool} {d : Int} (h0 : (!decide (kind = 11)) = hd) (h1 : seen.isEmpty = z0) (h2 : (!decide (a.op = [114, 101, 116, 117, 114, 110])) = nr)
 (h3 : (!decide ((a.names.length : Int) = 1)) = l1) (h4 : (!decide ((a.names.length : Int) = 2)) = l2) (h5 : decide ((a.names.length : Int) > 4) = l4) (h6 : clsB a.op 1 = c1) (h7 : clsB a.op 2 = c2) (h8 : distE 1 [] a.names = d) (h9 : seen.contains a.op = tw) :
 armE kind seen a = if ((hd && z0) && (nr || l1)) || ((hd && !(hd && z0)) && l2) || (!hd && l4) then 7 else if ((!(hd && z0) && !c2) && !hd) || ((!(hd && z0) && hd) && !c1) then 4 else thenE d (if tw then 5 else 0) := by
 unfold armE
 by_cases hk : kind = 11
 ·subst hk
  have h0 : hd = false := by rw [← h0]; rfl
  subst h0
  have h5' : decide ((a.names.length : Int) ≤ 4) = !l4 := by rw [← h5]; by_cases h : (a.names.length : Int) ≤ 4 <;> simp [h] <;> omega
  simp only [h7, h8, h9, h5', decide_true, if_true]
  cases l4 <;> cases c2 <;> simp
 ·have h0 : hd = true := by rw [← h0]; simp [hk]
  subst h0
  have h3' : decide ((a.names.length : Int) = 1) = !l1 := by rw [← h3]; simp
  have h4' : decide ((a.names.length : Int) = 2) = !l2 := by rw [← h4]; simp
  have h2' : decide (a.op = [114, 101, 116, 117, 114, 110]) = !nr := by rw [← h2]; simp
  have hk2 : decide (kind = 11) = false := decide_eq_false hk
  have hk3 : decide (kind ≠ 11) = true := decide_eq_true hk
  simp only [hk2, hk3, Bool.false_eq_true, if_false]
  simp only [h1, h2', h3', h4', h6, h7, h8, h9]
  clear h0 h1 h2 h2' h3 h3' h4 h4' h5 h6 h7 h8 h9
  cases z0 <;> cases nr <;> cases l1 <;> cases l2 <;> cases c1 <;> cases c2 <;> simp
set_option maxHeartbeats 16000000 in
theorem refArms {e : Ex} {cs : List V} (he : ExC e cs) :
 Pu Tryz.prog 178 [.agg cs] (.int .i64 (thenE (armsE e.kind [] e.arms) (if decide (e.kind ≠ 11) && decide ((e.arms.length : Int) = 0) then 7 else 0))) := by
 obtain ⟨nv, lv, av, rfl, hk, hn, hs, ht, hnm, hl, hll, ha, hal, hL, hA⟩ := he.inv
 have hal : (elems av).length ≤ 9223372036854775807 := hal
 have e3 : e.arms.length = (elems av).length := hA.1
 intro S
 obtain ⟨U, hU, bx, s0⟩ := box1 S 27 [.int .i64 e.kind, .int .i64 e.n, .str e.s, .str e.t, nv, lv, av]
 have k0 : Same U U := Same.refl U
 obtain ⟨hd, hhd⟩ : ∃ q, (!decide (e.kind = 11)) = q := ⟨_, rfl⟩
 obtain ⟨ae, hae⟩ : ∃ q, decide (((elems av).length : Int) = 0) = q := ⟨_, rfl⟩
 obtain ⟨r, hr⟩ : ∃ r, thenE (armsE e.kind [] e.arms) (if decide (e.kind ≠ 11) && decide ((e.arms.length : Int) = 0) then 7 else 0) = r := ⟨_, rfl⟩
 have hfin : r = thenE (armsE e.kind [] e.arms) (if hd && ae then 7 else 0) := by
  rw [← hr, e3, hae, ← hhd]
  by_cases h : e.kind = 11 <;> simp [h]
 rw [hr]
 refine CallTo.of (n := 116) Tryz.func178 rfl rfl ?_
 repeat' first
  | refine Opl.val (op_box rfl) rfl (Opl.cast (S' := U) ?_ hU)
  | refine Opl.val (op_load rfl (ld_bx bx (by assumption) _ rfl)) rfl ?_
  | refine Opl.val (op_int rfl rfl rfl (neq_i hhd)) rfl ?_
  | refine .std ?_ | refine .nil ?_ | refine .seq ?_ | refine .region ?_ | refine .xs ?_ | refine .kb ?_ | refine .leaf ?_ | refine .block ?_ | refine .gn ?_ | refine .dr ?_ | fail
 refine Go.weaken (E' := [(1, .ptr S.next 0), (3, .bool hd), (4, .int .i64 (0 : Nat))]) ?_ ⟨rfl, rfl, rfl, trivial⟩
 refine Go.loop_ind (α := Nat) (fun i => (elems av).length - i) (fun i E S' => E = [(1, .ptr S.next 0), (3, .bool hd), (4, .int .i64 i)] ∧ i ≤ (elems av).length ∧ Same U S' ∧ r = thenE (armsE e.kind ((e.arms.take i).map Ar.op) (e.arms.drop i)) (if hd && ae then 7 else 0)) ?_ 0 _ _ ⟨rfl, Nat.zero_le _, k0, hfin⟩
 rintro i E S1 ⟨rfl, hi, k1, hdi⟩ IH
 repeat' first
  | refine Opl.val (op_load rfl (ld_bx bx k1 _ rfl)) rfl ?_
  | refine Opl.val (op_lenL rfl ha.isL rfl) rfl ?_
  | refine Opl.fresh (op_int rfl rfl rfl rfl) rfl (fun q hq => ?_)
  | refine .std ?_ | refine .nil ?_ | refine .seq ?_ | refine .region ?_ | refine .xs ?_ | refine .kb ?_ | refine .leaf ?_ | refine .block ?_ | refine .gn ?_ | refine .dr ?_ | fail
 refine Go.cond rfl (fun hq => ?_) (fun hq => ?_)
 ·subst hq
  have hq : i < (elems av).length := by have := of_decide_eq_true (by assumption : decide ((i : Int) < ((elems av).length : Nat)) = true); omega
  have hq2 : i < e.arms.length := by rw [e3]; exact hq
  obtain ⟨a, v, hx, hix, hv, hm⟩ := hA.at hq
  have hxe : e.arms[i] = a := (List.getElem?_eq_some_iff.1 hx).2
  rw [armsE_step hx hq2, hxe, thenE_assoc] at hdi
  obtain ⟨nw, ds, hcv, ho, hnw, hbd⟩ := hv
  have hvl : v.cells.length = 9 := by rw [hcv]; simp [hbd.len7]
  have hvo : v.cells.all V.one = true := by rw [hcv]; simp only [List.all_cons, hnw.1.one, hbd.ones]; rfl
  obtain ⟨W, st1, b1, k2⟩ := lay (P := Tryz.prog) (T := 100) [.str [], .nils, .int .i64 0, .int .i64 0, .str [], .str [], .nils, .nils, .nils] S1 hvl hvo
  rw [hcv] at b1
  have bw : Bx W S.next 27 [.int .i64 e.kind, .int .i64 e.n, .str e.s, .str e.t, nv, lv, av] := (bx.same k1).same k2
  have kW : Same W W := Same.refl W
  have sW : Same S W := (s0.trans k1).trans k2
  have uW : Same U W := k1.trans k2
  have hemp : ((e.arms.take i).map Ar.op).isEmpty = decide ((i : Int) = 0) := by
   rw [Bool.eq_iff_iff]; simp
   intro h; rw [h] at hq2; simp at hq2
  have hnml : a.names.length = (elems nw).length := hnw.2.2.1
  obtain ⟨z0, h1⟩ : ∃ q, decide ((i : Int) = 0) = q := ⟨_, rfl⟩
  obtain ⟨nr, h2⟩ : ∃ q, (!decide (a.op = [114, 101, 116, 117, 114, 110])) = q := ⟨_, rfl⟩
  obtain ⟨l1, h3⟩ : ∃ q, (!decide (((elems nw).length : Int) = 1)) = q := ⟨_, rfl⟩
  obtain ⟨l2, h4⟩ : ∃ q, (!decide (((elems nw).length : Int) = 2)) = q := ⟨_, rfl⟩
  obtain ⟨l4, h5⟩ : ∃ q, decide (((elems nw).length : Int) > 4) = q := ⟨_, rfl⟩
  obtain ⟨c1, h6⟩ : ∃ q, clsB a.op 1 = q := ⟨_, rfl⟩
  obtain ⟨c2, h7⟩ : ∃ q, clsB a.op 2 = q := ⟨_, rfl⟩
  obtain ⟨d, h8⟩ : ∃ d, distE 1 [] a.names = d := ⟨_, rfl⟩
  obtain ⟨tw, h9⟩ : ∃ q, ((e.arms.take i).map Ar.op).contains a.op = q := ⟨_, rfl⟩
  obtain ⟨z, hz⟩ : ∃ q, (!decide (d = 0)) = q := ⟨_, rfl⟩
  have hspec := armE_ref e.kind ((e.arms.take i).map Ar.op) a (l1 := l1) (l2 := l2) (l4 := l4) hhd (hemp.trans h1) h2 (by rw [hnml]; exact h3) (by rw [hnml]; exact h4) (by rw [hnml]; exact h5) h6 h7 h8 h9
  obtain ⟨ra, hra⟩ : ∃ ra, armE e.kind ((e.arms.take i).map Ar.op) a = ra := ⟨_, rfl⟩
  rw [hra] at hspec hdi
  have cc1 := refClass a.op ho 1 (by decide)
  have cc2 := refClass a.op ho 2 (by decide)
  have cd := refDistinct hnw
  rw [h6] at cc1; rw [h7] at cc2; rw [h8] at cd
  obtain ⟨b7, hb7⟩ : ∃ q, (((hd && z0) && (nr || l1)) || ((hd && !(hd && z0)) && l2) || (!hd && l4)) = q := ⟨_, rfl⟩
  obtain ⟨b4, hb4⟩ : ∃ q, (((!(hd && z0) && !c2) && !hd) || ((!(hd && z0) && hd) && !c1)) = q := ⟨_, rfl⟩
  obtain ⟨fst, hfst⟩ : ∃ q, (hd && z0) = q := ⟨_, rfl⟩
  rw [hb7, hb4] at hspec
  rw [hfst] at hb7 hb4
  repeat' first
   | refine Go.joinRI 6 (fun E S' => Sub [(1, .ptr S.next 0), (3, .bool hd), (4, .int .i64 i), (5, .ptr S1.next 0), (6, .bool fst)] E ∧ Same W S') ?_ ?_
   | refine Opl.val (op_load rfl (ld_bx bx k1 _ rfl)) rfl ?_
   | refine Opl.val (op_ixaV ha rfl rfl hix) rfl ?_
   | refine Opl.val (op_load rfl (ld_agg (Pt.cptr _ _ _) hvl)) rfl ?_
   | refine Opl.val op_alloc rfl ?_
   | refine Opl.eff (op_store rfl rfl st1) ?_
   | refine .std ?_ | refine .nil ?_ | refine .seq ?_ | refine .region ?_ | refine .xs ?_ | refine .kb ?_ | refine .leaf ?_ | refine .block ?_ | refine .gn ?_ | refine .dr ?_ | fail
  ·refine ⟨?_⟩
   rintro E S3 ⟨hE3, k3⟩
   refine Go.weaken ?_ hE3
   repeat' first
    | refine Go.joinRI 7 (fun E S' => Sub [(1, .ptr S.next 0), (3, .bool hd), (4, .int .i64 i), (5, .ptr S1.next 0), (6, .bool fst), (63, .bool b7)] E ∧ Same W S') ?_ ?_
    | refine .std ?_ | refine .nil ?_ | refine .seq ?_ | refine .region ?_ | refine .xs ?_ | refine .kb ?_ | refine .leaf ?_ | refine .block ?_ | refine .gn ?_ | refine .dr ?_ | fail
   ·refine ⟨?_⟩
    rintro E S4 ⟨hE4, k4⟩
    refine Go.weaken ?_ hE4
    cases b7
    case true =>
     have hre : r = 7 := by rw [hdi, hspec]; rfl
     repeat' first
      | refine Go.condT rfl ?_
      | exact At.fnr rfl rfl rfl ⟨pack_n hre.symm, sW.trans k4⟩
      | refine .std ?_ | refine .nil ?_ | refine .seq ?_ | refine .region ?_ | refine .xs ?_ | refine .kb ?_ | refine .leaf ?_ | refine .block ?_ | refine .gn ?_ | refine .dr ?_ | fail
    case false =>
     have hspec : ra = if b4 then 4 else thenE d (if tw then 5 else 0) := hspec
     repeat' first
      | refine Go.condF rfl ?_
      | refine Go.joinRI 9 (fun E S' => Sub [(1, .ptr S.next 0), (3, .bool hd), (4, .int .i64 i), (5, .ptr S1.next 0), (88, .bool b4)] E ∧ Same W S') ?_ ?_
      | refine .std ?_ | refine .nil ?_ | refine .seq ?_ | refine .region ?_ | refine .xs ?_ | refine .kb ?_ | refine .leaf ?_ | refine .block ?_ | refine .gn ?_ | refine .dr ?_ | fail
     ·refine ⟨?_⟩
      rintro E S5 ⟨hE5, k5⟩
      refine Go.weaken ?_ hE5
      cases b4
      case true =>
       have hre : r = 4 := by rw [hdi, hspec]; rfl
       repeat' first
        | refine Go.condT rfl ?_
        | exact At.fnr rfl rfl rfl ⟨pack_n hre.symm, sW.trans k5⟩
        | refine .std ?_ | refine .nil ?_ | refine .seq ?_ | refine .region ?_ | refine .xs ?_ | refine .kb ?_ | refine .leaf ?_ | refine .block ?_ | refine .gn ?_ | refine .dr ?_ | fail
      case false =>
       have hspec : ra = thenE d (if tw then 5 else 0) := hspec
       cases z
       case true =>
        have hd0 : d ≠ 0 := by simpa using hz
        have hre : r = d := by rw [hdi, hspec, thenE_nz hd0, thenE_nz hd0]
        repeat' first
         | refine Opl.val (op_load rfl (ld_bx b1 (by assumption) _ rfl)) rfl ?_
         | refine Opl.val (op_int rfl rfl rfl (neq_i hz)) rfl ?_
         | refine Opl.callS (U0 := W) (by assumption) rfl (by kernel_rfl) cd rfl (fun S8 k8 => ?_)
         | refine Go.condF rfl ?_
         | refine Go.condT rfl ?_
         | exact At.fnr rfl rfl rfl ⟨pack_n hre.symm, sW.trans (by assumption)⟩
         | refine .std ?_ | refine .nil ?_ | refine .seq ?_ | refine .region ?_ | refine .xs ?_ | refine .kb ?_ | refine .leaf ?_ | refine .block ?_ | refine .gn ?_ | refine .dr ?_ | fail
       case false =>
        have hd0 : d = 0 := by simpa using hz
        have hspec : ra = if tw then 5 else 0 := by rw [hspec, hd0]; rfl
        repeat' first
         | refine Opl.val (op_load rfl (ld_bx b1 (by assumption) _ rfl)) rfl ?_
         | refine Opl.val (op_int rfl rfl rfl (neq_i hz)) rfl ?_
         | refine Opl.callS (U0 := W) (by assumption) rfl (by kernel_rfl) cd rfl (fun S8 k8 => ?_)
         | refine Go.condF rfl ?_
         | refine .std ?_ | refine .nil ?_ | refine .seq ?_ | refine .region ?_ | refine .xs ?_ | refine .kb ?_ | refine .leaf ?_ | refine .block ?_ | refine .gn ?_ | refine .dr ?_ | fail
        refine Go.weaken (E' := [(1, .ptr S.next 0), (3, .bool hd), (4, .int .i64 i), (5, .ptr S1.next 0), (8, .int .i64 (0 : Nat))]) ?_ ⟨rfl, rfl, rfl, rfl, rfl, trivial⟩
        have htw0 : tw = (((e.arms.take i).map Ar.op).drop 0).contains a.op := h9.symm
        refine Go.loop_ind (α := Nat) (fun k => i - k) (fun k E S' => E = [(1, .ptr S.next 0), (3, .bool hd), (4, .int .i64 i), (5, .ptr S1.next 0), (8, .int .i64 k)] ∧ k ≤ i ∧ Same W S' ∧ tw = (((e.arms.take i).map Ar.op).drop k).contains a.op) ?_ 0 _ _ ⟨rfl, Nat.zero_le _, by assumption, htw0⟩
        rintro k E S6 ⟨rfl, hk, k6, htk⟩ IH2
        by_cases hki : k < i
        ·have g0 : decide ((k : Int) < (i : Int)) = true := decide_eq_true (by omega)
         obtain ⟨b, u, hbx, hbi, hbv, hbm⟩ := hA.at (i := k) (by omega)
         obtain ⟨nb, db, hcb, hob, hnb, hbb⟩ := hbv
         have hpt : ∀ S, Pt S (.cptr none u.cells 0) (.str b.op :: nb :: db) := fun S => by rw [hcb]; exact Pt.cptr _ _ _
         have hLk : ((e.arms.take i).map Ar.op)[k]? = some b.op := by
          rw [List.getElem?_map, List.getElem?_take_of_lt hki, hbx]; rfl
         rw [contains_step hLk] at htk
         obtain ⟨q, hqq⟩ : ∃ q, decide (b.op = a.op) = q := ⟨_, rfl⟩
         rw [show decide (a.op = b.op) = q by rw [← hqq]; exact decide_eq_decide.2 eq_comm] at htk
         cases q
         case true =>
          have hre : r = 5 := by rw [hdi, hspec, htk]; rfl
          repeat' first
           | refine Opl.val (op_int rfl rfl rfl (lss_i g0)) rfl ?_
           | refine Opl.val (op_load rfl (ld_bx bw (by assumption) _ rfl)) rfl ?_
           | refine Opl.val (op_load rfl (ld_bx b1 (by assumption) _ rfl)) rfl ?_
           | refine Opl.val (op_ixaV ha rfl rfl hbi) rfl ?_
           | refine Opl.val (op_load rfl (ld_one ((hpt _).at _ rfl))) rfl ?_
           | refine Opl.val (op_str rfl rfl (eql_s hqq)) rfl ?_
           | refine Go.condT rfl ?_
           | exact At.fnr rfl rfl rfl ⟨pack_n hre.symm, sW.trans k6⟩
           | refine .std ?_ | refine .nil ?_ | refine .seq ?_ | refine .region ?_ | refine .xs ?_ | refine .kb ?_ | refine .leaf ?_ | refine .block ?_ | refine .gn ?_ | refine .dr ?_ | fail
         case false =>
          repeat' first
           | refine Opl.val (op_int rfl rfl rfl (lss_i g0)) rfl ?_
           | refine Opl.val (op_load rfl (ld_bx bw (by assumption) _ rfl)) rfl ?_
           | refine Opl.val (op_load rfl (ld_bx b1 (by assumption) _ rfl)) rfl ?_
           | refine Opl.val (op_ixaV ha rfl rfl hbi) rfl ?_
           | refine Opl.val (op_load rfl (ld_one ((hpt _).at _ rfl))) rfl ?_
           | refine Opl.val (op_str rfl rfl (eql_s hqq)) rfl ?_
           | refine Go.condT rfl ?_
           | refine Go.condF rfl ?_
           | refine Opl.val (op_int rfl rfl rfl (inc_ok (i := k) (by omega))) rfl ?_
           | refine .std ?_ | refine .nil ?_ | refine .seq ?_ | refine .region ?_ | refine .xs ?_ | refine .kb ?_ | refine .leaf ?_ | refine .block ?_ | refine .gn ?_ | refine .dr ?_ | fail
          exact (IH2 (k + 1) _ _ (by omega) ⟨rfl, by omega, k6, htk⟩).weaken ⟨rfl, rfl, rfl, rfl, rfl, trivial⟩
        ·have g0 : decide ((k : Int) < (i : Int)) = false := decide_eq_false (by omega)
         have hnil : ((e.arms.take i).map Ar.op).drop k = [] := List.drop_eq_nil_of_le (by rw [List.length_map, List.length_take]; omega)
         rw [hnil] at htk
         have htk : tw = false := htk
         have hre : r = thenE (armsE e.kind ((e.arms.take (i + 1)).map Ar.op) (e.arms.drop (i + 1))) (if hd && ae then 7 else 0) := by rw [hdi, hspec, htk]; rfl
         repeat' first
          | refine Opl.val (op_int rfl rfl rfl (lss_i g0)) rfl ?_
          | refine Go.condF rfl ?_
          | refine Opl.val (op_int rfl rfl rfl (inc_ok (i := i) (by omega))) rfl ?_
          | exact (IH (i + 1) _ _ (by omega) ⟨rfl, by omega, uW.trans k6, hre⟩).weaken ⟨rfl, rfl, rfl, trivial⟩
          | refine .std ?_ | refine .nil ?_ | refine .seq ?_ | refine .region ?_ | refine .xs ?_ | refine .kb ?_ | refine .leaf ?_ | refine .block ?_ | refine .gn ?_ | refine .dr ?_ | fail
     ·refine ⟨fun hj => ?_⟩
      repeat' first
       | exact hj _ _ ⟨⟨rfl, rfl, rfl, rfl, pack_bo hb4, trivial⟩, by assumption⟩
       | refine Opl.val (op_load rfl (ld_bx b1 (by assumption) _ rfl)) rfl ?_
       | refine Opl.callS (U0 := W) (by assumption) rfl (by kernel_rfl) cc1 rfl (fun S8 k8 => ?_)
       | refine Opl.callS (U0 := W) (by assumption) rfl (by kernel_rfl) cc2 rfl (fun S8 k8 => ?_)
       | refine op_gyes rfl ?_ rfl
       | refine .gn ?_
       | (refine Opl.gonTN rfl rfl (fun hq => ?_) (fun hq => ?_) <;> subst hq)
       | (refine Opl.gonFN rfl rfl (fun hq => ?_) (fun hq => ?_) <;> subst hq)
       | (refine Opl.gonT rfl rfl (fun hq => ?_) (fun hq => ?_) <;> subst hq)
       | (refine Opl.gonF rfl rfl (fun hq => ?_) (fun hq => ?_) <;> subst hq)
       | refine Go.condT rfl ?_
       | refine Go.condF rfl ?_
       | (refine Go.condN rfl (fun hq => ?_) (fun hq => ?_) <;> subst hq)
       | (refine Go.condV rfl (fun hq => ?_) (fun hq => ?_) <;> subst hq)
       | refine .std ?_ | refine .nil ?_ | refine .seq ?_ | refine .region ?_ | refine .xs ?_ | refine .kb ?_ | refine .leaf ?_ | refine .block ?_ | refine .gn ?_ | refine .dr ?_ | fail
   ·refine ⟨fun hj => ?_⟩
    repeat' first
     | exact hj _ _ ⟨⟨rfl, rfl, rfl, rfl, rfl, pack_bo hb7, trivial⟩, by assumption⟩
     | refine Opl.val (op_load rfl (ld_bx b1 (by assumption) _ rfl)) rfl ?_
     | refine Opl.val (op_lenL rfl hnw.1.isL rfl) rfl ?_
     | refine Opl.val (op_str rfl rfl (neq_s h2)) rfl ?_
     | refine Opl.val (op_int rfl rfl rfl (neq_i h3)) rfl ?_
     | refine Opl.val (op_int rfl rfl rfl (neq_i h4)) rfl ?_
     | refine Opl.val (op_int rfl rfl rfl (gtr_i h5)) rfl ?_
     | refine op_gyes rfl ?_ rfl
     | refine .gn ?_
     | (refine Opl.gonTN rfl rfl (fun hq => ?_) (fun hq => ?_) <;> subst hq)
     | (refine Opl.gonFN rfl rfl (fun hq => ?_) (fun hq => ?_) <;> subst hq)
     | (refine Opl.gonT rfl rfl (fun hq => ?_) (fun hq => ?_) <;> subst hq)
     | (refine Opl.gonF rfl rfl (fun hq => ?_) (fun hq => ?_) <;> subst hq)
     | refine Go.condT rfl ?_
     | refine Go.condF rfl ?_
     | (refine Go.condN rfl (fun hq => ?_) (fun hq => ?_) <;> subst hq)
     | (refine Go.condV rfl (fun hq => ?_) (fun hq => ?_) <;> subst hq)
     | refine .std ?_ | refine .nil ?_ | refine .seq ?_ | refine .region ?_ | refine .xs ?_ | refine .kb ?_ | refine .leaf ?_ | refine .block ?_ | refine .gn ?_ | refine .dr ?_ | fail
  ·refine ⟨fun hj => ?_⟩
   repeat' first
    | exact hj _ _ ⟨⟨rfl, rfl, rfl, rfl, pack_bo hfst, trivial⟩, by assumption⟩
    | refine Opl.val (op_int rfl rfl rfl (eql_i h1)) rfl ?_
    | refine op_gyes rfl ?_ rfl
    | refine .gn ?_
    | (refine Opl.gonTN rfl rfl (fun hq => ?_) (fun hq => ?_) <;> subst hq)
    | (refine Opl.gonFN rfl rfl (fun hq => ?_) (fun hq => ?_) <;> subst hq)
    | (refine Opl.gonT rfl rfl (fun hq => ?_) (fun hq => ?_) <;> subst hq)
    | (refine Opl.gonF rfl rfl (fun hq => ?_) (fun hq => ?_) <;> subst hq)
    | refine Go.condT rfl ?_
    | refine Go.condF rfl ?_
    | (refine Go.condN rfl (fun hq => ?_) (fun hq => ?_) <;> subst hq)
    | (refine Go.condV rfl (fun hq => ?_) (fun hq => ?_) <;> subst hq)
    | refine .std ?_ | refine .nil ?_ | refine .seq ?_ | refine .region ?_ | refine .xs ?_ | refine .kb ?_ | refine .leaf ?_ | refine .block ?_ | refine .gn ?_ | refine .dr ?_ | fail
 ·subst hq
  have hq : (elems av).length ≤ i := by have := of_decide_eq_false (by assumption : decide ((i : Int) < ((elems av).length : Nat)) = false); omega
  have hnil : e.arms.drop i = [] := List.drop_eq_nil_of_le (by omega)
  rw [hnil] at hdi
  have hdi : r = if hd && ae then 7 else 0 := hdi
  repeat' first
   | refine Opl.val (op_load rfl (ld_bx bx k1 _ rfl)) rfl ?_
   | refine Opl.val (op_lenL rfl ha.isL rfl) rfl ?_
   | refine Opl.val (op_int rfl rfl rfl (eql_i hae)) rfl ?_
   | refine op_gyes rfl ?_ rfl
   | refine .gn ?_
   | (refine Opl.gonTN rfl rfl (fun hq => ?_) (fun hq => ?_) <;> subst hq)
   | (refine Opl.gonFN rfl rfl (fun hq => ?_) (fun hq => ?_) <;> subst hq)
   | (refine Opl.gonT rfl rfl (fun hq => ?_) (fun hq => ?_) <;> subst hq)
   | (refine Opl.gonF rfl rfl (fun hq => ?_) (fun hq => ?_) <;> subst hq)
   | refine Go.condT rfl ?_
   | refine Go.condF rfl ?_
   | (refine Go.condN rfl (fun hq => ?_) (fun hq => ?_) <;> subst hq)
   | (refine Go.condV rfl (fun hq => ?_) (fun hq => ?_) <;> subst hq)
   | exact At.fnr rfl rfl rfl ⟨pack_n (by rw [hdi]; rfl), s0.trans (by assumption)⟩
   | refine .std ?_ | refine .nil ?_ | refine .seq ?_ | refine .region ?_ | refine .xs ?_ | refine .kb ?_ | refine .leaf ?_ | refine .block ?_ | refine .gn ?_ | refine .dr ?_ | fail
end Go.Proofs.YtodiioeddlmjhaaGreatDoor
