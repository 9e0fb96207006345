import Derived.Test.YtodiioeddlmjhaaGreatDoorT9
import Derived.Test.YtodiioeddlmjhaaGreatDoorE12
import Derived.Test.YtodiioeddlmjhaaGreatDoorXD
import Derived.Test.YtodiioeddlmjhaaGreatDoorV8b
import Derived.Test.YtodiioeddlmjhaaGreatDoorWF
set_option linter.unusedVariables false
set_option linter.unusedSimpArgs false
namespace Go.Proofs.YtodiioeddlmjhaaGreatDoor
open Go.RowKit Go.Ev
set_option maxRecDepth 100000
set_option linter.unusedVariables false
set_option linter.unusedSimpArgs false
attribute [local irreducible] Go.Ev.opE
theorem parts_l {e : Ex} {x : Ex} {i : Nat} (h : e.l[i]? = some x) : e.parts[i]? = some x := by
 unfold Ex.parts
 rw [List.getElem?_append_left (List.getElem?_eq_some_iff.1 h).1]; exact h
theorem parts_a {e : Ex} {a : Ar} {i : Nat} (h : e.arms[i]? = some a) : e.parts[e.l.length + i]? = some a.body := by
 unfold Ex.parts
 rw [List.getElem?_append_right (by omega), Nat.add_sub_cancel_left, List.getElem?_map, h]; rfl
theorem parts_len (e : Ex) : e.parts.length = e.l.length + e.arms.length := by unfold Ex.parts; simp
theorem sub_nat {a b : Nat} (h : b ≤ a) (ha : a < 9223372036854775808) : intOp .sub .i64 (a : Int) (b : Int) = some (.int .i64 ((a - b : Nat) : Int)) := by
 have : IntKind.wrap .i64 ((a : Int) - (b : Int)) = ((a - b : Nat) : Int) := by rw [wrap_i64_id (by constructor <;> omega)]; omega
 simp only [intOp, this]
set_option maxHeartbeats 8000000 in
theorem refLeft : ∀ (N : Nat) (e : Ex) (cs : List V), e.nodes ≤ N → ExC e cs → SmallX e → ∀ n d : Int, Pu Tryz.prog 54 [.agg cs, .int .i64 n, .int .i64 d] (.int .i64 (leftX e n d)) := by
 intro N
 induction N with
 | zero => intro e cs hN; cases e; simp [Ex.nodes] at hN
 | succ N IHN =>
  intro e cs hN he hsm n d S
  have hspec := leftX_eq e n d
  have z1 := hsm.l
  have z2 := hsm.arms
  obtain ⟨nv, lv, av, rfl, hk, hn, hs, ht, hnm, hl, hll, ha, hal, hL, hA⟩ := he.inv
  have e2 : e.l.length = (elems lv).length := hL.1
  have e3 : e.arms.length = (elems av).length := hA.1
  have e4 := parts_len e
  obtain ⟨U, hU, bx, s0⟩ := box1 S 27 [.int .i64 e.kind, .int .i64 e.n, .str e.s, .str e.t, nv, lv, av]
  have k0 : Same U U := Same.refl U
  obtain ⟨q1, g1⟩ : ∃ q, decide (d < 1) = q := ⟨_, rfl⟩
  have hres : leftX e n d = if q1 then -1 else leftLs e.parts (IntKind.wrap .i64 (n - 1)) d := by
   rw [hspec, ← g1]
   by_cases hc : d < 1
   ·rw [if_pos hc, if_pos (by simpa using hc)]
   ·rw [if_neg hc, if_neg (by simpa using hc)]
  obtain ⟨L, hLl⟩ : ∃ L, (elems lv).length + (elems av).length = L := ⟨_, rfl⟩
  have hadd : intOp .add .i64 ((elems lv).length : Int) ((elems av).length : Int) = some (.int .i64 (L : Int)) := by rw [← hLl]; exact add_nat (by omega)
  refine CallTo.of (n := 58) Tryz.func54 rfl rfl ?_
  cases q1
  case true =>
   repeat' first
    | refine Opl.val (op_box rfl) rfl (Opl.cast (S' := U) ?_ hU)
    | refine Opl.val (op_int rfl rfl rfl (lss_i g1)) rfl ?_
    | refine Go.condT rfl ?_
    | exact At.fnr rfl rfl rfl ⟨pack_n hres.symm, s0⟩
    | refine .std ?_ | refine .nil ?_ | refine .seq ?_ | refine .region ?_ | refine .xs ?_ | refine .kb ?_ | refine .leaf ?_ | refine .block ?_ | refine .gn ?_ | refine .dr ?_ | fail
  case false =>
   have hres : leftX e n d = leftLs e.parts (IntKind.wrap .i64 (n - 1)) d := hres
   repeat' first
    | refine Opl.val (op_box rfl) rfl (Opl.cast (S' := U) ?_ hU)
    | refine Opl.val (op_load rfl (ld_bx bx k0 _ rfl)) rfl ?_
    | refine Opl.val (op_lenL rfl hl.isL rfl) rfl ?_
    | refine Opl.val (op_lenL rfl ha.isL rfl) rfl ?_
    | refine Opl.val (op_int rfl rfl rfl hadd) rfl ?_
    | refine Opl.val (op_int rfl rfl rfl (lss_i g1)) rfl ?_
    | refine Go.condF rfl ?_
    | refine .std ?_ | refine .nil ?_ | refine .seq ?_ | refine .region ?_ | refine .xs ?_ | refine .kb ?_ | refine .leaf ?_ | refine .block ?_ | refine .gn ?_ | refine .dr ?_ | fail
   refine Go.weaken (E' := [(1, .int .i64 (IntKind.wrap .i64 (n - 1))), (2, .int .i64 d), (3, .ptr S.next 0), (7, .int .i64 (L : Nat)), (8, .int .i64 (0 : Nat))]) ?_ ⟨rfl, rfl, rfl, rfl, rfl, trivial⟩
   refine Go.loop_ind (α := Nat) (fun i => L - i) (fun i E S' => ∃ m, E = [(1, .int .i64 m), (2, .int .i64 d), (3, .ptr S.next 0), (7, .int .i64 (L : Nat)), (8, .int .i64 i)] ∧ i ≤ L ∧ Same U S' ∧ leftX e n d = leftLs (e.parts.drop i) m d) ?_ 0 _ _ ⟨_, rfl, Nat.zero_le _, k0, hres⟩
   rintro i E S1 ⟨m, rfl, hi, k1, hd⟩ IH
   obtain ⟨p1, e5⟩ : ∃ q, decide ((i : Int) < (L : Nat)) = q := ⟨_, rfl⟩
   obtain ⟨p2, e6⟩ : ∃ q, decide (m ≥ 0) = q := ⟨_, rfl⟩
   have hexit : (p1 && p2) = false → leftX e n d = m := by
    intro hp
    rw [hd]
    by_cases hr : m ≥ 0
    ·rw [← e5, ← e6, decide_eq_true hr, Bool.and_true] at hp
     have hp := of_decide_eq_false hp
     have : e.parts.drop i = [] := List.drop_eq_nil_of_le (by omega)
     rw [this]; rfl
    ·exact leftLs_neg hr
   cases p1
   case false =>
    repeat' first
     | refine Opl.val (op_int rfl rfl rfl (lss_i e5)) rfl ?_
     | refine .gn ?_
     | refine Go.condF rfl ?_
     | exact At.fnr rfl rfl rfl ⟨pack_n (hexit rfl).symm, s0.trans k1⟩
     | refine .std ?_ | refine .nil ?_ | refine .seq ?_ | refine .region ?_ | refine .xs ?_ | refine .kb ?_ | refine .leaf ?_ | refine .block ?_ | refine .gn ?_ | refine .dr ?_ | fail
   case true =>
   cases p2
   case false =>
    repeat' first
     | refine Opl.val (op_int rfl rfl rfl (lss_i e5)) rfl ?_
     | refine Opl.val (op_int rfl rfl rfl (geq_i e6)) rfl ?_
     | refine op_gyes rfl ?_ rfl
     | refine Go.condF rfl ?_
     | exact At.fnr rfl rfl rfl ⟨pack_n (hexit rfl).symm, s0.trans k1⟩
     | refine .std ?_ | refine .nil ?_ | refine .seq ?_ | refine .region ?_ | refine .xs ?_ | refine .kb ?_ | refine .leaf ?_ | refine .block ?_ | refine .gn ?_ | refine .dr ?_ | fail
   case true =>
   have hm0 : m ≥ 0 := of_decide_eq_true e6
   have hq : i < L := by have := of_decide_eq_true e5; omega
   obtain ⟨p3, e7⟩ : ∃ q, decide ((i : Int) < ((elems lv).length : Nat)) = q := ⟨_, rfl⟩
   cases p3
   case true =>
    have hq2 : i < (elems lv).length := by have := of_decide_eq_true e7; omega
    obtain ⟨x, v, hx, hix, hv, hm⟩ := hL.at hq2
    have hxx := IHN x _ (by have := Ex.part_l hm; omega) hv (hsm.part (List.mem_of_getElem? (parts_l hx))) m (IntKind.wrap .i64 (d - 1))
    rw [drop_at (parts_l hx)] at hd
    simp only [leftLs, if_pos hm0] at hd
    repeat' first
     | refine Opl.val (op_load rfl (ld_bx bx k1 _ rfl)) rfl ?_
     | refine Opl.val (op_lenL rfl hl.isL rfl) rfl ?_
     | refine Opl.val (op_ixaV hl rfl rfl hix) rfl ?_
     | refine Opl.val (op_load rfl (ld_agg (Pt.cptr _ _ _) hv.len7)) rfl ?_
     | refine Opl.val (op_int rfl rfl rfl (lss_i e5)) rfl ?_
     | refine Opl.val (op_int rfl rfl rfl (geq_i e6)) rfl ?_
     | refine Opl.val (op_int rfl rfl rfl (lss_i e7)) rfl ?_
     | refine Opl.callS (U0 := U) (by assumption) rfl (by kernel_rfl) hxx rfl (fun S8 k8 => ?_)
     | refine op_gyes rfl ?_ rfl
     | refine Go.condT rfl ?_
     | refine Opl.val (op_int rfl rfl rfl (inc_ok (i := i) (by omega))) rfl ?_
     | exact (IH (i + 1) _ _ (by omega) ⟨_, rfl, by omega, by assumption, hd⟩).weaken ⟨rfl, rfl, rfl, rfl, rfl, trivial⟩
     | refine .std ?_ | refine .nil ?_ | refine .seq ?_ | refine .region ?_ | refine .xs ?_ | refine .kb ?_ | refine .leaf ?_ | refine .block ?_ | refine .gn ?_ | refine .dr ?_ | fail
   case false =>
    have hq2 : (elems lv).length ≤ i := by have := of_decide_eq_false e7; omega
    obtain ⟨a, v, hx, hix, ⟨nv2, cs2, hc, ho, hn2, hb⟩, hm⟩ := hA.at (i := i - (elems lv).length) (by omega)
    have hpa : e.parts[i]? = some a.body := by
     have := parts_a hx
     rw [show e.l.length + (i - (elems lv).length) = i by omega] at this
     exact this
    have hpt : ∀ S, Pt S (.cptr none v.cells 0) (.str a.op :: nv2 :: cs2) := fun S => by rw [hc]; exact Pt.cptr _ _ _
    have hxx := IHN a.body _ (by have := Ex.part_a hm; omega) hb (hsm.part (List.mem_of_getElem? hpa)) m (IntKind.wrap .i64 (d - 1))
    have hsb := sub_nat (a := i) (b := (elems lv).length) hq2 (by omega)
    rw [drop_at hpa] at hd
    simp only [leftLs, if_pos hm0] at hd
    repeat' first
     | refine Opl.val (op_load rfl (ld_bx bx k1 _ rfl)) rfl ?_
     | refine Opl.val (op_lenL rfl hl.isL rfl) rfl ?_
     | refine Opl.val (op_ixaV ha rfl rfl hix) rfl ?_
     | refine Opl.val (op_load rfl (ld_agg ((hpt _).drop 2) hb.len7)) rfl ?_
     | refine Opl.val (op_int rfl rfl rfl (lss_i e5)) rfl ?_
     | refine Opl.val (op_int rfl rfl rfl (geq_i e6)) rfl ?_
     | refine Opl.val (op_int rfl rfl rfl (lss_i e7)) rfl ?_
     | refine Opl.val (op_int rfl rfl rfl hsb) rfl ?_
     | refine Opl.callS (U0 := U) (by assumption) rfl (by kernel_rfl) hxx rfl (fun S8 k8 => ?_)
     | refine op_gyes rfl ?_ rfl
     | refine Go.condT rfl ?_
     | refine Go.condF rfl ?_
     | refine Opl.val (op_int rfl rfl rfl (inc_ok (i := i) (by omega))) rfl ?_
     | exact (IH (i + 1) _ _ (by omega) ⟨_, rfl, by omega, by assumption, hd⟩).weaken ⟨rfl, rfl, rfl, rfl, rfl, trivial⟩
     | refine .std ?_ | refine .nil ?_ | refine .seq ?_ | refine .region ?_ | refine .xs ?_ | refine .kb ?_ | refine .leaf ?_ | refine .block ?_ | refine .gn ?_ | refine .dr ?_ | fail
end Go.Proofs.YtodiioeddlmjhaaGreatDoor
namespace Go.Proofs.YtodiioeddlmjhaaGreatDoor
open Go.RowKit Go.Ev
set_option maxRecDepth 100000
set_option linter.unusedVariables false
set_option linter.unusedSimpArgs false
attribute [local irreducible] Go.Ev.opE
theorem errsE_at {l : List Ex} {x : Ex} {i : Nat} (h : l[i]? = some x) : errsE (l.drop i) = thenE (nodesE x) (errsE (l.drop (i + 1))) := by rw [drop_at h]; rfl
theorem maxX_at {l : List Ex} {x : Ex} {i : Nat} (h : l[i]? = some x) : Exs.depth (l.take (i + 1)) = max (Exs.depth (l.take i)) x.depth := by
 obtain ⟨hlt, rfl⟩ := List.getElem?_eq_some_iff.1 h
 rw [List.take_succ_eq_append_getElem hlt, Exs.depth_append]
 simp [Exs.depth]
theorem maxB_nat (a b : Nat) {l : List TypeId} {S : St} : builtinE Tryz.prog .max l [.int .i64 (a : Int), .int .i64 (b : Int)] S = some (.int .i64 ((max a b : Nat) : Int), S) := by
 have e : (if (b : Int) > (a : Int) then (b : Int) else (a : Int)) = ((max a b : Nat) : Int) := by
  split <;> omega
 unfold builtinE
 simp only [foldMax, decide_true, if_true, e, Option.map]
set_option maxHeartbeats 4000000 in
theorem refChecked : ∀ (N : Nat) (e : Ex) (cs : List V), e.nodes ≤ N → ExC e cs → SmallX e → Pu Tryz.prog 55 [.agg cs] (.int .i64 (nodesE e)) := by
 intro N
 induction N with
 | zero => intro e cs hN; cases e; simp [Ex.nodes] at hN
 | succ N IHN =>
  intro e cs hN he hsm S
  obtain ⟨U, hU, bx, s0⟩ := box1 S 27 cs
  have k0 : Same U U := Same.refl U
  have c1 := refNode he
  have c2 := partsF he ⟨by have := hsm.l; omega, by have := hsm.arms; omega⟩
  have hspec := nodesE_eq e
  obtain ⟨d, hd⟩ : ∃ d, nodeE e = d := ⟨_, rfl⟩
  obtain ⟨z, hz⟩ : ∃ q, (!decide (d = 0)) = q := ⟨_, rfl⟩
  rw [hd] at c1 hspec
  refine CallTo.of (n := 28) Tryz.func55 rfl rfl ?_
  cases z
  case true =>
   have hre : nodesE e = d := by rw [hspec]; exact if_neg (by simpa using hz)
   repeat' first
    | refine Opl.val (op_box rfl) rfl (Opl.cast (S' := U) ?_ hU)
    | refine Opl.val (op_load rfl (ld_bxA bx (by assumption) he.len7)) rfl ?_
    | refine Opl.callS (U0 := U) (by assumption) rfl (by kernel_rfl) c1 rfl (fun S8 k8 => ?_)
    | refine Opl.val (op_int rfl rfl rfl (neq_i hz)) rfl ?_
    | refine Go.condT rfl ?_
    | exact At.fnr rfl rfl rfl ⟨pack_n hre.symm, s0.trans (by assumption)⟩
    | refine .std ?_ | refine .nil ?_ | refine .seq ?_ | refine .region ?_ | refine .xs ?_ | refine .kb ?_ | refine .leaf ?_ | refine .block ?_ | refine .gn ?_ | refine .dr ?_ | fail
  case false =>
   have hre : nodesE e = errsE e.parts := by rw [hspec]; exact if_pos (by simpa using hz)
   repeat' first
    | refine Opl.val (op_box rfl) rfl (Opl.cast (S' := U) ?_ hU)
    | refine Opl.val (op_load rfl (ld_bxA bx (by assumption) he.len7)) rfl ?_
    | refine Opl.callS (U0 := U) (by assumption) rfl (by kernel_rfl) c1 rfl (fun S8 k8 => ?_)
    | (refine Opl.callQ (U0 := U) (by assumption) rfl (by kernel_rfl) c2 rfl (fun v S9 hv k9 => ?_); obtain ⟨es, tk, rfl, hP⟩ := hv)
    | refine Opl.val (op_int rfl rfl rfl (neq_i hz)) rfl ?_
    | refine Go.condF rfl ?_
    | refine .std ?_ | refine .nil ?_ | refine .seq ?_ | refine .region ?_ | refine .xs ?_ | refine .kb ?_ | refine .leaf ?_ | refine .block ?_ | refine .gn ?_ | refine .dr ?_ | fail
   have hlv : isLn 7 (.list (some 27) 7 es tk) := .inr (.inr ⟨_, _, _, rfl⟩)
   have hpl : e.parts.length = es.length := hP.1
   have z1 := hsm.l
   have z2 := hsm.arms
   have z3 := parts_len e
   refine Go.weaken (E' := [(4, .list (some 27) 7 es tk), (5, .int .i64 (0 : Nat))]) ?_ ⟨rfl, rfl, trivial⟩
   refine Go.loop_ind (α := Nat) (fun i => es.length - i) (fun i E S' => E = [(4, .list (some 27) 7 es tk), (5, .int .i64 i)] ∧ i ≤ es.length ∧ Same U S' ∧ nodesE e = errsE (e.parts.drop i)) ?_ 0 _ _ ⟨rfl, Nat.zero_le _, by assumption, hre⟩
   rintro i E S1 ⟨rfl, hi, k1, hdi⟩ IH
   obtain ⟨p1, e5⟩ : ∃ q, decide ((i : Int) < (es.length : Nat)) = q := ⟨_, rfl⟩
   cases p1
   case false =>
    have hq : es.length ≤ i := by have := of_decide_eq_false e5; omega
    have hnil : e.parts.drop i = [] := List.drop_eq_nil_of_le (by omega)
    rw [hnil] at hdi
    repeat' first
     | refine Opl.val (op_lenL rfl hlv.isL rfl) rfl ?_
     | refine Opl.val (op_int rfl rfl rfl (lss_i e5)) rfl ?_
     | refine Go.condF rfl ?_
     | exact At.fnr rfl rfl rfl ⟨pack_n hdi.symm, s0.trans k1⟩
     | refine .std ?_ | refine .nil ?_ | refine .seq ?_ | refine .region ?_ | refine .xs ?_ | refine .kb ?_ | refine .leaf ?_ | refine .block ?_ | refine .gn ?_ | refine .dr ?_ | fail
   case true =>
    have hq : i < es.length := by have := of_decide_eq_true e5; omega
    obtain ⟨x, v, hx, hix, hv, hm⟩ := hP.at hq
    have cx := IHN x _ (by have := Ex.parts_nodes hm; omega) hv (hsm.part hm)
    rw [errsE_at hx] at hdi
    obtain ⟨dx, hdx⟩ : ∃ d, nodesE x = d := ⟨_, rfl⟩
    obtain ⟨zx, hzx⟩ : ∃ q, (!decide (dx = 0)) = q := ⟨_, rfl⟩
    rw [hdx] at cx hdi
    have hix : (elems (.list (some 27) 7 es tk))[i]? = some v := hix
    cases zx
    case true =>
     have hdi : nodesE e = dx := by rw [hdi]; exact if_neg (by simpa using hzx)
     repeat' first
      | refine Opl.val (op_lenL rfl hlv.isL rfl) rfl ?_
      | refine Opl.val (op_int rfl rfl rfl (lss_i e5)) rfl ?_
      | refine Opl.val (op_ixaV hlv rfl rfl hix) rfl ?_
      | refine Opl.val (op_load rfl (ld_agg (Pt.cptr _ _ _) hv.len7)) rfl ?_
      | refine Opl.callS (U0 := U) (by assumption) rfl (by kernel_rfl) cx rfl (fun S8 k8 => ?_)
      | refine Opl.val (op_int rfl rfl rfl (neq_i hzx)) rfl ?_
      | refine Go.condT rfl ?_
      | exact At.fnr rfl rfl rfl ⟨pack_n hdi.symm, s0.trans (by assumption)⟩
      | refine .std ?_ | refine .nil ?_ | refine .seq ?_ | refine .region ?_ | refine .xs ?_ | refine .kb ?_ | refine .leaf ?_ | refine .block ?_ | refine .gn ?_ | refine .dr ?_ | fail
    case false =>
     have hdi : nodesE e = errsE (e.parts.drop (i + 1)) := by rw [hdi]; exact if_pos (by simpa using hzx)
     repeat' first
      | refine Opl.val (op_lenL rfl hlv.isL rfl) rfl ?_
      | refine Opl.val (op_int rfl rfl rfl (lss_i e5)) rfl ?_
      | refine Opl.val (op_ixaV hlv rfl rfl hix) rfl ?_
      | refine Opl.val (op_load rfl (ld_agg (Pt.cptr _ _ _) hv.len7)) rfl ?_
      | refine Opl.callS (U0 := U) (by assumption) rfl (by kernel_rfl) cx rfl (fun S8 k8 => ?_)
      | refine Opl.val (op_int rfl rfl rfl (neq_i hzx)) rfl ?_
      | refine Go.condT rfl ?_
      | refine Go.condF rfl ?_
      | refine Opl.val (op_int rfl rfl rfl (inc_ok (i := i) (by omega))) rfl ?_
      | exact (IH (i + 1) _ _ (by omega) ⟨rfl, by omega, by assumption, hdi⟩).weaken ⟨rfl, rfl, trivial⟩
      | refine .std ?_ | refine .nil ?_ | refine .seq ?_ | refine .region ?_ | refine .xs ?_ | refine .kb ?_ | refine .leaf ?_ | refine .block ?_ | refine .gn ?_ | refine .dr ?_ | fail
set_option maxHeartbeats 2000000 in
theorem refCheck {e : Ex} {cs : List V} (he : ExC e cs) (hsm : SmallX e) : Pu Tryz.prog 18 [.agg cs] (.int .i64 (checkE e)) := by
 intro S
 obtain ⟨U, hU, bx, s0⟩ := box1 S 27 cs
 have k0 : Same U U := Same.refl U
 have c1 := refLeft e.nodes e cs (Nat.le_refl _) he hsm 3000 200
 have c2 := refChecked e.nodes e cs (Nat.le_refl _) he hsm
 have hq := left_fits e
 obtain ⟨q, hqq⟩ : ∃ q, fitsB e = q := ⟨_, rfl⟩
 have hspec : checkE e = if q then nodesE e else 3 := by unfold checkE; rw [hqq]
 rw [hqq] at hq
 rw [hspec]
 refine CallTo.of (n := 8) Tryz.func18 rfl rfl ?_
 repeat' first
  | refine Opl.val (op_box rfl) rfl (Opl.cast (S' := U) ?_ hU)
  | refine Opl.val (op_load rfl (ld_bxA bx (by assumption) he.len7)) rfl ?_
  | refine Opl.val (op_int rfl rfl rfl (lss_i hq)) rfl ?_
  | refine Opl.callS (U0 := U) (by assumption) rfl (by kernel_rfl) c1 rfl (fun S8 k8 => ?_)
  | refine Opl.callS (U0 := U) (by assumption) rfl (by kernel_rfl) c2 rfl (fun S8 k8 => ?_)
  | refine op_gyes rfl ?_ rfl
  | refine .gn ?_
  | (refine Opl.gonTN rfl rfl (fun hq => ?_) (fun hq => ?_) <;> subst hq)
  | (refine Opl.gonFN rfl rfl (fun hq => ?_) (fun hq => ?_) <;> subst hq)
  | (refine Opl.gonT rfl rfl (fun hq => ?_) (fun hq => ?_) <;> subst hq)
  | (refine Opl.gonF rfl rfl (fun hq => ?_) (fun hq => ?_) <;> subst hq)
  | refine Go.condT rfl ?_
  | refine Go.condF rfl ?_
  | (refine Go.condN rfl (fun hq => ?_) (fun hq => ?_) <;> subst hq)
  | (refine Go.condV rfl (fun hq => ?_) (fun hq => ?_) <;> subst hq)
  | exact At.fnr rfl rfl rfl ⟨rfl, s0.trans (by assumption)⟩
  | refine .std ?_ | refine .nil ?_ | refine .seq ?_ | refine .region ?_ | refine .xs ?_ | refine .kb ?_ | refine .leaf ?_ | refine .block ?_ | refine .gn ?_ | refine .dr ?_ | fail
set_option maxHeartbeats 2000000 in
theorem refSize {e : Ex} {cs : List V} (he : ExC e cs) (hsm : SmallX e) : Pu Tryz.prog 20 [.agg cs] (.int .i64 (sizeE e)) := by
 intro S
 obtain ⟨U, hU, bx, s0⟩ := box1 S 27 cs
 have k0 : Same U U := Same.refl U
 have c1 := refCheck he hsm
 have c2 := refLeft e.nodes e cs (Nat.le_refl _) he hsm 3000 200
 refine CallTo.of (n := 9) Tryz.func20 rfl rfl ?_
 by_cases h0 : checkE e = 0
 ·have hr : sizeE e = e.nodes := if_pos h0
  obtain ⟨hn1, hn2⟩ := check_fits h0
  rw [left_nodes ((fits_iff e).2 ⟨hn1, hn2⟩)] at c2
  have hs : intOp .sub .i64 3000 (3000 - (e.nodes : Int)) = some (.int .i64 (e.nodes : Int)) := by
   have : IntKind.wrap .i64 (3000 - (3000 - (e.nodes : Int))) = (e.nodes : Int) := by rw [wrap_i64_id (by constructor <;> omega)]; omega
   simp only [intOp, this]
  repeat' first
   | refine Opl.val (op_box rfl) rfl (Opl.cast (S' := U) ?_ hU)
   | refine Opl.val (op_load rfl (ld_bxA bx (by assumption) he.len7)) rfl ?_
   | refine Opl.callS (U0 := U) (by assumption) rfl (by kernel_rfl) c1 rfl (fun S8 k8 => ?_)
   | refine Opl.callS (U0 := U) (by assumption) rfl (by kernel_rfl) c2 rfl (fun S8 k8 => ?_)
   | refine Opl.val (op_int rfl rfl rfl (neq_i (q := false) (by rw [h0]; rfl))) rfl ?_
   | refine Opl.val (op_int rfl rfl rfl hs) rfl ?_
   | refine Go.condF rfl ?_
   | exact At.fnr rfl rfl rfl ⟨pack_n hr.symm, s0.trans (by assumption)⟩
   | refine .std ?_ | refine .nil ?_ | refine .seq ?_ | refine .region ?_ | refine .xs ?_ | refine .kb ?_ | refine .leaf ?_ | refine .block ?_ | refine .gn ?_ | refine .dr ?_ | fail
 ·have hr : sizeE e = 0 := if_neg h0
  repeat' first
   | refine Opl.val (op_box rfl) rfl (Opl.cast (S' := U) ?_ hU)
   | refine Opl.val (op_load rfl (ld_bxA bx (by assumption) he.len7)) rfl ?_
   | refine Opl.callS (U0 := U) (by assumption) rfl (by kernel_rfl) c1 rfl (fun S8 k8 => ?_)
   | refine Opl.val (op_int rfl rfl rfl (neq_i (q := true) (by rw [decide_eq_false h0]; rfl))) rfl ?_
   | refine Go.condT rfl ?_
   | exact At.fnr rfl rfl rfl ⟨pack_n hr.symm, s0.trans (by assumption)⟩
   | refine .std ?_ | refine .nil ?_ | refine .seq ?_ | refine .region ?_ | refine .xs ?_ | refine .kb ?_ | refine .leaf ?_ | refine .block ?_ | refine .gn ?_ | refine .dr ?_ | fail
set_option maxHeartbeats 4000000 in
theorem refDepthR : ∀ (N : Nat) (e : Ex) (cs : List V), e.nodes ≤ N → e.nodes ≤ 3000 → e.depth ≤ 3000 → ExC e cs → SmallX e → Pu Tryz.prog 56 [.agg cs] (.int .i64 e.depth) := by
 intro N
 induction N with
 | zero => intro e cs hN; cases e; simp [Ex.nodes] at hN
 | succ N IHN =>
  intro e cs hN hn3 hd3 he hsm S
  obtain ⟨U, hU, bx, s0⟩ := box1 S 27 cs
  have k0 : Same U U := Same.refl U
  have c2 := partsF he ⟨by have := hsm.l; omega, by have := hsm.arms; omega⟩
  have hdp := e.depth_parts
  refine CallTo.of (n := 23) Tryz.func56 rfl rfl ?_
  repeat' first
   | refine Opl.val (op_box rfl) rfl (Opl.cast (S' := U) ?_ hU)
   | refine Opl.val (op_load rfl (ld_bxA bx (by assumption) he.len7)) rfl ?_
   | (refine Opl.callQ (U0 := U) (by assumption) rfl (by kernel_rfl) c2 rfl (fun v S9 hv k9 => ?_); obtain ⟨es, tk, rfl, hP⟩ := hv)
   | refine .std ?_ | refine .nil ?_ | refine .seq ?_ | refine .region ?_ | refine .xs ?_ | refine .kb ?_ | refine .leaf ?_ | refine .block ?_ | refine .gn ?_ | refine .dr ?_ | fail
  have hlv : isLn 7 (.list (some 27) 7 es tk) := .inr (.inr ⟨_, _, _, rfl⟩)
  have hpl : e.parts.length = es.length := hP.1
  have z1 := hsm.l
  have z2 := hsm.arms
  have z3 := parts_len e
  refine Go.weaken (E' := [(3, .list (some 27) 7 es tk), (4, .int .i64 (0 : Nat)), (5, .int .i64 (0 : Nat))]) ?_ ⟨rfl, rfl, rfl, trivial⟩
  refine Go.loop_ind (α := Nat) (fun i => es.length - i) (fun i E S' => E = [(3, .list (some 27) 7 es tk), (4, .int .i64 (Exs.depth (e.parts.take i))), (5, .int .i64 i)] ∧ i ≤ es.length ∧ Same U S') ?_ 0 _ _ ⟨by simp [Exs.depth], Nat.zero_le _, by assumption⟩
  rintro i E S1 ⟨rfl, hi, k1⟩ IH
  obtain ⟨p1, e5⟩ : ∃ q, decide ((i : Int) < (es.length : Nat)) = q := ⟨_, rfl⟩
  cases p1
  case false =>
   have hq : es.length ≤ i := by have := of_decide_eq_false e5; omega
   have hnil : e.parts.take i = e.parts := List.take_of_length_le (by omega)
   rw [hnil]
   repeat' first
    | refine Opl.val (op_lenL rfl hlv.isL rfl) rfl ?_
    | refine Opl.val (op_int rfl rfl rfl (lss_i e5)) rfl ?_
    | refine Opl.val (op_int rfl rfl rfl (add_nat (a := Exs.depth e.parts) (b := 1) (by omega))) rfl ?_
    | refine Go.condF rfl ?_
    | exact At.fnr rfl rfl rfl ⟨by rw [hdp, Nat.add_comm 1]; rfl, s0.trans k1⟩
    | refine .std ?_ | refine .nil ?_ | refine .seq ?_ | refine .region ?_ | refine .xs ?_ | refine .kb ?_ | refine .leaf ?_ | refine .block ?_ | refine .gn ?_ | refine .dr ?_ | fail
  case true =>
   have hq : i < es.length := by have := of_decide_eq_true e5; omega
   obtain ⟨x, v, hx, hix, hv, hm⟩ := hP.at hq
   have hxn := Ex.parts_nodes hm
   have hxd : x.depth ≤ Exs.depth e.parts := by
    have h1 := maxX_at hx
    have h2 : Exs.depth e.parts = max (Exs.depth (e.parts.take (i + 1))) (Exs.depth (e.parts.drop (i + 1))) := by rw [← Exs.depth_append, List.take_append_drop]
    omega
   have cx := IHN x _ (by omega) (by omega) (by omega) hv (hsm.part hm)
   have hix : (elems (.list (some 27) 7 es tk))[i]? = some v := hix
   repeat' first
    | refine Opl.val (op_lenL rfl hlv.isL rfl) rfl ?_
    | refine Opl.val (op_int rfl rfl rfl (lss_i e5)) rfl ?_
    | refine Opl.val (op_ixaV hlv rfl rfl hix) rfl ?_
    | refine Opl.val (op_load rfl (ld_agg (Pt.cptr _ _ _) hv.len7)) rfl ?_
    | refine Opl.callS (U0 := U) (by assumption) rfl (by kernel_rfl) cx rfl (fun S8 k8 => ?_)
    | refine Opl.val (op_bltn rfl (maxB_nat (Exs.depth (e.parts.take i)) x.depth)) rfl ?_
    | refine Go.condT rfl ?_
    | refine Opl.val (op_int rfl rfl rfl (inc_ok (i := i) (by omega))) rfl ?_
    | refine .std ?_ | refine .nil ?_ | refine .seq ?_ | refine .region ?_ | refine .xs ?_ | refine .kb ?_ | refine .leaf ?_ | refine .block ?_ | refine .gn ?_ | refine .dr ?_ | fail
   exact (IH (i + 1) [(3, .list (some 27) 7 es tk), (4, .int .i64 ((max (Exs.depth (e.parts.take i)) x.depth : Nat) : Int)), (5, .int .i64 ((i + 1 : Nat) : Int))] _ (by omega) ⟨by rw [maxX_at hx], by omega, by assumption⟩).weaken ⟨rfl, rfl, rfl, trivial⟩
set_option maxHeartbeats 2000000 in
theorem refDepth {e : Ex} {cs : List V} (he : ExC e cs) (hsm : SmallX e) : Pu Tryz.prog 22 [.agg cs] (.int .i64 (depthE e)) := by
 intro S
 obtain ⟨U, hU, bx, s0⟩ := box1 S 27 cs
 have k0 : Same U U := Same.refl U
 have c1 := refCheck he hsm
 refine CallTo.of (n := 8) Tryz.func22 rfl rfl ?_
 by_cases h0 : checkE e = 0
 ·have hr : depthE e = e.depth := if_pos h0
  obtain ⟨hn1, hn2⟩ := check_fits h0
  have c2 := refDepthR e.nodes e cs (Nat.le_refl _) (by omega) (by omega) he hsm
  repeat' first
   | refine Opl.val (op_box rfl) rfl (Opl.cast (S' := U) ?_ hU)
   | refine Opl.val (op_load rfl (ld_bxA bx (by assumption) he.len7)) rfl ?_
   | refine Opl.callS (U0 := U) (by assumption) rfl (by kernel_rfl) c1 rfl (fun S8 k8 => ?_)
   | refine Opl.callS (U0 := U) (by assumption) rfl (by kernel_rfl) c2 rfl (fun S8 k8 => ?_)
   | refine Opl.val (op_int rfl rfl rfl (neq_i (q := false) (by rw [h0]; rfl))) rfl ?_
   | refine Go.condF rfl ?_
   | exact At.fnr rfl rfl rfl ⟨pack_n hr.symm, s0.trans (by assumption)⟩
   | refine .std ?_ | refine .nil ?_ | refine .seq ?_ | refine .region ?_ | refine .xs ?_ | refine .kb ?_ | refine .leaf ?_ | refine .block ?_ | refine .gn ?_ | refine .dr ?_ | fail
 ·have hr : depthE e = 0 := if_neg h0
  repeat' first
   | refine Opl.val (op_box rfl) rfl (Opl.cast (S' := U) ?_ hU)
   | refine Opl.val (op_load rfl (ld_bxA bx (by assumption) he.len7)) rfl ?_
   | refine Opl.callS (U0 := U) (by assumption) rfl (by kernel_rfl) c1 rfl (fun S8 k8 => ?_)
   | refine Opl.val (op_int rfl rfl rfl (neq_i (q := true) (by rw [decide_eq_false h0]; rfl))) rfl ?_
   | refine Go.condT rfl ?_
   | exact At.fnr rfl rfl rfl ⟨pack_n hr.symm, s0.trans (by assumption)⟩
   | refine .std ?_ | refine .nil ?_ | refine .seq ?_ | refine .region ?_ | refine .xs ?_ | refine .kb ?_ | refine .leaf ?_ | refine .block ?_ | refine .gn ?_ | refine .dr ?_ | fail
set_option maxHeartbeats 4000000 in
theorem refShow {e : Ex} {cs : List V} (he : ExC e cs) (hsm : SmallX e) : Pu Tryz.prog 16 [.agg cs] (showV e) := by
 intro S
 have c1 := refCheck he hsm
 obtain ⟨U, hU, bx, s0⟩ := box1 S 27 cs
 have k0 : Same U U := Same.refl U
 refine CallTo.of (n := 12) Tryz.func16 rfl rfl ?_
 by_cases h0 : checkE e = 0
 ·obtain ⟨hn, hl⟩ := check_textE h0
  have hv : showV e = .tup [.str (textE e), .int .i64 0] := if_pos h0
  rw [hv]
  have c2 := refText _ e cs (Nat.le_refl _) he hn (by omega)
  repeat' first
   | refine Opl.val (op_box rfl) rfl (Opl.cast (S' := U) ?_ hU)
   | refine Opl.val (op_load rfl (ld_bxA bx (by assumption) he.len7)) rfl ?_
   | refine Opl.callS (U0 := U) (by assumption) rfl (by kernel_rfl) c1 rfl (fun S1 k1 => ?_)
   | refine Opl.callS (U0 := U) (by assumption) rfl (by kernel_rfl) c2 rfl (fun S2 k2 => ?_)
   | refine Opl.val (op_int rfl rfl rfl (neq_i (q := false) (by rw [h0]; rfl))) rfl ?_
   | refine Go.condF rfl ?_
   | exact At.fnr rfl rfl rfl ⟨rfl, s0.trans (by assumption)⟩
   | refine .std ?_ | refine .nil ?_ | refine .seq ?_ | refine .region ?_ | refine .xs ?_ | refine .kb ?_ | refine .leaf ?_ | refine .block ?_ | refine .gn ?_ | refine .dr ?_ | fail
 ·have hv : showV e = .tup [.str [], .int .i64 (checkE e)] := if_neg h0
  rw [hv]
  repeat' first
   | refine Opl.val (op_box rfl) rfl (Opl.cast (S' := U) ?_ hU)
   | refine Opl.val (op_load rfl (ld_bxA bx (by assumption) he.len7)) rfl ?_
   | refine Opl.callS (U0 := U) (by assumption) rfl (by kernel_rfl) c1 rfl (fun S1 k1 => ?_)
   | refine Opl.val (op_int rfl rfl rfl (neq_i (q := true) (by rw [decide_eq_false h0]; rfl))) rfl ?_
   | refine Go.condT rfl ?_
   | exact At.fnr rfl rfl rfl ⟨rfl, s0.trans (by assumption)⟩
   | refine .std ?_ | refine .nil ?_ | refine .seq ?_ | refine .region ?_ | refine .xs ?_ | refine .kb ?_ | refine .leaf ?_ | refine .block ?_ | refine .gn ?_ | refine .dr ?_ | fail
end Go.Proofs.YtodiioeddlmjhaaGreatDoor
