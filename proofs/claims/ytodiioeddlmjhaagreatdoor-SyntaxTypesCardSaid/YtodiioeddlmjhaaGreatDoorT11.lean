/-
  Types: all nodes, how many; CheckType of the program.
-/
import Derived.Test.YtodiioeddlmjhaaGreatDoorT10
set_option linter.unusedVariables false
set_option linter.unusedSimpArgs false
namespace Go.Proofs.YtodiioeddlmjhaaGreatDoor
open Go.RowKit Go.Ev
set_option maxRecDepth 100000
set_option linter.unusedVariables false
set_option linter.unusedSimpArgs false
attribute [local irreducible] Go.Ev.opE

theorem thenE_nil (a : Int) : thenE a 0 = a := by unfold thenE; split <;> simp_all
theorem thenE_ne {a b : Int} (h : a ≠ 0) : thenE a b = a := if_neg h

set_option maxHeartbeats 4000000 in
theorem typeNodesF : ∀ (N : Nat) (t : Ty) (cs : List V), t.nodes ≤ N → TyC t cs → Pu Tryz.prog 71 [.agg cs] (.int .i64 (tnodesE t)) := by
  intro N
  induction N with
  | zero => intro t cs hN; cases t; simp [Ty.nodes] at hN
  | succ N IHN =>
    intro t cs hN ht S
    have cn := typeNodeF ht
    have hcl := ht.len6
    have ht2 := ht
    obtain ⟨lv, bv, rfl, hk, hn, hs, hl, hll, hb, hbl, hB, htl, hL⟩ := ht2.inv
    have hll : (elems lv).length ≤ 9223372036854775807 := hll
    obtain ⟨U, hU, bx, s0⟩ := box1 S 46 [.int .i64 t.kind, .int .i64 t.n, .str t.s, lv, bv, .int .i64 t.tail]
    have k0 : Same U U := Same.refl U
    refine CallTo.of (n := 25) Tryz.func71 rfl rfl ?_
    repeat' first
     | refine Opl.val (op_box rfl) rfl (Opl.cast (S' := U) ?_ hU)
     | refine Opl.val (op_load rfl (ld_bxA bx k0 rfl)) rfl ?_
     | refine Opl.callS k0 rfl (by kernel_rfl) cn rfl (fun S4 k4 => ?_)
     | refine .std ?_ | refine .nil ?_ | refine .seq ?_ | refine .region ?_ | refine .xs ?_ | refine .kb ?_ | refine .leaf ?_ | refine .block ?_ | refine .gn ?_ | refine .dr ?_ | fail
    refine Go.weaken (E' := [(1, .ptr S.next 0), (3, .int .i64 (tnodeE t)), (4, .int .i64 (0 : Nat))]) ?_ ⟨rfl, rfl, rfl, trivial⟩
    refine Go.loop_ind (α := Nat) (fun i => (elems lv).length - i) (fun i E S' => ∃ r, E = [(1, .ptr S.next 0), (3, .int .i64 r), (4, .int .i64 i)] ∧ i ≤ (elems lv).length ∧ Same U S' ∧ tnodesE t = thenE r (tnodesLE (t.l.drop i))) ?_ 0 _ _ ⟨tnodeE t, rfl, Nat.zero_le _, k4, tnodesE_eq t⟩
    rintro i E S1 ⟨r, rfl, hi, k1, hd⟩ IH
    obtain ⟨q1, e1⟩ : ∃ q, decide ((i : Int) < ((elems lv).length : Nat)) = q := ⟨_, rfl⟩
    obtain ⟨q2, e2⟩ : ∃ q, decide (r = 0) = q := ⟨_, rfl⟩
    by_cases hq : i < (elems lv).length ∧ r = 0
    · obtain ⟨hq, rfl⟩ := hq
      have e1 : decide ((i : Int) < ((elems lv).length : Nat)) = true := decide_eq_true (by omega)
      obtain ⟨x, v, hx, hix, hv, hm⟩ := hL.at hq
      have hxx := IHN x _ (by have := Ty.part hm; omega) hv
      rw [drop_at hx, thenE_zero] at hd
      simp only [tnodesLE] at hd
      repeat' first
       | refine Opl.val (op_load rfl (ld_bx bx k1 _ rfl)) rfl ?_
       | refine Opl.val (op_lenL rfl hl.isL rfl) rfl ?_
       | refine Opl.val (op_ixaV hl rfl rfl hix) rfl ?_
       | refine Opl.val (op_load rfl (ld_agg (Pt.cptr _ _ _) (TyC.len6 hv))) rfl ?_
       | refine Opl.val (op_int rfl rfl rfl (lss_i e1)) rfl ?_
       | refine Opl.val (op_int rfl rfl rfl (int_eql 0)) rfl ?_
       | refine Opl.callS (U0 := U) (by assumption) rfl (by kernel_rfl) hxx rfl (fun S8 k8 => ?_)
       | refine op_gyes rfl ?_ rfl
       | refine Go.condT rfl ?_
       | refine Opl.val (op_int rfl rfl rfl (inc_ok (i := i) (by omega))) rfl ?_
       | exact (IH (i + 1) _ _ (by omega) ⟨_, rfl, by omega, by assumption, hd⟩).weaken ⟨rfl, rfl, rfl, trivial⟩
       | refine .std ?_ | refine .nil ?_ | refine .seq ?_ | refine .region ?_ | refine .xs ?_ | refine .kb ?_ | refine .leaf ?_ | refine .block ?_ | refine .gn ?_ | refine .dr ?_ | fail
    · have hres : tnodesE t = r := by
        rw [hd]
        by_cases hr : r = 0
        · subst hr
          have : t.l.drop i = [] := List.drop_eq_nil_of_le (by rw [hL.1]; omega)
          rw [this]; rfl
        · exact thenE_ne hr
      have e12 : (q1 && q2) = false := by
        rw [← e1, ← e2, Bool.and_eq_false_iff]
        simp only [decide_eq_false_iff_not]
        by_cases h1 : i < (elems lv).length
        · right; exact fun h => hq ⟨h1, h⟩
        · left; omega
      cases q1
      case false =>
        repeat' first
         | refine Opl.val (op_load rfl (ld_bx bx k1 _ rfl)) rfl ?_
         | refine Opl.val (op_lenL rfl hl.isL rfl) rfl ?_
         | refine Opl.val (op_int rfl rfl rfl (lss_i e1)) rfl ?_
         | refine .gn ?_
         | refine Go.condF rfl ?_
         | exact At.fnr rfl rfl rfl ⟨pack_n hres.symm, s0.trans k1⟩
         | refine .std ?_ | refine .nil ?_ | refine .seq ?_ | refine .region ?_ | refine .xs ?_ | refine .kb ?_ | refine .leaf ?_ | refine .block ?_ | refine .gn ?_ | refine .dr ?_ | fail
      case true =>
        cases q2
        case true => cases e12
        case false =>
          repeat' first
           | refine Opl.val (op_load rfl (ld_bx bx k1 _ rfl)) rfl ?_
           | refine Opl.val (op_lenL rfl hl.isL rfl) rfl ?_
           | refine Opl.val (op_int rfl rfl rfl (lss_i e1)) rfl ?_
           | refine Opl.val (op_int rfl rfl rfl (eql_i e2)) rfl ?_
           | refine op_gyes rfl ?_ rfl
           | refine Go.condF rfl ?_
           | exact At.fnr rfl rfl rfl ⟨pack_n hres.symm, s0.trans k1⟩
           | refine .std ?_ | refine .nil ?_ | refine .seq ?_ | refine .region ?_ | refine .xs ?_ | refine .kb ?_ | refine .leaf ?_ | refine .block ?_ | refine .gn ?_ | refine .dr ?_ | fail

def TakeTOk (x : Ty) (xs : List V) (d : Nat) : Prop := ∀ (id : Nat) (s : Int × Int) (S : St), Meas id s S →
  CallTo Tryz.prog 70 [.ptr id 0, .agg xs, .int .i64 d] S (fun u S' => u = .bool (takeT x d s).1 ∧ Meas id (takeT x d s).2 S' ∧ Kp (some id) S S') (fun _ _ => False)

set_option maxHeartbeats 2000000 in
theorem takeTC {x : Ty} {xs : List V} (hx : TyC x xs) {id a b d : Nat} (hd : d ≤ 200) (hrec : TakeTOk x xs (d + 1)) {U : St} (ba : Bk (some id) U a 174 [.ptr id 0]) (bb : Bk (some id) U b 3 [.int .i64 d]) (s : Int × Int) (S : St) (k : Kp (some id) U S) (hm : Meas id s S) :
    CallTo Tryz.prog 131 [.agg xs, .ptr a 0, .ptr b 0] S (fun u S' => u = .bool (takeTNot (d + 1) x s).1 ∧ Meas id (takeTNot (d + 1) x s).2 S' ∧ Kp (some id) S S') (fun _ _ => False) := by
  obtain ⟨U1, hU, bx, s0⟩ := box1 S 46 xs
  have k0 : Same U1 U1 := Same.refl U1
  have k1 : Kp (some id) U U1 := k.then s0
  have hc := hrec id s U1 (hm.same s0)
  refine CallTo.of (n := 11) Tryz.func131 rfl rfl ?_
  repeat' first
   | refine Opl.val (op_box rfl) rfl (Opl.cast (S' := U1) ?_ hU)
   | refine Opl.val (op_load rfl (ld_k1 ba k1)) rfl ?_
   | refine Opl.val (op_load rfl (ld_k1 bb k1)) rfl ?_
   | refine Opl.val (op_load rfl (ld_bxA bx k0 hx.len6)) rfl ?_
   | refine Opl.val (op_int rfl rfl rfl (inc_ok (i := d) (by omega))) rfl ?_
   | refine Opl.callv rfl (by kernel_rfl) hc rfl (fun S6 h => ?_) (fun _ _ h => h.elim)
   | refine .std ?_ | refine .nil ?_ | refine .seq ?_ | refine .region ?_ | refine .xs ?_ | refine .kb ?_ | refine .leaf ?_ | refine .block ?_ | refine .gn ?_ | refine .dr ?_ | fail
  exact At.fnr rfl rfl rfl ⟨rfl, h.1, (s0.kp _).trans h.2⟩

set_option maxHeartbeats 8000000 in
theorem takeTypeF : ∀ (N : Nat) (t : Ty) (cs : List V), t.nodes ≤ N → TyC t cs → ∀ d : Nat, d ≤ 201 → TakeTOk t cs d := by
  intro N
  induction N with
  | zero => intro t cs hN; cases t; simp [Ty.nodes] at hN
  | succ N IHN =>
    intro t cs hN ht d hd id s S hm
    obtain ⟨l, p⟩ := s
    have hspec := takeT_eq t d (l, p)
    simp only at hspec
    obtain ⟨lv, bv, rfl, hk, hn, hs, hl, hll, hb, hbl, hB, htl, hL⟩ := ht.inv
    obtain ⟨U1, U2, hU1, hU2, b1, b2, s0⟩ := box2 S 174 46 [.ptr id 0] [.int .i64 t.kind, .int .i64 t.n, .str t.s, lv, bv, .int .i64 t.tail]
    obtain ⟨U, hU, b3, s1⟩ := box1 U2 3 [.int .i64 d]
    have sU : Same S U := s0.trans s1
    have hid := hm.1
    have n1 : U1.next = S.next + 1 := by rw [hU1]; rfl
    have n2 : U2.next = S.next + 2 := by rw [hU2]; simp [St.new, n1]
    have k1 : Bk (some id) U S.next 174 [.ptr id 0] := Bk.of (b1.same s1) (fun h => by cases h; omega)
    have k2 : Bk (some id) U U1.next 46 [.int .i64 t.kind, .int .i64 t.n, .str t.s, lv, bv, .int .i64 t.tail] := Bk.of (b2.same s1) (fun h => by cases h; omega)
    have k3 : Bk (some id) U U2.next 3 [.int .i64 d] := Bk.of b3 (fun h => by cases h; omega)
    have mU : Meas id (l, p) U := hm.same sU
    obtain ⟨l1, hl1⟩ : ∃ l1, IntKind.wrap .i64 (l - 1) = l1 := ⟨_, rfl⟩
    rw [hl1, hB.1] at hspec
    have hsub : intOp .sub .i64 l 1 = some (.int .i64 l1) := by simp only [intOp, hl1]
    obtain ⟨S2, h1⟩ : ∃ S1 : St, S1 = { U with h := U.h.put id (.box 91 [.int .i64 l1, .int .i64 p]) } := ⟨_, rfl⟩
    have st1 : storeE Tryz.prog 3 (.ptr id 0) (.int .i64 l1) U = some S2 := by rw [h1]; exact st_one mU.2 rfl rfl
    have f1 : S2.h.find id = some (.box 91 [.int .i64 l1, .int .i64 p]) := by rw [h1]; simp [Tr.find_put]
    have kp2 : Kp (some id) U S2 := by rw [h1]; exact (Kp.refl _ _).put _
    have hlt2 : id < S2.next := by rw [h1]; exact mU.1
    have kS2 : Kp (some id) S S2 := (sU.kp _).trans kp2
    have kU : Kp (some id) U U := Kp.refl _ _
    obtain ⟨q1, g1⟩ : ∃ q, decide (l1 < 0) = q := ⟨_, rfl⟩
    obtain ⟨q2, g2⟩ : ∃ q, decide ((d : Int) > 200) = q := ⟨_, rfl⟩
    obtain ⟨q3, g3⟩ : ∃ q, decide (((elems bv).length : Int) > 24) = q := ⟨_, rfl⟩
    have hst := fun hd2 : d ≤ 200 => contFType hl hll hL (fun a v h => h.len6) 131 [.ptr S.next 0, .ptr U2.next 0] (by kernel_rfl) (takeTNot (d + 1)) (Meas id) (some id) S2
      (fun x hx v hv s S3 k4 hM => takeTC hv hd2 (fun id' s' S' => IHN x _ (by have := Ty.part hx; omega) hv (d + 1) (by omega) id' s' S') k1 k3 s S3 (kp2.trans k4) hM) (l1, p) ⟨hlt2, f1⟩
    rw [show anyS (takeTNot (d + 1)) t.l (l1, p) = _ from anyS_not (takeTStep (d + 1)) t.l (l1, p)] at hst
    have hres : ∀ q, (decide (l1 < 0) || decide ((d : Int) > 200) || decide (((elems bv).length : Int) > 24)) = q → takeT t d (l, p) = if q then (false, (l1, p)) else runS (takeTStep (d + 1)) t.l (l1, p) := by
      intro q hq
      rw [hspec]
      have : (l1 < 0 ∨ d > 200 ∨ (elems bv).length > 24) ↔ q = true := by rw [← hq]; simp; omega
      by_cases hc : l1 < 0 ∨ d > 200 ∨ (elems bv).length > 24
      · rw [if_pos hc, if_pos (this.1 hc)]
      · rw [if_neg hc, if_neg (fun h => hc (this.2 h))]
    rw [g1, g2, g3] at hres
    refine CallTo.of (n := 35) Tryz.func70 rfl rfl ?_
    repeat' first
     | refine Opl.val (op_box rfl) rfl (Opl.cast (S' := U1) ?_ hU1)
     | refine Opl.val (op_box rfl) rfl (Opl.cast (S' := U2) ?_ hU2)
     | refine Opl.val (op_box rfl) rfl (Opl.cast (S' := U) ?_ hU)
     | refine Opl.val (op_load rfl (ld_k1 k1 (by assumption))) rfl ?_
     | refine Opl.val (op_load rfl (ld_k1 k3 (by assumption))) rfl ?_
     | refine Opl.val (op_load rfl (ld_k k2 (by assumption) _ rfl)) rfl ?_
     | refine Opl.val (op_load rfl (ld_one ((pt_box mU.2).at 0 rfl))) rfl ?_
     | refine Opl.val (op_load rfl (ld_one ((pt_box f1).at 0 rfl))) rfl ?_
     | refine Opl.val (op_lenL rfl hb.isL rfl) rfl ?_
     | refine Opl.val (op_int rfl rfl rfl hsub) rfl ?_
     | refine Opl.eff (op_store rfl rfl st1) ?_
     | refine Opl.val (op_int rfl rfl rfl (lss_i g1)) rfl ?_
     | refine Opl.val (op_int rfl rfl rfl (gtr_i g2)) rfl ?_
     | refine Opl.val (op_int rfl rfl rfl (gtr_i g3)) rfl ?_
     | refine op_gyes rfl ?_ rfl
     | refine .gn ?_
     | (refine Opl.gonTN rfl rfl (fun hq => ?_) (fun hq => ?_) <;> subst hq)
     | (refine Opl.gonFN rfl rfl (fun hq => ?_) (fun hq => ?_) <;> subst hq)
     | (refine Opl.gonT rfl rfl (fun hq => ?_) (fun hq => ?_) <;> subst hq)
     | (refine Opl.gonF rfl rfl (fun hq => ?_) (fun hq => ?_) <;> subst hq)
     | refine Go.condT rfl ?_
     | refine Go.condF rfl ?_
     | (refine Go.condN rfl (fun hq => ?_) (fun hq => ?_) <;> subst hq)
     | (refine Go.condV rfl (fun hq => ?_) (fun hq => ?_) <;> subst hq)
     | (refine Opl.callv rfl (by kernel_rfl) (hst (dle g2)) rfl (fun S6 h => ?_) (fun _ _ h => h.elim); obtain ⟨m6, k6⟩ := h)
     | exact At.fnr rfl rfl rfl ⟨pack_b (by rw [hres _ rfl]; exact Bool.not_not _), by rw [hres _ rfl]; exact m6, kS2.trans k6⟩
     | exact At.fnr rfl rfl rfl ⟨by rw [hres _ rfl]; rfl, by rw [hres _ rfl]; exact ⟨hlt2, f1⟩, kS2⟩
     | refine .std ?_ | refine .nil ?_ | refine .seq ?_ | refine .region ?_ | refine .xs ?_ | refine .kb ?_ | refine .leaf ?_ | refine .block ?_ | refine .gn ?_ | refine .dr ?_ | fail

set_option maxHeartbeats 2000000 in
theorem checkTypeF {t : Ty} {cs : List V} (ht : TyC t cs) : Pu Tryz.prog 33 [.agg cs] (.int .i64 (checkTyE t)) := by
  intro S
  obtain ⟨U, hU, bx, s0⟩ := box1 S 46 cs
  obtain ⟨W, st1, b4, k4⟩ := lay (P := Tryz.prog) (T := 91) [.int .i64 0, .int .i64 0] U (cs := [.int .i64 3000, .int .i64 0]) rfl rfl
  have sW : Same S W := s0.trans k4
  have bu : Bx W S.next 46 cs := bx.same k4
  have nU : U.next = S.next + 1 := by rw [hU]; rfl
  have k1 : Bk (some U.next) W S.next 46 cs := Bk.of bu (fun h => by have := Option.some.inj h; omega)
  have kW : Kp (some U.next) W W := Kp.refl _ _
  have htk := takeTypeF t.nodes t cs (Nat.le_refl _) ht 1 (by decide) U.next (3000, 0) W ⟨b4.lt, b4.box⟩
  obtain ⟨q, hq⟩ : ∃ q, (takeT t 1 (3000, 0)).1 = q := ⟨_, rfl⟩
  rw [hq] at htk
  have hb : buildE Tryz.prog 91 [(0, .int .i64 3000)] = some (.agg [.int .i64 3000, .int .i64 0]) := by kernel_rfl
  have hnd := typeNodesF t.nodes t cs (Nat.le_refl _) ht
  have hspec : checkTyE t = if q then tnodesE t else 3 := by unfold checkTyE; rw [hq]
  rw [hspec]
  refine CallTo.of (n := 10) Tryz.func33 rfl rfl ?_
  repeat' first
   | refine Opl.val (op_box rfl) rfl (Opl.cast (S' := U) ?_ hU)
   | refine Opl.val (op_build1 rfl hb) rfl ?_
   | refine Opl.val op_alloc rfl ?_
   | refine Opl.eff (op_store rfl rfl st1) ?_
   | refine Opl.val (op_load rfl (ld_kA k1 (by assumption) ht.len6)) rfl ?_
   | (refine Opl.callv rfl (by kernel_rfl) htk rfl (fun S6 h => ?_) (fun _ _ h => h.elim); obtain ⟨m6, k6⟩ := h)
   | refine Opl.callS (U0 := S6) (Same.refl _) rfl (by kernel_rfl) hnd rfl (fun S8 k8 => ?_)
   | refine op_gyes rfl ?_ rfl
   | refine .gn ?_
   | (refine Opl.gonTN rfl rfl (fun hq => ?_) (fun hq => ?_) <;> subst hq)
   | (refine Opl.gonFN rfl rfl (fun hq => ?_) (fun hq => ?_) <;> subst hq)
   | (refine Opl.gonT rfl rfl (fun hq => ?_) (fun hq => ?_) <;> subst hq)
   | (refine Opl.gonF rfl rfl (fun hq => ?_) (fun hq => ?_) <;> subst hq)
   | refine Go.condT rfl ?_
   | refine Go.condF rfl ?_
   | (refine Go.condN rfl (fun hq => ?_) (fun hq => ?_) <;> subst hq)
   | (refine Go.condV rfl (fun hq => ?_) (fun hq => ?_) <;> subst hq)
   | exact At.fnr rfl rfl rfl ⟨rfl, (k6.after sW (by omega)).trans k8⟩
   | exact At.fnr rfl rfl rfl ⟨rfl, k6.after sW (by omega)⟩
   | refine .std ?_ | refine .nil ?_ | refine .seq ?_ | refine .region ?_ | refine .xs ?_ | refine .kb ?_ | refine .leaf ?_ | refine .block ?_ | refine .gn ?_ | refine .dr ?_ | fail

end Go.Proofs.YtodiioeddlmjhaaGreatDoor
