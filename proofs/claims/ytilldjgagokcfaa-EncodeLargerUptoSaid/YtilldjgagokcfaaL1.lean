/-
  EncodeLarger: what the law's function comes to.
-/
import Derived.Test.YtilldjgagokcfaaS1
import Derived.Test.YtilldjgagokcfaaEvIn
set_option linter.unusedVariables false
set_option linter.unusedSimpArgs false
namespace Go.Ev
open Go.RowKit

theorem fileOf_length (k : UInt8) (bs : List UInt8) : (fileOf k bs).length = bs.length + 12 := by simp [fileOf, be4]

theorem EncL.part {d t : Nat} : ∀ {es : List V} {bl : List UInt8}, EncL d t es bl → ∀ {i : Nat} {e : V}, es[i]? = some e → ∃ be, EncF d (sch t) e.cells be ∧ be.length ≤ bl.length
  | _, _, .nil _ _, i, e, h => by simp at h
  | _, _, .cons h1 h2, 0, e, h => by simp at h; subst h; exact ⟨_, h1, by simp⟩
  | _, _, .cons h1 h2, i + 1, e, h => by
    obtain ⟨be, g1, g2⟩ := h2.part (i := i) (e := e) (by simpa using h)
    exact ⟨be, g1, by simp; omega⟩

theorem Go.joinK {P : Program} {F : Sh} {E0 : Env} {S0 : St} {a b : Code} {k : K} (Inv : Env → St → Prop) (hrest : ∀ E S, Inv E S → Go P F E S b k) (h : (∀ E S, Inv E S → Go P F E S b k) → Go P F E0 S0 a (Ks P b k)) : Go P F E0 S0 a (Ks P b k) := h hrest

theorem leq_yes {a b : Int} (h : a ≤ b) : intOp .leq .i64 a b = some (.bool true) := by simp only [intOp]; rw [decide_eq_true h]
theorem geq_no {a b : Int} (h : a < b) : intOp .geq .i64 a b = some (.bool false) := by simp only [intOp]; rw [decide_eq_false (by omega)]
theorem gtr_yes {a b : Int} (h : b < a) : intOp .gtr .i64 a b = some (.bool true) := by simp only [intOp]; rw [decide_eq_true h]
theorem gtr_no {a b : Int} (h : ¬ b < a) : intOp .gtr .i64 a b = some (.bool false) := by simp only [intOp]; rw [decide_eq_false (by omega)]

theorem rem_nat (w n : Nat) (hn : n ≠ 0) : intOp .rem .i64 (w : Int) (n : Int) = some (.int .i64 ((w % n : Nat) : Int)) := by
  simp only [intOp]
  rw [if_neg (by simp; omega), Int.tmod_eq_emod_of_nonneg (by omega)]
  simp

end Go.Ev

namespace Go.Proofs.Ytilldjgagokcfaa
open Go.RowKit Go.Ev
set_option maxRecDepth 100000
set_option linter.unusedVariables false

theorem inRange (n : Nat) (h1 : 12 ≤ n) (h2 : n ≤ 100000) (S : St) : CallTo Try.prog 23 [.int .i64 n, .int .i64 12, .int .i64 100000] S (fun v S' => v = .bool true ∧ S = S') (fun _ _ => False) := by
  refine CallTo.of (n := 15) Try.func23 rfl rfl ?_
  have a1 : intOp .leq .i64 12 (n : Int) = some (.bool true) := leq_yes (by omega)
  have a2 : intOp .leq .i64 (n : Int) 100000 = some (.bool true) := leq_yes (by omega)
  repeat' first
    | refine Opl.val (op_int rfl rfl rfl a1) rfl ?_
    | refine Opl.val (op_int rfl rfl rfl a2) rfl ?_
    | refine Opl.gon (q := true) rfl rfl (fun _ => ?_) (fun h => by cases h)
    | refine Opl.nil ?_
    | refine Go.seq ?_
    | refine Go.region ?_
    | refine At.seq ?_
    | refine At.seqx ?_
    | refine At.seqr ?_
    | refine At.seqp ?_
    | refine At.blkr ?_
    | refine At.blkp ?_
    | refine At.blkx ?_
    | refine At.blky rfl ?_
    | refine At.blk ?_
    | refine Go.block ?_
    | refine Go.ret ?_
    | refine Go.skip ?_
    | refine Go.exit ?_
    | refine Opl.val (op_move rfl) rfl ?_
    | refine Opl.val (op_assign rfl) rfl ?_
    | refine Opl.val (op_nilP rfl (by first | rfl | assumption | exact isP_padd (by assumption) _)) rfl ?_
    | refine Opl.val (op_fld2 rfl (by first | rfl | assumption)) rfl ?_
    | refine Opl.val (op_fld rfl (by first | rfl | assumption)) rfl ?_
    | refine Opl.val (op_load rfl (ld_one (Pt.at (by assumption) _ rfl))) rfl ?_
    | refine Opl.val (op_load rfl (ld_one (by assumption))) rfl ?_
    | refine Opl.val (op_int rfl rfl rfl rfl) rfl ?_
    | refine Opl.val (op_convI rfl) rfl ?_
    | refine Opl.val (op_un rfl rfl) rfl ?_
    | refine Opl.val (op_ext rfl rfl) rfl ?_
    | refine Opl.val (op_mk rfl) rfl ?_
    | refine Opl.val (op_fn rfl rfl) rfl ?_
    | refine Opl.val (op_lenS rfl rfl) rfl ?_
    | refine Opl.gno rfl rfl ?_
    | refine Opl.val (op_pickT rfl rfl) rfl ?_
    | refine Opl.val (op_pickF rfl rfl) rfl ?_
    | refine Go.drawId (by kernel_rfl) ?_
  exact At.fnr rfl rfl rfl ⟨rfl, rfl⟩

/-- A value's parts. -/
theorem valOf {d : Nat} {cs : List V} {bs : List UInt8} (h : EncF d (sch 2) cs bs) : ∃ n0 n1 s2 v3 v4, cs = [.int .i64 n0, .int .i64 n1, .str s2, v3, v4] ∧ isLn 5 v3 ∧ (elems v3).length < 4611686018427387904 ∧
    ∀ (i : Nat) (e : V), (elems v3)[i]? = some e → e.cells.length = 5 ∧ ∃ k be, EncF k (sch 2) e.cells be ∧ be.length < bs.length := by
  obtain ⟨n0, c0, b0, hn0, rfl, rfl, he0⟩ := EncF.invI h
  obtain ⟨n1, c1, b1, hn1, rfl, rfl, he1⟩ := EncF.invI he0
  obtain ⟨s2, c2, b2, hs2, rfl, rfl, he2⟩ := EncF.invS he1
  obtain ⟨d3, v3, l3, c3, b3, hd3, hv3, hl3, hel3, rfl, rfl, he3⟩ := EncF.invL he2
  obtain ⟨d4, v4, l4, c4, b4, hd4, hv4, hl4, hel4, rfl, rfl, he4⟩ := EncF.invL he3
  obtain ⟨rfl, rfl⟩ := EncF.invN he4
  refine ⟨n0, n1, s2, v3, v4, rfl, hv3, hl3, fun i e hi => ?_⟩
  obtain ⟨be, g1, g2⟩ := hel3.part hi
  refine ⟨by simpa [sch] using g1.len, d3, be, g1, ?_⟩
  have := vb_pos (zig n0)
  simp [encI]
  omega

/-- An expression of Main in Main's place. -/
theorem partOf {d : Nat} {cs : List V} {bs : List UInt8} (h : EncF d (sch 14) cs bs) : ∃ v0 v1 v2 n0 n1 s2 s3 v4 v5 v6, cs = [v0, v1, v2, .int .i64 n0, .int .i64 n1, .str s2, .str s3, v4, v5, v6] ∧ isLn 7 v5 ∧ (elems v5).length < 4611686018427387904 ∧
    ∀ (i : Nat) (e : V), (elems v5)[i]? = some e → e.cells.length = 7 ∧ e.cells.all V.one = true ∧ ∃ k bp, EncF k (sch 14) ([v0, v1, v2] ++ e.cells) bp ∧ bp.length < bs.length := by
  obtain ⟨d0, v0, l0, c0, b0, hd0, hv0, hl0, hel0, rfl, rfl, he0⟩ := EncF.invL h
  obtain ⟨d1, v1, l1, c1, b1, hd1, hv1, hl1, hel1, rfl, rfl, he1⟩ := EncF.invL he0
  obtain ⟨d2, v2, l2, c2, b2, hd2, hv2, hl2, hel2, rfl, rfl, he2⟩ := EncF.invL he1
  obtain ⟨d3, x3, l3, c3, b3, hd3, hx3, hxl3, rfl, rfl, he3⟩ := EncF.invT he2
  obtain ⟨rfl, rfl⟩ := EncF.invN he3
  obtain ⟨n0, y0, o0, hn0, rfl, rfl, hz0⟩ := EncF.invI hx3
  obtain ⟨n1, y1, o1, hn1, rfl, rfl, hz1⟩ := EncF.invI hz0
  obtain ⟨s2, y2, o2, hs2, rfl, rfl, hz2⟩ := EncF.invS hz1
  obtain ⟨s3, y3, o3, hs3, rfl, rfl, hz3⟩ := EncF.invS hz2
  obtain ⟨d4, v4, l4, y4, o4, hd4, hv4, hl4, hel4, rfl, rfl, hz4⟩ := EncF.invL hz3
  obtain ⟨d5, v5, l5, y5, o5, hd5, hv5, hl5, hel5, rfl, rfl, hz5⟩ := EncF.invL hz4
  obtain ⟨d6, v6, l6, y6, o6, hd6, hv6, hl6, hel6, rfl, rfl, hz6⟩ := EncF.invL hz5
  obtain ⟨rfl, rfl⟩ := EncF.invN hz6
  refine ⟨v0, v1, v2, n0, n1, s2, s3, v4, v5, v6, rfl, hv5, hl5, fun i e hi => ?_⟩
  obtain ⟨be, g1, g2⟩ := hel5.part hi
  have hlen : e.cells.length = 7 := by simpa [sch] using g1.len
  have hs : EncF (d + 1) [.sub 11] e.cells (be ++ []) := by
    have := EncF.sub (t := 11) (g1.le (show d5 ≤ d by omega)) hlen (.nil (d + 1))
    simpa using this
  refine ⟨hlen, g1.ones, d + 1, _, .list hv0 hl0 (hel0.le (Nat.le_of_lt hd0)) (.list hv1 hl1 (hel1.le (Nat.le_of_lt hd1)) (.list hv2 hl2 (hel2.le (Nat.le_of_lt hd2)) hs)), ?_⟩
  have := vb_pos (zig n0)
  simp [encI]
  omega

theorem progProgram {d : Nat} {cs : List V} {bs : List UInt8} (he : EncF d (sch 14) cs bs) (S : St) : CallTo Try.prog 22 [.agg cs] S (fun v S' => v = fileV 112 bs ∧ KeepB S S' S.next) (fun _ _ => False) := by
  have hl : cs.length = 10 := by simpa [sch, szs] using he.len
  obtain ⟨s, e, hse⟩ := fileV_tup 112 bs
  obtain ⟨S1, hS1⟩ : ∃ S1, S1 = S.new (.box 63 cs) := ⟨_, rfl⟩
  have hs1 : Same S S1 := by rw [hS1]; exact Same.new _ _
  have hx : S1.h.find S.next = some (.box 63 cs) := by rw [hS1]; simp [St.new, Tr.find_put]
  have hld : loadE Try.prog 63 (.ptr S.next 0) S1 = some (.agg cs) := ld_agg ⟨_, _, hx, fun i v h => by simpa using h⟩ hl
  have hw : CallTo Try.prog 39 [.agg cs, .int .u8 112, .func 40 [] []] S1 (fun v S' => v = .tup [.str s, .int .i64 e] ∧ KeepB S1 S' S1.next) (fun _ _ => False) := by
    rw [← hse]; exact write63 he 112 S1
  refine CallTo.of (n := 8) Try.func22 rfl rfl ?_
  repeat' first
    | refine Opl.val (op_box rfl) rfl (Opl.cast (S' := S1) ?_ hS1)
    | refine Opl.val (op_load rfl hld) rfl ?_
    | refine Opl.callv rfl (by kernel_rfl) hw rfl (fun S2 k2 => ?_) (fun _ _ hf => hf.elim)
    | refine Opl.nil ?_
    | refine Go.seq ?_
    | refine Go.region ?_
    | refine At.seq ?_
    | refine At.seqx ?_
    | refine At.seqr ?_
    | refine At.seqp ?_
    | refine At.blkr ?_
    | refine At.blkp ?_
    | refine At.blkx ?_
    | refine At.blky rfl ?_
    | refine At.blk ?_
    | refine Go.block ?_
    | refine Go.ret ?_
    | refine Go.skip ?_
    | refine Go.exit ?_
    | refine Opl.val (op_move rfl) rfl ?_
    | refine Opl.val (op_assign rfl) rfl ?_
    | refine Opl.val (op_nilP rfl (by first | rfl | assumption | exact isP_padd (by assumption) _)) rfl ?_
    | refine Opl.val (op_fld2 rfl (by first | rfl | assumption)) rfl ?_
    | refine Opl.val (op_fld rfl (by first | rfl | assumption)) rfl ?_
    | refine Opl.val (op_load rfl (ld_one (Pt.at (by assumption) _ rfl))) rfl ?_
    | refine Opl.val (op_load rfl (ld_one (by assumption))) rfl ?_
    | refine Opl.val (op_int rfl rfl rfl rfl) rfl ?_
    | refine Opl.val (op_convI rfl) rfl ?_
    | refine Opl.val (op_un rfl rfl) rfl ?_
    | refine Opl.val (op_ext rfl rfl) rfl ?_
    | refine Opl.val (op_mk rfl) rfl ?_
    | refine Opl.val (op_fn rfl rfl) rfl ?_
    | refine Opl.val (op_lenS rfl rfl) rfl ?_
    | refine Opl.gno rfl rfl ?_
    | refine Opl.val (op_pickT rfl rfl) rfl ?_
    | refine Opl.val (op_pickF rfl rfl) rfl ?_
    | refine Go.drawId (by kernel_rfl) ?_
  exact At.fnr rfl rfl rfl ⟨hse.symm, (hs1.keepB _).trans (k2.any (Nat.le_refl _) _)⟩

set_option maxHeartbeats 4000000 in
theorem larger {d1 d2 : Nat} {c1 c2 : List V} {b1 b2 : List UInt8} (h1 : EncF d1 (sch 2) c1 b1) (h2 : EncF d2 (sch 14) c2 b2) (w : Nat) (hw : w < 256) (S : St) :
    CallTo Try.prog 6 [.agg c1, .agg c2, .int .u8 w] S (fun v _ => v = .bool true) (fun _ _ => False) := by
  have hl1 : c1.length = 5 := by simpa [sch, szs] using h1.len
  have hl2 : c2.length = 10 := by simpa [sch, szs] using h2.len
  obtain ⟨U, hU⟩ : ∃ U, U = (S.new (.box 29 c1)).new (.box 63 c2) := ⟨_, rfl⟩
  obtain ⟨B, hBdef⟩ : ∃ B : St → Prop, B = fun W => W.h.find S.next = some (.box 29 c1) ∧ W.h.find (S.next + 1) = some (.box 63 c2) ∧ S.next + 2 ≤ W.next := ⟨_, rfl⟩
  have hBU : B U := by
    rw [hBdef, hU]
    refine ⟨?_, by simp [St.new, Tr.find_put], by simp [St.new]⟩
    simp only [St.new, Tr.find_put]
    simp only [if_neg (show ¬ S.next = S.next + 1 by omega), if_true]
  have hBn : ∀ {W : St}, B W → S.next + 2 ≤ W.next := by rw [hBdef]; exact fun h => h.2.2
  have hBk : ∀ {W W' : St}, B W → KeepB W W' W.next → B W' := by
    rw [hBdef]
    rintro W W' ⟨x1, x2, x3⟩ k
    exact ⟨k.box _ _ _ (by omega) (by omega) x1, k.box _ _ _ (by omega) (by omega) x2, Nat.le_trans x3 k.next⟩
  have hp1 : ∀ W, B W → Pt W (.ptr S.next 0) c1 := by
    rw [hBdef]
    exact fun W hW => ⟨_, _, hW.1, fun i v h => by simpa using h⟩
  have hp2 : ∀ W, B W → Pt W (.ptr (S.next + 1) 0) c2 := by
    rw [hBdef]
    exact fun W hW => ⟨_, _, hW.2.1, fun i v h => by simpa using h⟩
  have ld1 : ∀ W, B W → loadE Try.prog 29 (.ptr S.next 0) W = some (.agg c1) := fun W hW => ld_agg (hp1 W hW) hl1
  have ld2 : ∀ W, B W → loadE Try.prog 63 (.ptr (S.next + 1) 0) W = some (.agg c2) := fun W hW => ld_agg (hp2 W hW) hl2
  obtain ⟨s1, e1, hse1⟩ := fileV_tup 118 b1
  obtain ⟨s2, e2, hse2⟩ := fileV_tup 112 b2
  have q1 : ∀ W, B W → CallTo Try.prog 20 [.agg c1] W (fun v S' => v = .tup [.str s1, .int .i64 e1] ∧ B S') (fun _ _ => False) := fun W hW => (progValue h1 W).mono (fun v S' h => ⟨by rw [h.1, hse1], hBk hW h.2⟩) (fun _ _ h => h)
  have q2 : ∀ W, B W → CallTo Try.prog 22 [.agg c2] W (fun v S' => v = .tup [.str s2, .int .i64 e2] ∧ B S') (fun _ _ => False) := fun W hW => (progProgram h2 W).mono (fun v S' h => ⟨by rw [h.1, hse2], hBk hW h.2⟩) (fun _ _ h => h)
  obtain ⟨n0, n1, s2, v3, v4, hc1, hv3, hl3, hpart1⟩ := valOf h1
  obtain ⟨p0, p1, p2, m0, m1, t2, t3, u4, u5, u6, hc2, hu5, hl5, hpart2⟩ := partOf h2
  have lL : ∀ W, B W → loadE Try.prog 26 (padd (.ptr S.next 0) 3) W = some v3 := fun W hW => ld_one ((hp1 W hW).at 3 (by rw [hc1]; rfl))
  have lM : ∀ W, B W → loadE Try.prog 58 (padd (.ptr (S.next + 1) 0) 8) W = some u5 := fun W hW => ld_one ((hp2 W hW).at 8 (by rw [hc2]; rfl))
  have cw : intOp .rem .i64 (IntKind.wrap .i64 (w : Int)) ((elems v3).length : Int) = intOp .rem .i64 (w : Int) ((elems v3).length : Int) := by rw [wrap_i64_id (by constructor <;> omega)]
  refine CallTo.of (n := 95) Try.func6 rfl rfl ?_
  repeat' first
    | refine Opl.val (op_box rfl) rfl (Opl.cast (S' := U) ?_ hU)
    | refine Opl.val (op_box rfl) rfl ?_
    | refine Opl.val (op_load rfl (ld1 _ (by assumption))) rfl ?_
    | refine Opl.nil ?_
    | refine Go.seq ?_
    | refine Go.region ?_
    | refine At.seq ?_
    | refine At.seqx ?_
    | refine At.seqr ?_
    | refine At.seqp ?_
    | refine At.blkr ?_
    | refine At.blkp ?_
    | refine At.blkx ?_
    | refine At.blky rfl ?_
    | refine At.blk ?_
    | refine Go.block ?_
    | refine Go.ret ?_
    | refine Go.skip ?_
    | refine Go.exit ?_
    | refine Opl.val (op_move rfl) rfl ?_
    | refine Opl.val (op_assign rfl) rfl ?_
    | refine Opl.val (op_nilP rfl (by first | rfl | assumption | exact isP_padd (by assumption) _)) rfl ?_
    | refine Opl.val (op_fld2 rfl (by first | rfl | assumption)) rfl ?_
    | refine Opl.val (op_fld rfl (by first | rfl | assumption)) rfl ?_
    | refine Opl.val (op_load rfl (ld_one (Pt.at (by assumption) _ rfl))) rfl ?_
    | refine Opl.val (op_load rfl (ld_one (by assumption))) rfl ?_
    | refine Opl.val (op_int rfl rfl rfl rfl) rfl ?_
    | refine Opl.val (op_convI rfl) rfl ?_
    | refine Opl.val (op_un rfl rfl) rfl ?_
    | refine Opl.val (op_ext rfl rfl) rfl ?_
    | refine Opl.val (op_mk rfl) rfl ?_
    | refine Opl.val (op_fn rfl rfl) rfl ?_
    | refine Opl.val (op_lenS rfl rfl) rfl ?_
    | refine Opl.gno rfl rfl ?_
    | refine Opl.val (op_pickT rfl rfl) rfl ?_
    | refine Opl.val (op_pickF rfl rfl) rfl ?_
    | refine Go.drawId (by kernel_rfl) ?_
  refine Opl.callv rfl (by kernel_rfl) (q1 _ (by assumption)) rfl (fun S3 k3 => ?_) (fun _ _ hf => hf.elim)
  repeat' first
    | refine Opl.nil ?_
    | refine At.seq ?_
    | refine At.seqx ?_
    | refine At.seqr ?_
    | refine At.seqp ?_
    | refine At.blkr ?_
    | refine At.blkp ?_
    | refine At.blkx ?_
    | refine At.blky rfl ?_
    | refine At.blk ?_
    | refine Opl.val (op_move rfl) rfl ?_
    | refine Opl.val (op_assign rfl) rfl ?_
    | refine Opl.val (op_nilP rfl (by first | rfl | assumption | exact isP_padd (by assumption) _)) rfl ?_
    | refine Opl.val (op_fld2 rfl (by first | rfl | assumption)) rfl ?_
    | refine Opl.val (op_fld rfl (by first | rfl | assumption)) rfl ?_
    | refine Opl.val (op_load rfl (ld_one (Pt.at (by assumption) _ rfl))) rfl ?_
    | refine Opl.val (op_load rfl (ld_one (by assumption))) rfl ?_
    | refine Opl.val (op_int rfl rfl rfl rfl) rfl ?_
    | refine Opl.val (op_convI rfl) rfl ?_
    | refine Opl.val (op_un rfl rfl) rfl ?_
    | refine Opl.val (op_ext rfl rfl) rfl ?_
    | refine Opl.val (op_mk rfl) rfl ?_
    | refine Opl.val (op_fn rfl rfl) rfl ?_
    | refine Opl.val (op_lenS rfl rfl) rfl ?_
    | refine Opl.gno rfl rfl ?_
    | refine Opl.val (op_pickT rfl rfl) rfl ?_
    | refine Opl.val (op_pickF rfl rfl) rfl ?_
  refine Go.seq (Go.joinK (fun E W => Sub [(4, .ptr (S.next + 1) 0)] E ∧ B W) ?_ (fun hj => ?_))
  · rintro E W ⟨hE, hB⟩
    refine Go.weaken ?_ hE
    by_cases ok2 : b2.length ≤ 99988
    · have hf2 : fileV 112 b2 = .tup [.str (fileOf 112 b2), .int .i64 0] := by unfold fileV; rw [if_pos ok2]
      rw [hf2] at hse2
      simp only [V.tup.injEq, List.cons.injEq, V.str.injEq, V.int.injEq, true_and, and_true] at hse2
      obtain ⟨rfl, rfl⟩ := hse2
      repeat' first
        | refine Opl.val (op_load rfl (ld2 _ (by assumption))) rfl ?_
        | refine Opl.callv rfl (by kernel_rfl) (q2 _ (by assumption)) rfl (fun S4 k4 => ?_) (fun _ _ hf => hf.elim)
        | refine Opl.val (op_int rfl rfl rfl (int_neq 0)) rfl ?_
        | refine Go.condF rfl ?_
        | refine Opl.nil ?_
        | refine Go.seq ?_
        | refine Go.region ?_
        | refine At.seq ?_
        | refine At.seqx ?_
        | refine At.seqr ?_
        | refine At.seqp ?_
        | refine At.blkr ?_
        | refine At.blkp ?_
        | refine At.blkx ?_
        | refine At.blky rfl ?_
        | refine At.blk ?_
        | refine Go.block ?_
        | refine Go.ret ?_
        | refine Go.skip ?_
        | refine Go.exit ?_
        | refine Opl.val (op_move rfl) rfl ?_
        | refine Opl.val (op_assign rfl) rfl ?_
        | refine Opl.val (op_nilP rfl (by first | rfl | assumption | exact isP_padd (by assumption) _)) rfl ?_
        | refine Opl.val (op_fld2 rfl (by first | rfl | assumption)) rfl ?_
        | refine Opl.val (op_fld rfl (by first | rfl | assumption)) rfl ?_
        | refine Opl.val (op_load rfl (ld_one (Pt.at (by assumption) _ rfl))) rfl ?_
        | refine Opl.val (op_load rfl (ld_one (by assumption))) rfl ?_
        | refine Opl.val (op_int rfl rfl rfl rfl) rfl ?_
        | refine Opl.val (op_convI rfl) rfl ?_
        | refine Opl.val (op_un rfl rfl) rfl ?_
        | refine Opl.val (op_ext rfl rfl) rfl ?_
        | refine Opl.val (op_mk rfl) rfl ?_
        | refine Opl.val (op_fn rfl rfl) rfl ?_
        | refine Opl.val (op_lenS rfl rfl) rfl ?_
        | refine Opl.gno rfl rfl ?_
        | refine Opl.val (op_pickT rfl rfl) rfl ?_
        | refine Opl.val (op_pickF rfl rfl) rfl ?_
        | refine Go.drawId (by kernel_rfl) ?_
      refine Go.weaken (E' := [(4, .ptr (S.next + 1) 0), (7, .str (fileOf 112 b2)), (11, .int .i64 (0 : Nat))]) ?_ ⟨rfl, rfl, rfl, trivial⟩
      refine Go.loop_ind (α := Nat) (fun i => (elems u5).length - i) (fun i E W => E = [(4, .ptr (S.next + 1) 0), (7, .str (fileOf 112 b2)), (11, .int .i64 i)] ∧ i ≤ (elems u5).length ∧ B W) ?_ 0 _ _ ⟨rfl, Nat.zero_le _, by assumption⟩
      rintro i E W1 ⟨rfl, hi, hB1⟩ IH
      by_cases hq : i < (elems u5).length
      · have hix : (elems u5)[i]? = some (elems u5)[i] := List.getElem?_eq_getElem hq
        obtain ⟨lt, tk, hvl⟩ := hu5.el hix
        obtain ⟨hcl, hones, k, bp, hbp, hbl⟩ := hpart2 i _ hix
        have hel : ∀ W, loadE Try.prog 61 (.cptr none (elems u5)[i].cells 0) W = some (.agg (elems u5)[i].cells) := fun W => ld_agg (Pt.cptr _ _ _) hcl
        obtain ⟨W3, hst3, hs3, hx3, hlt3⟩ := lay (S := W1) (T := 63) (z := [.nils, .nils, .nils, .int .i64 0, .int .i64 0, .str [], .str [], .nils, .nils, .nils]) rfl hl2 h2.ones
        have hB3 : B W3 := hBk hB1 (hs3.keepB _)
        have hsp : splice c2 3 (elems u5)[i].cells = some ([p0, p1, p2] ++ (elems u5)[i].cells) := by rw [hc2]; simp [splice, hcl]
        obtain ⟨W4, hW4⟩ : ∃ W4 : St, W4 = { W3 with h := W3.h.put W1.next (.box 63 ([p0, p1, p2] ++ (elems u5)[i].cells)) } := ⟨_, rfl⟩
        have hst4 : storeE Try.prog 61 (.ptr W1.next 3) (.agg (elems u5)[i].cells) W3 = some W4 := by rw [hW4]; exact st_agg hx3 hcl hones hsp
        have hs4 : Same W1 W4 := by rw [hW4]; exact hs3.put (Nat.le_refl _) _
        have hB4 : B W4 := hBk hB1 (hs4.keepB _)
        have hx4 : W4.h.find W1.next = some (.box 63 ([p0, p1, p2] ++ (elems u5)[i].cells)) := by rw [hW4]; simp [Tr.find_put]
        have ld4 : loadE Try.prog 63 (.ptr W1.next 0) W4 = some (.agg ([p0, p1, p2] ++ (elems u5)[i].cells)) := ld_agg ⟨_, _, hx4, fun i v h => by simpa using h⟩ (by simp [hcl])
        have hf4 : fileV 112 bp = .tup [.str (fileOf 112 bp), .int .i64 0] := by unfold fileV; rw [if_pos (by omega)]
        have q4 : ∀ W, B W → CallTo Try.prog 22 [.agg ([p0, p1, p2] ++ (elems u5)[i].cells)] W (fun v S' => v = .tup [.str (fileOf 112 bp), .int .i64 0] ∧ B S') (fun _ _ => False) := fun W hW => (progProgram hbp W).mono (fun v S' h => ⟨by rw [h.1, hf4], hBk hW h.2⟩) (fun _ _ h => h)
        have a3 : intOp .geq .i64 ((fileOf 112 bp).length : Int) ((fileOf 112 b2).length : Int) = some (.bool false) := geq_no (by rw [fileOf_length, fileOf_length]; omega)
        repeat' first
          | refine Opl.val (op_load rfl (lM _ (by assumption))) rfl ?_
          | refine Opl.val (op_lenL rfl hu5.isL rfl) rfl ?_
          | refine Opl.val (op_int rfl rfl rfl (lss_yes hq)) rfl ?_
          | refine Opl.val (op_int rfl rfl rfl (int_neq 0)) rfl ?_
          | refine Opl.val (op_int rfl rfl rfl a3) rfl ?_
          | refine Opl.val (op_int rfl rfl rfl (inc_ok (i := i) (by omega))) rfl ?_
          | refine Opl.gon (q := true) rfl rfl (fun _ => ?_) (fun h => by cases h)
          | refine Go.condT rfl ?_
          | refine Go.condF rfl ?_
          | refine Opl.val (op_load rfl (ld2 _ (by assumption))) rfl ?_
          | refine Opl.val op_alloc rfl ?_
          | refine Opl.eff (op_store rfl rfl hst3) ?_
          | refine Opl.val (op_ixaL (by exact (congrArg some hvl)) rfl hix) rfl ?_
          | refine Opl.val (op_load rfl (hel _)) rfl ?_
          | refine Opl.eff (op_store rfl rfl hst4) ?_
          | refine Opl.val (op_load rfl ld4) rfl ?_
          | refine Opl.callv rfl (by kernel_rfl) (q4 _ (by assumption)) rfl (fun W5 k5 => ?_) (fun _ _ hf => hf.elim)
          | refine Opl.nil ?_
          | refine Go.seq ?_
          | refine Go.region ?_
          | refine At.seq ?_
          | refine At.seqx ?_
          | refine At.seqr ?_
          | refine At.seqp ?_
          | refine At.blkr ?_
          | refine At.blkp ?_
          | refine At.blkx ?_
          | refine At.blky rfl ?_
          | refine At.blk ?_
          | refine Go.block ?_
          | refine Go.ret ?_
          | refine Go.skip ?_
          | refine Go.exit ?_
          | refine Opl.val (op_move rfl) rfl ?_
          | refine Opl.val (op_assign rfl) rfl ?_
          | refine Opl.val (op_nilP rfl (by first | rfl | assumption | exact isP_padd (by assumption) _)) rfl ?_
          | refine Opl.val (op_fld2 rfl (by first | rfl | assumption)) rfl ?_
          | refine Opl.val (op_fld rfl (by first | rfl | assumption)) rfl ?_
          | refine Opl.val (op_load rfl (ld_one (Pt.at (by assumption) _ rfl))) rfl ?_
          | refine Opl.val (op_load rfl (ld_one (by assumption))) rfl ?_
          | refine Opl.val (op_int rfl rfl rfl rfl) rfl ?_
          | refine Opl.val (op_convI rfl) rfl ?_
          | refine Opl.val (op_un rfl rfl) rfl ?_
          | refine Opl.val (op_ext rfl rfl) rfl ?_
          | refine Opl.val (op_mk rfl) rfl ?_
          | refine Opl.val (op_fn rfl rfl) rfl ?_
          | refine Opl.val (op_lenS rfl rfl) rfl ?_
          | refine Opl.gno rfl rfl ?_
          | refine Opl.val (op_pickT rfl rfl) rfl ?_
          | refine Opl.val (op_pickF rfl rfl) rfl ?_
          | refine Go.drawId (by kernel_rfl) ?_
        exact (IH (i + 1) _ _ (by omega) ⟨rfl, by omega, by assumption⟩).weaken ⟨rfl, rfl, rfl, trivial⟩
      · have hlen := inRange (fileOf 112 b2).length (by rw [fileOf_length]; omega) (by rw [fileOf_length]; omega) W1
        repeat' first
          | refine Opl.val (op_load rfl (lM _ (by assumption))) rfl ?_
          | refine Opl.val (op_lenL rfl hu5.isL rfl) rfl ?_
          | refine Opl.val (op_int rfl rfl rfl (lss_no hq)) rfl ?_
          | refine Opl.gon (q := true) rfl rfl (fun _ => ?_) (fun h => by cases h)
          | refine Go.condF rfl ?_
          | (refine Opl.callv rfl (by kernel_rfl) hlen rfl (fun W5 k5 => ?_) (fun _ _ hf => hf.elim); subst k5)
          | refine Opl.callr rfl (by kernel_rfl) (lim_closed awakeT _) rfl ?_
          | refine Opl.nil ?_
          | refine Go.seq ?_
          | refine Go.region ?_
          | refine At.seq ?_
          | refine At.seqx ?_
          | refine At.seqr ?_
          | refine At.seqp ?_
          | refine At.blkr ?_
          | refine At.blkp ?_
          | refine At.blkx ?_
          | refine At.blky rfl ?_
          | refine At.blk ?_
          | refine Go.block ?_
          | refine Go.ret ?_
          | refine Go.skip ?_
          | refine Go.exit ?_
          | refine Opl.val (op_move rfl) rfl ?_
          | refine Opl.val (op_assign rfl) rfl ?_
          | refine Opl.val (op_nilP rfl (by first | rfl | assumption | exact isP_padd (by assumption) _)) rfl ?_
          | refine Opl.val (op_fld2 rfl (by first | rfl | assumption)) rfl ?_
          | refine Opl.val (op_fld rfl (by first | rfl | assumption)) rfl ?_
          | refine Opl.val (op_load rfl (ld_one (Pt.at (by assumption) _ rfl))) rfl ?_
          | refine Opl.val (op_load rfl (ld_one (by assumption))) rfl ?_
          | refine Opl.val (op_int rfl rfl rfl rfl) rfl ?_
          | refine Opl.val (op_convI rfl) rfl ?_
          | refine Opl.val (op_un rfl rfl) rfl ?_
          | refine Opl.val (op_ext rfl rfl) rfl ?_
          | refine Opl.val (op_mk rfl) rfl ?_
          | refine Opl.val (op_fn rfl rfl) rfl ?_
          | refine Opl.val (op_lenS rfl rfl) rfl ?_
          | refine Opl.gno rfl rfl ?_
          | refine Opl.val (op_pickT rfl rfl) rfl ?_
          | refine Opl.val (op_pickF rfl rfl) rfl ?_
          | refine Go.drawId (by kernel_rfl) ?_
        exact At.fnr rfl rfl rfl rfl
    · have hf2 : fileV 112 b2 = .tup [.str [], .int .i64 3] := by unfold fileV; rw [if_neg ok2]
      rw [hf2] at hse2
      simp only [V.tup.injEq, List.cons.injEq, V.str.injEq, V.int.injEq, true_and, and_true] at hse2
      obtain ⟨rfl, rfl⟩ := hse2
      repeat' first
        | refine Opl.val (op_load rfl (ld2 _ (by assumption))) rfl ?_
        | refine Opl.callv rfl (by kernel_rfl) (q2 _ (by assumption)) rfl (fun S4 k4 => ?_) (fun _ _ hf => hf.elim)
        | refine Opl.val (op_int (v := .bool true) rfl rfl rfl rfl) rfl ?_
        | refine Go.condT rfl ?_
        | refine Opl.callr rfl (by kernel_rfl) (lim_closed awakeT _) rfl ?_
        | refine Opl.nil ?_
        | refine Go.seq ?_
        | refine Go.region ?_
        | refine At.seq ?_
        | refine At.seqx ?_
        | refine At.seqr ?_
        | refine At.seqp ?_
        | refine At.blkr ?_
        | refine At.blkp ?_
        | refine At.blkx ?_
        | refine At.blky rfl ?_
        | refine At.blk ?_
        | refine Go.block ?_
        | refine Go.ret ?_
        | refine Go.skip ?_
        | refine Go.exit ?_
        | refine Opl.val (op_move rfl) rfl ?_
        | refine Opl.val (op_assign rfl) rfl ?_
        | refine Opl.val (op_nilP rfl (by first | rfl | assumption | exact isP_padd (by assumption) _)) rfl ?_
        | refine Opl.val (op_fld2 rfl (by first | rfl | assumption)) rfl ?_
        | refine Opl.val (op_fld rfl (by first | rfl | assumption)) rfl ?_
        | refine Opl.val (op_load rfl (ld_one (Pt.at (by assumption) _ rfl))) rfl ?_
        | refine Opl.val (op_load rfl (ld_one (by assumption))) rfl ?_
        | refine Opl.val (op_int rfl rfl rfl rfl) rfl ?_
        | refine Opl.val (op_convI rfl) rfl ?_
        | refine Opl.val (op_un rfl rfl) rfl ?_
        | refine Opl.val (op_ext rfl rfl) rfl ?_
        | refine Opl.val (op_mk rfl) rfl ?_
        | refine Opl.val (op_fn rfl rfl) rfl ?_
        | refine Opl.val (op_lenS rfl rfl) rfl ?_
        | refine Opl.gno rfl rfl ?_
        | refine Opl.val (op_pickT rfl rfl) rfl ?_
        | refine Opl.val (op_pickF rfl rfl) rfl ?_
        | refine Go.drawId (by kernel_rfl) ?_
      exact At.fnr rfl rfl rfl rfl
  · by_cases ok1 : b1.length ≤ 99988
    · have hf1 : fileV 118 b1 = .tup [.str (fileOf 118 b1), .int .i64 0] := by unfold fileV; rw [if_pos ok1]
      rw [hf1] at hse1
      simp only [V.tup.injEq, List.cons.injEq, V.str.injEq, V.int.injEq, true_and, and_true] at hse1
      obtain ⟨rfl, rfl⟩ := hse1
      by_cases hL : 0 < (elems v3).length
      · obtain ⟨i, hi⟩ : ∃ i, i = w % (elems v3).length := ⟨_, rfl⟩
        have hil : i < (elems v3).length := by rw [hi]; exact Nat.mod_lt _ hL
        have hix : (elems v3)[i]? = some (elems v3)[i] := List.getElem?_eq_getElem hil
        obtain ⟨lt, tk, hvl⟩ := hv3.el hix
        obtain ⟨hcl, k, be, hbe, hbl⟩ := hpart1 i _ hix
        have hel : ∀ W, loadE Try.prog 29 (.cptr none (elems v3)[i].cells 0) W = some (.agg (elems v3)[i].cells) := fun W => ld_agg (Pt.cptr _ _ _) hcl
        have hf3 : fileV 118 be = .tup [.str (fileOf 118 be), .int .i64 0] := by unfold fileV; rw [if_pos (by omega)]
        have q3 : ∀ W, B W → CallTo Try.prog 20 [.agg (elems v3)[i].cells] W (fun v S' => v = .tup [.str (fileOf 118 be), .int .i64 0] ∧ B S') (fun _ _ => False) := fun W hW => (progValue hbe W).mono (fun v S' h => ⟨by rw [h.1, hf3], hBk hW h.2⟩) (fun _ _ h => h)
        have a1 : intOp .gtr .i64 ((elems v3).length : Int) 0 = some (.bool true) := gtr_yes (by omega)
        have a2 : intOp .rem .i64 (IntKind.wrap .i64 (w : Int)) ((elems v3).length : Int) = some (.int .i64 (i : Int)) := by rw [cw, rem_nat w _ (by omega), hi]
        have a3 : intOp .geq .i64 ((fileOf 118 be).length : Int) ((fileOf 118 b1).length : Int) = some (.bool false) := geq_no (by rw [fileOf_length, fileOf_length]; omega)
        repeat' first
          | exact hj _ _ ⟨⟨rfl, trivial⟩, by assumption⟩
          | refine Opl.val (op_load rfl (lL _ (by assumption))) rfl ?_
          | refine Opl.val (op_lenL rfl hv3.isL rfl) rfl ?_
          | refine Opl.val (op_int rfl rfl rfl (int_eql 0)) rfl ?_
          | refine Opl.val (op_int rfl rfl rfl (int_neq 0)) rfl ?_
          | refine Opl.val (op_int rfl rfl rfl a1) rfl ?_
          | refine Opl.val (op_int rfl rfl rfl a2) rfl ?_
          | refine Opl.val (op_int rfl rfl rfl a3) rfl ?_
          | refine Opl.gon (q := true) rfl rfl (fun _ => ?_) (fun h => by cases h)
          | refine Go.condT rfl ?_
          | refine Go.condF rfl ?_
          | refine Opl.val (op_ixaL (by exact (congrArg some hvl)) rfl hix) rfl ?_
          | refine Opl.val (op_load rfl (hel _)) rfl ?_
          | refine Opl.callv rfl (by kernel_rfl) (q3 _ (by assumption)) rfl (fun S4 k4 => ?_) (fun _ _ hf => hf.elim)
          | refine Opl.nil ?_
          | refine Go.seq ?_
          | refine Go.region ?_
          | refine At.seq ?_
          | refine At.seqx ?_
          | refine At.seqr ?_
          | refine At.seqp ?_
          | refine At.blkr ?_
          | refine At.blkp ?_
          | refine At.blkx ?_
          | refine At.blky rfl ?_
          | refine At.blk ?_
          | refine Go.block ?_
          | refine Go.ret ?_
          | refine Go.skip ?_
          | refine Go.exit ?_
          | refine Opl.val (op_move rfl) rfl ?_
          | refine Opl.val (op_assign rfl) rfl ?_
          | refine Opl.val (op_nilP rfl (by first | rfl | assumption | exact isP_padd (by assumption) _)) rfl ?_
          | refine Opl.val (op_fld2 rfl (by first | rfl | assumption)) rfl ?_
          | refine Opl.val (op_fld rfl (by first | rfl | assumption)) rfl ?_
          | refine Opl.val (op_load rfl (ld_one (Pt.at (by assumption) _ rfl))) rfl ?_
          | refine Opl.val (op_load rfl (ld_one (by assumption))) rfl ?_
          | refine Opl.val (op_int rfl rfl rfl rfl) rfl ?_
          | refine Opl.val (op_convI rfl) rfl ?_
          | refine Opl.val (op_un rfl rfl) rfl ?_
          | refine Opl.val (op_ext rfl rfl) rfl ?_
          | refine Opl.val (op_mk rfl) rfl ?_
          | refine Opl.val (op_fn rfl rfl) rfl ?_
          | refine Opl.val (op_lenS rfl rfl) rfl ?_
          | refine Opl.gno rfl rfl ?_
          | refine Opl.val (op_pickT rfl rfl) rfl ?_
          | refine Opl.val (op_pickF rfl rfl) rfl ?_
          | refine Go.drawId (by kernel_rfl) ?_
      · have a1 : intOp .gtr .i64 ((elems v3).length : Int) 0 = some (.bool false) := gtr_no (by omega)
        repeat' first
          | exact hj _ _ ⟨⟨rfl, trivial⟩, by assumption⟩
          | refine Opl.val (op_load rfl (lL _ (by assumption))) rfl ?_
          | refine Opl.val (op_lenL rfl hv3.isL rfl) rfl ?_
          | refine Opl.val (op_int rfl rfl rfl (int_eql 0)) rfl ?_
          | refine Opl.val (op_int rfl rfl rfl a1) rfl ?_
          | refine Opl.gon (q := true) rfl rfl (fun _ => ?_) (fun h => by cases h)
          | refine Go.condF rfl ?_
          | refine Opl.nil ?_
          | refine Go.seq ?_
          | refine Go.region ?_
          | refine At.seq ?_
          | refine At.seqx ?_
          | refine At.seqr ?_
          | refine At.seqp ?_
          | refine At.blkr ?_
          | refine At.blkp ?_
          | refine At.blkx ?_
          | refine At.blky rfl ?_
          | refine At.blk ?_
          | refine Go.block ?_
          | refine Go.ret ?_
          | refine Go.skip ?_
          | refine Go.exit ?_
          | refine Opl.val (op_move rfl) rfl ?_
          | refine Opl.val (op_assign rfl) rfl ?_
          | refine Opl.val (op_nilP rfl (by first | rfl | assumption | exact isP_padd (by assumption) _)) rfl ?_
          | refine Opl.val (op_fld2 rfl (by first | rfl | assumption)) rfl ?_
          | refine Opl.val (op_fld rfl (by first | rfl | assumption)) rfl ?_
          | refine Opl.val (op_load rfl (ld_one (Pt.at (by assumption) _ rfl))) rfl ?_
          | refine Opl.val (op_load rfl (ld_one (by assumption))) rfl ?_
          | refine Opl.val (op_int rfl rfl rfl rfl) rfl ?_
          | refine Opl.val (op_convI rfl) rfl ?_
          | refine Opl.val (op_un rfl rfl) rfl ?_
          | refine Opl.val (op_ext rfl rfl) rfl ?_
          | refine Opl.val (op_mk rfl) rfl ?_
          | refine Opl.val (op_fn rfl rfl) rfl ?_
          | refine Opl.val (op_lenS rfl rfl) rfl ?_
          | refine Opl.gno rfl rfl ?_
          | refine Opl.val (op_pickT rfl rfl) rfl ?_
          | refine Opl.val (op_pickF rfl rfl) rfl ?_
          | refine Go.drawId (by kernel_rfl) ?_
    · have hf1 : fileV 118 b1 = .tup [.str [], .int .i64 3] := by unfold fileV; rw [if_neg ok1]
      rw [hf1] at hse1
      simp only [V.tup.injEq, List.cons.injEq, V.str.injEq, V.int.injEq, true_and, and_true] at hse1
      obtain ⟨rfl, rfl⟩ := hse1
      repeat' first
        | exact hj _ _ ⟨⟨rfl, trivial⟩, by assumption⟩
        | refine Opl.val (op_int (v := .bool false) rfl rfl rfl rfl) rfl ?_
        | refine Go.condF rfl ?_
        | refine Opl.nil ?_
        | refine Go.seq ?_
        | refine Go.region ?_
        | refine At.seq ?_
        | refine At.seqx ?_
        | refine At.seqr ?_
        | refine At.seqp ?_
        | refine At.blkr ?_
        | refine At.blkp ?_
        | refine At.blkx ?_
        | refine At.blky rfl ?_
        | refine At.blk ?_
        | refine Go.block ?_
        | refine Go.ret ?_
        | refine Go.skip ?_
        | refine Go.exit ?_
        | refine Opl.val (op_move rfl) rfl ?_
        | refine Opl.val (op_assign rfl) rfl ?_
        | refine Opl.val (op_nilP rfl (by first | rfl | assumption | exact isP_padd (by assumption) _)) rfl ?_
        | refine Opl.val (op_fld2 rfl (by first | rfl | assumption)) rfl ?_
        | refine Opl.val (op_fld rfl (by first | rfl | assumption)) rfl ?_
        | refine Opl.val (op_load rfl (ld_one (Pt.at (by assumption) _ rfl))) rfl ?_
        | refine Opl.val (op_load rfl (ld_one (by assumption))) rfl ?_
        | refine Opl.val (op_int rfl rfl rfl rfl) rfl ?_
        | refine Opl.val (op_convI rfl) rfl ?_
        | refine Opl.val (op_un rfl rfl) rfl ?_
        | refine Opl.val (op_ext rfl rfl) rfl ?_
        | refine Opl.val (op_mk rfl) rfl ?_
        | refine Opl.val (op_fn rfl rfl) rfl ?_
        | refine Opl.val (op_lenS rfl rfl) rfl ?_
        | refine Opl.gno rfl rfl ?_
        | refine Opl.val (op_pickT rfl rfl) rfl ?_
        | refine Opl.val (op_pickF rfl rfl) rfl ?_
        | refine Go.drawId (by kernel_rfl) ?_

end Go.Proofs.Ytilldjgagokcfaa
