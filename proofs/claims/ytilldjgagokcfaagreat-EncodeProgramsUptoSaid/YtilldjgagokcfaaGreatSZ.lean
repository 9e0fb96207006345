/-
  EncodePrograms: what the law's function comes to.
-/
import Derived.Test.YtilldjgagokcfaaGreatR7
import Derived.Test.YtilldjgagokcfaaGreatR9
set_option linter.unusedVariables false
set_option linter.unusedSimpArgs false
namespace Go.Ev
open Go.RowKit

theorem fileV_tup (k : UInt8) (bs : List UInt8) : ∃ s e, fileV k bs = .tup [.str s, .int .i64 e] := by
  unfold fileV
  split <;> exact ⟨_, _, rfl⟩

theorem closedT_of {P : Program} {f : FuncId} (n : Nat) (h : boolOf (run P n (.call f []) S0) = some true) : ClosedT P f := by
  unfold boolOf at h
  split at h
  · rename_i b S' he
    cases h
    exact ⟨n, S', he⟩
  · cases h

theorem str_neq (s : List UInt8) : strOp .neq s s = some (.bool false) := by simp [strOp]
theorem str_eql (s : List UInt8) : strOp .eql s s = some (.bool true) := by simp [strOp]
theorem int_neq (e : Int) : intOp .neq .i64 e e = some (.bool false) := by simp [intOp]
theorem int_eql (e : Int) : intOp .eql .i64 e e = some (.bool true) := by simp [intOp]

end Go.Ev

namespace Go.Proofs.YtilldjgagokcfaaGreat
open Go.RowKit Go.Ev
set_option maxRecDepth 100000
set_option linter.unusedVariables false

theorem progProgram {d : Nat} {cs : List V} {bs : List UInt8} (he : EncF d (sch 14) cs bs) (S : St) : CallTo Tryz.prog 6 [.agg cs] S (fun v S' => v = fileV 112 bs ∧ KeepB S S' S.next) (fun _ _ => False) := by
  have hl : cs.length = 10 := by simpa [sch, szs] using he.len
  obtain ⟨s, e, hse⟩ := fileV_tup 112 bs
  obtain ⟨S1, hS1⟩ : ∃ S1, S1 = S.new (.box 32 cs) := ⟨_, rfl⟩
  have hs1 : Same S S1 := by rw [hS1]; exact Same.new _ _
  have hx : S1.h.find S.next = some (.box 32 cs) := by rw [hS1]; simp [St.new, Tr.find_put]
  have hld : loadE Tryz.prog 32 (.ptr S.next 0) S1 = some (.agg cs) := ld_agg ⟨_, _, hx, fun i v h => by simpa using h⟩ hl
  have hw : CallTo Tryz.prog 25 [.agg cs, .int .u8 112, .func 26 [] []] S1 (fun v S' => v = .tup [.str s, .int .i64 e] ∧ KeepB S1 S' S1.next) (fun _ _ => False) := by
    rw [← hse]; exact write32 he 112 S1
  refine CallTo.of (n := 8) Tryz.func6 rfl rfl ?_
  repeat' first
    | refine Opl.val (op_box rfl) rfl (Opl.cast (S' := S1) ?_ hS1)
    | refine Opl.val (op_load rfl hld) rfl ?_
    | refine Opl.callv rfl (by kernel_rfl) hw rfl (fun S2 k2 => ?_) (fun _ _ hf => hf.elim)
    | refine Opl.nil ?_
    | refine Go.seq ?_
    | refine Go.region ?_
    | refine At.seq ?_
    | refine At.seqx ?_
    | refine At.seqr ?_
    | refine At.seqp ?_
    | refine At.blkr ?_
    | refine At.blkp ?_
    | refine At.blkx ?_
    | refine At.blky rfl ?_
    | refine At.blk ?_
    | refine Go.block ?_
    | refine Go.ret ?_
    | refine Go.skip ?_
    | refine Go.exit ?_
    | refine Opl.val (op_move rfl) rfl ?_
    | refine Opl.val (op_assign rfl) rfl ?_
    | refine Opl.val (op_nilP rfl (by first | rfl | assumption | exact isP_padd (by assumption) _)) rfl ?_
    | refine Opl.val (op_fld2 rfl (by first | rfl | assumption)) rfl ?_
    | refine Opl.val (op_fld rfl (by first | rfl | assumption)) rfl ?_
    | refine Opl.val (op_load rfl (ld_one (Pt.at (by assumption) _ rfl))) rfl ?_
    | refine Opl.val (op_load rfl (ld_one (by assumption))) rfl ?_
    | refine Opl.val (op_int rfl rfl rfl rfl) rfl ?_
    | refine Opl.val (op_convI rfl) rfl ?_
    | refine Opl.val (op_un rfl rfl) rfl ?_
    | refine Opl.val (op_ext rfl rfl) rfl ?_
    | refine Opl.val (op_mk rfl) rfl ?_
    | refine Opl.val (op_fn rfl rfl) rfl ?_
    | refine Opl.val (op_lenS rfl rfl) rfl ?_
    | refine Opl.gno rfl rfl ?_
    | refine Opl.val (op_pickT rfl rfl) rfl ?_
    | refine Opl.val (op_pickF rfl rfl) rfl ?_
    | refine Go.drawId (by kernel_rfl) ?_
  exact At.fnr rfl rfl rfl ⟨hse.symm, (hs1.keepB _).trans (k2.any (Nat.le_refl _) _)⟩

theorem refProgram {d : Nat} {cs : List V} {bs : List UInt8} (he : EncF d (sch 14) cs bs) (hB : bs.length ≤ most) (S : St) : CallTo Tryz.prog 7 [.agg cs] S (fun v S' => v = fileV 112 bs ∧ KeepB S S' S.next) (fun _ _ => False) := by
  have hl : cs.length = 10 := by simpa [sch, szs] using he.len
  obtain ⟨s, e, hse⟩ := fileV_tup 112 bs
  obtain ⟨S1, hS1⟩ : ∃ S1, S1 = S.new (.box 32 cs) := ⟨_, rfl⟩
  have hs1 : Same S S1 := by rw [hS1]; exact Same.new _ _
  have hx : S1.h.find S.next = some (.box 32 cs) := by rw [hS1]; simp [St.new, Tr.find_put]
  have hn1 : S1.next = S.next + 1 := by rw [hS1]; rfl
  obtain ⟨S2, hS2⟩ : ∃ S2, S2 = S1.new (.box 75 [.nils]) := ⟨_, rfl⟩
  have hs2 : Same S1 S2 := by rw [hS2]; exact Same.new _ _
  have hx2 : S2.h.find S.next = some (.box 32 cs) := by rw [hs2.find _ (by omega)]; exact hx
  have hc2 : S2.h.find (S.next + 1) = some (.box 75 [.nils]) := by rw [hS2, ← hn1]; simp [St.new, Tr.find_put]
  have hn2 : S2.next = S.next + 2 := by rw [hS2]; show S1.next + 1 = _; omega
  have hr : RefW S2 (S.next + 1) [] := ⟨by omega, .nils, hc2, .inl ⟨rfl, rfl⟩⟩
  have hld : loadE Tryz.prog 32 (.ptr S.next 0) S2 = some (.agg cs) := ld_agg ⟨_, _, hx2, fun i v h => by simpa using h⟩ hl
  have hb0 : buildE Tryz.prog 75 [] = some (.agg [.nils]) := by kernel_rfl
  have hw := (rprogram he) [] hr (by simpa using hB)
  have hp1 : V.ptr S1.next 0 = .ptr (S.next + 1) 0 := by rw [hn1]
  refine CallTo.of (n := 14) Tryz.func7 rfl rfl ?_
  repeat' first
    | refine Opl.val (op_box rfl) rfl (Opl.cast (S' := S1) ?_ hS1)
    | refine Opl.val (op_build0 hb0) rfl ?_
    | (refine Opl.val (op_box rfl) rfl (Opl.cast (S' := S2) ?_ hS2); rw [hp1])
    | refine Opl.val (op_load rfl hld) rfl ?_
    | refine Opl.call rfl (by kernel_rfl) hw rfl (fun v S3 w3 => ?_) (fun _ _ hf => hf.elim)
    | refine Opl.nil ?_
    | refine Go.seq ?_
    | refine Go.region ?_
    | refine At.seq ?_
    | refine At.seqx ?_
    | refine At.seqr ?_
    | refine At.seqp ?_
    | refine At.blkr ?_
    | refine At.blkp ?_
    | refine At.blkx ?_
    | refine At.blky rfl ?_
    | refine At.blk ?_
    | refine Go.block ?_
    | refine Go.ret ?_
    | refine Go.skip ?_
    | refine Go.exit ?_
    | refine Opl.val (op_move rfl) rfl ?_
    | refine Opl.val (op_assign rfl) rfl ?_
    | refine Opl.val (op_nilP rfl (by first | rfl | assumption | exact isP_padd (by assumption) _)) rfl ?_
    | refine Opl.val (op_fld2 rfl (by first | rfl | assumption)) rfl ?_
    | refine Opl.val (op_fld rfl (by first | rfl | assumption)) rfl ?_
    | refine Opl.val (op_load rfl (ld_one (Pt.at (by assumption) _ rfl))) rfl ?_
    | refine Opl.val (op_load rfl (ld_one (by assumption))) rfl ?_
    | refine Opl.val (op_int rfl rfl rfl rfl) rfl ?_
    | refine Opl.val (op_convI rfl) rfl ?_
    | refine Opl.val (op_un rfl rfl) rfl ?_
    | refine Opl.val (op_ext rfl rfl) rfl ?_
    | refine Opl.val (op_mk rfl) rfl ?_
    | refine Opl.val (op_fn rfl rfl) rfl ?_
    | refine Opl.val (op_lenS rfl rfl) rfl ?_
    | refine Opl.gno rfl rfl ?_
    | refine Opl.val (op_pickT rfl rfl) rfl ?_
    | refine Opl.val (op_pickF rfl rfl) rfl ?_
    | refine Go.drawId (by kernel_rfl) ?_
  obtain ⟨k3, buf3, h3, hl3, ho3⟩ := w3
  simp only [List.length_nil, Nat.zero_add, List.nil_append] at hl3 ho3
  have hf : CallTo Tryz.prog 28 [.ptr (S.next + 1) 0, .int .u8 112] S3 (fun v S' => v = .tup [.str s, .int .i64 e] ∧ S3 = S') (fun _ _ => False) := by
    rw [← hse, ← fileR_eq hl3 ho3]
    exact (rfile 112 h3 (by omega)).mono (fun _ _ h => ⟨h.1, h.2.symm⟩) (fun _ _ h => h)
  repeat' first
    | (refine Opl.callv rfl (by kernel_rfl) hf rfl (fun S4 k4 => ?_) (fun _ _ hf => hf.elim); subst k4)
    | refine Opl.nil ?_
    | refine Go.seq ?_
    | refine Go.region ?_
    | refine At.seq ?_
    | refine At.seqx ?_
    | refine At.seqr ?_
    | refine At.seqp ?_
    | refine At.blkr ?_
    | refine At.blkp ?_
    | refine At.blkx ?_
    | refine At.blky rfl ?_
    | refine At.blk ?_
    | refine Go.block ?_
    | refine Go.ret ?_
    | refine Go.skip ?_
    | refine Go.exit ?_
    | refine Opl.val (op_move rfl) rfl ?_
    | refine Opl.val (op_assign rfl) rfl ?_
    | refine Opl.val (op_nilP rfl (by first | rfl | assumption | exact isP_padd (by assumption) _)) rfl ?_
    | refine Opl.val (op_fld2 rfl (by first | rfl | assumption)) rfl ?_
    | refine Opl.val (op_fld rfl (by first | rfl | assumption)) rfl ?_
    | refine Opl.val (op_load rfl (ld_one (Pt.at (by assumption) _ rfl))) rfl ?_
    | refine Opl.val (op_load rfl (ld_one (by assumption))) rfl ?_
    | refine Opl.val (op_int rfl rfl rfl rfl) rfl ?_
    | refine Opl.val (op_convI rfl) rfl ?_
    | refine Opl.val (op_un rfl rfl) rfl ?_
    | refine Opl.val (op_ext rfl rfl) rfl ?_
    | refine Opl.val (op_mk rfl) rfl ?_
    | refine Opl.val (op_fn rfl rfl) rfl ?_
    | refine Opl.val (op_lenS rfl rfl) rfl ?_
    | refine Opl.gno rfl rfl ?_
    | refine Opl.val (op_pickT rfl rfl) rfl ?_
    | refine Opl.val (op_pickF rfl rfl) rfl ?_
    | refine Go.drawId (by kernel_rfl) ?_
  refine At.fnr rfl rfl rfl ⟨hse.symm, ?_⟩
  exact (((hs1.trans hs2).keepB (S.next + 1)).trans k3).any (by omega) _

theorem progCode {d : Nat} {cs : List V} {bs : List UInt8} (he : EncF d (sch 15) cs bs) (S : St) : CallTo Tryz.prog 8 [.agg cs] S (fun v S' => v = fileV 99 bs ∧ KeepB S S' S.next) (fun _ _ => False) := by
  have hl : cs.length = 3 := by simpa [sch, szs] using he.len
  obtain ⟨s, e, hse⟩ := fileV_tup 99 bs
  obtain ⟨S1, hS1⟩ : ∃ S1, S1 = S.new (.box 35 cs) := ⟨_, rfl⟩
  have hs1 : Same S S1 := by rw [hS1]; exact Same.new _ _
  have hx : S1.h.find S.next = some (.box 35 cs) := by rw [hS1]; simp [St.new, Tr.find_put]
  have hld : loadE Tryz.prog 35 (.ptr S.next 0) S1 = some (.agg cs) := ld_agg ⟨_, _, hx, fun i v h => by simpa using h⟩ hl
  have hw : CallTo Tryz.prog 29 [.agg cs, .int .u8 99, .func 30 [] []] S1 (fun v S' => v = .tup [.str s, .int .i64 e] ∧ KeepB S1 S' S1.next) (fun _ _ => False) := by
    rw [← hse]; exact write35 he 99 S1
  refine CallTo.of (n := 8) Tryz.func8 rfl rfl ?_
  repeat' first
    | refine Opl.val (op_box rfl) rfl (Opl.cast (S' := S1) ?_ hS1)
    | refine Opl.val (op_load rfl hld) rfl ?_
    | refine Opl.callv rfl (by kernel_rfl) hw rfl (fun S2 k2 => ?_) (fun _ _ hf => hf.elim)
    | refine Opl.nil ?_
    | refine Go.seq ?_
    | refine Go.region ?_
    | refine At.seq ?_
    | refine At.seqx ?_
    | refine At.seqr ?_
    | refine At.seqp ?_
    | refine At.blkr ?_
    | refine At.blkp ?_
    | refine At.blkx ?_
    | refine At.blky rfl ?_
    | refine At.blk ?_
    | refine Go.block ?_
    | refine Go.ret ?_
    | refine Go.skip ?_
    | refine Go.exit ?_
    | refine Opl.val (op_move rfl) rfl ?_
    | refine Opl.val (op_assign rfl) rfl ?_
    | refine Opl.val (op_nilP rfl (by first | rfl | assumption | exact isP_padd (by assumption) _)) rfl ?_
    | refine Opl.val (op_fld2 rfl (by first | rfl | assumption)) rfl ?_
    | refine Opl.val (op_fld rfl (by first | rfl | assumption)) rfl ?_
    | refine Opl.val (op_load rfl (ld_one (Pt.at (by assumption) _ rfl))) rfl ?_
    | refine Opl.val (op_load rfl (ld_one (by assumption))) rfl ?_
    | refine Opl.val (op_int rfl rfl rfl rfl) rfl ?_
    | refine Opl.val (op_convI rfl) rfl ?_
    | refine Opl.val (op_un rfl rfl) rfl ?_
    | refine Opl.val (op_ext rfl rfl) rfl ?_
    | refine Opl.val (op_mk rfl) rfl ?_
    | refine Opl.val (op_fn rfl rfl) rfl ?_
    | refine Opl.val (op_lenS rfl rfl) rfl ?_
    | refine Opl.gno rfl rfl ?_
    | refine Opl.val (op_pickT rfl rfl) rfl ?_
    | refine Opl.val (op_pickF rfl rfl) rfl ?_
    | refine Go.drawId (by kernel_rfl) ?_
  exact At.fnr rfl rfl rfl ⟨hse.symm, (hs1.keepB _).trans (k2.any (Nat.le_refl _) _)⟩

theorem refCode {d : Nat} {cs : List V} {bs : List UInt8} (he : EncF d (sch 15) cs bs) (hB : bs.length ≤ most) (S : St) : CallTo Tryz.prog 9 [.agg cs] S (fun v S' => v = fileV 99 bs ∧ KeepB S S' S.next) (fun _ _ => False) := by
  have hl : cs.length = 3 := by simpa [sch, szs] using he.len
  obtain ⟨s, e, hse⟩ := fileV_tup 99 bs
  obtain ⟨S1, hS1⟩ : ∃ S1, S1 = S.new (.box 35 cs) := ⟨_, rfl⟩
  have hs1 : Same S S1 := by rw [hS1]; exact Same.new _ _
  have hx : S1.h.find S.next = some (.box 35 cs) := by rw [hS1]; simp [St.new, Tr.find_put]
  have hn1 : S1.next = S.next + 1 := by rw [hS1]; rfl
  obtain ⟨S2, hS2⟩ : ∃ S2, S2 = S1.new (.box 75 [.nils]) := ⟨_, rfl⟩
  have hs2 : Same S1 S2 := by rw [hS2]; exact Same.new _ _
  have hx2 : S2.h.find S.next = some (.box 35 cs) := by rw [hs2.find _ (by omega)]; exact hx
  have hc2 : S2.h.find (S.next + 1) = some (.box 75 [.nils]) := by rw [hS2, ← hn1]; simp [St.new, Tr.find_put]
  have hn2 : S2.next = S.next + 2 := by rw [hS2]; show S1.next + 1 = _; omega
  have hr : RefW S2 (S.next + 1) [] := ⟨by omega, .nils, hc2, .inl ⟨rfl, rfl⟩⟩
  have hld : loadE Tryz.prog 35 (.ptr S.next 0) S2 = some (.agg cs) := ld_agg ⟨_, _, hx2, fun i v h => by simpa using h⟩ hl
  have hb0 : buildE Tryz.prog 75 [] = some (.agg [.nils]) := by kernel_rfl
  have hw := (rcode he) [] hr (by simpa using hB)
  have hp1 : V.ptr S1.next 0 = .ptr (S.next + 1) 0 := by rw [hn1]
  refine CallTo.of (n := 14) Tryz.func9 rfl rfl ?_
  repeat' first
    | refine Opl.val (op_box rfl) rfl (Opl.cast (S' := S1) ?_ hS1)
    | refine Opl.val (op_build0 hb0) rfl ?_
    | (refine Opl.val (op_box rfl) rfl (Opl.cast (S' := S2) ?_ hS2); rw [hp1])
    | refine Opl.val (op_load rfl hld) rfl ?_
    | refine Opl.call rfl (by kernel_rfl) hw rfl (fun v S3 w3 => ?_) (fun _ _ hf => hf.elim)
    | refine Opl.nil ?_
    | refine Go.seq ?_
    | refine Go.region ?_
    | refine At.seq ?_
    | refine At.seqx ?_
    | refine At.seqr ?_
    | refine At.seqp ?_
    | refine At.blkr ?_
    | refine At.blkp ?_
    | refine At.blkx ?_
    | refine At.blky rfl ?_
    | refine At.blk ?_
    | refine Go.block ?_
    | refine Go.ret ?_
    | refine Go.skip ?_
    | refine Go.exit ?_
    | refine Opl.val (op_move rfl) rfl ?_
    | refine Opl.val (op_assign rfl) rfl ?_
    | refine Opl.val (op_nilP rfl (by first | rfl | assumption | exact isP_padd (by assumption) _)) rfl ?_
    | refine Opl.val (op_fld2 rfl (by first | rfl | assumption)) rfl ?_
    | refine Opl.val (op_fld rfl (by first | rfl | assumption)) rfl ?_
    | refine Opl.val (op_load rfl (ld_one (Pt.at (by assumption) _ rfl))) rfl ?_
    | refine Opl.val (op_load rfl (ld_one (by assumption))) rfl ?_
    | refine Opl.val (op_int rfl rfl rfl rfl) rfl ?_
    | refine Opl.val (op_convI rfl) rfl ?_
    | refine Opl.val (op_un rfl rfl) rfl ?_
    | refine Opl.val (op_ext rfl rfl) rfl ?_
    | refine Opl.val (op_mk rfl) rfl ?_
    | refine Opl.val (op_fn rfl rfl) rfl ?_
    | refine Opl.val (op_lenS rfl rfl) rfl ?_
    | refine Opl.gno rfl rfl ?_
    | refine Opl.val (op_pickT rfl rfl) rfl ?_
    | refine Opl.val (op_pickF rfl rfl) rfl ?_
    | refine Go.drawId (by kernel_rfl) ?_
  obtain ⟨k3, buf3, h3, hl3, ho3⟩ := w3
  simp only [List.length_nil, Nat.zero_add, List.nil_append] at hl3 ho3
  have hf : CallTo Tryz.prog 28 [.ptr (S.next + 1) 0, .int .u8 99] S3 (fun v S' => v = .tup [.str s, .int .i64 e] ∧ S3 = S') (fun _ _ => False) := by
    rw [← hse, ← fileR_eq hl3 ho3]
    exact (rfile 99 h3 (by omega)).mono (fun _ _ h => ⟨h.1, h.2.symm⟩) (fun _ _ h => h)
  repeat' first
    | (refine Opl.callv rfl (by kernel_rfl) hf rfl (fun S4 k4 => ?_) (fun _ _ hf => hf.elim); subst k4)
    | refine Opl.nil ?_
    | refine Go.seq ?_
    | refine Go.region ?_
    | refine At.seq ?_
    | refine At.seqx ?_
    | refine At.seqr ?_
    | refine At.seqp ?_
    | refine At.blkr ?_
    | refine At.blkp ?_
    | refine At.blkx ?_
    | refine At.blky rfl ?_
    | refine At.blk ?_
    | refine Go.block ?_
    | refine Go.ret ?_
    | refine Go.skip ?_
    | refine Go.exit ?_
    | refine Opl.val (op_move rfl) rfl ?_
    | refine Opl.val (op_assign rfl) rfl ?_
    | refine Opl.val (op_nilP rfl (by first | rfl | assumption | exact isP_padd (by assumption) _)) rfl ?_
    | refine Opl.val (op_fld2 rfl (by first | rfl | assumption)) rfl ?_
    | refine Opl.val (op_fld rfl (by first | rfl | assumption)) rfl ?_
    | refine Opl.val (op_load rfl (ld_one (Pt.at (by assumption) _ rfl))) rfl ?_
    | refine Opl.val (op_load rfl (ld_one (by assumption))) rfl ?_
    | refine Opl.val (op_int rfl rfl rfl rfl) rfl ?_
    | refine Opl.val (op_convI rfl) rfl ?_
    | refine Opl.val (op_un rfl rfl) rfl ?_
    | refine Opl.val (op_ext rfl rfl) rfl ?_
    | refine Opl.val (op_mk rfl) rfl ?_
    | refine Opl.val (op_fn rfl rfl) rfl ?_
    | refine Opl.val (op_lenS rfl rfl) rfl ?_
    | refine Opl.gno rfl rfl ?_
    | refine Opl.val (op_pickT rfl rfl) rfl ?_
    | refine Opl.val (op_pickF rfl rfl) rfl ?_
    | refine Go.drawId (by kernel_rfl) ?_
  refine At.fnr rfl rfl rfl ⟨hse.symm, ?_⟩
  exact (((hs1.trans hs2).keepB (S.next + 1)).trans k3).any (by omega) _

theorem awakeT : ClosedT Tryz.prog 10 := closedT_of 2000 (by kernel_rfl)

theorem programs {d1 d2 : Nat} {c1 c2 : List V} {b1 b2 : List UInt8} (h1 : EncF d1 (sch 14) c1 b1) (h2 : EncF d2 (sch 15) c2 b2) (hB1 : b1.length ≤ most) (hB2 : b2.length ≤ most) (S : St) :
    CallTo Tryz.prog 3 [.agg c1, .agg c2] S (fun v _ => v = .bool true) (fun _ _ => False) := by
  have hl1 : c1.length = 10 := by simpa [sch, szs] using h1.len
  have hl2 : c2.length = 3 := by simpa [sch, szs] using h2.len
  obtain ⟨s1, e1, hse1⟩ := fileV_tup 112 b1
  obtain ⟨s2, e2, hse2⟩ := fileV_tup 99 b2
  obtain ⟨U, hU⟩ : ∃ U, U = (S.new (.box 32 c1)).new (.box 35 c2) := ⟨_, rfl⟩
  obtain ⟨B, hBdef⟩ : ∃ B : St → Prop, B = fun W => W.h.find S.next = some (.box 32 c1) ∧ W.h.find (S.next + 1) = some (.box 35 c2) ∧ S.next + 2 ≤ W.next := ⟨_, rfl⟩
  have hBU : B U := by
    rw [hBdef, hU]
    refine ⟨?_, by simp [St.new, Tr.find_put], by simp [St.new]⟩
    simp only [St.new, Tr.find_put]
    simp only [if_neg (show ¬ S.next = S.next + 1 by omega), if_true]
  have hBk : ∀ {W W' : St}, B W → KeepB W W' W.next → B W' := by
    rw [hBdef]
    rintro W W' ⟨x1, x2, x3⟩ k
    exact ⟨k.box _ _ _ (by omega) (by omega) x1, k.box _ _ _ (by omega) (by omega) x2, Nat.le_trans x3 k.next⟩
  have ld1 : ∀ W, B W → loadE Tryz.prog 32 (.ptr S.next 0) W = some (.agg c1) := by
    rw [hBdef]
    exact fun W hW => ld_agg ⟨_, _, hW.1, fun i v h => by simpa using h⟩ hl1
  have ld2 : ∀ W, B W → loadE Tryz.prog 35 (.ptr (S.next + 1) 0) W = some (.agg c2) := by
    rw [hBdef]
    exact fun W hW => ld_agg ⟨_, _, hW.2.1, fun i v h => by simpa using h⟩ hl2
  have q1 : ∀ W, B W → CallTo Tryz.prog 6 [.agg c1] W (fun v S' => v = .tup [.str s1, .int .i64 e1] ∧ B S') (fun _ _ => False) := fun W hW => (progProgram h1 W).mono (fun v S' h => ⟨by rw [h.1, hse1], hBk hW h.2⟩) (fun _ _ h => h)
  have q2 : ∀ W, B W → CallTo Tryz.prog 7 [.agg c1] W (fun v S' => v = .tup [.str s1, .int .i64 e1] ∧ B S') (fun _ _ => False) := fun W hW => (refProgram h1 hB1 W).mono (fun v S' h => ⟨by rw [h.1, hse1], hBk hW h.2⟩) (fun _ _ h => h)
  have q3 : ∀ W, B W → CallTo Tryz.prog 8 [.agg c2] W (fun v S' => v = .tup [.str s2, .int .i64 e2] ∧ B S') (fun _ _ => False) := fun W hW => (progCode h2 W).mono (fun v S' h => ⟨by rw [h.1, hse2], hBk hW h.2⟩) (fun _ _ h => h)
  have q4 : ∀ W, B W → CallTo Tryz.prog 9 [.agg c2] W (fun v S' => v = .tup [.str s2, .int .i64 e2] ∧ B S') (fun _ _ => False) := fun W hW => (refCode h2 hB2 W).mono (fun v S' h => ⟨by rw [h.1, hse2], hBk hW h.2⟩) (fun _ _ h => h)
  refine CallTo.of (n := 48) Tryz.func3 rfl rfl ?_
  repeat' first
    | refine Opl.val (op_box rfl) rfl (Opl.cast (S' := U) ?_ hU)
    | refine Opl.val (op_box rfl) rfl ?_
    | refine Opl.val (op_load rfl (ld1 _ (by assumption))) rfl ?_
    | refine Opl.val (op_load rfl (ld2 _ (by assumption))) rfl ?_
    | refine Opl.callv rfl (by kernel_rfl) (q1 _ (by assumption)) rfl (fun S3 k3 => ?_) (fun _ _ hf => hf.elim)
    | refine Opl.callv rfl (by kernel_rfl) (q2 _ (by assumption)) rfl (fun S4 k4 => ?_) (fun _ _ hf => hf.elim)
    | refine Opl.callv rfl (by kernel_rfl) (q3 _ (by assumption)) rfl (fun S5 k5 => ?_) (fun _ _ hf => hf.elim)
    | refine Opl.callv rfl (by kernel_rfl) (q4 _ (by assumption)) rfl (fun S6 k6 => ?_) (fun _ _ hf => hf.elim)
    | refine Opl.val (op_str rfl rfl (str_neq _)) rfl ?_
    | refine Opl.val (op_str rfl rfl (str_eql _)) rfl ?_
    | refine Opl.val (op_int rfl rfl rfl (int_neq _)) rfl ?_
    | refine Opl.val (op_int rfl rfl rfl (int_eql _)) rfl ?_
    | refine Opl.gon (q := true) rfl rfl (fun _ => ?_) (fun h => by cases h)
    | refine Opl.callr rfl (by kernel_rfl) (lim_closed awakeT _) rfl ?_
    | refine Go.condF rfl ?_
    | refine Opl.nil ?_
    | refine Go.seq ?_
    | refine Go.region ?_
    | refine At.seq ?_
    | refine At.seqx ?_
    | refine At.seqr ?_
    | refine At.seqp ?_
    | refine At.blkr ?_
    | refine At.blkp ?_
    | refine At.blkx ?_
    | refine At.blky rfl ?_
    | refine At.blk ?_
    | refine Go.block ?_
    | refine Go.ret ?_
    | refine Go.skip ?_
    | refine Go.exit ?_
    | refine Opl.val (op_move rfl) rfl ?_
    | refine Opl.val (op_assign rfl) rfl ?_
    | refine Opl.val (op_nilP rfl (by first | rfl | assumption | exact isP_padd (by assumption) _)) rfl ?_
    | refine Opl.val (op_fld2 rfl (by first | rfl | assumption)) rfl ?_
    | refine Opl.val (op_fld rfl (by first | rfl | assumption)) rfl ?_
    | refine Opl.val (op_load rfl (ld_one (Pt.at (by assumption) _ rfl))) rfl ?_
    | refine Opl.val (op_load rfl (ld_one (by assumption))) rfl ?_
    | refine Opl.val (op_int rfl rfl rfl rfl) rfl ?_
    | refine Opl.val (op_convI rfl) rfl ?_
    | refine Opl.val (op_un rfl rfl) rfl ?_
    | refine Opl.val (op_ext rfl rfl) rfl ?_
    | refine Opl.val (op_mk rfl) rfl ?_
    | refine Opl.val (op_fn rfl rfl) rfl ?_
    | refine Opl.val (op_lenS rfl rfl) rfl ?_
    | refine Opl.gno rfl rfl ?_
    | refine Opl.val (op_pickT rfl rfl) rfl ?_
    | refine Opl.val (op_pickF rfl rfl) rfl ?_
    | refine Go.drawId (by kernel_rfl) ?_
  exact At.fnr rfl rfl rfl rfl

end Go.Proofs.YtilldjgagokcfaaGreat
