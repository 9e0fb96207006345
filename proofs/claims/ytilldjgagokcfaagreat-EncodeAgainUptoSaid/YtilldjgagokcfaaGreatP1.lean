/-
  What the program writes of a struct.
-/
import Derived.Test.YtilldjgagokcfaaGreatW9
import Derived.Test.YtilldjgagokcfaaGreatE9
set_option linter.unusedVariables false
set_option linter.unusedSimpArgs false
namespace Go.Ev
open Go.RowKit

theorem fileV_tup (k : UInt8) (bs : List UInt8) : ∃ s e, fileV k bs = .tup [.str s, .int .i64 e] := by
  unfold fileV
  split <;> exact ⟨_, _, rfl⟩

theorem closedT_of {P : Program} {f : FuncId} (n : Nat) (h : boolOf (run P n (.call f []) S0) = some true) : ClosedT P f := by
  unfold boolOf at h
  split at h
  · rename_i b S' he
    cases h
    exact ⟨n, S', he⟩
  · cases h

theorem str_neq (s : List UInt8) : strOp .neq s s = some (.bool false) := by simp [strOp]
theorem str_eql (s : List UInt8) : strOp .eql s s = some (.bool true) := by simp [strOp]
theorem int_neq (e : Int) : intOp .neq .i64 e e = some (.bool false) := by simp [intOp]
theorem int_eql (e : Int) : intOp .eql .i64 e e = some (.bool true) := by simp [intOp]

theorem EncF.len' : ∀ {d : Nat} {fs : List Fd} {cs : List V} {bs : List UInt8}, EncF d fs cs bs → cs.length = (fs.map fun f => match f with | .sub t => szs t | _ => 1).sum
  | _, _, _, _, .nil _ => rfl
  | _, _, _, _, .int _ h => by simp [EncF.len' h]; omega
  | _, _, _, _, .str _ h => by simp [EncF.len' h]; omega
  | _, _, _, _, .bool h => by simp [EncF.len' h]; omega
  | _, _, _, _, .list _ _ _ h => by simp [EncF.len' h]; omega
  | _, _, _, _, .sub _ hc h => by simp [EncF.len' h, hc]

theorem sch_szs : ∀ t, ((sch t).map fun f => match f with | .sub t => szs t | _ => 1).sum = szs t
  | 0 => rfl
  | 1 => rfl
  | 2 => rfl
  | 3 => rfl
  | 4 => rfl
  | 5 => rfl
  | 6 => rfl
  | 7 => rfl
  | 8 => rfl
  | 9 => rfl
  | 10 => rfl
  | 11 => rfl
  | 12 => rfl
  | 13 => rfl
  | 14 => rfl
  | 15 => rfl
  | 16 => rfl
  | 17 => rfl
  | 18 => rfl
  | 19 => rfl
  | 20 => rfl
  | _ + 21 => rfl

theorem Enc.len (t : Nat) {cs : List V} {bs : List UInt8} (h : Enc (sch t) cs bs) : cs.length = szs t := by
  obtain ⟨d, h⟩ := h
  rw [h.len', sch_szs]

end Go.Ev

namespace Go.Proofs.YtilldjgagokcfaaGreat
open Go.RowKit Go.Ev
set_option maxRecDepth 100000
set_option linter.unusedVariables false

theorem progValue {d : Nat} {cs : List V} {bs : List UInt8} (he : EncF d (sch 2) cs bs) (S : St) : CallTo Tryz.prog 24 [.agg cs] S (fun v S' => v = fileV 118 bs ∧ KeepB S S' S.next) (fun _ _ => False) := by
  have hl : cs.length = 5 := (Enc.len 2 ⟨d, he⟩)
  obtain ⟨s, e, hse⟩ := fileV_tup 118 bs
  obtain ⟨S1, hS1⟩ : ∃ S1, S1 = S.new (.box 62 cs) := ⟨_, rfl⟩
  have hs1 : Same S S1 := by rw [hS1]; exact Same.new _ _
  have hx : S1.h.find S.next = some (.box 62 cs) := by rw [hS1]; simp [St.new, Tr.find_put]
  have hld : loadE Tryz.prog 62 (.ptr S.next 0) S1 = some (.agg cs) := ld_agg ⟨_, _, hx, fun i v h => by simpa using h⟩ hl
  have hw : CallTo Tryz.prog 52 [.agg cs, .int .u8 118, .func 48 [] []] S1 (fun v S' => v = .tup [.str s, .int .i64 e] ∧ KeepB S1 S' S1.next) (fun _ _ => False) := by
    rw [← hse]; exact write62 he 118 S1
  refine CallTo.of (n := 8) Tryz.func24 rfl rfl ?_
  repeat' first
   | refine Opl.val (op_box rfl) rfl (Opl.cast (S' := S1) ?_ hS1)
   | refine Opl.val (op_load rfl hld) rfl ?_
   | refine Opl.callv rfl (by kernel_rfl) hw rfl (fun S2 k2 => ?_) (fun _ _ hf => hf.elim)
   | refine .std ?_ | refine .nil ?_ | refine .seq ?_ | refine .region ?_ | refine .xs ?_ | refine .kb ?_ | refine .leaf ?_ | refine .block ?_ | refine .gn ?_ | refine .dr ?_ | fail
  exact At.fnr rfl rfl rfl ⟨hse.symm, (hs1.keepB _).trans (k2.any (Nat.le_refl _) _)⟩

theorem progState {d : Nat} {cs : List V} {bs : List UInt8} (he : EncF d (sch 20) cs bs) (S : St) : CallTo Tryz.prog 23 [.agg cs] S (fun v S' => v = fileV 115 bs ∧ KeepB S S' S.next) (fun _ _ => False) := by
  have hl : cs.length = 10 := (Enc.len 20 ⟨d, he⟩)
  obtain ⟨s, e, hse⟩ := fileV_tup 115 bs
  obtain ⟨S1, hS1⟩ : ∃ S1, S1 = S.new (.box 55 cs) := ⟨_, rfl⟩
  have hs1 : Same S S1 := by rw [hS1]; exact Same.new _ _
  have hx : S1.h.find S.next = some (.box 55 cs) := by rw [hS1]; simp [St.new, Tr.find_put]
  have hld : loadE Tryz.prog 55 (.ptr S.next 0) S1 = some (.agg cs) := ld_agg ⟨_, _, hx, fun i v h => by simpa using h⟩ hl
  have hw : CallTo Tryz.prog 51 [.agg cs, .int .u8 115, .func 44 [] []] S1 (fun v S' => v = .tup [.str s, .int .i64 e] ∧ KeepB S1 S' S1.next) (fun _ _ => False) := by
    rw [← hse]; exact write55 he 115 S1
  refine CallTo.of (n := 8) Tryz.func23 rfl rfl ?_
  repeat' first
   | refine Opl.val (op_box rfl) rfl (Opl.cast (S' := S1) ?_ hS1)
   | refine Opl.val (op_load rfl hld) rfl ?_
   | refine Opl.callv rfl (by kernel_rfl) hw rfl (fun S2 k2 => ?_) (fun _ _ hf => hf.elim)
   | refine .std ?_ | refine .nil ?_ | refine .seq ?_ | refine .region ?_ | refine .xs ?_ | refine .kb ?_ | refine .leaf ?_ | refine .block ?_ | refine .gn ?_ | refine .dr ?_ | fail
  exact At.fnr rfl rfl rfl ⟨hse.symm, (hs1.keepB _).trans (k2.any (Nat.le_refl _) _)⟩

theorem progProgram {d : Nat} {cs : List V} {bs : List UInt8} (he : EncF d (sch 14) cs bs) (S : St) : CallTo Tryz.prog 6 [.agg cs] S (fun v S' => v = fileV 112 bs ∧ KeepB S S' S.next) (fun _ _ => False) := by
  have hl : cs.length = 10 := (Enc.len 14 ⟨d, he⟩)
  obtain ⟨s, e, hse⟩ := fileV_tup 112 bs
  obtain ⟨S1, hS1⟩ : ∃ S1, S1 = S.new (.box 32 cs) := ⟨_, rfl⟩
  have hs1 : Same S S1 := by rw [hS1]; exact Same.new _ _
  have hx : S1.h.find S.next = some (.box 32 cs) := by rw [hS1]; simp [St.new, Tr.find_put]
  have hld : loadE Tryz.prog 32 (.ptr S.next 0) S1 = some (.agg cs) := ld_agg ⟨_, _, hx, fun i v h => by simpa using h⟩ hl
  have hw : CallTo Tryz.prog 25 [.agg cs, .int .u8 112, .func 26 [] []] S1 (fun v S' => v = .tup [.str s, .int .i64 e] ∧ KeepB S1 S' S1.next) (fun _ _ => False) := by
    rw [← hse]; exact write32 he 112 S1
  refine CallTo.of (n := 8) Tryz.func6 rfl rfl ?_
  repeat' first
   | refine Opl.val (op_box rfl) rfl (Opl.cast (S' := S1) ?_ hS1)
   | refine Opl.val (op_load rfl hld) rfl ?_
   | refine Opl.callv rfl (by kernel_rfl) hw rfl (fun S2 k2 => ?_) (fun _ _ hf => hf.elim)
   | refine .std ?_ | refine .nil ?_ | refine .seq ?_ | refine .region ?_ | refine .xs ?_ | refine .kb ?_ | refine .leaf ?_ | refine .block ?_ | refine .gn ?_ | refine .dr ?_ | fail
  exact At.fnr rfl rfl rfl ⟨hse.symm, (hs1.keepB _).trans (k2.any (Nat.le_refl _) _)⟩

theorem progCode {d : Nat} {cs : List V} {bs : List UInt8} (he : EncF d (sch 15) cs bs) (S : St) : CallTo Tryz.prog 8 [.agg cs] S (fun v S' => v = fileV 99 bs ∧ KeepB S S' S.next) (fun _ _ => False) := by
  have hl : cs.length = 3 := (Enc.len 15 ⟨d, he⟩)
  obtain ⟨s, e, hse⟩ := fileV_tup 99 bs
  obtain ⟨S1, hS1⟩ : ∃ S1, S1 = S.new (.box 35 cs) := ⟨_, rfl⟩
  have hs1 : Same S S1 := by rw [hS1]; exact Same.new _ _
  have hx : S1.h.find S.next = some (.box 35 cs) := by rw [hS1]; simp [St.new, Tr.find_put]
  have hld : loadE Tryz.prog 35 (.ptr S.next 0) S1 = some (.agg cs) := ld_agg ⟨_, _, hx, fun i v h => by simpa using h⟩ hl
  have hw : CallTo Tryz.prog 29 [.agg cs, .int .u8 99, .func 30 [] []] S1 (fun v S' => v = .tup [.str s, .int .i64 e] ∧ KeepB S1 S' S1.next) (fun _ _ => False) := by
    rw [← hse]; exact write35 he 99 S1
  refine CallTo.of (n := 8) Tryz.func8 rfl rfl ?_
  repeat' first
   | refine Opl.val (op_box rfl) rfl (Opl.cast (S' := S1) ?_ hS1)
   | refine Opl.val (op_load rfl hld) rfl ?_
   | refine Opl.callv rfl (by kernel_rfl) hw rfl (fun S2 k2 => ?_) (fun _ _ hf => hf.elim)
   | refine .std ?_ | refine .nil ?_ | refine .seq ?_ | refine .region ?_ | refine .xs ?_ | refine .kb ?_ | refine .leaf ?_ | refine .block ?_ | refine .gn ?_ | refine .dr ?_ | fail
  exact At.fnr rfl rfl rfl ⟨hse.symm, (hs1.keepB _).trans (k2.any (Nat.le_refl _) _)⟩

theorem awakeT : ClosedT Tryz.prog 10 := closedT_of 2000 (by kernel_rfl)

end Go.Proofs.YtilldjgagokcfaaGreat
