import Derived.Test.YtilldjgagokcfaaGreatW9
import Derived.Test.YtilldjgagokcfaaGreatE9
set_option linter.unusedVariables false
set_option linter.unusedSimpArgs false
namespace Go.Ev
open Go.RowKit
theorem fileV_tup (k : UInt8) (bs : List UInt8) : ∃ s e, fileV k bs = .tup [.str s, .int .i64 e] := by
  unfold fileV
  split <;> exact ⟨_, _, rfl⟩
theorem closedT_of {P : Program} {f : FuncId} (n : Nat) (h : boolOf (run P n (.call f []) S0) = some true) : ClosedT P f := by
  unfold boolOf at h
  split at h
  · rename_i b S' he
    cases h
    exact ⟨n, S', he⟩
  · cases h
theorem str_neq (s : List UInt8) : strOp .neq s s = some (.bool false) := by simp [strOp]
theorem str_eql (s : List UInt8) : strOp .eql s s = some (.bool true) := by simp [strOp]
theorem int_neq (e : Int) : intOp .neq .i64 e e = some (.bool false) := by simp [intOp]
theorem int_eql (e : Int) : intOp .eql .i64 e e = some (.bool true) := by simp [intOp]
theorem EncF.len' : ∀ {d : Nat} {fs : List Fd} {cs : List V} {bs : List UInt8}, EncF d fs cs bs → cs.length = (fs.map fun f => match f with | .sub t => szs t | _ => 1).sum
  | _, _, _, _, .nil _ => rfl
  | _, _, _, _, .int _ h => by simp [EncF.len' h]; omega
  | _, _, _, _, .str _ h => by simp [EncF.len' h]; omega
  | _, _, _, _, .bool h => by simp [EncF.len' h]; omega
  | _, _, _, _, .list _ _ _ h => by simp [EncF.len' h]; omega
  | _, _, _, _, .sub _ hc h => by simp [EncF.len' h, hc]
theorem sch_szs : ∀ t, ((sch t).map fun f => match f with | .sub t => szs t | _ => 1).sum = szs t
  | 0 => rfl
  | 1 => rfl
  | 2 => rfl
  | 3 => rfl
  | 4 => rfl
  | 5 => rfl
  | 6 => rfl
  | 7 => rfl
  | 8 => rfl
  | 9 => rfl
  | 10 => rfl
  | 11 => rfl
  | 12 => rfl
  | 13 => rfl
  | 14 => rfl
  | 15 => rfl
  | 16 => rfl
  | 17 => rfl
  | 18 => rfl
  | 19 => rfl
  | 20 => rfl
  | _ + 21 => rfl
theorem Enc.len (t : Nat) {cs : List V} {bs : List UInt8} (h : Enc (sch t) cs bs) : cs.length = szs t := by
  obtain ⟨d, h⟩ := h
  rw [h.len', sch_szs]
end Go.Ev
namespace Go.Proofs.YtilldjgagokcfaaGreat
open Go.RowKit Go.Ev
set_option maxRecDepth 100000
set_option linter.unusedVariables false
theorem awakeT : ClosedT Tryz.prog 10 := closedT_of 2000 (by kernel_rfl)
end Go.Proofs.YtilldjgagokcfaaGreat
