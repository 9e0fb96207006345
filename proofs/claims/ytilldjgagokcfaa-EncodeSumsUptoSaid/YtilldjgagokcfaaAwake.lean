/-
  The law's own check of what is shown (Awake) answers true at every world.
-/
import Derived.Test.YtilldjgagokcfaaRows
import Derived.Test.YtilldjgagokcfaaEvMain
import Derived.KernelRfl
namespace Go.Proofs.Ytilldjgagokcfaa
open Go.RowKit Go.Ev

set_option maxRecDepth 100000 in
theorem good_nm : (Try.prog.funcs.all fun fn => fn.body.isNone || !decide (fn.name = "runtime.NumGoroutine")) = true := by kernel_rfl

set_option maxRecDepth 100000 in
theorem good_esc : ((List.range Try.prog.funcs.size).all fun i => match Try.prog.funcs[i]? with
    | some fn => fn.body.isSome || !decide (fn.name = "internal/abi.NoEscape") || Nat.beq i 117
    | none => true) = true := by kernel_rfl

theorem at117 : Try.prog.funcs[117]? = some Try.f117 := by kernel_rfl

set_option maxRecDepth 100000 in
theorem good : Good Try.prog := good_of 117 Try.f117 good_nm good_esc at117 (by kernel_rfl) (by kernel_rfl) (by kernel_rfl)

set_option maxRecDepth 100000 in
theorem awakeE : boolOf (run Try.prog 2000 (.call 11 []) S0) = some true := by kernel_rfl

theorem awake (w : World) : Calls Try.prog 11 #[] w fun e w' => e = .returned (.bool true) ∧ Below w.heap.size w w' := closed' good 2000 awakeE w

end Go.Proofs.Ytilldjgagokcfaa
