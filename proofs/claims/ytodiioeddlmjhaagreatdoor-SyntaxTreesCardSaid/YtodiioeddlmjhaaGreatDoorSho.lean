import Derived.Test.YtodiioeddlmjhaaGreatDoorClo
set_option linter.unusedVariables false
set_option linter.unusedSimpArgs false
namespace Go.Proofs.YtodiioeddlmjhaaGreatDoor
open Go Go.Ev
set_option maxRecDepth 100000
theorem shows_run : boolOf (Go.Ev.runT Tryz.prog 3000 (.call 14 []) S0) = some true := by kernel_rfl
end Go.Proofs.YtodiioeddlmjhaaGreatDoor
