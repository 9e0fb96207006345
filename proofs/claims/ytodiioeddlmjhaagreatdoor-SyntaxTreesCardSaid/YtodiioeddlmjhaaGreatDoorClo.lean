import Derived.Test.YtodiioeddlmjhaaGreatDoorGlob
import Derived.Test.YtodiioeddlmjhaaGreatDoorE8
import Derived.Test.YtodiioeddlmjhaaGreatDoorChecked
import Derived.KernelRfl
set_option linter.unusedVariables false
set_option linter.unusedSimpArgs false
namespace Go.Proofs.YtodiioeddlmjhaaGreatDoor
open Go Go.Ev
set_option maxRecDepth 100000
theorem tab214 : entryOf (run Tryz.prog 3000 (.call 214 []) S0) [0] = some ent214 := by kernel_rfl
theorem tab156 : entryOf (run Tryz.prog 3000 (.call 156 []) S0) [] = some ent156 := by kernel_rfl
theorem tab176 : entryOf (run Tryz.prog 3000 (.call 176 []) S0) [] = some ent176 := by kernel_rfl
end Go.Proofs.YtodiioeddlmjhaaGreatDoor
