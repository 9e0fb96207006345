/-
  What the walk asks of the program's types, one fact each.
-/
import Derived.Test.YtodiioeddlmjhaaGreatDoorE10
import Derived.Test.YtodiioeddlmjhaaGreatDoorClo
import Derived.Test.YtodiioeddlmjhaaGreatDoorRows
import Derived.KernelRfl
set_option linter.unusedVariables false
set_option linter.unusedSimpArgs false
namespace Go.Proofs.YtodiioeddlmjhaaGreatDoor
open Go Go.Ev
set_option maxRecDepth 100000

instance : LdAgg Tryz.prog 27 7 := ⟨by kernel_rfl⟩
instance : LdAgg Tryz.prog 46 6 := ⟨by kernel_rfl⟩
instance : LdOne Tryz.prog 9 := ⟨by kernel_rfl⟩
instance : LdOne Tryz.prog 23 := ⟨by kernel_rfl⟩
instance : LdOne Tryz.prog 24 := ⟨by kernel_rfl⟩
instance : LdOne Tryz.prog 25 := ⟨by kernel_rfl⟩
instance : LdOne Tryz.prog 41 := ⟨by kernel_rfl⟩
instance : LdOne Tryz.prog 42 := ⟨by kernel_rfl⟩
instance : LdAgg Tryz.prog 100 9 := ⟨by kernel_rfl⟩
instance : LdAgg Tryz.prog 107 2 := ⟨by kernel_rfl⟩
instance : LdOne Tryz.prog 22 := ⟨by kernel_rfl⟩
instance : LdOne Tryz.prog 3 := ⟨by kernel_rfl⟩
instance : LdOne Tryz.prog 40 := ⟨by kernel_rfl⟩
instance : LdAgg Tryz.prog 44 2 := ⟨by kernel_rfl⟩
instance : SzN Tryz.prog 27 7 := ⟨by kernel_rfl⟩
instance : SzN Tryz.prog 100 9 := ⟨by kernel_rfl⟩
instance : SzN Tryz.prog 46 6 := ⟨by kernel_rfl⟩
instance : Fld Tryz.prog 27 2 2 := ⟨fun p => by kernel_rfl⟩
instance : Fld Tryz.prog 27 3 3 := ⟨fun p => by kernel_rfl⟩
instance : Fld Tryz.prog 27 4 4 := ⟨fun p => by kernel_rfl⟩
instance : Fld Tryz.prog 27 5 5 := ⟨fun p => by kernel_rfl⟩
instance : Fld Tryz.prog 27 6 6 := ⟨fun p => by kernel_rfl⟩
instance : Fld Tryz.prog 100 0 0 := ⟨fun p => by kernel_rfl⟩
instance : Fld Tryz.prog 100 1 1 := ⟨fun p => by kernel_rfl⟩
instance : Fld Tryz.prog 100 2 2 := ⟨fun p => by kernel_rfl⟩
instance : Fld Tryz.prog 46 2 2 := ⟨fun p => by kernel_rfl⟩
instance : Fld Tryz.prog 46 3 3 := ⟨fun p => by kernel_rfl⟩
instance : Fld Tryz.prog 46 4 4 := ⟨fun p => by kernel_rfl⟩
instance : Fld Tryz.prog 44 0 0 := ⟨fun p => by kernel_rfl⟩
instance : Fld Tryz.prog 107 0 0 := ⟨fun p => by kernel_rfl⟩
instance : Fld Tryz.prog 27 0 0 := ⟨fun p => by kernel_rfl⟩
instance : Fld Tryz.prog 27 1 1 := ⟨fun p => by kernel_rfl⟩
instance : Fld Tryz.prog 46 0 0 := ⟨fun p => by kernel_rfl⟩
instance : Fld Tryz.prog 46 1 1 := ⟨fun p => by kernel_rfl⟩
instance : Fld Tryz.prog 44 1 1 := ⟨fun p => by kernel_rfl⟩
instance : Zer Tryz.prog 27 (.agg [.int .i64 0, .int .i64 0, .str [], .str [], .nils, .nils, .nils]) := ⟨by kernel_rfl⟩
instance : Zer Tryz.prog 100 (.agg [.str [], .nils, .int .i64 0, .int .i64 0, .str [], .str [], .nils, .nils, .nils]) := ⟨by kernel_rfl⟩
instance : Zer Tryz.prog 46 (.agg [.int .i64 0, .int .i64 0, .str [], .nils, .nils, .int .i64 0]) := ⟨by kernel_rfl⟩
instance : ElT Tryz.prog 24 27 := ⟨by kernel_rfl⟩
instance : ElT Tryz.prog 25 100 := ⟨by kernel_rfl⟩
instance : ElT Tryz.prog 23 9 := ⟨by kernel_rfl⟩
instance : SzN Tryz.prog 9 1 := ⟨by kernel_rfl⟩
instance : ElT Tryz.prog 42 107 := ⟨by kernel_rfl⟩
instance : SzN Tryz.prog 107 2 := ⟨by kernel_rfl⟩
instance : ElT Tryz.prog 41 46 := ⟨by kernel_rfl⟩
instance : IsStr Tryz.prog 9 := ⟨by kernel_rfl⟩

theorem hasBody_all : ([6, 13, 49, 74, 27, 60, 61, 62, 63, 64, 65, 66, 28, 24, 59, 29, 67, 30].all (hasBody Tryz.prog)) = true := by kernel_rfl

end Go.Proofs.YtodiioeddlmjhaaGreatDoor
