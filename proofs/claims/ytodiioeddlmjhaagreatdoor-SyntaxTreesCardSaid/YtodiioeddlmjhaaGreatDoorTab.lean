import Derived.Test.YtodiioeddlmjhaaGreatDoorE10
import Derived.Test.YtodiioeddlmjhaaGreatDoorClo
import Derived.Test.YtodiioeddlmjhaaGreatDoorRows
import Derived.KernelRfl
set_option linter.unusedVariables false
set_option linter.unusedSimpArgs false
namespace Go.Proofs.YtodiioeddlmjhaaGreatDoor
open Go Go.Ev
set_option maxRecDepth 100000
instance : LdAgg Tryz.prog 27 7 := ⟨by kernel_rfl⟩
instance : LdOne Tryz.prog 9 := ⟨by kernel_rfl⟩
instance : LdOne Tryz.prog 3 := ⟨by kernel_rfl⟩
instance : LdOne Tryz.prog 22 := ⟨by kernel_rfl⟩
instance : LdOne Tryz.prog 23 := ⟨by kernel_rfl⟩
instance : LdOne Tryz.prog 24 := ⟨by kernel_rfl⟩
instance : LdOne Tryz.prog 25 := ⟨by kernel_rfl⟩
instance : LdOne Tryz.prog 66 := ⟨by kernel_rfl⟩
instance : LdAgg Tryz.prog 91 2 := ⟨by kernel_rfl⟩
instance : LdOne Tryz.prog 30 := ⟨by kernel_rfl⟩
instance : LdAgg Tryz.prog 100 9 := ⟨by kernel_rfl⟩
instance : LdOne Tryz.prog 174 := ⟨by kernel_rfl⟩
instance : LdOne Tryz.prog 81 := ⟨by kernel_rfl⟩
instance : LdOne Tryz.prog 4 := ⟨by kernel_rfl⟩
instance : LdOne Tryz.prog 20 := ⟨by kernel_rfl⟩
instance : LdAgg Tryz.prog 206 7 := ⟨by kernel_rfl⟩
instance : LdAgg Tryz.prog 214 9 := ⟨by kernel_rfl⟩
instance : LdOne Tryz.prog 82 := ⟨by kernel_rfl⟩
instance : LdOne Tryz.prog 237 := ⟨by kernel_rfl⟩
instance : SzN Tryz.prog 27 7 := ⟨by kernel_rfl⟩
instance : SzN Tryz.prog 91 2 := ⟨by kernel_rfl⟩
instance : SzN Tryz.prog 3 1 := ⟨by kernel_rfl⟩
instance : SzN Tryz.prog 30 1 := ⟨by kernel_rfl⟩
instance : SzN Tryz.prog 100 9 := ⟨by kernel_rfl⟩
instance : SzN Tryz.prog 206 7 := ⟨by kernel_rfl⟩
instance : SzN Tryz.prog 214 9 := ⟨by kernel_rfl⟩
instance : SzN Tryz.prog 66 1 := ⟨by kernel_rfl⟩
instance : SzN Tryz.prog 9 1 := ⟨by kernel_rfl⟩
instance : SzN Tryz.prog 82 1 := ⟨by kernel_rfl⟩
instance : SzN Tryz.prog 5 1 := ⟨by kernel_rfl⟩
instance : Fld Tryz.prog 27 2 2 := ⟨fun p => by kernel_rfl⟩
instance : Fld Tryz.prog 86 0 0 := ⟨fun p => by kernel_rfl⟩
instance : Fld Tryz.prog 91 0 0 := ⟨fun p => by kernel_rfl⟩
instance : Fld Tryz.prog 91 1 1 := ⟨fun p => by kernel_rfl⟩
instance : Fld Tryz.prog 27 0 0 := ⟨fun p => by kernel_rfl⟩
instance : Fld Tryz.prog 27 1 1 := ⟨fun p => by kernel_rfl⟩
instance : Fld Tryz.prog 27 3 3 := ⟨fun p => by kernel_rfl⟩
instance : Fld Tryz.prog 27 4 4 := ⟨fun p => by kernel_rfl⟩
instance : Fld Tryz.prog 27 5 5 := ⟨fun p => by kernel_rfl⟩
instance : Fld Tryz.prog 27 6 6 := ⟨fun p => by kernel_rfl⟩
instance : Fld Tryz.prog 100 0 0 := ⟨fun p => by kernel_rfl⟩
instance : Fld Tryz.prog 100 1 1 := ⟨fun p => by kernel_rfl⟩
instance : Fld Tryz.prog 100 2 2 := ⟨fun p => by kernel_rfl⟩
instance : Fld Tryz.prog 84 1 1 := ⟨fun p => by kernel_rfl⟩
instance : Fld Tryz.prog 206 5 5 := ⟨fun p => by kernel_rfl⟩
instance : Fld Tryz.prog 206 6 6 := ⟨fun p => by kernel_rfl⟩
instance : Fld Tryz.prog 206 0 0 := ⟨fun p => by kernel_rfl⟩
instance : Fld Tryz.prog 206 1 1 := ⟨fun p => by kernel_rfl⟩
instance : Fld Tryz.prog 206 2 2 := ⟨fun p => by kernel_rfl⟩
instance : Fld Tryz.prog 206 3 3 := ⟨fun p => by kernel_rfl⟩
instance : Fld Tryz.prog 206 4 4 := ⟨fun p => by kernel_rfl⟩
instance : Fld Tryz.prog 214 7 7 := ⟨fun p => by kernel_rfl⟩
instance : Fld Tryz.prog 214 8 8 := ⟨fun p => by kernel_rfl⟩
instance : Fld Tryz.prog 214 0 0 := ⟨fun p => by kernel_rfl⟩
instance : Fld Tryz.prog 214 1 1 := ⟨fun p => by kernel_rfl⟩
instance : Fld Tryz.prog 214 2 2 := ⟨fun p => by kernel_rfl⟩
instance : Fld Tryz.prog 214 3 3 := ⟨fun p => by kernel_rfl⟩
instance : Fld Tryz.prog 214 4 4 := ⟨fun p => by kernel_rfl⟩
instance : Fld Tryz.prog 214 5 5 := ⟨fun p => by kernel_rfl⟩
instance : Fld Tryz.prog 214 6 6 := ⟨fun p => by kernel_rfl⟩
instance : Fld Tryz.prog 84 0 0 := ⟨fun p => by kernel_rfl⟩
instance : Zer Tryz.prog 27 (.agg [.int .i64 0, .int .i64 0, .str [], .str [], .nils, .nils, .nils]) := ⟨by kernel_rfl⟩
instance : Zer Tryz.prog 91 (.agg [.int .i64 0, .int .i64 0]) := ⟨by kernel_rfl⟩
instance : Zer Tryz.prog 30 (.int .i64 0) := ⟨by kernel_rfl⟩
instance : Zer Tryz.prog 100 (.agg [.str [], .nils, .int .i64 0, .int .i64 0, .str [], .str [], .nils, .nils, .nils]) := ⟨by kernel_rfl⟩
instance : Zer Tryz.prog 84 (.agg [.nilp, .nils]) := ⟨by kernel_rfl⟩
instance : Zer Tryz.prog 206 (.agg [.int .i64 0, .int .i64 0, .int .i64 0, .int .i64 0, .bool false, .int .i64 0, .int .i64 0]) := ⟨by kernel_rfl⟩
instance : Zer Tryz.prog 214 (.agg [.int .i64 0, .int .i64 0, .int .i64 0, .int .i64 0, .int .i64 0, .int .i64 0, .bool false, .int .i64 0, .int .i64 0]) := ⟨by kernel_rfl⟩
instance : Zer Tryz.prog 236 (.agg [.int .u8 0, .int .u8 0, .int .u8 0, .int .u8 0, .int .u8 0, .int .u8 0, .int .u8 0, .int .u8 0, .int .u8 0, .int .u8 0, .int .u8 0, .int .u8 0, .int .u8 0, .int .u8 0, .int .u8 0, .int .u8 0, .int .u8 0, .int .u8 0, .int .u8 0, .int .u8 0, .int .u8 0, .int .u8 0, .int .u8 0, .int .u8 0]) := ⟨by kernel_rfl⟩
instance : IsDesc Tryz.prog 3 := ⟨by kernel_rfl⟩
instance : ConI Tryz.prog 5 .u8 := ⟨by kernel_rfl⟩
instance : IsDesc Tryz.prog 5 := ⟨by kernel_rfl⟩
instance : ConI Tryz.prog 3 .i64 := ⟨by kernel_rfl⟩
instance : ConI Tryz.prog 21 .i32 := ⟨by kernel_rfl⟩
instance : IsDesc Tryz.prog 21 := ⟨by kernel_rfl⟩
instance : IsDesc Tryz.prog 2 := ⟨by kernel_rfl⟩
instance : ConI Tryz.prog 237 .u64 := ⟨by kernel_rfl⟩
instance : IsDesc Tryz.prog 237 := ⟨by kernel_rfl⟩
instance : ConI Tryz.prog 249 .u32 := ⟨by kernel_rfl⟩
instance : IsDesc Tryz.prog 249 := ⟨by kernel_rfl⟩
instance : ElT Tryz.prog 24 27 := ⟨by kernel_rfl⟩
instance : ElT Tryz.prog 66 5 := ⟨by kernel_rfl⟩
instance : IsStr Tryz.prog 9 := ⟨by kernel_rfl⟩
instance : ElT Tryz.prog 25 100 := ⟨by kernel_rfl⟩
instance : ElT Tryz.prog 23 9 := ⟨by kernel_rfl⟩
instance : ElT Tryz.prog 202 20 := ⟨by kernel_rfl⟩
instance : SzN Tryz.prog 20 1 := ⟨by kernel_rfl⟩
instance : ElT Tryz.prog 203 206 := ⟨by kernel_rfl⟩
instance : Conc Tryz.prog 9 := ⟨by kernel_rfl⟩
instance : Conc Tryz.prog 27 := ⟨by kernel_rfl⟩
instance : App Tryz.prog 24 24 27 7 true 120 := App.of (by kernel_rfl)
instance : App Tryz.prog 23 23 9 1 false 16 := App.of (by kernel_rfl)
instance : App Tryz.prog 66 9 5 1 false 1 := App.of (by kernel_rfl)
end Go.Proofs.YtodiioeddlmjhaaGreatDoor
