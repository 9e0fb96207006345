import Derived.Test.YtodiioeddlmjhaaGreatDoorE10
import Derived.Test.YtodiioeddlmjhaaGreatDoorClo
import Derived.Test.YtodiioeddlmjhaaGreatDoorRows
import Derived.KernelRfl
set_option linter.unusedVariables false
set_option linter.unusedSimpArgs false
namespace Go.Proofs.YtodiioeddlmjhaaGreatDoor
open Go Go.Ev
set_option maxRecDepth 100000
instance : LdAgg Tryz.prog 27 7 := ⟨by kernel_rfl⟩
instance : LdAgg Tryz.prog 46 6 := ⟨by kernel_rfl⟩
instance : LdAgg Tryz.prog 56 10 := ⟨by kernel_rfl⟩
instance : LdOne Tryz.prog 54 := ⟨by kernel_rfl⟩
instance : LdOne Tryz.prog 9 := ⟨by kernel_rfl⟩
instance : LdOne Tryz.prog 5 := ⟨by kernel_rfl⟩
instance : LdOne Tryz.prog 3 := ⟨by kernel_rfl⟩
instance : LdOne Tryz.prog 22 := ⟨by kernel_rfl⟩
instance : LdOne Tryz.prog 23 := ⟨by kernel_rfl⟩
instance : LdOne Tryz.prog 24 := ⟨by kernel_rfl⟩
instance : LdOne Tryz.prog 25 := ⟨by kernel_rfl⟩
instance : LdOne Tryz.prog 40 := ⟨by kernel_rfl⟩
instance : LdOne Tryz.prog 42 := ⟨by kernel_rfl⟩
instance : LdOne Tryz.prog 41 := ⟨by kernel_rfl⟩
instance : LdAgg Tryz.prog 44 2 := ⟨by kernel_rfl⟩
instance : LdOne Tryz.prog 52 := ⟨by kernel_rfl⟩
instance : LdOne Tryz.prog 53 := ⟨by kernel_rfl⟩
instance : LdAgg Tryz.prog 115 3 := ⟨by kernel_rfl⟩
instance : LdOne Tryz.prog 113 := ⟨by kernel_rfl⟩
instance : LdAgg Tryz.prog 122 2 := ⟨by kernel_rfl⟩
instance : LdOne Tryz.prog 120 := ⟨by kernel_rfl⟩
instance : LdAgg Tryz.prog 62 8 := ⟨by kernel_rfl⟩
instance : LdOne Tryz.prog 67 := ⟨by kernel_rfl⟩
instance : LdOne Tryz.prog 66 := ⟨by kernel_rfl⟩
instance : LdAgg Tryz.prog 91 2 := ⟨by kernel_rfl⟩
instance : LdOne Tryz.prog 30 := ⟨by kernel_rfl⟩
instance : LdOne Tryz.prog 97 := ⟨by kernel_rfl⟩
instance : LdAgg Tryz.prog 100 9 := ⟨by kernel_rfl⟩
instance : LdAgg Tryz.prog 107 2 := ⟨by kernel_rfl⟩
instance : LdOne Tryz.prog 174 := ⟨by kernel_rfl⟩
instance : LdAgg Tryz.prog 118 2 := ⟨by kernel_rfl⟩
instance : LdAgg Tryz.prog 124 14 := ⟨by kernel_rfl⟩
instance : LdOne Tryz.prog 81 := ⟨by kernel_rfl⟩
instance : LdOne Tryz.prog 4 := ⟨by kernel_rfl⟩
instance : LdOne Tryz.prog 20 := ⟨by kernel_rfl⟩
instance : LdAgg Tryz.prog 206 7 := ⟨by kernel_rfl⟩
instance : LdAgg Tryz.prog 214 9 := ⟨by kernel_rfl⟩
instance : LdAgg Tryz.prog 72 4 := ⟨by kernel_rfl⟩
instance : LdOne Tryz.prog 70 := ⟨by kernel_rfl⟩
instance : LdOne Tryz.prog 82 := ⟨by kernel_rfl⟩
instance : LdOne Tryz.prog 237 := ⟨by kernel_rfl⟩
instance : LdAgg Tryz.prog 268 2 := ⟨by kernel_rfl⟩
instance : LdOne Tryz.prog 270 := ⟨by kernel_rfl⟩
instance : LdOne Tryz.prog 185 := ⟨by kernel_rfl⟩
instance : LdOne Tryz.prog 278 := ⟨by kernel_rfl⟩
instance : LdOne Tryz.prog 282 := ⟨by kernel_rfl⟩
instance : LdOne Tryz.prog 279 := ⟨by kernel_rfl⟩
instance : LdOne Tryz.prog 249 := ⟨by kernel_rfl⟩
instance : LdAgg Tryz.prog 287 3 := ⟨by kernel_rfl⟩
instance : SzN Tryz.prog 27 7 := ⟨by kernel_rfl⟩
instance : SzN Tryz.prog 46 6 := ⟨by kernel_rfl⟩
instance : SzN Tryz.prog 56 10 := ⟨by kernel_rfl⟩
instance : SzN Tryz.prog 91 2 := ⟨by kernel_rfl⟩
instance : SzN Tryz.prog 115 3 := ⟨by kernel_rfl⟩
instance : SzN Tryz.prog 122 2 := ⟨by kernel_rfl⟩
instance : SzN Tryz.prog 62 8 := ⟨by kernel_rfl⟩
instance : SzN Tryz.prog 67 1 := ⟨by kernel_rfl⟩
instance : SzN Tryz.prog 3 1 := ⟨by kernel_rfl⟩
instance : SzN Tryz.prog 30 1 := ⟨by kernel_rfl⟩
instance : SzN Tryz.prog 24 1 := ⟨by kernel_rfl⟩
instance : SzN Tryz.prog 100 9 := ⟨by kernel_rfl⟩
instance : SzN Tryz.prog 23 1 := ⟨by kernel_rfl⟩
instance : SzN Tryz.prog 25 1 := ⟨by kernel_rfl⟩
instance : SzN Tryz.prog 118 2 := ⟨by kernel_rfl⟩
instance : SzN Tryz.prog 124 14 := ⟨by kernel_rfl⟩
instance : SzN Tryz.prog 44 2 := ⟨by kernel_rfl⟩
instance : SzN Tryz.prog 4 1 := ⟨by kernel_rfl⟩
instance : SzN Tryz.prog 52 1 := ⟨by kernel_rfl⟩
instance : SzN Tryz.prog 53 1 := ⟨by kernel_rfl⟩
instance : SzN Tryz.prog 54 1 := ⟨by kernel_rfl⟩
instance : SzN Tryz.prog 206 7 := ⟨by kernel_rfl⟩
instance : SzN Tryz.prog 163 1 := ⟨by kernel_rfl⟩
instance : SzN Tryz.prog 214 9 := ⟨by kernel_rfl⟩
instance : SzN Tryz.prog 66 1 := ⟨by kernel_rfl⟩
instance : SzN Tryz.prog 41 1 := ⟨by kernel_rfl⟩
instance : SzN Tryz.prog 107 2 := ⟨by kernel_rfl⟩
instance : SzN Tryz.prog 42 1 := ⟨by kernel_rfl⟩
instance : SzN Tryz.prog 72 4 := ⟨by kernel_rfl⟩
instance : SzN Tryz.prog 113 1 := ⟨by kernel_rfl⟩
instance : SzN Tryz.prog 9 1 := ⟨by kernel_rfl⟩
instance : SzN Tryz.prog 120 1 := ⟨by kernel_rfl⟩
instance : SzN Tryz.prog 82 1 := ⟨by kernel_rfl⟩
instance : SzN Tryz.prog 5 1 := ⟨by kernel_rfl⟩
instance : SzN Tryz.prog 268 2 := ⟨by kernel_rfl⟩
instance : SzN Tryz.prog 287 3 := ⟨by kernel_rfl⟩
instance : SzN Tryz.prog 276 32 := ⟨by kernel_rfl⟩
instance : SzN Tryz.prog 277 64 := ⟨by kernel_rfl⟩
instance : SzN Tryz.prog 248 20 := ⟨by kernel_rfl⟩
instance : SzN Tryz.prog 185 1 := ⟨by kernel_rfl⟩
instance : SzN Tryz.prog 270 1 := ⟨by kernel_rfl⟩
instance : SzN Tryz.prog 254 256 := ⟨by kernel_rfl⟩
instance : SzN Tryz.prog 215 180 := ⟨by kernel_rfl⟩
instance : Fld Tryz.prog 56 2 2 := ⟨fun p => by kernel_rfl⟩
instance : Fld Tryz.prog 62 1 1 := ⟨fun p => by kernel_rfl⟩
instance : Fld Tryz.prog 62 0 0 := ⟨fun p => by kernel_rfl⟩
instance : Fld Tryz.prog 56 3 3 := ⟨fun p => by kernel_rfl⟩
instance : Fld Tryz.prog 72 3 3 := ⟨fun p => by kernel_rfl⟩
instance : Fld Tryz.prog 27 2 2 := ⟨fun p => by kernel_rfl⟩
instance : Fld Tryz.prog 86 0 0 := ⟨fun p => by kernel_rfl⟩
instance : Fld Tryz.prog 91 0 0 := ⟨fun p => by kernel_rfl⟩
instance : Fld Tryz.prog 91 1 1 := ⟨fun p => by kernel_rfl⟩
instance : Fld Tryz.prog 27 0 0 := ⟨fun p => by kernel_rfl⟩
instance : Fld Tryz.prog 27 1 1 := ⟨fun p => by kernel_rfl⟩
instance : Fld Tryz.prog 27 3 3 := ⟨fun p => by kernel_rfl⟩
instance : Fld Tryz.prog 27 4 4 := ⟨fun p => by kernel_rfl⟩
instance : Fld Tryz.prog 27 5 5 := ⟨fun p => by kernel_rfl⟩
instance : Fld Tryz.prog 27 6 6 := ⟨fun p => by kernel_rfl⟩
instance : Fld Tryz.prog 100 0 0 := ⟨fun p => by kernel_rfl⟩
instance : Fld Tryz.prog 100 1 1 := ⟨fun p => by kernel_rfl⟩
instance : Fld Tryz.prog 100 2 2 := ⟨fun p => by kernel_rfl⟩
instance : Fld Tryz.prog 46 0 0 := ⟨fun p => by kernel_rfl⟩
instance : Fld Tryz.prog 46 1 1 := ⟨fun p => by kernel_rfl⟩
instance : Fld Tryz.prog 46 2 2 := ⟨fun p => by kernel_rfl⟩
instance : Fld Tryz.prog 46 4 4 := ⟨fun p => by kernel_rfl⟩
instance : Fld Tryz.prog 44 1 1 := ⟨fun p => by kernel_rfl⟩
instance : Fld Tryz.prog 44 0 0 := ⟨fun p => by kernel_rfl⟩
instance : Fld Tryz.prog 46 3 3 := ⟨fun p => by kernel_rfl⟩
instance : Fld Tryz.prog 56 0 0 := ⟨fun p => by kernel_rfl⟩
instance : Fld Tryz.prog 56 1 1 := ⟨fun p => by kernel_rfl⟩
instance : Fld Tryz.prog 115 0 0 := ⟨fun p => by kernel_rfl⟩
instance : Fld Tryz.prog 115 1 1 := ⟨fun p => by kernel_rfl⟩
instance : Fld Tryz.prog 115 2 2 := ⟨fun p => by kernel_rfl⟩
instance : Fld Tryz.prog 118 0 0 := ⟨fun p => by kernel_rfl⟩
instance : Fld Tryz.prog 118 1 1 := ⟨fun p => by kernel_rfl⟩
instance : Fld Tryz.prog 122 0 0 := ⟨fun p => by kernel_rfl⟩
instance : Fld Tryz.prog 122 1 1 := ⟨fun p => by kernel_rfl⟩
instance : Fld Tryz.prog 124 0 0 := ⟨fun p => by kernel_rfl⟩
instance : Fld Tryz.prog 124 1 1 := ⟨fun p => by kernel_rfl⟩
instance : Fld Tryz.prog 124 2 7 := ⟨fun p => by kernel_rfl⟩
instance : Fld Tryz.prog 84 1 1 := ⟨fun p => by kernel_rfl⟩
instance : Fld Tryz.prog 166 1 1 := ⟨fun p => by kernel_rfl⟩
instance : Fld Tryz.prog 166 0 0 := ⟨fun p => by kernel_rfl⟩
instance : Fld Tryz.prog 107 0 0 := ⟨fun p => by kernel_rfl⟩
instance : Fld Tryz.prog 124 3 13 := ⟨fun p => by kernel_rfl⟩
instance : Fld Tryz.prog 166 4 4 := ⟨fun p => by kernel_rfl⟩
instance : Fld Tryz.prog 206 5 5 := ⟨fun p => by kernel_rfl⟩
instance : Fld Tryz.prog 206 6 6 := ⟨fun p => by kernel_rfl⟩
instance : Fld Tryz.prog 206 0 0 := ⟨fun p => by kernel_rfl⟩
instance : Fld Tryz.prog 206 1 1 := ⟨fun p => by kernel_rfl⟩
instance : Fld Tryz.prog 206 2 2 := ⟨fun p => by kernel_rfl⟩
instance : Fld Tryz.prog 206 3 3 := ⟨fun p => by kernel_rfl⟩
instance : Fld Tryz.prog 206 4 4 := ⟨fun p => by kernel_rfl⟩
instance : Fld Tryz.prog 163 0 0 := ⟨fun p => by kernel_rfl⟩
instance : Fld Tryz.prog 166 3 3 := ⟨fun p => by kernel_rfl⟩
instance : Fld Tryz.prog 107 1 1 := ⟨fun p => by kernel_rfl⟩
instance : Fld Tryz.prog 214 7 7 := ⟨fun p => by kernel_rfl⟩
instance : Fld Tryz.prog 214 8 8 := ⟨fun p => by kernel_rfl⟩
instance : Fld Tryz.prog 214 0 0 := ⟨fun p => by kernel_rfl⟩
instance : Fld Tryz.prog 214 1 1 := ⟨fun p => by kernel_rfl⟩
instance : Fld Tryz.prog 214 2 2 := ⟨fun p => by kernel_rfl⟩
instance : Fld Tryz.prog 214 3 3 := ⟨fun p => by kernel_rfl⟩
instance : Fld Tryz.prog 214 4 4 := ⟨fun p => by kernel_rfl⟩
instance : Fld Tryz.prog 214 5 5 := ⟨fun p => by kernel_rfl⟩
instance : Fld Tryz.prog 214 6 6 := ⟨fun p => by kernel_rfl⟩
instance : Fld Tryz.prog 72 2 2 := ⟨fun p => by kernel_rfl⟩
instance : Fld Tryz.prog 72 1 1 := ⟨fun p => by kernel_rfl⟩
instance : Fld Tryz.prog 143 1 1 := ⟨fun p => by kernel_rfl⟩
instance : Fld Tryz.prog 143 0 0 := ⟨fun p => by kernel_rfl⟩
instance : Fld Tryz.prog 166 2 2 := ⟨fun p => by kernel_rfl⟩
instance : Fld Tryz.prog 72 0 0 := ⟨fun p => by kernel_rfl⟩
instance : Fld Tryz.prog 84 0 0 := ⟨fun p => by kernel_rfl⟩
instance : Fld Tryz.prog 268 0 0 := ⟨fun p => by kernel_rfl⟩
instance : Fld Tryz.prog 268 1 1 := ⟨fun p => by kernel_rfl⟩
instance : Fld Tryz.prog 281 0 0 := ⟨fun p => by kernel_rfl⟩
instance : Fld Tryz.prog 281 2 2 := ⟨fun p => by kernel_rfl⟩
instance : Fld Tryz.prog 284 1 1 := ⟨fun p => by kernel_rfl⟩
instance : Fld Tryz.prog 281 1 1 := ⟨fun p => by kernel_rfl⟩
instance : Fld Tryz.prog 287 0 0 := ⟨fun p => by kernel_rfl⟩
instance : Fld Tryz.prog 284 0 0 := ⟨fun p => by kernel_rfl⟩
instance : Fld Tryz.prog 284 2 2 := ⟨fun p => by kernel_rfl⟩
instance : Fld Tryz.prog 287 1 1 := ⟨fun p => by kernel_rfl⟩
instance : Fld Tryz.prog 287 2 2 := ⟨fun p => by kernel_rfl⟩
instance : Zer Tryz.prog 27 (.agg [.int .i64 0, .int .i64 0, .str [], .str [], .nils, .nils, .nils]) := ⟨by kernel_rfl⟩
instance : Zer Tryz.prog 46 (.agg [.int .i64 0, .int .i64 0, .str [], .nils, .nils, .int .i64 0]) := ⟨by kernel_rfl⟩
instance : Zer Tryz.prog 56 (.agg [.nils, .nils, .nils, .int .i64 0, .int .i64 0, .str [], .str [], .nils, .nils, .nils]) := ⟨by kernel_rfl⟩
instance : Zer Tryz.prog 91 (.agg [.int .i64 0, .int .i64 0]) := ⟨by kernel_rfl⟩
instance : Zer Tryz.prog 115 (.agg [.str [], .nils, .nils]) := ⟨by kernel_rfl⟩
instance : Zer Tryz.prog 122 (.agg [.str [], .nils]) := ⟨by kernel_rfl⟩
instance : Zer Tryz.prog 62 (.agg [.str [], .int .i64 0, .int .i64 0, .str [], .str [], .nils, .nils, .nils]) := ⟨by kernel_rfl⟩
instance : Zer Tryz.prog 67 (.nils) := ⟨by kernel_rfl⟩
instance : Zer Tryz.prog 3 (.int .i64 0) := ⟨by kernel_rfl⟩
instance : Zer Tryz.prog 30 (.int .i64 0) := ⟨by kernel_rfl⟩
instance : Zer Tryz.prog 100 (.agg [.str [], .nils, .int .i64 0, .int .i64 0, .str [], .str [], .nils, .nils, .nils]) := ⟨by kernel_rfl⟩
instance : Zer Tryz.prog 118 (.agg [.str [], .nils]) := ⟨by kernel_rfl⟩
instance : Zer Tryz.prog 124 (.agg [.str [], .int .i64 0, .int .i64 0, .str [], .nils, .nils, .int .i64 0, .int .i64 0, .int .i64 0, .str [], .nils, .nils, .int .i64 0, .bool false]) := ⟨by kernel_rfl⟩
instance : Zer Tryz.prog 44 (.agg [.nils, .int .i64 0]) := ⟨by kernel_rfl⟩
instance : Zer Tryz.prog 84 (.agg [.nilp, .nils]) := ⟨by kernel_rfl⟩
instance : Zer Tryz.prog 206 (.agg [.int .i64 0, .int .i64 0, .int .i64 0, .int .i64 0, .bool false, .int .i64 0, .int .i64 0]) := ⟨by kernel_rfl⟩
instance : Zer Tryz.prog 163 (.agg [.int .i64 0]) := ⟨by kernel_rfl⟩
instance : Zer Tryz.prog 214 (.agg [.int .i64 0, .int .i64 0, .int .i64 0, .int .i64 0, .int .i64 0, .int .i64 0, .bool false, .int .i64 0, .int .i64 0]) := ⟨by kernel_rfl⟩
instance : Zer Tryz.prog 107 (.agg [.str [], .int .i64 0]) := ⟨by kernel_rfl⟩
instance : Zer Tryz.prog 72 (.agg [.int .i64 0, .str [], .int .i64 0, .int .i64 0]) := ⟨by kernel_rfl⟩
instance : Zer Tryz.prog 236 (.agg [.int .u8 0, .int .u8 0, .int .u8 0, .int .u8 0, .int .u8 0, .int .u8 0, .int .u8 0, .int .u8 0, .int .u8 0, .int .u8 0, .int .u8 0, .int .u8 0, .int .u8 0, .int .u8 0, .int .u8 0, .int .u8 0, .int .u8 0, .int .u8 0, .int .u8 0, .int .u8 0, .int .u8 0, .int .u8 0, .int .u8 0, .int .u8 0]) := ⟨by kernel_rfl⟩
instance : Zer Tryz.prog 250 (.agg [.int .u8 0, .int .u8 0, .int .u8 0, .int .u8 0, .int .u8 0, .int .u8 0, .int .u8 0, .int .u8 0, .int .u8 0, .int .u8 0, .int .u8 0, .int .u8 0, .int .u8 0, .int .u8 0, .int .u8 0, .int .u8 0, .int .u8 0, .int .u8 0, .int .u8 0, .int .u8 0, .int .u8 0, .int .u8 0, .int .u8 0, .int .u8 0, .int .u8 0, .int .u8 0, .int .u8 0, .int .u8 0, .int .u8 0, .int .u8 0, .int .u8 0, .int .u8 0, .int .u8 0, .int .u8 0, .int .u8 0, .int .u8 0, .int .u8 0, .int .u8 0, .int .u8 0, .int .u8 0, .int .u8 0, .int .u8 0, .int .u8 0, .int .u8 0, .int .u8 0, .int .u8 0, .int .u8 0, .int .u8 0, .int .u8 0, .int .u8 0, .int .u8 0, .int .u8 0, .int .u8 0, .int .u8 0, .int .u8 0, .int .u8 0, .int .u8 0, .int .u8 0, .int .u8 0, .int .u8 0, .int .u8 0, .int .u8 0, .int .u8 0, .int .u8 0, .int .u8 0]) := ⟨by kernel_rfl⟩
instance : Zer Tryz.prog 268 (.agg [.int .i64 0, .int .i64 0]) := ⟨by kernel_rfl⟩
instance : Zer Tryz.prog 4 (.bool false) := ⟨by kernel_rfl⟩
instance : Zer Tryz.prog 287 (.agg [.int .u32 0, .int .u32 0, .int .u32 0]) := ⟨by kernel_rfl⟩
instance : IsDesc Tryz.prog 3 := ⟨by kernel_rfl⟩
instance : ConI Tryz.prog 5 .u8 := ⟨by kernel_rfl⟩
instance : IsDesc Tryz.prog 5 := ⟨by kernel_rfl⟩
instance : ConI Tryz.prog 3 .i64 := ⟨by kernel_rfl⟩
instance : ConI Tryz.prog 21 .i32 := ⟨by kernel_rfl⟩
instance : IsDesc Tryz.prog 21 := ⟨by kernel_rfl⟩
instance : IsDesc Tryz.prog 82 := ⟨by kernel_rfl⟩
instance : IsDesc Tryz.prog 232 := ⟨by kernel_rfl⟩
instance : IsDesc Tryz.prog 2 := ⟨by kernel_rfl⟩
instance : ConI Tryz.prog 237 .u64 := ⟨by kernel_rfl⟩
instance : IsDesc Tryz.prog 66 := ⟨by kernel_rfl⟩
instance : IsDesc Tryz.prog 237 := ⟨by kernel_rfl⟩
instance : ConI Tryz.prog 249 .u32 := ⟨by kernel_rfl⟩
instance : IsDesc Tryz.prog 249 := ⟨by kernel_rfl⟩
instance : ConI Tryz.prog 252 .u64 := ⟨by kernel_rfl⟩
instance : IsDesc Tryz.prog 9 := ⟨by kernel_rfl⟩
instance : IsDesc Tryz.prog 252 := ⟨by kernel_rfl⟩
instance : ConI Tryz.prog 2 .i64 := ⟨by kernel_rfl⟩
instance : IsDesc Tryz.prog 282 := ⟨by kernel_rfl⟩
instance : ConI Tryz.prog 282 .u16 := ⟨by kernel_rfl⟩
instance : ElT Tryz.prog 24 27 := ⟨by kernel_rfl⟩
instance : ElT Tryz.prog 54 62 := ⟨by kernel_rfl⟩
instance : ElT Tryz.prog 66 5 := ⟨by kernel_rfl⟩
instance : ElT Tryz.prog 67 72 := ⟨by kernel_rfl⟩
instance : IsStr Tryz.prog 9 := ⟨by kernel_rfl⟩
instance : ElT Tryz.prog 25 100 := ⟨by kernel_rfl⟩
instance : ElT Tryz.prog 41 46 := ⟨by kernel_rfl⟩
instance : ElT Tryz.prog 52 115 := ⟨by kernel_rfl⟩
instance : ElT Tryz.prog 113 118 := ⟨by kernel_rfl⟩
instance : ElT Tryz.prog 53 122 := ⟨by kernel_rfl⟩
instance : ElT Tryz.prog 120 124 := ⟨by kernel_rfl⟩
instance : ElT Tryz.prog 23 9 := ⟨by kernel_rfl⟩
instance : ElT Tryz.prog 202 20 := ⟨by kernel_rfl⟩
instance : SzN Tryz.prog 20 1 := ⟨by kernel_rfl⟩
instance : ElT Tryz.prog 42 107 := ⟨by kernel_rfl⟩
instance : ElT Tryz.prog 203 206 := ⟨by kernel_rfl⟩
instance : ElT Tryz.prog 266 268 := ⟨by kernel_rfl⟩
instance : ElT Tryz.prog 278 284 := ⟨by kernel_rfl⟩
instance : SzN Tryz.prog 284 3 := ⟨by kernel_rfl⟩
instance : ElT Tryz.prog 279 287 := ⟨by kernel_rfl⟩
instance : Conc Tryz.prog 9 := ⟨by kernel_rfl⟩
instance : Conc Tryz.prog 27 := ⟨by kernel_rfl⟩
instance : Conc Tryz.prog 163 := ⟨by kernel_rfl⟩
instance : Conc Tryz.prog 257 := ⟨by kernel_rfl⟩
instance : Conc Tryz.prog 260 := ⟨by kernel_rfl⟩
instance : Conc Tryz.prog 290 := ⟨by kernel_rfl⟩
instance : App Tryz.prog 24 24 27 7 true 120 := App.of (by kernel_rfl)
instance : App Tryz.prog 25 25 100 9 true 160 := App.of (by kernel_rfl)
instance : App Tryz.prog 23 23 9 1 false 16 := App.of (by kernel_rfl)
instance : App Tryz.prog 52 52 115 3 true 64 := App.of (by kernel_rfl)
instance : App Tryz.prog 53 53 122 2 true 40 := App.of (by kernel_rfl)
instance : App Tryz.prog 54 54 62 8 true 136 := App.of (by kernel_rfl)
instance : App Tryz.prog 66 9 5 1 false 1 := App.of (by kernel_rfl)
instance : App Tryz.prog 42 42 107 2 true 24 := App.of (by kernel_rfl)
instance : App Tryz.prog 113 113 118 2 true 40 := App.of (by kernel_rfl)
instance : App Tryz.prog 41 41 46 6 true 88 := App.of (by kernel_rfl)
instance : App Tryz.prog 120 120 124 14 true 200 := App.of (by kernel_rfl)
instance : App Tryz.prog 66 66 5 1 false 1 := App.of (by kernel_rfl)
instance : App Tryz.prog 266 266 268 2 true 16 := App.of (by kernel_rfl)
theorem hasBody_all : ([2, 3, 4, 5, 6, 7, 8, 9, 10, 11, 12, 13, 14, 15, 16, 17, 18, 19, 20, 21, 22, 23, 24, 25, 26, 27, 28, 29, 30, 31, 32, 33, 34, 35, 36, 37, 38, 39, 40, 41, 42, 43, 44, 45, 46, 47, 48, 49, 50, 51, 52, 53, 54, 55, 56, 57, 58, 59, 60, 61, 62, 63, 64, 65, 66, 67, 68, 69, 70, 71, 72, 73, 74, 75, 76, 77, 78, 79, 80, 81, 82, 83, 84, 85, 86, 87, 88, 89, 90, 91, 92, 93, 94, 95, 96, 97, 98, 99, 100, 101, 102, 103, 104, 105, 106, 107, 108, 109, 110, 111, 112, 113, 114, 115, 116, 117, 118, 119, 120, 121, 122, 123, 124, 125, 126, 127, 128, 129, 130, 131, 132, 133, 134, 135, 136, 137, 138, 139, 140, 141, 142, 143, 144, 145, 146, 147, 148, 149, 150, 151, 152, 153, 154, 155, 156, 157, 158, 159, 160, 161, 162, 163, 164, 165, 166, 167, 168, 169, 170, 171, 172, 173, 174, 175, 176, 177, 178, 179, 180, 181, 182, 183, 184, 185, 186, 187, 188, 189, 190, 191, 192, 193, 194, 195, 196, 197, 198, 199, 200, 201, 202, 203, 204, 205, 206, 207, 208, 209, 210, 211, 212, 213, 214, 215, 216, 218, 219, 220, 222, 223, 224, 225, 226, 227, 228, 229, 230, 231, 232, 233, 234, 235, 236, 237, 238, 239, 240, 241, 242, 243, 244, 245, 246, 247, 248, 250, 251, 252, 253, 254, 255, 256, 257, 258, 259, 260, 261, 262, 263, 264, 265, 299].all (hasBody Tryz.prog)) = true := by kernel_rfl
end Go.Proofs.YtodiioeddlmjhaaGreatDoor
