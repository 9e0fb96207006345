/-
  What the walk asks of the program's types, one fact each.
-/
import Derived.Test.YtilldjgagokcfaaE8
import Derived.Test.YtilldjgagokcfaaRows
import Derived.KernelRfl
set_option linter.unusedVariables false
set_option linter.unusedSimpArgs false
namespace Go.Proofs.Ytilldjgagokcfaa
open Go.RowKit Go.Ev
set_option maxRecDepth 100000

instance : LdAgg Try.prog 29 5 := ⟨by kernel_rfl⟩
instance : LdAgg Try.prog 50 10 := ⟨by kernel_rfl⟩
instance : LdOne Try.prog 26 := ⟨by kernel_rfl⟩
instance : LdAgg Try.prog 63 10 := ⟨by kernel_rfl⟩
instance : LdOne Try.prog 58 := ⟨by kernel_rfl⟩
instance : LdAgg Try.prog 61 7 := ⟨by kernel_rfl⟩
instance : LdAgg Try.prog 40 3 := ⟨by kernel_rfl⟩
instance : LdOne Try.prog 3 := ⟨by kernel_rfl⟩
instance : LdOne Try.prog 25 := ⟨by kernel_rfl⟩
instance : LdOne Try.prog 32 := ⟨by kernel_rfl⟩
instance : LdOne Try.prog 97 := ⟨by kernel_rfl⟩
instance : LdOne Try.prog 27 := ⟨by kernel_rfl⟩
instance : LdOne Try.prog 44 := ⟨by kernel_rfl⟩
instance : LdOne Try.prog 45 := ⟨by kernel_rfl⟩
instance : LdOne Try.prog 9 := ⟨by kernel_rfl⟩
instance : LdOne Try.prog 46 := ⟨by kernel_rfl⟩
instance : LdAgg Try.prog 173 3 := ⟨by kernel_rfl⟩
instance : LdOne Try.prog 4 := ⟨by kernel_rfl⟩
instance : LdOne Try.prog 83 := ⟨by kernel_rfl⟩
instance : LdAgg Try.prog 158 4 := ⟨by kernel_rfl⟩
instance : LdOne Try.prog 77 := ⟨by kernel_rfl⟩
instance : LdOne Try.prog 113 := ⟨by kernel_rfl⟩
instance : LdOne Try.prog 115 := ⟨by kernel_rfl⟩
instance : LdAgg Try.prog 122 5 := ⟨by kernel_rfl⟩
instance : LdOne Try.prog 79 := ⟨by kernel_rfl⟩
instance : LdOne Try.prog 36 := ⟨by kernel_rfl⟩
instance : LdAgg Try.prog 129 3 := ⟨by kernel_rfl⟩
instance : LdOne Try.prog 37 := ⟨by kernel_rfl⟩
instance : LdAgg Try.prog 135 2 := ⟨by kernel_rfl⟩
instance : LdOne Try.prog 38 := ⟨by kernel_rfl⟩
instance : LdAgg Try.prog 141 5 := ⟨by kernel_rfl⟩
instance : LdOne Try.prog 145 := ⟨by kernel_rfl⟩
instance : LdOne Try.prog 139 := ⟨by kernel_rfl⟩
instance : LdAgg Try.prog 149 4 := ⟨by kernel_rfl⟩
instance : LdOne Try.prog 147 := ⟨by kernel_rfl⟩
instance : LdOne Try.prog 81 := ⟨by kernel_rfl⟩
instance : LdOne Try.prog 119 := ⟨by kernel_rfl⟩
instance : LdOne Try.prog 120 := ⟨by kernel_rfl⟩
instance : LdAgg Try.prog 196 4 := ⟨by kernel_rfl⟩
instance : LdOne Try.prog 91 := ⟨by kernel_rfl⟩
instance : LdOne Try.prog 55 := ⟨by kernel_rfl⟩
instance : LdAgg Try.prog 179 8 := ⟨by kernel_rfl⟩
instance : LdOne Try.prog 57 := ⟨by kernel_rfl⟩
instance : LdOne Try.prog 127 := ⟨by kernel_rfl⟩
instance : LdAgg Try.prog 207 2 := ⟨by kernel_rfl⟩
instance : LdOne Try.prog 205 := ⟨by kernel_rfl⟩
instance : LdAgg Try.prog 216 6 := ⟨by kernel_rfl⟩
instance : LdOne Try.prog 133 := ⟨by kernel_rfl⟩
instance : LdAgg Try.prog 223 14 := ⟨by kernel_rfl⟩
instance : LdOne Try.prog 56 := ⟨by kernel_rfl⟩
instance : LdOne Try.prog 59 := ⟨by kernel_rfl⟩
instance : LdAgg Try.prog 243 9 := ⟨by kernel_rfl⟩
instance : LdOne Try.prog 211 := ⟨by kernel_rfl⟩
instance : LdOne Try.prog 212 := ⟨by kernel_rfl⟩
instance : LdAgg Try.prog 256 2 := ⟨by kernel_rfl⟩
instance : LdOne Try.prog 98 := ⟨by kernel_rfl⟩
instance : SzN Try.prog 29 5 := ⟨by kernel_rfl⟩
instance : SzN Try.prog 40 3 := ⟨by kernel_rfl⟩
instance : SzN Try.prog 63 10 := ⟨by kernel_rfl⟩
instance : SzN Try.prog 61 7 := ⟨by kernel_rfl⟩
instance : SzN Try.prog 50 10 := ⟨by kernel_rfl⟩
instance : SzN Try.prog 97 1 := ⟨by kernel_rfl⟩
instance : SzN Try.prog 158 4 := ⟨by kernel_rfl⟩
instance : SzN Try.prog 173 3 := ⟨by kernel_rfl⟩
instance : SzN Try.prog 3 1 := ⟨by kernel_rfl⟩
instance : SzN Try.prog 32 1 := ⟨by kernel_rfl⟩
instance : SzN Try.prog 25 1 := ⟨by kernel_rfl⟩
instance : SzN Try.prog 9 1 := ⟨by kernel_rfl⟩
instance : SzN Try.prog 4 1 := ⟨by kernel_rfl⟩
instance : SzN Try.prog 26 1 := ⟨by kernel_rfl⟩
instance : SzN Try.prog 27 1 := ⟨by kernel_rfl⟩
instance : SzN Try.prog 36 1 := ⟨by kernel_rfl⟩
instance : SzN Try.prog 37 1 := ⟨by kernel_rfl⟩
instance : SzN Try.prog 38 1 := ⟨by kernel_rfl⟩
instance : SzN Try.prog 139 1 := ⟨by kernel_rfl⟩
instance : SzN Try.prog 147 1 := ⟨by kernel_rfl⟩
instance : SzN Try.prog 44 1 := ⟨by kernel_rfl⟩
instance : SzN Try.prog 122 5 := ⟨by kernel_rfl⟩
instance : SzN Try.prog 196 4 := ⟨by kernel_rfl⟩
instance : SzN Try.prog 83 1 := ⟨by kernel_rfl⟩
instance : SzN Try.prog 55 1 := ⟨by kernel_rfl⟩
instance : SzN Try.prog 109 1 := ⟨by kernel_rfl⟩
instance : SzN Try.prog 186 0 := ⟨by kernel_rfl⟩
instance : SzN Try.prog 119 1 := ⟨by kernel_rfl⟩
instance : SzN Try.prog 120 1 := ⟨by kernel_rfl⟩
instance : SzN Try.prog 57 1 := ⟨by kernel_rfl⟩
instance : SzN Try.prog 127 1 := ⟨by kernel_rfl⟩
instance : SzN Try.prog 205 1 := ⟨by kernel_rfl⟩
instance : SzN Try.prog 216 6 := ⟨by kernel_rfl⟩
instance : SzN Try.prog 133 1 := ⟨by kernel_rfl⟩
instance : SzN Try.prog 45 1 := ⟨by kernel_rfl⟩
instance : SzN Try.prog 46 1 := ⟨by kernel_rfl⟩
instance : SzN Try.prog 56 1 := ⟨by kernel_rfl⟩
instance : SzN Try.prog 58 1 := ⟨by kernel_rfl⟩
instance : SzN Try.prog 59 1 := ⟨by kernel_rfl⟩
instance : SzN Try.prog 243 9 := ⟨by kernel_rfl⟩
instance : SzN Try.prog 211 1 := ⟨by kernel_rfl⟩
instance : SzN Try.prog 212 1 := ⟨by kernel_rfl⟩
instance : SzN Try.prog 98 1 := ⟨by kernel_rfl⟩
instance : Fld Try.prog 29 3 3 := ⟨fun p => by kernel_rfl⟩
instance : Fld Try.prog 63 3 3 := ⟨fun p => by kernel_rfl⟩
instance : Fld Try.prog 61 5 5 := ⟨fun p => by kernel_rfl⟩
instance : Fld Try.prog 29 1 1 := ⟨fun p => by kernel_rfl⟩
instance : Fld Try.prog 29 0 0 := ⟨fun p => by kernel_rfl⟩
instance : Fld Try.prog 29 2 2 := ⟨fun p => by kernel_rfl⟩
instance : Fld Try.prog 29 4 4 := ⟨fun p => by kernel_rfl⟩
instance : Fld Try.prog 40 0 0 := ⟨fun p => by kernel_rfl⟩
instance : Fld Try.prog 40 1 1 := ⟨fun p => by kernel_rfl⟩
instance : Fld Try.prog 40 2 2 := ⟨fun p => by kernel_rfl⟩
instance : Fld Try.prog 104 0 0 := ⟨fun p => by kernel_rfl⟩
instance : Fld Try.prog 102 0 0 := ⟨fun p => by kernel_rfl⟩
instance : Fld Try.prog 50 0 0 := ⟨fun p => by kernel_rfl⟩
instance : Fld Try.prog 50 1 1 := ⟨fun p => by kernel_rfl⟩
instance : Fld Try.prog 50 2 2 := ⟨fun p => by kernel_rfl⟩
instance : Fld Try.prog 50 3 3 := ⟨fun p => by kernel_rfl⟩
instance : Fld Try.prog 50 4 9 := ⟨fun p => by kernel_rfl⟩
instance : Fld Try.prog 48 0 0 := ⟨fun p => by kernel_rfl⟩
instance : Fld Try.prog 48 1 1 := ⟨fun p => by kernel_rfl⟩
instance : Fld Try.prog 48 2 2 := ⟨fun p => by kernel_rfl⟩
instance : Fld Try.prog 173 0 0 := ⟨fun p => by kernel_rfl⟩
instance : Fld Try.prog 173 1 1 := ⟨fun p => by kernel_rfl⟩
instance : Fld Try.prog 173 2 2 := ⟨fun p => by kernel_rfl⟩
instance : Fld Try.prog 48 3 3 := ⟨fun p => by kernel_rfl⟩
instance : Fld Try.prog 48 4 4 := ⟨fun p => by kernel_rfl⟩
instance : Fld Try.prog 48 5 5 := ⟨fun p => by kernel_rfl⟩
instance : Fld Try.prog 85 0 0 := ⟨fun p => by kernel_rfl⟩
instance : Fld Try.prog 63 0 0 := ⟨fun p => by kernel_rfl⟩
instance : Fld Try.prog 63 1 1 := ⟨fun p => by kernel_rfl⟩
instance : Fld Try.prog 63 2 2 := ⟨fun p => by kernel_rfl⟩
instance : Fld Try.prog 102 2 3 := ⟨fun p => by kernel_rfl⟩
instance : Fld Try.prog 102 1 2 := ⟨fun p => by kernel_rfl⟩
instance : Fld Try.prog 104 1 4 := ⟨fun p => by kernel_rfl⟩
instance : Fld Try.prog 122 0 0 := ⟨fun p => by kernel_rfl⟩
instance : Fld Try.prog 122 1 1 := ⟨fun p => by kernel_rfl⟩
instance : Fld Try.prog 122 2 2 := ⟨fun p => by kernel_rfl⟩
instance : Fld Try.prog 122 3 3 := ⟨fun p => by kernel_rfl⟩
instance : Fld Try.prog 122 4 4 := ⟨fun p => by kernel_rfl⟩
instance : Fld Try.prog 129 0 0 := ⟨fun p => by kernel_rfl⟩
instance : Fld Try.prog 129 1 1 := ⟨fun p => by kernel_rfl⟩
instance : Fld Try.prog 129 2 2 := ⟨fun p => by kernel_rfl⟩
instance : Fld Try.prog 135 0 0 := ⟨fun p => by kernel_rfl⟩
instance : Fld Try.prog 135 1 1 := ⟨fun p => by kernel_rfl⟩
instance : Fld Try.prog 141 0 0 := ⟨fun p => by kernel_rfl⟩
instance : Fld Try.prog 141 1 1 := ⟨fun p => by kernel_rfl⟩
instance : Fld Try.prog 141 2 2 := ⟨fun p => by kernel_rfl⟩
instance : Fld Try.prog 141 3 3 := ⟨fun p => by kernel_rfl⟩
instance : Fld Try.prog 141 4 4 := ⟨fun p => by kernel_rfl⟩
instance : Fld Try.prog 149 0 0 := ⟨fun p => by kernel_rfl⟩
instance : Fld Try.prog 149 1 1 := ⟨fun p => by kernel_rfl⟩
instance : Fld Try.prog 149 2 2 := ⟨fun p => by kernel_rfl⟩
instance : Fld Try.prog 149 3 3 := ⟨fun p => by kernel_rfl⟩
instance : Fld Try.prog 100 1 1 := ⟨fun p => by kernel_rfl⟩
instance : Fld Try.prog 196 0 0 := ⟨fun p => by kernel_rfl⟩
instance : Fld Try.prog 196 1 1 := ⟨fun p => by kernel_rfl⟩
instance : Fld Try.prog 196 2 2 := ⟨fun p => by kernel_rfl⟩
instance : Fld Try.prog 196 3 3 := ⟨fun p => by kernel_rfl⟩
instance : Fld Try.prog 179 0 0 := ⟨fun p => by kernel_rfl⟩
instance : Fld Try.prog 179 1 1 := ⟨fun p => by kernel_rfl⟩
instance : Fld Try.prog 61 0 0 := ⟨fun p => by kernel_rfl⟩
instance : Fld Try.prog 61 1 1 := ⟨fun p => by kernel_rfl⟩
instance : Fld Try.prog 61 2 2 := ⟨fun p => by kernel_rfl⟩
instance : Fld Try.prog 61 3 3 := ⟨fun p => by kernel_rfl⟩
instance : Fld Try.prog 61 4 4 := ⟨fun p => by kernel_rfl⟩
instance : Fld Try.prog 61 6 6 := ⟨fun p => by kernel_rfl⟩
instance : Fld Try.prog 109 0 0 := ⟨fun p => by kernel_rfl⟩
instance : Fld Try.prog 207 0 0 := ⟨fun p => by kernel_rfl⟩
instance : Fld Try.prog 207 1 1 := ⟨fun p => by kernel_rfl⟩
instance : Fld Try.prog 216 0 0 := ⟨fun p => by kernel_rfl⟩
instance : Fld Try.prog 216 1 1 := ⟨fun p => by kernel_rfl⟩
instance : Fld Try.prog 216 2 2 := ⟨fun p => by kernel_rfl⟩
instance : Fld Try.prog 216 3 3 := ⟨fun p => by kernel_rfl⟩
instance : Fld Try.prog 216 4 4 := ⟨fun p => by kernel_rfl⟩
instance : Fld Try.prog 214 0 0 := ⟨fun p => by kernel_rfl⟩
instance : Fld Try.prog 214 1 1 := ⟨fun p => by kernel_rfl⟩
instance : Fld Try.prog 223 0 0 := ⟨fun p => by kernel_rfl⟩
instance : Fld Try.prog 223 1 1 := ⟨fun p => by kernel_rfl⟩
instance : Fld Try.prog 223 2 7 := ⟨fun p => by kernel_rfl⟩
instance : Fld Try.prog 223 3 13 := ⟨fun p => by kernel_rfl⟩
instance : Fld Try.prog 243 0 0 := ⟨fun p => by kernel_rfl⟩
instance : Fld Try.prog 243 1 1 := ⟨fun p => by kernel_rfl⟩
instance : Fld Try.prog 243 2 2 := ⟨fun p => by kernel_rfl⟩
instance : Fld Try.prog 256 0 0 := ⟨fun p => by kernel_rfl⟩
instance : Fld Try.prog 256 1 1 := ⟨fun p => by kernel_rfl⟩
instance : Fld Try.prog 100 0 0 := ⟨fun p => by kernel_rfl⟩
instance : Zer Try.prog 29 (.agg [.int .i64 0, .int .i64 0, .str [], .nils, .nils]) := ⟨by kernel_rfl⟩
instance : Zer Try.prog 40 (.agg [.nils, .nils, .nils]) := ⟨by kernel_rfl⟩
instance : Zer Try.prog 63 (.agg [.nils, .nils, .nils, .int .i64 0, .int .i64 0, .str [], .str [], .nils, .nils, .nils]) := ⟨by kernel_rfl⟩
instance : Zer Try.prog 50 (.agg [.nils, .nils, .int .i64 0, .int .i64 0, .str [], .nils, .int .i64 0, .int .i64 0, .int .i64 0, .bool false]) := ⟨by kernel_rfl⟩
instance : Zer Try.prog 97 (.nilp) := ⟨by kernel_rfl⟩
instance : Zer Try.prog 158 (.agg [.int .u8 0, .int .u8 0, .int .u8 0, .int .u8 0]) := ⟨by kernel_rfl⟩
instance : Zer Try.prog 173 (.agg [.str [], .int .i64 0, .int .i64 0]) := ⟨by kernel_rfl⟩
instance : Zer Try.prog 3 (.int .i64 0) := ⟨by kernel_rfl⟩
instance : Zer Try.prog 32 (.int .i64 0) := ⟨by kernel_rfl⟩
instance : Zer Try.prog 4 (.bool false) := ⟨by kernel_rfl⟩
instance : Zer Try.prog 122 (.agg [.int .i64 0, .str [], .int .i64 0, .nils, .nils]) := ⟨by kernel_rfl⟩
instance : Zer Try.prog 129 (.agg [.str [], .nils, .nils]) := ⟨by kernel_rfl⟩
instance : Zer Try.prog 135 (.agg [.str [], .nils]) := ⟨by kernel_rfl⟩
instance : Zer Try.prog 141 (.agg [.int .i64 0, .int .i64 0, .int .i64 0, .bool false, .nils]) := ⟨by kernel_rfl⟩
instance : Zer Try.prog 149 (.agg [.int .i64 0, .int .i64 0, .int .i64 0, .str []]) := ⟨by kernel_rfl⟩
instance : Zer Try.prog 196 (.agg [.int .i64 0, .int .i64 0, .nils, .nils]) := ⟨by kernel_rfl⟩
instance : Zer Try.prog 179 (.agg [.str [], .int .i64 0, .int .i64 0, .str [], .str [], .nils, .nils, .nils]) := ⟨by kernel_rfl⟩
instance : Zer Try.prog 109 (.agg [.int .i64 0]) := ⟨by kernel_rfl⟩
instance : Zer Try.prog 186 (.agg []) := ⟨by kernel_rfl⟩
instance : Zer Try.prog 9 (.str []) := ⟨by kernel_rfl⟩
instance : Zer Try.prog 207 (.agg [.str [], .nils]) := ⟨by kernel_rfl⟩
instance : Zer Try.prog 216 (.agg [.int .i64 0, .int .i64 0, .str [], .nils, .nils, .int .i64 0]) := ⟨by kernel_rfl⟩
instance : Zer Try.prog 223 (.agg [.str [], .int .i64 0, .int .i64 0, .str [], .nils, .nils, .int .i64 0, .int .i64 0, .int .i64 0, .str [], .nils, .nils, .int .i64 0, .bool false]) := ⟨by kernel_rfl⟩
instance : Zer Try.prog 61 (.agg [.int .i64 0, .int .i64 0, .str [], .str [], .nils, .nils, .nils]) := ⟨by kernel_rfl⟩
instance : Zer Try.prog 243 (.agg [.str [], .nils, .int .i64 0, .int .i64 0, .str [], .str [], .nils, .nils, .nils]) := ⟨by kernel_rfl⟩
instance : Zer Try.prog 256 (.agg [.str [], .int .i64 0]) := ⟨by kernel_rfl⟩
instance : IsDesc Try.prog 5 := ⟨by kernel_rfl⟩
instance : ConI Try.prog 3 .i64 := ⟨by kernel_rfl⟩
instance : IsDesc Try.prog 67 := ⟨by kernel_rfl⟩
instance : IsDesc Try.prog 3 := ⟨by kernel_rfl⟩
instance : ConI Try.prog 5 .u8 := ⟨by kernel_rfl⟩
instance : IsDesc Try.prog 83 := ⟨by kernel_rfl⟩
instance : ConI Try.prog 236 .u64 := ⟨by kernel_rfl⟩
instance : IsDesc Try.prog 236 := ⟨by kernel_rfl⟩
instance : IsDesc Try.prog 98 := ⟨by kernel_rfl⟩
instance : IsDesc Try.prog 260 := ⟨by kernel_rfl⟩
instance : IsStr Try.prog 9 := ⟨by kernel_rfl⟩
instance : ElT Try.prog 26 29 := ⟨by kernel_rfl⟩
instance : ElT Try.prog 58 61 := ⟨by kernel_rfl⟩
instance : ElT Try.prog 83 5 := ⟨by kernel_rfl⟩
instance : SzN Try.prog 5 1 := ⟨by kernel_rfl⟩
instance : ElT Try.prog 92 32 := ⟨by kernel_rfl⟩
instance : ElT Try.prog 188 113 := ⟨by kernel_rfl⟩
instance : SzN Try.prog 113 1 := ⟨by kernel_rfl⟩
instance : ElT Try.prog 189 115 := ⟨by kernel_rfl⟩
instance : SzN Try.prog 115 1 := ⟨by kernel_rfl⟩
instance : ElT Try.prog 228 145 := ⟨by kernel_rfl⟩
instance : SzN Try.prog 145 1 := ⟨by kernel_rfl⟩
instance : ElT Try.prog 46 173 := ⟨by kernel_rfl⟩
instance : ElT Try.prog 27 122 := ⟨by kernel_rfl⟩
instance : ElT Try.prog 36 129 := ⟨by kernel_rfl⟩
instance : SzN Try.prog 129 3 := ⟨by kernel_rfl⟩
instance : ElT Try.prog 37 135 := ⟨by kernel_rfl⟩
instance : SzN Try.prog 135 2 := ⟨by kernel_rfl⟩
instance : ElT Try.prog 38 141 := ⟨by kernel_rfl⟩
instance : SzN Try.prog 141 5 := ⟨by kernel_rfl⟩
instance : ElT Try.prog 139 149 := ⟨by kernel_rfl⟩
instance : SzN Try.prog 149 4 := ⟨by kernel_rfl⟩
instance : ElT Try.prog 44 3 := ⟨by kernel_rfl⟩
instance : ElT Try.prog 120 196 := ⟨by kernel_rfl⟩
instance : ElT Try.prog 55 179 := ⟨by kernel_rfl⟩
instance : SzN Try.prog 179 8 := ⟨by kernel_rfl⟩
instance : ElT Try.prog 57 9 := ⟨by kernel_rfl⟩
instance : ElT Try.prog 127 207 := ⟨by kernel_rfl⟩
instance : SzN Try.prog 207 2 := ⟨by kernel_rfl⟩
instance : ElT Try.prog 205 216 := ⟨by kernel_rfl⟩
instance : ElT Try.prog 133 223 := ⟨by kernel_rfl⟩
instance : SzN Try.prog 223 14 := ⟨by kernel_rfl⟩
instance : ElT Try.prog 59 243 := ⟨by kernel_rfl⟩
instance : ElT Try.prog 212 256 := ⟨by kernel_rfl⟩
instance : SzN Try.prog 256 2 := ⟨by kernel_rfl⟩
instance : Conc Try.prog 109 := ⟨by kernel_rfl⟩
instance : Conc Try.prog 186 := ⟨by kernel_rfl⟩
instance : App Try.prog 26 26 29 5 true 80 := App.of (by kernel_rfl)
instance : App Try.prog 27 27 122 5 true 80 := App.of (by kernel_rfl)
instance : App Try.prog 36 36 129 3 true 64 := App.of (by kernel_rfl)
instance : App Try.prog 37 37 135 2 true 40 := App.of (by kernel_rfl)
instance : App Try.prog 38 38 141 5 true 56 := App.of (by kernel_rfl)
instance : App Try.prog 139 139 149 4 true 40 := App.of (by kernel_rfl)
instance : App Try.prog 83 83 5 1 false 1 := App.of (by kernel_rfl)
instance : App Try.prog 44 44 3 1 false 8 := App.of (by kernel_rfl)
instance : App Try.prog 83 9 5 1 false 1 := App.of (by kernel_rfl)
instance : App Try.prog 55 55 179 8 true 136 := App.of (by kernel_rfl)
instance : App Try.prog 120 120 196 4 true 64 := App.of (by kernel_rfl)
instance : App Try.prog 57 57 9 1 false 16 := App.of (by kernel_rfl)
instance : App Try.prog 127 127 207 2 true 40 := App.of (by kernel_rfl)
instance : App Try.prog 205 205 216 6 true 88 := App.of (by kernel_rfl)
instance : App Try.prog 133 133 223 14 true 200 := App.of (by kernel_rfl)
instance : App Try.prog 46 46 173 3 true 32 := App.of (by kernel_rfl)
instance : App Try.prog 58 58 61 7 true 120 := App.of (by kernel_rfl)
instance : App Try.prog 59 59 243 9 true 160 := App.of (by kernel_rfl)
instance : App Try.prog 212 212 256 2 true 24 := App.of (by kernel_rfl)

theorem hasBody_all : ([3, 4, 5, 6, 7, 8, 9, 10, 11, 12, 13, 14, 15, 16, 17, 18, 19, 20, 21, 22, 23, 24, 25, 26, 27, 28, 29, 30, 31, 32, 33, 34, 35, 36, 37, 38, 39, 40, 41, 42, 43, 44, 45, 46, 47, 48, 49, 50, 51, 52, 53, 54, 55, 56, 57, 58, 59, 60, 61, 62, 63, 64, 65, 66, 67, 68, 69, 70, 71, 72, 73, 74, 75, 76, 77, 78, 79, 80, 81, 82, 83, 84, 85, 86, 87, 88, 89, 90, 91, 92, 93, 94, 95, 96, 97, 98, 99, 100, 101, 102, 103, 104, 105, 106, 107, 108, 109, 110, 111, 112, 113, 114, 115, 116].all (hasBody Try.prog)) = true := by kernel_rfl

end Go.Proofs.Ytilldjgagokcfaa
