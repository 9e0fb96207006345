import Derived.Test.YtilldjgagokcfaaGreatE8
import Derived.Test.YtilldjgagokcfaaGreatRows
import Derived.KernelRfl
set_option linter.unusedVariables false
set_option linter.unusedSimpArgs false
namespace Go.Proofs.YtilldjgagokcfaaGreat
open Go.RowKit Go.Ev
set_option maxRecDepth 100000
instance : LdAgg Tryz.prog 32 10 := ⟨by kernel_rfl⟩
instance : LdAgg Tryz.prog 35 3 := ⟨by kernel_rfl⟩
instance : LdAgg Tryz.prog 55 10 := ⟨by kernel_rfl⟩
instance : LdAgg Tryz.prog 62 5 := ⟨by kernel_rfl⟩
instance : LdOne Tryz.prog 3 := ⟨by kernel_rfl⟩
instance : LdOne Tryz.prog 59 := ⟨by kernel_rfl⟩
instance : LdOne Tryz.prog 102 := ⟨by kernel_rfl⟩
instance : LdOne Tryz.prog 22 := ⟨by kernel_rfl⟩
instance : LdOne Tryz.prog 23 := ⟨by kernel_rfl⟩
instance : LdOne Tryz.prog 24 := ⟨by kernel_rfl⟩
instance : LdOne Tryz.prog 9 := ⟨by kernel_rfl⟩
instance : LdAgg Tryz.prog 30 7 := ⟨by kernel_rfl⟩
instance : LdOne Tryz.prog 73 := ⟨by kernel_rfl⟩
instance : LdOne Tryz.prog 33 := ⟨by kernel_rfl⟩
instance : LdAgg Tryz.prog 148 5 := ⟨by kernel_rfl⟩
instance : LdOne Tryz.prog 4 := ⟨by kernel_rfl⟩
instance : LdOne Tryz.prog 146 := ⟨by kernel_rfl⟩
instance : LdOne Tryz.prog 156 := ⟨by kernel_rfl⟩
instance : LdAgg Tryz.prog 132 8 := ⟨by kernel_rfl⟩
instance : LdAgg Tryz.prog 158 4 := ⟨by kernel_rfl⟩
instance : LdOne Tryz.prog 51 := ⟨by kernel_rfl⟩
instance : LdAgg Tryz.prog 192 3 := ⟨by kernel_rfl⟩
instance : LdOne Tryz.prog 71 := ⟨by kernel_rfl⟩
instance : LdAgg Tryz.prog 121 3 := ⟨by kernel_rfl⟩
instance : LdAgg Tryz.prog 127 2 := ⟨by kernel_rfl⟩
instance : LdOne Tryz.prog 136 := ⟨by kernel_rfl⟩
instance : LdOne Tryz.prog 26 := ⟨by kernel_rfl⟩
instance : LdOne Tryz.prog 119 := ⟨by kernel_rfl⟩
instance : LdOne Tryz.prog 210 := ⟨by kernel_rfl⟩
instance : LdOne Tryz.prog 125 := ⟨by kernel_rfl⟩
instance : LdAgg Tryz.prog 228 14 := ⟨by kernel_rfl⟩
instance : LdAgg Tryz.prog 221 6 := ⟨by kernel_rfl⟩
instance : LdOne Tryz.prog 25 := ⟨by kernel_rfl⟩
instance : LdOne Tryz.prog 27 := ⟨by kernel_rfl⟩
instance : LdOne Tryz.prog 28 := ⟨by kernel_rfl⟩
instance : LdOne Tryz.prog 79 := ⟨by kernel_rfl⟩
instance : LdOne Tryz.prog 152 := ⟨by kernel_rfl⟩
instance : LdOne Tryz.prog 154 := ⟨by kernel_rfl⟩
instance : LdAgg Tryz.prog 113 4 := ⟨by kernel_rfl⟩
instance : LdAgg Tryz.prog 212 2 := ⟨by kernel_rfl⟩
instance : LdAgg Tryz.prog 241 9 := ⟨by kernel_rfl⟩
instance : LdOne Tryz.prog 95 := ⟨by kernel_rfl⟩
instance : LdOne Tryz.prog 48 := ⟨by kernel_rfl⟩
instance : LdAgg Tryz.prog 181 5 := ⟨by kernel_rfl⟩
instance : LdOne Tryz.prog 49 := ⟨by kernel_rfl⟩
instance : LdOne Tryz.prog 179 := ⟨by kernel_rfl⟩
instance : LdAgg Tryz.prog 259 4 := ⟨by kernel_rfl⟩
instance : LdOne Tryz.prog 50 := ⟨by kernel_rfl⟩
instance : LdOne Tryz.prog 98 := ⟨by kernel_rfl⟩
instance : LdOne Tryz.prog 60 := ⟨by kernel_rfl⟩
instance : LdOne Tryz.prog 216 := ⟨by kernel_rfl⟩
instance : LdOne Tryz.prog 217 := ⟨by kernel_rfl⟩
instance : LdAgg Tryz.prog 276 2 := ⟨by kernel_rfl⟩
instance : LdOne Tryz.prog 178 := ⟨by kernel_rfl⟩
instance : LdOne Tryz.prog 103 := ⟨by kernel_rfl⟩
instance : LdOne Tryz.prog 36 := ⟨by kernel_rfl⟩
instance : SzN Tryz.prog 32 10 := ⟨by kernel_rfl⟩
instance : SzN Tryz.prog 35 3 := ⟨by kernel_rfl⟩
instance : SzN Tryz.prog 55 10 := ⟨by kernel_rfl⟩
instance : SzN Tryz.prog 62 5 := ⟨by kernel_rfl⟩
instance : SzN Tryz.prog 102 1 := ⟨by kernel_rfl⟩
instance : SzN Tryz.prog 113 4 := ⟨by kernel_rfl⟩
instance : SzN Tryz.prog 148 5 := ⟨by kernel_rfl⟩
instance : SzN Tryz.prog 22 1 := ⟨by kernel_rfl⟩
instance : SzN Tryz.prog 23 1 := ⟨by kernel_rfl⟩
instance : SzN Tryz.prog 9 1 := ⟨by kernel_rfl⟩
instance : SzN Tryz.prog 30 7 := ⟨by kernel_rfl⟩
instance : SzN Tryz.prog 24 1 := ⟨by kernel_rfl⟩
instance : SzN Tryz.prog 3 1 := ⟨by kernel_rfl⟩
instance : SzN Tryz.prog 4 1 := ⟨by kernel_rfl⟩
instance : SzN Tryz.prog 156 1 := ⟨by kernel_rfl⟩
instance : SzN Tryz.prog 146 1 := ⟨by kernel_rfl⟩
instance : SzN Tryz.prog 33 1 := ⟨by kernel_rfl⟩
instance : SzN Tryz.prog 48 1 := ⟨by kernel_rfl⟩
instance : SzN Tryz.prog 49 1 := ⟨by kernel_rfl⟩
instance : SzN Tryz.prog 50 1 := ⟨by kernel_rfl⟩
instance : SzN Tryz.prog 51 1 := ⟨by kernel_rfl⟩
instance : SzN Tryz.prog 59 1 := ⟨by kernel_rfl⟩
instance : SzN Tryz.prog 60 1 := ⟨by kernel_rfl⟩
instance : SzN Tryz.prog 36 1 := ⟨by kernel_rfl⟩
instance : SzN Tryz.prog 228 14 := ⟨by kernel_rfl⟩
instance : SzN Tryz.prog 73 1 := ⟨by kernel_rfl⟩
instance : SzN Tryz.prog 26 1 := ⟨by kernel_rfl⟩
instance : SzN Tryz.prog 210 1 := ⟨by kernel_rfl⟩
instance : SzN Tryz.prog 119 1 := ⟨by kernel_rfl⟩
instance : SzN Tryz.prog 221 6 := ⟨by kernel_rfl⟩
instance : SzN Tryz.prog 125 1 := ⟨by kernel_rfl⟩
instance : SzN Tryz.prog 25 1 := ⟨by kernel_rfl⟩
instance : SzN Tryz.prog 27 1 := ⟨by kernel_rfl⟩
instance : SzN Tryz.prog 28 1 := ⟨by kernel_rfl⟩
instance : SzN Tryz.prog 178 1 := ⟨by kernel_rfl⟩
instance : SzN Tryz.prog 179 1 := ⟨by kernel_rfl⟩
instance : SzN Tryz.prog 192 3 := ⟨by kernel_rfl⟩
instance : SzN Tryz.prog 169 1 := ⟨by kernel_rfl⟩
instance : SzN Tryz.prog 202 0 := ⟨by kernel_rfl⟩
instance : SzN Tryz.prog 241 9 := ⟨by kernel_rfl⟩
instance : SzN Tryz.prog 216 1 := ⟨by kernel_rfl⟩
instance : SzN Tryz.prog 217 1 := ⟨by kernel_rfl⟩
instance : SzN Tryz.prog 181 5 := ⟨by kernel_rfl⟩
instance : SzN Tryz.prog 259 4 := ⟨by kernel_rfl⟩
instance : SzN Tryz.prog 103 1 := ⟨by kernel_rfl⟩
instance : Fld Tryz.prog 62 1 1 := ⟨fun p => by kernel_rfl⟩
instance : Fld Tryz.prog 62 0 0 := ⟨fun p => by kernel_rfl⟩
instance : Fld Tryz.prog 109 0 0 := ⟨fun p => by kernel_rfl⟩
instance : Fld Tryz.prog 107 0 0 := ⟨fun p => by kernel_rfl⟩
instance : Fld Tryz.prog 32 0 0 := ⟨fun p => by kernel_rfl⟩
instance : Fld Tryz.prog 32 1 1 := ⟨fun p => by kernel_rfl⟩
instance : Fld Tryz.prog 32 2 2 := ⟨fun p => by kernel_rfl⟩
instance : Fld Tryz.prog 32 3 3 := ⟨fun p => by kernel_rfl⟩
instance : Fld Tryz.prog 132 0 0 := ⟨fun p => by kernel_rfl⟩
instance : Fld Tryz.prog 132 1 1 := ⟨fun p => by kernel_rfl⟩
instance : Fld Tryz.prog 75 0 0 := ⟨fun p => by kernel_rfl⟩
instance : Fld Tryz.prog 35 0 0 := ⟨fun p => by kernel_rfl⟩
instance : Fld Tryz.prog 35 1 1 := ⟨fun p => by kernel_rfl⟩
instance : Fld Tryz.prog 35 2 2 := ⟨fun p => by kernel_rfl⟩
instance : Fld Tryz.prog 148 0 0 := ⟨fun p => by kernel_rfl⟩
instance : Fld Tryz.prog 148 1 1 := ⟨fun p => by kernel_rfl⟩
instance : Fld Tryz.prog 148 2 2 := ⟨fun p => by kernel_rfl⟩
instance : Fld Tryz.prog 148 3 3 := ⟨fun p => by kernel_rfl⟩
instance : Fld Tryz.prog 148 4 4 := ⟨fun p => by kernel_rfl⟩
instance : Fld Tryz.prog 158 0 0 := ⟨fun p => by kernel_rfl⟩
instance : Fld Tryz.prog 158 1 1 := ⟨fun p => by kernel_rfl⟩
instance : Fld Tryz.prog 158 2 2 := ⟨fun p => by kernel_rfl⟩
instance : Fld Tryz.prog 158 3 3 := ⟨fun p => by kernel_rfl⟩
instance : Fld Tryz.prog 171 2 2 := ⟨fun p => by kernel_rfl⟩
instance : Fld Tryz.prog 171 1 1 := ⟨fun p => by kernel_rfl⟩
instance : Fld Tryz.prog 171 0 0 := ⟨fun p => by kernel_rfl⟩
instance : Fld Tryz.prog 55 0 0 := ⟨fun p => by kernel_rfl⟩
instance : Fld Tryz.prog 55 1 1 := ⟨fun p => by kernel_rfl⟩
instance : Fld Tryz.prog 55 2 2 := ⟨fun p => by kernel_rfl⟩
instance : Fld Tryz.prog 55 3 3 := ⟨fun p => by kernel_rfl⟩
instance : Fld Tryz.prog 55 4 9 := ⟨fun p => by kernel_rfl⟩
instance : Fld Tryz.prog 53 0 0 := ⟨fun p => by kernel_rfl⟩
instance : Fld Tryz.prog 53 1 1 := ⟨fun p => by kernel_rfl⟩
instance : Fld Tryz.prog 192 0 0 := ⟨fun p => by kernel_rfl⟩
instance : Fld Tryz.prog 192 1 1 := ⟨fun p => by kernel_rfl⟩
instance : Fld Tryz.prog 192 2 2 := ⟨fun p => by kernel_rfl⟩
instance : Fld Tryz.prog 53 2 2 := ⟨fun p => by kernel_rfl⟩
instance : Fld Tryz.prog 53 3 3 := ⟨fun p => by kernel_rfl⟩
instance : Fld Tryz.prog 53 4 4 := ⟨fun p => by kernel_rfl⟩
instance : Fld Tryz.prog 53 5 5 := ⟨fun p => by kernel_rfl⟩
instance : Fld Tryz.prog 62 2 2 := ⟨fun p => by kernel_rfl⟩
instance : Fld Tryz.prog 62 3 3 := ⟨fun p => by kernel_rfl⟩
instance : Fld Tryz.prog 62 4 4 := ⟨fun p => by kernel_rfl⟩
instance : Fld Tryz.prog 105 1 1 := ⟨fun p => by kernel_rfl⟩
instance : Fld Tryz.prog 109 1 4 := ⟨fun p => by kernel_rfl⟩
instance : Fld Tryz.prog 121 0 0 := ⟨fun p => by kernel_rfl⟩
instance : Fld Tryz.prog 121 1 1 := ⟨fun p => by kernel_rfl⟩
instance : Fld Tryz.prog 121 2 2 := ⟨fun p => by kernel_rfl⟩
instance : Fld Tryz.prog 127 0 0 := ⟨fun p => by kernel_rfl⟩
instance : Fld Tryz.prog 127 1 1 := ⟨fun p => by kernel_rfl⟩
instance : Fld Tryz.prog 107 1 2 := ⟨fun p => by kernel_rfl⟩
instance : Fld Tryz.prog 107 2 3 := ⟨fun p => by kernel_rfl⟩
instance : Fld Tryz.prog 30 0 0 := ⟨fun p => by kernel_rfl⟩
instance : Fld Tryz.prog 30 1 1 := ⟨fun p => by kernel_rfl⟩
instance : Fld Tryz.prog 30 2 2 := ⟨fun p => by kernel_rfl⟩
instance : Fld Tryz.prog 30 3 3 := ⟨fun p => by kernel_rfl⟩
instance : Fld Tryz.prog 30 4 4 := ⟨fun p => by kernel_rfl⟩
instance : Fld Tryz.prog 30 5 5 := ⟨fun p => by kernel_rfl⟩
instance : Fld Tryz.prog 30 6 6 := ⟨fun p => by kernel_rfl⟩
instance : Fld Tryz.prog 212 0 0 := ⟨fun p => by kernel_rfl⟩
instance : Fld Tryz.prog 212 1 1 := ⟨fun p => by kernel_rfl⟩
instance : Fld Tryz.prog 228 0 0 := ⟨fun p => by kernel_rfl⟩
instance : Fld Tryz.prog 228 1 1 := ⟨fun p => by kernel_rfl⟩
instance : Fld Tryz.prog 228 2 7 := ⟨fun p => by kernel_rfl⟩
instance : Fld Tryz.prog 228 3 13 := ⟨fun p => by kernel_rfl⟩
instance : Fld Tryz.prog 241 0 0 := ⟨fun p => by kernel_rfl⟩
instance : Fld Tryz.prog 241 1 1 := ⟨fun p => by kernel_rfl⟩
instance : Fld Tryz.prog 241 2 2 := ⟨fun p => by kernel_rfl⟩
instance : Fld Tryz.prog 181 0 0 := ⟨fun p => by kernel_rfl⟩
instance : Fld Tryz.prog 181 1 1 := ⟨fun p => by kernel_rfl⟩
instance : Fld Tryz.prog 181 2 2 := ⟨fun p => by kernel_rfl⟩
instance : Fld Tryz.prog 181 3 3 := ⟨fun p => by kernel_rfl⟩
instance : Fld Tryz.prog 181 4 4 := ⟨fun p => by kernel_rfl⟩
instance : Fld Tryz.prog 259 0 0 := ⟨fun p => by kernel_rfl⟩
instance : Fld Tryz.prog 259 1 1 := ⟨fun p => by kernel_rfl⟩
instance : Fld Tryz.prog 259 2 2 := ⟨fun p => by kernel_rfl⟩
instance : Fld Tryz.prog 259 3 3 := ⟨fun p => by kernel_rfl⟩
instance : Fld Tryz.prog 169 0 0 := ⟨fun p => by kernel_rfl⟩
instance : Fld Tryz.prog 221 0 0 := ⟨fun p => by kernel_rfl⟩
instance : Fld Tryz.prog 221 1 1 := ⟨fun p => by kernel_rfl⟩
instance : Fld Tryz.prog 221 2 2 := ⟨fun p => by kernel_rfl⟩
instance : Fld Tryz.prog 221 3 3 := ⟨fun p => by kernel_rfl⟩
instance : Fld Tryz.prog 221 4 4 := ⟨fun p => by kernel_rfl⟩
instance : Fld Tryz.prog 219 0 0 := ⟨fun p => by kernel_rfl⟩
instance : Fld Tryz.prog 219 1 1 := ⟨fun p => by kernel_rfl⟩
instance : Fld Tryz.prog 276 0 0 := ⟨fun p => by kernel_rfl⟩
instance : Fld Tryz.prog 276 1 1 := ⟨fun p => by kernel_rfl⟩
instance : Fld Tryz.prog 105 0 0 := ⟨fun p => by kernel_rfl⟩
instance : Zer Tryz.prog 32 (.agg [.nils, .nils, .nils, .int .i64 0, .int .i64 0, .str [], .str [], .nils, .nils, .nils]) := ⟨by kernel_rfl⟩
instance : Zer Tryz.prog 35 (.agg [.nils, .nils, .nils]) := ⟨by kernel_rfl⟩
instance : Zer Tryz.prog 55 (.agg [.nils, .nils, .int .i64 0, .int .i64 0, .str [], .nils, .int .i64 0, .int .i64 0, .int .i64 0, .bool false]) := ⟨by kernel_rfl⟩
instance : Zer Tryz.prog 62 (.agg [.int .i64 0, .int .i64 0, .str [], .nils, .nils]) := ⟨by kernel_rfl⟩
instance : Zer Tryz.prog 102 (.nilp) := ⟨by kernel_rfl⟩
instance : Zer Tryz.prog 113 (.agg [.int .u8 0, .int .u8 0, .int .u8 0, .int .u8 0]) := ⟨by kernel_rfl⟩
instance : Zer Tryz.prog 148 (.agg [.int .i64 0, .int .i64 0, .int .i64 0, .bool false, .nils]) := ⟨by kernel_rfl⟩
instance : Zer Tryz.prog 132 (.agg [.str [], .int .i64 0, .int .i64 0, .str [], .str [], .nils, .nils, .nils]) := ⟨by kernel_rfl⟩
instance : Zer Tryz.prog 158 (.agg [.int .i64 0, .int .i64 0, .int .i64 0, .str []]) := ⟨by kernel_rfl⟩
instance : Zer Tryz.prog 192 (.agg [.str [], .int .i64 0, .int .i64 0]) := ⟨by kernel_rfl⟩
instance : Zer Tryz.prog 3 (.int .i64 0) := ⟨by kernel_rfl⟩
instance : Zer Tryz.prog 36 (.int .i64 0) := ⟨by kernel_rfl⟩
instance : Zer Tryz.prog 121 (.agg [.str [], .nils, .nils]) := ⟨by kernel_rfl⟩
instance : Zer Tryz.prog 127 (.agg [.str [], .nils]) := ⟨by kernel_rfl⟩
instance : Zer Tryz.prog 228 (.agg [.str [], .int .i64 0, .int .i64 0, .str [], .nils, .nils, .int .i64 0, .int .i64 0, .int .i64 0, .str [], .nils, .nils, .int .i64 0, .bool false]) := ⟨by kernel_rfl⟩
instance : Zer Tryz.prog 212 (.agg [.str [], .nils]) := ⟨by kernel_rfl⟩
instance : Zer Tryz.prog 30 (.agg [.int .i64 0, .int .i64 0, .str [], .str [], .nils, .nils, .nils]) := ⟨by kernel_rfl⟩
instance : Zer Tryz.prog 241 (.agg [.str [], .nils, .int .i64 0, .int .i64 0, .str [], .str [], .nils, .nils, .nils]) := ⟨by kernel_rfl⟩
instance : Zer Tryz.prog 181 (.agg [.int .i64 0, .str [], .int .i64 0, .nils, .nils]) := ⟨by kernel_rfl⟩
instance : Zer Tryz.prog 259 (.agg [.int .i64 0, .int .i64 0, .nils, .nils]) := ⟨by kernel_rfl⟩
instance : Zer Tryz.prog 4 (.bool false) := ⟨by kernel_rfl⟩
instance : Zer Tryz.prog 169 (.agg [.int .i64 0]) := ⟨by kernel_rfl⟩
instance : Zer Tryz.prog 202 (.agg []) := ⟨by kernel_rfl⟩
instance : Zer Tryz.prog 9 (.str []) := ⟨by kernel_rfl⟩
instance : Zer Tryz.prog 221 (.agg [.int .i64 0, .int .i64 0, .str [], .nils, .nils, .int .i64 0]) := ⟨by kernel_rfl⟩
instance : Zer Tryz.prog 276 (.agg [.str [], .int .i64 0]) := ⟨by kernel_rfl⟩
instance : IsDesc Tryz.prog 73 := ⟨by kernel_rfl⟩
instance : IsDesc Tryz.prog 3 := ⟨by kernel_rfl⟩
instance : ConI Tryz.prog 5 .u8 := ⟨by kernel_rfl⟩
instance : IsDesc Tryz.prog 5 := ⟨by kernel_rfl⟩
instance : ConI Tryz.prog 3 .i64 := ⟨by kernel_rfl⟩
instance : ConI Tryz.prog 248 .u64 := ⟨by kernel_rfl⟩
instance : IsDesc Tryz.prog 248 := ⟨by kernel_rfl⟩
instance : IsDesc Tryz.prog 103 := ⟨by kernel_rfl⟩
instance : IsDesc Tryz.prog 285 := ⟨by kernel_rfl⟩
instance : ElT Tryz.prog 24 132 := ⟨by kernel_rfl⟩
instance : SzN Tryz.prog 132 8 := ⟨by kernel_rfl⟩
instance : ElT Tryz.prog 73 5 := ⟨by kernel_rfl⟩
instance : SzN Tryz.prog 5 1 := ⟨by kernel_rfl⟩
instance : ElT Tryz.prog 33 148 := ⟨by kernel_rfl⟩
instance : ElT Tryz.prog 146 158 := ⟨by kernel_rfl⟩
instance : SzN Tryz.prog 158 4 := ⟨by kernel_rfl⟩
instance : ElT Tryz.prog 60 62 := ⟨by kernel_rfl⟩
instance : IsStr Tryz.prog 9 := ⟨by kernel_rfl⟩
instance : ElT Tryz.prog 249 152 := ⟨by kernel_rfl⟩
instance : SzN Tryz.prog 152 1 := ⟨by kernel_rfl⟩
instance : ElT Tryz.prog 250 154 := ⟨by kernel_rfl⟩
instance : SzN Tryz.prog 154 1 := ⟨by kernel_rfl⟩
instance : ElT Tryz.prog 51 192 := ⟨by kernel_rfl⟩
instance : ElT Tryz.prog 233 136 := ⟨by kernel_rfl⟩
instance : SzN Tryz.prog 136 1 := ⟨by kernel_rfl⟩
instance : ElT Tryz.prog 22 121 := ⟨by kernel_rfl⟩
instance : SzN Tryz.prog 121 3 := ⟨by kernel_rfl⟩
instance : ElT Tryz.prog 23 127 := ⟨by kernel_rfl⟩
instance : SzN Tryz.prog 127 2 := ⟨by kernel_rfl⟩
instance : ElT Tryz.prog 119 212 := ⟨by kernel_rfl⟩
instance : SzN Tryz.prog 212 2 := ⟨by kernel_rfl⟩
instance : ElT Tryz.prog 125 228 := ⟨by kernel_rfl⟩
instance : ElT Tryz.prog 27 30 := ⟨by kernel_rfl⟩
instance : ElT Tryz.prog 28 241 := ⟨by kernel_rfl⟩
instance : ElT Tryz.prog 48 181 := ⟨by kernel_rfl⟩
instance : ElT Tryz.prog 49 3 := ⟨by kernel_rfl⟩
instance : ElT Tryz.prog 179 259 := ⟨by kernel_rfl⟩
instance : ElT Tryz.prog 26 9 := ⟨by kernel_rfl⟩
instance : ElT Tryz.prog 210 221 := ⟨by kernel_rfl⟩
instance : ElT Tryz.prog 217 276 := ⟨by kernel_rfl⟩
instance : SzN Tryz.prog 276 2 := ⟨by kernel_rfl⟩
instance : Conc Tryz.prog 169 := ⟨by kernel_rfl⟩
instance : Conc Tryz.prog 202 := ⟨by kernel_rfl⟩
instance : App Tryz.prog 24 24 132 8 true 136 := App.of (by kernel_rfl)
instance : App Tryz.prog 146 146 158 4 true 40 := App.of (by kernel_rfl)
instance : App Tryz.prog 33 33 148 5 true 56 := App.of (by kernel_rfl)
instance : App Tryz.prog 51 51 192 3 true 32 := App.of (by kernel_rfl)
instance : App Tryz.prog 73 73 5 1 false 1 := App.of (by kernel_rfl)
instance : App Tryz.prog 22 22 121 3 true 64 := App.of (by kernel_rfl)
instance : App Tryz.prog 23 23 127 2 true 40 := App.of (by kernel_rfl)
instance : App Tryz.prog 73 9 5 1 false 1 := App.of (by kernel_rfl)
instance : App Tryz.prog 119 119 212 2 true 40 := App.of (by kernel_rfl)
instance : App Tryz.prog 125 125 228 14 true 200 := App.of (by kernel_rfl)
instance : App Tryz.prog 27 27 30 7 true 120 := App.of (by kernel_rfl)
instance : App Tryz.prog 28 28 241 9 true 160 := App.of (by kernel_rfl)
instance : App Tryz.prog 48 48 181 5 true 80 := App.of (by kernel_rfl)
instance : App Tryz.prog 49 49 3 1 false 8 := App.of (by kernel_rfl)
instance : App Tryz.prog 179 179 259 4 true 64 := App.of (by kernel_rfl)
instance : App Tryz.prog 60 60 62 5 true 80 := App.of (by kernel_rfl)
instance : App Tryz.prog 26 26 9 1 false 16 := App.of (by kernel_rfl)
instance : App Tryz.prog 210 210 221 6 true 88 := App.of (by kernel_rfl)
instance : App Tryz.prog 217 217 276 2 true 24 := App.of (by kernel_rfl)
theorem hasBody_all : ([3, 4, 5, 6, 7, 8, 9, 10, 11, 12, 13, 14, 15, 16, 17, 18, 19, 20, 21, 22, 23, 24, 25, 26, 27, 28, 29, 30, 31, 32, 33, 34, 35, 36, 37, 38, 39, 40, 41, 42, 43, 44, 45, 46, 47, 48, 49, 50, 51, 52, 53, 54, 55, 56, 57, 58, 59, 60, 61, 62, 63, 64, 65, 66, 67, 68, 69, 70, 71, 72, 73, 74, 75, 76, 77, 78, 79, 80, 81, 82, 83, 84, 85, 86, 87, 88, 89, 90, 91, 92, 93, 94, 95, 96, 97, 98, 99, 100, 101, 102, 103, 104, 105, 106, 107, 108, 109, 110, 111, 112, 113, 114, 115, 116, 117, 118, 119, 120, 121, 122, 123, 124, 125, 126, 127, 128, 129, 130, 131, 132, 133, 134, 135, 136, 137, 138, 139, 140, 141, 142, 143, 144, 145, 146, 147, 148, 149].all (hasBody Tryz.prog)) = true := by kernel_rfl
end Go.Proofs.YtilldjgagokcfaaGreat
