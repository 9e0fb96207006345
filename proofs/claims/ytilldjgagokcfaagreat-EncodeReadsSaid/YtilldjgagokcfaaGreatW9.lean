import Derived.Test.YtilldjgagokcfaaGreatW8
set_option linter.unusedVariables false
set_option linter.unusedSimpArgs false
namespace Go.Ev
open Go.RowKit
def fileOf (k : UInt8) (bs : List UInt8) : List UInt8 := ([82, 69, k, 1] ++ be4 bs.length ++ bs) ++ be4 (sumOf ([82, 69, k, 1] ++ be4 bs.length ++ bs))
def fileV (k : UInt8) (bs : List UInt8) : V := if bs.length ≤ 99988 then .tup [.str (fileOf k bs), .int .i64 0] else .tup [.str [], .int .i64 3]
theorem KeepB.any {S S' : St} {c : Nat} (h : KeepB S S' c) (hc : S.next ≤ c) (c' : Nat) : KeepB S S' c' :=
  ⟨h.next, fun id t cs h1 _ h3 => h.box id t cs h1 (by omega) h3⟩
theorem str_add {a b : List UInt8} (h : a.length + b.length < 9223372036854775808) : strOp .add a b = some (.str (a ++ b)) := by
  simp only [strOp]
  rw [if_pos (Nat.ble_eq_true_of_le (by omega))]
end Go.Ev
