/-
  What a struct's cells are written as, by its fields' kinds.
-/
import Derived.Test.YtilldjgagokcfaaGreatEvNum
set_option linter.unusedVariables false
set_option linter.unusedSimpArgs false
namespace Go.Ev
open Go.RowKit

inductive Fd where
  | int | str | bool
  | list (t : Nat)
  | sub (t : Nat)

/-- The structs: 0 a number, 1 a string, 2 Value, 3 Segment, 4 Frame, 5 Type, 6 Label, 7 Data, 8 Cons, 9 Effect, 10 Op, 11 Expr, 12 Arm, 13 Def, 14 Program, 15 Code, 16 Func, 17 Ins, 18 Event, 19 Outcome, 20 State. -/
def sch : Nat → List Fd
  | 0 => [.int]
  | 1 => [.str]
  | 2 => [.int, .int, .str, .list 2, .list 3]
  | 3 => [.int, .str, .int, .list 2, .list 4]
  | 4 => [.int, .int, .list 2, .list 2]
  | 5 => [.int, .int, .str, .list 5, .list 6, .int]
  | 6 => [.str, .int]
  | 7 => [.str, .list 1, .list 8]
  | 8 => [.str, .list 5]
  | 9 => [.str, .list 10]
  | 10 => [.str, .sub 5, .sub 5, .bool]
  | 11 => [.int, .int, .str, .str, .list 1, .list 11, .list 12]
  | 12 => [.str, .list 1, .sub 11]
  | 13 => [.str, .sub 11]
  | 14 => [.list 7, .list 9, .list 13, .sub 11]
  | 15 => [.list 7, .list 9, .list 16]
  | 16 => [.int, .int, .int, .bool, .list 17]
  | 17 => [.int, .int, .int, .str]
  | 18 => [.str, .int, .int]
  | 19 => [.int, .str, .list 18, .int, .int, .int]
  | 20 => [.list 3, .list 0, .int, .sub 19, .bool]
  | _ => []

def szs : Nat → Nat
  | 0 => 1 | 1 => 1 | 2 => 5 | 3 => 5 | 4 => 4 | 5 => 6 | 6 => 2 | 7 => 3 | 8 => 2 | 9 => 2 | 10 => 14 | 11 => 7 | 12 => 9 | 13 => 8 | 14 => 10 | 15 => 3 | 16 => 5 | 17 => 4 | 18 => 3 | 19 => 6 | 20 => 10 | _ => 0

/-- A list of so many cells an element, or nil. -/
def isLn (n : Nat) (v : V) : Prop := v = .nils ∨ v = .mt ∨ ∃ lt es tk, v = .list lt n es tk

theorem isLn.isL {n : Nat} {v : V} (h : isLn n v) : isL v = true := by
  rcases h with rfl | rfl | ⟨lt, es, tk, rfl⟩ <;> rfl

theorem isLn.el {n : Nat} {v e : V} {i : Nat} (h : isLn n v) (he : (elems v)[i]? = some e) : ∃ lt tk, v = .list lt n (elems v) tk := by
  rcases h with rfl | rfl | ⟨lt, es, tk, rfl⟩
  · simp [elems] at he
  · simp [elems] at he
  · exact ⟨lt, tk, rfl⟩

mutual
inductive EncF : Nat → List Fd → List V → List UInt8 → Prop
  | nil (d : Nat) : EncF d [] [] []
  | int {d : Nat} {n : Int} {fs : List Fd} {cs : List V} {bs : List UInt8} (hn : in64 n) (h : EncF d fs cs bs) : EncF d (.int :: fs) (.int .i64 n :: cs) (encI n ++ bs)
  | str {d : Nat} {s : List UInt8} {fs : List Fd} {cs : List V} {bs : List UInt8} (hs : s.length < 4611686018427387904) (h : EncF d fs cs bs) : EncF d (.str :: fs) (.str s :: cs) (encS s ++ bs)
  | bool {d : Nat} {b : Bool} {fs : List Fd} {cs : List V} {bs : List UInt8} (h : EncF d fs cs bs) : EncF d (.bool :: fs) (.bool b :: cs) (encB b ++ bs)
  | list {d t : Nat} {v : V} {bl : List UInt8} {fs : List Fd} {cs : List V} {bs : List UInt8} (hv : isLn (szs t) v) (hl : (elems v).length < 4611686018427387904) (he : EncL d t (elems v) bl) (h : EncF (d + 1) fs cs bs) :
      EncF (d + 1) (.list t :: fs) (v :: cs) (encI ((elems v).length : Nat) ++ bl ++ bs)
  | sub {d t : Nat} {c1 cs : List V} {b1 bs : List UInt8} {fs : List Fd} (h1 : EncF d (sch t) c1 b1) (hc : c1.length = szs t) (h : EncF (d + 1) fs cs bs) : EncF (d + 1) (.sub t :: fs) (c1 ++ cs) (b1 ++ bs)
inductive EncL : Nat → Nat → List V → List UInt8 → Prop
  | nil (d t : Nat) : EncL d t [] []
  | cons {d t : Nat} {e : V} {b1 bs : List UInt8} {es : List V} (h1 : EncF d (sch t) e.cells b1) (h2 : EncL d t es bs) : EncL d t (e :: es) (b1 ++ bs)
end

theorem EncF.invN {d : Nat} {cs : List V} {bs : List UInt8} (h : EncF d [] cs bs) : cs = [] ∧ bs = [] := by cases h; exact ⟨rfl, rfl⟩
theorem EncF.invI {d : Nat} {fs : List Fd} {cs : List V} {bs : List UInt8} (h : EncF d (.int :: fs) cs bs) : ∃ n cs' bs', in64 n ∧ cs = .int .i64 n :: cs' ∧ bs = encI n ++ bs' ∧ EncF d fs cs' bs' := by
  cases h with | int hn h => exact ⟨_, _, _, hn, rfl, rfl, h⟩
theorem EncF.invS {d : Nat} {fs : List Fd} {cs : List V} {bs : List UInt8} (h : EncF d (.str :: fs) cs bs) : ∃ s cs' bs', s.length < 4611686018427387904 ∧ cs = .str s :: cs' ∧ bs = encS s ++ bs' ∧ EncF d fs cs' bs' := by
  cases h with | str hn h => exact ⟨_, _, _, hn, rfl, rfl, h⟩
theorem EncF.invB {d : Nat} {fs : List Fd} {cs : List V} {bs : List UInt8} (h : EncF d (.bool :: fs) cs bs) : ∃ b cs' bs', cs = .bool b :: cs' ∧ bs = encB b ++ bs' ∧ EncF d fs cs' bs' := by
  cases h with | bool h => exact ⟨_, _, _, rfl, rfl, h⟩
theorem EncF.invL {d t : Nat} {fs : List Fd} {cs : List V} {bs : List UInt8} (h : EncF d (.list t :: fs) cs bs) : ∃ d' v bl cs' bs', d' < d ∧ isLn (szs t) v ∧ (elems v).length < 4611686018427387904 ∧ EncL d' t (elems v) bl ∧ cs = v :: cs' ∧ bs = encI ((elems v).length : Nat) ++ bl ++ bs' ∧ EncF d fs cs' bs' := by
  cases h with | list hv hl he h => exact ⟨_, _, _, _, _, Nat.lt_succ_self _, hv, hl, he, rfl, rfl, h⟩
theorem EncF.invT {d t : Nat} {fs : List Fd} {cs : List V} {bs : List UInt8} (h : EncF d (.sub t :: fs) cs bs) : ∃ d' c1 b1 cs' bs', d' < d ∧ EncF d' (sch t) c1 b1 ∧ c1.length = szs t ∧ cs = c1 ++ cs' ∧ bs = b1 ++ bs' ∧ EncF d fs cs' bs' := by
  cases h with | sub h1 hc h => exact ⟨_, _, _, _, _, Nat.lt_succ_self _, h1, hc, rfl, rfl, h⟩

section
variable {P : Program} {ev : Operand → Option V} {S S' : St} {x y z : Operand} {t : TypeId} {u v w r : V} {n i j k : Nat}
theorem op_bs2 (h : ev x = some v) (h2 : ev y = some w) (hb : buildSliceE P t n [(i, v), (j, w)] = some r) : opE P (.buildSlice t n #[(i, x), (j, y)]) ev S = some (r, S) := by
  simp [opE, mapO, h, h2, hb]
theorem op_bs3 (h : ev x = some v) (h2 : ev y = some w) (h3 : ev z = some u) (hb : buildSliceE P t n [(i, v), (j, w), (k, u)] = some r) : opE P (.buildSlice t n #[(i, x), (j, y), (k, z)]) ev S = some (r, S) := by
  simp [opE, mapO, h, h2, h3, hb]
end

end Go.Ev
