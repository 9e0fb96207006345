/-
  Ev, part 24: one operation each, in the form in which the walk asks for it.
-/
import Derived.Test.YtilldjgagokcfaaGreatEvWp
set_option linter.unusedVariables false
set_option linter.unusedSimpArgs false
namespace Go.Ev
open Go.RowKit

/-! ### Tables, found by their type's number -/

def load1 (p : V) (S : St) : Option V := match rd S p 1 with
  | some [v] => some v
  | _ => none

def loadA (n : Nat) (p : V) (S : St) : Option V := (rd S p n).map .agg

class LdOne (P : Program) (t : TypeId) : Prop where
  h : loadE P t = load1
class LdAgg (P : Program) (t : TypeId) (n : outParam Nat) : Prop where
  h : loadE P t = loadA n
class SzN (P : Program) (t : TypeId) (n : outParam Nat) : Prop where
  h : szOf P t = some n
class Zer (P : Program) (t : TypeId) (z : outParam V) : Prop where
  h : zeroV P t = some z

def padd (p : V) (k : Nat) : V := match p with
  | .ptr id o => .ptr id (o + k)
  | .cptr t cs o => .cptr t cs (o + k)
  | v => v

def isP : V → Bool
  | .ptr _ _ => true
  | .cptr _ _ _ => true
  | _ => false

def addO (off : Nat) : V → Option V
  | .ptr id o => some (.ptr id (o + off))
  | .cptr t cs o => some (.cptr t cs (o + off))
  | _ => none

class Fld (P : Program) (t : TypeId) (f : Nat) (off : outParam Nat) : Prop where
  h : ∀ p, fieldAddrE P t p f = addO off p

class ConI (P : Program) (d : TypeId) (k : outParam IntKind) : Prop where
  h : P.underlying d = some (.int k)
class ElT (P : Program) (t : TypeId) (e : outParam TypeId) : Prop where
  h : P.underlying t = some (.slice e)
class IsStr (P : Program) (t : TypeId) : Prop where
  h : P.underlying t = some .string
class IsDesc (P : Program) (t : TypeId) : Prop where
  h : (P.underlying t).isSome = true
class Conc (P : Program) (t : TypeId) : Prop where
  h : concreteB P t = true
/-- Of the elements of what is appended to: type, size, whether an aggregate, bytes. -/
class App (P : Program) (t u : TypeId) (e : outParam TypeId) (n : outParam Nat) (a : outParam Bool) (bytes : outParam Nat) : Prop where
  el : elemT P t = some e
  inf : ∃ i ud z, P.info? e = some i ∧ i.size = n ∧ i.bytes = bytes ∧ aggT P e = some a ∧ P.underlying u = some ud ∧ isIntD ud = false ∧ zeroV P e = some z ∧ z.cells.length = n ∧ 1 ≤ n

section
variable {P : Program} {ev : Operand → Option V} {S S' : St} {x y a b : Operand} {t u : TypeId} {v w : V} {p : V} {n off id : Nat}

theorem op_move (h : ev x = some v) : opE P (.move x) ev S = some (v, S) := by simp [opE, h]
theorem op_assign (h : ev x = some v) : opE P (.assign x) ev S = some (v, S) := by simp [opE, h]
theorem op_pickT {c : Operand} (hc : ev c = some (.bool true)) (h : ev a = some v) : opE P (.pick c a b) ev S = some (v, S) := by simp [opE, h, hc]
theorem op_pickF {c : Operand} (hc : ev c = some (.bool false)) (h : ev b = some v) : opE P (.pick c a b) ev S = some (v, S) := by simp [opE, h, hc]
theorem op_alloc {z : V} [hz : Zer P t z] : opE P (.alloc t) ev S = some (.ptr S.next 0, S.new (.box t z.cells)) := by simp [opE, hz.h]
theorem op_mksl (h : ev x = some v) (h2 : ev y = some w) {r : V} (hm : makeSliceE P t v w S = some (r, S')) : opE P (.makeSlice t x y) ev S = some (r, S') := by simp [opE, h, h2, hm]
theorem op_box (h : ev x = some v) : opE P (.box t x) ev S = some (.ptr S.next 0, S.new (.box t v.cells)) := by simp [opE, h]
theorem op_load (h : ev a = some p) (hl : loadE P t p S = some v) : opE P (.load t a) ev S = some (v, S) := by simp [opE, h, hl]
theorem op_store (h : ev a = some p) (h2 : ev x = some v) (hl : storeE P t p v S = some S') : opE P (.store t a x) ev S = some (.tup [], S') := by simp [opE, h, h2, hl]
theorem op_nilP (h : ev x = some p) (hp : isP p = true) : opE P (.nilCheck x) ev S = some (p, S) := by
  cases p <;> first | (cases hp; done) | simp [opE, h]
theorem op_nilF {f : FuncId} {l m : List V} (h : ev x = some (.func f l m)) : opE P (.nilCheck x) ev S = some (.func f l m, S) := by simp [opE, h]
theorem op_fld {f : Nat} [hf : Fld P t f off] (h : ev x = some p) (hp : isP p = true) : opE P (.fieldAddr t x f) ev S = some (padd p off, S) := by
  cases p <;> first | (cases hp; done) | simp [opE, h, hf.h, addO, padd]
theorem op_int {op : BinOp} {k : IntKind} {i j : Int} (h : ev x = some (.int k i)) (h2 : ev y = some (.int k j)) (ho : (match op with | .shl => false | .shr => false | _ => true) = true) (hi : intOp op k i j = some v) : opE P (.binOp op t x y u) ev S = some (v, S) := by
  simp only [opE, h, h2, binE]
  cases op <;> first | (cases ho; done) | simp [hi]
theorem op_shift {op : BinOp} {k k2 : IntKind} {i j : Int} (h : ev x = some (.int k i)) (h2 : ev y = some (.int k2 j)) (ho : (match op with | .shl => true | .shr => true | _ => false) = true) (hi : shiftE op k i j = some v) : opE P (.binOp op t x y u) ev S = some (v, S) := by
  simp only [opE, h, h2, binE]
  cases op <;> first | (cases ho; done) | simp [hi]
theorem op_bin {op : BinOp} {r : V} (h : ev x = some v) (h2 : ev y = some w) (hb : binE P op t x y v w = some r) : opE P (.binOp op t x y u) ev S = some (r, S) := by simp [opE, h, h2, hb]
theorem op_str {op : BinOp} {i j : List UInt8} (h : ev x = some (.str i)) (h2 : ev y = some (.str j)) (hi : strOp op i j = some v) : opE P (.binOp op t x y u) ev S = some (v, S) := by
  simp [opE, h, h2, binE, hi]
theorem op_un {op : UnOp} (h : ev x = some v) (hi : unE op v = some w) : opE P (.unOp op t x) ev S = some (w, S) := by simp [opE, h, hi]
theorem op_conv {s d : TypeId} (h : ev x = some v) (hi : convertE P s d v S = some (w, S')) : opE P (.convert s d x) ev S = some (w, S') := by simp [opE, h, hi]
theorem op_convI {s d : TypeId} {k k2 : IntKind} {i : Int} [hd : ConI P d k] [hs : IsDesc P s] (h : ev x = some (.int k2 i)) : opE P (.convert s d x) ev S = some (.int k (k.wrap i), S) := by
  refine op_conv h ?_
  have h1 := hs.h
  unfold convertE
  cases h2 : P.underlying s with
  | none => rw [h2] at h1; cases h1
  | some sd => rw [hd.h]
theorem op_mk [hc : Conc P t] (h : ev x = some v) : opE P (.makeInterface t x) ev S = some (.iface t v, S) := by simp [opE, h, hc.h]
theorem op_fn {f : FuncId} {first caps : Array Operand} {l m : List V} (h1 : mapO ev first.toList = some l) (h2 : mapO ev caps.toList = some m) : opE P (.makeFunc (.func f) first caps) ev S = some (.func f l m, S) := by simp [opE, h1, h2]
theorem op_build0 (hb : buildE P t [] = some v) : opE P (.build t #[]) ev S = some (v, S) := by simp [opE, mapO, hb]
theorem op_build1 {i : Nat} (h : ev x = some w) (hb : buildE P t [(i, w)] = some v) : opE P (.build t #[(i, x)]) ev S = some (v, S) := by simp [opE, mapO, h, hb]
theorem op_ext {i : Nat} {vs : List V} (h : ev x = some (.tup vs)) (hi : vs[i]? = some v) : opE P (.extract x i) ev S = some (v, S) := by simp [opE, h, hi]
theorem op_lenS [hs : IsStr P t] {ats : Array TypeId} {l : List TypeId} {s : List UInt8} {args : Array Operand} (ha : mapO ev args.toList = some [.str s]) (ht : ats.toList = t :: l) :
    opE P (.call { callee := .builtin .len, args, argTypes := ats }) ev S = some (.int .i64 s.length, S) := by
  simp only [opE, ha, ht, builtinE, lenE, hs.h, Option.map]

def elems : V → List V
  | .list _ _ es _ => es
  | _ => []

def isL : V → Bool
  | .nils => true
  | .mt => true
  | .list _ _ _ _ => true
  | _ => false

theorem op_lenL {e : TypeId} [hs : ElT P t e] {ats : Array TypeId} {l : List TypeId} {args : Array Operand} (ha : mapO ev args.toList = some [v]) (hv : isL v = true) (ht : ats.toList = t :: l) :
    opE P (.call { callee := .builtin .len, args, argTypes := ats }) ev S = some (.int .i64 ((elems v).length : Nat), S) := by
  cases v <;> first | (cases hv; done) | simp only [opE, ha, ht, builtinE, lenE, hs.h, Option.map, elems, List.length_nil]

theorem op_idxS [hs : IsStr P t] {s : List UInt8} {k : IntKind} {i : Nat} {c : UInt8} (h : ev x = some (.str s)) (h2 : ev y = some (.int k i)) (hc : s[i]? = some c) : opE P (.index t x y) ev S = some (.int .u8 c.toNat, S) := by
  simp [opE, h, h2, indexE, hs.h, hc]

theorem op_ixaL {e : TypeId} [hs : ElT P t e] [hn : SzN P e n] {k : IntKind} {i : Nat} {lt : Option TypeId} {es : List V} {tk : Tk} (h : ev x = some (.list lt n es tk)) (h2 : ev y = some (.int k i)) (hc : es[i]? = some v) :
    opE P (.indexAddr t x y) ev S = some (.cptr none v.cells 0, S) := by
  simp [opE, h, h2, indexAddrE, hs.h, hn.h, hc]

/-! ### Memory -/

/-- What a pointer's cells hold from there on. -/
def Pt (S : St) (p : V) (cs : List V) : Prop := match p with
  | .ptr id off => ∃ e bs, S.h.find id = some (.box e bs) ∧ ∀ i v, cs[i]? = some v → bs[off + i]? = some v
  | .cptr _ bs off => ∀ i v, cs[i]? = some v → bs[off + i]? = some v
  | _ => False

theorem Pt.isP {cs : List V} (h : Pt S p cs) : isP p = true := by cases p <;> first | rfl | exact h.elim

theorem cut_one {bs : List V} {v : V} (h : bs[off]? = some v) : cut bs off 1 = some [v] := by
  have hlt : off < bs.length := (List.getElem?_eq_some_iff.1 h).1
  have he : bs.drop off = v :: bs.drop (off + 1) := by
    rw [List.drop_eq_getElem_cons hlt]
    congr 1
    exact (List.getElem?_eq_some_iff.1 h).2
  simp [cut, he]

theorem Pt.load1 {cs : List V} (h : Pt S p (v :: cs)) : load1 p S = some v := by
  cases p <;> first | exact h.elim | skip
  · obtain ⟨e, bs, h1, h2⟩ := h
    have := cut_one (h2 0 v rfl)
    simp only [Nat.add_zero] at this
    simp [Ev.load1, rd, h1, this]
  · have := cut_one (h 0 v rfl)
    simp only [Nat.add_zero] at this
    simp [Ev.load1, rd, this]

theorem Pt.sub {cs ds : List V} (h : Pt S p cs) (k : Nat) (hd : ∀ i v, ds[i]? = some v → cs[k + i]? = some v) : Pt S (padd p k) ds := by
  cases p <;> first | exact h.elim | skip
  · obtain ⟨e, bs, h1, h2⟩ := h
    exact ⟨e, bs, h1, fun i v hi => by rw [Nat.add_assoc]; exact h2 _ _ (hd i v hi)⟩
  · exact fun i v hi => by rw [Nat.add_assoc]; exact h _ _ (hd i v hi)

theorem Pt.at {cs : List V} (h : Pt S p cs) (k : Nat) (hv : cs[k]? = some v) : Pt S (padd p k) [v] :=
  h.sub k fun i u hi => by
    cases i with
    | zero => simp at hi; subst hi; exact hv
    | succ i => simp at hi

theorem Pt.drop {cs : List V} (h : Pt S p cs) (k : Nat) : Pt S (padd p k) (cs.drop k) :=
  h.sub k fun i u hi => by rw [List.getElem?_drop] at hi; exact hi

theorem ld_one [hl : LdOne P t] {cs : List V} (h : Pt S p (v :: cs)) : loadE P t p S = some v := by rw [hl.h]; exact h.load1

theorem cut_pre : ∀ {bs cs : List V} {off : Nat}, (∀ i v, cs[i]? = some v → bs[off + i]? = some v) → cut bs off cs.length = some cs := by
  intro bs cs off h
  have he : (bs.drop off).take cs.length = cs := by
    apply List.ext_getElem?
    intro i
    rw [List.getElem?_take]
    split
    · rename_i hi
      rw [List.getElem?_drop]
      have := h i cs[i] (List.getElem?_eq_getElem hi)
      rw [this, List.getElem?_eq_getElem hi]
    · rename_i hi
      rw [List.getElem?_eq_none (by omega)]
  simp [cut, he]

theorem ld_agg {cs : List V} [hl : LdAgg P t n] (h : Pt S p cs) (hn : cs.length = n) : loadE P t p S = some (.agg cs) := by
  rw [hl.h]
  subst hn
  cases p <;> first | exact h.elim | skip
  · obtain ⟨e, bs, h1, h2⟩ := h
    simp [loadA, rd, h1, cut_pre h2]
  · simp [loadA, rd, cut_pre h]

theorem st_one [hs : SzN P t 1] {e : TypeId} {cs cs' : List V} (hb : S.h.find id = some (.box e cs)) (hv : v.one = true) (hc : splice cs off [v] = some cs') : storeE P t (.ptr id off) v S = some { S with h := S.h.put id (.box e cs') } := by
  have hcell : v.cells = [v] := by cases v <;> first | rfl | cases hv
  simp [storeE, hb, hs.h, hcell, hv, hc]

theorem st_agg [hs : SzN P t n] {e : TypeId} {cs cs' vs : List V} (hb : S.h.find id = some (.box e cs)) (hl : vs.length = n) (hv : vs.all V.one = true) (hc : splice cs off vs = some cs') : storeE P t (.ptr id off) (.agg vs) S = some { S with h := S.h.put id (.box e cs') } := by
  have hcell : (V.agg vs).cells = vs := rfl
  simp only [storeE, hb, hs.h, hcell, hl, Nat.beq_refl, hv, Bool.and_self, if_true, hc]

/-- Something is appended to a nil list. -/
theorem app_nil {e : TypeId} {ag : Bool} {bytes : Nat} [ha : App P t u e n ag bytes] {y : V} {ys : List V} (hy : readS S ag n y = some ys) (hys : ∀ z ∈ ys, z.cells.length = n ∧ z.cells.all V.one = true) (hne : ys.isEmpty = false) (hr : roomOk ys.length bytes = true) :
    appendE P t u .nils y S = some (.list (some e) n ys (.own S.next), S.new .tok) := by
  obtain ⟨i, ud, z, h1, h2, h3, h4, h5, h6, h7, h8, h9⟩ := ha.inf
  subst h2 h3
  have hall : ys.all (fun v => Nat.beq v.cells.length i.size && v.cells.all V.one) = true := List.all_eq_true.2 fun z hz => by
    rw [(hys z hz).1, (hys z hz).2, Nat.beq_refl]; rfl
  have hb : Nat.ble 1 i.size = true := Nat.ble_eq_true_of_le h9
  unfold appendE
  rw [ha.el]
  simp only [h1, h4, h5, h7, h6, hb, h8, Nat.beq_refl, hy, hall, hne, hr, Bool.not_true, Bool.or_false, Bool.false_eq_true, if_false, if_true]

/-- Something is appended to a list whose array is its own. -/
theorem app_own {e : TypeId} {ag : Bool} {bytes : Nat} [ha : App P t u e n ag bytes] {es : List V} {y : V} {ys : List V} (htok : S.h.find id = some .tok) (hy : readS S ag n y = some ys) (hys : ∀ z ∈ ys, z.cells.length = n ∧ z.cells.all V.one = true)
    (hne : ys.isEmpty = false) (hr : roomOk (es.length + ys.length) bytes = true) :
    appendE P t u (.list (some e) n es (.own id)) y S = some (.list (some e) n (es ++ ys) (.own S.next), St.new { S with h := S.h.del id } .tok) := by
  obtain ⟨i, ud, z, h1, h2, h3, h4, h5, h6, h7, h8, h9⟩ := ha.inf
  subst h2 h3
  have hall : ys.all (fun v => Nat.beq v.cells.length i.size && v.cells.all V.one) = true := List.all_eq_true.2 fun z hz => by
    rw [(hys z hz).1, (hys z hz).2, Nat.beq_refl]; rfl
  have hb : Nat.ble 1 i.size = true := Nat.ble_eq_true_of_le h9
  unfold appendE
  rw [ha.el]
  simp only [h1, h4, h5, h7, h6, hb, h8, Nat.beq_refl, hy, hall, hne, hr, htok, Bool.not_true, Bool.or_false, Bool.false_eq_true, if_false, if_true]

/-- A function without a body that hands on its argument. -/
theorem Opl.noesc {F : Sh} {E : Env} {k : K} {ops : Array Oper} {os : List Oper} {d : Nat} {ty : TypeId} {pos : String} {after : Array Edge} {f : Operand} {args : Array Operand} {ats : Array TypeId} {g : FuncId} {fn : Func}
    (hf : calleeE (Env.opd E) f args = some (g, [v])) (hfn : P.funcs[g]? = some fn) (hb : fn.body = none) (hname : fn.name = "internal/abi.NoEscape") (hd : Nat.blt d F.n = true) (h1 : Opl P ops os F ((d, v) :: E) S k) :
    Opl P ops (⟨some d, .call { callee := .value f, args, argTypes := ats }, ty, pos, after, none⟩ :: os) F E S k :=
  .act fun fr hfr => by
    have hcal := calleeE_mono (fun x v => hfr.opd) hf
    obtain ⟨fr', h5, h6⟩ := hfr.put v hd
    refine ⟨fr', ?_, F, _, h6, h1⟩
    simp only [oneE, wantE, actE, hcal, hfn, hb, hname, if_true, putE, h5]

def appOf (P : Program) (t u : TypeId) : Option (TypeId × Nat × Bool × Nat) :=
  match elemT P t with
  | none => none
  | some e => match P.info? e, aggT P e, P.underlying u, zeroV P e with
    | some i, some a, some ud, some z => if !isIntD ud && Nat.beq z.cells.length i.size && Nat.ble 1 i.size then some (e, i.size, a, i.bytes) else none
    | _, _, _, _ => none

theorem App.of {e : TypeId} {ag : Bool} {bytes : Nat} (h : appOf P t u = some (e, n, ag, bytes)) : App P t u e n ag bytes := by
  unfold appOf at h
  cases h1 : elemT P t with
  | none => rw [h1] at h; cases h
  | some e' =>
    rw [h1] at h
    simp only at h
    split at h
    · rename_i i a ud z h2 h3 h4 h5
      split at h
      · rename_i hc
        simp only [Bool.and_eq_true, Bool.not_eq_true'] at hc
        cases h
        exact ⟨h1, i, ud, z, h2, rfl, rfl, h3, h4, hc.1.1, h5, Nat.eq_of_beq_eq_true hc.1.2, Nat.le_of_ble_eq_true hc.2⟩
      · cases h
    · cases h

theorem op_app {ats : Array TypeId} {args : Array Operand} (ha : mapO ev args.toList = some [v, w]) (ht : ats.toList = [t, u]) {r : V} (h : appendE P t u v w S = some (r, S')) :
    opE P (.call { callee := .builtin .append, args, argTypes := ats }) ev S = some (r, S') := by
  simp only [opE, ha, ht, builtinE, h]

end
end Go.Ev
