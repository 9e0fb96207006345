import Derived.Recover
import Derived.Below
import Derived.Orders
import GoSem.Core.Utf8
import GoSem.Machine.Frame
import Derived.Laws.Cells
import Derived.Laws.Rows
set_option linter.unusedVariables false
set_option linter.unusedSimpArgs false
namespace Go.Ev
inductive Tr (α : Type) where
 | leaf
 | node (v : Option α) (l r : Tr α)
def Tr.get {α : Type} : Tr α → List Bool → Option α
 | .leaf, _ => none
 | .node v _ _, [] => v
 | .node _ l r, b :: bs => match b with | true => r.get bs | false => l.get bs
def Tr.set {α : Type} (v : Option α) : List Bool → Tr α → Tr α
 | [], t => match t with | .leaf => .node v .leaf .leaf | .node _ l r => .node v l r
 | b :: bs, t => match t with
  | .leaf => match b with | true => .node none .leaf (Tr.set v bs .leaf) | false => .node none (Tr.set v bs .leaf) .leaf
  | .node x l r => match b with | true => .node x l (Tr.set v bs r) | false => .node x (Tr.set v bs l) r
def bitsAux : Nat → Nat → List Bool
 | 0, _ => []
 | k + 1, n => match n with
  | 0 => []
  | n + 1 => Nat.beq ((n + 1) % 2) 1 :: bitsAux k ((n + 1) / 2)
def bitsOf (n : Nat) : List Bool := bitsAux n n
def Tr.find {α : Type} (t : Tr α) (n : Nat) : Option α := t.get (bitsOf n)
def Tr.put {α : Type} (t : Tr α) (n : Nat) (v : α) : Tr α := t.set (some v) (bitsOf n)
def Tr.del {α : Type} (t : Tr α) (n : Nat) : Tr α := t.set none (bitsOf n)
inductive Tk where
 | no | exact | own (id : Nat)
 deriving DecidableEq
inductive V where
 | bool (b : Bool)
 | int (k : IntKind) (n : Int)
 | str (s : List UInt8)
 | nilp
 | ptr (id off : Nat)
 | cptr (t : Option TypeId) (cs : List V) (off : Nat)
 | nils
 | list (t : Option TypeId) (sz : Nat) (es : List V) (tk : Tk)
 | arr (id off len cap : Nat)
 | func (f : FuncId) (first caps : List V)
 | nilf
 | iface (t : TypeId) (v : V)
 | nili
 | agg (cs : List V)
 | tup (vs : List V)
 | nilm
 | mt
 | map (id : Nat)
 | yld (id : Nat)
 | dmk (id : Nat)
 | raw (t : TypeId) (id n : Nat)
def V.cells : V → List V
 | .agg cs => cs
 | v => [v]
def V.one : V → Bool
 | .agg _ | .tup _ => false
 | _ => true
mutual
def V.beq : V → V → Bool
 | .bool a, .bool b => a == b
 | .int j a, .int k b => decide (j = k) && decide (a = b)
 | .str a, .str b => decide (a = b)
 | .nilp, .nilp | .nils, .nils | .nilf, .nilf | .nili, .nili | .nilm, .nilm | .mt, .mt => true
 | .ptr a b, .ptr c d => Nat.beq a c && Nat.beq b d
 | .cptr t a b, .cptr u c d => decide (t = u) && V.beqs a c && Nat.beq b d
 | .list t n a k, .list u m c l => decide (t = u) && Nat.beq n m && V.beqs a c && decide (k = l)
 | .arr a b c d, .arr a' b' c' d' => Nat.beq a a' && Nat.beq b b' && Nat.beq c c' && Nat.beq d d'
 | .func f a b, .func g c d => Nat.beq f g && V.beqs a c && V.beqs b d
 | .iface t a, .iface u b => Nat.beq t u && V.beq a b
 | .agg a, .agg b => V.beqs a b
 | .tup a, .tup b => V.beqs a b
 | .map a, .map b => Nat.beq a b
 | .yld a, .yld b => Nat.beq a b
 | .dmk a, .dmk b => Nat.beq a b
 | .raw t a b, .raw u c d => Nat.beq t u && Nat.beq a c && Nat.beq b d
 | _, _ => false
def V.beqs : List V → List V → Bool
 | [], [] => true
 | x :: xs, y :: ys => V.beq x y && V.beqs xs ys
 | _, _ => false
end
inductive Oth where
 | map (es : List (V × V × Nat)) (clock : Nat)
 | sit (s : List UInt8) (pos : Nat)
 | loop (st : LoopState) (pend : Option Code) (t : Tr V) (n : Nat) (ps : Array Tmp) (asg body : Code)
 | dfr
inductive Ob where
 | box (t : TypeId) (cs : List V)
 | tok
 | oth (x : Oth)
def Ob.made : Ob → Bool
 | .tok => false
 | _ => true
def V.plain : V → Bool
 | .bool _ | .int _ _ | .str _ | .nilp | .nils | .nilf | .nili | .nilm => true
 | _ => false
def Tk.up (k : Nat) : Tk → Tk
 | .own id => .own (id + k)
 | t => t
mutual
def V.up (k : Nat) : V → V
 | .ptr id o => .ptr (id + k) o
 | .cptr t cs o => .cptr t (V.ups k cs) o
 | .list t n es tk => .list t n (V.ups k es) (tk.up k)
 | .arr id a b c => .arr (id + k) a b c
 | .func f a b => .func f (V.ups k a) (V.ups k b)
 | .iface t v => .iface t (V.up k v)
 | .agg cs => .agg (V.ups k cs)
 | .tup cs => .tup (V.ups k cs)
 | .map id => .map (id + k)
 | .yld id => .yld (id + k)
 | .dmk id => .dmk (id + k)
 | .raw t id n => .raw t (id + k) n
 | v => v
def V.ups (k : Nat) : List V → List V
 | [] => []
 | v :: l => V.up k v :: V.ups k l
end
def upEs (k : Nat) : List (V × V × Nat) → List (V × V × Nat)
 | [] => []
 | (a, b, n) :: l => (a.up k, b.up k, n) :: upEs k l
def Ob.up (k : Nat) : Ob → Ob
 | .box t cs => .box t (V.ups k cs)
 | .tok => .tok
 | .oth (.map es c) => .oth (.map (upEs k es) c)
 | .oth x => .oth x
def Ob.simple : Ob → Bool
 | .oth (.loop ..) => false
 | _ => true
structure Ent where
 v : V
 n : Nat
 objs : List (Nat × Ob)
class Glob where
 cells : Nat → Option (List V)
 plain : ∀ g cs, cells g = some cs → cs.all V.plain = true
 tab : Nat → Option Ent
structure St where
 next : Nat
 h : Tr Ob
def St.new (S : St) (o : Ob) : St := { next := S.next + 1, h := S.h.put S.next o }
def addObs (k : Nat) : List (Nat × Ob) → Tr Ob → Tr Ob
 | [], h => h
 | (i, ob) :: l, h => (addObs k l h).put (i + k) (ob.up k)
def St.add (S : St) (n : Nat) (objs : List (Nat × Ob)) : St := { next := S.next + n, h := addObs S.next objs S.h }
def mapO {α β : Type} (f : α → Option β) : List α → Option (List β)
 | [] => some []
 | x :: xs => match f x with
  | none => none
  | some y => match mapO f xs with
   | none => none
   | some ys => some (y :: ys)
def ofVal : Nat → Value → Option V
 | 0, _ => none
 | d + 1, v => match v with
  | .bool b => some (.bool b)
  | .int k n => some (.int k n)
  | .string s => some (.str s.data.toList)
  | .pointer none => some .nilp
  | .slice none n c => if Nat.beq n 0 && Nat.beq c 0 then some .nils else none
  | .nilFunc => some .nilf
  | .nilIface => some .nili
  | .map none => some .nilm
  | .agg cs => (mapO (ofVal d) cs.toList).map .agg
  | .tuple vs => (mapO (ofVal d) vs.toList).map .tup
  | _ => none
inductive Pan where
 | norm | quiet | live (v : V) | done (v : V) | rnd
structure Fr where
 t : Tr V
 n : Nat
 ds : List (FuncId × List V)
 pan : Pan
def Fr.opd [Glob] (fr : Fr) : Operand → Option V
 | .tmp t => fr.t.find t
 | .const v => ofVal 20 v
 | .global g => (Glob.cells g).map fun cs => .cptr none cs 0
 | .func f => some (.func f [] [])
def Fr.put (fr : Fr) (dst : Option Tmp) (v : V) : Option Fr :=
 match dst with
 | none => some fr
 | some d => if Nat.blt d fr.n then some { fr with t := fr.t.put d v } else none
def szOf (P : Program) (t : TypeId) : Option Nat := (P.info? t).map (·.size)
def aggT (P : Program) (t : TypeId) : Option Bool :=
 match P.underlying t with
 | some (.struct _) | some (.array _ _) => some true
 | some _ => some false
 | none => none
def zeroV (P : Program) (t : TypeId) : Option V :=
 match P.info? t with
 | none => none
 | some i => match i.zero with
  | none => none
  | some z => ofVal 20 z
def cut (cs : List V) (off n : Nat) : Option (List V) :=
 let l := (cs.drop off).take n
 if Nat.beq l.length n then some l else none
def splice (cs : List V) (off : Nat) (vs : List V) : Option (List V) :=
 if Nat.ble (off + vs.length) cs.length then some (cs.take off ++ (vs ++ cs.drop (off + vs.length))) else none
def rd (S : St) (p : V) (n : Nat) : Option (List V) :=
 match p with
 | .ptr id off => match S.h.find id with
  | some (.box _ cs) => cut cs off n
  | _ => none
 | .cptr _ cs off => cut cs off n
 | _ => none
def loadE (P : Program) (t : TypeId) (p : V) (S : St) : Option V :=
 match aggT P t, szOf P t with
 | some true, some n => (rd S p n).map .agg
 | some false, _ => match rd S p 1 with
  | some [v] => some v
  | _ => none
 | _, _ => none
def storeE (P : Program) (t : TypeId) (p v : V) (S : St) : Option St :=
 match p with
 | .ptr id off => match S.h.find id, szOf P t with
  | some (.box e cs), some n =>
   if Nat.beq v.cells.length n && v.cells.all V.one then
    match splice cs off v.cells with
    | some cs' => some { S with h := S.h.put id (.box e cs') }
    | none => none
   else none
  | _, _ => none
 | _ => none
def fillE (place : Nat → Option (Nat × Nat)) (cs : List V) : List (Nat × V) → Option (List V)
 | [] => some cs
 | (i, v) :: rest => match place i with
  | none => none
  | some (off, size) =>
   if Nat.beq v.cells.length size then
    match splice cs off v.cells with
    | some cs' => fillE place cs' rest
    | none => none
   else none
def fieldAt (P : Program) (t : TypeId) (f : Nat) : Option Field :=
 match P.underlying t with
 | some (.struct fs) => fs[f]?
 | _ => none
def buildE (P : Program) (t : TypeId) (parts : List (Nat × V)) : Option V :=
 match zeroV P t with
 | none => none
 | some z => match P.underlying t with
  | some (.struct fs) =>
   match mapO (fun (f : Field) => (szOf P f.type).map fun n => (f.offset, n)) fs.toList with
   | none => none
   | some places => (fillE (fun i => places[i]?) z.cells parts).map .agg
  | some (.array _ e) => match szOf P e with
   | none => none
   | some n => (fillE (fun i => some (i * n, n)) z.cells parts).map .agg
  | _ => none
def reps (z : List V) : Nat → List V
 | 0 => []
 | n + 1 => z ++ reps z n
def chunk (agg : Bool) (n : Nat) (cs : List V) : Nat → Option (List V)
 | 0 => some []
 | k + 1 => match cut cs 0 n with
  | none => none
  | some c => match (match agg, c with
   | true, c => some (V.agg c)
   | false, [e] => if e.one then some e else none
   | false, _ => none) with
   | none => none
   | some e => match chunk agg n (cs.drop n) k with
    | none => none
    | some es => some (e :: es)
def elemT (P : Program) (t : TypeId) : Option TypeId :=
 match P.underlying t with
 | some (.slice e) => some e
 | _ => none
def buildSliceE (P : Program) (t : TypeId) (len : Nat) (parts : List (Nat × V)) : Option V :=
 match elemT P t with
 | none => none
 | some e => match szOf P e, aggT P e, zeroV P e with
  | some n, some a, some z =>
   if Nat.ble 1 n && Nat.ble (len * n) (2 ^ 24) && Nat.beq z.cells.length n then
    match fillE (fun i => some (i * n, n)) (reps z.cells len) parts with
    | none => none
    | some cs => (chunk a n cs len).map fun es => .list (some e) n es .exact
   else none
  | _, _, _ => none
def partE (P : Program) (t : TypeId) (cs : List V) (off : Nat) : Option V :=
 match aggT P t with
 | some true => match szOf P t with
  | some n => (cut cs off n).map .agg
  | none => none
 | some false => cs[off]?
 | none => none
def eqFs (P : Program) (eq : TypeId → V → V → Option Bool) : List Field → List V → List V → Option Bool
 | [], _, _ => some true
 | f :: fs, xs, ys =>
  if f.name = "_" then eqFs P eq fs xs ys else
  match partE P f.type xs f.offset, partE P f.type ys f.offset with
  | some x, some y => match eq f.type x y with
   | some true => eqFs P eq fs xs ys
   | some false => some false
   | none => none
  | _, _ => none
def eqEs (P : Program) (eq : TypeId → V → V → Option Bool) (e s : Nat) (xs ys : List V) (i : Nat) : Nat → Option Bool
 | 0 => some true
 | n + 1 => match partE P e xs (i * s), partE P e ys (i * s) with
  | some x, some y => match eq e x y with
   | some true => eqEs P eq e s xs ys (i + 1) n
   | some false => some false
   | none => none
  | _, _ => none
def eqE (P : Program) : Nat → TypeId → V → V → Option Bool
 | 0, _, _, _ => none
 | d + 1, t, x, y =>
  match P.underlying t, x, y with
  | some .bool, .bool a, .bool b => some (a == b)
  | some (.int _), .int j a, .int k b => if decide (j = k) then some (a == b) else none
  | some .string, .str a, .str b => some (decide (a = b))
  | some (.pointer _), .nilp, .nilp => some true
  | some (.pointer _), .nilp, .ptr _ _ | some (.pointer _), .ptr _ _, .nilp | some (.pointer _), .nilp, .cptr _ _ _ | some (.pointer _), .cptr _ _ _, .nilp => some false
  | some (.pointer e), .ptr i a, .ptr j b => match szOf P e with
   | some (_ + 1) => if Nat.beq i j then some (Nat.beq a b) else none
   | _ => none
  | some (.interface _), .nili, .nili => some true
  | some (.interface _), .nili, .iface _ _ | some (.interface _), .iface _ _, .nili => some false
  | some (.interface _), .iface a u, .iface b v =>
   if Nat.beq a b then match P.info? a with
    | some i => if i.comparable then eqE P d a u v else none
    | none => none
   else some false
  | some (.struct fs), .agg xs, .agg ys => if P.stoodInHeld t then none else eqFs P (eqE P d) fs.toList xs ys
  | some (.array n e), .agg xs, .agg ys => match szOf P e with
   | some s => eqEs P (eqE P d) e s xs ys 0 n
   | none => none
  | some (.slice _), .nils, .nils => some true
  | some (.slice _), .nils, .list _ _ _ _ | some (.slice _), .list _ _ _ _, .nils | some (.slice _), .nils, .arr _ _ _ _ | some (.slice _), .arr _ _ _ _, .nils => some false
  | some (.map _ _), .nilm, .nilm => some true
  | some (.map _ _), .nilm, .map _ | some (.map _ _), .map _, .nilm => some false
  | some (.func _ _ _), .nilf, .nilf => some true
  | some (.func _ _ _), .nilf, .func _ _ _ | some (.func _ _ _), .func _ _ _, .nilf => some false
  | _, _, _ => none
def isConstO : Operand → Bool
 | .const _ => true
 | _ => false
def guardE (P : Program) (t : TypeId) (x y : Operand) (a b : V) : Bool :=
 match a, b with
 | .nili, .nili => isConstO x || isConstO y
 | .agg _, .agg _ => !P.eqGuardType P.depth t
 | _, _ => true
def strOp (op : BinOp) (x y : List UInt8) : Option V :=
 match op with
 | .add => if Nat.ble (x.length + y.length) 9223372036854775807 then some (.str (x ++ y)) else none
 | .eql => some (.bool (decide (x = y)))
 | .neq => some (.bool (!decide (x = y)))
 | .lss => some (.bool (Op.bytesLess x y))
 | .leq => some (.bool (Op.bytesLess x y || decide (x = y)))
 | .gtr => some (.bool (!(Op.bytesLess x y || decide (x = y))))
 | .geq => some (.bool (!Op.bytesLess x y))
 | _ => none
def bitE (op : BinOp) (k : IntKind) (x y : Int) : Int :=
 let a := BitVec.ofInt k.bits x
 let b := BitVec.ofInt k.bits y
 k.wrap (match op with
  | .and => a &&& b
  | .or => a ||| b
  | .xor => a ^^^ b
  | _ => a &&& ~~~b).toNat
def intOp (op : BinOp) (k : IntKind) (a b : Int) : Option V :=
 match op with
 | .add => some (.int k (k.wrap (a + b)))
 | .sub => some (.int k (k.wrap (a - b)))
 | .mul => some (.int k (k.wrap (a * b)))
 | .quo => if decide (b = 0) then none else some (.int k (k.wrap (a.tdiv b)))
 | .rem => if decide (b = 0) then none else some (.int k (a.tmod b))
 | .and => some (.int k (bitE .and k a b))
 | .or => some (.int k (bitE .or k a b))
 | .xor => some (.int k (bitE .xor k a b))
 | .andNot => some (.int k (bitE .andNot k a b))
 | .eql => some (.bool (a == b))
 | .neq => some (.bool (a != b))
 | .lss => some (.bool (a < b))
 | .leq => some (.bool (a ≤ b))
 | .gtr => some (.bool (a > b))
 | .geq => some (.bool (a ≥ b))
 | _ => none
def shiftE (op : BinOp) (k : IntKind) (x y : Int) : Option V :=
 if decide (y < 0) then none else
 let n := min y.toNat k.bits
 match op with
 | .shl => some (.int k (k.wrap (x * 2 ^ n)))
 | .shr => some (.int k (x.fdiv (2 ^ n)))
 | _ => none
def binE (P : Program) (op : BinOp) (t : TypeId) (xo yo : Operand) (x y : V) : Option V :=
 match x, y with
 | .int j a, .int k b =>
  match op with
  | .shl | .shr => shiftE op j a b
  | _ => if decide (j = k) then intOp op j a b else none
 | .str a, .str b => strOp op a b
 | _, _ =>
  match op with
  | .eql => if guardE P t xo yo x y then (eqE P 60 t x y).map .bool else none
  | .neq => if guardE P t xo yo x y then (eqE P 60 t x y).map fun b => .bool (!b) else none
  | _ => none
def unE (op : UnOp) (x : V) : Option V :=
 match op, x with
 | .neg, .int k n => some (.int k (k.wrap (0 - n)))
 | .xor, .int k n => some (.int k (bitE .xor k (if k.signed then -1 else k.max) n))
 | .not, .bool b => some (.bool !b)
 | _, _ => none
def toBytes : List V → Option (List UInt8)
 | [] => some []
 | .int .u8 n :: l => (toBytes l).map (UInt8.ofNat n.toNat :: ·)
 | _ => none
def ofBytes (s : List UInt8) : List V := s.map fun b => .int .u8 b.toNat
def boundB (x : Option V) (dflt most : Nat) : Option Nat :=
 match x with
 | none => some dflt
 | some (.int _ n) => if decide (0 ≤ n) && decide (n ≤ (most : Int)) then some n.toNat else none
 | _ => none
def sliceB (lo hi : Option V) (len cap : Nat) : Option (Nat × Nat) :=
 match boundB hi len cap with
 | none => none
 | some h => match boundB lo 0 h with
  | none => none
  | some l => some (l, h)
def readS (S : St) (agg : Bool) (sz : Nat) : V → Option (List V)
 | .nils => some []
 | .mt => some []
 | .list _ n es _ => if Nat.beq n sz then some es else none
 | .arr id off len _ => match rd S (.ptr id off) (len * sz) with
  | some cs => chunk agg sz cs len
  | none => none
 | .str s => if Nat.beq sz 1 && !agg then some (ofBytes s) else none
 | _ => none
def roomOk (n bytes : Nat) : Bool := Nat.ble (n * bytes) 140737488355328 && Nat.ble n 9223372036854775807
def isIntD : TypeDesc → Bool
 | .int _ => true
 | _ => false
def appendE (P : Program) (t u : TypeId) (x y : V) (S : St) : Option (V × St) :=
 match elemT P t with
 | none => none
 | some e => match P.info? e, aggT P e, P.underlying u, zeroV P e with
  | some i, some a, some ud, some z =>
   if isIntD ud || !Nat.ble 1 i.size || !Nat.beq z.cells.length i.size then none else
   match readS S a i.size y with
   | none => none
   | some ys =>
    if !ys.all (fun v => Nat.beq v.cells.length i.size && v.cells.all V.one) then none else
    match x with
    | .nils =>
     if ys.isEmpty then some (.nils, S)
     else if roomOk ys.length i.bytes then some (.list (some e) i.size ys (.own S.next), S.new .tok) else none
    | .mt =>
     if ys.isEmpty then some (.mt, S)
     else if roomOk ys.length i.bytes then some (.list (some e) i.size ys (.own S.next), S.new .tok) else none
    | .list lt n es tk =>
     if !Nat.beq n i.size then none
     else if ys.isEmpty then some (.list lt n es tk, S)
     else if !roomOk (es.length + ys.length) i.bytes then none
     else match tk with
      | .no => none
      | .exact => some (.list (some e) n (es ++ ys) (.own S.next), S.new .tok)
      | .own id => match S.h.find id, lt with
       | some .tok, some lt' => if Nat.beq lt' e then some (.list (some e) n (es ++ ys) (.own S.next), St.new { S with h := S.h.del id } .tok) else none
       | _, _ => none
    | _ => none
  | _, _, _, _ => none
def copyE (P : Program) (t : TypeId) (x y : V) (S : St) : Option (V × St) :=
 match elemT P t, x with
 | some e, .list _ _ [] _ => match szOf P e, aggT P e with
  | some sz, some a => match readS S a sz y with
   | none => none
   | some _ => some (.int .i64 (0 : Nat), S)
  | _, _ => none
 | some e, .arr id off len _ => match szOf P e, aggT P e with
  | some sz, some a => match readS S a sz y with
   | none => none
   | some ys =>
    let zs := ys.take len
    let cs := zs.flatMap V.cells
    if Nat.beq cs.length (zs.length * sz) && cs.all V.one then
     match S.h.find id with
     | some (.box bt bs) => match splice bs off cs with
      | some bs' => some (.int .i64 zs.length, { S with h := S.h.put id (.box bt bs') })
      | none => none
     | _ => none
    else none
  | _, _ => none
 | _, _ => none
def lenE (P : Program) (t : TypeId) (x : V) : Option V :=
 match P.underlying t, x with
 | some .string, .str s => some (.int .i64 s.length)
 | some (.array n _), _ => some (.int .i64 n)
 | some (.slice _), .nils => some (.int .i64 (0 : Nat))
 | some (.slice _), .list _ _ es _ => some (.int .i64 es.length)
 | some (.slice _), .arr _ _ n _ => some (.int .i64 n)
 | some (.map _ _), .nilm => some (.int .i64 (0 : Nat))
 | some (.slice _), .mt => some (.int .i64 (0 : Nat))
 | _, _ => none
def foldMax (gt : Bool) (k : IntKind) (a : Int) : List V → Option V
 | [] => some (.int k a)
 | .int j b :: l => if decide (j = k) then foldMax gt k (if gt then (if b > a then b else a) else (if b < a then b else a)) l else none
 | _ => none
def convertE (P : Program) (src dst : TypeId) (x : V) (S : St) : Option (V × St) :=
 match P.underlying src, P.underlying dst with
 | some sd, some dd =>
  match dd, x with
  | .int k, .int _ n => some (.int k (k.wrap n), S)
  | .string, .str s => some (.str s, S)
  | .string, .int _ n => some (.str (Utf8.encode n).data.toList, S)
  | .string, x => match sd with
   | .slice e => match P.underlying e, x with
    | some (.int .u8), .nils => some (.str [], S)
    | some (.int .u8), .list _ 1 es _ => (toBytes es).map fun s => (.str s, S)
    | some (.int .u8), .arr id off len _ => match rd S (.ptr id off) len with
     | some cs => (toBytes cs).map fun s => (.str s, S)
     | none => none
    | _, _ => none
   | _ => none
  | .slice e, .str s => match P.underlying e with
   | some (.int .u8) => some (.list none 1 (ofBytes s) .no, S)
   | _ => none
  | .unsafePointer, x => match sd, x with
   | .pointer _, .nilp => some (.nilp, S)
   | .pointer t, .ptr id off => match szOf P t, S.h.find id with
    | some (_ + 1), some (.box _ cs) => if Nat.blt off cs.length then some (.ptr id off, S) else none
    | _, _ => none
   | .unsafePointer, x => match x with | .nilp | .ptr _ _ => some (x, S) | _ => none
   | _, _ => none
  | .pointer _, .nilp => match sd with | .unsafePointer => some (.nilp, S) | _ => none
  | .pointer u, .ptr id off => match sd, szOf P u, S.h.find id with
   | .unsafePointer, some (_ + 1), some (.box e cs) =>
    if liesAt P P.depth e (cs.length / P.cellsOf e) off u 1 then some (.ptr id off, S) else none
   | _, _, _ => none
  | _, _ => none
 | _, _ => none
def makeSliceE (P : Program) (t : TypeId) (l c : V) (S : St) : Option (V × St) :=
 match elemT P t, l, c with
 | some e, .int _ l, .int _ c => match P.info? e, aggT P e, zeroV P e with
  | some i, some _, some z =>
   if decide (0 ≤ l) && decide (l ≤ c) && decide (c ≤ 9223372036854775807) && Nat.ble (i.bytes * c.toNat) 140737488355328 && Nat.ble 1 i.size && Nat.beq z.cells.length i.size then
    if decide (c = 0) then some (.list (some e) i.size [] .exact, S)
    else if decide (l = 0) then some (.list (some e) i.size [] (.own S.next), S.new .tok)
    else some (.arr S.next 0 l.toNat c.toNat, S.new (.box e (reps z.cells c.toNat)))
   else none
  | _, _, _ => none
 | _, _, _ => none
def sliceB3 (lo hi : Option V) (mx : V) (cap : Nat) : Option (Nat × Nat × Nat) :=
 match hi with
 | none => none
 | some hv => match boundB (some mx) 0 cap with
  | none => none
  | some m => match boundB (some hv) 0 m with
   | none => none
   | some h => match boundB lo 0 h with
    | none => none
    | some l => some (l, h, m)
def slice3E (P : Program) (t : TypeId) (x : V) (lo hi : Option V) (m : V) : Option V :=
 match P.underlying t, x with
 | some (.slice e), .nils => match szOf P e, sliceB3 lo hi m 0 with
  | some _, some _ => some .nils
  | _, _ => none
 | some (.slice e), .mt => match szOf P e, sliceB3 lo hi m 0 with
  | some _, some _ => some .mt
  | _, _ => none
 | some (.slice e), .list lt n es _ => match szOf P e with
  | some sz => if Nat.beq n sz then match sliceB3 lo hi m es.length with
   | some (l, h, m) => some (.list lt n ((es.take h).drop l) (if Nat.beq h m then .exact else .no))
   | none => none
   else none
  | none => none
 | _, _ => none
def Tk.tail : Tk → Tk
 | .exact => .exact
 | _ => .no
def sliceE (P : Program) (t : TypeId) (x : V) (lo hi : Option V) (mx : Option V) : Option V :=
 match mx with
 | some m => slice3E P t x lo hi m
 | none => match P.underlying t, x with
  | some .string, .str s => (sliceB lo hi s.length s.length).map fun (l, h) => .str ((s.take h).drop l)
  | some (.slice e), .nils => match szOf P e, sliceB lo hi 0 0 with
   | some _, some _ => some .nils
   | _, _ => none
  | some (.slice e), .mt => match szOf P e, sliceB lo hi 0 0 with
   | some _, some _ => some .mt
   | _, _ => none
  | some (.slice e), .list lt n es tk => match szOf P e with
   | some sz => if Nat.beq n sz then match sliceB lo hi es.length es.length with
    | some (l, h) => if Nat.beq l 0 && Nat.beq h es.length then some (.list lt n es tk) else
     if Nat.blt l es.length then some (.list lt n ((es.take h).drop l) (if Nat.beq h es.length then tk else .no)) else some (.list lt n [] tk.tail)
    | none => none
    else none
   | none => none
  | some (.slice e), .raw t id n => match szOf P e, sliceB lo hi n n with
   | some 1, some (0, 0) => if Nat.beq t e then some (.list (some e) 1 [] (.own id)) else none
   | _, _ => none
  | some (.slice e), .arr id off len cap => match szOf P e, sliceB lo hi len cap with
   | some sz, some (l, h) => if Nat.ble len cap && Nat.blt l cap then some (.arr id (off + l * sz) (h - l) (cap - l)) else none
   | _, _ => none
  | some (.array n e), .ptr id off => match szOf P e, sliceB lo hi n n with
   | some sz, some (l, h) => if Nat.blt l n then some (.arr id (off + l * sz) (h - l) (n - l)) else none
   | _, _ => none
  | _, _ => none
def fieldAddrE (P : Program) (s : TypeId) (p : V) (f : Nat) : Option V :=
 match fieldAt P s f with
 | none => none
 | some fd => match szOf P fd.type with
  | some (_ + 1) => match p with
   | .ptr id off => some (.ptr id (off + fd.offset))
   | .cptr t cs off => some (.cptr t cs (off + fd.offset))
   | _ => none
  | _ => none
def fieldE (P : Program) (t : TypeId) (x : V) (f : Nat) : Option V :=
 match fieldAt P t f, x with
 | some fd, .agg cs => partE P fd.type cs fd.offset
 | _, _ => none
def indexAddrE (P : Program) (t : TypeId) (x i : V) : Option V :=
 match i with
 | .int _ n => if decide (0 ≤ n) then
  match P.underlying t, x with
  | some (.slice e), .list lt m es _ => match szOf P e with
   | some sz => if Nat.beq m sz then (es[n.toNat]?).map fun v => .cptr none v.cells 0 else none
   | none => none
  | some (.slice e), .arr id off len _ => match szOf P e with
   | some sz => if decide (n < len) then some (.ptr id (off + n.toNat * sz)) else none
   | none => none
  | some (.array m e), .ptr id off => match szOf P e with
   | some sz => if decide (n < m) then some (.ptr id (off + n.toNat * sz)) else none
   | none => none
  | some (.array m e), .cptr t cs off => match szOf P e with
   | some sz => if decide (n < m) then some (.cptr t cs (off + n.toNat * sz)) else none
   | none => none
  | _, _ => none
  else none
 | _ => none
def indexE (P : Program) (t : TypeId) (x i : V) : Option V :=
 match i with
 | .int _ n => if decide (0 ≤ n) then
  match P.underlying t, x with
  | some .string, .str s => (s[n.toNat]?).map fun b => .int .u8 b.toNat
  | some (.array m e), .agg cs => match szOf P e with
   | some sz => if decide (n < m) then partE P e cs (n.toNat * sz) else none
   | none => none
  | _, _ => none
  else none
 | _ => none
def assertE (P : Program) (x : V) (asserted : TypeId) (ok : Bool) : Option V :=
 match P.underlying asserted, x with
 | some (.interface _), _ => none
 | some _, .nili => if ok then (zeroV P asserted).map fun z => .tup [z, .bool false] else none
 | some _, .iface t v =>
  if Nat.beq t asserted then some (if ok then .tup [v, .bool true] else v)
  else if ok then (zeroV P asserted).map fun z => .tup [z, .bool false] else none
 | _, _ => none
def unsafeStrE (P : Program) (pt : TypeId) (x n : V) (S : St) : Option (V × St) :=
 match P.underlying pt, n with
 | some (.pointer e), .int _ n =>
  if decide (n = 0) then match x with
   | .nilp | .cptr _ _ _ => some (.str [], S)
   | _ => none
  else if decide (0 ≤ n) && decide (n ≤ 9223372036854775807) then match x with
   | .cptr (some lt) cs 0 => if Nat.beq lt e && Nat.beq (P.cellsOf e) 1 && Nat.beq n.toNat cs.length then (match P.underlying e with
    | some (.int .u8) => (toBytes cs).map fun s => (.str s, S)
    | _ => none) else none
   | _ => none
  else none
 | _, _ => none
def isKeyD : TypeDesc → V → Bool
 | .bool, .bool _ => true
 | .int k, .int j _ => decide (j = k)
 | .string, .str _ => true
 | _, _ => false
def sameKey : V → V → Option Bool
 | .int j a, .int k b => if decide (j = k) then some (a == b) else none
 | .str a, .str b => some (decide (a = b))
 | .bool a, .bool b => some (a == b)
 | _, _ => none
def findE (k : V) : List (V × V × Nat) → Nat → Option (Option (Nat × V))
 | [], _ => some none
 | (q, v, _) :: es, i => match sameKey k q with
  | some true => some (some (i, v))
  | some false => findE k es (i + 1)
  | none => none
def setAt (k v : V) : List (V × V × Nat) → Nat → List (V × V × Nat)
 | [], _ => []
 | (_, _, b) :: es, 0 => (k, v, b) :: es
 | e :: es, i + 1 => e :: setAt k v es i
def mapT (P : Program) (t : TypeId) : Option (TypeDesc × TypeId) :=
 match P.underlying t with
 | some (.map k e) => match P.underlying k with
  | some d => some (d, e)
  | none => none
 | _ => none
def entsE (x : V) (S : St) : Option (List (V × V × Nat)) :=
 match x with
 | .nilm => some []
 | .map id => match S.h.find id with
  | some (.oth (.map es _)) => some es
  | _ => none
 | _ => none
def lookupE (P : Program) (t : TypeId) (x k : V) (ok : Bool) (S : St) : Option V :=
 match mapT P t, entsE x S with
 | some (d, e), some es => if isKeyD d k then match findE k es 0, zeroV P e with
  | some (some (_, v)), some _ => some (if ok then .tup [v, .bool true] else v)
  | some none, some z => some (if ok then .tup [z, .bool false] else z)
  | _, _ => none
  else none
 | _, _ => none
def updateE (P : Program) (t : TypeId) (x k v : V) (S : St) : Option St :=
 match mapT P t, x with
 | some (d, _), .map id => match S.h.find id with
  | some (.oth (.map es clock)) => if isKeyD d k then match findE k es 0 with
   | some (some (i, _)) => some { S with h := S.h.put id (.oth (.map (setAt k v es i) clock)) }
   | some none => some { S with h := S.h.put id (.oth (.map (es ++ [(k, v, clock)]) (clock + 1))) }
   | none => none
   else none
  | _ => none
 | _, _ => none
def deleteE (P : Program) (t : TypeId) (x k : V) (S : St) : Option St :=
 match mapT P t, x with
 | some (d, _), .map id => match S.h.find id with
  | some (.oth (.map es clock)) => if isKeyD d k then match findE k es 0 with
   | some (some (i, _)) => some { S with h := S.h.put id (.oth (.map (es.eraseIdx i) clock)) }
   | some none => some { S with h := S.h.put id (.oth (.map es clock)) }
   | none => none
   else none
  | _ => none
 | _, _ => none
def clearE (P : Program) (t : TypeId) (x : V) (S : St) : Option St :=
 match P.underlying t, x with
 | some (.map _ _), .map id => match S.h.find id with
  | some (.oth (.map _ clock)) => some { S with h := S.h.put id (.oth (.map [] clock)) }
  | _ => none
 | _, _ => none
def rangeE (P : Program) (t : TypeId) (x : V) (S : St) : Option (V × St) :=
 match P.underlying t, x with
 | some .string, .str s => some (.ptr S.next 0, S.new (.oth (.sit s 0)))
 | _, _ => none
def nextE (it : V) (isS : Bool) (S : St) : Option (V × St) :=
 match it, isS with
 | .ptr id 0, true => match S.h.find id with
  | some (.oth (.sit s pos)) =>
   if Nat.blt pos s.length then
    let c := Utf8.decode ⟨s.toArray⟩ pos
    some (.tup [.bool true, .int .i64 pos, .int .i32 c.1], { S with h := S.h.put id (.oth (.sit s (pos + c.2))) })
   else some (.tup [.bool false], S)
  | _ => none
 | _, _ => none
def builtinE (P : Program) (b : Builtin) (ts : List TypeId) (args : List V) (S : St) : Option (V × St) :=
 match b, ts, args with
 | .len, t :: _, x :: _ => (lenE P t x).map fun v => (v, S)
 | .append, [t, u], [x, y] => appendE P t u x y S
 | .copy, t :: _, [x, y] => copyE P t x y S
 | .max, _, .int k a :: l => (foldMax true k a l).map fun v => (v, S)
 | .min, _, .int k a :: l => (foldMax false k a l).map fun v => (v, S)
 | .unsafeSliceData, _, [.nils] => some (.nilp, S)
 | .unsafeSliceData, _, [.list lt 1 (e :: es) _] => some (.cptr lt ((e :: es).flatMap V.cells) 0, S)
 | .unsafeString, [t, _], [x, n] => unsafeStrE P t x n S
 | .cap, t :: _, [.nils] => match elemT P t with
  | some _ => some (.int .i64 (0 : Nat), S)
  | none => none
 | .delete, t :: _, [x, k] => (deleteE P t x k S).map fun S' => (.tup [], S')
 | .clear, t :: _, [x] => (clearE P t x S).map fun S' => (.tup [], S')
 | _, _, _ => none
def concreteB (P : Program) (t : TypeId) : Bool :=
 match P.underlying t with
 | some (.interface _) | none => false
 | some _ => true
def opE (P : Program) (op : Op) (ev : Operand → Option V) (S : St) : Option (V × St) :=
 match op with
 | .move x | .assign x => (ev x).map fun v => (v, S)
 | .pick c a b => match ev c with
  | some (.bool true) => (ev a).map fun v => (v, S)
  | some (.bool false) => (ev b).map fun v => (v, S)
  | _ => none
 | .alloc t => (zeroV P t).map fun z => (.ptr S.next 0, S.new (.box t z.cells))
 | .box t x => (ev x).map fun v => (.ptr S.next 0, S.new (.box t v.cells))
 | .build t ps => match mapO (fun (p : Nat × Operand) => (ev p.2).map fun v => (p.1, v)) ps.toList with
  | some l => (buildE P t l).map fun v => (v, S)
  | none => none
 | .buildSlice t n ps => match mapO (fun (p : Nat × Operand) => (ev p.2).map fun v => (p.1, v)) ps.toList with
  | some l => (buildSliceE P t n l).map fun v => (v, S)
  | none => none
 | .load t a => match ev a with
  | some p => (loadE P t p S).map fun v => (v, S)
  | none => none
 | .store t a x => match ev a, ev x with
  | some p, some v => (storeE P t p v S).map fun S' => (.tup [], S')
  | _, _ => none
 | .nilCheck x => match ev x with
  | some (.ptr i o) => some (.ptr i o, S)
  | some (.cptr t cs o) => some (.cptr t cs o, S)
  | some (.func f a b) => some (.func f a b, S)
  | some (.yld i) => some (.yld i, S)
  | _ => none
 | .binOp op t x y _ => match ev x, ev y with
  | some a, some b => (binE P op t x y a b).map fun v => (v, S)
  | _, _ => none
 | .unOp op _ x => match ev x with
  | some a => (unE op a).map fun v => (v, S)
  | none => none
 | .convert s d x => match ev x with
  | some a => convertE P s d a S
  | none => none
 | .makeInterface t x => match ev x with
  | some a => if concreteB P t then some (.iface t a, S) else none
  | none => none
 | .makeFunc (.func f) first caps => match mapO ev first.toList, mapO ev caps.toList with
  | some a, some b => some (.func f a b, S)
  | _, _ => none
 | .makeSlice t l c => match ev l, ev c with
  | some a, some b => makeSliceE P t a b S
  | _, _ => none
 | .slice t x lo hi mx => match ev x, mapO ev lo.toList, mapO ev hi.toList, mapO ev mx.toList with
  | some a, some l, some h, some m => (sliceE P t a l.head? h.head? m.head?).map fun v => (v, S)
  | _, _, _, _ => none
 | .fieldAddr s x f => match ev x with
  | some a => (fieldAddrE P s a f).map fun v => (v, S)
  | none => none
 | .field t x f => match ev x with
  | some a => (fieldE P t a f).map fun v => (v, S)
  | none => none
 | .indexAddr t x i => match ev x, ev i with
  | some a, some b => (indexAddrE P t a b).map fun v => (v, S)
  | _, _ => none
 | .index t x i => match ev x, ev i with
  | some a, some b => (indexE P t a b).map fun v => (v, S)
  | _, _ => none
 | .typeAssert x _ t ok => match ev x with
  | some a => (assertE P a t ok).map fun v => (v, S)
  | none => none
 | .extract t i => match ev t with
  | some (.tup vs) => (vs[i]?).map fun v => (v, S)
  | _ => none
 | .makeMap t r => match mapT P t, mapO ev r.toList with
  | some _, some [] => some (.map S.next, S.new (.oth (.map [] 0)))
  | some _, some [.int _ _] => some (.map S.next, S.new (.oth (.map [] 0)))
  | _, _ => none
 | .lookup t x k ok => match ev x, ev k with
  | some a, some b => (lookupE P t a b ok S).map fun v => (v, S)
  | _, _ => none
 | .insert t m k x => match ev m, ev k, ev x with
  | some a, some b, some c => (updateE P t a b c S).map fun S' => (.tup [], S')
  | _, _, _ => none
 | .mapUpdate t m k x => match ev m, ev k, ev x with
  | some a, some b, some c => (updateE P t a b c S).map fun S' => (.tup [], S')
  | _, _, _ => none
 | .range t x => match ev x with
  | some a => rangeE P t a S
  | none => none
 | .next x b => match ev x with
  | some a => nextE a b S
  | none => none
 | .call { callee := .builtin b, args, argTypes } => match mapO ev args.toList with
  | some l => builtinE P b argTypes.toList l S
  | none => none
 | _ => none
inductive X where
 | normal | exit (n : Nat) | ret | panic (v : V) | goto (l : Nat)
inductive Task where
 | code (c : Code) (fr : Fr)
 | call (f : FuncId) (args : List V)
 | dcall (f : FuncId) (args : List V) (p : Pan)
inductive Rs where
 | code (x : X) (fr : Fr) (S : St)
 | ret (v : V) (S : St)
 | pan (v : V) (S : St)
 | dret (p : Pan) (S : St)
def wantE (ops : Array Oper) (o : Oper) (fr : Fr) : Option Bool :=
 match o.guard with
 | none => some true
 | some (j, want) => match (ops[j]?).bind (·.dst) with
  | none => none
  | some d => match fr.t.find d with
   | some (.bool b) => some (b == want)
   | some (.tup []) => some false
   | _ => none
abbrev Rec := Task → St → Option Rs
def resultsE (P : Program) (fn : Func) (fr : Fr) (S : St) : Option V :=
 match mapO (fun r => match r with
  | ResultVar.tmp t => fr.t.find t
  | ResultVar.cell a t => match fr.t.find a with
   | some p => loadE P t p S
   | none => none) fn.results.toList with
 | some [v] => some v
 | some vs => some (.tup vs)
 | none => none
def idxB (c : UInt8) : List UInt8 → Nat → Int
 | [], _ => -1
 | x :: l, i => if x = c then i else idxB c l (i + 1)
def extE (P : Program) (fn : Func) (l : List V) (S : St) : Option (V × St) :=
 if fn.name = "internal/abi.NoEscape" then match l with
  | [v] => some (v, S)
  | _ => none
 else if fn.name = "internal/bytealg.IndexByteString" then match l with
  | [.str s, .int .u8 c] => some (.int .i64 (idxB (UInt8.ofNat c.toNat) s 0), S)
  | _ => none
 else if fn.name = "internal/bytealg.MakeNoZero" then match l, fn.resultTypes[0]? with
  | [.int .i64 n], some t => match elemT P t with
   | some e => if decide (0 ≤ n) && decide (n ≤ 1099511627776) then some (.raw e S.next n.toNat, S.new .tok) else none
   | none => none
  | _, _ => none
 else none
def calleeE (ev : Operand → Option V) (f : Operand) (args : Array Operand) : Option (FuncId × List V) :=
 match ev f, mapO ev args.toList with
 | some (.func g first caps), some l => some (g, first ++ l ++ caps)
 | _, _ => none
def putE (fr : Fr) (dst : Option Tmp) (v : V) (S : St) : Option Rs :=
 match fr.put dst v with
 | some fr' => some (.code .normal fr' S)
 | none => none
def jumpOf : X → Option (Option Code)
 | .normal => some none
 | .ret => some (some .ret)
 | .exit n => some (some (.exit n))
 | .goto n => some (some (.goto n))
 | .panic _ => none
def isYld : Option V → Option Nat
 | some (.yld id) => some id
 | _ => none
def putArgs (n : Nat) : List Tmp → List V → Tr V → Option (Tr V)
 | [], [], t => some t
 | k :: ks, v :: vs, t => if Nat.blt k n then putArgs n ks vs (t.put k v) else none
 | _, _, _ => none
def loopE (S : St) (id : Nat) : Option (LoopState × Option Code × Tr V × Nat × Array Tmp × Code × Code) :=
 match S.h.find id with
 | some (.oth (.loop st pend t n ps asg body)) => some (st, pend, t, n, ps, asg, body)
 | _ => none
def setLoop (S : St) (id : Nat) (st : LoopState) (pend : Option Code) (r : LoopState × Option Code × Tr V × Nat × Array Tmp × Code × Code) : St :=
 { S with h := S.h.put id (.oth (.loop st pend r.2.2.1 r.2.2.2.1 r.2.2.2.2.1 r.2.2.2.2.2.1 r.2.2.2.2.2.2)) }
def isReady : LoopState → Bool
 | .ready => true
 | _ => false
def isBusy : LoopState → Bool
 | .busy => true
 | _ => false
def roundE (rec : Rec) (id : Nat) (l : List V) (S : St) : Option (V × St) :=
 match loopE S id with
 | none => none
 | some r => match putArgs r.2.2.2.1 r.2.2.2.2.1.toList l r.2.2.1 with
  | none => none
  | some t => match rec (.code r.2.2.2.2.2.1 { t := t, n := r.2.2.2.1, ds := [], pan := .rnd }) S with
   | some (.code .normal fr1 S1) => match loopE S1 id with
    | none => none
    | some r1 => if isReady r1.1 then match rec (.code r.2.2.2.2.2.2 fr1) (setLoop S1 id .busy r1.2.1 r1) with
     | some (.code x fr2 S2) => match loopE S2 id, jumpOf x with
      | some r2, some j => some (.bool j.isNone, setLoop S2 id (if j.isNone then .ready else .done) j r2)
      | _, _ => none
     | _ => none
     else none
   | _ => none
inductive Ac where
 | val (v : V) (S : St)
 | pan (v : V) (S : St)
 | dfr (d : FuncId × List V)
 | rcv (p : Pan) (v : V)
def actE (rec : Rec) (P : Program) (op : Op) (ev : Operand → Option V) (pan : Pan) (S : St) : Option Ac :=
 match op with
 | .call { callee := .value f, args, argTypes := _ } => match isYld (ev f) with
  | some id => match mapO ev args.toList with
   | none => none
   | some l => match roundE rec id l S with
    | some (v, S') => some (.val v S')
    | none => none
  | none => match calleeE ev f args with
   | none => none
   | some (g, l) => match P.funcs[g]? with
    | none => none
    | some fn => match fn.body with
     | some _ => match rec (.call g l) S with
      | some (.ret v S') => some (.val v S')
      | some (.pan v S') => some (.pan v S')
      | _ => none
     | none => match extE P fn l S with
      | some (v, S') => some (.val v S')
      | none => none
 | .call { callee := .builtin .recover, .. } => match pan with
  | .norm => some (.val .nili S)
  | .quiet => some (.val .nili S)
  | .done _ => some (.val .nili S)
  | .live v => some (.rcv (.done v) v)
  | .rnd => none
 | .defer { callee := .value f, args, argTypes := _ } => match pan, calleeE ev f args with
  | .rnd, _ => none
  | _, none => none
  | _, some (g, l) => some (.dfr (g, l))
 | .panic x => match ev x with
  | some (.iface t v) => some (.pan (.iface t v) S)
  | _ => none
 | op => match opE P op ev S with
  | some (v, S') => some (.val v S')
  | none => none
def oneE [Glob] (rec : Rec) (P : Program) (ops : Array Oper) (o : Oper) (fr : Fr) (S : St) : Option Rs :=
 match wantE ops o fr with
 | none => none
 | some false => putE fr o.dst (.tup []) S
 | some true => match actE rec P o.op fr.opd fr.pan S with
  | none => none
  | some (.val v S') => putE fr o.dst v S'
  | some (.pan v S') => some (.code (.panic v) fr S')
  | some (.dfr d) => putE { fr with ds := d :: fr.ds } o.dst (.tup []) S
  | some (.rcv p v) => putE { fr with pan := p } o.dst v S
def seqE [Glob] (rec : Rec) (P : Program) (ops : Array Oper) : List Nat → Fr → St → Option Rs
 | [], fr, S => some (.code .normal fr S)
 | i :: l, fr, S => match ops[i]? with
  | none => none
  | some o => match oneE rec P ops o fr S with
   | some (.code .normal fr' S') => seqE rec P ops l fr' S'
   | r => r
def clsE : Op → Nat
 | .move _ | .assign _ | .pick .. | .build .. | .buildSlice .. | .nilCheck _ | .binOp .. | .unOp .. | .makeInterface .. | .makeFunc .. | .slice .. | .fieldAddr .. | .field ..
 | .indexAddr .. | .index .. | .typeAssert .. | .extract .. => 0
 | .alloc _ | .box .. | .makeSlice .. | .makeMap .. => 1
 | .load .. | .lookup .. => 2
 | .convert .. => 2
 | .call { callee := .builtin .len, .. } | .call { callee := .builtin .max, .. } | .call { callee := .builtin .min, .. } | .call { callee := .builtin .unsafeSliceData, .. } => 0
 | _ => 3
def masks (ops : List Oper) (acc : List Nat) : List Nat :=
 match ops with
 | [] => acc
 | o :: l => masks l (acc ++ [o.after.foldl (fun s e => if Region.binds .any e then s ||| (2 ^ e.on ||| acc.getD e.on 0) else s) 0])
def bitAt (m i : Nat) : Bool := Nat.beq (m / 2 ^ i % 2) 1
def ancOf (ms : List Nat) (i j : Nat) : Bool := bitAt (ms.getD j 0) i
def looks (ops : Array Oper) (o : Oper) : List Tmp := o.looksAt ops
def dstOk (ms : List Nat) (ops : Array Oper) : Bool :=
 let l := ops.toList.zipIdx
 l.all fun (o', i) => match o'.dst with
  | none => true
  | some d => l.all fun (o, k) => Nat.beq i k || (o.dst != some d && (!(looks ops o).contains d || ancOf ms i k || ancOf ms k i))
def edgesOk (ops : Array Oper) : Bool :=
 ops.toList.zipIdx.all fun (o, k) => o.after.all fun e => !Region.binds .any e || Nat.blt e.on k
def cls3 (ops : Array Oper) (i : Nat) : Bool := match ops[i]? with
 | some o => Nat.beq (clsE o.op) 3
 | none => false
def mutsOf (ops : Array Oper) : List Nat := (List.range ops.size).filter (cls3 ops)
def placeE (ms : List Nat) (n : Nat) : List Nat → List Nat → List Nat
 | [], placed => placed ++ (List.range n).filter fun i => !placed.contains i
 | m :: l, placed => placeE ms n l (placed ++ ((List.range n).filter fun i => !placed.contains i && ancOf ms i m) ++ [m])
def ordOk (ms : List Nat) (ops : Array Oper) : Nat → List Nat → Bool
 | pm, [] => Nat.beq pm (2 ^ ops.size - 1)
 | pm, i :: l => Nat.blt i ops.size && Nat.beq (Nat.land (ms.getD i 0) pm) (ms.getD i 0) && !bitAt pm i && (!cls3 ops i || Nat.beq (Nat.land pm (ms.getD i 0)) pm) && ordOk ms ops (Nat.lor pm (2 ^ i)) l
structure Plan where
 ms : List Nat
 ord : List Nat
 ok : Bool
def planOf (ops : Array Oper) : Plan :=
 let ms := masks ops.toList []
 let ord := placeE ms ops.size (mutsOf ops) []
 { ms, ord, ok := edgesOk ops && dstOk ms ops && ordOk ms ops 0 ord }
inductive En where
 | mild (i : Nat) (o : Oper) (v : V) (n : Nat) (ob : Option Ob)
 | act (i : Nat) (o : Oper) (v : V) (n : Nat) (S : St)
def withs (h : Tr Ob) : List (Nat × Ob) → Tr Ob
 | [] => h
 | (n, ob) :: l => withs (h.put n ob) l
def sameAt (P : Program) (op : Op) (ev : Operand → Option V) (v : V) (S : St) : Bool :=
 match opE P op ev S with
 | some (u, _) => V.beq u v
 | none => false
def sameE (P : Program) (ms : List Nat) (i : Nat) (op : Op) (ev : Operand → Option V) (v : V) (S0 : St) : List En → List (Nat × Ob) → Bool
 | [], acc => sameAt P op ev v { S0 with h := withs S0.h acc }
 | .mild j _ _ n ob :: T, acc => match ob with
  | some ob => sameE P ms i op ev v S0 T (if ancOf ms j i then (n, ob) :: acc else acc)
  | none => sameE P ms i op ev v S0 T acc
 | .act j _ _ _ S :: T, acc => sameAt P op ev v { S with h := withs S.h acc } && (ancOf ms j i || sameE P ms i op ev v S0 T acc)
def viewE [Glob] (fr : Fr) (l : List Tmp) : Operand → Option V
 | .tmp t => if l.contains t then fr.t.find t else none
 | x => fr.opd x
def dropT (ops : Array Oper) : List Nat → Fr → Fr
 | [], fr => fr
 | i :: l, fr => match (ops[i]?).bind (·.dst) with
  | some d => dropT ops l { fr with t := fr.t.del d }
  | none => dropT ops l fr
def St.plus (S : St) : Option Ob → St
 | none => S
 | some ob => S.new ob
def mildE [Glob] (P : Program) (ops : Array Oper) (ms : List Nat) (S0 : St) (i : Nat) (o : Oper) (T : List En) (fr : Fr) (S : St) : Option (V × Option Ob) :=
 match wantE ops o fr with
 | none => none
 | some false => some (.tup [], none)
 | some true => match opE P o.op (viewE fr (looks ops o)) S with
  | none => none
  | some (v, S') => match clsE o.op with
   | 0 => some (v, none)
   | 1 => if Nat.beq S'.next S.next then some (v, none) else match S'.h.find S.next with
    | some (.box t cs) => some (v, some (.box t cs))
    | some (.oth x) => some (v, some (.oth x))
    | _ => none
   | 2 => if sameE P ms i o.op (viewE fr (looks ops o)) v S0 T [] then some (v, none) else none
   | _ => none
def mildsE [Glob] (P : Program) (ops : Array Oper) (ms : List Nat) (S0 : St) : Nat → List Nat → List En → Fr → St → Option Nat
 | _, [], _, _, S => some S.next
 | pm, i :: l, T, fr, S => match ops[i]? with
  | none => none
  | some o => if Nat.beq (Nat.land (ms.getD i 0) pm) (ms.getD i 0) && !bitAt pm i then
   match mildE P ops ms S0 i o T fr S with
   | none => none
   | some (v, ob) => match fr.put o.dst v with
    | none => none
    | some fr' => mildsE P ops ms S0 (Nat.lor pm (2 ^ i)) l (.mild i o v S.next ob :: T) fr' (S.plus ob)
   else none
def maskOf : List En → Nat
 | [] => 0
 | .mild i _ _ _ _ :: T | .act i _ _ _ _ :: T => Nat.lor (maskOf T) (2 ^ i)
def isT : Option Bool → Bool
 | some b => b
 | none => false
def drawE [Glob] (rec : Rec) (P : Program) (ops : Array Oper) (ms : List Nat) (S0 : St) : List Nat → List En → Fr → St → Option Rs
 | [], _, fr, S => some (.code .normal fr S)
 | i :: l, T, fr, S => match ops[i]? with
  | none => none
  | some o =>
   if Nat.beq (clsE o.op) 3 && isT (wantE ops o fr) then
    match actE rec P o.op (viewE fr (looks ops o)) fr.pan S with
    | some (.val v S') => match fr.put o.dst v with
     | none => none
     | some fr' => drawE rec P ops ms S0 l (.act i o v S.next S' :: T) fr' S'
    | some (.pan v S') =>
     match mildsE P ops ms S0 (maskOf T) (l.filter fun j => !ancOf ms i j) T fr { S with next := S'.next } with
     | some n => some (.code (.panic v) (dropT ops (l.filter fun j => !ancOf ms i j) fr) { S' with next := n })
     | none => none
    | _ => none
   else match mildE P ops ms S0 i o T fr S with
    | none => none
    | some (v, ob) => match fr.put o.dst v with
     | none => none
     | some fr' => drawE rec P ops ms S0 l (.mild i o v S.next ob :: T) fr' (S.plus ob)
def regionE [Glob] (rec : Rec) (P : Program) (ops : Array Oper) (draw : Bool) (fr : Fr) (S : St) : Option Rs :=
 match draw with
 | false => seqE rec P ops (List.range ops.size) fr S
 | true =>
  let pl := planOf ops
  if pl.ok then drawE rec P ops pl.ms S pl.ord [] fr S else none
def startFr (fn : Func) (args : List V) (p : Pan) : Fr :=
 { t := go 0 args .leaf, n := max args.length fn.ntmps, ds := [], pan := p }
where go (i : Nat) : List V → Tr V → Tr V
 | [], t => t
 | v :: l, t => go (i + 1) l (t.put i v)
def markOf : List V → Option Nat
 | [.dmk m] => some m
 | _ => none
def landOf : Option Code → Option X
 | none => some .normal
 | some .ret => some .ret
 | some (.exit n) => some (.exit n)
 | some (.goto n) => some (.goto n)
 | _ => none
def scopeE (rec : Rec) (body : Code) : Nat → Code → Fr → St → Option Rs
 | 0, _, _, _ => none
 | n + 1, c, fr, S => match rec (.code c fr) S with
  | some (.code (.goto l) fr' S') => match findLabel body l with
   | some rest => scopeE rec body n rest fr' S'
   | none => some (.code (.goto l) fr' S')
  | r => r
def rangeFuncE [Glob] (rec : Rec) (P : Program) (f : Operand) (ps : Array Tmp) (asg body : Code) (fr : Fr) (S : St) : Option Rs :=
 match fr.pan, fr.opd f with
 | .rnd, _ => none
 | _, some (.func g first caps) => match P.funcs[g]? with
  | none => none
  | some fn => match fn.body with
   | none => none
   | some _ =>
    let fr' : Fr := { fr with ds := (0, [.dmk S.next]) :: fr.ds }
    match rec (.call g (first ++ [.yld (S.next + 1)] ++ caps)) (St.new (S.new (.oth .dfr)) (.oth (.loop .ready none fr.t fr.n ps asg body))) with
    | some (.ret _ S3) => match loopE S3 (S.next + 1) with
     | none => none
     | some r => if isBusy r.1 then none else match landOf r.2.1 with
      | none => none
      | some x => some (.code x fr' (setLoop S3 (S.next + 1) .exhausted r.2.1 r))
    | some (.pan v S3) => some (.code (.panic v) fr' S3)
    | _ => none
 | _, _ => none
def leaveE (rec : Rec) (P : Program) (fn : Func) (fr : Fr) : List (FuncId × List V) → Option V → St → Option Rs
 | [], none, S => (resultsE P fn fr S).map fun v => .ret v S
 | [], some v, S => some (.pan v S)
 | (g, l) :: ds, p, S =>
  match markOf l with
  | some m => match S.h.find m with
   | some (.oth .dfr) => leaveE rec P fn fr ds p { S with h := S.h.del m }
   | _ => none
  | none =>
   match rec (.dcall g l (match p with | none => .quiet | some v => .live v)) S with
   | some (.dret .quiet S') => leaveE rec P fn fr ds none S'
   | some (.dret (.live v) S') => leaveE rec P fn fr ds (some v) S'
   | some (.dret (.done _) S') => leaveE rec P fn fr ds none S'
   | _ => none
def stepT [Glob] (P : Program) (rec : Rec) (task : Task) (S : St) : Option Rs :=
 match task with
 | .call f args => match P.funcs[f]? with
  | none => none
  | some fn => match fn.body with
   | none => none
   | some c => match rec (.code c (startFr fn args .norm)) S with
    | some (.code .normal fr S') => leaveE rec P fn fr fr.ds none S'
    | some (.code .ret fr S') => leaveE rec P fn fr fr.ds none S'
    | some (.code (.panic v) fr S') => leaveE rec P fn fr fr.ds (some v) S'
    | _ => none
 | .dcall f args p => match P.funcs[f]? with
  | none => none
  | some fn => match fn.body with
   | none => none
   | some c => match rec (.code c (startFr fn args p)) S with
    | some (.code .normal fr S') => match fr.ds, resultsE P fn fr S' with
     | [], some _ => some (.dret fr.pan S')
     | _, _ => none
    | some (.code .ret fr S') => match fr.ds, resultsE P fn fr S' with
     | [], some _ => some (.dret fr.pan S')
     | _, _ => none
    | _ => none
 | .code c fr => match c with
  | .skip => some (.code .normal fr S)
  | .ret => some (.code .ret fr S)
  | .exit n => some (.code (.exit n) fr S)
  | .label _ => some (.code .normal fr S)
  | .goto l => some (.code (.goto l) fr S)
  | .scope b => scopeE rec b 1048576 b fr S
  | .region _ ops draw => regionE rec P ops draw fr S
  | .seq a b => match rec (.code a fr) S with
   | some (.code .normal fr' S') => rec (.code b fr') S'
   | r => r
  | .cond x a b => match fr.opd x with
   | some (.bool true) => rec (.code a fr) S
   | some (.bool false) => rec (.code b fr) S
   | _ => none
  | .block n b => match rec (.code b fr) S with
   | some (.code (.exit m) fr' S') => if Nat.beq m n then some (.code .normal fr' S') else some (.code (.exit m) fr' S')
   | r => r
  | .loop b => match rec (.code b fr) S with
   | some (.code .normal fr' S') => rec (.code (.loop b) fr') S'
   | r => r
  | .rangeFunc f ps asg b => rangeFuncE rec P f ps asg b fr S
  | _ => none
def run [Glob] (P : Program) : Nat → Rec
 | 0 => fun _ _ => none
 | k + 1 => stepT P (run P k)
def S0 : St := { next := 0, h := .leaf }
def entryOf (r : Option Rs) (ids : List Nat) : Option Ent :=
 match r with
 | some (.ret v S) => some ⟨v, S.next, ids.filterMap fun i => match S.h.find i with
  | some ob => if ob.simple then some (i, ob) else none
  | none => none⟩
 | _ => none
def orcT [Glob] : Rec := fun t S => match t with
 | .call f [] => match Glob.tab f with
  | some E => some (.ret (E.v.up S.next) (S.add E.n E.objs))
  | none => none
 | _ => none
def runT [Glob] (P : Program) : Nat → Rec
 | 0 => orcT
 | n + 1 => fun t S => match orcT t S with
  | some r => some r
  | none => stepT P (runT P n) t S
def TabOk [Glob] (P : Program) : Prop := ∀ f E, Glob.tab f = some E → ∃ n ids, entryOf (run P n (.call f []) S0) ids = some E
end Go.Ev
namespace Go.Ev
open Go.RowKit
section
variable {α : Type}
theorem Tr.get_leaf (p : List Bool) : (Tr.leaf : Tr α).get p = none := by cases p <;> rfl
theorem Tr.get_set (v : Option α) : ∀ (p q : List Bool) (t : Tr α), (Tr.set v p t).get q = if q = p then v else t.get q := by
 intro p
 induction p with
 | nil =>
  intro q t
  cases t <;> cases q <;> simp [Tr.set, Tr.get, Tr.get_leaf]
  all_goals (rename_i b _; cases b <;> simp [Tr.get, Tr.get_leaf])
 | cons b p ih =>
  intro q t
  cases t with
  | leaf =>
   cases b <;> cases q with
   | nil => simp [Tr.set, Tr.get]
   | cons c q => cases c <;> simp [Tr.set, Tr.get, Tr.get_leaf, ih]
  | node x l r =>
   cases b <;> cases q with
   | nil => simp [Tr.set, Tr.get]
   | cons c q => cases c <;> simp [Tr.set, Tr.get, ih]
def numOf : List Bool → Nat
 | [] => 0
 | b :: l => (if b then 1 else 0) + 2 * numOf l
theorem num_bitsAux : ∀ k n, n ≤ k → numOf (bitsAux k n) = n := by
 intro k
 induction k with
 | zero => intro n h; simp only [bitsAux, numOf]; omega
 | succ k ih =>
  intro n h
  cases n with
  | zero => simp [bitsAux, numOf]
  | succ n =>
   simp only [bitsAux, numOf]
   rw [ih _ (by omega)]
   have : Nat.beq ((n + 1) % 2) 1 = decide ((n + 1) % 2 = 1) := by
    rw [Bool.eq_iff_iff]; simp
   rw [this]
   by_cases hb : (n + 1) % 2 = 1 <;> simp [hb] <;> omega
theorem bitsOf_inj {a b : Nat} (h : bitsOf a = bitsOf b) : a = b := by
 have ha := num_bitsAux a a (Nat.le_refl _)
 have hb := num_bitsAux b b (Nat.le_refl _)
 unfold bitsOf at h
 rw [h] at ha
 omega
theorem Tr.find_put (t : Tr α) (i j : Nat) (v : α) : (t.put i v).find j = if j = i then some v else t.find j := by
 unfold Tr.put Tr.find
 rw [Tr.get_set]
 by_cases h : j = i
 ·subst h; simp
 ·rw [if_neg h, if_neg (fun e => h (bitsOf_inj e))]
theorem Tr.find_del (t : Tr α) (i j : Nat) : (t.del i).find j = if j = i then none else t.find j := by
 unfold Tr.del Tr.find
 rw [Tr.get_set]
 by_cases h : j = i
 ·subst h; simp
 ·rw [if_neg h, if_neg (fun e => h (bitsOf_inj e))]
theorem Tr.find_leaf (j : Nat) : (Tr.leaf : Tr α).find j = none := Tr.get_leaf _
end
structure Sg where
 ρ : Nat → Option (Nat × Nat × Nat)
 I : Nat → Nat → Option Value
 ty : Nat → Option TypeId
structure Sg.le (σ σ' : Sg) : Prop where
 ρ : ∀ id x, σ.ρ id = some x → σ'.ρ id = some x
 I : ∀ b o v, σ.I b o = some v → σ'.I b o = some v
 ty : ∀ b t, σ.ty b = some t → σ'.ty b = some t
theorem Sg.le.refl (σ : Sg) : σ.le σ := ⟨fun _ _ h => h, fun _ _ _ h => h, fun _ _ h => h⟩
theorem Sg.le.trans {a b c : Sg} (h : a.le b) (k : b.le c) : a.le c :=
 ⟨fun _ _ x => k.ρ _ _ (h.ρ _ _ x), fun _ _ _ x => k.I _ _ _ (h.I _ _ _ x), fun _ _ x => k.ty _ _ (h.ty _ _ x)⟩
def tkOk (σ : Sg) (sz len : Nat) (tk : Tk) (b o cap : Nat) : Prop :=
 match tk with
 | .no => True
 | .exact => cap = len
 | .own id => σ.ρ id = some (b, o + len * sz, o + cap * sz)
def tyOk (σ : Sg) (t : Option TypeId) (b : Nat) : Prop := ∀ t', t = some t' → σ.ty b = some t'
mutual
inductive VR (σ : Sg) : V → Value → Prop
 | bool (b : Bool) : VR σ (.bool b) (.bool b)
 | int (k : IntKind) (n : Int) : VR σ (.int k n) (.int k n)
 | str {l : List UInt8} (s : ByteArray) (h : s.data.toList = l) : VR σ (.str l) (.string s)
 | nilp : VR σ .nilp (.pointer none)
 | ptr {id off b p e : Nat} (h : σ.ρ id = some (b, p, e)) : VR σ (.ptr id off) (.pointer (some ⟨b, off, none⟩))
 | cptr {t : Option TypeId} {cs : List V} {off b o : Nat} (ht : tyOk σ t b) (h : CR σ cs b o) : VR σ (.cptr t cs off) (.pointer (some ⟨b, o + off, none⟩))
 | nils : VR σ .nils (.slice none 0 0)
 | list {t : Option TypeId} {sz : Nat} {es : List V} {tk : Tk} {b o cap : Nat} (ht : tyOk σ t b) (h : LR σ sz es b o) (hc : es.length ≤ cap) (hk : tkOk σ sz es.length tk b o cap) :
  VR σ (.list t sz es tk) (.slice (some ⟨b, o, none⟩) es.length cap)
 | arr {id off len cap b p e : Nat} (h : σ.ρ id = some (b, p, e)) : VR σ (.arr id off len cap) (.slice (some ⟨b, off, none⟩) len cap)
 | func {f : FuncId} {first caps : List V} {vs ws : List Value} (h : VRs σ first vs) (k : VRs σ caps ws) : VR σ (.func f first caps) (.func (.func f) vs.toArray ws.toArray)
 | nilf : VR σ .nilf .nilFunc
 | iface {v : V} {y : Value} (t : TypeId) (h : VR σ v y) : VR σ (.iface t v) (.iface t y)
 | nili : VR σ .nili .nilIface
 | agg {cs : List V} {vs : List Value} (h : VRs σ cs vs) : VR σ (.agg cs) (.agg vs.toArray)
 | tup {cs : List V} {vs : List Value} (h : VRs σ cs vs) : VR σ (.tup cs) (.tuple vs.toArray)
 | nilm : VR σ .nilm (.map none)
 | mt (a : Addr) : VR σ .mt (.slice (some a) 0 0)
 | map {id b p e : Nat} (h : σ.ρ id = some (b, p, e)) : VR σ (.map id) (.map (some b))
 | yld {id b p e : Nat} (h : σ.ρ id = some (b, p, e)) : VR σ (.yld id) (.func (.yield b) #[] #[])
 | raw {t : TypeId} {id b e n : Nat} (h : σ.ρ id = some (b, 0, e)) (ht : σ.ty b = some t) (hn : n ≤ e) : VR σ (.raw t id n) (.slice (some ⟨b, 0, none⟩) n e)
inductive VRs (σ : Sg) : List V → List Value → Prop
 | nil : VRs σ [] []
 | cons {x : V} {y : Value} {xs : List V} {ys : List Value} (h : VR σ x y) (k : VRs σ xs ys) : VRs σ (x :: xs) (y :: ys)
inductive CR (σ : Sg) : List V → Nat → Nat → Prop
 | nil (b o : Nat) : CR σ [] b o
 | cons {x : V} {y : Value} {xs : List V} {b o : Nat} (hi : σ.I b o = some y) (h : VR σ x y) (k : CR σ xs b (o + 1)) : CR σ (x :: xs) b o
inductive LR (σ : Sg) : Nat → List V → Nat → Nat → Prop
 | nil (sz b o : Nat) : LR σ sz [] b o
 | cons {sz : Nat} {x : V} {xs : List V} {b o : Nat} (hn : x.cells.length = sz) (h : CR σ x.cells b o) (k : LR σ sz xs b (o + sz)) : LR σ sz (x :: xs) b o
end
theorem tkOk.mono {σ σ' : Sg} (h : σ.le σ') {sz len : Nat} {tk : Tk} {b o cap : Nat} (k : tkOk σ sz len tk b o cap) : tkOk σ' sz len tk b o cap := by
 cases tk with
 | no => trivial
 | exact => exact k
 | own id => exact h.ρ _ _ k
theorem tyOk.mono {σ σ' : Sg} (h : σ.le σ') {t : Option TypeId} {b : Nat} (k : tyOk σ t b) : tyOk σ' t b := fun t' e => h.ty _ _ (k t' e)
mutual
theorem VR.mono {σ σ' : Sg} (hs : σ.le σ') : ∀ {x : V} {y : Value}, VR σ x y → VR σ' x y
 | _, _, .bool b => .bool b
 | _, _, .int k n => .int k n
 | _, _, .str s h => .str s h
 | _, _, .nilp => .nilp
 | _, _, .ptr h => .ptr (hs.ρ _ _ h)
 | _, _, .cptr ht h => .cptr (ht.mono hs) (h.mono hs)
 | _, _, .nils => .nils
 | _, _, .list ht h hc hk => .list (ht.mono hs) (h.mono hs) hc (hk.mono hs)
 | _, _, .arr h => .arr (hs.ρ _ _ h)
 | _, _, .func h k => .func (h.mono hs) (k.mono hs)
 | _, _, .nilf => .nilf
 | _, _, .iface t h => .iface t (h.mono hs)
 | _, _, .nili => .nili
 | _, _, .agg h => .agg (h.mono hs)
 | _, _, .tup h => .tup (h.mono hs)
 | _, _, .nilm => .nilm
 | _, _, .mt a => .mt a
 | _, _, .map h => .map (hs.ρ _ _ h)
 | _, _, .yld h => .yld (hs.ρ _ _ h)
 | _, _, .raw h ht hn => .raw (hs.ρ _ _ h) (hs.ty _ _ ht) hn
theorem VRs.mono {σ σ' : Sg} (hs : σ.le σ') : ∀ {x : List V} {y : List Value}, VRs σ x y → VRs σ' x y
 | _, _, .nil => .nil
 | _, _, .cons h k => .cons (h.mono hs) (k.mono hs)
theorem CR.mono {σ σ' : Sg} (hs : σ.le σ') : ∀ {x : List V} {b o : Nat}, CR σ x b o → CR σ' x b o
 | _, _, _, .nil b o => .nil b o
 | _, _, _, .cons hi h k => .cons (hs.I _ _ _ hi) (h.mono hs) (k.mono hs)
theorem LR.mono {σ σ' : Sg} (hs : σ.le σ') : ∀ {sz : Nat} {x : List V} {b o : Nat}, LR σ sz x b o → LR σ' sz x b o
 | _, _, _, _, .nil sz b o => .nil sz b o
 | _, _, _, _, .cons hn h k => .cons hn (h.mono hs) (k.mono hs)
end
section
variable {σ : Sg}
theorem VRs.length {xs : List V} {ys : List Value} (h : VRs σ xs ys) : xs.length = ys.length := by
 induction xs generalizing ys with
 | nil => cases h; rfl
 | cons x xs ih => cases h with | cons h k => simp [ih k]
theorem VRs.get {xs : List V} {ys : List Value} (h : VRs σ xs ys) {i : Nat} {x : V} (hx : xs[i]? = some x) : ∃ y, ys[i]? = some y ∧ VR σ x y := by
 induction xs generalizing ys i with
 | nil => simp at hx
 | cons a xs ih =>
  cases h with
  | cons h k =>
   cases i with
   | zero => simp at hx; subst hx; exact ⟨_, rfl, h⟩
   | succ i => simp at hx; obtain ⟨y, hy, hv⟩ := ih k hx; exact ⟨y, by simpa using hy, hv⟩
theorem VRs.append {xs xs' : List V} {ys ys' : List Value} (h : VRs σ xs ys) (k : VRs σ xs' ys') : VRs σ (xs ++ xs') (ys ++ ys') := by
 induction xs generalizing ys with
 | nil => cases h; exact k
 | cons x xs ih => cases h with | cons h h' => exact .cons h (ih h')
theorem VRs.take {xs : List V} {ys : List Value} (h : VRs σ xs ys) (n : Nat) : VRs σ (xs.take n) (ys.take n) := by
 induction xs generalizing ys n with
 | nil => cases h; simp; exact .nil
 | cons x xs ih =>
  cases h with
  | cons h h' =>
   cases n with
   | zero => exact .nil
   | succ n => exact .cons h (ih h' n)
theorem VRs.drop {xs : List V} {ys : List Value} (h : VRs σ xs ys) (n : Nat) : VRs σ (xs.drop n) (ys.drop n) := by
 induction xs generalizing ys n with
 | nil => cases h; simp; exact .nil
 | cons x xs ih =>
  cases h with
  | cons h h' =>
   cases n with
   | zero => exact .cons h h'
   | succ n => exact ih h' n
theorem VRs.one {x : V} {y : Value} (h : VR σ x y) : VRs σ [x] [y] := .cons h .nil
theorem VR.cells {x : V} {y : Value} (h : VR σ x y) : VRs σ x.cells y.cells.toList := by
 cases h <;> first
  | (rename_i h; simpa [V.cells, Value.cells] using h)
  | (simp only [V.cells, Value.cells]; exact VRs.one (by constructor <;> assumption))
theorem VR.one {x : V} {y : Value} (h : VR σ x y) (ho : x.one = true) : y.oneCell' = true := by
 cases h <;> simp_all [V.one, Value.oneCell']
theorem VRs.map_of {α : Type} {f : α → Option V} {g : α → Value} : ∀ {l : List α} {xs : List V}, mapO f l = some xs → (∀ a ∈ l, ∀ x, f a = some x → VR σ x (g a)) → VRs σ xs (l.map g)
 | [], xs, h, _ => by simp [mapO] at h; subst h; exact .nil
 | a :: l, xs, h, hg => by
  simp only [mapO] at h
  cases hfa : f a with
  | none => simp [hfa] at h
  | some x =>
   simp only [hfa] at h
   cases hm : mapO f l with
   | none => simp [hm] at h
   | some ys =>
    simp only [hm, Option.some.injEq] at h
    subst h
    exact .cons (hg a (by simp) x hfa) (VRs.map_of hm fun b hb => hg b (by simp [hb]))
theorem CR.get {cs : List V} {b o : Nat} (h : CR σ cs b o) {i : Nat} {x : V} (hx : cs[i]? = some x) : ∃ y, σ.I b (o + i) = some y ∧ VR σ x y := by
 induction cs generalizing o i with
 | nil => simp at hx
 | cons a xs ih =>
  cases h with
  | cons hi h k =>
   cases i with
   | zero => simp at hx; subst hx; exact ⟨_, hi, h⟩
   | succ i =>
    simp at hx
    obtain ⟨y, hy, hv⟩ := ih k hx
    exact ⟨y, by rw [show o + (i + 1) = o + 1 + i by omega]; exact hy, hv⟩
theorem CR.drop {cs : List V} {b o : Nat} (h : CR σ cs b o) (n : Nat) : CR σ (cs.drop n) b (o + n) := by
 induction cs generalizing o n with
 | nil => simp; exact .nil _ _
 | cons a xs ih =>
  cases h with
  | cons hi h k =>
   cases n with
   | zero => exact .cons hi h k
   | succ n => rw [show o + (n + 1) = o + 1 + n by omega]; exact ih k n
theorem CR.take {cs : List V} {b o : Nat} (h : CR σ cs b o) (n : Nat) : CR σ (cs.take n) b o := by
 induction cs generalizing o n with
 | nil => simp; exact .nil _ _
 | cons a xs ih =>
  cases h with
  | cons hi h k =>
   cases n with
   | zero => exact .nil _ _
   | succ n => exact .cons hi h (ih k n)
theorem CR.append {cs ds : List V} {b o : Nat} (h : CR σ cs b o) (k : CR σ ds b (o + cs.length)) : CR σ (cs ++ ds) b o := by
 induction cs generalizing o with
 | nil => simpa using k
 | cons a xs ih =>
  cases h with
  | cons hi h h' => exact .cons hi h (ih h' (by rw [show o + 1 + xs.length = o + (a :: xs).length by simp; omega]; exact k))
theorem CR.vals {cs : List V} {b o : Nat} (h : CR σ cs b o) : ∃ vs, VRs σ cs vs ∧ ∀ i v, vs[i]? = some v → σ.I b (o + i) = some v := by
 induction cs generalizing o with
 | nil => exact ⟨[], .nil, by simp⟩
 | cons a xs ih =>
  cases h with
  | cons hi h k =>
   rename_i y
   obtain ⟨vs, h1, h2⟩ := ih k
   refine ⟨y :: vs, .cons h h1, fun i v hv => ?_⟩
   cases i with
   | zero => simp at hv; subst hv; exact hi
   | succ i => simp at hv; rw [show o + (i + 1) = o + 1 + i by omega]; exact h2 i v hv
theorem CR.of_vals : ∀ {cs : List V} {vs : List Value} {b o : Nat}, VRs σ cs vs → (∀ i v, vs[i]? = some v → σ.I b (o + i) = some v) → CR σ cs b o
 | _, _, _, _, .nil, _ => .nil _ _
 | _, _, b, o, .cons h k, hI => .cons (hI 0 _ (by simp)) h (CR.of_vals k fun i v hv => by
  have := hI (i + 1) v (by simpa using hv)
  rwa [show o + (i + 1) = o + 1 + i by omega] at this)
theorem LR.get {sz : Nat} {es : List V} {b o : Nat} (h : LR σ sz es b o) {i : Nat} {x : V} (hx : es[i]? = some x) : x.cells.length = sz ∧ CR σ x.cells b (o + i * sz) := by
 induction es generalizing o i with
 | nil => simp at hx
 | cons a xs ih =>
  cases h with
  | cons hn h k =>
   cases i with
   | zero => simp at hx; subst hx; exact ⟨hn, by simpa using h⟩
   | succ i =>
    simp at hx
    have := ih k hx
    rw [show o + (i + 1) * sz = o + sz + i * sz by rw [Nat.add_mul]; omega]
    exact this
theorem LR.drop {sz : Nat} {es : List V} {b o : Nat} (h : LR σ sz es b o) (n : Nat) (hn : n ≤ es.length) : LR σ sz (es.drop n) b (o + n * sz) := by
 induction es generalizing o n with
 | nil => simp at hn; subst hn; simpa using LR.nil sz b _
 | cons a xs ih =>
  cases h with
  | cons hx h k =>
   cases n with
   | zero => simpa using LR.cons hx h k
   | succ n =>
    have := ih k n (by simpa using hn)
    rw [show o + (n + 1) * sz = o + sz + n * sz by rw [Nat.add_mul]; omega]
    exact this
theorem LR.take {sz : Nat} {es : List V} {b o : Nat} (h : LR σ sz es b o) (n : Nat) : LR σ sz (es.take n) b o := by
 induction es generalizing o n with
 | nil => simpa using LR.nil sz b o
 | cons a xs ih =>
  cases h with
  | cons hx h k =>
   cases n with
   | zero => exact .nil _ _ _
   | succ n => exact .cons hx h (ih k n)
theorem LR.append {sz : Nat} {es fs : List V} {b o : Nat} (h : LR σ sz es b o) (k : LR σ sz fs b (o + es.length * sz)) : LR σ sz (es ++ fs) b o := by
 induction es generalizing o with
 | nil => simpa using k
 | cons a xs ih =>
  cases h with
  | cons hx h h' =>
   refine .cons hx h (ih h' ?_)
   rw [show o + sz + xs.length * sz = o + (a :: xs).length * sz by simp [Nat.add_mul]; omega]
   exact k
theorem LR.flat {sz : Nat} {es : List V} {b o : Nat} (h : LR σ sz es b o) : CR σ (es.flatMap V.cells) b o ∧ (es.flatMap V.cells).length = es.length * sz := by
 induction es generalizing o with
 | nil => exact ⟨.nil _ _, by simp⟩
 | cons a xs ih =>
  cases h with
  | cons hx h k =>
   obtain ⟨h1, h2⟩ := ih k
   refine ⟨?_, by simp [h2, hx, Nat.add_mul]; omega⟩
   rw [List.flatMap_cons]
   exact CR.append h (by rw [hx]; exact h1)
theorem LR.of_flat {sz : Nat} : ∀ {es : List V} {b o : Nat}, (∀ x ∈ es, x.cells.length = sz) → CR σ (es.flatMap V.cells) b o → LR σ sz es b o
 | [], b, o, _, _ => .nil _ _ _
 | a :: xs, b, o, hn, h => by
  rw [List.flatMap_cons] at h
  have ha := hn a (by simp)
  refine .cons ha ?_ (LR.of_flat (fun x hx => hn x (by simp [hx])) ?_)
  ·have := h.take a.cells.length
   simpa using this
  ·have := h.drop a.cells.length
   rw [ha] at this
   have h2 : (a.cells ++ xs.flatMap V.cells).drop sz = xs.flatMap V.cells := by rw [← ha]; simp
   rwa [h2] at this
end
inductive EsR (σ : Sg) : List (V × V × Nat) → List MapEntry → Prop
 | nil : EsR σ [] []
 | cons {k v : V} {born : Nat} {e : MapEntry} {es : List (V × V × Nat)} {l : List MapEntry} (h1 : VR σ k e.key) (h2 : VR σ v e.val) (h3 : e.born = born) (t : EsR σ es l) : EsR σ ((k, v, born) :: es) (e :: l)
theorem EsR.mono {σ σ' : Sg} (hs : σ.le σ') : ∀ {es : List (V × V × Nat)} {l : List MapEntry}, EsR σ es l → EsR σ' es l
 | _, _, .nil => .nil
 | _, _, .cons h1 h2 h3 t => .cons (h1.mono hs) (h2.mono hs) h3 (t.mono hs)
def TR (σ : Sg) (t : Tr V) (n : Nat) (tmps : Array Value) : Prop := tmps.size = n ∧ ∀ k v, t.find k = some v → ∃ y, tmps[k]? = some y ∧ VR σ v y
theorem TR.mono {σ σ' : Sg} (hs : σ.le σ') {t : Tr V} {n : Nat} {tmps : Array Value} (h : TR σ t n tmps) : TR σ' t n tmps :=
 ⟨h.1, fun k v hk => let ⟨y, h1, h2⟩ := h.2 k v hk; ⟨y, h1, h2.mono hs⟩⟩
def OthR (σ : Sg) : Oth → Obj → Prop
 | .map es clock, .map l c => EsR σ es l.toList ∧ c = clock
 | .sit s pos, .stringIter b p => b.data.toList = s ∧ p = pos
 | .loop st pend t n ps asg body, .loop r => r.state = st ∧ r.pending = pend ∧ TR σ t n r.tmps ∧ r.params = ps ∧ r.assign = asg ∧ r.body = body
 | .dfr, .deferred l => l = some []
 | _, _ => False
theorem OthR.mono {σ σ' : Sg} (hs : σ.le σ') {x : Oth} {o : Obj} (h : OthR σ x o) : OthR σ' x o := by
 cases x <;> cases o <;> first
  | exact h.elim
  | exact h
  | exact ⟨h.1.mono hs, h.2⟩
  | exact ⟨h.1, h.2.1, h.2.2.1.mono hs, h.2.2.2⟩
theorem OthR.not_cells {σ : Sg} {x : Oth} {c : Array Value} {t : TypeId} {fr : Nat × Nat} (h : OthR σ x (.cells c t fr)) : False := by
 cases x <;> exact h
def GOk [Glob] (σ : Sg) : Prop := ∀ g cs, Glob.cells g = some cs → CR σ cs g 0
theorem GOk.mono [Glob] {σ σ' : Sg} (hs : σ.le σ') (h : GOk σ) : GOk σ' := fun g cs hg => (h g cs hg).mono hs
def ObR (σ : Sg) (base : Nat) (w : World) (id : Nat) : Ob → Prop
 | .box t cs => ∃ b e vs, σ.ρ id = some (b, 0, e) ∧ base ≤ b ∧ w.heap[b]? = some (.cells (List.toArray vs) t (0, 0)) ∧ VRs σ cs vs ∧ ∀ o, σ.I b o = none
 | .tok => ∃ b p e c t lo hi, σ.ρ id = some (b, p, e) ∧ base ≤ b ∧ w.heap[b]? = some (.cells c t (lo, hi)) ∧ hi ≤ p ∧ p ≤ e ∧ e ≤ c.size ∧ σ.ty b = some t ∧ ∀ o, p ≤ o → σ.I b o = none
 | .oth x => ∃ b e ob, σ.ρ id = some (b, 0, e) ∧ base ≤ b ∧ w.heap[b]? = some ob ∧ OthR σ x ob ∧ ∀ o, σ.I b o = none
structure RelF [Glob] (pd : Nat → Nat → Prop) (base : Nat) (w₀ : World) (σ : Sg) (H : Nat → Option Ob) (w : World) : Prop where
 below : Below base w₀ w
 hb : base ≤ w.heap.size
 imm : ∀ b o v, σ.I b o = some v → ¬ pd b o → w.cell? ⟨b, o, none⟩ = some v
 cur : ∀ b o v, σ.I b o = some v → b < w.heap.size
 ty : ∀ b t, σ.ty b = some t → ∃ c fr, w.heap[b]? = some (.cells c t fr) ∧ base ≤ b
 ob : ∀ id o, H id = some o → ObR σ base w id o
 inj : ∀ i j o o' x y, H i = some o → H j = some o' → σ.ρ i = some x → σ.ρ j = some y → x.1 = y.1 → i = j
 gl : GOk σ
abbrev Rel [Glob] (pd : Nat → Nat → Prop) (base : Nat) (w₀ : World) (σ : Sg) (S : St) (w : World) : Prop := RelF pd base w₀ σ S.h.find w
def none2 : Nat → Nat → Prop := fun _ _ => False
theorem ObR.key {σ : Sg} {base : Nat} {w : World} {id : Nat} {o : Ob} (h : ObR σ base w id o) : ∃ x, σ.ρ id = some x ∧ base ≤ x.1 ∧ x.1 < w.heap.size := by
 cases o with
 | box t cs =>
  obtain ⟨b, e, vs, h1, h2, h3, _⟩ := h
  exact ⟨_, h1, h2, by
   rcases Nat.lt_or_ge b w.heap.size with h | h
   ·exact h
   ·simp [Array.getElem?_eq_none h] at h3⟩
 | tok =>
  obtain ⟨b, p, e, c, t, lo, hi, h1, h2, h3, _⟩ := h
  exact ⟨_, h1, h2, by
   rcases Nat.lt_or_ge b w.heap.size with h | h
   ·exact h
   ·simp [Array.getElem?_eq_none h] at h3⟩
 | oth x =>
  obtain ⟨b, e, ob, h1, h2, h3, _⟩ := h
  exact ⟨_, h1, h2, by
   rcases Nat.lt_or_ge b w.heap.size with h | h
   ·exact h
   ·simp [Array.getElem?_eq_none h] at h3⟩
theorem Rel.less [Glob] {pd : Nat → Nat → Prop} {base : Nat} {w₀ w : World} {σ : Sg} {S U : St} (h : Rel pd base w₀ σ U w) (hs : ∀ id o, S.h.find id = some o → U.h.find id = some o) : Rel pd base w₀ σ S w :=
 ⟨h.below, h.hb, h.imm, h.cur, h.ty, fun id o ho => h.ob id o (hs id o ho), fun i j o o' x y hi hj => h.inj i j o o' x y (hs _ _ hi) (hs _ _ hj), h.gl⟩
def Owns (σ : Sg) (S : St) (b : Nat) : Prop := ∃ id o x, S.h.find id = some o ∧ σ.ρ id = some x ∧ x.1 = b
structure Stp (σ : Sg) (S : St) (w : World) (σ' : Sg) (S' : St) (w' : World) : Prop where
 le : σ.le σ'
 next : S.next ≤ S'.next
 size : w.heap.size ≤ w'.heap.size
 keep : ∀ b, b < w.heap.size → ¬ Owns σ S b → (∀ o, σ.I b o = none) → w'.heap[b]? = w.heap[b]?
 newI : ∀ b, b < w.heap.size → ¬ Owns σ S b → ∀ o, σ'.I b o = σ.I b o
 newK : ∀ id x, σ.ρ id = none → σ'.ρ id = some x → S.next ≤ id ∧ id < S'.next ∧ (w.heap.size ≤ x.1 ∨ Owns σ S x.1)
 dom : ∀ id o, S'.h.find id = some o → (∃ o', S.h.find id = some o') ∨ (S.next ≤ id ∧ id < S'.next)
def Free (σ : Sg) (a b : Nat) : Prop := ∀ id, a ≤ id → id < b → σ.ρ id = none
theorem Stp.refl (σ : Sg) (S : St) (w : World) : Stp σ S w σ S w :=
 ⟨.refl σ, Nat.le_refl _, Nat.le_refl _, fun _ _ _ _ => rfl, fun _ _ _ _ => rfl, (fun id x h k => by rw [h] at k; cases k), fun _ o h => Or.inl ⟨o, h⟩⟩
theorem Stp.drew (σ : Sg) (S : St) (w w' : World) (h : w'.heap = w.heap) : Stp σ S w σ S w' :=
 ⟨.refl σ, Nat.le_refl _, by rw [h]; exact Nat.le_refl _, fun _ _ _ _ => by rw [h], fun _ _ _ _ => rfl, (fun id x h k => by rw [h] at k; cases k), fun _ o h => Or.inl ⟨o, h⟩⟩
theorem Stp.owns {σ σ' : Sg} {S S' : St} {w w' : World} (h : Stp σ S w σ' S' w') (hf : Free σ S.next S'.next) {b : Nat} (hb : b < w.heap.size) (hn : ¬ Owns σ S b) : ¬ Owns σ' S' b := by
 rintro ⟨id, o, x, h1, h2, h3⟩
 cases hk : σ.ρ id with
 | none =>
  obtain ⟨_, _, h4⟩ := h.newK id x hk h2
  rcases h4 with h4 | h4
  ·omega
  ·rw [h3] at h4; exact hn h4
 | some y =>
  have hy := h.le.ρ id y hk
  rw [hy] at h2
  cases h2
  rcases h.dom id o h1 with ⟨o', h5⟩ | ⟨h5, h6⟩
  ·exact hn ⟨id, o', _, h5, hk, h3⟩
  ·rw [hf id h5 h6] at hk; cases hk
theorem Free.mono {σ : Sg} {a b c d : Nat} (h : Free σ a b) (h1 : a ≤ c) (h2 : d ≤ b) : Free σ c d := fun id x y => h id (by omega) (by omega)
theorem Stp.free {σ σ' : Sg} {S S' : St} {w w' : World} (h : Stp σ S w σ' S' w') {n : Nat} (hf : Free σ S.next n) : Free σ' S'.next n := by
 intro id h1 h2
 cases hk : σ'.ρ id with
 | none => rfl
 | some x =>
  have h0 := hf id (Nat.le_trans h.next h1) h2
  obtain ⟨_, h3, _⟩ := h.newK id x h0 hk
  omega
theorem Stp.trans {σ σ₁ σ₂ : Sg} {S S₁ S₂ : St} {w w₁ w₂ : World} (h : Stp σ S w σ₁ S₁ w₁) (k : Stp σ₁ S₁ w₁ σ₂ S₂ w₂) (hf : Free σ S.next S₂.next) : Stp σ S w σ₂ S₂ w₂ := by
 have hf1 : Free σ S.next S₁.next := hf.mono (Nat.le_refl _) k.next
 refine ⟨h.le.trans k.le, Nat.le_trans h.next k.next, Nat.le_trans h.size k.size, ?_, ?_, ?_, ?_⟩
 ·intro b hb hn hI
  have h1 := h.owns hf1 hb hn
  rw [k.keep b (Nat.lt_of_lt_of_le hb h.size) h1 (fun o => by rw [h.newI b hb hn o]; exact hI o)]
  exact h.keep b hb hn hI
 ·intro b hb hn o
  rw [k.newI b (Nat.lt_of_lt_of_le hb h.size) (h.owns hf1 hb hn) o]
  exact h.newI b hb hn o
 ·intro id x h1 h2
  cases hm : σ₁.ρ id with
  | some y =>
   have h3 := h.newK id y h1 hm
   have h4 := k.le.ρ id y hm
   rw [h4] at h2
   cases h2
   exact ⟨h3.1, Nat.lt_of_lt_of_le h3.2.1 k.next, h3.2.2⟩
  | none =>
   obtain ⟨h3, h4, h5⟩ := k.newK id x hm h2
   refine ⟨Nat.le_trans h.next h3, h4, ?_⟩
   rcases h5 with h5 | h5
   ·exact .inl (Nat.le_trans h.size h5)
   ·rcases Nat.lt_or_ge x.1 w.heap.size with h6 | h6
    ·by_cases h7 : Owns σ S x.1
     ·exact .inr h7
     ·exact absurd h5 (h.owns hf1 h6 h7)
    ·exact .inl h6
 ·intro id o ho
  rcases k.dom id o ho with ⟨o', h1⟩ | ⟨h1, h2⟩
  ·rcases h.dom id o' h1 with h3 | ⟨h3, h4⟩
   ·exact .inl h3
   ·exact .inr ⟨h3, Nat.lt_of_lt_of_le h4 k.next⟩
  ·exact .inr ⟨Nat.le_trans h.next h1, h2⟩
def Sg.addK (σ : Sg) (id : Nat) (x : Nat × Nat × Nat) : Sg := { σ with ρ := fun i => if i = id then some x else σ.ρ i }
def Sg.addI (σ : Sg) (b : Nat) (o : Nat) (vs : List Value) : Sg := { σ with I := fun b' o' => if b' = b ∧ o ≤ o' ∧ o' < o + vs.length then vs[o' - o]? else σ.I b' o' }
def Sg.addT (σ : Sg) (b : Nat) (t : TypeId) : Sg := { σ with ty := fun b' => if b' = b then some t else σ.ty b' }
theorem Sg.le_addK {σ : Sg} {id : Nat} {x : Nat × Nat × Nat} (h : σ.ρ id = none) : σ.le (σ.addK id x) :=
 ⟨fun i y hy => by
  unfold Sg.addK
  simp only
  split
  ·subst_vars; rw [h] at hy; cases hy
  ·exact hy, fun _ _ _ h => h, fun _ _ h => h⟩
theorem Sg.le_addI {σ : Sg} {b o : Nat} {vs : List Value} (h : ∀ o', o ≤ o' → o' < o + vs.length → σ.I b o' = none) : σ.le (σ.addI b o vs) :=
 ⟨fun _ _ h => h, fun b' o' v hv => by
  unfold Sg.addI
  simp only
  split
  ·rename_i hc
   obtain ⟨rfl, h1, h2⟩ := hc
   rw [h o' h1 h2] at hv; cases hv
  ·exact hv, fun _ _ h => h⟩
theorem Sg.le_addT {σ : Sg} {b : Nat} {t : TypeId} (h : σ.ty b = none ∨ σ.ty b = some t) : σ.le (σ.addT b t) :=
 ⟨fun _ _ h => h, fun _ _ _ h => h, fun b' t' ht => by
  unfold Sg.addT
  simp only
  split
  ·subst_vars; rcases h with h | h
   ·rw [h] at ht; cases ht
   ·rw [h] at ht; exact ht
  ·exact ht⟩
section
variable {pd : Nat → Nat → Prop} {base : Nat} {w₀ w : World} {σ : Sg} {S : St}
theorem heap_lt {w : World} {b : Nat} {o : Obj} (h : w.heap[b]? = some o) : b < w.heap.size := by
 rcases Nat.lt_or_ge b w.heap.size with h' | h'
 ·exact h'
 ·simp [Array.getElem?_eq_none h'] at h
theorem Rel.ty_lt [Glob] (h : Rel pd base w₀ σ S w) {b : Nat} {t : TypeId} (ht : σ.ty b = some t) : b < w.heap.size := by
 obtain ⟨c, fr, hc, _⟩ := h.ty b t ht
 exact heap_lt hc
theorem Rel.tyNew [Glob] (h : Rel pd base w₀ σ S w) : σ.ty w.heap.size = none := by
 cases ht : σ.ty w.heap.size with
 | none => rfl
 | some t => exact absurd (h.ty_lt ht) (by omega)
theorem Rel.INew [Glob] (h : Rel pd base w₀ σ S w) (o : Nat) : σ.I w.heap.size o = none := by
 cases hI : σ.I w.heap.size o with
 | none => rfl
 | some v => exact absurd (h.cur _ _ _ hI) (by omega)
theorem ObR.keep {σ σ' : Sg} {w w' : World} {id : Nat} {o : Ob} (h : ObR σ base w id o) (hs : σ.le σ') (hk : ∀ x, σ.ρ id = some x → w'.heap[x.1]? = w.heap[x.1]? ∧ ∀ o, σ.I x.1 o = none → σ'.I x.1 o = none) :
 ObR σ' base w' id o := by
 cases o with
 | box t cs =>
  obtain ⟨b, e, vs, h1, h2, h3, h4, h5⟩ := h
  obtain ⟨k1, k2⟩ := hk _ h1
  exact ⟨b, e, vs, hs.ρ _ _ h1, h2, by rw [k1]; exact h3, h4.mono hs, fun o => k2 o (h5 o)⟩
 | tok =>
  obtain ⟨b, p, e, c, t, lo, hi, h1, h2, h3, h4, h5, h6, h7, h8⟩ := h
  obtain ⟨k1, k2⟩ := hk _ h1
  exact ⟨b, p, e, c, t, lo, hi, hs.ρ _ _ h1, h2, by rw [k1]; exact h3, h4, h5, h6, hs.ty _ _ h7, fun o ho => k2 o (h8 o ho)⟩
 | oth x =>
  obtain ⟨b, e, ob, h1, h2, h3, h4, h5⟩ := h
  obtain ⟨k1, k2⟩ := hk _ h1
  exact ⟨b, e, ob, hs.ρ _ _ h1, h2, by rw [k1]; exact h3, h4.mono hs, fun o => k2 o (h5 o)⟩
theorem Rel.alloc [Glob] (h : Rel pd base w₀ σ S w) (ob : Obj) (σ' : Sg) (S' : St) (hs : σ.le σ')
 (hI : ∀ b o, b ≠ w.heap.size → σ'.I b o = σ.I b o) (hIn : ∀ o v, σ'.I w.heap.size o = some v → (w.alloc ob).cell? ⟨w.heap.size, o, none⟩ = some v)
 (hT : ∀ b, b ≠ w.heap.size → σ'.ty b = σ.ty b) (hTn : ∀ t, σ'.ty w.heap.size = some t → ∃ c fr, ob = .cells c t fr)
 (hS : (S' = S ∧ σ'.ρ = σ.ρ) ∨ ∃ o p e, S' = S.new o ∧ σ.ρ S.next = none ∧ σ'.ρ = (fun i => if i = S.next then some (w.heap.size, p, e) else σ.ρ i) ∧ ObR σ' base (w.alloc ob) S.next o) :
 Rel pd base w₀ σ' S' (w.alloc ob) ∧ Stp σ S w σ' S' (w.alloc ob) := by
 have hold : ∀ b, b < w.heap.size → (w.alloc ob).heap[b]? = w.heap[b]? := fun b hb => heap_alloc_old w ob b hb
 have hkeep : ∀ id o, S.h.find id = some o → ObR σ' base (w.alloc ob) id o := fun id o ho => by
  obtain ⟨x, hx, _, hlt⟩ := (h.ob id o ho).key
  refine (h.ob id o ho).keep hs fun y hy => ?_
  rw [hx] at hy; cases hy
  exact ⟨hold _ hlt, fun o ho => by rw [hI _ _ (by omega)]; exact ho⟩
 have hfind : ∀ id o, S'.h.find id = some o → S.h.find id = some o ∨ (id = S.next ∧ ∃ p e, σ'.ρ id = some (w.heap.size, p, e) ∧ ObR σ' base (w.alloc ob) id o) := by
  intro id o ho
  rcases hS with ⟨rfl, _⟩ | ⟨o', p, e, rfl, _, hρ, hob⟩
  ·exact .inl ho
  ·simp only [St.new, Tr.find_put] at ho
   split at ho
   ·rename_i hid
    cases ho
    refine .inr ⟨hid, p, e, by rw [hρ]; simp [hid], by rw [hid]; exact hob⟩
   ·exact .inl ho
 refine ⟨⟨h.below.alloc h.hb ob, by simp; have := h.hb; omega, ?_, ?_, ?_, ?_, ?_, h.gl.mono hs⟩, ?_⟩
 ·intro b o v hv hp
  by_cases hbe : b = w.heap.size
  ·subst hbe; exact hIn o v hv
  ·rw [hI b o hbe] at hv
   rw [World.cell?_alloc_old w ob _ hbe]
   exact h.imm b o v hv hp
 ·intro b o v hv
  by_cases hbe : b = w.heap.size
  ·subst hbe; simp
  ·rw [hI b o hbe] at hv
   have := h.cur b o v hv
   simp; omega
 ·intro b t ht
  by_cases hbe : b = w.heap.size
  ·subst hbe
   obtain ⟨c, fr, rfl⟩ := hTn t ht
   exact ⟨c, fr, heap_alloc_new w _, h.hb⟩
  ·rw [hT b hbe] at ht
   obtain ⟨c, fr, hc, hbb⟩ := h.ty b t ht
   exact ⟨c, fr, by rw [hold b (heap_lt hc)]; exact hc, hbb⟩
 ·intro id o ho
  rcases hfind id o ho with h1 | ⟨_, _, _, _, h2⟩
  ·exact hkeep id o h1
  ·exact h2
 ·intro i j o o' x y hi hj hx hy hxy
  have hlow : ∀ k ok z, S.h.find k = some ok → σ'.ρ k = some z → z.1 < w.heap.size ∧ σ.ρ k = some z := fun k ok z h1 h2 => by
   obtain ⟨z', hz, _, hlt⟩ := (h.ob k ok h1).key
   have := hs.ρ _ _ hz
   rw [this] at h2; cases h2
   exact ⟨hlt, hz⟩
  rcases hfind i o hi with h1 | ⟨h1, p1, e1, h1k, _⟩ <;> rcases hfind j o' hj with h2 | ⟨h2, p2, e2, h2k, _⟩
  ·obtain ⟨_, a1⟩ := hlow _ _ _ h1 hx
   obtain ⟨_, a2⟩ := hlow _ _ _ h2 hy
   exact h.inj i j o o' x y h1 h2 a1 a2 hxy
  ·obtain ⟨a1, _⟩ := hlow _ _ _ h1 hx
   rw [h2k] at hy; cases hy; simp at hxy; omega
  ·obtain ⟨a1, _⟩ := hlow _ _ _ h2 hy
   rw [h1k] at hx; cases hx; simp at hxy; omega
  ·rw [h1, h2]
 ·refine ⟨hs, ?_, by simp, fun b hb _ _ => hold b hb, fun b hb _ o => hI b o (by omega), ?_, ?_⟩
  ·rcases hS with ⟨rfl, _⟩ | ⟨o, p, e, rfl, _⟩
   ·exact Nat.le_refl _
   ·simp [St.new]
  ·intro id x h1 h2
   rcases hS with ⟨rfl, hρ⟩ | ⟨o, p, e, rfl, h3, hρ, _⟩
   ·rw [hρ, h1] at h2; cases h2
   ·rw [hρ] at h2
    simp only at h2
    split at h2
    ·rename_i hid; cases h2; subst hid; exact ⟨Nat.le_refl _, by simp [St.new], .inl (Nat.le_refl _)⟩
    ·rw [h1] at h2; cases h2
  ·intro id o ho
   rcases hfind id o ho with h1 | ⟨h1, _⟩
   ·exact .inl ⟨o, h1⟩
   ·rcases hS with ⟨rfl, _⟩ | ⟨o', p, e, rfl, _⟩
    ·exact .inl ⟨o, ho⟩
    ·exact .inr ⟨by omega, by simp [St.new]; omega⟩
theorem Rel.newBox [Glob] (h : Rel pd base w₀ σ S w) (hf : σ.ρ S.next = none) (t : TypeId) {cs : List V} {vs : List Value} (hv : VRs σ cs vs) :
 Rel pd base w₀ (σ.addK S.next (w.heap.size, 0, 0)) (S.new (.box t cs)) (w.alloc (.cells vs.toArray t)) ∧
 Stp σ S w (σ.addK S.next (w.heap.size, 0, 0)) (S.new (.box t cs)) (w.alloc (.cells vs.toArray t)) := by
 refine h.alloc _ _ _ (Sg.le_addK hf) (fun _ _ _ => rfl) (fun o v hv => ?_) (fun _ _ => rfl) (fun t' ht => ?_) (.inr ⟨_, 0, 0, rfl, hf, rfl, ?_⟩)
 ·rw [show (σ.addK S.next (w.heap.size, 0, 0)).I w.heap.size o = none from h.INew o] at hv; cases hv
 ·rw [show (σ.addK S.next (w.heap.size, 0, 0)).ty w.heap.size = none from h.tyNew] at ht; cases ht
 ·exact ⟨w.heap.size, 0, vs, by simp [Sg.addK], h.hb, heap_alloc_new w _, hv.mono (Sg.le_addK hf), fun o => h.INew o⟩
theorem Rel.newOth [Glob] (h : Rel pd base w₀ σ S w) (hf : σ.ρ S.next = none) {x : Oth} {ob : Obj} (hv : OthR σ x ob) :
 Rel pd base w₀ (σ.addK S.next (w.heap.size, 0, 0)) (S.new (.oth x)) (w.alloc ob) ∧
 Stp σ S w (σ.addK S.next (w.heap.size, 0, 0)) (S.new (.oth x)) (w.alloc ob) := by
 refine h.alloc _ _ _ (Sg.le_addK hf) (fun _ _ _ => rfl) (fun o v hv => ?_) (fun _ _ => rfl) (fun t' ht => ?_) (.inr ⟨_, 0, 0, rfl, hf, rfl, ?_⟩)
 ·rw [show (σ.addK S.next (w.heap.size, 0, 0)).I w.heap.size o = none from h.INew o] at hv; cases hv
 ·rw [show (σ.addK S.next (w.heap.size, 0, 0)).ty w.heap.size = none from h.tyNew] at ht; cases ht
 ·exact ⟨w.heap.size, 0, ob, by simp [Sg.addK], h.hb, heap_alloc_new w _, hv.mono (Sg.le_addK hf), fun o => h.INew o⟩
theorem Rel.newRow [Glob] (h : Rel pd base w₀ σ S w) (t : TypeId) (vs rest : List Value) :
 Rel pd base w₀ ((σ.addI w.heap.size 0 vs).addT w.heap.size t) S (w.alloc (.cells (vs ++ rest).toArray t)) ∧
 Stp σ S w ((σ.addI w.heap.size 0 vs).addT w.heap.size t) S (w.alloc (.cells (vs ++ rest).toArray t)) := by
 refine h.alloc _ _ _ ((Sg.le_addI fun o _ _ => h.INew o).trans (Sg.le_addT (.inl h.tyNew))) (fun b o hb => ?_) (fun o v hv => ?_) (fun b hb => ?_) (fun t' ht => ?_) (.inl ⟨rfl, rfl⟩)
 ·simp [Sg.addI, Sg.addT, hb]
 ·rw [World.cell?_alloc_new]
  simp only [Sg.addT, Sg.addI, Nat.zero_le, true_and, Nat.zero_add, Nat.sub_zero] at hv
  split at hv
  ·rename_i hlt
   rw [List.getElem?_toArray, List.getElem?_append_left hlt]; exact hv
  ·rw [h.INew o] at hv; cases hv
 ·simp [Sg.addI, Sg.addT, hb]
 ·simp [Sg.addT] at ht; subst ht; exact ⟨_, _, rfl⟩
theorem Sg.addI_get (σ : Sg) (b o : Nat) (vs : List Value) (i : Nat) (v : Value) (h : vs[i]? = some v) : (σ.addI b o vs).I b (o + i) = some v := by
 have hlt : i < vs.length := by
  rcases Nat.lt_or_ge i vs.length with h' | h'
  ·exact h'
  ·simp [List.getElem?_eq_none h'] at h
 simp only [Sg.addI]
 rw [if_pos ⟨trivial, by omega, by omega⟩, show o + i - o = i by omega]
 exact h
theorem Rel.newTok [Glob] (h : Rel pd base w₀ σ S w) (hf : σ.ρ S.next = none) (t : TypeId) (vs rest : List Value) :
 Rel pd base w₀ (((σ.addI w.heap.size 0 vs).addT w.heap.size t).addK S.next (w.heap.size, vs.length, vs.length + rest.length)) (S.new .tok) (w.alloc (.cells (vs ++ rest).toArray t)) ∧
 Stp σ S w (((σ.addI w.heap.size 0 vs).addT w.heap.size t).addK S.next (w.heap.size, vs.length, vs.length + rest.length)) (S.new .tok) (w.alloc (.cells (vs ++ rest).toArray t)) := by
 have l1 : σ.le ((σ.addI w.heap.size 0 vs).addT w.heap.size t) := (Sg.le_addI fun o _ _ => h.INew o).trans (Sg.le_addT (.inl h.tyNew))
 refine h.alloc _ _ _ (l1.trans (Sg.le_addK hf)) (fun b o hb => ?_) (fun o v hv => ?_) (fun b hb => ?_) (fun t' ht => ?_) (.inr ⟨_, vs.length, vs.length + rest.length, rfl, hf, rfl, ?_⟩)
 ·simp [Sg.addI, Sg.addT, Sg.addK, hb]
 ·rw [World.cell?_alloc_new]
  simp only [Sg.addK, Sg.addT, Sg.addI, Nat.zero_le, true_and, Nat.zero_add, Nat.sub_zero] at hv
  split at hv
  ·rename_i hlt
   rw [List.getElem?_toArray, List.getElem?_append_left hlt]; exact hv
  ·rw [h.INew o] at hv; cases hv
 ·simp [Sg.addI, Sg.addT, Sg.addK, hb]
 ·simp [Sg.addT, Sg.addK] at ht; subst ht; exact ⟨_, _, rfl⟩
 ·refine ⟨w.heap.size, vs.length, vs.length + rest.length, _, t, 0, 0, by simp [Sg.addK], h.hb, heap_alloc_new w _, by omega, by omega, by simp, by simp [Sg.addK, Sg.addT], fun o ho => ?_⟩
  simp only [Sg.addK, Sg.addT, Sg.addI, true_and]
  rw [if_neg (by omega)]
  exact h.INew o
end
end Go.Ev
