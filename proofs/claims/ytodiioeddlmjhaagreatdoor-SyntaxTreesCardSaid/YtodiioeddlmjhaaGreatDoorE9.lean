import Derived.Test.YtodiioeddlmjhaaGreatDoorE8
import Derived.ChangeArms
import Derived.ReadAgain
set_option linter.unusedVariables false
set_option linter.unusedSimpArgs false
namespace Go.Ev
open Go.RowKit
def vb (n : Nat) : List UInt8 := if n < 128 then [UInt8.ofNat n] else UInt8.ofNat (n % 128 + 128) :: vb (n / 128)
termination_by n
decreasing_by omega
def zig (n : Int) : Nat := if 0 ≤ n then 2 * n.toNat else 2 * (-(n + 1)).toNat + 1
def encI (n : Int) : List UInt8 := vb (zig n)
def encS (s : List UInt8) : List UInt8 := encI s.length ++ s
def encB (b : Bool) : List UInt8 := encI (if b then 1 else 0)
def in64 (n : Int) : Prop := -9223372036854775808 ≤ n ∧ n < 9223372036854775808
theorem wrap_u8 (n : Int) : IntKind.wrap .u8 n = n % 256 := by simp [IntKind.wrap, IntKind.bits, IntKind.signed]
theorem wrap_u64 (n : Int) : IntKind.wrap .u64 n = n % 18446744073709551616 := by simp [IntKind.wrap, IntKind.bits, IntKind.signed]
theorem wrap_i64 (n : Int) : IntKind.wrap .i64 n = if n % 18446744073709551616 ≥ 9223372036854775808 then n % 18446744073709551616 - 18446744073709551616 else n % 18446744073709551616 := by
 simp [IntKind.wrap, IntKind.bits, IntKind.signed]
theorem wrap_i64_id {n : Int} (h : in64 n) : IntKind.wrap .i64 n = n := by
 obtain ⟨h1, h2⟩ := h
 rw [wrap_i64]; split <;> omega
theorem u8_nat (n : Nat) (h : n < 256) : ((UInt8.ofNat n).toNat : Int) = n := by
 rw [UInt8.toNat_ofNat_of_lt' h]
end Go.Ev
namespace Go.Ev
open Go.RowKit
inductive Fd where
 | int | str | bool
 | list (t : Nat)
 | sub (t : Nat)
def sch : Nat → List Fd
 | 0 => [.int]
 | 1 => [.str]
 | 2 => [.int, .int, .str, .list 2, .list 3]
 | 3 => [.int, .str, .int, .list 2, .list 4]
 | 4 => [.int, .int, .list 2, .list 2]
 | 5 => [.int, .int, .str, .list 5, .list 6, .int]
 | 6 => [.str, .int]
 | 7 => [.str, .list 1, .list 8]
 | 8 => [.str, .list 5]
 | 9 => [.str, .list 10]
 | 10 => [.str, .sub 5, .sub 5, .bool]
 | 11 => [.int, .int, .str, .str, .list 1, .list 11, .list 12]
 | 12 => [.str, .list 1, .sub 11]
 | 13 => [.str, .sub 11]
 | 14 => [.list 7, .list 9, .list 13, .sub 11]
 | 15 => [.list 7, .list 9, .list 16]
 | 16 => [.int, .int, .int, .bool, .list 17]
 | 17 => [.int, .int, .int, .str]
 | 18 => [.str, .int, .int]
 | 19 => [.int, .str, .list 18, .int, .int, .int]
 | 20 => [.list 3, .list 0, .int, .sub 19, .bool]
 | _ => []
def szs : Nat → Nat
 | 0 => 1 | 1 => 1 | 2 => 5 | 3 => 5 | 4 => 4 | 5 => 6 | 6 => 2 | 7 => 3 | 8 => 2 | 9 => 2 | 10 => 14 | 11 => 7 | 12 => 9 | 13 => 8 | 14 => 10 | 15 => 3 | 16 => 5 | 17 => 4 | 18 => 3 | 19 => 6 | 20 => 10 | _ => 0
def isLn (n : Nat) (v : V) : Prop := v = .nils ∨ v = .mt ∨ ∃ lt es tk, v = .list lt n es tk
theorem isLn.isL {n : Nat} {v : V} (h : isLn n v) : isL v = true := by
 rcases h with rfl | rfl | ⟨lt, es, tk, rfl⟩ <;> rfl
theorem isLn.el {n : Nat} {v e : V} {i : Nat} (h : isLn n v) (he : (elems v)[i]? = some e) : ∃ lt tk, v = .list lt n (elems v) tk := by
 rcases h with rfl | rfl | ⟨lt, es, tk, rfl⟩
 ·simp [elems] at he
 ·simp [elems] at he
 ·exact ⟨lt, tk, rfl⟩
mutual
inductive EncF : Nat → List Fd → List V → List UInt8 → Prop
 | nil (d : Nat) : EncF d [] [] []
 | int {d : Nat} {n : Int} {fs : List Fd} {cs : List V} {bs : List UInt8} (hn : in64 n) (h : EncF d fs cs bs) : EncF d (.int :: fs) (.int .i64 n :: cs) (encI n ++ bs)
 | str {d : Nat} {s : List UInt8} {fs : List Fd} {cs : List V} {bs : List UInt8} (hs : s.length < 4611686018427387904) (h : EncF d fs cs bs) : EncF d (.str :: fs) (.str s :: cs) (encS s ++ bs)
 | bool {d : Nat} {b : Bool} {fs : List Fd} {cs : List V} {bs : List UInt8} (h : EncF d fs cs bs) : EncF d (.bool :: fs) (.bool b :: cs) (encB b ++ bs)
 | list {d t : Nat} {v : V} {bl : List UInt8} {fs : List Fd} {cs : List V} {bs : List UInt8} (hv : isLn (szs t) v) (hl : (elems v).length < 4611686018427387904) (he : EncL d t (elems v) bl) (h : EncF (d + 1) fs cs bs) :
  EncF (d + 1) (.list t :: fs) (v :: cs) (encI ((elems v).length : Nat) ++ bl ++ bs)
 | sub {d t : Nat} {c1 cs : List V} {b1 bs : List UInt8} {fs : List Fd} (h1 : EncF d (sch t) c1 b1) (hc : c1.length = szs t) (h : EncF (d + 1) fs cs bs) : EncF (d + 1) (.sub t :: fs) (c1 ++ cs) (b1 ++ bs)
inductive EncL : Nat → Nat → List V → List UInt8 → Prop
 | nil (d t : Nat) : EncL d t [] []
 | cons {d t : Nat} {e : V} {b1 bs : List UInt8} {es : List V} (h1 : EncF d (sch t) e.cells b1) (h2 : EncL d t es bs) : EncL d t (e :: es) (b1 ++ bs)
end
section
variable {P : Program} {ev : Operand → Option V} {S S' : St} {x y z : Operand} {t : TypeId} {u v w r : V} {n i j k : Nat}
end
end Go.Ev
namespace Go.Ev
open Go.RowKit
section
variable {P : Program}
def Tg (I : St → Prop) : List En → Prop
 | [] => True
 | .mild _ _ _ _ ob :: T => ob = none ∧ Tg I T
 | .act _ _ _ _ S :: T => I S ∧ Tg I T
structure Drw [Glob] (P : Program) (ops : Array Oper) (ms : List Nat) (S0 : St) (I : St → Prop) (l : List Nat) (F : Sh) (E : Env) (S : St) (k : K) : Prop where
 h : ∀ fr T, Has F E fr → Tg I T → ∃ x fr' S', drawE (lim P) P ops ms S0 l T fr S = some (.code x fr' S') ∧ k x fr' S'
variable {ops : Array Oper} {ms : List Nat} {S0 S S' : St} {I : St → Prop} {l : List Nat} {F : Sh} {E : Env} {k : K} {i d : Nat} {op : Op} {ty : TypeId} {pos : String} {after : Array Edge} {v : V}
def gOk (ops : Array Oper) (E : Env) : Option (Nat × Bool) → Option Bool
 | none => some true
 | some (j, w) => gd ops E j w
theorem gOk_want {fr : Fr} (hf : Has F E fr) {g : Option (Nat × Bool)} {q : Bool} (h : gOk ops E g = some q) : wantE ops ⟨some d, op, ty, pos, after, g⟩ fr = some q := by
 cases g with
 | none => cases h; rfl
 | some jw =>
  obtain ⟨j, w⟩ := jw
  exact gd_want hf h
theorem Drw.nil [Glob] (h : At .normal k F E S) : Drw P ops ms S0 I [] F E S k := .mk fun fr _ hf _ => ⟨.normal, fr, S, rfl, h.h fr hf⟩
theorem Drw.c0 [Glob] {g : Option (Nat × Bool)} (ho : ops[i]? = some ⟨some d, op, ty, pos, after, g⟩) (hc : clsE op = 0) (h : opE P op (Env.opd E) S = some (v, S')) (hd : Nat.blt d F.n = true) (hk : Drw P ops ms S0 I l F ((d, v) :: E) S k) (hg : gOk ops E g = some true := by rfl) : Drw P ops ms S0 I (i :: l) F E S k := .mk fun fr T hf hT => by
 obtain ⟨fr', h1, h2⟩ := hf.put v hd
 have hS := cls0_state (.inl hc) h
 subst hS
 have h3 := opE_mono (fun x v => hf.opd) h
 have hw := gOk_want (d := d) (op := op) (ty := ty) (pos := pos) (after := after) hf hg
 have h4 : opE P op (viewE fr (looks ops ⟨some d, op, ty, pos, after, g⟩)) S' = some (v, S') := (opE_congr (fun x hx => viewE_opd (o := ⟨some d, op, ty, pos, after, g⟩) hx) S').trans h3
 have hb : Nat.beq (clsE op) 3 = false := by rw [hc]; rfl
 obtain ⟨x, fr2, S2, h5, h6⟩ := hk.h fr' (.mild i ⟨some d, op, ty, pos, after, g⟩ v S'.next none :: T) h2 ⟨rfl, hT⟩
 refine ⟨x, fr2, S2, ?_, h6⟩
 simp only [drawE, ho, hb, Bool.false_and, Bool.false_eq_true, if_false, mildE, hw, h4, hc, h1]
 exact h5
theorem sameE_all {op : Op} {ev : Operand → Option V} (h0 : opE P op ev S0 = some (v, S0)) (h : ∀ U, I U → opE P op ev U = some (v, U)) : ∀ (T : List En), Tg I T → sameE P ms i op ev v S0 T [] = true
 | [], _ => by simp only [sameE, sameAt, withs]; rw [h0]; exact V.beq_refl v
 | .mild j o u n ob :: T, hT => by
  obtain ⟨rfl, hT⟩ := hT
  simp only [sameE]
  exact sameE_all h0 h T hT
 | .act j o u n S1 :: T, hT => by
  simp only [sameE, sameAt, withs]
  rw [h S1 hT.1, sameE_all h0 h T hT.2]
  simp [V.beq_refl]
theorem Drw.call [Glob] {f : Operand} {args : Array Operand} {ats : Array TypeId} {g : FuncId} {m : List V} {Q : V → St → Prop} {gg : Option (Nat × Bool)} (ho : ops[i]? = some ⟨some d, .call { callee := .value f, args, argTypes := ats }, ty, pos, after, gg⟩)
 (hf : calleeE (Env.opd E) f args = some (g, m)) (hb : hasBody P g = true) (hc : CallTo P g m S Q (fun _ _ => False)) (hd : Nat.blt d F.n = true) (hk : ∀ v S', Q v S' → I S' ∧ Drw P ops ms S0 I l F ((d, v) :: E) S' k) (hg : gOk ops E gg = some true := by rfl) :
 Drw P ops ms S0 I (i :: l) F E S k := .mk fun fr T hfr hT => by
 rcases hc with ⟨v, S', h3, h4⟩ | ⟨v, S', h3, h4⟩
 ·obtain ⟨hI, hk⟩ := hk v S' h4
  obtain ⟨fr', h5, h6⟩ := hfr.put v hd
  have hw := gOk_want (d := d) (op := .call { callee := .value f, args, argTypes := ats }) (ty := ty) (pos := pos) (after := after) hfr hg
  have hcal := calleeE_mono (fun x v => hfr.opd) hf
  have hact : actE (lim P) P (.call { callee := .value f, args, argTypes := ats }) (viewE fr (looks ops ⟨some d, .call { callee := .value f, args, argTypes := ats }, ty, pos, after, gg⟩)) fr.pan S = some (.val v S') :=
   (actE_congr (fun x hx => viewE_opd (o := ⟨some d, .call { callee := .value f, args, argTypes := ats }, ty, pos, after, gg⟩) hx) _ _).trans (act_ret hb hcal h3)
  obtain ⟨x, fr2, S2, h7, h8⟩ := hk.h fr' (.act i ⟨some d, .call { callee := .value f, args, argTypes := ats }, ty, pos, after, gg⟩ v S.next S' :: T) h6 ⟨hI, hT⟩
  refine ⟨x, fr2, S2, ?_, h8⟩
  have hcls : Nat.beq (clsE (.call { callee := .value f, args, argTypes := ats })) 3 = true := rfl
  simp only [drawE, ho, hcls, hw, isT, Bool.and_self, if_true, hact, h5]
  exact h7
 ·exact h4.elim
theorem Drw.c3 [Glob] {g : Option (Nat × Bool)} (ho : ops[i]? = some ⟨some d, op, ty, pos, after, g⟩) (hc : clsE op = 3) (h : opE P op (Env.opd E) S = some (v, S')) (hI : I S') (hd : Nat.blt d F.n = true) (hk : Drw P ops ms S0 I l F ((d, v) :: E) S' k) (hg : gOk ops E g = some true := by rfl) : Drw P ops ms S0 I (i :: l) F E S k := .mk fun fr T hf hT => by
 obtain ⟨fr', h1, h2⟩ := hf.put v hd
 have hw := gOk_want (d := d) (op := op) (ty := ty) (pos := pos) (after := after) hf hg
 have hact : actE (lim P) P op (viewE fr (looks ops ⟨some d, op, ty, pos, after, g⟩)) fr.pan S = some (.val v S') :=
  (actE_congr (fun x hx => viewE_opd (o := ⟨some d, op, ty, pos, after, g⟩) hx) _ _).trans (opE_act (opE_mono (fun x v => hf.opd) h) (lim P) fr.pan)
 have hb : Nat.beq (clsE op) 3 = true := by rw [hc]; rfl
 obtain ⟨x, fr2, S2, h5, h6⟩ := hk.h fr' (.act i ⟨some d, op, ty, pos, after, g⟩ v S.next S' :: T) h2 ⟨hI, hT⟩
 refine ⟨x, fr2, S2, ?_, h6⟩
 simp only [drawE, ho, hb, hw, isT, Bool.and_self, if_true, hact, h1]
 exact h5
theorem Go.draw [Glob] {id : Nat} (ms : List Nat) (ord : List Nat) (hp : planOf ops = ⟨ms, ord, true⟩) (I : St → Prop) (h : Drw P ops ms S I ord F E S k) : Go P F E S (.region id ops true) k := .mk fun fr hf => by
 obtain ⟨x, fr', S', h1, h2⟩ := h.h fr [] hf trivial
 refine .of_step ?_ h2
 simp only [stepT, regionE, hp, if_true]
 exact h1
def DcallTo [Glob] (P : Program) (g : FuncId) (l : List V) (p : Pan) (S : St) (Q : Pan → St → Prop) : Prop := ∃ p' S', lim P (.dcall g l p) S = some (.dret p' S') ∧ Q p' S'
def Kd (P : Program) (fn : Func) (Q : Pan → St → Prop) : K := fun x fr S => match x with
 | .normal => fr.ds = [] ∧ (resultsE P fn fr S).isSome = true ∧ Q fr.pan S
 | .ret => fr.ds = [] ∧ (resultsE P fn fr S).isSome = true ∧ Q fr.pan S
 | _ => False
theorem DcallTo.of [Glob] {g : FuncId} {l : List V} {p : Pan} {fn : Func} {c : Code} {Q : Pan → St → Prop} {n : Nat} (hf : P.funcs[g]? = some fn) (hb : fn.body = some c) (hn : max l.length fn.ntmps = n) (h : Go P ⟨n, [], p⟩ (envOf 0 l) S c (Kd P fn Q)) : DcallTo P g l p S Q := by
 obtain ⟨x, fr, S', h1, h2⟩ := h.h _ (start_has fn l p hn)
 cases x with
 | normal =>
  obtain ⟨h3, h4, h5⟩ := h2
  refine ⟨fr.pan, S', lim_of_step ?_, h5⟩
  cases hr : resultsE P fn fr S' with
  | none => rw [hr] at h4; cases h4
  | some v => simp only [stepT, hf, hb, h1, h3, hr]
 | ret =>
  obtain ⟨h3, h4, h5⟩ := h2
  refine ⟨fr.pan, S', lim_of_step ?_, h5⟩
  cases hr : resultsE P fn fr S' with
  | none => rw [hr] at h4; cases h4
  | some v => simp only [stepT, hf, hb, h1, h3, hr]
 | panic v => exact h2.elim
 | goto m => exact h2.elim
 | exit m => exact h2.elim
end
end Go.Ev
namespace Go.Ev
open Go.RowKit
def Sg.of (W : World) : Sg := ⟨fun _ => Option.none, fun b o => if b < W.heap.size then W.cell? ⟨b, o, Option.none⟩ else Option.none, fun _ => Option.none⟩
theorem rel_of [Glob] (W : World) (hv : VarsOk W) : Rel none2 W.heap.size W (Sg.of W) S0 W where
 below := Below.refl _ _
 hb := Nat.le_refl _
 imm := fun b o v h _ => by
  simp only [Sg.of] at h
  split at h
  ·exact h
  ·cases h
 cur := fun b o v h => by
  simp only [Sg.of] at h
  split at h
  ·assumption
  ·cases h
 ty := fun _ _ h => by cases h
 ob := fun id o h => by simp only [S0, Tr.find_leaf] at h; cases h
 inj := fun i j o o' x y h => by simp only [S0, Tr.find_leaf] at h; cases h
 gl := by
  intro g cs hg
  have key : ∀ (l : List V) (k : Nat), (∀ i v, l[i]? = some v → cs[k + i]? = some v) → CR (Sg.of W) l g k := by
   intro l
   induction l with
   | nil => intro k _; exact .nil _ _
   | cons x l ih =>
    intro k hk
    obtain ⟨y, h1, h2⟩ := hv g cs hg k x (hk 0 x rfl)
    refine .cons (y := y) ?_ (h2.mono ⟨fun _ _ e => (by cases e), fun _ _ _ e => (by cases e), fun _ _ e => (by cases e)⟩) (ih (k + 1) fun i v hi => by rw [Nat.add_right_comm, Nat.add_assoc]; exact hk (i + 1) v hi)
    simp only [Sg.of]
    rw [if_pos]
    ·exact h1
    ·unfold World.cell? at h1
     simp only at h1
     rcases Nat.lt_or_ge g W.heap.size with h' | h'
     ·exact h'
     ·rw [Array.getElem?_eq_none h'] at h1; cases h1
  exact key cs 0 fun i v hi => by rw [Nat.zero_add]; exact hi
def flT (P : Program) (f : TypeId → Option (List Fd)) (tot : Nat) : List Field → Nat → Option (List Fd)
 | [], o => if o = tot then some [] else none
 | x :: l, o => if x.offset = o then
  match f x.type, flT P f tot l (o + P.cellsOf x.type) with
  | some a, some b => some (a ++ b)
  | _, _ => none
  else none
def fdT (P : Program) (num : TypeId → Option Nat) : Nat → TypeId → Option (List Fd)
 | 0, _ => none
 | d + 1, t => match P.underlying t with
  | some (.int .i64) => some [.int]
  | some .string => some [.str]
  | some .bool => some [.bool]
  | some (.slice e) => (num e).map fun n => [.list n]
  | some (.struct fs) => match num t with
   | some n => some [.sub n]
   | none => flT P (fdT P num d) (P.cellsOf t) fs.toList 0
  | _ => none
def topT (P : Program) (num : TypeId → Option Nat) (t : TypeId) : Option (List Fd) := match P.underlying t with
 | some (.int .i64) => some [.int]
 | some .string => some [.str]
 | some (.struct fs) => flT P (fdT P num 3) (P.cellsOf t) fs.toList 0
 | _ => none
structure Tys (P : Program) (num : TypeId → Option Nat) : Prop where
 top : ∀ t n, num t = some n → topT P num t = some (sch n) ∧ P.cellsOf t = szs n ∧ 1 ≤ szs n
theorem wf_in64 {n : Int} (h : (Lit.int .i64 n).wf = true) : in64 n := by
 simp [Lit.wf, IntKind.min, IntKind.max, IntKind.signed, IntKind.bits] at h
 constructor <;> omega
section
variable {H : Type} {enc : TypeId × Value → H} {P : Program} {W : World} {base : Nat} {held : Bool} {num : TypeId → Option Nat}
theorem cells_get {a : Addr} {n : Nat} {cs : List Value} (h : W.cells? base a n = some cs) : cs.length = n ∧ ∀ i v, cs[i]? = some v → W.cell? (a.add i) = some v := by
 unfold World.cells? at h
 split at h
 ·have hl := mapM_some_length h
  refine ⟨by simpa using hl, fun i v hv => ?_⟩
  have hi : i < n := by have := (List.getElem?_eq_some_iff.1 hv).1; simp at hl; omega
  have := mapM_some_get h i i (by simp [hi])
  rw [this, hv]
 ·cases h
theorem spot_none {a : Addr} {v : Value} (h : W.cell? a = some v) : a.spot = none := by
 unfold World.cell? at h
 split at h
 ·split at h
  ·cases h
  ·rename_i hs; simpa using hs
 ·cases h
theorem cell_lt {a : Addr} {v : Value} (h : W.cell? a = some v) : a.block < W.heap.size := by
 unfold World.cell? at h
 split at h
 ·rename_i hb
  rcases Nat.lt_or_ge a.block W.heap.size with h1 | h1
  ·exact h1
  ·simp [Array.getElem?_eq_none h1] at hb
 ·cases h
theorem I_of {b o : Nat} {v : Value} (h : W.cell? ⟨b, o, none⟩ = some v) : (Sg.of W).I b o = some v := by
 simp only [Sg.of]
 rw [if_pos (cell_lt h)]; exact h
end
end Go.Ev
