import Derived.Test.YtodiioeddlmjhaaGreatDoorE9
import Derived.LaidSub
import Derived.FnData
import Derived.LaidLaws
import GoSem.ClaimJoined
set_option linter.unusedVariables false
set_option linter.unusedSimpArgs false
namespace Go.Ev
open Go.RowKit
abbrev huge : Nat := 9223372036854775807
mutual
inductive RawF : Nat → List Fd → List V → Prop
 | nil (d : Nat) : RawF d [] []
 | int {d : Nat} {n : Int} {fs : List Fd} {cs : List V} (hn : in64 n) (h : RawF d fs cs) : RawF d (.int :: fs) (.int .i64 n :: cs)
 | str {d : Nat} {s : List UInt8} {fs : List Fd} {cs : List V} (hs : s.length ≤ huge) (h : RawF d fs cs) : RawF d (.str :: fs) (.str s :: cs)
 | bool {d : Nat} {b : Bool} {fs : List Fd} {cs : List V} (h : RawF d fs cs) : RawF d (.bool :: fs) (.bool b :: cs)
 | list {d t : Nat} {v : V} {fs : List Fd} {cs : List V} (hv : isLn (szs t) v) (hl : (elems v).length ≤ huge) (he : RawL d t (elems v)) (h : RawF (d + 1) fs cs) : RawF (d + 1) (.list t :: fs) (v :: cs)
 | sub {d t : Nat} {c1 cs : List V} {fs : List Fd} (h1 : RawF d (sch t) c1) (hc : c1.length = szs t) (h : RawF (d + 1) fs cs) : RawF (d + 1) (.sub t :: fs) (c1 ++ cs)
inductive RawL : Nat → Nat → List V → Prop
 | nil (d t : Nat) : RawL d t []
 | cons {d t : Nat} {e : V} {es : List V} (h1 : RawF d (sch t) e.cells) (hc : e.cells.length = szs t) (h2 : RawL d t es) : RawL d t (e :: es)
end
mutual
theorem RawF.succ : ∀ {d : Nat} {fs : List Fd} {cs : List V}, RawF d fs cs → RawF (d + 1) fs cs
 | _, _, _, .nil d => .nil (d + 1)
 | _, _, _, .int hn h => .int hn h.succ
 | _, _, _, .str hs h => .str hs h.succ
 | _, _, _, .bool h => .bool h.succ
 | _, _, _, .list hv hl he h => .list hv hl he.succ h.succ
 | _, _, _, .sub h1 hc h => .sub h1.succ hc h.succ
theorem RawL.succ : ∀ {d t : Nat} {es : List V}, RawL d t es → RawL (d + 1) t es
 | _, _, _, .nil d t => .nil (d + 1) t
 | _, _, _, .cons h1 hc h2 => .cons h1.succ hc h2.succ
end
theorem RawF.le {d d' : Nat} {fs : List Fd} {cs : List V} (h : RawF d fs cs) (hd : d ≤ d') : RawF d' fs cs := by
 induction hd with
 | refl => exact h
 | step _ ih => exact ih.succ
theorem RawL.le {d d' t : Nat} {es : List V} (h : RawL d t es) (hd : d ≤ d') : RawL d' t es := by
 induction hd with
 | refl => exact h
 | step _ ih => exact ih.succ
theorem RawF.append : ∀ {d : Nat} {fs gs : List Fd} {cs ds : List V}, RawF d fs cs → RawF d gs ds → RawF d (fs ++ gs) (cs ++ ds)
 | _, _, _, _, _, .nil _, k => k
 | _, _, _, _, _, .int hn h, k => .int hn (h.append k)
 | _, _, _, _, _, .str hs h, k => .str hs (h.append k)
 | _, _, _, _, _, .bool h, k => .bool (h.append k)
 | _, _, _, _, _, .list hv hl he h, k => .list hv hl he (h.append k)
 | _, _, _, _, _, .sub h1 hc h, k => by rw [List.append_assoc]; exact .sub h1 hc (h.append k)
theorem RawF.invN {d : Nat} {cs : List V} (h : RawF d [] cs) : cs = [] := by cases h; rfl
theorem RawF.invI {d : Nat} {fs : List Fd} {cs : List V} (h : RawF d (.int :: fs) cs) : ∃ n cs', in64 n ∧ cs = .int .i64 n :: cs' ∧ RawF d fs cs' := by
 cases h with | int hn h => exact ⟨_, _, hn, rfl, h⟩
theorem RawF.invS {d : Nat} {fs : List Fd} {cs : List V} (h : RawF d (.str :: fs) cs) : ∃ s cs', s.length ≤ huge ∧ cs = .str s :: cs' ∧ RawF d fs cs' := by
 cases h with | str hs h => exact ⟨_, _, hs, rfl, h⟩
theorem RawF.invL {d t : Nat} {fs : List Fd} {cs : List V} (h : RawF d (.list t :: fs) cs) : ∃ d' v cs', d' < d ∧ isLn (szs t) v ∧ (elems v).length ≤ huge ∧ RawL d' t (elems v) ∧ cs = v :: cs' ∧ RawF d fs cs' := by
 cases h with | list hv hl he h => exact ⟨_, _, _, Nat.lt_succ_self _, hv, hl, he, rfl, h⟩
theorem RawF.invT {d t : Nat} {fs : List Fd} {cs : List V} (h : RawF d (.sub t :: fs) cs) : ∃ d' c1 cs', d' < d ∧ RawF d' (sch t) c1 ∧ c1.length = szs t ∧ cs = c1 ++ cs' ∧ RawF d fs cs' := by
 cases h with | sub h1 hc h => exact ⟨_, _, _, Nat.lt_succ_self _, h1, hc, rfl, h⟩
section
variable {H : Type} {enc : TypeId × Value → H} {P : Program} {W : World} {base : Nat} {held : Bool} {num : TypeId → Option Nat}
def Raw (W : World) (fs : List Fd) (cs : List Value) : Prop := ∃ vs k, VRs (Sg.of W) vs cs ∧ RawF k fs vs
theorem Raw.append {fs gs : List Fd} {cs ds : List Value} (h : Raw W fs cs) (k : Raw W gs ds) : Raw W (fs ++ gs) (cs ++ ds) := by
 obtain ⟨vs, a, h1, h2⟩ := h
 obtain ⟨us, b, k1, k2⟩ := k
 exact ⟨vs ++ us, max a b, h1.append k1, (h2.le (Nat.le_max_left _ _)).append (k2.le (Nat.le_max_right _ _))⟩
theorem raw_fields {f : TypeId → Option (List Fd)} {n tot : Nat} {cs : List Value} (hA : ∀ t fds cs (x : DataW H × List MemPlace), f t = some fds → DataW.trod enc P W base (fun _ => true) held n t cs = some x → Raw W fds cs) (htot : cs.length = tot) :
 ∀ (l : List Field) (o : Nat) (fds : List Fd) (xs : List (DataW H × List MemPlace)), flT P f tot l o = some fds → xs.length = l.length →
  (∀ (i : Nat) (g : Field), l[i]? = some g → DataW.trod enc P W base (fun _ => true) held n g.type ((cs.drop g.offset).take (P.cellsOf g.type)) = xs[i]?) → Raw W fds (cs.drop o)
 | [], o, fds, xs, hf, hl, _ => by
  simp only [flT] at hf
  split at hf
  ·rename_i ho
   cases hf
   subst ho
   rw [← htot, List.drop_length]
   exact ⟨[], 0, .nil, .nil 0⟩
  ·cases hf
 | g :: l, o, fds, xs, hf, hl, hx => by
  simp only [flT] at hf
  split at hf
  ·rename_i ho
   cases h1 : f g.type with
   | none => rw [h1] at hf; cases hf
   | some a =>
    cases h2 : flT P f tot l (o + P.cellsOf g.type) with
    | none => rw [h1, h2] at hf; cases hf
    | some b =>
     rw [h1, h2] at hf
     cases hf
     cases xs with
     | nil => simp at hl
     | cons y ys =>
      have hy := hx 0 g rfl
      simp only [List.getElem?_cons_zero] at hy
      have hrest := raw_fields hA htot l (o + P.cellsOf g.type) b ys h2 (by simpa using hl) (fun i g' hg => by simpa using hx (i + 1) g' (by simpa using hg))
      have hg := (hA g.type a _ y h1 hy).append hrest
      rw [ho] at hg
      have he : (cs.drop o).take (P.cellsOf g.type) ++ cs.drop (o + P.cellsOf g.type) = cs.drop o := by
       rw [← List.drop_drop]; exact List.take_append_drop _ _
      rw [he] at hg
      exact hg
  ·cases hf
theorem raw_elems {n m sz : Nat} {e : TypeId} {a : Addr} (ha : a.spot = none) (hsz : P.cellsOf e = sz) (hm : sz = szs m) (hB : ∀ cs (x : DataW H × List MemPlace), DataW.trod enc P W base (fun _ => true) held n e cs = some x → Raw W (sch m) cs) :
 ∀ (elems : List (DataW H × List MemPlace)) (j : Nat), (∀ i, i < elems.length → (W.cells? base (a.add ((j + i) * sz)) sz).bind (DataW.trod enc P W base (fun _ => true) held n e) = elems[i]?) →
  ∃ es k, es.length = elems.length ∧ LR (Sg.of W) sz es a.block (a.off + j * sz) ∧ RawL k m es
 | [], j, _ => ⟨[], 0, rfl, .nil _ _ _, .nil 0 m⟩
 | x :: xs, j, h => by
  have h0 := h 0 (by simp)
  simp only [Nat.add_zero, List.getElem?_cons_zero, Option.bind_eq_some_iff] at h0
  obtain ⟨cs, hc, hx⟩ := h0
  obtain ⟨vs, k, g1, g2⟩ := hB cs x hx
  obtain ⟨hl, hget⟩ := cells_get hc
  obtain ⟨es, k2, e1, e2, e3⟩ := raw_elems ha hsz hm hB xs (j + 1) (fun i hi => by
   have := h (i + 1) (by simpa using hi)
   simp only [List.getElem?_cons_succ] at this
   rw [← this]
   have : (j + 1 + i) = (j + (i + 1)) := by omega
   rw [this])
  have hcr : CR (Sg.of W) vs a.block (a.off + j * sz) := CR.of_vals g1 fun i v hv => by
   have := hget i v hv
   apply I_of
   have he : (a.add (j * sz)).add i = ⟨a.block, a.off + j * sz + i, none⟩ := by
    obtain ⟨b, o, s⟩ := a
    simp only at ha
    subst ha
    unfold Addr.add
    by_cases h1 : j * sz = 0
    ·by_cases h2 : i = 0 <;> simp [h1, h2]
    ·by_cases h2 : i = 0 <;> simp [h1, h2]
   rw [he] at this
   exact this
  have hlen : vs.length = sz := by rw [g1.length, hl]
  refine ⟨.agg vs :: es, max k k2, by simp [e1], ?_, .cons (g2.le (Nat.le_max_left _ _)) (by show vs.length = _; rw [hlen, hm]) (e3.le (Nat.le_max_right _ _))⟩
  refine .cons (by show vs.length = sz; exact hlen) hcr ?_
  have : a.off + (j + 1) * sz = a.off + j * sz + sz := by rw [Nat.succ_mul]; omega
  rw [← this]
  exact e2
theorem raw_all (hT : Tys P num) : ∀ (n : Nat), (∀ (d : Nat) t fds cs (x : DataW H × List MemPlace), fdT P num d t = some fds → DataW.trod enc P W base (fun _ => true) held n t cs = some x → Raw W fds cs) ∧
 (∀ t m cs (x : DataW H × List MemPlace), num t = some m → DataW.trod enc P W base (fun _ => true) held n t cs = some x → Raw W (sch m) cs) := by
 intro n
 induction n with
 | zero => exact ⟨fun d t fds cs x _ h => by simp [DataW.trod] at h, fun t m cs x _ h => by simp [DataW.trod] at h⟩
 | succ n ih =>
  obtain ⟨ihA, ihB⟩ := ih
  have hint : ∀ t cs (x : DataW H × List MemPlace), P.underlying t = some (.int .i64) → DataW.trod enc P W base (fun _ => true) held (n + 1) t cs = some x → Raw W [.int] cs := by
   intro t cs x hu h
   obtain ⟨k, rfl, rfl, hw⟩ := DataW.trod_int hu h
   exact ⟨[.int .i64 k], 0, .cons (.int _ _) .nil, .int (wf_in64 hw) (.nil 0)⟩
  have hstr : ∀ t cs (x : DataW H × List MemPlace), P.underlying t = some .string → DataW.trod enc P W base (fun _ => true) held (n + 1) t cs = some x → Raw W [.str] cs := by
   intro t cs x hu h
   obtain ⟨s, rfl, rfl, hs⟩ := DataW.trod_string hu h
   refine ⟨[.str s.data.toList], 0, .cons (.str s rfl) .nil, .str ?_ (.nil 0)⟩
   have : s.data.toList.length = s.size := Array.length_toList
   rw [this]; exact hs
  have hstruct : ∀ (d : Nat) t (fs : Array Field) fds cs (x : DataW H × List MemPlace), P.underlying t = some (.struct fs) → flT P (fdT P num d) (P.cellsOf t) fs.toList 0 = some fds → DataW.trod enc P W base (fun _ => true) held (n + 1) t cs = some x → Raw W fds cs := by
   intro d t fs fds cs x hu hf h
   obtain ⟨xs, m, hm, rfl, hl, hxl, hx⟩ := DataW.trod_struct hu h
   cases hm
   have := raw_fields (ihA d) hl fs.toList 0 fds xs hf (by simpa using hxl) (fun i g hg => hx i g (by simpa using hg))
   rw [List.drop_zero] at this
   exact this
  have hB : ∀ t m cs (x : DataW H × List MemPlace), num t = some m → DataW.trod enc P W base (fun _ => true) held (n + 1) t cs = some x → Raw W (sch m) cs := by
   intro t m cs x hn h
   obtain ⟨htop, _, _⟩ := hT.top t m hn
   unfold topT at htop
   split at htop
   ·rename_i hu; rw [← Option.some.inj htop]; exact hint t cs x hu h
   ·rename_i hu; rw [← Option.some.inj htop]; exact hstr t cs x hu h
   ·rename_i fs hu; exact hstruct 3 t fs _ cs x hu htop h
   ·cases htop
  refine ⟨fun d t fds cs x hf h => ?_, hB⟩
  cases d with
  | zero => cases hf
  | succ d =>
   simp only [fdT] at hf
   split at hf
   ·rename_i hu; cases hf; exact hint t cs x hu h
   ·rename_i hu; cases hf; exact hstr t cs x hu h
   ·rename_i hu
    cases hf
    obtain ⟨b, rfl, rfl⟩ := DataW.trod_bool hu h
    exact ⟨[.bool b], 0, .cons (.bool _) .nil, .bool (.nil 0)⟩
   ·rename_i e hu
    cases hn : num e with
    | none => rw [hn] at hf; cases hf
    | some m =>
     rw [hn] at hf
     cases hf
     obtain ⟨_, hsz, hpos⟩ := hT.top e m hn
     rcases DataW.trod_slice hu h with ⟨rfl, rfl⟩ | ⟨a, len, cap, elems, rest, n', hn', rfl, rfl, hb, hlc, hcm, hel, hget, hsp, _⟩
     ·exact ⟨[.nils], 1, .cons .nils .nil, .list (v := .nils) (.inl rfl) (by simp [Ev.elems]) (.nil 0 m) (.nil 1)⟩
     ·cases hn'
      obtain ⟨hrl, hrget⟩ := hsp rfl
      by_cases hc0 : cap = 0
      ·subst hc0
       have : len = 0 := by omega
       subst this
       have : elems = [] := by simpa using hel
       subst this
       exact ⟨[.mt], 1, .cons (.mt a) .nil, .list (v := .mt) (.inr (.inl rfl)) (by simp [Ev.elems]) (.nil 0 m) (.nil 1)⟩
      ·have hspot : a.spot = none := by
        have key : ∀ y, (W.cells? base (a.add (0 * P.cellsOf e)) (P.cellsOf e)).bind (DataW.trod enc P W base (fun _ => true) held n e) = some y → a.spot = none := by
         intro y hy
         simp only [Option.bind_eq_some_iff] at hy
         obtain ⟨cs, hc, _⟩ := hy
         obtain ⟨hl, hg⟩ := cells_get hc
         have h0 : 0 < cs.length := by omega
         have := spot_none (hg 0 cs[0] (List.getElem?_eq_getElem h0))
         simpa [Addr.add] using this
        by_cases hl0 : len = 0
        ·have h0 : 0 < rest.length := by omega
         subst hl0; exact key rest[0] ((hrget 0 (by omega)).trans (List.getElem?_eq_getElem h0))
        ·have h0 : 0 < elems.length := by omega
         exact key elems[0] ((hget 0 (by omega)).trans (List.getElem?_eq_getElem h0))
       obtain ⟨es, k, e1, e2, e3⟩ := raw_elems (m := m) hspot hsz rfl (fun cs x hx => ihB e m cs x hn hx) elems 0 (fun i hi => by
        have := hget i (by omega)
        rw [hsz] at this
        simpa using this)
       have hlen : es.length ≤ huge := by
        rw [e1]
        have : len ≤ huge := by
         unfold huge
         unfold maxLen at hcm
         omega
        omega
       refine ⟨[.list none (szs m) es .no], k + 1, .cons ?_ .nil, .list (.inr (.inr ⟨_, _, _, rfl⟩)) hlen e3 (.nil _)⟩
       have ha : a = ⟨a.block, a.off, none⟩ := by cases a; simp at hspot; subst hspot; rfl
       have hlen2 : len = es.length := by omega
       rw [ha, hlen2]
       refine .list (fun _ ht => by cases ht) ?_ (by omega) trivial
       rw [← hsz]
       simpa [hsz] using e2
   ·rename_i fs hu
    cases hn : num t with
    | some m =>
     rw [hn] at hf
     cases hf
     obtain ⟨_, hsz, _⟩ := hT.top t m hn
     obtain ⟨vs, k, g1, g2⟩ := hB t m cs x hn h
     obtain ⟨_, _, _, _, hl, _⟩ := DataW.trod_struct hu h
     exact ⟨vs ++ [], k + 1, by simpa using g1, .sub g2 (by rw [g1.length, hl, hsz]) (.nil _)⟩
    | none =>
     rw [hn] at hf
     exact hstruct d t fs _ cs x hu hf h
   ·cases hf
end
end Go.Ev
namespace Go.Ev
open Go.RowKit
mutual
inductive Ex where
 | mk (kind n : Int) (s t : List UInt8) (names : List (List UInt8)) (l : List Ex) (arms : List Ar)
inductive Ar where
 | mk (op : List UInt8) (names : List (List UInt8)) (body : Ex)
end
inductive Ty where
 | mk (kind n : Int) (s : List UInt8) (l : List Ty) (labels : List (List UInt8 × Int)) (tail : Int)
def Ex.kind : Ex → Int | .mk k _ _ _ _ _ _ => k
def Ex.n : Ex → Int | .mk _ n _ _ _ _ _ => n
def Ex.s : Ex → List UInt8 | .mk _ _ s _ _ _ _ => s
def Ex.t : Ex → List UInt8 | .mk _ _ _ t _ _ _ => t
def Ex.names : Ex → List (List UInt8) | .mk _ _ _ _ l _ _ => l
def Ex.l : Ex → List Ex | .mk _ _ _ _ _ l _ => l
def Ex.arms : Ex → List Ar | .mk _ _ _ _ _ _ l => l
def Ar.op : Ar → List UInt8 | .mk o _ _ => o
def Ar.names : Ar → List (List UInt8) | .mk _ l _ => l
def Ar.body : Ar → Ex | .mk _ _ b => b
def Ty.kind : Ty → Int | .mk k _ _ _ _ _ => k
def Ty.n : Ty → Int | .mk _ n _ _ _ _ => n
def Ty.s : Ty → List UInt8 | .mk _ _ s _ _ _ => s
def Ty.l : Ty → List Ty | .mk _ _ _ l _ _ => l
def Ty.labels : Ty → List (List UInt8 × Int) | .mk _ _ _ _ l _ => l
def Ty.tail : Ty → Int | .mk _ _ _ _ _ t => t
mutual
def Ex.nodes : Ex → Nat
 | .mk _ _ _ _ _ l arms => 1 + Exs.nodes l + Ars.nodes arms
def Exs.nodes : List Ex → Nat
 | [] => 0
 | e :: l => e.nodes + Exs.nodes l
def Ars.nodes : List Ar → Nat
 | [] => 0
 | .mk _ _ b :: l => b.nodes + Ars.nodes l
end
mutual
def Ty.nodes : Ty → Nat
 | .mk _ _ _ l _ _ => 1 + Tys.nodes l
def Tys.nodes : List Ty → Nat
 | [] => 0
 | e :: l => e.nodes + Tys.nodes l
end
theorem Exs.mem : ∀ {l : List Ex} {e : Ex}, e ∈ l → e.nodes ≤ Exs.nodes l
 | _ :: _, _, .head _ => by simp only [Exs.nodes]; omega
 | _ :: _, _, .tail _ h => by have := Exs.mem h; simp only [Exs.nodes]; omega
theorem Ars.mem : ∀ {l : List Ar} {a : Ar}, a ∈ l → a.body.nodes ≤ Ars.nodes l
 | .mk _ _ _ :: _, _, .head _ => by simp only [Ars.nodes, Ar.body]; omega
 | .mk _ _ _ :: _, _, .tail _ h => by have := Ars.mem h; simp only [Ars.nodes]; omega
theorem Tys.mem : ∀ {l : List Ty} {e : Ty}, e ∈ l → e.nodes ≤ Tys.nodes l
 | _ :: _, _, .head _ => by simp only [Tys.nodes]; omega
 | _ :: _, _, .tail _ h => by have := Tys.mem h; simp only [Tys.nodes]; omega
theorem Ex.part_l {e x : Ex} (h : x ∈ e.l) : x.nodes < e.nodes := by
 cases e with | mk k n s t nm l a => have := Exs.mem (show x ∈ l from h); simp only [Ex.nodes]; omega
theorem Ex.part_a {e : Ex} {a : Ar} (h : a ∈ e.arms) : a.body.nodes < e.nodes := by
 cases e with | mk k n s t nm l as => have := Ars.mem (show a ∈ as from h); simp only [Ex.nodes]; omega
theorem Ty.part {e x : Ty} (h : x ∈ e.l) : x.nodes < e.nodes := by
 cases e with | mk k n s l la t => have := Tys.mem (show x ∈ l from h); simp only [Ty.nodes]; omega
def All2 {α : Type} (R : α → V → Prop) (l : List α) (vs : List V) : Prop := l.length = vs.length ∧ ∀ (i : Nat) (a : α) (v : V), l[i]? = some a → vs[i]? = some v → R a v
theorem All2.nil {α : Type} (R : α → V → Prop) : All2 R [] [] := ⟨rfl, fun i a v h => by simp at h⟩
theorem All2.cons {α : Type} {R : α → V → Prop} {a : α} {v : V} {l : List α} {vs : List V} (h : R a v) (k : All2 R l vs) : All2 R (a :: l) (v :: vs) := by
 refine ⟨by simp [k.1], fun i b u h1 h2 => ?_⟩
 cases i with
 | zero => simp at h1 h2; subst h1; subst h2; exact h
 | succ i => exact k.2 i b u (by simpa using h1) (by simpa using h2)
theorem All2.get {α : Type} {R : α → V → Prop} {l : List α} {vs : List V} (h : All2 R l vs) {i : Nat} (hi : i < l.length) : ∃ v, vs[i]? = some v ∧ R l[i] v := by
 have : i < vs.length := by rw [← h.1]; exact hi
 exact ⟨vs[i], List.getElem?_eq_getElem this, h.2 i _ _ (List.getElem?_eq_getElem hi) (List.getElem?_eq_getElem this)⟩
def StrV (s : List UInt8) (v : V) : Prop := v.cells = [.str s] ∧ s.length ≤ huge
def StrsV (l : List (List UInt8)) (v : V) : Prop := isLn 1 v ∧ (elems v).length ≤ huge ∧ All2 StrV l (elems v)
mutual
inductive ExC : Ex → List V → Prop
 | mk {k n : Int} {s t : List UInt8} {names : List (List UInt8)} {l : List Ex} {arms : List Ar} {nv lv av : V} (hk : in64 k) (hn : in64 n) (hs : s.length ≤ huge) (ht : t.length ≤ huge) (hnm : StrsV names nv)
  (hl : isLn 7 lv) (hll : (elems lv).length ≤ huge) (ha : isLn 9 av) (hal : (elems av).length ≤ huge) (h1 : ExsC l (elems lv)) (h2 : ArsC arms (elems av)) : ExC (.mk k n s t names l arms) [.int .i64 k, .int .i64 n, .str s, .str t, nv, lv, av]
inductive ExsC : List Ex → List V → Prop
 | nil : ExsC [] []
 | cons {e : Ex} {l : List Ex} {v : V} {vs : List V} (h1 : ExC e v.cells) (h2 : ExsC l vs) : ExsC (e :: l) (v :: vs)
inductive ArsC : List Ar → List V → Prop
 | nil : ArsC [] []
 | cons {op : List UInt8} {names : List (List UInt8)} {b : Ex} {l : List Ar} {v nv : V} {cs : List V} {vs : List V} (hv : v.cells = .str op :: nv :: cs) (ho : op.length ≤ huge) (hnm : StrsV names nv) (h1 : ExC b cs) (h2 : ArsC l vs) : ArsC (.mk op names b :: l) (v :: vs)
end
def LabV (a : List UInt8 × Int) (v : V) : Prop := v.cells = [.str a.1, .int .i64 a.2] ∧ a.1.length ≤ huge ∧ in64 a.2
mutual
inductive TyC : Ty → List V → Prop
 | mk {k n : Int} {s : List UInt8} {l : List Ty} {labels : List (List UInt8 × Int)} {tail : Int} {lv bv : V} (hk : in64 k) (hn : in64 n) (hs : s.length ≤ huge) (hl : isLn 6 lv) (hll : (elems lv).length ≤ huge) (hb : isLn 2 bv) (hbl : (elems bv).length ≤ huge)
  (hbs : All2 LabV labels (elems bv)) (ht : in64 tail) (h1 : TysC l (elems lv)) : TyC (.mk k n s l labels tail) [.int .i64 k, .int .i64 n, .str s, lv, bv, .int .i64 tail]
inductive TysC : List Ty → List V → Prop
 | nil : TysC [] []
 | cons {e : Ty} {l : List Ty} {v : V} {vs : List V} (h1 : TyC e v.cells) (h2 : TysC l vs) : TysC (e :: l) (v :: vs)
end
def ExV (e : Ex) (v : V) : Prop := ExC e v.cells
def ArV (a : Ar) (v : V) : Prop := ∃ nv cs, v.cells = .str a.op :: nv :: cs ∧ a.op.length ≤ huge ∧ StrsV a.names nv ∧ ExC a.body cs
def TyV (e : Ty) (v : V) : Prop := TyC e v.cells
theorem ExsC.all : ∀ {l : List Ex} {vs : List V}, ExsC l vs → All2 ExV l vs
 | _, _, .nil => All2.nil _
 | _, _, .cons h1 h2 => All2.cons h1 h2.all
theorem ArsC.all : ∀ {l : List Ar} {vs : List V}, ArsC l vs → All2 ArV l vs
 | _, _, .nil => All2.nil _
 | _, _, .cons hv ho hn h1 h2 => All2.cons ⟨_, _, hv, ho, hn, h1⟩ h2.all
theorem TysC.all : ∀ {l : List Ty} {vs : List V}, TysC l vs → All2 TyV l vs
 | _, _, .nil => All2.nil _
 | _, _, .cons h1 h2 => All2.cons h1 h2.all
theorem ExC.inv {e : Ex} {cs : List V} (h : ExC e cs) : ∃ nv lv av, cs = [.int .i64 e.kind, .int .i64 e.n, .str e.s, .str e.t, nv, lv, av] ∧ in64 e.kind ∧ in64 e.n ∧ e.s.length ≤ huge ∧ e.t.length ≤ huge ∧ StrsV e.names nv ∧
 isLn 7 lv ∧ (elems lv).length ≤ huge ∧ isLn 9 av ∧ (elems av).length ≤ huge ∧ All2 ExV e.l (elems lv) ∧ All2 ArV e.arms (elems av) := by
 cases h with
 | mk hk hn hs ht hnm hl hll ha hal h1 h2 => exact ⟨_, _, _, rfl, hk, hn, hs, ht, hnm, hl, hll, ha, hal, h1.all, h2.all⟩
theorem TyC.inv {e : Ty} {cs : List V} (h : TyC e cs) : ∃ lv bv, cs = [.int .i64 e.kind, .int .i64 e.n, .str e.s, lv, bv, .int .i64 e.tail] ∧ in64 e.kind ∧ in64 e.n ∧ e.s.length ≤ huge ∧ isLn 6 lv ∧ (elems lv).length ≤ huge ∧ isLn 2 bv ∧ (elems bv).length ≤ huge ∧
 All2 LabV e.labels (elems bv) ∧ in64 e.tail ∧ All2 TyV e.l (elems lv) := by
 cases h with
 | mk hk hn hs hl hll hb hbl hbs ht h1 => exact ⟨_, _, rfl, hk, hn, hs, hl, hll, hb, hbl, hbs, ht, h1.all⟩
theorem strs_of : ∀ {d : Nat} {vs : List V}, RawL d 1 vs → ∃ l, All2 StrV l vs
 | _, _, .nil _ _ => ⟨[], All2.nil _⟩
 | _, _, .cons h1 _ h2 => by
  obtain ⟨l, hl⟩ := strs_of h2
  obtain ⟨s, cs', hs, he, h3⟩ := RawF.invS h1
  have := h3.invN
  subst this
  exact ⟨s :: l, All2.cons ⟨he, hs⟩ hl⟩
theorem ex_of : ∀ (d : Nat), (∀ cs, RawF d (sch 11) cs → ∃ e, ExC e cs) := by
 intro d
 induction d using Nat.strongRecOn with
 | ind d ih =>
  have hL : ∀ d', d' < d → ∀ vs, RawL d' 11 vs → ∃ l, ExsC l vs := by
   intro d' hd' vs
   induction vs with
   | nil => exact fun _ => ⟨[], .nil⟩
   | cons v vs ihv =>
    intro h
    cases h with
    | cons h1 hc h2 =>
     obtain ⟨l, hl⟩ := ihv h2
     obtain ⟨e, he⟩ := ih d' hd' _ h1
     exact ⟨e :: l, .cons he hl⟩
  have hA : ∀ d', d' < d → ∀ vs, RawL d' 12 vs → ∃ l, ArsC l vs := by
   intro d' hd' vs
   induction vs with
   | nil => exact fun _ => ⟨[], .nil⟩
   | cons v vs ihv =>
    intro h
    cases h with
    | cons h1 hc h2 =>
     obtain ⟨l, hl⟩ := ihv h2
     obtain ⟨op, cs1, ho, e1, g1⟩ := RawF.invS h1
     obtain ⟨d2, nv, cs2, _, n1, n2, n3, rfl, g2⟩ := RawF.invL g1
     obtain ⟨d3, c1, cs3, h3, g3, hc1, rfl, g4⟩ := RawF.invT g2
     have := g4.invN
     subst this
     obtain ⟨nm, hnm⟩ := strs_of n3
     obtain ⟨b, hb⟩ := ih d3 (by omega) _ g3
     refine ⟨.mk op nm b :: l, .cons (cs := c1) (nv := nv) (by rw [e1]; simp) ho ⟨n1, n2, hnm⟩ hb hl⟩
  intro cs h0
  obtain ⟨k, c1, hk, e1, h1⟩ := RawF.invI h0
  subst e1
  obtain ⟨n, c2, hn, e2, h2⟩ := RawF.invI h1
  subst e2
  obtain ⟨s, c3, hs, e3, h3⟩ := RawF.invS h2
  subst e3
  obtain ⟨t, c4, ht, e4, h4⟩ := RawF.invS h3
  subst e4
  obtain ⟨d1, nv, c5, _, n1, n2, n3, e5, h5⟩ := RawF.invL h4
  subst e5
  obtain ⟨d2, lv, c6, hd2, l1, l2, l3, e6, h6⟩ := RawF.invL h5
  subst e6
  obtain ⟨d3, av, c7, hd3, a1, a2, a3, e7, h7⟩ := RawF.invL h6
  subst e7
  have := h7.invN
  subst this
  obtain ⟨nm, hnm⟩ := strs_of n3
  obtain ⟨l, hl⟩ := hL d2 hd2 _ l3
  obtain ⟨a, ha⟩ := hA d3 hd3 _ a3
  exact ⟨.mk k n s t nm l a, .mk hk hn hs ht ⟨n1, n2, hnm⟩ l1 l2 a1 a2 hl ha⟩
end Go.Ev
namespace Go.Ev
open Go.RowKit
def kindB (c : UInt8) : Nat :=
 if c = 32 ∨ c = 9 ∨ c = 10 then 1
 else if c = 95 ∨ (97 ≤ c ∧ c ≤ 122) then 2
 else if 65 ≤ c ∧ c ≤ 90 then 3
 else if 48 ≤ c ∧ c ≤ 57 then 4
 else 0
def wordB (s : List UInt8) (first : Nat) : Bool :=
 match s with
 | [] => false
 | c :: _ => Nat.ble s.length 12 && Nat.beq (kindB c) first && s.all fun c => Nat.ble 2 (kindB c)
def kws : List (List UInt8) :=
 [[102, 117, 110], [108, 101, 116], [114, 101, 99], [105, 110], [105, 102], [116, 104, 101, 110], [101, 108, 115, 101], [109, 97, 116, 99, 104], [100, 111], [104, 97, 110, 100, 108, 101],
  [115, 104, 97, 108, 108, 111, 119], [110, 97, 109, 101, 100], [109, 97, 115, 107], [117, 115, 105, 110, 103], [99, 108, 111, 115, 101], [114, 101, 115, 117, 109, 101], [100, 114, 111, 112],
  [114, 101, 116, 117, 114, 110], [116, 114, 117, 101], [102, 97, 108, 115, 101], [100, 97, 116, 97], [101, 102, 102, 101, 99, 116], [111, 110, 99, 101], [100, 101, 102], [109, 97, 105, 110]]
def isKw (s : List UInt8) : Bool := kws.contains s
def isVarB (s : List UInt8) : Bool := wordB s 2 && !isKw s
def isUpperB (s : List UInt8) : Bool := wordB s 3
def clsB (s : List UInt8) : Nat → Bool
 | 1 => isVarB s
 | 2 => isUpperB s
 | 3 => decide (s = [43]) || decide (s = [45]) || decide (s = [42]) || decide (s = [60]) || decide (s = [61, 61])
 | _ => decide (s = [])
def distE (c : Nat) : List (List UInt8) → List (List UInt8) → Int
 | _, [] => 0
 | seen, s :: l => if !clsB s c then 4 else if seen.contains s then 5 else distE c (seen ++ [s]) l
structure Shp where
 s : Nat
 t : Nat
 names : Nat
 more : Nat
 parts : Nat
 plus : Nat
 arms : Bool
 low : Int
 high : Int
def shps : List Shp :=
 [⟨1, 0, 0, 0, 0, 0, false, 0, 0⟩, ⟨0, 0, 0, 0, 0, 0, false, -999999999, 999999999⟩, ⟨0, 0, 0, 0, 0, 0, false, 0, 1⟩, ⟨0, 0, 0, 0, 0, 0, false, 0, 0⟩, ⟨0, 0, 1, 0, 1, 0, false, 0, 0⟩,
  ⟨0, 0, 0, 0, 2, 0, false, 0, 0⟩, ⟨0, 0, 1, 0, 2, 0, false, 0, 0⟩, ⟨0, 0, 2, 0, 2, 0, false, 0, 0⟩, ⟨0, 0, 0, 0, 3, 0, false, 0, 0⟩, ⟨3, 0, 0, 0, 2, 0, false, 0, 0⟩,
  ⟨2, 0, 0, 0, 0, 4, false, 0, 0⟩, ⟨0, 0, 0, 0, 1, 0, true, 0, 0⟩, ⟨1, 0, 0, 0, 1, 0, false, 0, 0⟩, ⟨1, 1, 0, 0, 1, 0, false, 0, 0⟩, ⟨2, 0, 0, 0, 1, 0, true, 0, 1⟩,
  ⟨2, 0, 1, 0, 1, 0, true, 0, 0⟩, ⟨2, 0, 0, 0, 1, 0, false, 0, 0⟩, ⟨0, 0, 1, 12, 3, 0, false, 0, 0⟩, ⟨1, 0, 0, 0, 1, 0, false, 0, 0⟩, ⟨1, 0, 0, 0, 0, 0, false, 0, 0⟩]
def thenE (d x : Int) : Int := if d = 0 then x else d
def amongB (n low high : Int) : Bool := decide (low ≤ n) && decide (n ≤ high)
def armE (kind : Int) (seen : List (List UInt8)) (a : Ar) : Int :=
 let first := decide (kind ≠ 11) && seen.isEmpty
 let fine := if decide (kind = 11) then decide ((a.names.length : Int) ≤ 4) else if first then decide ((a.names.length : Int) = 1) && decide (a.op = [114, 101, 116, 117, 114, 110]) else decide ((a.names.length : Int) = 2)
 if !fine then 7
 else if !first && !clsB a.op (if decide (kind = 11) then 2 else 1) then 4
 else thenE (distE 1 [] a.names) (if seen.contains a.op then 5 else 0)
def armsE (kind : Int) : List (List UInt8) → List Ar → Int
 | _, [] => 0
 | seen, a :: l => thenE (armE kind seen a) (armsE kind (seen ++ [a.op]) l)
def nodeE (e : Ex) : Int :=
 if !amongB e.kind 0 19 then 1
 else match shps[e.kind.toNat]? with
  | none => 1
  | some x =>
   if !amongB e.n x.low x.high then 1
   else if !clsB e.s x.s || !clsB e.t x.t then 4
   else if !amongB (e.names.length : Nat) (x.names : Nat) ((x.names + x.more : Nat) : Int) || !amongB (e.l.length : Nat) (x.parts : Nat) ((x.parts + x.plus : Nat) : Int) then 7
   else if (!x.arms && decide ((e.arms.length : Int) > 0)) || decide ((e.arms.length : Int) > 9) then 7
   else
    let first := if decide (e.kind = 17) then 1 else e.names.length
    thenE (distE 1 [] (e.names.take first)) (thenE (distE 2 [] (e.names.drop first)) (thenE (armsE e.kind [] e.arms) (if decide (e.kind ≠ 11) && x.arms && decide ((e.arms.length : Int) = 0) then 7 else 0)))
mutual
def nodesE : Ex → Int
 | .mk k n s t nm l a => thenE (nodeE (.mk k n s t nm l a)) (thenE (nodesLE l) (nodesAE a))
def nodesLE : List Ex → Int
 | [] => 0
 | e :: l => thenE (nodesE e) (nodesLE l)
def nodesAE : List Ar → Int
 | [] => 0
 | .mk _ _ b :: l => thenE (nodesE b) (nodesAE l)
end
mutual
def Ex.depth : Ex → Nat
 | .mk _ _ _ _ _ l a => 1 + max (Exs.depth l) (Ars.depth a)
def Exs.depth : List Ex → Nat
 | [] => 0
 | e :: l => max e.depth (Exs.depth l)
def Ars.depth : List Ar → Nat
 | [] => 0
 | .mk _ _ b :: l => max b.depth (Ars.depth l)
end
def fitsB (e : Ex) : Bool := Nat.ble e.nodes 3000 && Nat.ble e.depth 200
def checkE (e : Ex) : Int := if fitsB e then nodesE e else 3
def sizeE (e : Ex) : Int := if checkE e = 0 then (e.nodes : Int) else 0
def depthE (e : Ex) : Int := if checkE e = 0 then (e.depth : Int) else 0
end Go.Ev
namespace Go.Ev
open Go.RowKit
section
variable {P : Program} {ev : Operand → Option V} {S S' : St} {x y a b : Operand} {t u : TypeId} {v w : V} {p : V} {n off id : Nat}
theorem ofBytes_append (a b : List UInt8) : ofBytes (a ++ b) = ofBytes a ++ ofBytes b := by simp [ofBytes]
theorem ofBytes_length (a : List UInt8) : (ofBytes a).length = a.length := by simp [ofBytes]
theorem ofBytes_all (a : List UInt8) : ∀ z ∈ ofBytes a, z.cells.length = 1 ∧ z.cells.all V.one = true := by
 intro z hz
 simp only [ofBytes, List.mem_map] at hz
 obtain ⟨b, _, rfl⟩ := hz
 exact ⟨rfl, rfl⟩
end
structure KeepB (S S' : St) (c : Nat) : Prop where
 next : S.next ≤ S'.next
 box : ∀ id t cs, id < S.next → id ≠ c → S.h.find id = some (.box t cs) → S'.h.find id = some (.box t cs)
theorem KeepB.refl (S : St) (c : Nat) : KeepB S S c := ⟨Nat.le_refl _, fun _ _ _ _ _ h => h⟩
theorem KeepB.trans {A B C : St} {c : Nat} (h : KeepB A B c) (k : KeepB B C c) : KeepB A C c :=
 ⟨Nat.le_trans h.next k.next, fun id t cs h1 h2 h3 => k.box id t cs (Nat.lt_of_lt_of_le h1 h.next) h2 (h.box id t cs h1 h2 h3)⟩
theorem inc_ok {i : Nat} (h : i < 9223372036854775807) : intOp .add .i64 (i : Int) 1 = some (.int .i64 ((i + 1 : Nat) : Int)) := by
 have : IntKind.wrap .i64 ((i : Int) + 1) = ((i + 1 : Nat) : Int) := by rw [wrap_i64_id (by constructor <;> omega)]; rfl
 simp only [intOp, this]
theorem Pt.cptr (S : St) (t : Option TypeId) (cs : List V) : Pt S (.cptr t cs 0) cs := fun i v h => by simpa using h
structure Same (S S' : St) : Prop where
 next : S.next ≤ S'.next
 find : ∀ id, id < S.next → S'.h.find id = S.h.find id
theorem Same.refl (S : St) : Same S S := ⟨Nat.le_refl _, fun _ _ => rfl⟩
theorem Same.trans {A B C : St} (h : Same A B) (k : Same B C) : Same A C := ⟨Nat.le_trans h.next k.next, fun id hi => by rw [k.find id (Nat.lt_of_lt_of_le hi h.next), h.find id hi]⟩
theorem Same.new (S : St) (o : Ob) : Same S (S.new o) := ⟨by simp [St.new], fun id hi => by simp only [St.new, Tr.find_put, if_neg (Nat.ne_of_lt hi)]⟩
theorem Same.keepB {S S' : St} (h : Same S S') (c : Nat) : KeepB S S' c := ⟨h.next, fun id t cs hi _ hb => by rw [h.find id hi]; exact hb⟩
theorem Same.put {S S' : St} (h : Same S S') {id : Nat} (hid : S.next ≤ id) (o : Ob) : Same S { S' with h := S'.h.put id o } :=
 ⟨h.next, fun j hj => by simp only [Tr.find_put]; rw [if_neg (by omega)]; exact h.find j hj⟩
theorem Same.del {S S' : St} (h : Same S S') {id : Nat} (hid : S.next ≤ id) : Same S { S' with h := S'.h.del id } :=
 ⟨h.next, fun j hj => by simp only [Tr.find_del]; rw [if_neg (by omega)]; exact h.find j hj⟩
theorem Same.roll {S U : St} (h : Same S U) {id : Nat} (hid : S.next ≤ id) : Same S (St.new { U with h := U.h.del id } .tok) := (h.del hid).trans (Same.new _ _)
section
variable {P : Program} {ev : Operand → Option V} {S S' : St} {s d e : TypeId}
theorem conv_bytesA [hs : ElT P s e] [he : ConI P e .u8] [hd : IsStr P d] {id off n m : Nat} {cs : List V} {bs : List UInt8} (hr : rd S (.ptr id off) n = some cs) (h : toBytes cs = some bs) : convertE P s d (.arr id off n m) S = some (.str bs, S) := by
 simp only [convertE, hs.h, hd.h, he.h, hr, h, Option.map]
theorem toBytes_of : ∀ (l : List UInt8), toBytes (ofBytes l) = some l
 | [] => rfl
 | x :: l => by
  have := toBytes_of l
  simp only [ofBytes, List.map_cons, toBytes] at this ⊢
  rw [this]
  simp [Option.map]
end
section
variable {P : Program} {ev : Operand → Option V} {S S' : St} {x y z q : Operand} {t : TypeId} {u v w r s : V} {n i j k m : Nat}
theorem op_bltn {b : Builtin} {ats : Array TypeId} {args : Array Operand} {l : List V} (ha : mapO ev args.toList = some l) (h : builtinE P b ats.toList l S = some (v, S')) : opE P (.call { callee := .builtin b, args, argTypes := ats }) ev S = some (v, S') := by
 simp only [opE, ha, h]
theorem op_asT {t1 t2 : TypeId} {c : Bool} (h : ev x = some v) (ha : assertE P v t2 c = some w) : opE P (.typeAssert x t1 t2 c) ev S = some (w, S) := by simp [opE, h, ha]
end
theorem flat_ofBytes : ∀ (l : List UInt8), (ofBytes l).flatMap V.cells = ofBytes l
 | [] => rfl
 | x :: l => by
  have := flat_ofBytes l
  simp only [ofBytes, List.map_cons, List.flatMap_cons] at this ⊢
  rw [this]; rfl
theorem Opl.cast [Glob] {P : Program} {ops : Array Oper} {os : List Oper} {F : Sh} {E : Env} {S S' : St} {k : K} (h : Opl P ops os F E S' k) (hs : S' = S) : Opl P ops os F E S k := hs ▸ h
structure Keep2 (S S' : St) (c x : Nat) : Prop where
 next : S.next ≤ S'.next
 find : ∀ id, id < S.next → id ≠ c → id ≠ x → S'.h.find id = S.h.find id
theorem Keep2.refl (S : St) (c x : Nat) : Keep2 S S c x := ⟨Nat.le_refl _, fun _ _ _ _ => rfl⟩
theorem Keep2.trans {A B C : St} {c x : Nat} (h : Keep2 A B c x) (k : Keep2 B C c x) : Keep2 A C c x :=
 ⟨Nat.le_trans h.next k.next, fun id h1 h2 h3 => by rw [k.find id (Nat.lt_of_lt_of_le h1 h.next) h2 h3, h.find id h1 h2 h3]⟩
theorem Keep2.one {A B : St} {c : Nat} (h : Keep2 A B c c) (x : Nat) : Keep2 A B c x := ⟨h.next, fun id h1 h2 _ => h.find id h1 h2 h2⟩
theorem Keep2.new {A B : St} {c x y : Nat} (h : Keep2 A B c y) (hy : A.next ≤ y) : Keep2 A B c x := ⟨h.next, fun id h1 h2 _ => h.find id h1 h2 (by omega)⟩
theorem Keep2.put (S : St) (c x : Nat) (o : Ob) : Keep2 S { S with h := S.h.put x o } c x :=
 ⟨Nat.le_refl _, fun id _ _ h => by simp only [Tr.find_put, if_neg h]⟩
structure Hold (p : Prop) : Prop where
 h : p
theorem Go.joinS [Glob] {P : Program} {F : Sh} {E0 : Env} {S0 : St} {a b : Code} {k : K} (Inv : Env → St → Prop) (hrest : ∀ E S, Inv E S → Go P F E S b k) (h : (∀ E S, Inv E S → Go P F E S b k) → Go P F E0 S0 a (Ks P b k)) : Go P F E0 S0 a (Ks P b k) := h hrest
theorem eql_i {k : IntKind} {a b : Int} {q : Bool} (h : decide (a = b) = q) : intOp .eql k a b = some (.bool q) := by
 simp only [intOp]; rw [← h]; rfl
theorem gtr_i {k : IntKind} {a b : Int} {q : Bool} (h : decide (a > b) = q) : intOp .gtr k a b = some (.bool q) := by
 simp only [intOp]; rw [← h]
theorem lss_i {k : IntKind} {a b : Int} {q : Bool} (h : decide (a < b) = q) : intOp .lss k a b = some (.bool q) := by
 simp only [intOp]; rw [← h]
theorem geq_i {k : IntKind} {a b : Int} {q : Bool} (h : decide (a ≥ b) = q) : intOp .geq k a b = some (.bool q) := by
 simp only [intOp]; rw [← h]
theorem neq_i {k : IntKind} {a b : Int} {q : Bool} (h : (!decide (a = b)) = q) : intOp .neq k a b = some (.bool q) := by
 simp only [intOp]; rw [← h]; rfl
theorem op_gyes [Glob] {P : Program} {ops : Array Oper} {os : List Oper} {F : Sh} {E : Env} {S : St} {k : K} {d j : Nat} {op : Op} {ty : TypeId} {pos : String} {after : Array Edge} {w : Bool} (hg : gd ops E j w = some true) (hk : Opl P ops (⟨some d, op, ty, pos, after, none⟩ :: os) F E S k) (hd : Nat.blt d F.n = true) : Opl P ops (⟨some d, op, ty, pos, after, some (j, w)⟩ :: os) F E S k :=
 Opl.gon (q := true) hg hd (fun _ => hk) (fun h => by cases h)
theorem Go.join [Glob] {P : Program} {F : Sh} {E : Env} (E' : Env) {S : St} {a b : Code} {k : K} (hrest : Go P F E' S b k) (h : (∀ E1, Sub E' E1 → Go P F E1 S b k) → Go P F E S a (Ks P b k)) : Go P F E S a (Ks P b k) := h (fun E1 hs => hrest.weaken hs)
theorem str_eql (s : List UInt8) : strOp .eql s s = some (.bool true) := by simp [strOp]
theorem int_eql (e : Int) : intOp .eql .i64 e e = some (.bool true) := by simp [intOp]
theorem str_add {a b : List UInt8} (h : a.length + b.length < 9223372036854775808) : strOp .add a b = some (.str (a ++ b)) := by
 simp only [strOp]
 rw [if_pos (Nat.ble_eq_true_of_le (by omega))]
theorem eql_s {a b : List UInt8} {q : Bool} (h : decide (a = b) = q) : strOp .eql a b = some (.bool q) := by
 subst h; simp only [strOp]
theorem neq_s {a b : List UInt8} {q : Bool} (h : (!decide (a = b)) = q) : strOp .neq a b = some (.bool q) := by
 subst h; simp only [strOp]
theorem leq_i {k : IntKind} {a b : Int} {q : Bool} (h : decide (a ≤ b) = q) : intOp .leq k a b = some (.bool q) := by
 simp only [intOp]; rw [← h]
def Pu [Glob] (P : Program) (g : FuncId) (l : List V) (r : V) : Prop := ∀ S, CallTo P g l S (fun v S' => v = r ∧ Same S S') (fun _ _ => False)
def PuQ [Glob] (P : Program) (g : FuncId) (l : List V) (Q : V → Prop) : Prop := ∀ S, CallTo P g l S (fun v S' => Q v ∧ Same S S') (fun _ _ => False)
theorem Opl.callS [Glob] {P : Program} {ops : Array Oper} {os : List Oper} {F : Sh} {E : Env} {U0 S : St} {k : K} {d : Nat} {ty : TypeId} {pos : String} {after : Array Edge} {f : Operand} {args : Array Operand} {ats : Array TypeId} {g : FuncId} {l : List V} {r : V}
 (k0 : Same U0 S) (hf : calleeE (Env.opd E) f args = some (g, l)) (hb : hasBody P g = true) (hc : Pu P g l r) (hd : Nat.blt d F.n = true) (h1 : ∀ S', Same U0 S' → Opl P ops os F ((d, r) :: E) S' k) :
 Opl P ops (⟨some d, .call { callee := .value f, args, argTypes := ats }, ty, pos, after, none⟩ :: os) F E S k :=
 Opl.call hf hb (hc S) hd (fun v S' h => by obtain ⟨rfl, h⟩ := h; exact h1 S' (k0.trans h)) (fun _ _ h => h.elim)
theorem Opl.callQ [Glob] {P : Program} {ops : Array Oper} {os : List Oper} {F : Sh} {E : Env} {U0 S : St} {k : K} {d : Nat} {ty : TypeId} {pos : String} {after : Array Edge} {f : Operand} {args : Array Operand} {ats : Array TypeId} {g : FuncId} {l : List V} {Q : V → Prop}
 (k0 : Same U0 S) (hf : calleeE (Env.opd E) f args = some (g, l)) (hb : hasBody P g = true) (hc : PuQ P g l Q) (hd : Nat.blt d F.n = true) (h1 : ∀ v S', Q v → Same U0 S' → Opl P ops os F ((d, v) :: E) S' k) :
 Opl P ops (⟨some d, .call { callee := .value f, args, argTypes := ats }, ty, pos, after, none⟩ :: os) F E S k :=
 Opl.call hf hb (hc S) hd (fun v S' h => h1 v S' h.1 (k0.trans h.2)) (fun _ _ h => h.elim)
theorem Opl.gonB [Glob] {P : Program} {ops : Array Oper} {os : List Oper} {F : Sh} {E : Env} {S : St} {k : K} {d j : Nat} {op : Op} {ty : TypeId} {pos : String} {after : Array Edge} {w b : Bool} (hg : gd ops E j w = some (b == w)) (hd : Nat.blt d F.n = true)
 (h1 : b = w → Opl P ops (⟨some d, op, ty, pos, after, none⟩ :: os) F E S k) (h2 : b = !w → Opl P ops os F ((d, .tup []) :: E) S k) : Opl P ops (⟨some d, op, ty, pos, after, some (j, w)⟩ :: os) F E S k :=
 Opl.gon hg hd (fun h => h1 (by simpa using h)) (fun h => h2 (by cases b <;> cases w <;> first | rfl | cases h))
theorem find_new (S : St) (o : Ob) : (S.new o).h.find S.next = some o := by simp [St.new, Tr.find_put]
theorem find_old {S : St} {o : Ob} {id : Nat} (h : id < S.next) : (S.new o).h.find id = S.h.find id := by simp only [St.new, Tr.find_put, if_neg (Nat.ne_of_lt h)]
theorem pt_box {S : St} {id : Nat} {t : TypeId} {cs : List V} (h : S.h.find id = some (.box t cs)) : Pt S (.ptr id 0) cs := ⟨_, _, h, fun i v h => by simpa using h⟩
structure Bx (U : St) (id : Nat) (t : TypeId) (cs : List V) : Prop where
 lt : id < U.next
 box : U.h.find id = some (.box t cs)
theorem Bx.same {U S : St} {id : Nat} {t : TypeId} {cs : List V} (h : Bx U id t cs) (k : Same U S) : Bx S id t cs := ⟨Nat.lt_of_lt_of_le h.lt k.next, by rw [k.find id h.lt]; exact h.box⟩
theorem Bx.pt {U S : St} {id : Nat} {t : TypeId} {cs : List V} (h : Bx U id t cs) (k : Same U S) : Pt S (.ptr id 0) cs := pt_box (h.same k).box
theorem Bx.new (S : St) (t : TypeId) (cs : List V) : Bx (S.new (.box t cs)) S.next t cs := ⟨by simp [St.new], find_new S _⟩
theorem Bx.old {S : St} {id : Nat} {t : TypeId} {cs : List V} (h : Bx S id t cs) (o : Ob) : Bx (S.new o) id t cs := h.same (Same.new S o)
theorem ld_bx {P : Program} {U S : St} {id : Nat} {t T : TypeId} {cs : List V} {v : V} [LdOne P T] (h : Bx U id t cs) (k : Same U S) (i : Nat) (hv : cs[i]? = some v) : loadE P T (padd (.ptr id 0) i) S = some v := ld_one ((h.pt k).at i hv)
theorem ld_bxA {P : Program} {U S : St} {id n : Nat} {t T : TypeId} {cs : List V} [LdAgg P T n] (h : Bx U id t cs) (k : Same U S) (hn : cs.length = n) : loadE P T (.ptr id 0) S = some (.agg cs) := ld_agg (h.pt k) hn
section
variable {P : Program} {ops : Array Oper} {ms : List Nat} {S0 S S' : St} {I : St → Prop} {l : List Nat} {F : Sh} {E : Env} {k : K} {i d : Nat} {op : Op} {ty : TypeId} {pos : String} {after : Array Edge} {v : V}
theorem Drw.c2g [Glob] {g : Option (Nat × Bool)} (ho : ops[i]? = some ⟨some d, op, ty, pos, after, g⟩) (hc : clsE op = 2) (h0 : I S0) (hS : I S) (h : ∀ U, I U → opE P op (Env.opd E) U = some (v, U)) (hd : Nat.blt d F.n = true) (hk : Drw P ops ms S0 I l F ((d, v) :: E) S k) (hg : gOk ops E g = some true := by rfl) : Drw P ops ms S0 I (i :: l) F E S k := .mk fun fr T hf hT => by
 obtain ⟨fr', h1, h2⟩ := hf.put v hd
 have hw := gOk_want (d := d) (op := op) (ty := ty) (pos := pos) (after := after) hf hg
 have h4 : ∀ U, I U → opE P op (viewE fr (looks ops ⟨some d, op, ty, pos, after, g⟩)) U = some (v, U) := fun U hU =>
  (opE_congr (fun x hx => viewE_opd (o := ⟨some d, op, ty, pos, after, g⟩) hx) U).trans (opE_mono (fun x v => hf.opd) (h U hU))
 have hb : Nat.beq (clsE op) 3 = false := by rw [hc]; rfl
 obtain ⟨x, fr2, S2, h5, h6⟩ := hk.h fr' (.mild i ⟨some d, op, ty, pos, after, g⟩ v S.next none :: T) h2 ⟨rfl, hT⟩
 refine ⟨x, fr2, S2, ?_, h6⟩
 simp only [drawE, ho, hb, Bool.false_and, Bool.false_eq_true, if_false, mildE, hw, h4 S hS, hc, sameE_all (h4 S0 h0) h4 T hT, if_true, h1]
 exact h5
end
theorem Opl.fresh [Glob] {P : Program} {ops : Array Oper} {os : List Oper} {F : Sh} {E : Env} {S S' : St} {k : K} {d : Nat} {op : Op} {ty : TypeId} {pos : String} {after : Array Edge} {b : Bool} (h : opE P op (Env.opd E) S = some (.bool b, S')) (hd : Nat.blt d F.n = true)
 (hk : ∀ q, b = q → Opl P ops os F ((d, .bool q) :: E) S' k) : Opl P ops (⟨some d, op, ty, pos, after, none⟩ :: os) F E S k := .val h hd (hk b rfl)
theorem op_ixaV {P : Program} {ev : Operand → Option V} {S : St} {x y : Operand} {t e : TypeId} {n i : Nat} {k : IntKind} {v u : V} [hs : ElT P t e] [hn : SzN P e n] (hl : isLn n v) (h : ev x = some v) (h2 : ev y = some (.int k i)) (hc : (elems v)[i]? = some u) :
 opE P (.indexAddr t x y) ev S = some (.cptr none u.cells 0, S) := by
 obtain ⟨lt, tk, hv⟩ := hl.el hc
 rw [hv] at h
 exact op_ixaL h h2 hc
theorem Pu.of [Glob] {P : Program} {g : FuncId} {l : List V} {r : V} (h : ∀ S, CallTo P g l S (fun v S' => v = r ∧ Same S S') (fun _ _ => False)) : Pu P g l r := h
theorem box2 (S : St) (T1 T2 : TypeId) (c1 c2 : List V) : ∃ U1 U2 : St, U1 = S.new (.box T1 c1) ∧ U2 = U1.new (.box T2 c2) ∧ Bx U2 S.next T1 c1 ∧ Bx U2 U1.next T2 c2 ∧ Same S U2 :=
 ⟨_, _, rfl, rfl, (Bx.new S T1 c1).old _, Bx.new _ T2 c2, (Same.new S _).trans (Same.new _ _)⟩
theorem box1 (S : St) (T1 : TypeId) (c1 : List V) : ∃ U1 : St, U1 = S.new (.box T1 c1) ∧ Bx U1 S.next T1 c1 ∧ Same S U1 := ⟨_, rfl, Bx.new S T1 c1, Same.new S _⟩
theorem Go.condV [Glob] {P : Program} {F : Sh} {E : Env} {S : St} {x : Operand} {q : Bool} {a b : Code} {k : K} (hx : Env.opd E x = some (.bool q)) (h1 : q = true → Go P F E S a k) (h2 : q = false → Go P F E S b k) : Go P F E S (.cond x a b) k := .cond hx h1 h2
theorem All2.at {α : Type} {R : α → V → Prop} {l : List α} {vs : List V} (h : All2 R l vs) {i : Nat} (hi : i < vs.length) : ∃ a v, l[i]? = some a ∧ vs[i]? = some v ∧ R a v ∧ a ∈ l := by
 have hl : i < l.length := by rw [h.1]; exact hi
 exact ⟨l[i], vs[i], List.getElem?_eq_getElem hl, List.getElem?_eq_getElem hi, h.2 i _ _ (List.getElem?_eq_getElem hl) (List.getElem?_eq_getElem hi), List.getElem_mem hl⟩
theorem Go.joinN [Glob] (n : Nat) {P : Program} {F : Sh} {E0 : Env} {S0 : St} {c b : Code} {k : K} (Inv : Env → St → Prop) (hrest : Hold (∀ E S, Inv E S → Go P F E S b k)) (h : Hold ((∀ E S, Inv E S → Go P F E S b k) → Go P F E0 S0 (.block n c) (Ks P b k))) : Go P F E0 S0 (.block n c) (Ks P b k) := h.h hrest.h
theorem Go.joinRI [Glob] (i : Nat) {P : Program} {F : Sh} {E0 : Env} {S0 : St} {ops : Array Oper} {q : Bool} {b : Code} {k : K} (Inv : Env → St → Prop) (hrest : Hold (∀ E S, Inv E S → Go P F E S b k)) (h : Hold ((∀ E S, Inv E S → Go P F E S b k) → Go P F E0 S0 (.region i ops q) (Ks P b k))) : Go P F E0 S0 (.region i ops q) (Ks P b k) := h.h hrest.h
theorem isLn.one {n : Nat} {v : V} (h : isLn n v) : v.one = true := by
 rcases h with rfl | rfl | ⟨_, _, _, rfl⟩ <;> rfl
theorem ExC.len7 {e : Ex} {cs : List V} (h : ExC e cs) : cs.length = 7 := by obtain ⟨_, _, _, rfl, _⟩ := h.inv; rfl
theorem ExC.ones {e : Ex} {cs : List V} (h : ExC e cs) : cs.all V.one = true := by
 obtain ⟨_, _, _, rfl, _, _, _, _, hn, hl, _, ha, _⟩ := h.inv
 simp only [List.all_cons, hn.1.one, hl.one, ha.one]; rfl
theorem TyC.ones {e : Ty} {cs : List V} (h : TyC e cs) : cs.all V.one = true := by
 obtain ⟨_, _, rfl, _, _, _, hl, _, hb, _⟩ := h.inv
 simp only [List.all_cons, hl.one, hb.one]; rfl
theorem ArV.len9 {a : Ar} {v : V} (h : ArV a v) : v.cells.length = 9 := by
 obtain ⟨_, _, hc, _, _, hb⟩ := h; rw [hc]; simp [hb.len7]
theorem ArV.ones {a : Ar} {v : V} (h : ArV a v) : v.cells.all V.one = true := by
 obtain ⟨_, _, hc, _, hn, hb⟩ := h; rw [hc]; simp only [List.all_cons, hn.1.one, hb.ones]; rfl
theorem ExV.len7 {e : Ex} {v : V} (h : ExV e v) : v.cells.length = 7 := ExC.len7 h
theorem ExV.ones {e : Ex} {v : V} (h : ExV e v) : v.cells.all V.one = true := ExC.ones h
theorem TyV.ones {e : Ty} {v : V} (h : TyV e v) : v.cells.all V.one = true := TyC.ones h
theorem lay {P : Program} {T : TypeId} {n : Nat} (z : List V) [SzN P T n] (U : St) {cs : List V} (hl : cs.length = n) (ho : cs.all V.one = true) (hz : z.length = n := by rfl) :
 ∃ W : St, storeE P T (.ptr U.next 0) (.agg cs) (U.new (.box T z)) = some W ∧ Bx W U.next T cs ∧ Same U W := by
 have hb : (U.new (.box T z)).h.find U.next = some (.box T z) := find_new U _
 have hsp : splice z 0 cs = some cs := by
  unfold splice
  rw [if_pos (Nat.ble_eq_true_of_le (by omega))]
  simp [hl, hz]
 exact ⟨_, st_agg hb hl ho hsp, ⟨by simp [St.new], by simp [Tr.find_put]⟩, (Same.new _ _).put (Nat.le_refl _) _⟩
theorem pack_b {a b : Bool} (h : a = b) : packV [V.bool a] = V.bool b := by rw [h]; rfl
theorem Opl.gonT [Glob] {P : Program} {ops : Array Oper} {os : List Oper} {F : Sh} {E : Env} {S : St} {k : K} {d j : Nat} {op : Op} {ty : TypeId} {pos : String} {after : Array Edge} {b : Bool} (hg : gd ops E j true = some (b == true)) (hd : Nat.blt d F.n = true)
 (h1 : b = true → Opl P ops (⟨some d, op, ty, pos, after, none⟩ :: os) F E S k) (h2 : b = false → Opl P ops os F ((d, .tup []) :: E) S k) : Opl P ops (⟨some d, op, ty, pos, after, some (j, true)⟩ :: os) F E S k := .gonB hg hd h1 h2
theorem Opl.gonF [Glob] {P : Program} {ops : Array Oper} {os : List Oper} {F : Sh} {E : Env} {S : St} {k : K} {d j : Nat} {op : Op} {ty : TypeId} {pos : String} {after : Array Edge} {b : Bool} (hg : gd ops E j false = some (b == false)) (hd : Nat.blt d F.n = true)
 (h1 : b = false → Opl P ops (⟨some d, op, ty, pos, after, none⟩ :: os) F E S k) (h2 : b = true → Opl P ops os F ((d, .tup []) :: E) S k) : Opl P ops (⟨some d, op, ty, pos, after, some (j, false)⟩ :: os) F E S k := .gonB hg hd h1 h2
theorem closedT_of [Glob] {P : Program} {f : FuncId} (n : Nat) (h : boolOf (Go.Ev.runT P n (.call f []) S0) = some true) : ClosedT P f := by
 unfold boolOf at h
 split at h
 ·rename_i b S' he
  cases h
  exact ⟨n, S', he⟩
 ·cases h
theorem Drw.callS [Glob] {P : Program} {ops : Array Oper} {ms : List Nat} {S0 S : St} {U0 : St} {l : List Nat} {F : Sh} {E : Env} {k : K} {i d : Nat} {ty : TypeId} {pos : String} {after : Array Edge} {f : Operand} {args : Array Operand} {ats : Array TypeId} {g : FuncId} {m : List V} {r : V} {gg : Option (Nat × Bool)} (k0 : Same U0 S)
 (ho : ops[i]? = some ⟨some d, .call { callee := .value f, args, argTypes := ats }, ty, pos, after, gg⟩) (hf : calleeE (Env.opd E) f args = some (g, m)) (hb : hasBody P g = true) (hc : Pu P g m r) (hd : Nat.blt d F.n = true)
 (hk : ∀ S', Same U0 S' → Drw P ops ms S0 (Same U0) l F ((d, r) :: E) S' k) (hg : gOk ops E gg = some true := by rfl) : Drw P ops ms S0 (Same U0) (i :: l) F E S k :=
 Drw.call ho hf hb (hc S) hd (fun v S' h => by obtain ⟨rfl, h⟩ := h; exact ⟨k0.trans h, hk S' (k0.trans h)⟩) hg
end Go.Ev
namespace Go.Ev
open Go.RowKit
def valOf : V → Value
 | .bool b => .bool b
 | .int k n => .int k n
 | _ => .nilIface
mutual
def flatI {H : Type} : DataW H → Option (List V)
 | .lit (.bool b) => some [.bool b]
 | .lit (.int k n) => some [.int k n]
 | .agg l => flatIs l
 | _ => none
def flatIs {H : Type} : List (DataW H) → Option (List V)
 | [] => some []
 | d :: l => match flatI d, flatIs l with
  | some a, some b => some (a ++ b)
  | _, _ => none
end
def fsOk (P : Program) (ok : TypeId → Bool) (n : Nat) : List Field → Nat → Bool
 | [], o => Nat.beq o n
 | f :: fs, o => Nat.beq f.offset o && ok f.type && fsOk P ok n fs (o + P.cellsOf f.type)
def leafOk (P : Program) : Nat → TypeId → Bool
 | 0, _ => false
 | d + 1, t => match P.underlying t with
  | some .bool => Nat.beq (P.cellsOf t) 1
  | some (.int _) => Nat.beq (P.cellsOf t) 1
  | some (.struct fs) => fsOk P (leafOk P d) (P.cellsOf t) fs.toList 0
  | some (.array k e) => Nat.beq (P.cellsOf t) (k * P.cellsOf e) && leafOk P d e
  | _ => false
section
variable {H : Type} {enc : TypeId × Value → H} {P : Program} {W : World} {base : Nat} {sp : Nat → Bool} {held : Bool}
theorem flat_fields {fuel : Nat} {ok : TypeId → Bool} {cs : List Value} (hd : ∀ t cs dd p, ok t = true → DataW.trod enc P W base sp held fuel t cs = some (dd, p) → ∃ vs, flatI dd = some vs ∧ cs = vs.map valOf) :
 ∀ (fs : List Field) (o : Nat) (xs : List (DataW H × List MemPlace)), fsOk P ok cs.length fs o = true → fs.mapM (fun f => DataW.trod enc P W base sp held fuel f.type ((cs.drop f.offset).take (P.cellsOf f.type))) = some xs → ∃ vs, flatIs (xs.map (·.1)) = some vs ∧ cs.drop o = vs.map valOf
 | [], o, xs, h, hm => by
  have := Nat.eq_of_beq_eq_true h
  simp at hm
  subst hm
  exact ⟨[], rfl, by rw [List.drop_eq_nil_of_le (by omega)]; rfl⟩
 | f :: fs, o, xs, h, hm => by
  simp only [fsOk, Bool.and_eq_true] at h
  have ho := Nat.eq_of_beq_eq_true h.1.1
  rw [List.mapM_cons] at hm
  obtain ⟨x, hx, hm⟩ := Option.bind_eq_some_iff.1 hm
  obtain ⟨ys, hy, hm⟩ := Option.bind_eq_some_iff.1 hm
  cases hm
  obtain ⟨vs, h1, h2⟩ := hd _ _ x.1 x.2 h.1.2 hx
  obtain ⟨us, h3, h4⟩ := flat_fields hd fs _ ys h.2 hy
  refine ⟨vs ++ us, by simp only [List.map_cons, flatIs, h1, h3], ?_⟩
  rw [List.map_append, ← h2, ← h4, ho, ← List.drop_drop, List.take_append_drop]
theorem flat_elems {fuel c : Nat} {e : TypeId} {cs : List Value} (hd : ∀ cs dd p, DataW.trod enc P W base sp held fuel e cs = some (dd, p) → ∃ vs, flatI dd = some vs ∧ cs = vs.map valOf) :
 ∀ (n s : Nat) (xs : List (DataW H × List MemPlace)), (s + n) * c = cs.length → (List.range' s n).mapM (fun i => DataW.trod enc P W base sp held fuel e ((cs.drop (i * c)).take c)) = some xs → ∃ vs, flatIs (xs.map (·.1)) = some vs ∧ cs.drop (s * c) = vs.map valOf
 | 0, s, xs, h, hm => by
  simp at hm
  subst hm
  exact ⟨[], rfl, by rw [List.drop_eq_nil_of_le (by simp at h; omega)]; rfl⟩
 | n + 1, s, xs, h, hm => by
  rw [List.range'_succ, List.mapM_cons] at hm
  obtain ⟨x, hx, hm⟩ := Option.bind_eq_some_iff.1 hm
  obtain ⟨ys, hy, hm⟩ := Option.bind_eq_some_iff.1 hm
  cases hm
  obtain ⟨vs, h1, h2⟩ := hd _ x.1 x.2 hx
  obtain ⟨us, h3, h4⟩ := flat_elems hd n (s + 1) ys (by rw [← h]; congr 1; omega) hy
  refine ⟨vs ++ us, by simp only [List.map_cons, flatIs, h1, h3], ?_⟩
  rw [List.map_append, ← h2, ← h4, Nat.add_mul, Nat.one_mul, ← List.drop_drop, List.take_append_drop]
theorem flat_of : ∀ (d fuel : Nat) (t : TypeId) (cs : List Value) (dd : DataW H) (p : List MemPlace), leafOk P d t = true → DataW.trod enc P W base sp held fuel t cs = some (dd, p) → ∃ vs, flatI dd = some vs ∧ cs = vs.map valOf
 | 0, _, _, _, _, _, h, _ => by cases h
 | _ + 1, 0, _, _, _, _, _, h => by simp [DataW.trod] at h
 | d + 1, fuel + 1, t, cs, dd, p, h, hr => by
  unfold leafOk at h
  unfold DataW.trod at hr
  cases hu : P.underlying t with
  | none => rw [hu] at h; cases h
  | some ud =>
   rw [hu] at h hr
   cases ud <;> first | (cases h; done) | skip
   ·split at hr <;> rename_i heq <;> first | (cases heq; done) | skip
    all_goals first | (cases heq; cases hr; exact ⟨_, rfl, rfl⟩) | skip
    all_goals cases hr
   ·split at hr <;> rename_i heq <;> first | (cases heq; done) | skip
    all_goals first
     | (cases heq
        split at hr
        ·rename_i hc; cases hr; obtain ⟨rfl, _⟩ := hc; exact ⟨_, rfl, rfl⟩
        ·cases hr)
     | skip
    all_goals cases hr
   ·simp only [Bool.and_eq_true] at h hr
    obtain ⟨h1, h2⟩ := h
    have h1 := Nat.eq_of_beq_eq_true h1
    split at hr
    ·rename_i hl
     obtain ⟨xs, hm, hx⟩ := Option.map_eq_some_iff.1 hr
     cases hx
     rw [List.range_eq_range'] at hm
     obtain ⟨vs, h3, h4⟩ := flat_elems (fun cs dd p h => flat_of d fuel _ cs dd p h2 h) _ 0 xs (by rw [Nat.zero_add, hl, h1]) hm
     exact ⟨vs, by simp only [flatI]; exact h3, by simpa using h4⟩
    ·cases hr
   ·simp only at h hr
    split at hr
    ·rename_i hl
     obtain ⟨xs, hm, hx⟩ := Option.map_eq_some_iff.1 hr
     cases hx
     obtain ⟨vs, h3, h4⟩ := flat_fields (ok := leafOk P d) (fun t cs dd p h2 h => flat_of d fuel t cs dd p h2 h) _ 0 xs (by rw [hl]; exact h) hm
     exact ⟨vs, by simp only [flatI]; exact h3, by simpa using h4⟩
    ·cases hr
end
theorem laid_mem {P : Program} {W : World} {n : String} {dd : DataW Unit} : ∀ {l : List (String × DataW Unit)} {ps : List MemPlace}, DataW.LaidVars P W l ps → (n, dd) ∈ l →
 ∃ g t cs fuel p, P.globalNamed n = some g ∧ (P.globals[g]?).map (·.type) = some t ∧ W.var? P n = some cs ∧ DataW.trod (fun _ => ()) P W 0 (fun _ => true) false fuel t cs.toList = some (dd, p)
 | _ :: _, _, h, hm => by
  obtain ⟨g, t, cs, fuel, p, q, h1, h2, h3, h4, h5, _⟩ := h
  cases hm with
  | head => exact ⟨g, t, cs, fuel, p, h1, h2, h3, h4⟩
  | tail _ hm => exact laid_mem h5 hm
def numish : V → Bool
 | .bool _ => true
 | .int _ _ => true
 | _ => false
theorem vr_val {σ : Sg} : ∀ {v : V}, numish v = true → VR σ v (valOf v)
 | .bool b, _ => .bool _
 | .int k n, _ => .int _ _
theorem vars_of [Glob] {P : Program} {W : World} {laid : List (String × DataW Unit)} (h : laidMetH P laid W) (hh : (laid.all fun x => x.2.handleName?.isNone) = true)
 (hT : ∀ g cs, Glob.cells g = some cs → ∃ n dd t, (n, dd) ∈ laid ∧ P.globalNamed n = some g ∧ (P.globals[g]?).map (·.type) = some t ∧ leafOk P 4 t = true ∧ flatI dd = some cs ∧ cs.all numish = true) : VarsOk W := by
 have h := (laidMetH_iff.1 h).1
 rw [List.filter_eq_self.2 (fun x hx => List.all_eq_true.1 hh x hx)] at h
 obtain ⟨ps, hl, _⟩ := h
 intro g cs hg i v hi
 obtain ⟨n, dd, t, hm, hn, ht, hlf, hfl, hnum⟩ := hT g cs hg
 obtain ⟨g', t', vs, fuel, p, h1, h2, h3, h4⟩ := laid_mem hl hm
 obtain rfl := Option.some.inj (hn.symm.trans h1)
 obtain rfl := Option.some.inj (ht.symm.trans h2)
 obtain ⟨us, h5, h6⟩ := flat_of 4 fuel t _ dd p hlf h4
 obtain rfl := Option.some.inj (hfl.symm.trans h5)
 refine ⟨valOf v, ?_, vr_val (List.all_eq_true.1 hnum v (List.mem_of_getElem? hi))⟩
 rw [World.var?_cell hn h3 i]
 have : vs.toList[i]? = some (valOf v) := by rw [h6, List.getElem?_map, hi]; rfl
 simpa using this
def codeP : MemPlace → Nat
 | .cell b o => if Nat.blt o 1024 then b * 1024 + o + 1 else 0
 | .map _ => 0
def nodB : List MemPlace → Nat → Bool
 | [], _ => true
 | p :: l, acc => Nat.blt 0 (codeP p) && !(acc.testBit (codeP p)) && nodB l (acc ||| (1 <<< codeP p))
theorem nodB_ok : ∀ {l : List MemPlace} {acc : Nat}, nodB l acc = true → l.Nodup ∧ ∀ p ∈ l, acc.testBit (codeP p) = false
 | [], _, _ => ⟨List.nodup_nil, fun p hp => by cases hp⟩
 | p :: l, acc, h => by
  simp only [nodB, Bool.and_eq_true, Bool.not_eq_true'] at h
  obtain ⟨⟨_, h2⟩, h3⟩ := h
  obtain ⟨k1, k2⟩ := nodB_ok h3
  have k3 : ∀ q ∈ l, acc.testBit (codeP q) = false ∧ codeP q ≠ codeP p := by
   intro q hq
   have := k2 q hq
   rw [Nat.testBit_or, Bool.or_eq_false_iff] at this
   refine ⟨this.1, fun e => ?_⟩
   have h4 := this.2
   rw [e, Nat.one_shiftLeft, Nat.testBit_two_pow_self] at h4
   cases h4
  refine ⟨List.nodup_cons.2 ⟨fun hp => (k3 p hp).2 rfl, k1⟩, fun q hq => ?_⟩
  cases hq with
  | head => exact h2
  | tail _ hq => exact (k3 q hq).1
theorem laidMet_fast {P : Program} {w : World} {l : List (String × DataW Unit)} (fuel : Nat) (h : (DataW.laidRun P w fuel (l.map (·.1))).map (·.1) = some l)
 (hr : (DataW.laidRun P w fuel (l.map (·.1))).map (fun x => nodB x.2 0 && laidRowsB P w x.2) = some true) : laidMet P l w := by
 cases hx : DataW.laidRun P w fuel (l.map (·.1)) with
 | none => simp [hx] at h
 | some x =>
  obtain ⟨l', ps⟩ := x
  simp only [hx, Option.map_some, Option.some.injEq] at h hr
  subst h
  simp only [Bool.and_eq_true] at hr
  exact laidMet_of_run fuel hx (decide_eq_true (nodB_ok hr.1).1) hr.2
end Go.Ev
namespace Go.Ev
open Go.RowKit
theorem get_list (l : List UInt8) (i : Nat) (h : i < l.length) : (ByteArray.mk l.toArray).get! i = l[i] := by
 simp [ByteArray.get!, getElem!_pos, h]
theorem decode_small {l : List UInt8} {i : Nat} (h : i < l.length) (ha : l[i].toNat < 128) : Utf8.decode ⟨l.toArray⟩ i = (l[i].toNat, 1) := by
 have e : (ByteArray.mk l.toArray).get! (i + 0) = l[i] := get_list l i h
 simp only [Utf8.decode, e, ha, if_true]
theorem decode_big {l : List UInt8} {i : Nat} (h : i < l.length) (ha : 128 ≤ l[i].toNat) : 128 ≤ (Utf8.decode ⟨l.toArray⟩ i).1 := by
 have e : (ByteArray.mk l.toArray).get! (i + 0) = l[i] := get_list l i h
 unfold Utf8.decode
 simp only [e]
 rw [if_neg (by omega)]
 split
 ·split
  ·omega
  ·decide
 ·split
  ·split
   ·rename_i hc
    simp only [Bool.and_eq_true, decide_eq_true_eq] at hc
    have := hc.1
    simp only at this ⊢
    omega
   ·decide
  ·split
   ·split
    ·rename_i hc
     simp only [Bool.and_eq_true, decide_eq_true_eq] at hc
     have := hc.1
     simp only at this ⊢
     omega
    ·decide
   ·decide
section
variable {P : Program} {ev : Operand → Option V} {S : St} {x y z : Operand} {t : TypeId} {s : List UInt8} {id pos : Nat}
theorem op_rangeS [hs : IsStr P t] (h : ev x = some (.str s)) : opE P (.range t x) ev S = some (.ptr S.next 0, S.new (.oth (.sit s 0))) := by
 simp only [opE, h, rangeE, hs.h]
theorem op_nextS (h : ev x = some (.ptr id 0)) (hf : S.h.find id = some (.oth (.sit s pos))) (hlt : pos < s.length) :
 opE P (.next x true) ev S = some (.tup [.bool true, .int .i64 pos, .int .i32 (Utf8.decode ⟨s.toArray⟩ pos).1], { S with h := S.h.put id (.oth (.sit s (pos + (Utf8.decode ⟨s.toArray⟩ pos).2))) }) := by
 simp only [opE, h, nextE, hf]
 rw [if_pos (by simpa [Nat.blt_eq] using hlt)]
theorem op_nextN (h : ev x = some (.ptr id 0)) (hf : S.h.find id = some (.oth (.sit s pos))) (hge : s.length ≤ pos) : opE P (.next x true) ev S = some (.tup [.bool false], S) := by
 simp only [opE, h, nextE, hf]
 rw [if_neg (by simp [Nat.blt_eq]; omega)]
def keysOf : List (V × V × Nat) → Option (List (List UInt8))
 | [] => some []
 | (.str k, _, _) :: es => (keysOf es).map (k :: ·)
 | _ :: _ => none
theorem findE_str : ∀ {es : List (V × V × Nat)} {ks : List (List UInt8)} (i : Nat), keysOf es = some ks → (∃ j v, findE (.str s) es i = some (some (j, v)) ∧ ks.contains s = true) ∨ (findE (.str s) es i = some none ∧ ks.contains s = false)
 | [], ks, i, h => by cases h; exact .inr ⟨rfl, rfl⟩
 | (q, v, n) :: es, ks, i, h => by
  cases q <;> first | (cases h; done) | skip
  rename_i k
  obtain ⟨ks', h1, rfl⟩ := Option.map_eq_some_iff.1 h
  by_cases hk : s = k
  ·subst hk
   exact .inl ⟨i, v, by simp [findE, sameKey], by simp⟩
  ·rcases findE_str (i + 1) h1 with ⟨j, u, h2, h3⟩ | ⟨h2, h3⟩
   ·exact .inl ⟨j, u, by simp [findE, sameKey, hk, h2], by simp [hk]; simpa using h3⟩
   ·exact .inr ⟨by simp [findE, sameKey, hk, h2], by simp [hk]; simpa using h3⟩
theorem op_look {e : TypeId} {zv : V} {n : Nat} {es : List (V × V × Nat)} {ks : List (List UInt8)} (hm : mapT P t = some (.string, e)) (hz : zeroV P e = some zv) (hx : ev x = some (.map id)) (hy : ev y = some (.str s)) (hf : S.h.find id = some (.oth (.map es n))) (hk : keysOf es = some ks) :
 ∃ v, opE P (.lookup t x y true) ev S = some (.tup [v, .bool (ks.contains s)], S) := by
 rcases findE_str (s := s) 0 hk with ⟨j, v, h1, h2⟩ | ⟨h1, h2⟩
 ·exact ⟨v, by simp only [opE, hx, hy, lookupE, hm, entsE, hf, isKeyD, if_true, h1, hz, h2, Option.map]⟩
 ·exact ⟨zv, by simp only [opE, hx, hy, lookupE, hm, entsE, hf, isKeyD, if_true, h1, hz, h2, Option.map]⟩
end
theorem kindB_nat (c : UInt8) : kindB c = if c.toNat = 32 ∨ c.toNat = 9 ∨ c.toNat = 10 then 1 else if c.toNat = 95 ∨ (97 ≤ c.toNat ∧ c.toNat ≤ 122) then 2 else if 65 ≤ c.toNat ∧ c.toNat ≤ 90 then 3 else if 48 ≤ c.toNat ∧ c.toNat ≤ 57 then 4 else 0 := by
 have h : ∀ m : Fin 256, kindB (UInt8.ofNat m.val) = if m.val = 32 ∨ m.val = 9 ∨ m.val = 10 then 1 else if m.val = 95 ∨ (97 ≤ m.val ∧ m.val ≤ 122) then 2 else if 65 ≤ m.val ∧ m.val ≤ 90 then 3 else if 48 ≤ m.val ∧ m.val ≤ 57 then 4 else 0 := by decide +kernel
 have := h ⟨c.toNat, c.toNat_lt⟩
 simpa using this
theorem ble_gtr {a b : Nat} {q : Bool} (h : decide ((a : Int) > (b : Int)) = q) : Nat.ble a b = !q := by
 subst h
 by_cases hb : a ≤ b
 ·rw [Nat.ble_eq_true_of_le hb]; simp; omega
 ·have : Nat.ble a b = false := by cases hc : Nat.ble a b with
   | true => exact (hb (Nat.le_of_ble_eq_true hc)).elim
   | false => rfl
  rw [this]; simp; omega
theorem beq_neq {a b : Nat} {q : Bool} (h : (!decide ((a : Int) = (b : Int))) = q) : Nat.beq a b = !q := by
 subst h
 by_cases hb : a = b
 ·subst hb; simp
 ·have : Nat.beq a b = false := by cases hc : Nat.beq a b with
   | true => exact (hb (Nat.eq_of_beq_eq_true hc)).elim
   | false => rfl
  rw [this]; simp; omega
theorem decode_small' {l : List UInt8} {i : Nat} {b : UInt8} (h : i < l.length) (hb : l[i] = b) (ha : b.toNat < 128) : Utf8.decode ⟨l.toArray⟩ i = (b.toNat, 1) := by
 subst hb; exact decode_small h ha
theorem decode_big' {l : List UInt8} {i : Nat} {b : UInt8} (h : i < l.length) (hb : l[i] = b) (ha : 128 ≤ b.toNat) : 128 ≤ (Utf8.decode ⟨l.toArray⟩ i).1 := by
 subst hb; exact decode_big h ha
theorem add1_find (S : St) (n i : Nat) (ob : Ob) : (S.add n [(i, ob)]).h.find (i + S.next) = some (ob.up S.next) := by simp [St.add, addObs, Tr.find_put]
theorem add1_same (S : St) (n i : Nat) (ob : Ob) : Same S (S.add n [(i, ob)]) :=
 ⟨by simp [St.add], fun id h => by simp only [St.add, addObs, Tr.find_put]; rw [if_neg (by omega)]⟩
theorem ld_b1 {P : Program} {U S : St} {id : Nat} {t T : TypeId} {cs : List V} {v : V} [LdOne P T] (h : Bx U id t (v :: cs)) (k : Same U S) : loadE P T (.ptr id 0) S = some v := ld_one (h.pt k)
structure Kp (c : Option Nat) (S S' : St) : Prop where
 next : S.next ≤ S'.next
 find : ∀ id, id < S.next → c ≠ some id → S'.h.find id = S.h.find id
theorem Kp.refl (c : Option Nat) (S : St) : Kp c S S := ⟨Nat.le_refl _, fun _ _ _ => rfl⟩
theorem Kp.trans {c : Option Nat} {A B C : St} (h : Kp c A B) (k : Kp c B C) : Kp c A C :=
 ⟨Nat.le_trans h.next k.next, fun id h1 h2 => by rw [k.find id (Nat.lt_of_lt_of_le h1 h.next) h2, h.find id h1 h2]⟩
theorem Same.kp {S S' : St} (h : Same S S') (c : Option Nat) : Kp c S S' := ⟨h.next, fun id h1 _ => h.find id h1⟩
theorem Kp.same {S S' : St} (h : Kp none S S') : Same S S' := ⟨h.next, fun id h1 => h.find id h1 (fun h => by cases h)⟩
theorem Kp.after {S U S' : St} {c : Nat} (h : Kp (some c) U S') (k : Same S U) (hc : S.next ≤ c) : Same S S' :=
 ⟨Nat.le_trans k.next h.next, fun id h1 => by
  rw [h.find id (Nat.lt_of_lt_of_le h1 k.next) (fun e => by cases e; omega), k.find id h1]⟩
theorem Kp.put {U S : St} {c : Nat} (h : Kp (some c) U S) (o : Ob) : Kp (some c) U { S with h := S.h.put c o } :=
 ⟨h.next, fun id h1 h2 => by
  simp only [Tr.find_put]
  rw [if_neg (fun e => h2 (by rw [e]))]
  exact h.find id h1 h2⟩
theorem Kp.new {c : Option Nat} {U S : St} (h : Kp c U S) (o : Ob) : Kp c U (S.new o) := h.trans ((Same.new S o).kp c)
theorem Kp.then {c : Option Nat} {U S S' : St} (h : Kp c U S) (k : Same S S') : Kp c U S' := h.trans (k.kp c)
structure Bk (c : Option Nat) (U : St) (id : Nat) (t : TypeId) (cs : List V) : Prop where
 lt : id < U.next
 ne : c ≠ some id
 box : U.h.find id = some (.box t cs)
theorem Bk.keep {c : Option Nat} {U S : St} {id : Nat} {t : TypeId} {cs : List V} (h : Bk c U id t cs) (k : Kp c U S) : Bk c S id t cs := ⟨Nat.lt_of_lt_of_le h.lt k.next, h.ne, by rw [k.find _ h.lt h.ne]; exact h.box⟩
theorem Bk.pt {c : Option Nat} {U S : St} {id : Nat} {t : TypeId} {cs : List V} (h : Bk c U id t cs) (k : Kp c U S) : Pt S (.ptr id 0) cs := pt_box (h.keep k).box
theorem ld_k {P : Program} {c : Option Nat} {U S : St} {id : Nat} {t T : TypeId} {cs : List V} {v : V} [LdOne P T] (h : Bk c U id t cs) (k : Kp c U S) (i : Nat) (hv : cs[i]? = some v) : loadE P T (padd (.ptr id 0) i) S = some v := ld_one ((h.pt k).at i hv)
theorem ld_k1 {P : Program} {c : Option Nat} {U S : St} {id : Nat} {t T : TypeId} {cs : List V} {v : V} [LdOne P T] (h : Bk c U id t (v :: cs)) (k : Kp c U S) : loadE P T (.ptr id 0) S = some v := ld_one (h.pt k)
theorem ld_kA {P : Program} {c : Option Nat} {U S : St} {id n : Nat} {t T : TypeId} {cs : List V} [LdAgg P T n] (h : Bk c U id t cs) (k : Kp c U S) (hn : cs.length = n) : loadE P T (.ptr id 0) S = some (.agg cs) := ld_agg (h.pt k) hn
theorem Bk.of {c : Option Nat} {U : St} {id : Nat} {t : TypeId} {cs : List V} (h : Bx U id t cs) (hc : c ≠ some id) : Bk c U id t cs := ⟨h.lt, hc, h.box⟩
def runS {α σ : Type} (step : α → σ → Bool × σ) : List α → σ → Bool × σ
 | [], s => (true, s)
 | x :: l, s => match step x s with
  | (true, s') => runS step l s'
  | (false, s') => (false, s')
theorem runS_cons {α σ : Type} {step : α → σ → Bool × σ} {x : α} {l : List α} {s : σ} : runS step (x :: l) s = if (step x s).1 then runS step l (step x s).2 else (false, (step x s).2) := by
 simp only [runS]
 rcases step x s with ⟨b, s'⟩
 cases b <;> rfl
def anyS {α σ : Type} (step : α → σ → Bool × σ) : List α → σ → Bool × σ
 | [], s => (false, s)
 | x :: l, s => match step x s with
  | (true, s') => (true, s')
  | (false, s') => anyS step l s'
theorem anyS_cons {α σ : Type} {step : α → σ → Bool × σ} {x : α} {l : List α} {s : σ} : anyS step (x :: l) s = if (step x s).1 then (true, (step x s).2) else anyS step l (step x s).2 := by
 simp only [anyS]
 rcases step x s with ⟨b, s'⟩
 cases b <;> rfl
theorem anyS_any {α : Type} (f : α → Bool) (l : List α) : anyS (fun a (s : Unit) => (f a, s)) l () = (l.any f, ()) := by
 induction l with
 | nil => rfl
 | cons a l ih => rw [anyS_cons]; cases h : f a <;> simp [h, ih]
def Ex.parts (e : Ex) : List Ex := e.l ++ e.arms.map Ar.body
theorem contains_step {l : List (List UInt8)} {s x : List UInt8} {i : Nat} (h : l[i]? = some x) : (l.drop i).contains s = (decide (s = x) || (l.drop (i + 1)).contains s) := by
 obtain ⟨hlt, rfl⟩ := List.getElem?_eq_some_iff.1 h
 rw [List.drop_eq_getElem_cons hlt, List.contains_cons]
 congr 1
 rw [Bool.eq_iff_iff]; simp
theorem drop_at {α : Type} {l : List α} {x : α} {i : Nat} (h : l[i]? = some x) : l.drop i = x :: l.drop (i + 1) := by
 obtain ⟨hlt, rfl⟩ := List.getElem?_eq_some_iff.1 h
 exact List.drop_eq_getElem_cons hlt
section
variable {P : Program} {ev : Operand → Option V} {S : St} {x y : Operand} {t T e : TypeId} {v w b : V} {n : Nat} {nv : V}
theorem op_slH (h : ev x = some v) (h2 : ev y = some b) (hs : sliceE P t v none (some b) none = some w) : opE P (.slice t x none (some y) none) ev S = some (w, S) := by
 simp only [opE, h, h2, Option.toList, mapO, List.head?, hs, Option.map]
theorem op_slL (h : ev x = some v) (h2 : ev y = some b) (hs : sliceE P t v (some b) none none = some w) : opE P (.slice t x (some y) none none) ev S = some (w, S) := by
 simp only [opE, h, h2, Option.toList, mapO, List.head?, hs, Option.map]
theorem boundB_nat {i d m : Nat} {k : IntKind} (h : i ≤ m) : boundB (some (.int k (i : Int))) d m = some i := by
 have hc : (decide ((0 : Int) ≤ (i : Int)) && decide ((i : Int) ≤ (m : Int))) = true := by simp; omega
 show (if (decide ((0 : Int) ≤ (i : Int)) && decide ((i : Int) ≤ (m : Int))) = true then some (i : Int).toNat else none) = some i
 rw [if_pos hc]; simp
theorem slice_take (hT : P.underlying T = some (.slice e)) (hn : szOf P e = some n) (hl : isLn n nv) (i : Nat) (hi : i ≤ (elems nv).length) :
 ∃ mv, sliceE P T nv none (some (.int .i64 i)) none = some mv ∧ isLn n mv ∧ elems mv = (elems nv).take i := by
 rcases hl with rfl | rfl | ⟨lt, es, tk, rfl⟩
 ·have h0 : i = 0 := by simpa [elems] using hi
  subst h0
  exact ⟨.nils, by simp [sliceE, hT, hn, sliceB, boundB], .inl rfl, rfl⟩
 ·have h0 : i = 0 := by simpa [elems] using hi
  subst h0
  exact ⟨.mt, by simp [sliceE, hT, hn, sliceB, boundB], .inr (.inl rfl), rfl⟩
 ·have hi : i ≤ es.length := hi
  have hb : sliceB none (some (.int .i64 (i : Int))) es.length es.length = some (0, i) := by
   show (match boundB (some (.int .i64 (i : Int))) es.length es.length with
    | none => none
    | some h => match boundB none 0 h with
     | none => none
     | some l => some (l, h)) = _
   rw [boundB_nat hi]; rfl
  by_cases h1 : i = es.length
  ·subst h1
   exact ⟨.list lt n es tk, by simp [sliceE, hT, hn, hb], .inr (.inr ⟨lt, es, tk, rfl⟩), by simp [elems]⟩
  ·have h2 : 0 < es.length := by omega
   exact ⟨.list lt n ((es.take i).drop 0) .no, by simp [sliceE, hT, hn, hb, h1, h2], .inr (.inr ⟨_, _, _, rfl⟩), by simp [elems]⟩
theorem slice_drop (hT : P.underlying T = some (.slice e)) (hn : szOf P e = some n) (hl : isLn n nv) (i : Nat) (hi : i ≤ (elems nv).length) :
 ∃ mv, sliceE P T nv (some (.int .i64 i)) none none = some mv ∧ isLn n mv ∧ elems mv = (elems nv).drop i := by
 rcases hl with rfl | rfl | ⟨lt, es, tk, rfl⟩
 ·have h0 : i = 0 := by simpa [elems] using hi
  subst h0
  exact ⟨.nils, by simp [sliceE, hT, hn, sliceB, boundB], .inl rfl, rfl⟩
 ·have h0 : i = 0 := by simpa [elems] using hi
  subst h0
  exact ⟨.mt, by simp [sliceE, hT, hn, sliceB, boundB], .inr (.inl rfl), rfl⟩
 ·have hi : i ≤ es.length := hi
  have hb : sliceB (some (.int .i64 (i : Int))) none es.length es.length = some (i, es.length) := by
   show (match boundB (some (.int .i64 (i : Int))) 0 es.length with
    | none => none
    | some l => some (l, es.length)) = _
   rw [boundB_nat hi]
  by_cases h1 : i = 0
  ·subst h1
   exact ⟨.list lt n es tk, by simp only [sliceE, hT, hn, hb]; simp, .inr (.inr ⟨lt, es, tk, rfl⟩), by simp [elems]⟩
  ·by_cases h2 : i < es.length
   ·exact ⟨.list lt n ((es.take es.length).drop i) tk, by simp only [sliceE, hT, hn, hb]; simp [h1, h2], .inr (.inr ⟨_, _, _, rfl⟩), by simp [elems]⟩
   ·exact ⟨.list lt n [] tk.tail, by simp only [sliceE, hT, hn, hb]; simp [h1, h2], .inr (.inr ⟨_, _, _, rfl⟩), by simp only [elems]; rw [List.drop_eq_nil_of_le (by omega)]⟩
theorem All2.take {α : Type} {R : α → V → Prop} {l : List α} {vs : List V} (h : All2 R l vs) (i : Nat) : All2 R (l.take i) (vs.take i) :=
 ⟨by simp [h.1], fun j a v h1 h2 => by
  rw [List.getElem?_take] at h1 h2
  by_cases hj : j < i
  ·rw [if_pos hj] at h1 h2; exact h.2 j a v h1 h2
  ·rw [if_neg hj] at h1; cases h1⟩
theorem All2.drop {α : Type} {R : α → V → Prop} {l : List α} {vs : List V} (h : All2 R l vs) (i : Nat) : All2 R (l.drop i) (vs.drop i) :=
 ⟨by simp [h.1], fun j a v h1 h2 => by
  rw [List.getElem?_drop] at h1 h2
  exact h.2 _ a v h1 h2⟩
theorem strs_take {l : List (List UInt8)} (hT : P.underlying T = some (.slice e)) (hn : szOf P e = some 1) (h : StrsV l nv) (i : Nat) (hi : i ≤ (elems nv).length) :
 ∃ mv, sliceE P T nv none (some (.int .i64 i)) none = some mv ∧ StrsV (l.take i) mv := by
 obtain ⟨mv, h1, h2, h3⟩ := slice_take hT hn h.1 i hi
 exact ⟨mv, h1, h2, by rw [h3]; simp; have := h.2.1; omega, by rw [h3]; exact h.2.2.take i⟩
theorem strs_drop {l : List (List UInt8)} (hT : P.underlying T = some (.slice e)) (hn : szOf P e = some 1) (h : StrsV l nv) (i : Nat) (hi : i ≤ (elems nv).length) :
 ∃ mv, sliceE P T nv (some (.int .i64 i)) none none = some mv ∧ StrsV (l.drop i) mv := by
 obtain ⟨mv, h1, h2, h3⟩ := slice_drop hT hn h.1 i hi
 exact ⟨mv, h1, h2, by rw [h3]; simp; have := h.2.1; omega, by rw [h3]; exact h.2.2.drop i⟩
end
theorem lay1 {P : Program} {T : TypeId} (z : List V) [SzN P T 1] (U : St) {v : V} (ho : v.one = true) (hz : z.length = 1 := by rfl) :
 ∃ W : St, storeE P T (.ptr U.next 0) v (U.new (.box T z)) = some W ∧ Bx W U.next T [v] ∧ Same U W := by
 have hb : (U.new (.box T z)).h.find U.next = some (.box T z) := find_new U _
 obtain ⟨z0, rfl⟩ := List.length_eq_one_iff.1 hz
 have hsp : splice [z0] 0 [v] = some [v] := rfl
 exact ⟨_, st_one hb ho hsp, ⟨by simp [St.new], by simp [Tr.find_put]⟩, (Same.new _ _).put (Nat.le_refl _) _⟩
theorem st_box1 {P : Program} {T t : TypeId} [SzN P T 1] {S : St} {id : Nat} {u v : V} (hb : S.h.find id = some (.box t [u])) (ho : v.one = true) :
 storeE P T (.ptr id 0) v S = some { S with h := S.h.put id (.box t [v]) } := st_one hb ho rfl
def errsE : List Ex → Int
 | [] => 0
 | x :: l => thenE (nodesE x) (errsE l)
theorem nodesLE_eq : ∀ l, nodesLE l = errsE l
 | [] => rfl
 | e :: l => by simp only [nodesLE, errsE, nodesLE_eq l]
theorem nodesAE_eq : ∀ l, nodesAE l = errsE (l.map Ar.body)
 | [] => rfl
 | .mk o nm b :: l => by simp only [nodesAE, errsE, List.map_cons, Ar.body, nodesAE_eq l]
theorem thenE_assoc (a b c : Int) : thenE (thenE a b) c = thenE a (thenE b c) := by
 unfold thenE
 by_cases h : a = 0
 ·simp [h]
 ·simp [h]
theorem thenE_zero (a : Int) : thenE 0 a = a := rfl
theorem errsE_append (l m : List Ex) : errsE (l ++ m) = thenE (errsE l) (errsE m) := by
 induction l with
 | nil => rfl
 | cons x l ih => simp only [List.cons_append, errsE, ih, thenE_assoc]
theorem nodesE_eq (e : Ex) : nodesE e = thenE (nodeE e) (errsE e.parts) := by
 cases e with
 | mk k n s t nm l a =>
  simp only [nodesE, nodesLE_eq, nodesAE_eq, ← errsE_append]
  rfl
def nodeStep (x : Ex) (_ : Int) : Bool × Int := (decide (nodesE x = 0), nodesE x)
theorem run_nodes : ∀ l, (runS nodeStep l 0).2 = errsE l
 | [] => rfl
 | x :: l => by
  rw [runS_cons]
  simp only [nodeStep, errsE, thenE]
  by_cases h : nodesE x = 0
  ·simp only [h, decide_true, if_true]; exact run_nodes l
  ·simp [h]
mutual
def takeX : Ex → Nat → Int × Int → Bool × (Int × Int)
 | .mk _ _ _ _ _ l a, d, st =>
  let left := IntKind.wrap .i64 (st.1 - 1)
  let deep := if (d : Int) > st.2 then (d : Int) else st.2
  if left < 0 ∨ d > 200 then (false, (left, deep)) else
  match takeXs l (d + 1) (left, deep) with
  | (true, st') => takeAs a (d + 1) st'
  | r => r
def takeXs : List Ex → Nat → Int × Int → Bool × (Int × Int)
 | [], _, st => (true, st)
 | e :: l, d, st => match takeX e d st with
  | (true, st') => takeXs l d st'
  | r => r
def takeAs : List Ar → Nat → Int × Int → Bool × (Int × Int)
 | [], _, st => (true, st)
 | .mk _ _ b :: l, d, st => match takeX b d st with
  | (true, st') => takeAs l d st'
  | r => r
end
def takeStep (d : Nat) (x : Ex) (st : Int × Int) : Bool × (Int × Int) := takeX x d st
theorem takeXs_eq (d : Nat) : ∀ l st, takeXs l d st = runS (takeStep d) l st
 | [], st => rfl
 | e :: l, st => by
  simp only [takeXs, runS, takeStep]
  rcases takeX e d st with ⟨b, st'⟩
  cases b
  ·rfl
  ·exact takeXs_eq d l st'
theorem takeAs_eq (d : Nat) : ∀ l st, takeAs l d st = runS (takeStep d) (l.map Ar.body) st
 | [], st => rfl
 | .mk o nm b :: l, st => by
  simp only [takeAs, List.map_cons, Ar.body, runS, takeStep]
  rcases takeX b d st with ⟨q, st'⟩
  cases q
  ·rfl
  ·exact takeAs_eq d l st'
theorem runS_append {α σ : Type} (step : α → σ → Bool × σ) (l m : List α) (s : σ) : runS step (l ++ m) s = match runS step l s with
 | (true, s') => runS step m s'
 | r => r := by
 induction l generalizing s with
 | nil => rfl
 | cons x l ih =>
  simp only [List.cons_append, runS]
  rcases step x s with ⟨b, s'⟩
  cases b
  ·rfl
  ·exact ih s'
theorem takeX_eq (e : Ex) (d : Nat) (st : Int × Int) : takeX e d st =
 if IntKind.wrap .i64 (st.1 - 1) < 0 ∨ d > 200 then (false, (IntKind.wrap .i64 (st.1 - 1), if (d : Int) > st.2 then (d : Int) else st.2))
 else runS (takeStep (d + 1)) e.parts (IntKind.wrap .i64 (st.1 - 1), if (d : Int) > st.2 then (d : Int) else st.2) := by
 cases e with
 | mk k n s t nm l a =>
  simp only [takeX]
  split
  ·rfl
  ·show _ = runS (takeStep (d + 1)) (l ++ a.map Ar.body) _
   rw [runS_append, takeXs_eq]
   rcases runS (takeStep (d + 1)) l (IntKind.wrap .i64 (st.1 - 1), if (d : Int) > st.2 then (d : Int) else st.2) with ⟨b, st'⟩
   cases b
   ·rfl
   ·exact takeAs_eq _ _ _
theorem Ex.parts_nodes {e x : Ex} (h : x ∈ e.parts) : x.nodes < e.nodes := by
 unfold Ex.parts at h
 rcases List.mem_append.1 h with h | h
 ·exact Ex.part_l h
 ·obtain ⟨a, h1, rfl⟩ := List.mem_map.1 h
  exact Ex.part_a h1
theorem op_ixaT {P : Program} {ev : Operand → Option V} {S : St} {x y : Operand} {t e : TypeId} {m sz off : Nat} {lt : Option TypeId} {cs : List V} {k : IntKind} {n : Int} (ht : P.underlying t = some (.array m e)) (hs : szOf P e = some sz)
 (h : ev x = some (.cptr lt cs off)) (h2 : ev y = some (.int k n)) (h0 : 0 ≤ n) (h1 : n < m) : opE P (.indexAddr t x y) ev S = some (.cptr lt cs (off + n.toNat * sz), S) := by
 simp [opE, h, h2, indexAddrE, ht, hs, h0, h1]
theorem ld_cut {P : Program} {S : St} {T : TypeId} {n off : Nat} {lt : Option TypeId} {cs ds : List V} [hl : LdAgg P T n] (h : cut cs off n = some ds) : loadE P T (.cptr lt cs off) S = some (.agg ds) := by
 rw [hl.h]; simp [loadA, rd, h]
def armB (k11 i0 n1 n2 n4 opr c1 c2 tw dn : Bool) (d : Int) : Int :=
 if k11 then (if !n4 then 7 else if !c2 then 4 else if dn then d else if tw then 5 else 0)
 else if i0 then (if !(n1 && opr) then 7 else if dn then d else if tw then 5 else 0)
 else if !n2 then 7 else if !c1 then 4 else if dn then d else if tw then 5 else 0
theorem armE_eq (kind : Int) (seen : List (List UInt8)) (a : Ar) : armE kind seen a =
 armB (decide (kind = 11)) seen.isEmpty (decide ((a.names.length : Int) = 1)) (decide ((a.names.length : Int) = 2)) (decide ((a.names.length : Int) ≤ 4)) (decide (a.op = [114, 101, 116, 117, 114, 110])) (clsB a.op 1) (clsB a.op 2) (seen.contains a.op)
  (!decide (distE 1 [] a.names = 0)) (distE 1 [] a.names) := by
 unfold armE armB thenE
 generalize distE 1 [] a.names = d
 generalize seen.contains a.op = tw
 generalize decide (a.op = [114, 101, 116, 117, 114, 110]) = o
 by_cases hd : d = 0
 ·by_cases hk : kind = 11
  ·simp [hk, hd]
  ·cases hs : seen.isEmpty <;> simp [hk, hd]
 ·by_cases hk : kind = 11
  ·simp [hk, hd]
  ·cases hs : seen.isEmpty <;> simp [hk, hd]
def shC (x : Shp) : List V := [.int .i64 (x.s : Nat), .int .i64 (x.t : Nat), .int .i64 (x.names : Nat), .int .i64 (x.more : Nat), .int .i64 (x.parts : Nat), .int .i64 (x.plus : Nat), .bool x.arms, .int .i64 x.low, .int .i64 x.high]
def Shp.small (x : Shp) : Bool := Nat.blt x.s 4 && Nat.blt x.t 4 && Nat.blt x.names 20 && Nat.blt x.more 20 && Nat.blt x.parts 20 && Nat.blt x.plus 20
def nodeB (nOk cs ct nm l xa a0 a9 z1 z2 z3 k11 : Bool) (d1 d2 d3 : Int) (ae : Bool) : Int :=
 if !nOk then 1 else if !cs || !ct then 4 else if !nm || !l then 7 else if (!xa && a0) || a9 then 7
 else if z1 then d1 else if z2 then d2 else if z3 then d3 else if !k11 && xa && ae then 7 else 0
theorem nodeE_eq (e : Ex) (x : Shp) (h1 : amongB e.kind 0 19 = true) (h2 : shps[e.kind.toNat]? = some x) : nodeE e =
 nodeB (amongB e.n x.low x.high) (clsB e.s x.s) (clsB e.t x.t) (amongB (e.names.length : Nat) (x.names : Nat) ((x.names + x.more : Nat) : Int)) (amongB (e.l.length : Nat) (x.parts : Nat) ((x.parts + x.plus : Nat) : Int)) x.arms
  (decide ((e.arms.length : Int) > 0)) (decide ((e.arms.length : Int) > 9))
  (!decide (distE 1 [] (e.names.take (if decide (e.kind = 17) then 1 else e.names.length)) = 0)) (!decide (distE 2 [] (e.names.drop (if decide (e.kind = 17) then 1 else e.names.length)) = 0)) (!decide (armsE e.kind [] e.arms = 0)) (decide (e.kind = 11))
  (distE 1 [] (e.names.take (if decide (e.kind = 17) then 1 else e.names.length))) (distE 2 [] (e.names.drop (if decide (e.kind = 17) then 1 else e.names.length))) (armsE e.kind [] e.arms) (decide ((e.arms.length : Int) = 0)) := by
 unfold nodeE nodeB thenE
 simp only [h1, h2, Bool.not_true, Bool.false_eq_true, if_false]
 generalize distE 1 [] _ = d1
 generalize distE 2 [] _ = d2
 generalize armsE e.kind [] e.arms = d3
 by_cases e1 : d1 = 0 <;> by_cases e2 : d2 = 0 <;> by_cases e3 : d3 = 0 <;> by_cases e4 : e.kind = 11 <;> simp [e1, e2, e3, e4]
theorem Opl.withS [Glob] {P : Program} {ops : Array Oper} {os : List Oper} {F : Sh} {E : Env} {S U : St} {k : K} (h : Same U S) (hk : Same U S → Opl P ops os F E S k) : Opl P ops os F E S k := hk h
theorem StrsV.len {l : List (List UInt8)} {v : V} (h : StrsV l v) : ∀ s ∈ l, s.length ≤ huge := by
 intro s hs
 obtain ⟨i, hi⟩ := List.getElem?_of_mem hs
 obtain ⟨hlt, he⟩ := List.getElem?_eq_some_iff.1 hi
 obtain ⟨u, hu, hR⟩ := h.2.2.get hlt
 rw [← he]; exact hR.2
theorem Go.condN [Glob] {P : Program} {F : Sh} {E : Env} {S : St} {x : Operand} {q : Bool} {a b : Code} {k : K} (hx : Env.opd E x = some (.bool (!q))) (h1 : q = false → Go P F E S a k) (h2 : q = true → Go P F E S b k) : Go P F E S (.cond x a b) k :=
 .cond hx (fun h => h1 (by simpa using h)) (fun h => h2 (by simpa using h))
theorem Opl.gonTN [Glob] {P : Program} {ops : Array Oper} {os : List Oper} {F : Sh} {E : Env} {S : St} {k : K} {d j : Nat} {op : Op} {ty : TypeId} {pos : String} {after : Array Edge} {b : Bool} (hg : gd ops E j true = some ((!b) == true)) (hd : Nat.blt d F.n = true)
 (h1 : b = false → Opl P ops (⟨some d, op, ty, pos, after, none⟩ :: os) F E S k) (h2 : b = true → Opl P ops os F ((d, .tup []) :: E) S k) : Opl P ops (⟨some d, op, ty, pos, after, some (j, true)⟩ :: os) F E S k := .gonB hg hd (fun h => h1 (by simpa using h)) (fun h => h2 (by simpa using h))
theorem Opl.gonFN [Glob] {P : Program} {ops : Array Oper} {os : List Oper} {F : Sh} {E : Env} {S : St} {k : K} {d j : Nat} {op : Op} {ty : TypeId} {pos : String} {after : Array Edge} {b : Bool} (hg : gd ops E j false = some ((!b) == false)) (hd : Nat.blt d F.n = true)
 (h1 : b = true → Opl P ops (⟨some d, op, ty, pos, after, none⟩ :: os) F E S k) (h2 : b = false → Opl P ops os F ((d, .tup []) :: E) S k) : Opl P ops (⟨some d, op, ty, pos, after, some (j, false)⟩ :: os) F E S k := .gonB hg hd (fun h => h1 (by simpa using h)) (fun h => h2 (by simpa using h))
theorem Go.joinC [Glob] (n : Nat) {P : Program} {F : Sh} {E0 : Env} {S0 : St} {a b c : Code} {k : K} (Inv : Env → St → Prop) (hrest : Hold (∀ E S, Inv E S → Go P F E S c k)) (h : Hold ((∀ E S, Inv E S → Go P F E S c k) → Go P F E0 S0 (.cond (.tmp n) a b) (Ks P c k))) :
 Go P F E0 S0 (.cond (.tmp n) a b) (Ks P c k) := h.h hrest.h
theorem nodeB_on {xa a0 z1 z2 z3 k11 ae : Bool} {d1 d2 d3 : Int} (h : (xa || !a0) = true) : nodeB true true true true true xa a0 false z1 z2 z3 k11 d1 d2 d3 ae =
 if z1 then d1 else if z2 then d2 else if z3 then d3 else if !k11 && xa && ae then 7 else 0 := by
 unfold nodeB
 cases xa <;> cases a0 <;> simp_all
theorem nodeB_low {e : Ex} (h : amongB e.kind 0 19 = false) : nodeE e = 1 := by
 unfold nodeE
 simp [h]
theorem amongB_nat {e : Int} (h : amongB e 0 19 = true) : 0 ≤ e ∧ e < 20 := by
 unfold amongB at h
 simp at h
 omega
theorem add_nat {a b : Nat} (h : a + b < 9223372036854775808) : intOp .add .i64 (a : Int) (b : Int) = some (.int .i64 ((a + b : Nat) : Int)) := by
 have : IntKind.wrap .i64 ((a : Int) + (b : Int)) = ((a + b : Nat) : Int) := by rw [wrap_i64_id (by constructor <;> omega)]; simp
 simp only [intOp, this]
theorem armsE_step {kind : Int} {l : List Ar} {a : Ar} {i : Nat} (h : l[i]? = some a) (hlt : i < l.length) : armsE kind ((l.take i).map Ar.op) (l.drop i) = thenE (armE kind ((l.take i).map Ar.op) l[i]) (armsE kind ((l.take (i + 1)).map Ar.op) (l.drop (i + 1))) := by
 have e : l[i] = a := (List.getElem?_eq_some_iff.1 h).2
 rw [drop_at h, e, List.take_succ_eq_append_getElem hlt, e]
 simp [armsE]
def tailC : Nat → Code → Code
 | n + 1, .seq _ b => tailC n b
 | _, c => c
def bodyT (fn : Func) (n : Nat) : Code := match fn.body with
 | some c => tailC n c
 | none => .skip
theorem Drw.eff [Glob] {P : Program} {ops : Array Oper} {ms : List Nat} {S0 S S' : St} {I : St → Prop} {l : List Nat} {F : Sh} {E : Env} {k : K} {i : Nat} {op : Op} {ty : TypeId} {pos : String} {after : Array Edge} {v : V}
 (ho : ops[i]? = some ⟨none, op, ty, pos, after, none⟩) (hc : clsE op = 3) (h : opE P op (Env.opd E) S = some (v, S')) (hI : I S') (hk : Drw P ops ms S0 I l F E S' k) : Drw P ops ms S0 I (i :: l) F E S k := .mk fun fr T hf hT => by
 have hact : actE (lim P) P op (viewE fr (looks ops ⟨none, op, ty, pos, after, none⟩)) fr.pan S = some (.val v S') :=
  (actE_congr (fun x hx => viewE_opd (o := ⟨none, op, ty, pos, after, none⟩) hx) _ _).trans (opE_act (opE_mono (fun x v => hf.opd) h) (lim P) fr.pan)
 have hb : Nat.beq (clsE op) 3 = true := by rw [hc]; rfl
 obtain ⟨x, fr2, S2, h5, h6⟩ := hk.h fr (.act i ⟨none, op, ty, pos, after, none⟩ v S.next S' :: T) hf ⟨hI, hT⟩
 refine ⟨x, fr2, S2, ?_, h6⟩
 simp only [drawE, ho, hb, wantE, isT, Bool.and_self, if_true, hact, Fr.put]
 exact h5
theorem Exs.nodes_append : ∀ l m : List Ex, Exs.nodes (l ++ m) = Exs.nodes l + Exs.nodes m
 | [], m => by simp [Exs.nodes]
 | x :: l, m => by simp only [List.cons_append, Exs.nodes, Exs.nodes_append l m]; omega
theorem Ars.nodes_body : ∀ l : List Ar, Exs.nodes (l.map Ar.body) = Ars.nodes l
 | [] => rfl
 | .mk o nm b :: l => by simp only [List.map_cons, Ar.body, Exs.nodes, Ars.nodes, Ars.nodes_body l]
theorem Exs.depth_append : ∀ l m : List Ex, Exs.depth (l ++ m) = max (Exs.depth l) (Exs.depth m)
 | [], m => by simp [Exs.depth]
 | x :: l, m => by simp only [List.cons_append, Exs.depth, Exs.depth_append l m]; omega
theorem Ars.depth_body : ∀ l : List Ar, Exs.depth (l.map Ar.body) = Ars.depth l
 | [] => rfl
 | .mk o nm b :: l => by simp only [List.map_cons, Ar.body, Exs.depth, Ars.depth, Ars.depth_body l]
theorem Ex.nodes_parts (e : Ex) : e.nodes = 1 + Exs.nodes e.parts := by
 cases e with
 | mk k n s t nm l a =>
  show 1 + Exs.nodes l + Ars.nodes a = 1 + Exs.nodes (l ++ a.map Ar.body)
  rw [Exs.nodes_append, Ars.nodes_body]; omega
theorem Ex.depth_parts (e : Ex) : e.depth = 1 + Exs.depth e.parts := by
 cases e with
 | mk k n s t nm l a =>
  show 1 + max (Exs.depth l) (Ars.depth a) = 1 + Exs.depth (l ++ a.map Ar.body)
  rw [Exs.depth_append, Ars.depth_body]
def Fits (n m : Nat) (d : Nat) (l p : Int) (r : Bool × (Int × Int)) : Prop :=
 r.1 = (decide ((n : Int) ≤ l) && decide (d + m ≤ 201)) ∧ (r.1 = true → r.2.1 = l - n ∧ r.2.2 = if ((d + m : Nat) : Int) - 1 > p then ((d + m : Nat) : Int) - 1 else p)
theorem run_fits (d : Nat) (hd : d ≤ 201) : ∀ l : List Ex, (∀ x ∈ l, ∀ a p : Int, 0 ≤ a → a < 4611686018427387904 → (d : Int) - 1 ≤ p → Fits x.nodes x.depth d a p (takeX x d (a, p))) →
 ∀ a p : Int, 0 ≤ a → a < 4611686018427387904 → (d : Int) - 1 ≤ p → Fits (Exs.nodes l) (Exs.depth l) d a p (runS (takeStep d) l (a, p))
 | [], _, a, p, ha, _, hp => by
  unfold Fits
  simp only [runS, Exs.nodes, Exs.depth]
  refine ⟨?_, fun _ => ⟨by simp, ?_⟩⟩
  ·have e1 : ((0 : Nat) : Int) ≤ a := ha
   have e2 : d + 0 ≤ 201 := hd
   simp only [e1, e2, decide_true, Bool.and_self]
  ·have e3 : ¬ (((d + 0 : Nat) : Int) - 1 > p) := by omega
   simp only [e3, if_false]
 | x :: l, h, a, p, ha, hl, hp => by
  obtain ⟨h1, h2⟩ := h x (.head _) a p ha hl hp
  have hn : Exs.nodes (x :: l) = x.nodes + Exs.nodes l := by simp only [Exs.nodes]
  have hm : Exs.depth (x :: l) = max x.depth (Exs.depth l) := by simp only [Exs.depth]
  rw [runS_cons, hn, hm]
  show Fits _ _ d a p (if (takeX x d (a, p)).1 then _ else _)
  cases hb : (takeX x d (a, p)).1 with
  | false =>
   simp only [Bool.false_eq_true, if_false]
   rw [hb] at h1
   refine ⟨?_, fun h => by cases h⟩
   show false = _
   have h1 := h1.symm
   simp only [Bool.and_eq_false_iff, decide_eq_false_iff_not] at h1
   symm
   simp only [Bool.and_eq_false_iff, decide_eq_false_iff_not]
   rcases h1 with h1 | h1
   ·left; omega
   ·right; omega
  | true =>
   simp only [if_true]
   obtain ⟨g1, g2⟩ := h2 hb
   rw [hb] at h1
   have h1 := h1.symm
   simp only [Bool.and_eq_true, decide_eq_true_eq] at h1
   obtain ⟨a', p'⟩ : Int × Int := (takeX x d (a, p)).2
   have e : (takeStep d x (a, p)).2 = ((takeX x d (a, p)).2.1, (takeX x d (a, p)).2.2) := rfl
   rw [e, g1, g2]
   have ih := run_fits d hd l (fun y hy => h y (.tail _ hy)) (a - x.nodes) (if ((d + x.depth : Nat) : Int) - 1 > p then ((d + x.depth : Nat) : Int) - 1 else p) (by omega) (by omega) (by split <;> omega)
   obtain ⟨i1, i2⟩ := ih
   refine ⟨?_, fun hr => ?_⟩
   ·rw [i1, Bool.eq_iff_iff]
    simp only [Bool.and_eq_true, decide_eq_true_eq]
    omega
   ·obtain ⟨j1, j2⟩ := i2 hr
    refine ⟨?_, ?_⟩
    ·rw [j1]; omega
    ·rw [j2]
     split <;> split <;> (try split) <;> omega
theorem takeX_fits : ∀ (N : Nat) (e : Ex), e.nodes ≤ N → ∀ (d : Nat) (l p : Int), 0 ≤ l → l < 4611686018427387904 → Fits e.nodes e.depth d l p (takeX e d (l, p)) := by
 intro N
 induction N with
 | zero => intro e hN; cases e; simp [Ex.nodes] at hN
 | succ N ih =>
  intro e hN d l p hl0 hl
  have hw : IntKind.wrap .i64 (l - 1) = l - 1 := wrap_i64_id (by constructor <;> omega)
  have hn := e.nodes_parts
  have hm := e.depth_parts
  rw [takeX_eq, hw]
  by_cases hc : l - 1 < 0 ∨ d > 200
  ·rw [if_pos hc]
   refine ⟨?_, fun h => by cases h⟩
   show false = _
   symm
   simp only [Bool.and_eq_false_iff, decide_eq_false_iff_not]
   rcases hc with hc | hc
   ·left; omega
   ·right; omega
  ·rw [if_neg hc]
   have := run_fits (d + 1) (by omega) e.parts (fun x hx a p' ha hl' _ => ih x (by have := Ex.parts_nodes hx; omega) (d + 1) a p' ha hl') (l - 1) (if (d : Int) > p then (d : Int) else p) (by omega) (by omega) (by split <;> omega)
   obtain ⟨i1, i2⟩ := this
   refine ⟨?_, fun hr => ?_⟩
   ·rw [i1, Bool.eq_iff_iff]
    simp only [Bool.and_eq_true, decide_eq_true_eq]
    omega
   ·obtain ⟨j1, j2⟩ := i2 hr
    refine ⟨?_, ?_⟩
    ·rw [j1]; omega
    ·rw [j2]
     split <;> split <;> (try split) <;> omega
theorem resV_two {P : Program} {E : Env} {S : St} {a b : Nat} {T : TypeId} {p u v : V} (h1 : Env.get E a = some p) (h2 : Env.get E b = some v) (hl : loadE P T p S = some u) : resV P E S [.cell a T, .tmp b] = some [u, v] := by
 simp only [resV, h1, h2, hl]
end Go.Ev
namespace Go.Ev
open Go.RowKit
theorem op_bsG {P : Program} {ev : Operand → Option V} {S : St} {t : TypeId} {n : Nat} {ps : Array (Nat × Operand)} {l : List (Nat × V)} {r : V} (h : mapO (fun (p : Nat × Operand) => (ev p.2).map fun v => (p.1, v)) ps.toList = some l) (hb : buildSliceE P t n l = some r) : opE P (.buildSlice t n ps) ev S = some (r, S) := by
 simp only [opE]
 rw [h]
 simp [hb]
theorem kind_word (c : UInt8) : Nat.ble 2 (kindB c) = ((decide ((c.toNat : Int) ≥ 97) && decide ((c.toNat : Int) ≤ 122)) || (decide ((c.toNat : Int) ≥ 65) && decide ((c.toNat : Int) ≤ 90)) || (decide ((c.toNat : Int) ≥ 48) && decide ((c.toNat : Int) ≤ 57)) || decide ((c.toNat : Int) = 95)) := by
 rw [kindB_nat, Bool.eq_iff_iff]
 simp only [Nat.ble_eq, Bool.or_eq_true, Bool.and_eq_true, decide_eq_true_eq]
 (repeat' split) <;> omega
theorem kind_var (c : UInt8) : Nat.beq (kindB c) 2 = ((decide ((c.toNat : Int) ≥ 97) && decide ((c.toNat : Int) ≤ 122)) || (true && decide ((c.toNat : Int) = 95))) := by
 rw [kindB_nat, Bool.eq_iff_iff]
 simp only [Nat.beq_eq, Bool.or_eq_true, Bool.and_eq_true, decide_eq_true_eq, true_and]
 (repeat' split) <;> omega
theorem kind_upper (c : UInt8) : Nat.beq (kindB c) 3 = ((decide ((c.toNat : Int) ≥ 65) && decide ((c.toNat : Int) ≤ 90)) || (false && decide ((c.toNat : Int) = 95))) := by
 rw [kindB_nat, Bool.eq_iff_iff]
 simp only [Nat.beq_eq, Bool.or_eq_true, Bool.and_eq_true, decide_eq_true_eq, Bool.false_eq_true, false_and, or_false]
 (repeat' split) <;> omega
theorem strs_map {l : List (List UInt8)} (h : ∀ s ∈ l, s.length ≤ huge) : All2 StrV l (l.map V.str) := by
 induction l with
 | nil => exact All2.nil _
 | cons s l ih => exact All2.cons ⟨rfl, h s (.head _)⟩ (ih fun s hs => h s (.tail _ hs))
end Go.Ev
