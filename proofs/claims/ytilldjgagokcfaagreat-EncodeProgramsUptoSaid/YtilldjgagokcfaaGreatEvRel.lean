/-
  Ev, part 2: what an abstract state says of a real one.
-/
import Derived.Test.YtilldjgagokcfaaGreatEvDefs
import Derived.Laws.Cells
import Derived.Laws.Rows
set_option linter.unusedVariables false
set_option linter.unusedSimpArgs false
namespace Go.Ev
open Go.RowKit

/-! ### Tries -/

section
variable {α : Type}

theorem Tr.get_leaf (p : List Bool) : (Tr.leaf : Tr α).get p = none := by cases p <;> rfl

theorem Tr.get_set (v : Option α) : ∀ (p q : List Bool) (t : Tr α), (Tr.set v p t).get q = if q = p then v else t.get q := by
  intro p
  induction p with
  | nil =>
    intro q t
    cases t <;> cases q <;> simp [Tr.set, Tr.get, Tr.get_leaf]
    all_goals (rename_i b _; cases b <;> simp [Tr.get, Tr.get_leaf])
  | cons b p ih =>
    intro q t
    cases t with
    | leaf =>
      cases b <;> cases q with
      | nil => simp [Tr.set, Tr.get]
      | cons c q => cases c <;> simp [Tr.set, Tr.get, Tr.get_leaf, ih]
    | node x l r =>
      cases b <;> cases q with
      | nil => simp [Tr.set, Tr.get]
      | cons c q => cases c <;> simp [Tr.set, Tr.get, ih]

def numOf : List Bool → Nat
  | [] => 0
  | b :: l => (if b then 1 else 0) + 2 * numOf l

theorem num_bitsAux : ∀ k n, n ≤ k → numOf (bitsAux k n) = n := by
  intro k
  induction k with
  | zero => intro n h; simp only [bitsAux, numOf]; omega
  | succ k ih =>
    intro n h
    cases n with
    | zero => simp [bitsAux, numOf]
    | succ n =>
      simp only [bitsAux, numOf]
      rw [ih _ (by omega)]
      have : Nat.beq ((n + 1) % 2) 1 = decide ((n + 1) % 2 = 1) := by
        rw [Bool.eq_iff_iff]; simp
      rw [this]
      by_cases hb : (n + 1) % 2 = 1 <;> simp [hb] <;> omega

theorem bitsOf_inj {a b : Nat} (h : bitsOf a = bitsOf b) : a = b := by
  have ha := num_bitsAux a a (Nat.le_refl _)
  have hb := num_bitsAux b b (Nat.le_refl _)
  unfold bitsOf at h
  rw [h] at ha
  omega

theorem Tr.find_put (t : Tr α) (i j : Nat) (v : α) : (t.put i v).find j = if j = i then some v else t.find j := by
  unfold Tr.put Tr.find
  rw [Tr.get_set]
  by_cases h : j = i
  · subst h; simp
  · rw [if_neg h, if_neg (fun e => h (bitsOf_inj e))]

theorem Tr.find_del (t : Tr α) (i j : Nat) : (t.del i).find j = if j = i then none else t.find j := by
  unfold Tr.del Tr.find
  rw [Tr.get_set]
  by_cases h : j = i
  · subst h; simp
  · rw [if_neg h, if_neg (fun e => h (bitsOf_inj e))]

theorem Tr.find_leaf (j : Nat) : (Tr.leaf : Tr α).find j = none := Tr.get_leaf _
end

/-! ### The relation of values -/

/-- Where a number lies; which cells never turn, and what they hold; the type of a block's elements. -/
structure Sg where
  ρ : Nat → Option (Nat × Nat × Nat)
  I : Nat → Nat → Option Value
  ty : Nat → Option TypeId

structure Sg.le (σ σ' : Sg) : Prop where
  ρ : ∀ id x, σ.ρ id = some x → σ'.ρ id = some x
  I : ∀ b o v, σ.I b o = some v → σ'.I b o = some v
  ty : ∀ b t, σ.ty b = some t → σ'.ty b = some t

theorem Sg.le.refl (σ : Sg) : σ.le σ := ⟨fun _ _ h => h, fun _ _ _ h => h, fun _ _ h => h⟩
theorem Sg.le.trans {a b c : Sg} (h : a.le b) (k : b.le c) : a.le c :=
  ⟨fun _ _ x => k.ρ _ _ (h.ρ _ _ x), fun _ _ _ x => k.I _ _ _ (h.I _ _ _ x), fun _ _ x => k.ty _ _ (h.ty _ _ x)⟩

def tkOk (σ : Sg) (sz len : Nat) (tk : Tk) (b o cap : Nat) : Prop :=
  match tk with
  | .no => True
  | .exact => cap = len
  | .own id => σ.ρ id = some (b, o + len * sz, o + cap * sz)

def tyOk (σ : Sg) (t : Option TypeId) (b : Nat) : Prop := ∀ t', t = some t' → σ.ty b = some t'

mutual
inductive VR (σ : Sg) : V → Value → Prop
  | bool (b : Bool) : VR σ (.bool b) (.bool b)
  | int (k : IntKind) (n : Int) : VR σ (.int k n) (.int k n)
  | str {l : List UInt8} (s : ByteArray) (h : s.data.toList = l) : VR σ (.str l) (.string s)
  | nilp : VR σ .nilp (.pointer none)
  | ptr {id off b p e : Nat} (h : σ.ρ id = some (b, p, e)) : VR σ (.ptr id off) (.pointer (some ⟨b, off, none⟩))
  | cptr {t : Option TypeId} {cs : List V} {off b o : Nat} (ht : tyOk σ t b) (h : CR σ cs b o) : VR σ (.cptr t cs off) (.pointer (some ⟨b, o + off, none⟩))
  | nils : VR σ .nils (.slice none 0 0)
  | list {t : Option TypeId} {sz : Nat} {es : List V} {tk : Tk} {b o cap : Nat} (ht : tyOk σ t b) (h : LR σ sz es b o) (hc : es.length ≤ cap) (hk : tkOk σ sz es.length tk b o cap) :
      VR σ (.list t sz es tk) (.slice (some ⟨b, o, none⟩) es.length cap)
  | arr {id off len cap b p e : Nat} (h : σ.ρ id = some (b, p, e)) : VR σ (.arr id off len cap) (.slice (some ⟨b, off, none⟩) len cap)
  | func {f : FuncId} {first caps : List V} {vs ws : List Value} (h : VRs σ first vs) (k : VRs σ caps ws) : VR σ (.func f first caps) (.func (.func f) vs.toArray ws.toArray)
  | nilf : VR σ .nilf .nilFunc
  | iface {v : V} {y : Value} (t : TypeId) (h : VR σ v y) : VR σ (.iface t v) (.iface t y)
  | nili : VR σ .nili .nilIface
  | agg {cs : List V} {vs : List Value} (h : VRs σ cs vs) : VR σ (.agg cs) (.agg vs.toArray)
  | tup {cs : List V} {vs : List Value} (h : VRs σ cs vs) : VR σ (.tup cs) (.tuple vs.toArray)
  | nilm : VR σ .nilm (.map none)
  | mt (a : Addr) : VR σ .mt (.slice (some a) 0 0)
inductive VRs (σ : Sg) : List V → List Value → Prop
  | nil : VRs σ [] []
  | cons {x : V} {y : Value} {xs : List V} {ys : List Value} (h : VR σ x y) (k : VRs σ xs ys) : VRs σ (x :: xs) (y :: ys)
inductive CR (σ : Sg) : List V → Nat → Nat → Prop
  | nil (b o : Nat) : CR σ [] b o
  | cons {x : V} {y : Value} {xs : List V} {b o : Nat} (hi : σ.I b o = some y) (h : VR σ x y) (k : CR σ xs b (o + 1)) : CR σ (x :: xs) b o
inductive LR (σ : Sg) : Nat → List V → Nat → Nat → Prop
  | nil (sz b o : Nat) : LR σ sz [] b o
  | cons {sz : Nat} {x : V} {xs : List V} {b o : Nat} (hn : x.cells.length = sz) (h : CR σ x.cells b o) (k : LR σ sz xs b (o + sz)) : LR σ sz (x :: xs) b o
end

theorem tkOk.mono {σ σ' : Sg} (h : σ.le σ') {sz len : Nat} {tk : Tk} {b o cap : Nat} (k : tkOk σ sz len tk b o cap) : tkOk σ' sz len tk b o cap := by
  cases tk with
  | no => trivial
  | exact => exact k
  | own id => exact h.ρ _ _ k

theorem tyOk.mono {σ σ' : Sg} (h : σ.le σ') {t : Option TypeId} {b : Nat} (k : tyOk σ t b) : tyOk σ' t b := fun t' e => h.ty _ _ (k t' e)

mutual
theorem VR.mono {σ σ' : Sg} (hs : σ.le σ') : ∀ {x : V} {y : Value}, VR σ x y → VR σ' x y
  | _, _, .bool b => .bool b
  | _, _, .int k n => .int k n
  | _, _, .str s h => .str s h
  | _, _, .nilp => .nilp
  | _, _, .ptr h => .ptr (hs.ρ _ _ h)
  | _, _, .cptr ht h => .cptr (ht.mono hs) (h.mono hs)
  | _, _, .nils => .nils
  | _, _, .list ht h hc hk => .list (ht.mono hs) (h.mono hs) hc (hk.mono hs)
  | _, _, .arr h => .arr (hs.ρ _ _ h)
  | _, _, .func h k => .func (h.mono hs) (k.mono hs)
  | _, _, .nilf => .nilf
  | _, _, .iface t h => .iface t (h.mono hs)
  | _, _, .nili => .nili
  | _, _, .agg h => .agg (h.mono hs)
  | _, _, .tup h => .tup (h.mono hs)
  | _, _, .nilm => .nilm
  | _, _, .mt a => .mt a
theorem VRs.mono {σ σ' : Sg} (hs : σ.le σ') : ∀ {x : List V} {y : List Value}, VRs σ x y → VRs σ' x y
  | _, _, .nil => .nil
  | _, _, .cons h k => .cons (h.mono hs) (k.mono hs)
theorem CR.mono {σ σ' : Sg} (hs : σ.le σ') : ∀ {x : List V} {b o : Nat}, CR σ x b o → CR σ' x b o
  | _, _, _, .nil b o => .nil b o
  | _, _, _, .cons hi h k => .cons (hs.I _ _ _ hi) (h.mono hs) (k.mono hs)
theorem LR.mono {σ σ' : Sg} (hs : σ.le σ') : ∀ {sz : Nat} {x : List V} {b o : Nat}, LR σ sz x b o → LR σ' sz x b o
  | _, _, _, _, .nil sz b o => .nil sz b o
  | _, _, _, _, .cons hn h k => .cons hn (h.mono hs) (k.mono hs)
end

/-! ### Lists of values -/

section
variable {σ : Sg}

theorem VRs.length {xs : List V} {ys : List Value} (h : VRs σ xs ys) : xs.length = ys.length := by
  induction xs generalizing ys with
  | nil => cases h; rfl
  | cons x xs ih => cases h with | cons h k => simp [ih k]

theorem VRs.get {xs : List V} {ys : List Value} (h : VRs σ xs ys) {i : Nat} {x : V} (hx : xs[i]? = some x) : ∃ y, ys[i]? = some y ∧ VR σ x y := by
  induction xs generalizing ys i with
  | nil => simp at hx
  | cons a xs ih =>
    cases h with
    | cons h k =>
      cases i with
      | zero => simp at hx; subst hx; exact ⟨_, rfl, h⟩
      | succ i => simp at hx; obtain ⟨y, hy, hv⟩ := ih k hx; exact ⟨y, by simpa using hy, hv⟩

theorem VRs.append {xs xs' : List V} {ys ys' : List Value} (h : VRs σ xs ys) (k : VRs σ xs' ys') : VRs σ (xs ++ xs') (ys ++ ys') := by
  induction xs generalizing ys with
  | nil => cases h; exact k
  | cons x xs ih => cases h with | cons h h' => exact .cons h (ih h')

theorem VRs.take {xs : List V} {ys : List Value} (h : VRs σ xs ys) (n : Nat) : VRs σ (xs.take n) (ys.take n) := by
  induction xs generalizing ys n with
  | nil => cases h; simp; exact .nil
  | cons x xs ih =>
    cases h with
    | cons h h' =>
      cases n with
      | zero => exact .nil
      | succ n => exact .cons h (ih h' n)

theorem VRs.drop {xs : List V} {ys : List Value} (h : VRs σ xs ys) (n : Nat) : VRs σ (xs.drop n) (ys.drop n) := by
  induction xs generalizing ys n with
  | nil => cases h; simp; exact .nil
  | cons x xs ih =>
    cases h with
    | cons h h' =>
      cases n with
      | zero => exact .cons h h'
      | succ n => exact ih h' n

theorem VRs.one {x : V} {y : Value} (h : VR σ x y) : VRs σ [x] [y] := .cons h .nil

theorem VR.cells {x : V} {y : Value} (h : VR σ x y) : VRs σ x.cells y.cells.toList := by
  cases h <;> first
    | (rename_i h; simpa [V.cells, Value.cells] using h)
    | (simp only [V.cells, Value.cells]; exact VRs.one (by constructor <;> assumption))

theorem VR.one {x : V} {y : Value} (h : VR σ x y) (ho : x.one = true) : y.oneCell' = true := by
  cases h <;> simp_all [V.one, Value.oneCell']

theorem VRs.map_of {α : Type} {f : α → Option V} {g : α → Value} : ∀ {l : List α} {xs : List V}, mapO f l = some xs → (∀ a ∈ l, ∀ x, f a = some x → VR σ x (g a)) → VRs σ xs (l.map g)
  | [], xs, h, _ => by simp [mapO] at h; subst h; exact .nil
  | a :: l, xs, h, hg => by
    simp only [mapO] at h
    cases hfa : f a with
    | none => simp [hfa] at h
    | some x =>
      simp only [hfa] at h
      cases hm : mapO f l with
      | none => simp [hm] at h
      | some ys =>
        simp only [hm, Option.some.injEq] at h
        subst h
        exact .cons (hg a (by simp) x hfa) (VRs.map_of hm fun b hb => hg b (by simp [hb]))

/-! ### Cells that never turn -/

theorem CR.get {cs : List V} {b o : Nat} (h : CR σ cs b o) {i : Nat} {x : V} (hx : cs[i]? = some x) : ∃ y, σ.I b (o + i) = some y ∧ VR σ x y := by
  induction cs generalizing o i with
  | nil => simp at hx
  | cons a xs ih =>
    cases h with
    | cons hi h k =>
      cases i with
      | zero => simp at hx; subst hx; exact ⟨_, hi, h⟩
      | succ i =>
        simp at hx
        obtain ⟨y, hy, hv⟩ := ih k hx
        exact ⟨y, by rw [show o + (i + 1) = o + 1 + i by omega]; exact hy, hv⟩

theorem CR.drop {cs : List V} {b o : Nat} (h : CR σ cs b o) (n : Nat) : CR σ (cs.drop n) b (o + n) := by
  induction cs generalizing o n with
  | nil => simp; exact .nil _ _
  | cons a xs ih =>
    cases h with
    | cons hi h k =>
      cases n with
      | zero => exact .cons hi h k
      | succ n => rw [show o + (n + 1) = o + 1 + n by omega]; exact ih k n

theorem CR.take {cs : List V} {b o : Nat} (h : CR σ cs b o) (n : Nat) : CR σ (cs.take n) b o := by
  induction cs generalizing o n with
  | nil => simp; exact .nil _ _
  | cons a xs ih =>
    cases h with
    | cons hi h k =>
      cases n with
      | zero => exact .nil _ _
      | succ n => exact .cons hi h (ih k n)

theorem CR.append {cs ds : List V} {b o : Nat} (h : CR σ cs b o) (k : CR σ ds b (o + cs.length)) : CR σ (cs ++ ds) b o := by
  induction cs generalizing o with
  | nil => simpa using k
  | cons a xs ih =>
    cases h with
    | cons hi h h' => exact .cons hi h (ih h' (by rw [show o + 1 + xs.length = o + (a :: xs).length by simp; omega]; exact k))

/-- The values that the cells hold. -/
theorem CR.vals {cs : List V} {b o : Nat} (h : CR σ cs b o) : ∃ vs, VRs σ cs vs ∧ ∀ i v, vs[i]? = some v → σ.I b (o + i) = some v := by
  induction cs generalizing o with
  | nil => exact ⟨[], .nil, by simp⟩
  | cons a xs ih =>
    cases h with
    | cons hi h k =>
      rename_i y
      obtain ⟨vs, h1, h2⟩ := ih k
      refine ⟨y :: vs, .cons h h1, fun i v hv => ?_⟩
      cases i with
      | zero => simp at hv; subst hv; exact hi
      | succ i => simp at hv; rw [show o + (i + 1) = o + 1 + i by omega]; exact h2 i v hv

theorem CR.of_vals : ∀ {cs : List V} {vs : List Value} {b o : Nat}, VRs σ cs vs → (∀ i v, vs[i]? = some v → σ.I b (o + i) = some v) → CR σ cs b o
  | _, _, _, _, .nil, _ => .nil _ _
  | _, _, b, o, .cons h k, hI => .cons (hI 0 _ (by simp)) h (CR.of_vals k fun i v hv => by
      have := hI (i + 1) v (by simpa using hv)
      rwa [show o + (i + 1) = o + 1 + i by omega] at this)

theorem LR.get {sz : Nat} {es : List V} {b o : Nat} (h : LR σ sz es b o) {i : Nat} {x : V} (hx : es[i]? = some x) : x.cells.length = sz ∧ CR σ x.cells b (o + i * sz) := by
  induction es generalizing o i with
  | nil => simp at hx
  | cons a xs ih =>
    cases h with
    | cons hn h k =>
      cases i with
      | zero => simp at hx; subst hx; exact ⟨hn, by simpa using h⟩
      | succ i =>
        simp at hx
        have := ih k hx
        rw [show o + (i + 1) * sz = o + sz + i * sz by rw [Nat.add_mul]; omega]
        exact this

theorem LR.drop {sz : Nat} {es : List V} {b o : Nat} (h : LR σ sz es b o) (n : Nat) (hn : n ≤ es.length) : LR σ sz (es.drop n) b (o + n * sz) := by
  induction es generalizing o n with
  | nil => simp at hn; subst hn; simpa using LR.nil sz b _
  | cons a xs ih =>
    cases h with
    | cons hx h k =>
      cases n with
      | zero => simpa using LR.cons hx h k
      | succ n =>
        have := ih k n (by simpa using hn)
        rw [show o + (n + 1) * sz = o + sz + n * sz by rw [Nat.add_mul]; omega]
        exact this

theorem LR.take {sz : Nat} {es : List V} {b o : Nat} (h : LR σ sz es b o) (n : Nat) : LR σ sz (es.take n) b o := by
  induction es generalizing o n with
  | nil => simpa using LR.nil sz b o
  | cons a xs ih =>
    cases h with
    | cons hx h k =>
      cases n with
      | zero => exact .nil _ _ _
      | succ n => exact .cons hx h (ih k n)

theorem LR.append {sz : Nat} {es fs : List V} {b o : Nat} (h : LR σ sz es b o) (k : LR σ sz fs b (o + es.length * sz)) : LR σ sz (es ++ fs) b o := by
  induction es generalizing o with
  | nil => simpa using k
  | cons a xs ih =>
    cases h with
    | cons hx h h' =>
      refine .cons hx h (ih h' ?_)
      rw [show o + sz + xs.length * sz = o + (a :: xs).length * sz by simp [Nat.add_mul]; omega]
      exact k

/-- All its cells. -/
theorem LR.flat {sz : Nat} {es : List V} {b o : Nat} (h : LR σ sz es b o) : CR σ (es.flatMap V.cells) b o ∧ (es.flatMap V.cells).length = es.length * sz := by
  induction es generalizing o with
  | nil => exact ⟨.nil _ _, by simp⟩
  | cons a xs ih =>
    cases h with
    | cons hx h k =>
      obtain ⟨h1, h2⟩ := ih k
      refine ⟨?_, by simp [h2, hx, Nat.add_mul]; omega⟩
      rw [List.flatMap_cons]
      exact CR.append h (by rw [hx]; exact h1)

theorem LR.of_flat {sz : Nat} : ∀ {es : List V} {b o : Nat}, (∀ x ∈ es, x.cells.length = sz) → CR σ (es.flatMap V.cells) b o → LR σ sz es b o
  | [], b, o, _, _ => .nil _ _ _
  | a :: xs, b, o, hn, h => by
    rw [List.flatMap_cons] at h
    have ha := hn a (by simp)
    refine .cons ha ?_ (LR.of_flat (fun x hx => hn x (by simp [hx])) ?_)
    · have := h.take a.cells.length
      simpa using this
    · have := h.drop a.cells.length
      rw [ha] at this
      have h2 : (a.cells ++ xs.flatMap V.cells).drop sz = xs.flatMap V.cells := by rw [← ha]; simp
      rwa [h2] at this
end

/-! ### The relation of states -/

/-- The real block behind an abstract one. -/
def ObR (σ : Sg) (base : Nat) (w : World) (id : Nat) : Ob → Prop
  | .box t cs => ∃ b e vs, σ.ρ id = some (b, 0, e) ∧ base ≤ b ∧ w.heap[b]? = some (.cells (List.toArray vs) t (0, 0)) ∧ VRs σ cs vs ∧ ∀ o, σ.I b o = none
  | .tok => ∃ b p e c t lo hi, σ.ρ id = some (b, p, e) ∧ base ≤ b ∧ w.heap[b]? = some (.cells c t (lo, hi)) ∧ hi ≤ p ∧ p ≤ e ∧ e ≤ c.size ∧ σ.ty b = some t ∧ ∀ o, p ≤ o → σ.I b o = none

/-- 'pd': cells that are still to be written. -/
structure RelF (pd : Nat → Nat → Prop) (base : Nat) (w₀ : World) (σ : Sg) (H : Nat → Option Ob) (w : World) : Prop where
  below : Below base w₀ w
  hb : base ≤ w.heap.size
  imm : ∀ b o v, σ.I b o = some v → ¬ pd b o → w.cell? ⟨b, o, none⟩ = some v
  cur : ∀ b o v, σ.I b o = some v → b < w.heap.size
  ty : ∀ b t, σ.ty b = some t → ∃ c fr, w.heap[b]? = some (.cells c t fr) ∧ base ≤ b
  ob : ∀ id o, H id = some o → ObR σ base w id o
  inj : ∀ i j o o' x y, H i = some o → H j = some o' → σ.ρ i = some x → σ.ρ j = some y → x.1 = y.1 → i = j

abbrev Rel (pd : Nat → Nat → Prop) (base : Nat) (w₀ : World) (σ : Sg) (S : St) (w : World) : Prop := RelF pd base w₀ σ S.h.find w

def none2 : Nat → Nat → Prop := fun _ _ => False

theorem ObR.key {σ : Sg} {base : Nat} {w : World} {id : Nat} {o : Ob} (h : ObR σ base w id o) : ∃ x, σ.ρ id = some x ∧ base ≤ x.1 ∧ x.1 < w.heap.size := by
  cases o with
  | box t cs =>
    obtain ⟨b, e, vs, h1, h2, h3, _⟩ := h
    exact ⟨_, h1, h2, by
      rcases Nat.lt_or_ge b w.heap.size with h | h
      · exact h
      · simp [Array.getElem?_eq_none h] at h3⟩
  | tok =>
    obtain ⟨b, p, e, c, t, lo, hi, h1, h2, h3, _⟩ := h
    exact ⟨_, h1, h2, by
      rcases Nat.lt_or_ge b w.heap.size with h | h
      · exact h
      · simp [Array.getElem?_eq_none h] at h3⟩

/-- Less may be said. -/
theorem Rel.less {pd : Nat → Nat → Prop} {base : Nat} {w₀ w : World} {σ : Sg} {S U : St} (h : Rel pd base w₀ σ U w) (hs : ∀ id o, S.h.find id = some o → U.h.find id = some o) : Rel pd base w₀ σ S w :=
  ⟨h.below, h.hb, h.imm, h.cur, h.ty, fun id o ho => h.ob id o (hs id o ho), fun i j o o' x y hi hj => h.inj i j o o' x y (hs _ _ hi) (hs _ _ hj)⟩

/-- Which blocks the abstract state owns. -/
def Owns (σ : Sg) (S : St) (b : Nat) : Prop := ∃ id o x, S.h.find id = some o ∧ σ.ρ id = some x ∧ x.1 = b

/-- What a step from (σ, S, w) to (σ', S', w') leaves as it was, and where the new lies. -/
structure Stp (σ : Sg) (S : St) (w : World) (σ' : Sg) (S' : St) (w' : World) : Prop where
  le : σ.le σ'
  next : S.next ≤ S'.next
  size : w.heap.size ≤ w'.heap.size
  keep : ∀ b, b < w.heap.size → ¬ Owns σ S b → (∀ o, σ.I b o = none) → w'.heap[b]? = w.heap[b]?
  newI : ∀ b, b < w.heap.size → ¬ Owns σ S b → ∀ o, σ'.I b o = σ.I b o
  newK : ∀ id x, σ.ρ id = none → σ'.ρ id = some x → S.next ≤ id ∧ id < S'.next ∧ (w.heap.size ≤ x.1 ∨ Owns σ S x.1)
  dom : ∀ id o, S'.h.find id = some o → (∃ o', S.h.find id = some o') ∨ (S.next ≤ id ∧ id < S'.next)

def Free (σ : Sg) (a b : Nat) : Prop := ∀ id, a ≤ id → id < b → σ.ρ id = none

theorem Stp.refl (σ : Sg) (S : St) (w : World) : Stp σ S w σ S w :=
  ⟨.refl σ, Nat.le_refl _, Nat.le_refl _, fun _ _ _ _ => rfl, fun _ _ _ _ => rfl, (fun id x h k => by rw [h] at k; cases k), fun _ o h => Or.inl ⟨o, h⟩⟩

/-- A step that turns the world by draws alone. -/
theorem Stp.drew (σ : Sg) (S : St) (w w' : World) (h : w'.heap = w.heap) : Stp σ S w σ S w' :=
  ⟨.refl σ, Nat.le_refl _, by rw [h]; exact Nat.le_refl _, fun _ _ _ _ => by rw [h], fun _ _ _ _ => rfl, (fun id x h k => by rw [h] at k; cases k), fun _ o h => Or.inl ⟨o, h⟩⟩

theorem Stp.owns {σ σ' : Sg} {S S' : St} {w w' : World} (h : Stp σ S w σ' S' w') (hf : Free σ S.next S'.next) {b : Nat} (hb : b < w.heap.size) (hn : ¬ Owns σ S b) : ¬ Owns σ' S' b := by
  rintro ⟨id, o, x, h1, h2, h3⟩
  cases hk : σ.ρ id with
  | none =>
    obtain ⟨_, _, h4⟩ := h.newK id x hk h2
    rcases h4 with h4 | h4
    · omega
    · rw [h3] at h4; exact hn h4
  | some y =>
    have hy := h.le.ρ id y hk
    rw [hy] at h2
    cases h2
    rcases h.dom id o h1 with ⟨o', h5⟩ | ⟨h5, h6⟩
    · exact hn ⟨id, o', _, h5, hk, h3⟩
    · rw [hf id h5 h6] at hk; cases hk

theorem Free.mono {σ : Sg} {a b c d : Nat} (h : Free σ a b) (h1 : a ≤ c) (h2 : d ≤ b) : Free σ c d := fun id x y => h id (by omega) (by omega)

theorem Stp.free {σ σ' : Sg} {S S' : St} {w w' : World} (h : Stp σ S w σ' S' w') {n : Nat} (hf : Free σ S.next n) : Free σ' S'.next n := by
  intro id h1 h2
  cases hk : σ'.ρ id with
  | none => rfl
  | some x =>
    have h0 := hf id (Nat.le_trans h.next h1) h2
    obtain ⟨_, h3, _⟩ := h.newK id x h0 hk
    omega

theorem Stp.trans {σ σ₁ σ₂ : Sg} {S S₁ S₂ : St} {w w₁ w₂ : World} (h : Stp σ S w σ₁ S₁ w₁) (k : Stp σ₁ S₁ w₁ σ₂ S₂ w₂) (hf : Free σ S.next S₂.next) : Stp σ S w σ₂ S₂ w₂ := by
  have hf1 : Free σ S.next S₁.next := hf.mono (Nat.le_refl _) k.next
  refine ⟨h.le.trans k.le, Nat.le_trans h.next k.next, Nat.le_trans h.size k.size, ?_, ?_, ?_, ?_⟩
  · intro b hb hn hI
    have h1 := h.owns hf1 hb hn
    rw [k.keep b (Nat.lt_of_lt_of_le hb h.size) h1 (fun o => by rw [h.newI b hb hn o]; exact hI o)]
    exact h.keep b hb hn hI
  · intro b hb hn o
    rw [k.newI b (Nat.lt_of_lt_of_le hb h.size) (h.owns hf1 hb hn) o]
    exact h.newI b hb hn o
  · intro id x h1 h2
    cases hm : σ₁.ρ id with
    | some y =>
      have h3 := h.newK id y h1 hm
      have h4 := k.le.ρ id y hm
      rw [h4] at h2
      cases h2
      exact ⟨h3.1, Nat.lt_of_lt_of_le h3.2.1 k.next, h3.2.2⟩
    | none =>
      obtain ⟨h3, h4, h5⟩ := k.newK id x hm h2
      refine ⟨Nat.le_trans h.next h3, h4, ?_⟩
      rcases h5 with h5 | h5
      · exact .inl (Nat.le_trans h.size h5)
      · rcases Nat.lt_or_ge x.1 w.heap.size with h6 | h6
        · by_cases h7 : Owns σ S x.1
          · exact .inr h7
          · exact absurd h5 (h.owns hf1 h6 h7)
        · exact .inl h6
  · intro id o ho
    rcases k.dom id o ho with ⟨o', h1⟩ | ⟨h1, h2⟩
    · rcases h.dom id o' h1 with h3 | ⟨h3, h4⟩
      · exact .inl h3
      · exact .inr ⟨h3, Nat.lt_of_lt_of_le h4 k.next⟩
    · exact .inr ⟨Nat.le_trans h.next h1, h2⟩

/-! ### Memory that is made -/

def Sg.addK (σ : Sg) (id : Nat) (x : Nat × Nat × Nat) : Sg := { σ with ρ := fun i => if i = id then some x else σ.ρ i }
/-- The cells of a block from a place on never turn from now on. -/
def Sg.addI (σ : Sg) (b : Nat) (o : Nat) (vs : List Value) : Sg := { σ with I := fun b' o' => if b' = b ∧ o ≤ o' ∧ o' < o + vs.length then vs[o' - o]? else σ.I b' o' }
def Sg.addT (σ : Sg) (b : Nat) (t : TypeId) : Sg := { σ with ty := fun b' => if b' = b then some t else σ.ty b' }

theorem Sg.le_addK {σ : Sg} {id : Nat} {x : Nat × Nat × Nat} (h : σ.ρ id = none) : σ.le (σ.addK id x) :=
  ⟨fun i y hy => by
    unfold Sg.addK
    simp only
    split
    · subst_vars; rw [h] at hy; cases hy
    · exact hy, fun _ _ _ h => h, fun _ _ h => h⟩

theorem Sg.le_addI {σ : Sg} {b o : Nat} {vs : List Value} (h : ∀ o', o ≤ o' → o' < o + vs.length → σ.I b o' = none) : σ.le (σ.addI b o vs) :=
  ⟨fun _ _ h => h, fun b' o' v hv => by
    unfold Sg.addI
    simp only
    split
    · rename_i hc
      obtain ⟨rfl, h1, h2⟩ := hc
      rw [h o' h1 h2] at hv; cases hv
    · exact hv, fun _ _ h => h⟩

theorem Sg.le_addT {σ : Sg} {b : Nat} {t : TypeId} (h : σ.ty b = none ∨ σ.ty b = some t) : σ.le (σ.addT b t) :=
  ⟨fun _ _ h => h, fun _ _ _ h => h, fun b' t' ht => by
    unfold Sg.addT
    simp only
    split
    · subst_vars; rcases h with h | h
      · rw [h] at ht; cases ht
      · rw [h] at ht; exact ht
    · exact ht⟩

section
variable {pd : Nat → Nat → Prop} {base : Nat} {w₀ w : World} {σ : Sg} {S : St}

theorem heap_lt {w : World} {b : Nat} {o : Obj} (h : w.heap[b]? = some o) : b < w.heap.size := by
  rcases Nat.lt_or_ge b w.heap.size with h' | h'
  · exact h'
  · simp [Array.getElem?_eq_none h'] at h

theorem Rel.ty_lt (h : Rel pd base w₀ σ S w) {b : Nat} {t : TypeId} (ht : σ.ty b = some t) : b < w.heap.size := by
  obtain ⟨c, fr, hc, _⟩ := h.ty b t ht
  exact heap_lt hc

theorem Rel.tyNew (h : Rel pd base w₀ σ S w) : σ.ty w.heap.size = none := by
  cases ht : σ.ty w.heap.size with
  | none => rfl
  | some t => exact absurd (h.ty_lt ht) (by omega)

theorem Rel.INew (h : Rel pd base w₀ σ S w) (o : Nat) : σ.I w.heap.size o = none := by
  cases hI : σ.I w.heap.size o with
  | none => rfl
  | some v => exact absurd (h.cur _ _ _ hI) (by omega)

theorem Below.alloc' {base : Nat} {w₀ w : World} (h : Below base w₀ w) (hb : base ≤ w.heap.size) (o : Obj) : Below base w₀ (w.alloc o) := h.alloc hb o

/-- An object whose block is as it was. -/
theorem ObR.keep {σ σ' : Sg} {w w' : World} {id : Nat} {o : Ob} (h : ObR σ base w id o) (hs : σ.le σ') (hk : ∀ x, σ.ρ id = some x → w'.heap[x.1]? = w.heap[x.1]? ∧ ∀ o, σ.I x.1 o = none → σ'.I x.1 o = none) :
    ObR σ' base w' id o := by
  cases o with
  | box t cs =>
    obtain ⟨b, e, vs, h1, h2, h3, h4, h5⟩ := h
    obtain ⟨k1, k2⟩ := hk _ h1
    exact ⟨b, e, vs, hs.ρ _ _ h1, h2, by rw [k1]; exact h3, h4.mono hs, fun o => k2 o (h5 o)⟩
  | tok =>
    obtain ⟨b, p, e, c, t, lo, hi, h1, h2, h3, h4, h5, h6, h7, h8⟩ := h
    obtain ⟨k1, k2⟩ := hk _ h1
    exact ⟨b, p, e, c, t, lo, hi, hs.ρ _ _ h1, h2, by rw [k1]; exact h3, h4, h5, h6, hs.ty _ _ h7, fun o ho => k2 o (h8 o ho)⟩

/-- A new block: what is known of it may be added. -/
theorem Rel.alloc (h : Rel pd base w₀ σ S w) (ob : Obj) (σ' : Sg) (S' : St) (hs : σ.le σ')
    (hI : ∀ b o, b ≠ w.heap.size → σ'.I b o = σ.I b o) (hIn : ∀ o v, σ'.I w.heap.size o = some v → (w.alloc ob).cell? ⟨w.heap.size, o, none⟩ = some v)
    (hT : ∀ b, b ≠ w.heap.size → σ'.ty b = σ.ty b) (hTn : ∀ t, σ'.ty w.heap.size = some t → ∃ c fr, ob = .cells c t fr)
    (hS : (S' = S ∧ σ'.ρ = σ.ρ) ∨ ∃ o p e, S' = S.new o ∧ σ.ρ S.next = none ∧ σ'.ρ = (fun i => if i = S.next then some (w.heap.size, p, e) else σ.ρ i) ∧ ObR σ' base (w.alloc ob) S.next o) :
    Rel pd base w₀ σ' S' (w.alloc ob) ∧ Stp σ S w σ' S' (w.alloc ob) := by
  have hold : ∀ b, b < w.heap.size → (w.alloc ob).heap[b]? = w.heap[b]? := fun b hb => heap_alloc_old w ob b hb
  have hkeep : ∀ id o, S.h.find id = some o → ObR σ' base (w.alloc ob) id o := fun id o ho => by
    obtain ⟨x, hx, _, hlt⟩ := (h.ob id o ho).key
    refine (h.ob id o ho).keep hs fun y hy => ?_
    rw [hx] at hy; cases hy
    exact ⟨hold _ hlt, fun o ho => by rw [hI _ _ (by omega)]; exact ho⟩
  have hfind : ∀ id o, S'.h.find id = some o → S.h.find id = some o ∨ (id = S.next ∧ ∃ p e, σ'.ρ id = some (w.heap.size, p, e) ∧ ObR σ' base (w.alloc ob) id o) := by
    intro id o ho
    rcases hS with ⟨rfl, _⟩ | ⟨o', p, e, rfl, _, hρ, hob⟩
    · exact .inl ho
    · simp only [St.new, Tr.find_put] at ho
      split at ho
      · rename_i hid
        cases ho
        refine .inr ⟨hid, p, e, by rw [hρ]; simp [hid], by rw [hid]; exact hob⟩
      · exact .inl ho
  refine ⟨⟨h.below.alloc h.hb ob, by simp; have := h.hb; omega, ?_, ?_, ?_, ?_, ?_⟩, ?_⟩
  · intro b o v hv hp
    by_cases hbe : b = w.heap.size
    · subst hbe; exact hIn o v hv
    · rw [hI b o hbe] at hv
      rw [World.cell?_alloc_old w ob _ hbe]
      exact h.imm b o v hv hp
  · intro b o v hv
    by_cases hbe : b = w.heap.size
    · subst hbe; simp
    · rw [hI b o hbe] at hv
      have := h.cur b o v hv
      simp; omega
  · intro b t ht
    by_cases hbe : b = w.heap.size
    · subst hbe
      obtain ⟨c, fr, rfl⟩ := hTn t ht
      exact ⟨c, fr, heap_alloc_new w _, h.hb⟩
    · rw [hT b hbe] at ht
      obtain ⟨c, fr, hc, hbb⟩ := h.ty b t ht
      exact ⟨c, fr, by rw [hold b (heap_lt hc)]; exact hc, hbb⟩
  · intro id o ho
    rcases hfind id o ho with h1 | ⟨_, _, _, _, h2⟩
    · exact hkeep id o h1
    · exact h2
  · intro i j o o' x y hi hj hx hy hxy
    have hlow : ∀ k ok z, S.h.find k = some ok → σ'.ρ k = some z → z.1 < w.heap.size ∧ σ.ρ k = some z := fun k ok z h1 h2 => by
      obtain ⟨z', hz, _, hlt⟩ := (h.ob k ok h1).key
      have := hs.ρ _ _ hz
      rw [this] at h2; cases h2
      exact ⟨hlt, hz⟩
    rcases hfind i o hi with h1 | ⟨h1, p1, e1, h1k, _⟩ <;> rcases hfind j o' hj with h2 | ⟨h2, p2, e2, h2k, _⟩
    · obtain ⟨_, a1⟩ := hlow _ _ _ h1 hx
      obtain ⟨_, a2⟩ := hlow _ _ _ h2 hy
      exact h.inj i j o o' x y h1 h2 a1 a2 hxy
    · obtain ⟨a1, _⟩ := hlow _ _ _ h1 hx
      rw [h2k] at hy; cases hy; simp at hxy; omega
    · obtain ⟨a1, _⟩ := hlow _ _ _ h2 hy
      rw [h1k] at hx; cases hx; simp at hxy; omega
    · rw [h1, h2]
  · refine ⟨hs, ?_, by simp, fun b hb _ _ => hold b hb, fun b hb _ o => hI b o (by omega), ?_, ?_⟩
    · rcases hS with ⟨rfl, _⟩ | ⟨o, p, e, rfl, _⟩
      · exact Nat.le_refl _
      · simp [St.new]
    · intro id x h1 h2
      rcases hS with ⟨rfl, hρ⟩ | ⟨o, p, e, rfl, h3, hρ, _⟩
      · rw [hρ, h1] at h2; cases h2
      · rw [hρ] at h2
        simp only at h2
        split at h2
        · rename_i hid; cases h2; subst hid; exact ⟨Nat.le_refl _, by simp [St.new], .inl (Nat.le_refl _)⟩
        · rw [h1] at h2; cases h2
    · intro id o ho
      rcases hfind id o ho with h1 | ⟨h1, _⟩
      · exact .inl ⟨o, h1⟩
      · rcases hS with ⟨rfl, _⟩ | ⟨o', p, e, rfl, _⟩
        · exact .inl ⟨o, ho⟩
        · exact .inr ⟨by omega, by simp [St.new]; omega⟩

/-- A new box. -/
theorem Rel.newBox (h : Rel pd base w₀ σ S w) (hf : σ.ρ S.next = none) (t : TypeId) {cs : List V} {vs : List Value} (hv : VRs σ cs vs) :
    Rel pd base w₀ (σ.addK S.next (w.heap.size, 0, 0)) (S.new (.box t cs)) (w.alloc (.cells vs.toArray t)) ∧
    Stp σ S w (σ.addK S.next (w.heap.size, 0, 0)) (S.new (.box t cs)) (w.alloc (.cells vs.toArray t)) := by
  refine h.alloc _ _ _ (Sg.le_addK hf) (fun _ _ _ => rfl) (fun o v hv => ?_) (fun _ _ => rfl) (fun t' ht => ?_) (.inr ⟨_, 0, 0, rfl, hf, rfl, ?_⟩)
  · rw [show (σ.addK S.next (w.heap.size, 0, 0)).I w.heap.size o = none from h.INew o] at hv; cases hv
  · rw [show (σ.addK S.next (w.heap.size, 0, 0)).ty w.heap.size = none from h.tyNew] at ht; cases ht
  · exact ⟨w.heap.size, 0, vs, by simp [Sg.addK], h.hb, heap_alloc_new w _, hv.mono (Sg.le_addK hf), fun o => h.INew o⟩

/-- A new row of cells that never turn: a slice that is full. -/
theorem Rel.newRow (h : Rel pd base w₀ σ S w) (t : TypeId) (vs rest : List Value) :
    Rel pd base w₀ ((σ.addI w.heap.size 0 vs).addT w.heap.size t) S (w.alloc (.cells (vs ++ rest).toArray t)) ∧
    Stp σ S w ((σ.addI w.heap.size 0 vs).addT w.heap.size t) S (w.alloc (.cells (vs ++ rest).toArray t)) := by
  refine h.alloc _ _ _ ((Sg.le_addI fun o _ _ => h.INew o).trans (Sg.le_addT (.inl h.tyNew))) (fun b o hb => ?_) (fun o v hv => ?_) (fun b hb => ?_) (fun t' ht => ?_) (.inl ⟨rfl, rfl⟩)
  · simp [Sg.addI, Sg.addT, hb]
  · rw [World.cell?_alloc_new]
    simp only [Sg.addT, Sg.addI, Nat.zero_le, true_and, Nat.zero_add, Nat.sub_zero] at hv
    split at hv
    · rename_i hlt
      rw [List.getElem?_toArray, List.getElem?_append_left hlt]; exact hv
    · rw [h.INew o] at hv; cases hv
  · simp [Sg.addI, Sg.addT, hb]
  · simp [Sg.addT] at ht; subst ht; exact ⟨_, _, rfl⟩

theorem Sg.addI_get (σ : Sg) (b o : Nat) (vs : List Value) (i : Nat) (v : Value) (h : vs[i]? = some v) : (σ.addI b o vs).I b (o + i) = some v := by
  have hlt : i < vs.length := by
    rcases Nat.lt_or_ge i vs.length with h' | h'
    · exact h'
    · simp [List.getElem?_eq_none h'] at h
  simp only [Sg.addI]
  rw [if_pos ⟨trivial, by omega, by omega⟩, show o + i - o = i by omega]
  exact h

/-- A new row whose first cells never turn, and whose others are free. -/
theorem Rel.newTok (h : Rel pd base w₀ σ S w) (hf : σ.ρ S.next = none) (t : TypeId) (vs rest : List Value) :
    Rel pd base w₀ (((σ.addI w.heap.size 0 vs).addT w.heap.size t).addK S.next (w.heap.size, vs.length, vs.length + rest.length)) (S.new .tok) (w.alloc (.cells (vs ++ rest).toArray t)) ∧
    Stp σ S w (((σ.addI w.heap.size 0 vs).addT w.heap.size t).addK S.next (w.heap.size, vs.length, vs.length + rest.length)) (S.new .tok) (w.alloc (.cells (vs ++ rest).toArray t)) := by
  have l1 : σ.le ((σ.addI w.heap.size 0 vs).addT w.heap.size t) := (Sg.le_addI fun o _ _ => h.INew o).trans (Sg.le_addT (.inl h.tyNew))
  refine h.alloc _ _ _ (l1.trans (Sg.le_addK hf)) (fun b o hb => ?_) (fun o v hv => ?_) (fun b hb => ?_) (fun t' ht => ?_) (.inr ⟨_, vs.length, vs.length + rest.length, rfl, hf, rfl, ?_⟩)
  · simp [Sg.addI, Sg.addT, Sg.addK, hb]
  · rw [World.cell?_alloc_new]
    simp only [Sg.addK, Sg.addT, Sg.addI, Nat.zero_le, true_and, Nat.zero_add, Nat.sub_zero] at hv
    split at hv
    · rename_i hlt
      rw [List.getElem?_toArray, List.getElem?_append_left hlt]; exact hv
    · rw [h.INew o] at hv; cases hv
  · simp [Sg.addI, Sg.addT, Sg.addK, hb]
  · simp [Sg.addT, Sg.addK] at ht; subst ht; exact ⟨_, _, rfl⟩
  · refine ⟨w.heap.size, vs.length, vs.length + rest.length, _, t, 0, 0, by simp [Sg.addK], h.hb, heap_alloc_new w _, by omega, by omega, by simp, by simp [Sg.addK, Sg.addT], fun o ho => ?_⟩
    simp only [Sg.addK, Sg.addT, Sg.addI, true_and]
    rw [if_neg (by omega)]
    exact h.INew o
end

end Go.Ev
