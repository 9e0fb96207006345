/-
  Ev, part 15: a region's state when some of its operations have been carried out.
-/
import Derived.Test.YtilldjgagokcfaaGreatEvTra2
set_option linter.unusedVariables false
set_option linter.unusedSimpArgs false
namespace Go.Ev
open Go.RowKit

def Own (σ : Sg) (H : Nat → Option Ob) (b : Nat) : Prop := ∃ id o x, H id = some o ∧ σ.ρ id = some x ∧ x.1 = b

/-- What a step leaves as it was, and where the new lies; the states are maps. -/
structure HS (lo hi : Nat) (σ : Sg) (H : Nat → Option Ob) (w : World) (σ' : Sg) (H' : Nat → Option Ob) (w' : World) : Prop where
  le : σ.le σ'
  size : w.heap.size ≤ w'.heap.size
  keep : ∀ b, b < w.heap.size → ¬ Own σ H b → (∀ o, σ.I b o = none) → w'.heap[b]? = w.heap[b]?
  newI : ∀ b, b < w.heap.size → ¬ Own σ H b → ∀ o, σ'.I b o = σ.I b o
  newK : ∀ id x, σ.ρ id = none → σ'.ρ id = some x → lo ≤ id ∧ id < hi ∧ (w.heap.size ≤ x.1 ∨ Own σ H x.1)
  dom : ∀ id o, H' id = some o → (∃ o', H id = some o') ∨ (lo ≤ id ∧ id < hi ∧ σ.ρ id = none)

section
variable {lo hi : Nat} {σ σ' σ₁ σ₂ : Sg} {H H' H₁ H₂ : Nat → Option Ob} {w w' w₁ w₂ : World}

theorem HS.refl (lo hi : Nat) (σ : Sg) (H : Nat → Option Ob) (w : World) : HS lo hi σ H w σ H w :=
  ⟨.refl σ, Nat.le_refl _, fun _ _ _ _ => rfl, fun _ _ _ _ => rfl, (fun id x h k => by rw [h] at k; cases k), fun _ o h => Or.inl ⟨o, h⟩⟩

theorem HS.owns (h : HS lo hi σ H w σ₁ H₁ w₁) {b : Nat} (hb : b < w.heap.size) (hn : ¬ Own σ H b) : ¬ Own σ₁ H₁ b := by
  rintro ⟨id, o, x, h1, h2, h3⟩
  cases hk : σ.ρ id with
  | none =>
    obtain ⟨_, _, h4⟩ := h.newK id x hk h2
    rcases h4 with h4 | h4
    · omega
    · rw [h3] at h4; exact hn h4
  | some y =>
    have hy := h.le.ρ id y hk
    rw [hy] at h2
    cases h2
    rcases h.dom id o h1 with ⟨o', h5⟩ | ⟨_, _, h5⟩
    · exact hn ⟨id, o', _, h5, hk, h3⟩
    · rw [h5] at hk; cases hk

theorem HS.trans (h : HS lo hi σ H w σ₁ H₁ w₁) (k : HS lo hi σ₁ H₁ w₁ σ₂ H₂ w₂) : HS lo hi σ H w σ₂ H₂ w₂ := by
  refine ⟨h.le.trans k.le, Nat.le_trans h.size k.size, ?_, ?_, ?_, ?_⟩
  · intro b hb hn hI
    rw [k.keep b (Nat.lt_of_lt_of_le hb h.size) (h.owns hb hn) (fun o => by rw [h.newI b hb hn o]; exact hI o)]
    exact h.keep b hb hn hI
  · intro b hb hn o
    rw [k.newI b (Nat.lt_of_lt_of_le hb h.size) (h.owns hb hn) o]
    exact h.newI b hb hn o
  · intro id x h1 h2
    cases hm : σ₁.ρ id with
    | some y =>
      have h3 := h.newK id y h1 hm
      have h4 := k.le.ρ id y hm
      rw [h4] at h2
      cases h2
      exact h3
    | none =>
      obtain ⟨h3, h4, h5⟩ := k.newK id x hm h2
      refine ⟨h3, h4, ?_⟩
      rcases h5 with h5 | h5
      · exact .inl (Nat.le_trans h.size h5)
      · rcases Nat.lt_or_ge x.1 w.heap.size with h6 | h6
        · by_cases h7 : Own σ H x.1
          · exact .inr h7
          · exact absurd h5 (h.owns h6 h7)
        · exact .inl h6
  · intro id o ho
    rcases k.dom id o ho with ⟨o', h1⟩ | ⟨h1, h2, h3⟩
    · exact h.dom id o' h1
    · refine .inr ⟨h1, h2, ?_⟩
      cases hm : σ.ρ id with
      | none => rfl
      | some y => rw [h.le.ρ id y hm] at h3; cases h3

theorem HS.wide {a b : Nat} (h : HS a b σ H w σ' H' w') (ha : lo ≤ a) (hb : b ≤ hi) : HS lo hi σ H w σ' H' w' :=
  ⟨h.le, h.size, h.keep, h.newI, fun id x h1 h2 => let ⟨q1, q2, q3⟩ := h.newK id x h1 h2; ⟨Nat.le_trans ha q1, Nat.lt_of_lt_of_le q2 hb, q3⟩,
    fun id o ho => (h.dom id o ho).imp_right fun ⟨q1, q2, q3⟩ => ⟨Nat.le_trans ha q1, Nat.lt_of_lt_of_le q2 hb, q3⟩⟩

theorem HS.void {a b : Nat} (h : HS a b σ H w σ' H' w') (hab : b ≤ a) : HS lo hi σ H w σ' H' w' :=
  ⟨h.le, h.size, h.keep, h.newI, fun id x h1 h2 => let ⟨q1, q2, q3⟩ := h.newK id x h1 h2; absurd q2 (by omega),
    fun id o ho => (h.dom id o ho).imp_right fun ⟨q1, q2, q3⟩ => absurd q2 (by omega)⟩

/-- The end state may say less. -/
theorem HS.less (h : HS lo hi σ H w σ' H' w') (hs : ∀ id o, H₂ id = some o → H' id = some o) : HS lo hi σ H w σ' H₂ w' :=
  ⟨h.le, h.size, h.keep, h.newI, h.newK, fun id o ho => h.dom id o (hs id o ho)⟩

theorem HS.toStp {S S' : St} (h : HS lo hi σ S.h.find w σ' H' w') (hs : ∀ id o, S'.h.find id = some o → H' id = some o) (h1 : S.next ≤ lo) (h2 : hi ≤ S'.next) (h3 : S.next ≤ S'.next) : Stp σ S w σ' S' w' :=
  ⟨h.le, h3, h.size, h.keep, h.newI, fun id x q1 q2 => let ⟨r1, r2, r3⟩ := h.newK id x q1 q2; ⟨Nat.le_trans h1 r1, Nat.lt_of_lt_of_le r2 h2, r3⟩,
    fun id o ho => (h.dom id o (hs id o ho)).imp_right fun ⟨r1, r2, _⟩ => ⟨Nat.le_trans h1 r1, Nat.lt_of_lt_of_le r2 h2⟩⟩

theorem RelF.less {pd : Nat → Nat → Prop} {base : Nat} {w₀ : World} (h : RelF pd base w₀ σ H w) (hs : ∀ id o, H' id = some o → H id = some o) : RelF pd base w₀ σ H' w :=
  ⟨h.below, h.hb, h.imm, h.cur, h.ty, fun id o ho => h.ob id o (hs id o ho), fun i j o o' x y hi hj => h.inj i j o o' x y (hs _ _ hi) (hs _ _ hj)⟩

/-- A step, beside boxes that it does not know of. -/
theorem over {base : Nat} {w₀ : World} {U U' : St} (h : RelF none2 base w₀ σ H w) (hU : ∀ id o, U.h.find id = some o → H id = some o) (h' : Rel none2 base w₀ σ' U' w') (hS : Stp σ U w σ' U' w')
    (hf : Free σ U.next U'.next) (hJ : ∀ id o, H' id = some o → U'.h.find id = some o ∨ (H id = some o ∧ U.h.find id = none ∧ ∃ t cs, o = .box t cs)) :
    RelF none2 base w₀ σ' H' w' ∧ HS U.next U'.next σ H w σ' H' w' := by
  -- a box that the step does not know of
  have junk : ∀ id t cs, H id = some (.box t cs) → U.h.find id = none → ∃ b e, σ.ρ id = some (b, 0, e) ∧ b < w.heap.size ∧ ¬ Owns σ U b ∧ (∀ o, σ.I b o = none) ∧ ObR σ base w id (.box t cs) := by
    intro id t cs h1 h2
    have h3 := h.ob id _ h1
    obtain ⟨b, e, vs, k1, k2, k3, k4, k5⟩ := h3
    refine ⟨b, e, k1, heap_lt k3, ?_, k5, ⟨b, e, vs, k1, k2, k3, k4, k5⟩⟩
    rintro ⟨id', o', x, q1, q2, q3⟩
    have := h.inj id' id o' _ x _ (hU _ _ q1) h1 q2 k1 (by simp [q3])
    subst this
    rw [h2] at q1; cases q1
  have own : ∀ b, ¬ Own σ H b → ¬ Owns σ U b := fun b hn ⟨id, o, x, q1, q2, q3⟩ => hn ⟨id, o, x, hU _ _ q1, q2, q3⟩
  refine ⟨⟨h'.below, h'.hb, h'.imm, h'.cur, h'.ty, ?_, ?_⟩, ⟨hS.le, hS.size, ?_, ?_, ?_, ?_⟩⟩
  · intro id o ho
    rcases hJ id o ho with h1 | ⟨h1, h2, t, cs, rfl⟩
    · exact h'.ob id o h1
    · obtain ⟨b, e, k1, k2, k3, k4, k5⟩ := junk id t cs h1 h2
      refine k5.keep hS.le fun x hx => ?_
      rw [k1] at hx; cases hx
      exact ⟨hS.keep b k2 k3 k4, fun o ho => by rw [hS.newI b k2 k3 o]; exact ho⟩
  · intro i j o o' x y hi hj hx hy hxy
    rcases hJ i o hi with h1 | ⟨h1, h2, t, cs, rfl⟩ <;> rcases hJ j o' hj with g1 | ⟨g1, g2, t', cs', rfl⟩
    · exact h'.inj i j o o' x y h1 g1 hx hy hxy
    · obtain ⟨b, e, k1, k2, k3, _⟩ := junk j _ _ g1 g2
      have := hS.le.ρ _ _ k1
      rw [this] at hy; cases hy
      exact absurd ⟨i, o, x, h1, hx, hxy⟩ (hS.owns hf k2 k3)
    · obtain ⟨b, e, k1, k2, k3, _⟩ := junk i _ _ h1 h2
      have := hS.le.ρ _ _ k1
      rw [this] at hx; cases hx
      exact absurd ⟨j, o', y, g1, hy, hxy.symm⟩ (hS.owns hf k2 k3)
    · obtain ⟨b, e, k1, _⟩ := junk i _ _ h1 h2
      obtain ⟨b', e', k1', _⟩ := junk j _ _ g1 g2
      have e1 := hS.le.ρ _ _ k1
      have e2 := hS.le.ρ _ _ k1'
      rw [e1] at hx; cases hx
      rw [e2] at hy; cases hy
      exact h.inj i j _ _ _ _ h1 g1 k1 k1' hxy
  · exact fun b hb hn hI => hS.keep b hb (own b hn) hI
  · exact fun b hb hn o => hS.newI b hb (own b hn) o
  · intro id x h1 h2
    obtain ⟨q1, q2, q3⟩ := hS.newK id x h1 h2
    exact ⟨q1, q2, q3.imp_right fun ⟨id', o, y, r1, r2, r3⟩ => ⟨id', o, y, hU _ _ r1, r2, r3⟩⟩
  · intro id o ho
    rcases hJ id o ho with h1 | ⟨h1, _⟩
    · rcases hS.dom id o h1 with ⟨o', h2⟩ | ⟨h2, h3⟩
      · exact .inl ⟨o', hU _ _ h2⟩
      · exact .inr ⟨h2, h3, hf id h2 h3⟩
    · exact .inl ⟨o, h1⟩
end

/-! ### The state's map when these operations have been carried out -/

def hd (D : Nat → Bool) (h0 : Nat → Option Ob) : List En → Nat → Option Ob
  | [] => h0
  | .mild i _ _ n ob :: T => match ob with
    | some ob => fun id => if D i = true ∧ id = n then some ob else hd D h0 T id
    | none => hd D h0 T
  | .act i _ _ _ S :: T => if D i = true then S.h.find else hd D h0 T

def baseOf (D : Nat → Bool) (S0 : St) : List En → St
  | [] => S0
  | .mild .. :: T => baseOf D S0 T
  | .act i _ _ _ S :: T => if D i = true then S else baseOf D S0 T

def jin (D : Nat → Bool) : List En → Nat → Ob → Prop
  | [], _, _ => False
  | .mild i _ _ n ob :: T, id, o => (D i = true ∧ id = n ∧ ob = some o) ∨ jin D T id o
  | .act i _ _ _ _ :: T, id, o => D i = false ∧ jin D T id o

section
variable {D D' : Nat → Bool} {h0 : Nat → Option Ob} {T T1 R : List En}

theorem hd_none : ∀ {T : List En}, (∀ e ∈ T, D e.i = false) → hd D h0 T = h0
  | [], _ => rfl
  | .mild i _ _ n ob :: T, h => by
    have h1 : D i = false := h _ List.mem_cons_self
    have h2 := hd_none (T := T) fun e he => h e (List.mem_cons_of_mem _ he)
    cases ob with
    | none => exact h2
    | some ob =>
      funext id
      simp only [hd, h1, Bool.false_eq_true, false_and, if_false]
      rw [h2]
  | .act i _ _ _ S :: T, h => by
    have h1 : D i = false := h _ List.mem_cons_self
    have h2 := hd_none (T := T) fun e he => h e (List.mem_cons_of_mem _ he)
    simp only [hd, h1, Bool.false_eq_true, if_false]
    exact h2

theorem hd_app {id : Nat} (hc : hd D h0 T id = hd D' h0 T1 id) : ∀ {R : List En}, (∀ e ∈ R, D e.i = D' e.i) → hd D h0 (R ++ T) id = hd D' h0 (R ++ T1) id
  | [], _ => hc
  | .mild i _ _ n ob :: R, h => by
    have h1 : D i = D' i := h _ List.mem_cons_self
    have h2 := hd_app hc fun e he => h e (List.mem_cons_of_mem _ he)
    cases ob with
    | none => exact h2
    | some ob =>
      simp only [List.cons_append, hd, h1]
      rw [h2]
  | .act i _ _ _ S :: R, h => by
    have h1 : D i = D' i := h _ List.mem_cons_self
    have h2 := hd_app hc fun e he => h e (List.mem_cons_of_mem _ he)
    simp only [List.cons_append, hd, h1]
    split
    · rfl
    · exact h2

theorem hd_congr (h : ∀ e ∈ T, D e.i = D' e.i) : hd D h0 T = hd D' h0 T := by
  funext id
  have := hd_app (D := D) (D' := D') (h0 := h0) (T := []) (T1 := []) (id := id) rfl h
  simpa using this

theorem hd_skip {id : Nat} : ∀ {R : List En}, (∀ e ∈ R, D e.i = true → e.isMild = true) → (∀ e ∈ R, e.lo < e.hi → id ≠ e.lo) → hd D h0 (R ++ T) id = hd D h0 T id
  | [], _, _ => rfl
  | .mild i _ _ n ob :: R, h, hk => by
    have h1 := hk _ List.mem_cons_self
    have h2 := hd_skip (R := R) (fun e he => h e (List.mem_cons_of_mem _ he)) fun e he => hk e (List.mem_cons_of_mem _ he)
    cases ob with
    | none => exact h2
    | some ob =>
      have h1 : id ≠ n := h1 (Nat.lt_succ_self n)
      simp only [List.cons_append, hd, h1, and_false, if_false]
      exact h2
  | .act i _ _ _ S :: R, h, hk => by
    have h1 : D i = false := by
      cases hd : D i
      · rfl
      · have := h _ List.mem_cons_self hd
        cases this
    have h2 := hd_skip (R := R) (fun e he => h e (List.mem_cons_of_mem _ he)) fun e he => hk e (List.mem_cons_of_mem _ he)
    simp only [List.cons_append, hd, h1, Bool.false_eq_true, if_false]
    exact h2

/-- A number is made by one of these, or by none. -/
theorem hd_cases {id : Nat} : ∀ {R : List En}, (∀ e ∈ R, D e.i = true → e.isMild = true) → (∀ e ∈ R, D e.i = D' e.i) →
    (∀ h0 T, hd D h0 (R ++ T) id = hd D h0 T id ∧ hd D' h0 (R ++ T) id = hd D' h0 T id) ∨
    (∃ i o v n ob, En.mild i o v n (some ob) ∈ R ∧ id = n ∧ ∀ h0 T, hd D h0 (R ++ T) id = some ob ∧ hd D' h0 (R ++ T) id = some ob)
  | [], _, _ => .inl fun _ _ => ⟨rfl, rfl⟩
  | .mild i o v n ob :: R, h, hc => by
    have hDi : D i = D' i := hc _ List.mem_cons_self
    have h2 := hd_cases (id := id) (R := R) (fun e he => h e (List.mem_cons_of_mem _ he)) fun e he => hc e (List.mem_cons_of_mem _ he)
    have pass : (∀ h0 T, hd D h0 (.mild i o v n ob :: R ++ T) id = hd D h0 (R ++ T) id ∧ hd D' h0 (.mild i o v n ob :: R ++ T) id = hd D' h0 (R ++ T) id) →
        (∀ h0 T, hd D h0 (.mild i o v n ob :: R ++ T) id = hd D h0 T id ∧ hd D' h0 (.mild i o v n ob :: R ++ T) id = hd D' h0 T id) ∨
        (∃ i' o' v' n' ob', En.mild i' o' v' n' (some ob') ∈ En.mild i o v n ob :: R ∧ id = n' ∧ ∀ h0 T, hd D h0 (.mild i o v n ob :: R ++ T) id = some ob' ∧ hd D' h0 (.mild i o v n ob :: R ++ T) id = some ob') := by
      intro hp
      rcases h2 with h2 | ⟨i', o', v', n', ob', q1, q2, q3⟩
      · exact .inl fun h0 T => ⟨(hp h0 T).1.trans (h2 h0 T).1, (hp h0 T).2.trans (h2 h0 T).2⟩
      · exact .inr ⟨i', o', v', n', ob', List.mem_cons_of_mem _ q1, q2, fun h0 T => ⟨(hp h0 T).1.trans (q3 h0 T).1, (hp h0 T).2.trans (q3 h0 T).2⟩⟩
    cases ob with
    | none => exact pass fun h0 T => ⟨rfl, rfl⟩
    | some ob =>
      by_cases hx : D i = true ∧ id = n
      · refine .inr ⟨i, o, v, n, ob, List.mem_cons_self, hx.2, fun h0 T => ?_⟩
        have hx' : D' i = true ∧ id = n := by rw [← hDi]; exact hx
        simp only [List.cons_append, hd]
        rw [if_pos hx, if_pos hx']
        exact ⟨rfl, rfl⟩
      · refine pass fun h0 T => ?_
        have hx' : ¬ (D' i = true ∧ id = n) := by rw [← hDi]; exact hx
        simp only [List.cons_append, hd]
        rw [if_neg hx, if_neg hx']
        exact ⟨rfl, rfl⟩
  | .act i o v n S :: R, h, hc => by
    have h1 : D i = false := by
      cases hd : D i
      · rfl
      · have := h _ List.mem_cons_self hd
        cases this
    have h1' : D' i = false := by rw [← h1]; exact (hc _ List.mem_cons_self).symm
    have h2 := hd_cases (id := id) (R := R) (fun e he => h e (List.mem_cons_of_mem _ he)) fun e he => hc e (List.mem_cons_of_mem _ he)
    have hp : ∀ h0 T, hd D h0 (.act i o v n S :: R ++ T) id = hd D h0 (R ++ T) id ∧ hd D' h0 (.act i o v n S :: R ++ T) id = hd D' h0 (R ++ T) id := fun h0 T => by
      refine ⟨?_, ?_⟩ <;> simp [hd, h1, h1']
    rcases h2 with h2 | ⟨i', o', v', n', ob', q1, q2, q3⟩
    · exact .inl fun h0 T => ⟨(hp h0 T).1.trans (h2 h0 T).1, (hp h0 T).2.trans (h2 h0 T).2⟩
    · exact .inr ⟨i', o', v', n', ob', List.mem_cons_of_mem _ q1, q2, fun h0 T => ⟨(hp h0 T).1.trans (q3 h0 T).1, (hp h0 T).2.trans (q3 h0 T).2⟩⟩

theorem baseOf_app {S0 : St} : ∀ {R : List En}, (∀ e ∈ R, D e.i = true → e.isMild = true) → baseOf D S0 (R ++ T) = baseOf D S0 T
  | [], _ => rfl
  | .mild .. :: R, h => baseOf_app (R := R) fun e he => h e (List.mem_cons_of_mem _ he)
  | .act i _ _ _ S :: R, h => by
    have h1 : D i = false := by
      cases hd : D i
      · rfl
      · have := h _ List.mem_cons_self hd
        cases this
    simp only [List.cons_append, baseOf, h1, Bool.false_eq_true, if_false]
    exact baseOf_app (R := R) fun e he => h e (List.mem_cons_of_mem _ he)

theorem jin_app {id : Nat} {o : Ob} : ∀ {R : List En}, (∀ e ∈ R, D e.i = true → e.isMild = true) → jin D T id o → jin D (R ++ T) id o
  | [], _, hj => hj
  | .mild .. :: R, h, hj => .inr (jin_app (R := R) (fun e he => h e (List.mem_cons_of_mem _ he)) hj)
  | .act i _ _ _ S :: R, h, hj => by
    have h1 : D i = false := by
      cases hd : D i
      · rfl
      · have := h _ List.mem_cons_self hd
        cases this
    exact ⟨h1, jin_app (R := R) (fun e he => h e (List.mem_cons_of_mem _ he)) hj⟩

theorem hd_out {S0 : St} {id : Nat} {o : Ob} : ∀ {T : List En}, hd D S0.h.find T id = some o → (baseOf D S0 T).h.find id = some o ∨ jin D T id o
  | [], h => .inl h
  | .mild i _ _ n ob :: T, h => by
    cases ob with
    | none => exact (hd_out (T := T) h).imp_right fun h => .inr h
    | some ob =>
      simp only [hd] at h
      split at h
      · rename_i hc
        cases h
        exact .inr (.inl ⟨hc.1, hc.2, rfl⟩)
      · exact (hd_out (T := T) h).imp_right fun h => .inr h
  | .act i _ _ _ S :: T, h => by
    simp only [hd] at h
    simp only [baseOf]
    split at h
    · rename_i hc; rw [if_pos hc]; exact .inl h
    · rename_i hc; rw [if_neg hc]
      exact (hd_out (T := T) h).imp_right fun h => ⟨by simpa using hc, h⟩

theorem withs_find {id : Nat} {o : Ob} : ∀ {l : List (Nat × Ob)} {h : Tr Ob}, (withs h l).find id = some o → h.find id = some o ∨ (id, o) ∈ l
  | [], h, hh => .inl hh
  | (n, ob) :: l, h, hh => by
    rcases withs_find (l := l) hh with h1 | h1
    · rw [Tr.find_put] at h1
      split at h1
      · rename_i hc; cases h1; rw [hc]; exact .inr List.mem_cons_self
      · exact .inl h1
    · exact .inr (List.mem_cons_of_mem _ h1)

theorem withs_old {id : Nat} : ∀ {l : List (Nat × Ob)} {h : Tr Ob}, (∃ o, h.find id = some o) → ∃ o, (withs h l).find id = some o
  | [], h, hh => hh
  | (n, ob) :: l, h, hh => by
    refine withs_old (l := l) ?_
    simp only [Tr.find_put]
    split
    · exact ⟨_, rfl⟩
    · exact hh
end

section
variable {rec : Rec} {P : Program} {ops : Array Oper} {S0 : St} {fr0 : Fr} {T : List En} {fr : Fr} {S : St} {D : Nat → Bool}

theorem Tra.hd_all (h : Tra rec P ops S0 fr0 T fr S) (hD : ∀ e ∈ T, D e.i = true) : ∀ id, S.h.find id = hd D S0.h.find T id := by
  induction h with
  | nil => exact fun _ => rfl
  | jump h n hn ih => exact ih hD
  | cons h f hp ih =>
    intro id
    have ih := ih fun e he => hD e (List.mem_cons_of_mem _ he)
    cases f with
    | mild ho hm ha hn =>
      rename_i i o v ob
      have h1 : D i = true := hD _ List.mem_cons_self
      cases ob with
      | none => exact ih id
      | some ob =>
        simp only [En.st, St.plus, St.new, Tr.find_put, hd, h1, true_and]
        split
        · rfl
        · exact ih id
    | act ho hw hx ha hn hb =>
      rename_i i o v S'
      have h1 : D i = true := hD _ List.mem_cons_self
      simp only [En.st, hd, h1, if_true]

theorem Tra.base_le (hl : LeOk rec) (h : Tra rec P ops S0 fr0 T fr S) : StLe S0 (baseOf D S0 T) ∧ (baseOf D S0 T).next ≤ S.next := by
  induction h with
  | nil => exact ⟨.refl _, Nat.le_refl _⟩
  | jump h n hn ih => exact ⟨ih.1, Nat.le_trans ih.2 hn⟩
  | cons h f hp ih =>
    have h1 := (f.le hl).next
    have h2 := (h.cons f hp).le hl
    cases f with
    | mild ho hm ha hn => exact ⟨ih.1, Nat.le_trans ih.2 h1⟩
    | act ho hw hx ha hn hb =>
      simp only [baseOf]
      split
      · exact ⟨h2, Nat.le_refl _⟩
      · exact ⟨ih.1, Nat.le_trans ih.2 h1⟩

theorem Tra.jin_lt (hl : LeOk rec) (h : Tra rec P ops S0 fr0 T fr S) {id : Nat} {o : Ob} (hj : jin D T id o) : S0.next ≤ id ∧ id < S.next := by
  induction h with
  | nil => exact hj.elim
  | jump h n hn ih => obtain ⟨h1, h2⟩ := ih hj; exact ⟨h1, Nat.lt_of_lt_of_le h2 hn⟩
  | cons h f hp ih =>
    have h1 := (f.le hl).next
    have h0 := (h.le hl).next
    cases f with
    | mild ho hm ha hn =>
      rename_i i o v ob
      rcases hj with ⟨_, rfl, rfl⟩ | hj
      · exact ⟨h0, by simp [En.st, St.plus, St.new]⟩
      · obtain ⟨h1', h2⟩ := ih hj; exact ⟨h1', Nat.lt_of_lt_of_le h2 h1⟩
    | act ho hw hx ha hn hb => obtain ⟨h1', h2⟩ := ih hj.2; exact ⟨h1', Nat.lt_of_lt_of_le h2 h1⟩

theorem mildE_box {ms : List Nat} {i : Nat} {o : Oper} {v : V} {ob : Ob} (h : mildE P ops ms S0 i o T fr S = some (v, some ob)) : ∃ t cs, ob = .box t cs := by
  unfold mildE at h
  repeat' split at h
  all_goals first
    | (cases h; done)
    | (cases h; exact ⟨_, _, rfl⟩)

theorem Tra.jin_box (h : Tra rec P ops S0 fr0 T fr S) {id : Nat} {o : Ob} (hj : jin D T id o) : ∃ t cs, o = .box t cs := by
  induction h with
  | nil => exact hj.elim
  | jump h n hn ih => exact ih hj
  | cons h f hp ih =>
    cases f with
    | mild ho hm ha hn =>
      rcases hj with ⟨_, rfl, rfl⟩ | hj
      · exact mildE_box hm
      · exact ih hj
    | act ho hw hx ha hn hb => exact ih hj.2

theorem Tra.jin_in (hl : LeOk rec) (h : Tra rec P ops S0 fr0 T fr S) {id : Nat} {o : Ob} (hj : jin D T id o) : hd D S0.h.find T id = some o := by
  induction h with
  | nil => exact hj.elim
  | jump h n hn ih => exact ih hj
  | cons h f hp ih =>
    cases f with
    | mild ho hm ha hn =>
      rename_i i o' v ob
      rcases hj with ⟨h1, rfl, rfl⟩ | hj
      · simp only [hd, h1, true_and, if_true]
      · have h2 := (h.jin_lt hl hj).2
        cases ob with
        | none => exact ih hj
        | some ob =>
          simp only [hd]
          rw [if_neg (by omega)]
          exact ih hj
    | act ho hw hx ha hn hb =>
      simp only [hd, hj.1, Bool.false_eq_true, if_false]
      exact ih hj.2

theorem Tra.base_in (hl : LeOk rec) {N : Nat} (h : Tra rec P ops S0 fr0 T fr S) (hN : S.next ≤ N) (fresh : ∀ id, S0.next ≤ id → id < N → S0.h.find id = none) {id : Nat} {o : Ob} (hj : (baseOf D S0 T).h.find id = some o) :
    hd D S0.h.find T id = some o := by
  induction h with
  | nil => exact hj
  | jump h n hn ih => exact ih (Nat.le_trans hn hN) hj
  | cons h f hp ih =>
    rename_i e T fr fr' S
    have h1 := (f.le hl).next
    have ih := ih (Nat.le_trans h1 hN)
    have h0 := (h.le hl).next
    have hb := h.base_le (D := D) hl
    cases f with
    | mild ho hm ha hn =>
      rename_i i o' v ob
      cases ob with
      | none => exact ih hj
      | some ob =>
        simp only [hd]
        rw [if_neg]
        · exact ih hj
        · rintro ⟨_, rfl⟩
          have hlt : S.next < N := by simp [En.st, St.plus, St.new] at hN; omega
          rcases hb.1.dom _ _ hj with ⟨o', h2⟩ | ⟨_, h2⟩
          · rw [fresh S.next h0 hlt] at h2; cases h2
          · have := hb.2; omega
    | act ho hw hx ha hn hb =>
      simp only [hd]
      simp only [baseOf] at hj
      split
      · rename_i hc; rw [if_pos hc] at hj; exact hj
      · rename_i hc; rw [if_neg hc] at hj; exact ih hj

/-- A reading operation's value, when what it waits for has been carried out. -/
theorem sameE_at {ms : List Nat} {i : Nat} {op : Op} {ev : Operand → Option V} {v : V} (hD : ∀ j, ancOf ms j i = true → D j = true) : ∀ {T : List En} {acc : List (Nat × Ob)}, sameE P ms i op ev v S0 T acc = true →
    ∃ acc', (∀ p ∈ acc', p ∈ acc ∨ jin D T p.1 p.2) ∧ sameAt P op ev v { baseOf D S0 T with h := withs (baseOf D S0 T).h acc' } = true
  | [], acc, h => ⟨acc, fun p hp => .inl hp, h⟩
  | .mild j _ _ n ob :: T, acc, h => by
    cases ob with
    | none =>
      obtain ⟨acc', h1, h2⟩ := sameE_at hD (T := T) h
      exact ⟨acc', fun p hp => (h1 p hp).imp_right fun h => .inr h, h2⟩
    | some ob =>
      simp only [sameE] at h
      obtain ⟨acc', h1, h2⟩ := sameE_at hD (T := T) h
      refine ⟨acc', fun p hp => ?_, h2⟩
      rcases h1 p hp with h3 | h3
      · split at h3
        · rename_i hc
          rcases List.mem_cons.1 h3 with rfl | h3
          · exact .inr (.inl ⟨hD j hc, rfl, rfl⟩)
          · exact .inl h3
        · exact .inl h3
      · exact .inr (.inr h3)
  | .act j _ _ _ S :: T, acc, h => by
    simp only [sameE, Bool.and_eq_true, Bool.or_eq_true] at h
    simp only [baseOf]
    cases hd : D j
    · have hna : ¬ ancOf ms j i = true := fun h => by rw [hD j h] at hd; cases hd
      obtain ⟨acc', h1, h2⟩ := sameE_at hD (T := T) (h.2.resolve_left hna)
      simp only [Bool.false_eq_true, if_false]
      exact ⟨acc', fun p hp => (h1 p hp).imp_right fun h => ⟨hd, h⟩, h2⟩
    · simp only [if_true]
      exact ⟨acc, fun p hp => .inl hp, h.1⟩

end
end Go.Ev
