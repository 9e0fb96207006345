/-
  Ev, part 13: the record of a region's run in its plan's order.
-/
import Derived.Test.YtilldjgagokcfaaGreatEvLin
set_option linter.unusedVariables false
set_option linter.unusedSimpArgs false
namespace Go.Ev

mutual
theorem V.beq_eq : ∀ {a b : V}, V.beq a b = true → a = b := by
  intro a b h
  cases a <;> cases b <;> simp [V.beq] at h <;> try rfl
  all_goals first
    | (subst h; rfl)
    | (obtain ⟨rfl, rfl⟩ := h; rfl)
    | (obtain ⟨⟨h1, h2⟩, h3⟩ := h; rw [h1, V.beqs_eq h2, h3])
    | (obtain ⟨⟨⟨h1, h2⟩, h3⟩, h4⟩ := h; first | (rw [h1, h2, V.beqs_eq h3, h4]) | rw [h1, h2, h3, h4])
    | (obtain ⟨⟨h1, h2⟩, h3⟩ := h; rw [h1, V.beqs_eq h2, V.beqs_eq h3])
    | (obtain ⟨h1, h2⟩ := h; rw [h1, V.beq_eq h2])
    | (rw [V.beqs_eq h])
theorem V.beqs_eq : ∀ {a b : List V}, V.beqs a b = true → a = b := by
  intro a b h
  cases a <;> cases b <;> simp [V.beqs] at h
  · rfl
  · rw [V.beq_eq h.1, V.beqs_eq h.2]
end

section
variable {P : Program} {ev : Operand → Option V} {S S' : St} {op : Op} {v : V}

theorem cls0 (hc : clsE op = 0) (h : opE P op ev S = some (v, S')) : ∀ U, opE P op ev U = some (v, U) := by
  intro U
  cases op
  case call c =>
    obtain ⟨callee, args, ats⟩ := c
    cases callee with
    | builtin b => cases b <;> simp [clsE] at hc <;> (simp only [opE] at h ⊢; split at h <;> (try (cases h; done)); simp only [builtinE] at h ⊢; repeat' split at h) <;> first | (simp_all; done) | (simp_all; obtain ⟨_, h1, rfl, _⟩ := h; exact h1)
    | value f => simp [clsE] at hc
    | invoke r m => simp [clsE] at hc
  all_goals simp [clsE] at hc
  all_goals
    simp only [opE] at h ⊢
    repeat' split at h
  all_goals first | (simp_all; done) | (simp_all; obtain ⟨_, h1, rfl, _⟩ := h; exact h1) | (simp_all; obtain ⟨_, h1, rfl, _⟩ := h; exact ⟨_, h1, rfl⟩)

theorem cls1 (hc : clsE op = 1) (h : opE P op ev S = some (v, S')) :
    (S'.next = S.next → ∀ U, opE P op ev U = some (v, U)) ∧
    (∀ t cs, S'.h.find S.next = some (.box t cs) → S'.next ≠ S.next → ∀ U, U.next = S.next → opE P op ev U = some (v, U.new (.box t cs))) := by
  cases op
  case call c =>
    obtain ⟨callee, args, ats⟩ := c
    cases callee with
    | builtin b => cases b <;> simp [clsE] at hc
    | value f => simp [clsE] at hc
    | invoke r m => simp [clsE] at hc
  all_goals simp [clsE] at hc
  case alloc t' =>
    simp only [opE, Option.map_eq_some_iff, Prod.mk.injEq] at h ⊢
    obtain ⟨z, h1, rfl, rfl⟩ := h
    refine ⟨fun h => by simp [St.new] at h, fun t cs hb _ U hU => ?_⟩
    simp [St.new, Tr.find_put] at hb
    obtain ⟨rfl, rfl⟩ := hb
    exact ⟨z, h1, by rw [hU], rfl⟩
  case box t' x =>
    simp only [opE, Option.map_eq_some_iff, Prod.mk.injEq] at h ⊢
    obtain ⟨z, h1, rfl, rfl⟩ := h
    refine ⟨fun h => by simp [St.new] at h, fun t cs hb _ U hU => ?_⟩
    simp [St.new, Tr.find_put] at hb
    obtain ⟨rfl, rfl⟩ := hb
    exact ⟨z, h1, by rw [hU], rfl⟩
  case makeSlice t' l c =>
    simp only [opE] at h ⊢
    split at h <;> try (cases h; done)
    rename_i a b ha hb'
    simp only [makeSliceE] at h ⊢
    repeat' split at h
    all_goals try (cases h; done)
    · rename_i hcnd hc0
      cases h
      refine ⟨fun _ U => ?_, fun t cs hb hn => absurd rfl hn⟩
      simp_all
    · cases h
      exact ⟨fun h => by simp [St.new] at h, fun t cs hb => by simp [St.new, Tr.find_put] at hb⟩
    · rename_i hcnd hc0 hl0
      simp only [Option.some.injEq, Prod.mk.injEq] at h
      obtain ⟨rfl, rfl⟩ := h
      refine ⟨fun h => by simp [St.new] at h, fun t cs hb _ U hU => ?_⟩
      simp [St.new, Tr.find_put] at hb
      obtain ⟨rfl, rfl⟩ := hb
      simp_all

theorem cls2 (hc : clsE op = 2) (h : opE P op ev S = some (v, S')) : S' = S := by
  cases op
  case call c =>
    obtain ⟨callee, args, ats⟩ := c
    cases callee with
    | builtin b => cases b <;> simp [clsE] at hc
    | value f => simp [clsE] at hc
    | invoke r m => simp [clsE] at hc
  all_goals simp [clsE] at hc
  case load t a =>
    simp only [opE] at h
    split at h
    · exact map_st (f := fun v => v) h
    · cases h
  case convert s d x =>
    simp only [opE] at h
    split at h
    · exact convertE_le h
    · cases h

theorem act_of_op {rec : Rec} {pan : Pan} (hc : clsE op < 3) (h : opE P op ev S = some (v, S')) : actE rec P op ev pan S = some (.val v S') := by
  cases op
  case call c =>
    obtain ⟨callee, args, ats⟩ := c
    cases callee with
    | builtin b => cases b <;> simp [clsE] at hc <;> simp only [actE, h]
    | value f => simp [clsE] at hc
    | invoke r m => simp [clsE] at hc
  all_goals first
    | (simp [clsE] at hc; done)
    | simp only [actE, h]

end
end Go.Ev
