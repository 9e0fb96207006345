/-
  Ev, part 10b: the abstract state alone: numbers only grow, what is new lies in the new numbers.
-/
import Derived.Test.YtilldjgagokcfaaGreatEvStep
set_option linter.unusedVariables false
set_option linter.unusedSimpArgs false
namespace Go.Ev

structure StLe (S S' : St) : Prop where
  next : S.next ≤ S'.next
  dom : ∀ id o, S'.h.find id = some o → (∃ o', S.h.find id = some o') ∨ (S.next ≤ id ∧ id < S'.next)

theorem StLe.refl (S : St) : StLe S S := ⟨Nat.le_refl _, fun _ o h => .inl ⟨o, h⟩⟩

theorem StLe.trans {a b c : St} (h : StLe a b) (k : StLe b c) : StLe a c := by
  refine ⟨Nat.le_trans h.next k.next, fun id o ho => ?_⟩
  rcases k.dom id o ho with ⟨o', h1⟩ | ⟨h1, h2⟩
  · rcases h.dom id o' h1 with h3 | ⟨h3, h4⟩
    · exact .inl h3
    · exact .inr ⟨h3, Nat.lt_of_lt_of_le h4 k.next⟩
  · exact .inr ⟨Nat.le_trans h.next h1, h2⟩

theorem StLe.new (S : St) (o : Ob) : StLe S (S.new o) := by
  refine ⟨by simp [St.new], fun id o' ho => ?_⟩
  simp only [St.new, Tr.find_put] at ho ⊢
  split at ho
  · exact .inr ⟨by omega, by omega⟩
  · exact .inl ⟨_, ho⟩

theorem StLe.put {S : St} {id : Nat} {o : Ob} (h : S.h.find id = some o) (o' : Ob) : StLe S { S with h := S.h.put id o' } := by
  refine ⟨Nat.le_refl _, fun i x hx => ?_⟩
  simp only [Tr.find_put] at hx
  split at hx
  · subst_vars; exact .inl ⟨_, h⟩
  · exact .inl ⟨_, hx⟩

theorem StLe.del (S : St) (id : Nat) : StLe S { S with h := S.h.del id } := by
  refine ⟨Nat.le_refl _, fun i x hx => ?_⟩
  simp only [Tr.find_del] at hx
  split at hx
  · cases hx
  · exact .inl ⟨_, hx⟩

theorem StLe.up (S : St) {n : Nat} (h : S.next ≤ n) : StLe S { S with next := n } := ⟨h, fun _ _ h => .inl ⟨_, h⟩⟩

def Rs.st : Rs → St
  | .code _ _ S | .ret _ S | .pan _ S | .dret _ S => S

def LeOk (rec : Rec) : Prop := ∀ task S r, rec task S = some r → StLe S r.st

section
variable {P : Program} {S S' : St}

theorem storeE_le {t : TypeId} {p v : V} (h : storeE P t p v S = some S') : StLe S S' := by
  unfold storeE at h
  repeat' split at h
  all_goals try (exfalso; cases h; done)
  cases h
  rename_i h1 _ _ _ _ _ _
  exact StLe.put (by assumption) _

theorem appendE_le {t u : TypeId} {x y v : V} (h : appendE P t u x y S = some (v, S')) : StLe S S' := by
  unfold appendE at h
  repeat' split at h
  all_goals try (exfalso; cases h; done)
  all_goals first
    | (simp only [Option.some.injEq, Prod.mk.injEq] at h; obtain ⟨rfl, rfl⟩ := h; first | exact .refl _ | exact .new _ _ | exact (StLe.del S _).trans (.new _ _))

theorem copyE_le {t : TypeId} {x y v : V} (h : copyE P t x y S = some (v, S')) : StLe S S' := by
  unfold copyE at h
  split at h
  · split at h
    · split at h
      · cases h
      · simp only at h
        split at h
        · split at h
          · split at h
            · simp only [Option.some.injEq, Prod.mk.injEq] at h
              obtain ⟨rfl, rfl⟩ := h
              exact StLe.put (by assumption) _
            · cases h
          · cases h
        · cases h
    · cases h
  · cases h

theorem convertE_le {s d : TypeId} {x v : V} (h : convertE P s d x S = some (v, S')) : S' = S := by
  unfold convertE at h
  repeat' split at h
  all_goals try (exfalso; cases h; done)
  all_goals first
    | (simp only [Option.some.injEq, Prod.mk.injEq] at h; exact h.2.symm)
    | (simp only [Option.map_eq_some_iff, Prod.mk.injEq] at h; obtain ⟨_, _, _, h⟩ := h; exact h.symm)

theorem makeSliceE_le {t : TypeId} {l c v : V} (h : makeSliceE P t l c S = some (v, S')) : StLe S S' := by
  unfold makeSliceE at h
  repeat' split at h
  all_goals try (exfalso; cases h; done)
  all_goals
    simp only [Option.some.injEq, Prod.mk.injEq] at h; obtain ⟨rfl, rfl⟩ := h; first | exact .refl _ | exact .new _ _

theorem unsafeStrE_le {t : TypeId} {x n v : V} (h : unsafeStrE P t x n S = some (v, S')) : S' = S := by
  unfold unsafeStrE at h
  repeat' split at h
  all_goals try (exfalso; cases h; done)
  all_goals first
    | (simp only [Option.some.injEq, Prod.mk.injEq] at h; exact h.2.symm)
    | (simp only [Option.map_eq_some_iff, Prod.mk.injEq] at h; obtain ⟨_, _, _, h⟩ := h; exact h.symm)

theorem map_st {x : Option V} {f : V → V} {v : V} (h : x.map (fun u => (f u, S)) = some (v, S')) : S' = S := by
  simp only [Option.map_eq_some_iff, Prod.mk.injEq] at h
  obtain ⟨_, _, _, h⟩ := h
  exact h.symm

theorem builtinE_le {b : Builtin} {ts : List TypeId} {args : List V} {v : V} (h : builtinE P b ts args S = some (v, S')) : StLe S S' := by
  unfold builtinE at h
  repeat' split at h
  all_goals try (exfalso; cases h; done)
  all_goals first
    | exact appendE_le h
    | exact copyE_le h
    | (rw [unsafeStrE_le h]; exact .refl _)
    | (rw [map_st (f := fun v => v) h]; exact .refl _)
    | (cases h; exact .refl _)

theorem opE_le {op : Op} {ev : Operand → Option V} {v : V} (h : opE P op ev S = some (v, S')) : StLe S S' := by
  unfold opE at h
  repeat' split at h
  all_goals try (exfalso; cases h; done)
  all_goals first
    | (rw [map_st (f := fun v => v) h]; exact .refl _)
    | (simp only [Option.map_eq_some_iff, Prod.mk.injEq] at h; obtain ⟨_, _, _, h⟩ := h; subst h; first | exact .refl _ | exact .new _ _)
    | (simp only [Option.map_eq_some_iff, Prod.mk.injEq] at h; obtain ⟨_, h1, _, h⟩ := h; subst h; exact storeE_le h1)
    | (rw [convertE_le h]; exact .refl _)
    | exact makeSliceE_le h
    | exact builtinE_le h
    | (cases h; exact .refl _)

def Ac.le (S : St) : Ac → Prop
  | .val _ S' | .pan _ S' => StLe S S'
  | _ => True

theorem actE_le {rec : Rec} (hl : LeOk rec) {op : Op} {ev : Operand → Option V} {pan : Pan} {ac : Ac} (h : actE rec P op ev pan S = some ac) : ac.le S := by
  unfold actE at h
  split at h
  · split at h
    · cases h
    · split at h
      · cases h
      · split at h
        · split at h
          · rename_i hr; cases h; exact hl _ _ _ hr
          · rename_i hr; cases h; exact hl _ _ _ hr
          · cases h
        · split at h
          · split at h
            · cases h; exact StLe.refl _
            · cases h
          · cases h
  · split at h <;> cases h <;> first | exact StLe.refl _ | trivial
  · split at h
    · cases h
    · cases h; trivial
  · split at h
    · cases h; exact StLe.refl _
    · cases h
  · split at h
    · rename_i ho; cases h; exact opE_le ho
    · cases h

theorem putE_st {fr : Fr} {dst : Option Tmp} {v : V} {r : Rs} (h : putE fr dst v S = some r) : r.st = S := by
  unfold putE at h
  split at h
  · cases h; rfl
  · cases h

theorem oneE_le {rec : Rec} (hl : LeOk rec) {ops : Array Oper} {o : Oper} {fr : Fr} {r : Rs} (h : oneE rec P ops o fr S = some r) : StLe S r.st := by
  unfold oneE at h
  split at h
  · cases h
  · rw [putE_st h]; exact .refl _
  · split at h
    · cases h
    · rename_i ha; rw [putE_st h]; exact actE_le hl ha
    · rename_i ha; cases h; exact actE_le hl ha
    · rw [putE_st h]; exact .refl _
    · rw [putE_st h]; exact .refl _

theorem seqE_le {rec : Rec} (hl : LeOk rec) {ops : Array Oper} : ∀ (l : List Nat) {fr : Fr} {S : St} {r : Rs}, seqE rec P ops l fr S = some r → StLe S r.st
  | [], fr, S, r, h => by cases h; exact .refl _
  | i :: l, fr, S, r, h => by
    simp only [seqE] at h
    split at h
    · cases h
    · split at h
      · rename_i h1
        exact (oneE_le hl h1).trans (seqE_le hl l h)
      · rename_i h1
        exact oneE_le hl h

end
end Go.Ev
