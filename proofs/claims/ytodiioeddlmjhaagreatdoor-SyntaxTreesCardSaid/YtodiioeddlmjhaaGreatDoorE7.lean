import Derived.Test.YtodiioeddlmjhaaGreatDoorE6
set_option linter.unusedVariables false
set_option linter.unusedSimpArgs false
namespace Go.Ev
open Go.RowKit
def none3 : Rec := fun _ _ => none
theorem none3_ok [Glob] (P : Program) : RecOk P none3 where
 le := fun _ _ _ h => by cases h
 call := fun _ _ _ _ h => by cases h
 code := fun _ _ _ _ h => by cases h
 dcall := fun _ _ _ _ _ h => by cases h
inductive ChoR [Glob] (P : Program) (fr : Fr) (S : St) : Code → Code → Rs → Prop
theorem cho_ok [Glob] {P : Program} (hG : Good P) {fr : Fr} {S : St} {a c : Code} {r : Rs} (hr : ChoR P fr S a c r) : ∃ x fr' S', r = .code x fr' S' ∧ S.next + 1 ≤ S'.next ∧ StLe S S' ∧
 ∀ (base : Nat) (w₀ : World) (σ : Sg) (w : World) (A : Act) (b : Frame) (cs : List Frame) (k : List Item), Rel none2 base w₀ σ S w → AR σ fr A → PanR σ fr.pan b cs → True → Free σ S.next S'.next →
  Comes' P base w₀ σ S w (lone (b.atR A (.code (.seq a c) :: k)) cs w) b k cs x fr' S' := by
 cases hr
theorem ChoR.unique [Glob] {P : Program} {fr : Fr} {S : St} {a c : Code} {r r' : Rs} (h : ChoR P fr S a c r) (h' : ChoR P fr S a c r') : r = r' := by cases h
theorem ChoR.left [Glob] {P : Program} {fr : Fr} {S : St} {a c : Code} {r : Rs} (h : ChoR P fr S a c r) : ∃ i ops, a = .region i ops true ∧ (planOf ops).ok = false := by cases h
end Go.Ev
