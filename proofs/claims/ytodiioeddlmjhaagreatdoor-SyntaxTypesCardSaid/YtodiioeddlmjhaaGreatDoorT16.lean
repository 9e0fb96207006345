/-
  CheckType of the reference.
-/
import Derived.Test.YtodiioeddlmjhaaGreatDoorT15a
import Derived.Test.YtodiioeddlmjhaaGreatDoorT15b
import Derived.Test.YtodiioeddlmjhaaGreatDoorT15c
import Derived.Test.YtodiioeddlmjhaaGreatDoorT15d
set_option linter.unusedVariables false
set_option linter.unusedSimpArgs false
namespace Go.Proofs.YtodiioeddlmjhaaGreatDoor
open Go.RowKit Go.Ev
set_option maxRecDepth 100000
set_option linter.unusedVariables false
set_option linter.unusedSimpArgs false
attribute [local irreducible] Go.Ev.opE

theorem refTypeChecked : ∀ (N : Nat) (t : Ty) (cs : List V), t.nodes ≤ N → TyC t cs → Pu Tryz.prog 73 [.agg cs] (.int .i64 (tnodesE t)) := by
  intro N
  induction N with
  | zero => intro t cs hN; cases t; simp [Ty.nodes] at hN
  | succ N IHN =>
    intro t cs hN ht
    have hrec : ∀ x ∈ t.l, ∀ v, TyV x v → Pu Tryz.prog 73 [.agg v.cells] (.int .i64 (tnodesE x)) := fun x hx v hv => IHN x _ (by have := Ty.part hx; omega) hv
    rcases kindCase t.kind with ⟨g1, g6, g5, t1, _⟩ | ⟨g1, g6, g5, t1, _⟩ | ⟨g1, g6, g5, t1, _⟩ | ⟨g1, g6, g5, t1, _⟩
    · exact refNode1 ht hrec rfl rfl rfl g1 g6 g5 t1
    · exact refNode6 ht hrec rfl rfl rfl g1 g6 g5 t1
    · exact refNode5 ht hrec rfl rfl rfl g1 g6 g5 t1
    · exact refNode0 ht hrec rfl rfl rfl g1 g6 g5 t1

set_option maxHeartbeats 2000000 in
theorem refCheckType {t : Ty} {cs : List V} (ht : TyC t cs) : Pu Tryz.prog 34 [.agg cs] (.int .i64 (checkTyE t)) := by
  intro S
  obtain ⟨U, hU, bx, s0⟩ := box1 S 46 cs
  have k0 : Same U U := Same.refl U
  have c1 := refTypeLeft t.nodes t cs (Nat.le_refl _) ht 3000 200
  have c2 := refTypeChecked t.nodes t cs (Nat.le_refl _) ht
  have hq := left_take t
  obtain ⟨q, hqq⟩ : ∃ q, (takeT t 1 (3000, 0)).1 = q := ⟨_, rfl⟩
  have hspec : checkTyE t = if q then tnodesE t else 3 := by unfold checkTyE; rw [hqq]
  rw [hqq] at hq
  rw [hspec]
  refine CallTo.of (n := 8) Tryz.func34 rfl rfl ?_
  repeat' first
   | refine Opl.val (op_box rfl) rfl (Opl.cast (S' := U) ?_ hU)
   | refine Opl.val (op_load rfl (ld_bxA bx (by assumption) ht.len6)) rfl ?_
   | refine Opl.val (op_int rfl rfl rfl (lss_i hq)) rfl ?_
   | refine Opl.callS (U0 := U) (by assumption) rfl (by kernel_rfl) c1 rfl (fun S8 k8 => ?_)
   | refine Opl.callS (U0 := U) (by assumption) rfl (by kernel_rfl) c2 rfl (fun S8 k8 => ?_)
   | refine op_gyes rfl ?_ rfl
   | refine .gn ?_
   | (refine Opl.gonTN rfl rfl (fun hq => ?_) (fun hq => ?_) <;> subst hq)
   | (refine Opl.gonFN rfl rfl (fun hq => ?_) (fun hq => ?_) <;> subst hq)
   | (refine Opl.gonT rfl rfl (fun hq => ?_) (fun hq => ?_) <;> subst hq)
   | (refine Opl.gonF rfl rfl (fun hq => ?_) (fun hq => ?_) <;> subst hq)
   | refine Go.condT rfl ?_
   | refine Go.condF rfl ?_
   | (refine Go.condN rfl (fun hq => ?_) (fun hq => ?_) <;> subst hq)
   | (refine Go.condV rfl (fun hq => ?_) (fun hq => ?_) <;> subst hq)
   | exact At.fnr rfl rfl rfl ⟨rfl, s0.trans (by assumption)⟩
   | refine .std ?_ | refine .nil ?_ | refine .seq ?_ | refine .region ?_ | refine .xs ?_ | refine .kb ?_ | refine .leaf ?_ | refine .block ?_ | refine .gn ?_ | refine .dr ?_ | fail

end Go.Proofs.YtodiioeddlmjhaaGreatDoor
