import Derived.Test.YtodiioeddlmjhaaGreatDoorTab
import Derived.Test.YtodiioeddlmjhaaGreatDoorE10
set_option linter.unusedVariables false
set_option linter.unusedSimpArgs false
namespace Go.Proofs.YtodiioeddlmjhaaGreatDoor
open Go.RowKit Go.Ev
set_option maxRecDepth 100000
set_option linter.unusedVariables false
set_option linter.unusedSimpArgs false
attribute [local irreducible] Go.Ev.opE
theorem pack_n {a b : Int} (h : a = b) : packV [V.int .i64 a] = V.int .i64 b := by rw [h]; rfl
set_option maxHeartbeats 2000000 in
theorem kindF (c : UInt8) : Pu Tryz.prog 202 [.int .u8 c.toNat] (.int .i64 (kindB c : Nat)) := by
  intro S
  rw [kindB_nat]
  refine CallTo.of (n := 39) Tryz.func202 rfl rfl ?_
  repeat' first
   | refine Opl.fresh (op_int rfl rfl rfl rfl) rfl (fun q hq => ?_)
   | refine op_gyes rfl ?_ rfl
   | refine .gn ?_
   | (refine Opl.gonTN rfl rfl (fun hq => ?_) (fun hq => ?_) <;> subst hq)
   | (refine Opl.gonFN rfl rfl (fun hq => ?_) (fun hq => ?_) <;> subst hq)
   | (refine Opl.gonT rfl rfl (fun hq => ?_) (fun hq => ?_) <;> subst hq)
   | (refine Opl.gonF rfl rfl (fun hq => ?_) (fun hq => ?_) <;> subst hq)
   | refine Go.condT rfl ?_
   | refine Go.condF rfl ?_
   | (refine Go.condN rfl (fun hq => ?_) (fun hq => ?_) <;> subst hq)
   | (refine Go.condV rfl (fun hq => ?_) (fun hq => ?_) <;> subst hq)
   | refine At.fnr rfl rfl rfl ⟨pack_n ?_, Same.refl _⟩
   | refine .std ?_ | refine .nil ?_ | refine .seq ?_ | refine .region ?_ | refine .xs ?_ | refine .kb ?_ | refine .leaf ?_ | refine .block ?_ | refine .gn ?_ | refine .dr ?_ | fail
  all_goals
    simp only [beq_iff_eq, beq_eq_false_iff_ne, decide_eq_true_eq, decide_eq_false_iff_not, ne_eq] at *
    (repeat' split) <;> first | rfl | omega
end Go.Proofs.YtodiioeddlmjhaaGreatDoor
