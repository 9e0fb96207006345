/-
  SyntaxSame's function.
-/
import Derived.Test.YtodiioeddlmjhaaGreatDoorY2
import Derived.Test.YtodiioeddlmjhaaGreatDoorY4
import Derived.Test.YtodiioeddlmjhaaGreatDoorY5
import Derived.Test.YtodiioeddlmjhaaGreatDoorY6
import Derived.Test.YtodiioeddlmjhaaGreatDoorSho
set_option linter.unusedVariables false
set_option linter.unusedSimpArgs false
namespace Go.Proofs.YtodiioeddlmjhaaGreatDoor
open Go.RowKit Go.Ev
set_option maxRecDepth 100000
set_option linter.unusedVariables false
set_option linter.unusedSimpArgs false
attribute [local irreducible] Go.Ev.opE

theorem showsT : ClosedT Tryz.prog 14 := closedT_of 3000 shows_run
theorem showsS : Pu Tryz.prog 14 [] (.bool true) := fun S => .inl ⟨_, S, lim_closed showsT S, rfl, Same.refl S⟩

set_option maxHeartbeats 4000000 in
theorem same {e f : Ex} {t u : Ty} {cs ds xs ys : List V} (he : ExC e cs) (hf : ExC f ds) (ht : TyC t xs) (hu : TyC u ys) (S : St) :
    CallTo Tryz.prog 6 [.agg cs, .agg ds, .agg xs, .agg ys] S (fun v _ => v = .bool true) (fun _ _ => False) := by
  obtain ⟨U1, U2, hU1, hU2, b1, b2, s0⟩ := box2 S 27 27 cs ds
  obtain ⟨U3, U4, hU3, hU4, b3, b4, s1⟩ := box2 U2 46 46 xs ys
  have b1 := b1.same s1
  have b2 := b2.same s1
  have k0 : Same U4 U4 := Same.refl U4
  have c1 := syntaxSame _ e cs f ds (Nat.le_refl _) he hf
  have c2 := refSame _ e cs f ds (Nat.le_refl _) he hf
  have c3 := syntaxSameType _ t xs u ys (Nat.le_refl _) ht hu
  have c4 := refSameType _ t xs u ys (Nat.le_refl _) ht hu
  have c5 := syntaxSame _ e cs e cs (Nat.le_refl _) he he
  rw [Ex.same_refl] at c5
  refine CallTo.of (n := 48) Tryz.func6 rfl rfl ?_
  repeat' first
   | refine Opl.val (op_box rfl) rfl (Opl.cast (S' := U1) ?_ hU1)
   | refine Opl.val (op_box rfl) rfl (Opl.cast (S' := U2) ?_ hU2)
   | refine Opl.val (op_box rfl) rfl (Opl.cast (S' := U3) ?_ hU3)
   | refine Opl.val (op_box rfl) rfl (Opl.cast (S' := U4) ?_ hU4)
   | refine Opl.val (op_load rfl (ld_bxA b1 (by assumption) he.len7)) rfl ?_
   | refine Opl.val (op_load rfl (ld_bxA b2 (by assumption) hf.len7)) rfl ?_
   | refine Opl.val (op_load rfl (ld_bxA b3 (by assumption) ht.len6)) rfl ?_
   | refine Opl.val (op_load rfl (ld_bxA b4 (by assumption) hu.len6)) rfl ?_
   | refine op_gyes rfl ?_ rfl
   | refine .gn ?_
   | (refine Opl.gonT rfl rfl (fun hq => ?_) (fun hq => ?_) <;> subst hq)
   | (refine Opl.gonF rfl rfl (fun hq => ?_) (fun hq => ?_) <;> subst hq)
   | refine Go.condT rfl ?_
   | refine Go.condF rfl ?_
   | (refine Go.condV rfl (fun hq => ?_) (fun hq => ?_) <;> subst hq)
   | (refine Opl.callQ (by assumption) rfl (by kernel_rfl) (fGreat he) rfl (fun v S1 hv k1 => ?_); obtain ⟨q, rfl⟩ := hv)
   | (refine Opl.callQ (by assumption) rfl (by kernel_rfl) (fGreat hf) rfl (fun v S1 hv k1 => ?_); obtain ⟨q, rfl⟩ := hv)
   | (refine Opl.callQ (by assumption) rfl (by kernel_rfl) (fGreatType ht) rfl (fun v S1 hv k1 => ?_); obtain ⟨q, rfl⟩ := hv)
   | (refine Opl.callQ (by assumption) rfl (by kernel_rfl) (fGreatType hu) rfl (fun v S1 hv k1 => ?_); obtain ⟨q, rfl⟩ := hv)
   | refine Opl.callS (by assumption) rfl (by kernel_rfl) showsS rfl (fun S4 k4 => ?_)
   | refine Go.draw [0, 0, 3, 0, 0, 31, 63, 127, 255, 255, 1023, 255, 255, 8191, 16383, 32767, 65535, 131071, 131071, 524287, 1048575, 2097151, 4194303, 8388607, 16777215] [0, 1, 2, 3, 4, 5, 6, 7, 8, 9, 10, 11, 12, 13, 14, 15, 16, 17, 18, 19, 20, 21, 22, 23, 24] (by kernel_rfl) (Same U4) ?_
   | exact At.fnr rfl rfl rfl rfl
   | refine .std ?_ | refine .nil ?_ | refine .seq ?_ | refine .region ?_ | refine .xs ?_ | refine .kb ?_ | refine .leaf ?_ | refine .block ?_ | refine .gn ?_ | refine .dr ?_ | fail
  repeat' first
    | refine Drw.c0 rfl rfl (op_move rfl) rfl ?_
    | refine Drw.c0 rfl rfl (op_assign rfl) rfl ?_
    | refine Drw.c0 rfl rfl (op_pickT rfl rfl) rfl ?_
    | refine Drw.c0 rfl rfl (op_eqBT rfl rfl (by kernel_rfl)) rfl ?_
    | refine Drw.c2g rfl rfl (by assumption) (by assumption) (fun U hU => op_load rfl (ld_bxA b1 hU he.len7)) rfl ?_
    | refine Drw.c2g rfl rfl (by assumption) (by assumption) (fun U hU => op_load rfl (ld_bxA b2 hU hf.len7)) rfl ?_
    | refine Drw.c2g rfl rfl (by assumption) (by assumption) (fun U hU => op_load rfl (ld_bxA b3 hU ht.len6)) rfl ?_
    | refine Drw.c2g rfl rfl (by assumption) (by assumption) (fun U hU => op_load rfl (ld_bxA b4 hU hu.len6)) rfl ?_
    | refine Drw.callS (by assumption) rfl rfl (by kernel_rfl) c1 rfl (fun S4 k4 => ?_)
    | refine Drw.callS (by assumption) rfl rfl (by kernel_rfl) c2 rfl (fun S4 k4 => ?_)
    | refine Drw.callS (by assumption) rfl rfl (by kernel_rfl) c3 rfl (fun S4 k4 => ?_)
    | refine Drw.callS (by assumption) rfl rfl (by kernel_rfl) c4 rfl (fun S4 k4 => ?_)
    | refine Drw.callS (by assumption) rfl rfl (by kernel_rfl) c5 rfl (fun S4 k4 => ?_)
    | refine Drw.callS (by assumption) rfl rfl (by kernel_rfl) showsS rfl (fun S4 k4 => ?_)
    | refine Drw.nil ?_
  repeat' first | refine .std ?_ | refine .nil ?_ | refine .seq ?_ | refine .region ?_ | refine .xs ?_ | refine .kb ?_ | refine .leaf ?_ | refine .block ?_ | refine .gn ?_ | refine .dr ?_ | fail
  exact At.fnr rfl rfl rfl rfl

end Go.Proofs.YtodiioeddlmjhaaGreatDoor
