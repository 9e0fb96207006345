/-
  SyntaxTypes' function.
-/
import Derived.Test.YtodiioeddlmjhaaGreatDoorY2
import Derived.Test.YtodiioeddlmjhaaGreatDoorUB
import Derived.Test.YtodiioeddlmjhaaGreatDoorSho
set_option linter.unusedVariables false
set_option linter.unusedSimpArgs false
namespace Go.Proofs.YtodiioeddlmjhaaGreatDoor
open Go.RowKit Go.Ev
set_option maxRecDepth 100000
set_option linter.unusedVariables false
set_option linter.unusedSimpArgs false
attribute [local irreducible] Go.Ev.opE

theorem showsT : ClosedT Tryz.prog 14 := closedT_of 3000 shows_run
theorem showsS : Pu Tryz.prog 14 [] (.bool true) := fun S => .inl ⟨_, S, lim_closed showsT S, rfl, Same.refl S⟩

set_option maxHeartbeats 4000000 in
theorem types {t : Ty} {cs : List V} (ht : TyC t cs) (S : St) :
    CallTo Tryz.prog 7 [.agg cs] S (fun v _ => v = .bool true) (fun _ _ => False) := by
  obtain ⟨U, hU, bx, s0⟩ := box1 S 46 cs
  have k0 : Sb U U := Sb.refl U
  have kk : Same U U := Same.refl U
  have c1 := syntaxShowType ht
  have c2 := (refShowType ht).pb
  have c3 := (checkTypeF ht).pb
  have c4 := (refCheckType ht).pb
  have c5 := showsS.pb
  obtain ⟨w, e, hv⟩ : ∃ (w : List UInt8) (e : Int), showTyV t = .tup [.str w, .int .i64 e] := by
    unfold showTyV
    split
    · exact ⟨_, _, rfl⟩
    · exact ⟨_, _, rfl⟩
  rw [hv] at c1 c2
  refine CallTo.of (n := 38) Tryz.func7 rfl rfl ?_
  repeat' first
   | refine Opl.val (op_box rfl) rfl (Opl.cast (S' := U) ?_ hU)
   | refine Opl.val (op_load rfl (ld_sA bx (by assumption) ht.len6)) rfl ?_
   | (refine Opl.callQ kk rfl (by kernel_rfl) (fGreatType ht) rfl (fun v S1 hv k1 => ?_); obtain ⟨q, rfl⟩ := hv; have ks := k1.sb)
   | refine op_gyes rfl ?_ rfl
   | refine .gn ?_
   | (refine Opl.gonTN rfl rfl (fun hq => ?_) (fun hq => ?_) <;> subst hq)
   | (refine Opl.gonFN rfl rfl (fun hq => ?_) (fun hq => ?_) <;> subst hq)
   | (refine Opl.gonT rfl rfl (fun hq => ?_) (fun hq => ?_) <;> subst hq)
   | (refine Opl.gonF rfl rfl (fun hq => ?_) (fun hq => ?_) <;> subst hq)
   | refine Go.condT rfl ?_
   | refine Go.condF rfl ?_
   | (refine Go.condN rfl (fun hq => ?_) (fun hq => ?_) <;> subst hq)
   | (refine Go.condV rfl (fun hq => ?_) (fun hq => ?_) <;> subst hq)
   | refine Opl.callB (U0 := U) (by assumption) rfl (by kernel_rfl) c5 rfl (fun S4 k4 => ?_)
   | refine Opl.callB (U0 := U) (by assumption) rfl (by kernel_rfl) c1 rfl (fun S4 k4 => ?_)
   | refine Opl.callB (U0 := U) (by assumption) rfl (by kernel_rfl) c2 rfl (fun S4 k4 => ?_)
   | refine Go.draw [0, 1, 0, 7, 15, 31, 63, 63, 255, 511, 1023, 2047, 2047, 8191, 16383, 32767, 65535, 131071, 262143] [0, 1, 2, 3, 4, 5, 6, 7, 8, 9, 10, 11, 12, 13, 14, 15, 16, 17, 18] (by kernel_rfl) (Sb U) ?_
   | exact At.fnr rfl rfl rfl rfl
   | refine .std ?_ | refine .nil ?_ | refine .seq ?_ | refine .region ?_ | refine .xs ?_ | refine .kb ?_ | refine .leaf ?_ | refine .block ?_ | refine .gn ?_ | refine .dr ?_ | fail
  repeat' first
    | refine Drw.c0 rfl rfl (op_move rfl) rfl ?_
    | refine Drw.c0 rfl rfl (op_assign rfl) rfl ?_
    | refine Drw.c0 rfl rfl (op_pickT rfl rfl) rfl ?_
    | refine Drw.c0 rfl rfl (op_int rfl rfl rfl (int_eql _)) rfl ?_
    | refine Drw.c0 rfl rfl (op_str rfl rfl (str_eql _)) rfl ?_
    | refine Drw.c2g rfl rfl (by assumption) (by assumption) (fun U hU => op_load rfl (ld_sA bx hU ht.len6)) rfl ?_
    | refine Drw.callB (by assumption) rfl rfl (by kernel_rfl) c3 rfl (fun S4 k4 => ?_)
    | refine Drw.callB (by assumption) rfl rfl (by kernel_rfl) c4 rfl (fun S4 k4 => ?_)
    | refine Drw.callB (by assumption) rfl rfl (by kernel_rfl) c5 rfl (fun S4 k4 => ?_)
    | refine Drw.nil ?_
  repeat' first | refine .std ?_ | refine .nil ?_ | refine .seq ?_ | refine .region ?_ | refine .xs ?_ | refine .kb ?_ | refine .leaf ?_ | refine .block ?_ | refine .gn ?_ | refine .dr ?_ | fail
  exact At.fnr rfl rfl rfl rfl

end Go.Proofs.YtodiioeddlmjhaaGreatDoor
