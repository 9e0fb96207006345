import Derived.Test.YtodiioeddlmjhaaGreatDoorZ1
import Derived.Test.YtodiioeddlmjhaaGreatDoorXE
import Derived.Test.YtodiioeddlmjhaaGreatDoorSho
set_option linter.unusedVariables false
set_option linter.unusedSimpArgs false
namespace Go.Proofs.YtodiioeddlmjhaaGreatDoor
open Go.RowKit Go.Ev
set_option maxRecDepth 100000
set_option linter.unusedVariables false
set_option linter.unusedSimpArgs false
attribute [local irreducible] Go.Ev.opE
theorem showsT : ClosedT Tryz.prog 14 := closedT_of 3000 shows_run
theorem showsS : Pu Tryz.prog 14 [] (.bool true) := fun S => .inl ⟨_, S, lim_closed showsT S, rfl, Same.refl S⟩
set_option maxHeartbeats 4000000 in
theorem trees {e : Ex} {cs : List V} (he : ExC e cs) (S : St) :
 CallTo Tryz.prog 3 [.agg cs] S (fun v _ => v = .bool true) (fun _ _ => False) := by
 obtain ⟨U, hU, bx, s0⟩ := box1 S 27 cs
 have k0 : Sb U U := Sb.refl U
 have kk : Same U U := Same.refl U
 have cw := showsS.pb
 have cG := greatS he
 have d1 := syntaxShow he
 have d2 := (checkF he).pb
 have d3 := (fSize he).pb
 have d4 := (fDepth he).pb
 refine CallTo.of (n := 52) Tryz.func3 rfl rfl ?_
 repeat' first
  | refine Opl.val (op_box rfl) rfl (Opl.cast (S' := U) ?_ hU)
  | refine Opl.val (op_load rfl (ld_sA bx (by assumption) he.len7)) rfl ?_
  | (refine Opl.callQ kk rfl (by kernel_rfl) cG rfl (fun v S1 hv k1 => ?_); obtain ⟨q, rfl, hq⟩ := hv; have ks := k1.sb)
  | refine .std ?_ | refine .nil ?_ | refine .seq ?_ | refine .region ?_ | refine .xs ?_ | refine .kb ?_ | refine .leaf ?_ | refine .block ?_ | refine .gn ?_ | refine .dr ?_ | fail
 cases q
 case true =>
  repeat' first
   | refine Go.condT rfl ?_
   | refine Opl.callB (U0 := U) (by assumption) rfl (by kernel_rfl) cw rfl (fun S4 k4 => ?_)
   | exact At.fnr rfl rfl rfl rfl
   | refine .std ?_ | refine .nil ?_ | refine .seq ?_ | refine .region ?_ | refine .xs ?_ | refine .kb ?_ | refine .leaf ?_ | refine .block ?_ | refine .gn ?_ | refine .dr ?_ | fail
 case false =>
 have hsm := hq rfl
 have e1 := (refShow he hsm).pb
 have e2 := (refCheck he hsm).pb
 have e3 := (refSize he hsm).pb
 have e4 := (refDepth he hsm).pb
 obtain ⟨w, er, hv⟩ : ∃ (w : List UInt8) (er : Int), showV e = .tup [.str w, .int .i64 er] := by
  unfold showV
  split
  ·exact ⟨_, _, rfl⟩
  ·exact ⟨_, _, rfl⟩
 rw [hv] at d1 e1
 repeat' first
  | refine Opl.val (op_load rfl (ld_sA bx (by assumption) he.len7)) rfl ?_
  | refine Opl.callB (U0 := U) (by assumption) rfl (by kernel_rfl) d1 rfl (fun S4 k4 => ?_)
  | refine Opl.callB (U0 := U) (by assumption) rfl (by kernel_rfl) e1 rfl (fun S4 k4 => ?_)
  | refine Go.condF rfl ?_
  | refine Go.draw [0, 1, 0, 7, 15, 31, 63, 127, 63, 511, 1023, 2047, 4095, 8191, 16383, 8191, 65535, 131071, 262143, 524287, 1048575, 1048575, 4194303, 8388607, 16777215, 33554431, 33554431, 134217727, 268435455, 536870911, 1073741823, 2147483647, 4294967295] [0, 1, 2, 3, 4, 5, 6, 7, 8, 9, 10, 11, 12, 13, 14, 15, 16, 17, 18, 19, 20, 21, 22, 23, 24, 25, 26, 27, 28, 29, 30, 31, 32] (by kernel_rfl) (Sb U) ?_
  | refine .std ?_ | refine .nil ?_ | refine .seq ?_ | refine .region ?_ | refine .xs ?_ | refine .kb ?_ | refine .leaf ?_ | refine .block ?_ | refine .gn ?_ | refine .dr ?_ | fail
 repeat' first
  | refine Drw.c0 rfl rfl (op_move rfl) rfl ?_
  | refine Drw.c0 rfl rfl (op_assign rfl) rfl ?_
  | refine Drw.c0 rfl rfl (op_pickT rfl rfl) rfl ?_
  | refine Drw.c0 rfl rfl (op_int rfl rfl rfl (int_eql _)) rfl ?_
  | refine Drw.c0 rfl rfl (op_str rfl rfl (str_eql _)) rfl ?_
  | refine Drw.c2g rfl rfl (by assumption) (by assumption) (fun U hU => op_load rfl (ld_sA bx hU he.len7)) rfl ?_
  | refine Drw.callB (by assumption) rfl rfl (by kernel_rfl) d2 rfl (fun S4 k4 => ?_)
  | refine Drw.callB (by assumption) rfl rfl (by kernel_rfl) e2 rfl (fun S4 k4 => ?_)
  | refine Drw.callB (by assumption) rfl rfl (by kernel_rfl) d3 rfl (fun S4 k4 => ?_)
  | refine Drw.callB (by assumption) rfl rfl (by kernel_rfl) e3 rfl (fun S4 k4 => ?_)
  | refine Drw.callB (by assumption) rfl rfl (by kernel_rfl) d4 rfl (fun S4 k4 => ?_)
  | refine Drw.callB (by assumption) rfl rfl (by kernel_rfl) e4 rfl (fun S4 k4 => ?_)
  | refine Drw.callB (by assumption) rfl rfl (by kernel_rfl) cw rfl (fun S4 k4 => ?_)
  | refine Drw.nil ?_
 repeat' first | refine .std ?_ | refine .nil ?_ | refine .seq ?_ | refine .region ?_ | refine .xs ?_ | refine .kb ?_ | refine .leaf ?_ | refine .block ?_ | refine .gn ?_ | refine .dr ?_ | fail
 exact At.fnr rfl rfl rfl rfl
end Go.Proofs.YtodiioeddlmjhaaGreatDoor
