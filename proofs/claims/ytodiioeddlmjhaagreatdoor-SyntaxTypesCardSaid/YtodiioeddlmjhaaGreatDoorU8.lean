/-
  ShowType, by the program.
-/
import Derived.Test.YtodiioeddlmjhaaGreatDoorU7
import Derived.Test.YtodiioeddlmjhaaGreatDoorT11
set_option linter.unusedVariables false
set_option linter.unusedSimpArgs false
namespace Go.Proofs.YtodiioeddlmjhaaGreatDoor
open Go.RowKit Go.Ev
set_option maxRecDepth 100000
set_option linter.unusedVariables false
set_option linter.unusedSimpArgs false
attribute [local irreducible] Go.Ev.opE

/-- What both ShowTypes return. -/
def showTyV (t : Ty) : V := if checkTyE t = 0 then .tup [.str (textT t), .int .i64 0] else .tup [.str [], .int .i64 (checkTyE t)]

theorem bd_prn : buildE Tryz.prog 86 [] = some (.agg [.nilp, .nils]) := by kernel_rfl

set_option maxHeartbeats 4000000 in
theorem syntaxShowType {t : Ty} {cs : List V} (ht : TyC t cs) : Pb Tryz.prog 31 [.agg cs] (showTyV t) := by
  intro S
  have c1 := checkTypeF ht
  obtain ⟨U, hU, bx, s0⟩ := box1 S 46 cs
  have k0 : Same U U := Same.refl U
  refine CallTo.of (n := 20) Tryz.func31 rfl rfl ?_
  by_cases h0 : checkTyE t = 0
  · obtain ⟨hn, hl⟩ := check_ok h0
    have hv : showTyV t = .tup [.str (textT t), .int .i64 0] := if_pos h0
    rw [hv]
    repeat' first
     | refine Opl.val (op_box rfl) rfl (Opl.cast (S' := U) ?_ hU)
     | refine Opl.val (op_load rfl (ld_bxA bx (by assumption) ht.len6)) rfl ?_
     | refine Opl.callS (U0 := U) (by assumption) rfl (by kernel_rfl) c1 rfl (fun S1 k1 => ?_)
     | refine Opl.val (op_int rfl rfl rfl (neq_i (q := false) (by rw [h0]; rfl))) rfl ?_
     | refine Go.condF rfl ?_
     | refine Opl.val (op_build0 bd_prn) rfl ?_
     | refine .std ?_ | refine .nil ?_ | refine .seq ?_ | refine .region ?_ | refine .xs ?_ | refine .kb ?_ | refine .leaf ?_ | refine .block ?_ | refine .gn ?_ | refine .dr ?_ | fail
    obtain ⟨V1, hV, by1, s1⟩ := box1 S1 86 [.nilp, .nils]
    have p1 : Prz V1 S1.next [] := ⟨by1.lt, _, _, by1.box, .inl rfl, .inl ⟨rfl, rfl⟩⟩
    have kUV : Same U V1 := k1.trans s1
    have b1 : Bx V1 S.next 46 cs := bx.same kUV
    have hlt : S.next < S1.next := Nat.lt_of_lt_of_le bx.lt k1.next
    have bp : Bp V1 S1.next S.next 46 cs := Bp.of b1 (by omega)
    have kV : KeepB V1 V1 S1.next := KeepB.refl V1 _
    have kS : Same S V1 := s0.trans kUV
    have c2 := typF S1.next _ t cs (Nat.le_refl _) ht hn
    repeat' first
     | refine Opl.val (op_box rfl) rfl (Opl.cast (S' := V1) ?_ hV)
     | refine Opl.val (op_load rfl (ld_pA bp (by assumption) ht.len6)) rfl ?_
     | refine Opl.callP (U0 := V1) p1 kV rfl (by kernel_rfl) c2 trivial (by simp; omega) rfl (fun v S2 p2 k2 => ?_)
     | (refine Opl.call rfl (by kernel_rfl) (stringF p2 (by simp; omega)) rfl (fun v S3 hw => ?_) (fun _ _ h => h.elim); obtain ⟨rfl, rfl⟩ := hw)
     | exact At.fnr rfl rfl rfl ⟨rfl, k2.sbOf kS (Nat.le_of_lt hlt)⟩
     | refine .std ?_ | refine .nil ?_ | refine .seq ?_ | refine .region ?_ | refine .xs ?_ | refine .kb ?_ | refine .leaf ?_ | refine .block ?_ | refine .gn ?_ | refine .dr ?_ | fail
  · have hv : showTyV t = .tup [.str [], .int .i64 (checkTyE t)] := if_neg h0
    rw [hv]
    repeat' first
     | refine Opl.val (op_box rfl) rfl (Opl.cast (S' := U) ?_ hU)
     | refine Opl.val (op_load rfl (ld_bxA bx (by assumption) ht.len6)) rfl ?_
     | refine Opl.callS (U0 := U) (by assumption) rfl (by kernel_rfl) c1 rfl (fun S1 k1 => ?_)
     | refine Opl.val (op_int rfl rfl rfl (neq_i (q := true) (by rw [decide_eq_false h0]; rfl))) rfl ?_
     | refine Go.condT rfl ?_
     | exact At.fnr rfl rfl rfl ⟨rfl, (s0.trans (by assumption)).sb⟩
     | refine .std ?_ | refine .nil ?_ | refine .seq ?_ | refine .region ?_ | refine .xs ?_ | refine .kb ?_ | refine .leaf ?_ | refine .block ?_ | refine .gn ?_ | refine .dr ?_ | fail

end Go.Proofs.YtodiioeddlmjhaaGreatDoor
