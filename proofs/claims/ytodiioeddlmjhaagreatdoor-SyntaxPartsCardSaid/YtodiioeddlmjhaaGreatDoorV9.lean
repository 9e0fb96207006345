import Derived.Test.YtodiioeddlmjhaaGreatDoorV8a
import Derived.Test.YtodiioeddlmjhaaGreatDoorV8b
import Derived.Test.YtodiioeddlmjhaaGreatDoorT8
set_option linter.unusedVariables false
set_option linter.unusedSimpArgs false
namespace Go.Proofs.YtodiioeddlmjhaaGreatDoor
open Go.RowKit Go.Ev
set_option maxRecDepth 100000
set_option linter.unusedVariables false
set_option linter.unusedSimpArgs false
attribute [local irreducible] Go.Ev.opE
theorem exprF (id : Nat) : ∀ (N : Nat) (e : Ex) (cs : List V), e.nodes ≤ N → ExC e cs → nodesE e = 0 → Prc 50 [.ptr id 0, .agg cs] id (textE e) := by
  intro N
  induction N with
  | zero => intro e cs hN; cases e; simp [Ex.nodes] at hN
  | succ N IHN =>
  intro e cs hN he h0
  obtain ⟨hf, hok⟩ := nodes_ok h0
  have hrec : Rec id e := fun x hx cs hc => IHN x cs (by have := Ex.parts_nodes hx; omega) hc (hok x hx)
  have hk0 := hf.k0
  have hk1 := hf.k1
  by_cases hB : e.kind = 6 ∨ e.kind = 7 ∨ e.kind = 8 ∨ e.kind = 9 ∨ e.kind = 17
  · exact exprB id he hf hok hrec hB
  · exact exprA id he hf hok hrec (by omega)
def showV (e : Ex) : V := if checkE e = 0 then .tup [.str (textE e), .int .i64 0] else .tup [.str [], .int .i64 (checkE e)]
theorem bd_prn' : buildE Tryz.prog 86 [] = some (.agg [.nilp, .nils]) := by kernel_rfl
set_option maxHeartbeats 4000000 in
theorem syntaxShow {e : Ex} {cs : List V} (he : ExC e cs) : Pb Tryz.prog 15 [.agg cs] (showV e) := by
  intro S
  have c1 := checkF he
  obtain ⟨U, hU, bx, s0⟩ := box1 S 27 cs
  have k0 : Same U U := Same.refl U
  refine CallTo.of (n := 20) Tryz.func15 rfl rfl ?_
  by_cases h0 : checkE e = 0
  · obtain ⟨hn, hl⟩ := check_textE h0
    have hv : showV e = .tup [.str (textE e), .int .i64 0] := if_pos h0
    rw [hv]
    repeat' first
     | refine Opl.val (op_box rfl) rfl (Opl.cast (S' := U) ?_ hU)
     | refine Opl.val (op_load rfl (ld_bxA bx (by assumption) he.len7)) rfl ?_
     | refine Opl.callS (U0 := U) (by assumption) rfl (by kernel_rfl) c1 rfl (fun S1 k1 => ?_)
     | refine Opl.val (op_int rfl rfl rfl (neq_i (q := false) (by rw [h0]; rfl))) rfl ?_
     | refine Go.condF rfl ?_
     | refine Opl.val (op_build0 bd_prn') rfl ?_
     | refine .std ?_ | refine .nil ?_ | refine .seq ?_ | refine .region ?_ | refine .xs ?_ | refine .kb ?_ | refine .leaf ?_ | refine .block ?_ | refine .gn ?_ | refine .dr ?_ | fail
    obtain ⟨V1, hV, by1, s1⟩ := box1 S1 86 [.nilp, .nils]
    have p1 : Prz V1 S1.next [] := ⟨by1.lt, _, _, by1.box, .inl rfl, .inl ⟨rfl, rfl⟩⟩
    have kUV : Same U V1 := k1.trans s1
    have b1 : Bx V1 S.next 27 cs := bx.same kUV
    have hlt : S.next < S1.next := Nat.lt_of_lt_of_le bx.lt k1.next
    have bp : Bp V1 S1.next S.next 27 cs := Bp.of b1 (by omega)
    have kV : KeepB V1 V1 S1.next := KeepB.refl V1 _
    have kS : Same S V1 := s0.trans kUV
    have c2 := exprF S1.next _ e cs (Nat.le_refl _) he hn
    repeat' first
     | refine Opl.val (op_box rfl) rfl (Opl.cast (S' := V1) ?_ hV)
     | refine Opl.val (op_load rfl (ld_pA bp (by assumption) he.len7)) rfl ?_
     | refine Opl.callP (U0 := V1) p1 kV rfl (by kernel_rfl) c2 trivial (by simp; omega) rfl (fun v S2 p2 k2 => ?_)
     | (refine Opl.call rfl (by kernel_rfl) (stringF p2 (by simp; omega)) rfl (fun v S3 hw => ?_) (fun _ _ h => h.elim); obtain ⟨rfl, rfl⟩ := hw)
     | exact At.fnr rfl rfl rfl ⟨rfl, k2.sbOf kS (Nat.le_of_lt hlt)⟩
     | refine .std ?_ | refine .nil ?_ | refine .seq ?_ | refine .region ?_ | refine .xs ?_ | refine .kb ?_ | refine .leaf ?_ | refine .block ?_ | refine .gn ?_ | refine .dr ?_ | fail
  · have hv : showV e = .tup [.str [], .int .i64 (checkE e)] := if_neg h0
    rw [hv]
    repeat' first
     | refine Opl.val (op_box rfl) rfl (Opl.cast (S' := U) ?_ hU)
     | refine Opl.val (op_load rfl (ld_bxA bx (by assumption) he.len7)) rfl ?_
     | refine Opl.callS (U0 := U) (by assumption) rfl (by kernel_rfl) c1 rfl (fun S1 k1 => ?_)
     | refine Opl.val (op_int rfl rfl rfl (neq_i (q := true) (by rw [decide_eq_false h0]; rfl))) rfl ?_
     | refine Go.condT rfl ?_
     | exact At.fnr rfl rfl rfl ⟨rfl, (s0.trans (by assumption)).sb⟩
     | refine .std ?_ | refine .nil ?_ | refine .seq ?_ | refine .region ?_ | refine .xs ?_ | refine .kb ?_ | refine .leaf ?_ | refine .block ?_ | refine .gn ?_ | refine .dr ?_ | fail
end Go.Proofs.YtodiioeddlmjhaaGreatDoor
