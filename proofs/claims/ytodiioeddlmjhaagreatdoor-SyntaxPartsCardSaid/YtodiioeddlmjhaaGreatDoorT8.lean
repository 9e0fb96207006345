import Derived.Test.YtodiioeddlmjhaaGreatDoorT7
set_option linter.unusedVariables false
set_option linter.unusedSimpArgs false
namespace Go.Proofs.YtodiioeddlmjhaaGreatDoor
open Go.RowKit Go.Ev
set_option maxRecDepth 100000
set_option linter.unusedVariables false
set_option linter.unusedSimpArgs false
attribute [local irreducible] Go.Ev.opE
theorem check_fits {e : Ex} (h : checkE e = 0) : e.nodes ≤ 3000 ∧ e.depth ≤ 200 := by
  unfold checkE at h
  cases hf : fitsB e with
  | false => rw [hf] at h; cases h
  | true =>
    unfold fitsB at hf
    simp only [Bool.and_eq_true, Nat.ble_eq] at hf
    exact hf
set_option maxHeartbeats 2000000 in
theorem checkF {e : Ex} {cs : List V} (he : ExC e cs) : Pu Tryz.prog 17 [.agg cs] (.int .i64 (checkE e)) := by
  intro S
  obtain ⟨U, hU, bx, s0⟩ := box1 S 27 cs
  have k0 : Same U U := Same.refl U
  refine CallTo.of (n := 11) Tryz.func17 rfl rfl ?_
  repeat' first
   | refine Opl.val (op_box rfl) rfl (Opl.cast (S' := U) ?_ hU)
   | refine Opl.val (op_load rfl (ld_bxA bx k0 he.len7)) rfl ?_
   | (refine Opl.callQ k0 rfl (by kernel_rfl) (measuredF he) rfl (fun v S3 hv k3 => ?_); obtain ⟨l, p, rfl, hlp⟩ := hv)
   | refine .std ?_ | refine .nil ?_ | refine .seq ?_ | refine .region ?_ | refine .xs ?_ | refine .kb ?_ | refine .leaf ?_ | refine .block ?_ | refine .gn ?_ | refine .dr ?_ | fail
  obtain ⟨W, st1, b4, k4⟩ := lay (P := Tryz.prog) (T := 91) [.int .i64 0, .int .i64 0] S3 (cs := [.int .i64 l, .int .i64 p]) rfl rfl
  repeat' first
   | refine Opl.val op_alloc rfl ?_
   | refine Opl.eff (op_store rfl rfl st1) ?_
   | exact At.fnr rfl rfl rfl ⟨rfl, (s0.trans k3).trans k4⟩
   | refine .std ?_ | refine .nil ?_ | refine .seq ?_ | refine .region ?_ | refine .xs ?_ | refine .kb ?_ | refine .leaf ?_ | refine .block ?_ | refine .gn ?_ | refine .dr ?_ | fail
set_option maxHeartbeats 2000000 in
theorem fSize {e : Ex} {cs : List V} (he : ExC e cs) : Pu Tryz.prog 19 [.agg cs] (.int .i64 (sizeE e)) := by
  intro S
  obtain ⟨U, hU, bx, s0⟩ := box1 S 27 cs
  have k0 : Same U U := Same.refl U
  obtain ⟨c, hc⟩ : ∃ c, checkE e = c := ⟨_, rfl⟩
  obtain ⟨q, hq⟩ : ∃ q, (!decide (c = 0)) = q := ⟨_, rfl⟩
  refine CallTo.of (n := 15) Tryz.func19 rfl rfl ?_
  repeat' first
   | refine Opl.val (op_box rfl) rfl (Opl.cast (S' := U) ?_ hU)
   | refine Opl.val (op_load rfl (ld_bxA bx k0 he.len7)) rfl ?_
   | (refine Opl.callQ k0 rfl (by kernel_rfl) (measuredF he) rfl (fun v S3 hv k3 => ?_); obtain ⟨l, p, rfl, hlp⟩ := hv)
   | refine .std ?_ | refine .nil ?_ | refine .seq ?_ | refine .region ?_ | refine .xs ?_ | refine .kb ?_ | refine .leaf ?_ | refine .block ?_ | refine .gn ?_ | refine .dr ?_ | fail
  rw [hc] at hlp
  rw [hc]
  obtain ⟨W, st1, b4, k4⟩ := lay (P := Tryz.prog) (T := 91) [.int .i64 0, .int .i64 0] S3 (cs := [.int .i64 l, .int .i64 p]) rfl rfl
  have kW : Same W W := Same.refl W
  cases q
  case true =>
    have h0 : c ≠ 0 := by simpa using hq
    have hr : sizeE e = 0 := by unfold sizeE; rw [hc, if_neg h0]
    repeat' first
     | refine Opl.val op_alloc rfl ?_
     | refine Opl.eff (op_store rfl rfl st1) ?_
     | refine Opl.val (op_int rfl rfl rfl (neq_i hq)) rfl ?_
     | refine Go.condT rfl ?_
     | exact At.fnr rfl rfl rfl ⟨pack_n hr.symm, (s0.trans k3).trans k4⟩
     | refine .std ?_ | refine .nil ?_ | refine .seq ?_ | refine .region ?_ | refine .xs ?_ | refine .kb ?_ | refine .leaf ?_ | refine .block ?_ | refine .gn ?_ | refine .dr ?_ | fail
  case false =>
    have h0 : c = 0 := by simpa using hq
    have hr : sizeE e = e.nodes := by unfold sizeE; rw [hc, if_pos h0]
    obtain ⟨hl, hp⟩ := hlp h0
    obtain ⟨hn1, hn2⟩ := check_fits (hc.trans h0)
    have hs : intOp .sub .i64 3000 l = some (.int .i64 (e.nodes : Int)) := by
      have : IntKind.wrap .i64 (3000 - l) = (e.nodes : Int) := by rw [hl, wrap_i64_id (by constructor <;> omega)]; omega
      simp only [intOp, this]
    repeat' first
     | refine Opl.val op_alloc rfl ?_
     | refine Opl.eff (op_store rfl rfl st1) ?_
     | refine Opl.val (op_load rfl (ld_bx b4 kW _ rfl)) rfl ?_
     | refine Opl.val (op_int rfl rfl rfl (neq_i hq)) rfl ?_
     | refine Opl.val (op_int rfl rfl rfl hs) rfl ?_
     | refine Go.condF rfl ?_
     | exact At.fnr rfl rfl rfl ⟨pack_n hr.symm, (s0.trans k3).trans k4⟩
     | refine .std ?_ | refine .nil ?_ | refine .seq ?_ | refine .region ?_ | refine .xs ?_ | refine .kb ?_ | refine .leaf ?_ | refine .block ?_ | refine .gn ?_ | refine .dr ?_ | fail
set_option maxHeartbeats 2000000 in
theorem fDepth {e : Ex} {cs : List V} (he : ExC e cs) : Pu Tryz.prog 21 [.agg cs] (.int .i64 (depthE e)) := by
  intro S
  obtain ⟨U, hU, bx, s0⟩ := box1 S 27 cs
  have k0 : Same U U := Same.refl U
  obtain ⟨c, hc⟩ : ∃ c, checkE e = c := ⟨_, rfl⟩
  obtain ⟨q, hq⟩ : ∃ q, (!decide (c = 0)) = q := ⟨_, rfl⟩
  refine CallTo.of (n := 14) Tryz.func21 rfl rfl ?_
  repeat' first
   | refine Opl.val (op_box rfl) rfl (Opl.cast (S' := U) ?_ hU)
   | refine Opl.val (op_load rfl (ld_bxA bx k0 he.len7)) rfl ?_
   | (refine Opl.callQ k0 rfl (by kernel_rfl) (measuredF he) rfl (fun v S3 hv k3 => ?_); obtain ⟨l, p, rfl, hlp⟩ := hv)
   | refine .std ?_ | refine .nil ?_ | refine .seq ?_ | refine .region ?_ | refine .xs ?_ | refine .kb ?_ | refine .leaf ?_ | refine .block ?_ | refine .gn ?_ | refine .dr ?_ | fail
  rw [hc] at hlp
  rw [hc]
  obtain ⟨W, st1, b4, k4⟩ := lay (P := Tryz.prog) (T := 91) [.int .i64 0, .int .i64 0] S3 (cs := [.int .i64 l, .int .i64 p]) rfl rfl
  have kW : Same W W := Same.refl W
  cases q
  case true =>
    have h0 : c ≠ 0 := by simpa using hq
    have hr : depthE e = 0 := by unfold depthE; rw [hc, if_neg h0]
    repeat' first
     | refine Opl.val op_alloc rfl ?_
     | refine Opl.eff (op_store rfl rfl st1) ?_
     | refine Opl.val (op_int rfl rfl rfl (neq_i hq)) rfl ?_
     | refine Go.condT rfl ?_
     | exact At.fnr rfl rfl rfl ⟨pack_n hr.symm, (s0.trans k3).trans k4⟩
     | refine .std ?_ | refine .nil ?_ | refine .seq ?_ | refine .region ?_ | refine .xs ?_ | refine .kb ?_ | refine .leaf ?_ | refine .block ?_ | refine .gn ?_ | refine .dr ?_ | fail
  case false =>
    have h0 : c = 0 := by simpa using hq
    have hr : depthE e = e.depth := by unfold depthE; rw [hc, if_pos h0]
    obtain ⟨hl, hp⟩ := hlp h0
    obtain ⟨hn1, hn2⟩ := check_fits (hc.trans h0)
    have hs : intOp .sub .i64 3000 l = some (.int .i64 (e.nodes : Int)) := by
      have : IntKind.wrap .i64 (3000 - l) = (e.nodes : Int) := by rw [hl, wrap_i64_id (by constructor <;> omega)]; omega
      simp only [intOp, this]
    repeat' first
     | refine Opl.val op_alloc rfl ?_
     | refine Opl.eff (op_store rfl rfl st1) ?_
     | refine Opl.val (op_load rfl (ld_bx b4 kW _ rfl)) rfl ?_
     | refine Opl.val (op_int rfl rfl rfl (neq_i hq)) rfl ?_
     | refine Opl.val (op_int rfl rfl rfl hs) rfl ?_
     | refine Go.condF rfl ?_
     | exact At.fnr rfl rfl rfl ⟨pack_n (hp.trans hr.symm), (s0.trans k3).trans k4⟩
     | refine .std ?_ | refine .nil ?_ | refine .seq ?_ | refine .region ?_ | refine .xs ?_ | refine .kb ?_ | refine .leaf ?_ | refine .block ?_ | refine .gn ?_ | refine .dr ?_ | fail
end Go.Proofs.YtodiioeddlmjhaaGreatDoor
