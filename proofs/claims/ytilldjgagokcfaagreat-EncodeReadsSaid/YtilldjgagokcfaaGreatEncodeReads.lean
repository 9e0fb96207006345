import Derived.Test.YtilldjgagokcfaaGreatXB
import Derived.Test.YtilldjgagokcfaaGreatIn
set_option linter.unusedVariables false
set_option linter.unusedSimpArgs false
namespace Go.Proofs.YtilldjgagokcfaaGreat.EncodeReads
open Go.ChangeShapes Go.WideShapes Go.ChangeAt Go.RowKit Go.ChangeMaps Go.Ev
set_option linter.unusedVariables false
theorem own : ownKnob Tryz.prog.godebug = none := by kernel_rfl
set_option maxRecDepth 100000 in
theorem good_nm : (Tryz.prog.funcs.all fun fn => fn.body.isNone || !decide (fn.name = "runtime.NumGoroutine")) = true := by kernel_rfl
set_option maxRecDepth 100000 in
theorem good_esc : ((List.range Tryz.prog.funcs.size).all fun i => match Tryz.prog.funcs[i]? with
    | some fn => fn.body.isSome || !decide (fn.name = "internal/abi.NoEscape") || Nat.beq i 150
    | none => true) = true := by kernel_rfl
set_option maxRecDepth 100000 in
theorem good : Go.Ev.Good Tryz.prog := good_of 150 Tryz.f150 good_nm good_esc Tryz.func150 (by kernel_rfl) (by kernel_rfl) (by kernel_rfl)
theorem walk {W : World} (s0 : ByteArray) (h0 : s0.size ≤ 9223372036854775807) :
    Calls Tryz.prog 4 #[.string s0] W fun e w' => e = .returned (.bool true) ∧ Below W.heap.size W w' := by
  rcases reads s0.data.toList S0 with ⟨v, S', h1, rfl⟩ | ⟨_, _, _, h⟩
  · have := ((lim_ok good).call 4 _ S0 _ h1).1 _ _ rfl W.heap.size W (Sg.of W) W [.string s0] (rel_of W) (fun _ _ _ => rfl) (.cons (.str _ rfl) .nil)
    refine Calls.mono this fun e w' => ?_
    rintro ⟨y, σ', rfl, hv, hr, _⟩
    cases hv
    exact ⟨rfl, hr.below⟩
  · exact h.elim
set_option maxRecDepth 100000 in
theorem contract (H : Type) (enc : TypeId × Value → H) (W : World) (base : Nat) (args : Array Value) (ds gs : List (DataW H)) (before : List MemPlace)
    (hval : ∀ (j : Nat) t v, Tryz.f4.params[j]? = some t → args[j]? = some v → Value.okWide Tryz.prog W .any base t v)
    (hW : DataW.Whole enc Tryz.prog Tryz.f4.params.toList Rows.encodeReadsSpec.vars false W args.toList ds gs before) :
    Calls Tryz.prog 4 args W fun e W' => ∃ v, e = .returned v ∧ Rows.encodeReadsSpec.post enc Tryz.prog Tryz.f4 false true false false W args v W' := by
  have hW' := hW
  obtain ⟨p, q, hA0, hV, rfl, hfz, hnd⟩ := hW
  have hA : DataW.TrodAll enc Tryz.prog W 0 (fun _ => true) true Tryz.f4.params.toList args.toList ds p := hA0
  have hA2 := hA
  rw [Tryz.params4] at hA hval
  obtain ⟨v0, vs0, d0, ds0, p0, q0, hargs, rfl, rfl, h0, r0⟩ := trodAll_cons hA
  obtain ⟨rfl, rfl, rfl⟩ := trodAll_nil r0
  obtain rfl : args = #[v0] := by cases args; simp_all
  obtain ⟨rfl, rfl⟩ := trodVars_none hV
  simp only [List.append_nil] at hW'
  obtain ⟨s0, rfl, rfl, rfl, w0⟩ := open_string Tryz.underlying9 (hval 0 9 v0 rfl rfl) h0
  have hl0 : s0.size ≤ 9223372036854775807 := w0
  refine (walk s0 hl0).mono fun e W' ⟨he, hb⟩ => ?_
  subst he
  have hlt : ∀ p ∈ (([] ++ []) : List MemPlace), p.block < W.heap.size := fun p hp => hA2.lt p hp
  refine ⟨_, rfl, post_below (pa := ([] ++ [])) (pv := []) hW' (fun _ _ _ => (trodAll_cons_mk (shut_bool Tryz.underlying4 _) trodAll_mk0)) (fun sp hsp => ?_) (fun _ _ => rfl) (by simp) hb (ok_one (by kernel_rfl) rfl (okWide_bool_mk Tryz.underlying4 _))⟩
  exact again hb (by intro t ht; rw [Tryz.params4] at ht; simp at ht; subst ht; exact of_decide_eq_true (by kernel_rfl)) hA2 hlt (fun p hp => hsp p (by first | (simp at hp; done) | simpa using hp))
set_option maxRecDepth 100000 in
theorem lifted (os : Os) (started : os.Started) (H : Type) (enc : TypeId × Value → H) :
    ReturnsInHanded {} Tryz.checked os 4 .any (Rows.encodeReadsSpec.pre6 enc Tryz.prog Tryz.f4 Rows.encodeReadsRow.domain false) (Rows.encodeReadsSpec.post enc Tryz.prog Tryz.f4 false true false false) := by
  refine returnsInHanded_of_change (C := Tryz.checked) own started (by kernel_rfl) Tryz.func4
    (ChangeSpec.witness6 (enc := enc) (C := Tryz.checked) false ⟨#[], #[.string ⟨#[]⟩], []⟩ 8 (by kernel_rfl) (by kernel_rfl) (by kernel_rfl) (by kernel_rfl)) ?_
  intro W base args ds gs before hval hW _ _
  exact contract H enc W base args ds gs before hval hW
theorem over : Rows.encodeReadsRow.holds Tryz.pinned (OpenSpec.ofChange Rows.encodeReadsSpec) :=
  OpenClaim.holds_of_wide 4 Tryz.f4 rfl rfl rfl rfl rfl rfl rfl ⟨rfl, rfl, rfl, rfl, rfl⟩ rfl rfl rfl rfl rfl (by kernel_rfl) Tryz.func4 (by kernel_rfl)
    (of_decide_eq_true (by kernel_rfl)) (by unfold Func.isWrapper; first | (rw [if_pos (by decide +kernel)]; kernel_rfl) | (rw [if_neg (by decide +kernel)]; exact ⟨rfl, rfl⟩))
    (fun os started H enc _ => lifted os started H enc)
theorem proved : Rows.EncodeReadsSaid := over
end Go.Proofs.YtilldjgagokcfaaGreat.EncodeReads
