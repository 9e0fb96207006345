/-
  EncodeKnown answers true whatever happens: it takes nothing.
-/
import Derived.Test.YtilldjgagokcfaaK1
import Derived.Test.YtilldjgagokcfaaIn
set_option linter.unusedVariables false
set_option linter.unusedSimpArgs false
namespace Go.Proofs.Ytilldjgagokcfaa.EncodeKnown
open Go.ChangeShapes Go.WideShapes Go.ChangeAt Go.RowKit Go.ChangeMaps Go.Ev
set_option linter.unusedVariables false

theorem own : ownKnob Try.prog.godebug = none := by kernel_rfl

set_option maxRecDepth 100000 in
theorem good_nm : (Try.prog.funcs.all fun fn => fn.body.isNone || !decide (fn.name = "runtime.NumGoroutine")) = true := by kernel_rfl

set_option maxRecDepth 100000 in
theorem good_esc : ((List.range Try.prog.funcs.size).all fun i => match Try.prog.funcs[i]? with
    | some fn => fn.body.isSome || !decide (fn.name = "internal/abi.NoEscape") || Nat.beq i 117
    | none => true) = true := by kernel_rfl

set_option maxRecDepth 100000 in
theorem good : Go.Ev.Good Try.prog := good_of 117 Try.f117 good_nm good_esc Try.func117 (by kernel_rfl) (by kernel_rfl) (by kernel_rfl)

theorem walk {W : World} :
    Calls Try.prog 4 #[] W fun e w' => e = .returned (.bool true) ∧ Below W.heap.size W w' := by
  rcases known  S0 with ⟨v, S', h1, rfl⟩ | ⟨_, _, _, h⟩
  · have := ((lim_ok good).call 4 _ S0 _ h1).1 _ _ rfl W.heap.size W (Sg.of W) W [] (rel_of W) (fun _ _ _ => rfl) .nil
    refine Calls.mono this fun e w' => ?_
    rintro ⟨y, σ', rfl, hv, hr, _⟩
    cases hv
    exact ⟨rfl, hr.below⟩
  · exact h.elim

set_option maxRecDepth 100000 in
/-- What the walk gives, for every argument. -/
theorem contract (H : Type) (enc : TypeId × Value → H) (W : World) (base : Nat) (args : Array Value) (ds gs : List (DataW H)) (before : List MemPlace)
    (hval : ∀ (j : Nat) t v, Try.f4.params[j]? = some t → args[j]? = some v → Value.okWide Try.prog W .any base t v)
    (hW : DataW.Whole enc Try.prog Try.f4.params.toList Rows.encodeKnownSpec.vars false W args.toList ds gs before) :
    Calls Try.prog 4 args W fun e W' => ∃ v, e = .returned v ∧ Rows.encodeKnownSpec.post enc Try.prog Try.f4 false true false false W args v W' := by
  have hW' := hW
  obtain ⟨p, q, hA0, hV, rfl, hfz, hnd⟩ := hW
  have hA : DataW.TrodAll enc Try.prog W 0 (fun _ => true) true Try.f4.params.toList args.toList ds p := hA0
  have hA2 := hA
  rw [Try.params4] at hA hval
  obtain ⟨hargs, rfl, rfl⟩ := trodAll_nil hA
  obtain rfl : args = #[] := by cases args; simp_all
  obtain ⟨rfl, rfl⟩ := trodVars_none hV
  simp only [List.append_nil] at hW'
  refine walk.mono fun e W' ⟨he, hb⟩ => ?_
  subst he
  have hlt : ∀ p ∈ ([] : List MemPlace), p.block < W.heap.size := fun p hp => hA2.lt p hp
  refine ⟨_, rfl, post_below (pa := []) (pv := []) hW' (fun _ _ _ => (trodAll_cons_mk (shut_bool Try.underlying4 _) trodAll_mk0)) (fun sp hsp => ?_) (fun _ _ => rfl) (by simp) hb (ok_one (by kernel_rfl) rfl (okWide_bool_mk Try.underlying4 _))⟩
  exact again hb (by intro t ht; rw [Try.params4] at ht; simp at ht) hA2 hlt (fun p hp => hsp p (by first | (simp at hp; done) | simpa using hp))

set_option maxRecDepth 100000 in
theorem lifted (os : Os) (started : os.Started) (H : Type) (enc : TypeId × Value → H) :
    ReturnsInHanded {} Try.checked os 4 .any (Rows.encodeKnownSpec.pre6 enc Try.prog Try.f4 Rows.encodeKnownRow.domain false) (Rows.encodeKnownSpec.post enc Try.prog Try.f4 false true false false) := by
  refine returnsInHanded_of_change (C := Try.checked) own started (by kernel_rfl) Try.func4
    (ChangeSpec.witness6 (enc := enc) (C := Try.checked) false ⟨#[], #[], []⟩ 8 (by kernel_rfl) (by kernel_rfl) (by kernel_rfl) (by kernel_rfl)) ?_
  intro W base args ds gs before hval hW _ _
  exact contract H enc W base args ds gs before hval hW

theorem over : Rows.encodeKnownRow.holds Try.pinned (OpenSpec.ofChange Rows.encodeKnownSpec) :=
  OpenClaim.holds_of_wide 4 Try.f4 rfl rfl rfl rfl rfl rfl rfl ⟨rfl, rfl, rfl, rfl, rfl⟩ rfl rfl rfl rfl rfl (by kernel_rfl) Try.func4 (by kernel_rfl)
    (of_decide_eq_true (by kernel_rfl)) (by unfold Func.isWrapper; first | (rw [if_pos (by decide +kernel)]; kernel_rfl) | (rw [if_neg (by decide +kernel)]; exact ⟨rfl, rfl⟩))
    (fun os started H enc _ => lifted os started H enc)

theorem proved : Rows.EncodeKnownSaid := over

end Go.Proofs.Ytilldjgagokcfaa.EncodeKnown
