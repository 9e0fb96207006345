/-
  EncodeTaken answers true for every string of at most 1048576 bytes and every truth value.
-/
import Derived.Test.YtilldjgagokcfaaC3
import Derived.Test.YtilldjgagokcfaaIn
set_option linter.unusedVariables false
set_option linter.unusedSimpArgs false
namespace Go.Proofs.Ytilldjgagokcfaa.EncodeTaken
open Go.ChangeShapes Go.WideShapes Go.ChangeAt Go.RowKit Go.ChangeMaps Go.Ev
set_option linter.unusedVariables false

theorem own : ownKnob Try.prog.godebug = none := by kernel_rfl

set_option maxRecDepth 100000 in
theorem good_nm : (Try.prog.funcs.all fun fn => fn.body.isNone || !decide (fn.name = "runtime.NumGoroutine")) = true := by kernel_rfl

set_option maxRecDepth 100000 in
theorem good_esc : ((List.range Try.prog.funcs.size).all fun i => match Try.prog.funcs[i]? with
    | some fn => fn.body.isSome || !decide (fn.name = "internal/abi.NoEscape") || Nat.beq i 117
    | none => true) = true := by kernel_rfl

set_option maxRecDepth 100000 in
theorem good : Go.Ev.Good Try.prog := good_of 117 Try.f117 good_nm good_esc Try.func117 (by kernel_rfl) (by kernel_rfl) (by kernel_rfl)

theorem walk {W : World} (s0 : ByteArray) (h0 : s0.size ≤ 1048576) (q1 : Bool) :
    Calls Try.prog 8 #[.string s0, .bool q1] W fun e w' => e = .returned (.bool true) ∧ Below W.heap.size W w' := by
  rcases taken s0.data.toList (by simpa using h0) q1 S0 with ⟨v, S', h1, rfl⟩ | ⟨_, _, _, h⟩
  · have := ((lim_ok good).call 8 _ S0 _ h1).1 _ _ rfl W.heap.size W (Sg.of W) W [.string s0, .bool q1] (rel_of W) (fun _ _ _ => rfl) (.cons (.str _ rfl) (.cons (.bool _) .nil))
    refine Calls.mono this fun e w' => ?_
    rintro ⟨y, σ', rfl, hv, hr, _⟩
    cases hv
    exact ⟨rfl, hr.below⟩
  · exact h.elim

set_option maxRecDepth 100000 in
/-- What the walk gives, for every argument. -/
theorem contract (H : Type) (enc : TypeId × Value → H) (W : World) (base : Nat) (args : Array Value) (ds gs : List (DataW H)) (before : List MemPlace)
    (hval : ∀ (j : Nat) t v, Try.f8.params[j]? = some t → args[j]? = some v → Value.okWide Try.prog W .any base t v)
    (hW : DataW.Whole enc Try.prog Try.f8.params.toList Rows.encodeTakenSpec.vars false W args.toList ds gs before) (hk : Rows.uptoSmall H (ds ++ gs) = true) :
    Calls Try.prog 8 args W fun e W' => ∃ v, e = .returned v ∧ Rows.encodeTakenSpec.post enc Try.prog Try.f8 false true false false W args v W' := by
  have hW' := hW
  obtain ⟨p, q, hA0, hV, rfl, hfz, hnd⟩ := hW
  have hA : DataW.TrodAll enc Try.prog W 0 (fun _ => true) true Try.f8.params.toList args.toList ds p := hA0
  have hA2 := hA
  rw [Try.params8] at hA hval
  obtain ⟨v0, vs0, d0, ds0, p0, q0, hargs, rfl, rfl, h0, r0⟩ := trodAll_cons hA
  obtain ⟨v1, vs1, d1, ds1, p1, q1, rfl, rfl, rfl, h1, r1⟩ := trodAll_cons r0
  obtain ⟨rfl, rfl, rfl⟩ := trodAll_nil r1
  obtain rfl : args = #[v0, v1] := by cases args; simp_all
  obtain ⟨rfl, rfl⟩ := trodVars_none hV
  simp only [List.append_nil] at hW' hk
  have hs : blk d0 + blk d1 ≤ bulkMost := by
    have := of_decide_eq_true hk
    have g0 := bulk_blk d0
    have g1 := bulk_blk d1
    simp only [Rows.uptoBulkAll] at this
    unfold bulkMost; omega
  obtain ⟨s0, rfl, rfl, rfl, w0⟩ := open_string Try.underlying9 (hval 0 9 v0 rfl rfl) h0
  have hl0 : s0.size ≤ 1048576 := by
    have := of_decide_eq_true hk
    simp [Rows.uptoBulkAll, Rows.uptoBulk] at this
    omega
  obtain ⟨q1, rfl, rfl, rfl⟩ := open_bool Try.underlying4 (hval 1 4 v1 rfl rfl) h1
  refine (walk s0 hl0 q1).mono fun e W' ⟨he, hb⟩ => ?_
  subst he
  have hlt : ∀ p ∈ (([] ++ ([] ++ [])) : List MemPlace), p.block < W.heap.size := fun p hp => hA2.lt p hp
  refine ⟨_, rfl, post_below (pa := ([] ++ ([] ++ []))) (pv := []) hW' (fun _ _ _ => (trodAll_cons_mk (shut_bool Try.underlying4 _) trodAll_mk0)) (fun sp hsp => ?_) (fun _ _ => rfl) (by simp) hb (ok_one (by kernel_rfl) rfl (okWide_bool_mk Try.underlying4 _))⟩
  exact again hb (by intro t ht; rw [Try.params8] at ht; simp at ht; rcases ht with rfl | rfl <;> exact of_decide_eq_true (by kernel_rfl)) hA2 hlt (fun p hp => hsp p (by first | (simp at hp; done) | simpa using hp))

set_option maxRecDepth 100000 in
theorem lifted (os : Os) (started : os.Started) (H : Type) (enc : TypeId × Value → H) (F : Stop.Interp) :
    ReturnsInHanded {} Try.checked os 8 .any ((Rows.OpenSpec.upto Rows.encodeTakenSpec).pre6 enc Try.prog Try.f8 Rows.encodeTakenUptoRow.domain false) (((Rows.OpenSpec.upto Rows.encodeTakenSpec).at F).post enc Try.prog Try.f8 false true false false) := by
  refine returnsInHanded_of_cond (C := Try.checked) (s := Rows.OpenSpec.upto Rows.encodeTakenSpec) (k := Rows.uptoSmall) rfl own started (by kernel_rfl) Try.func8
    (OpenSpec.witness (enc := enc) (C := Try.checked) (s := Rows.OpenSpec.upto Rows.encodeTakenSpec) (k := Rows.uptoSmall) rfl false ⟨#[], #[.string ⟨#[]⟩, .bool false], []⟩ 8 (by kernel_rfl) (by kernel_rfl) (by kernel_rfl)
      (x := ([.lit (.string []), .lit (.bool false)], [], [])) (by kernel_rfl) rfl (by kernel_rfl)) ?_
  intro W base args ds gs before hval hW _ hk _
  exact contract H enc W base args ds gs before hval hW hk

theorem over : Rows.encodeTakenUptoRow.holds Try.pinned (Rows.OpenSpec.upto Rows.encodeTakenSpec) :=
  OpenClaim.holds_of_cond 8 Try.f8 rfl rfl rfl rfl rfl rfl rfl ⟨rfl, rfl, rfl, rfl, rfl⟩ rfl rfl rfl rfl rfl (by kernel_rfl) Try.func8 (by kernel_rfl)
    (of_decide_eq_true (by kernel_rfl)) (by unfold Func.isWrapper; first | (rw [if_pos (by decide +kernel)]; kernel_rfl) | (rw [if_neg (by decide +kernel)]; exact ⟨rfl, rfl⟩))
    (fun os started H enc _ F => lifted os started H enc F)

theorem proved : Rows.EncodeTakenUptoSaid := over

end Go.Proofs.Ytilldjgagokcfaa.EncodeTaken
