/-
  EncodeAgain answers true for every program, state and value that hold together at most 1048576 values and letters.
-/
import Derived.Test.YtilldjgagokcfaaGreatA1
import Derived.Test.YtilldjgagokcfaaGreatIn
set_option linter.unusedVariables false
set_option linter.unusedSimpArgs false
namespace Go.Proofs.YtilldjgagokcfaaGreat.EncodeAgain
open Go.ChangeShapes Go.WideShapes Go.ChangeAt Go.RowKit Go.ChangeMaps Go.Ev
set_option linter.unusedVariables false

theorem own : ownKnob Tryz.prog.godebug = none := by kernel_rfl

set_option maxRecDepth 100000 in
theorem good_nm : (Tryz.prog.funcs.all fun fn => fn.body.isNone || !decide (fn.name = "runtime.NumGoroutine")) = true := by kernel_rfl

set_option maxRecDepth 100000 in
theorem good_esc : ((List.range Tryz.prog.funcs.size).all fun i => match Tryz.prog.funcs[i]? with
    | some fn => fn.body.isSome || !decide (fn.name = "internal/abi.NoEscape") || Nat.beq i 150
    | none => true) = true := by kernel_rfl

set_option maxRecDepth 100000 in
theorem good : Go.Ev.Good Tryz.prog := good_of 150 Tryz.f150 good_nm good_esc Tryz.func150 (by kernel_rfl) (by kernel_rfl) (by kernel_rfl)

/-- A struct that is read, in Ev. -/
theorem opened {H : Type} {enc : TypeId × Value → H} {W : World} {t n : Nat} {v : Value} {d : DataW H} {p : List MemPlace} (hn : num t = some n) (hst : ∃ cs, v = .agg cs) (h : DataW.Trod enc Tryz.prog W 0 (fun _ => true) true t v d p) (hb : blk d ≤ bulkMost) :
    ∃ vs bs k, VR (Sg.of W) (.agg vs) v ∧ EncF k (sch n) vs bs ∧ bs.length ≤ 1099511627776 := by
  obtain ⟨cs, rfl⟩ := hst
  obtain ⟨fuel, hf⟩ := h
  obtain ⟨vs, bs, k, h1, h2, h3⟩ := (got_all tys fuel).2 t n _ _ hn hf hb
  refine ⟨vs, bs, k, ?_, h2, by simp only [bulkMost] at hb; simp only at h3; omega⟩
  have : VR (Sg.of W) (.agg vs) (.agg (Array.toList cs).toArray) := .agg h1
  simpa using this

theorem walk {W : World} {x0 : List V} {a0 : Value} {k0 : Nat} {b0 : List UInt8} (r0 : VR (Sg.of W) (.agg x0) a0) (e0 : EncF k0 (sch 14) x0 b0) (l0 : b0.length ≤ 1099511627776) {x1 : List V} {a1 : Value} {k1 : Nat} {b1 : List UInt8} (r1 : VR (Sg.of W) (.agg x1) a1) (e1 : EncF k1 (sch 20) x1 b1) (l1 : b1.length ≤ 1099511627776) {x2 : List V} {a2 : Value} {k2 : Nat} {b2 : List UInt8} (r2 : VR (Sg.of W) (.agg x2) a2) (e2 : EncF k2 (sch 2) x2 b2) (l2 : b2.length ≤ 1099511627776) :
    Calls Tryz.prog 5 #[a0, a1, a2] W fun e w' => e = .returned (.bool true) ∧ Below W.heap.size W w' := by
  rcases twice e0 e1 e2 S0 with ⟨v, S', h1, rfl⟩ | ⟨_, _, _, h⟩
  · have := ((lim_ok good).call 5 _ S0 _ h1).1 _ _ rfl W.heap.size W (Sg.of W) W [a0, a1, a2] (rel_of W) (fun _ _ _ => rfl) (.cons r0 (.cons r1 (.cons r2 .nil)))
    refine Calls.mono this fun e w' => ?_
    rintro ⟨y, σ', rfl, hv, hr, _⟩
    cases hv
    exact ⟨rfl, hr.below⟩
  · exact h.elim

set_option maxRecDepth 100000 in
/-- What the walk gives, for every argument. -/
theorem contract (H : Type) (enc : TypeId × Value → H) (W : World) (base : Nat) (args : Array Value) (ds gs : List (DataW H)) (before : List MemPlace)
    (hval : ∀ (j : Nat) t v, Tryz.f5.params[j]? = some t → args[j]? = some v → Value.okWide Tryz.prog W .any base t v)
    (hW : DataW.Whole enc Tryz.prog Tryz.f5.params.toList Rows.encodeAgainSpec.vars false W args.toList ds gs before) (hk : Rows.uptoSmall H (ds ++ gs) = true) :
    Calls Tryz.prog 5 args W fun e W' => ∃ v, e = .returned v ∧ Rows.encodeAgainSpec.post enc Tryz.prog Tryz.f5 false true false false W args v W' := by
  have hW' := hW
  obtain ⟨p, q, hA0, hV, rfl, hfz, hnd⟩ := hW
  have hA : DataW.TrodAll enc Tryz.prog W 0 (fun _ => true) true Tryz.f5.params.toList args.toList ds p := hA0
  have hA2 := hA
  rw [Tryz.params5] at hA hval
  obtain ⟨v0, vs0, d0, ds0, p0, q0, hargs, rfl, rfl, h0, r0⟩ := trodAll_cons hA
  obtain ⟨v1, vs1, d1, ds1, p1, q1, rfl, rfl, rfl, h1, r1⟩ := trodAll_cons r0
  obtain ⟨v2, vs2, d2, ds2, p2, q2, rfl, rfl, rfl, h2, r2⟩ := trodAll_cons r1
  obtain ⟨rfl, rfl, rfl⟩ := trodAll_nil r2
  obtain rfl : args = #[v0, v1, v2] := by cases args; simp_all
  obtain ⟨rfl, rfl⟩ := trodVars_none hV
  simp only [List.append_nil] at hW' hk
  have hs : blk d0 + blk d1 + blk d2 ≤ bulkMost := by
    have := of_decide_eq_true hk
    have g0 := bulk_blk d0
    have g1 := bulk_blk d1
    have g2 := bulk_blk d2
    simp only [Rows.uptoBulkAll] at this
    unfold bulkMost; omega
  have s0 : ∃ cs, v0 = .agg cs := by
    have := hval 0 32 v0 rfl rfl
    unfold Value.okWide at this
    rw [show Tryz.prog.underlying 32 = some (.struct _) from Tryz.underlying32] at this
    obtain ⟨cs, h, _⟩ := this
    exact ⟨cs, h⟩
  obtain ⟨x0, b0, k0, e0, f0, l0⟩ := opened (n := 14) rfl s0 h0 (by omega)
  have s1 : ∃ cs, v1 = .agg cs := by
    have := hval 1 55 v1 rfl rfl
    unfold Value.okWide at this
    rw [show Tryz.prog.underlying 55 = some (.struct _) from Tryz.underlying55] at this
    obtain ⟨cs, h, _⟩ := this
    exact ⟨cs, h⟩
  obtain ⟨x1, b1, k1, e1, f1, l1⟩ := opened (n := 20) rfl s1 h1 (by omega)
  have s2 : ∃ cs, v2 = .agg cs := by
    have := hval 2 62 v2 rfl rfl
    unfold Value.okWide at this
    rw [show Tryz.prog.underlying 62 = some (.struct _) from Tryz.underlying62] at this
    obtain ⟨cs, h, _⟩ := this
    exact ⟨cs, h⟩
  obtain ⟨x2, b2, k2, e2, f2, l2⟩ := opened (n := 2) rfl s2 h2 (by omega)
  refine (walk e0 f0 l0 e1 f1 l1 e2 f2 l2).mono fun e W' ⟨he, hb⟩ => ?_
  subst he
  have hlt : ∀ p ∈ ((p0 ++ (p1 ++ (p2 ++ []))) : List MemPlace), p.block < W.heap.size := fun p hp => hA2.lt p hp
  refine ⟨_, rfl, post_below (pa := (p0 ++ (p1 ++ (p2 ++ [])))) (pv := []) hW' (fun _ _ _ => (trodAll_cons_mk (shut_bool Tryz.underlying4 _) trodAll_mk0)) (fun sp hsp => ?_) (fun _ _ => rfl) (by simp) hb (ok_one (by kernel_rfl) rfl (okWide_bool_mk Tryz.underlying4 _))⟩
  exact again hb (by intro t ht; rw [Tryz.params5] at ht; simp at ht; rcases ht with rfl | rfl | rfl <;> exact of_decide_eq_true (by kernel_rfl)) hA2 hlt (fun p hp => hsp p (by first | (simp at hp; done) | simpa using hp))

set_option maxRecDepth 100000 in
theorem lifted (os : Os) (started : os.Started) (H : Type) (enc : TypeId × Value → H) (F : Stop.Interp) :
    ReturnsInHanded {} Tryz.checked os 5 .any ((Rows.OpenSpec.upto Rows.encodeAgainSpec).pre6 enc Tryz.prog Tryz.f5 Rows.encodeAgainUptoRow.domain false) (((Rows.OpenSpec.upto Rows.encodeAgainSpec).at F).post enc Tryz.prog Tryz.f5 false true false false) := by
  refine returnsInHanded_of_cond (C := Tryz.checked) (s := Rows.OpenSpec.upto Rows.encodeAgainSpec) (k := Rows.uptoSmall) rfl own started (by kernel_rfl) Tryz.func5
    (OpenSpec.witness (enc := enc) (C := Tryz.checked) (s := Rows.OpenSpec.upto Rows.encodeAgainSpec) (k := Rows.uptoSmall) rfl false ⟨#[], #[.agg #[.slice none 0 0, .slice none 0 0, .slice none 0 0, .int .i64 0, .int .i64 0, .string ⟨#[]⟩, .string ⟨#[]⟩, .slice none 0 0, .slice none 0 0, .slice none 0 0], .agg #[.slice none 0 0, .slice none 0 0, .int .i64 0, .int .i64 0, .string ⟨#[]⟩, .slice none 0 0, .int .i64 0, .int .i64 0, .int .i64 0, .bool false], .agg #[.int .i64 0, .int .i64 0, .string ⟨#[]⟩, .slice none 0 0, .slice none 0 0]], []⟩ 8 (by kernel_rfl) (by kernel_rfl) (by kernel_rfl)
      (x := ([.agg [.nil, .nil, .nil, .agg [.lit (.int .i64 0), .lit (.int .i64 0), .lit (.string []), .lit (.string []), .nil, .nil, .nil]], .agg [.nil, .nil, .lit (.int .i64 0), .agg [.lit (.int .i64 0), .lit (.string []), .nil, .lit (.int .i64 0), .lit (.int .i64 0), .lit (.int .i64 0)], .lit (.bool false)], .agg [.lit (.int .i64 0), .lit (.int .i64 0), .lit (.string []), .nil, .nil]], [], [])) (by kernel_rfl) rfl (by kernel_rfl)) ?_
  intro W base args ds gs before hval hW _ hk _
  exact contract H enc W base args ds gs before hval hW hk

theorem over : Rows.encodeAgainUptoRow.holds Tryz.pinned (Rows.OpenSpec.upto Rows.encodeAgainSpec) :=
  OpenClaim.holds_of_cond 5 Tryz.f5 rfl rfl rfl rfl rfl rfl rfl ⟨rfl, rfl, rfl, rfl, rfl⟩ rfl rfl rfl rfl rfl (by kernel_rfl) Tryz.func5 (by kernel_rfl)
    (of_decide_eq_true (by kernel_rfl)) (by unfold Func.isWrapper; first | (rw [if_pos (by decide +kernel)]; kernel_rfl) | (rw [if_neg (by decide +kernel)]; exact ⟨rfl, rfl⟩))
    (fun os started H enc _ F => lifted os started H enc F)

theorem proved : Rows.EncodeAgainUptoSaid := over

end Go.Proofs.YtilldjgagokcfaaGreat.EncodeAgain
