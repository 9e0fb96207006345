/-
  EncodeChanged answers true for every value that holds at most 1048576 values and letters, every place and every byte.
-/
import Derived.Test.YtilldjgagokcfaaC2
import Derived.Test.YtilldjgagokcfaaIn
set_option linter.unusedVariables false
set_option linter.unusedSimpArgs false
namespace Go.Proofs.Ytilldjgagokcfaa.EncodeChanged
open Go.ChangeShapes Go.WideShapes Go.ChangeAt Go.RowKit Go.ChangeMaps Go.Ev
set_option linter.unusedVariables false

theorem own : ownKnob Try.prog.godebug = none := by kernel_rfl

set_option maxRecDepth 100000 in
theorem good_nm : (Try.prog.funcs.all fun fn => fn.body.isNone || !decide (fn.name = "runtime.NumGoroutine")) = true := by kernel_rfl

set_option maxRecDepth 100000 in
theorem good_esc : ((List.range Try.prog.funcs.size).all fun i => match Try.prog.funcs[i]? with
    | some fn => fn.body.isSome || !decide (fn.name = "internal/abi.NoEscape") || Nat.beq i 117
    | none => true) = true := by kernel_rfl

set_option maxRecDepth 100000 in
theorem good : Go.Ev.Good Try.prog := good_of 117 Try.f117 good_nm good_esc Try.func117 (by kernel_rfl) (by kernel_rfl) (by kernel_rfl)

/-- A struct that is read, in Ev. -/
theorem opened {H : Type} {enc : TypeId × Value → H} {W : World} {t n : Nat} {v : Value} {d : DataW H} {p : List MemPlace} (hn : num t = some n) (hst : ∃ cs, v = .agg cs) (h : DataW.Trod enc Try.prog W 0 (fun _ => true) true t v d p) (hb : blk d ≤ bulkMost) :
    ∃ vs bs k, VR (Sg.of W) (.agg vs) v ∧ EncF k (sch n) vs bs ∧ bs.length ≤ 1099511627776 := by
  obtain ⟨cs, rfl⟩ := hst
  obtain ⟨fuel, hf⟩ := h
  obtain ⟨vs, bs, k, h1, h2, h3⟩ := (got_all tys fuel).2 t n _ _ hn hf hb
  refine ⟨vs, bs, k, ?_, h2, by simp only [bulkMost] at hb; simp only at h3; omega⟩
  have : VR (Sg.of W) (.agg vs) (.agg (Array.toList cs).toArray) := .agg h1
  simpa using this

theorem walk {W : World} {x0 : List V} {a0 : Value} {k0 : Nat} {b0 : List UInt8} (r0 : VR (Sg.of W) (.agg x0) a0) (e0 : EncF k0 (sch 2) x0 b0) (l0 : b0.length ≤ 1099511627776) (w1 : Nat) (h1 : w1 < 65536) (w2 : Nat) (h2 : w2 < 256) :
    Calls Try.prog 7 #[a0, .int .u16 w1, .int .u8 w2] W fun e w' => e = .returned (.bool true) ∧ Below W.heap.size W w' := by
  have hc := changedF e0 w1 h1 (UInt8.ofNat w2) S0
  rw [u8_nat w2 h2] at hc
  rcases hc with ⟨v, S', h1, rfl⟩ | ⟨_, _, _, h⟩
  · have := ((lim_ok good).call 7 _ S0 _ h1).1 _ _ rfl W.heap.size W (Sg.of W) W [a0, .int .u16 w1, .int .u8 w2] (rel_of W) (fun _ _ _ => rfl) (.cons r0 (.cons (.int _ _) (.cons (.int _ _) .nil)))
    refine Calls.mono this fun e w' => ?_
    rintro ⟨y, σ', rfl, hv, hr, _⟩
    cases hv
    exact ⟨rfl, hr.below⟩
  · exact h.elim

set_option maxRecDepth 100000 in
/-- What the walk gives, for every argument. -/
theorem contract (H : Type) (enc : TypeId × Value → H) (W : World) (base : Nat) (args : Array Value) (ds gs : List (DataW H)) (before : List MemPlace)
    (hval : ∀ (j : Nat) t v, Try.f7.params[j]? = some t → args[j]? = some v → Value.okWide Try.prog W .any base t v)
    (hW : DataW.Whole enc Try.prog Try.f7.params.toList Rows.encodeChangedSpec.vars false W args.toList ds gs before) (hk : Rows.uptoSmall H (ds ++ gs) = true) :
    Calls Try.prog 7 args W fun e W' => ∃ v, e = .returned v ∧ Rows.encodeChangedSpec.post enc Try.prog Try.f7 false true false false W args v W' := by
  have hW' := hW
  obtain ⟨p, q, hA0, hV, rfl, hfz, hnd⟩ := hW
  have hA : DataW.TrodAll enc Try.prog W 0 (fun _ => true) true Try.f7.params.toList args.toList ds p := hA0
  have hA2 := hA
  rw [Try.params7] at hA hval
  obtain ⟨v0, vs0, d0, ds0, p0, q0, hargs, rfl, rfl, h0, r0⟩ := trodAll_cons hA
  obtain ⟨v1, vs1, d1, ds1, p1, q1, rfl, rfl, rfl, h1, r1⟩ := trodAll_cons r0
  obtain ⟨v2, vs2, d2, ds2, p2, q2, rfl, rfl, rfl, h2, r2⟩ := trodAll_cons r1
  obtain ⟨rfl, rfl, rfl⟩ := trodAll_nil r2
  obtain rfl : args = #[v0, v1, v2] := by cases args; simp_all
  obtain ⟨rfl, rfl⟩ := trodVars_none hV
  simp only [List.append_nil] at hW' hk
  have hs : blk d0 + blk d1 + blk d2 ≤ bulkMost := by
    have := of_decide_eq_true hk
    have g0 := bulk_blk d0
    have g1 := bulk_blk d1
    have g2 := bulk_blk d2
    simp only [Rows.uptoBulkAll] at this
    unfold bulkMost; omega
  have s0 : ∃ cs, v0 = .agg cs := by
    have := hval 0 29 v0 rfl rfl
    unfold Value.okWide at this
    rw [show Try.prog.underlying 29 = some (.struct _) from Try.underlying29] at this
    obtain ⟨cs, h, _⟩ := this
    exact ⟨cs, h⟩
  obtain ⟨x0, b0, k0, e0, f0, l0⟩ := opened (n := 2) rfl s0 h0 (by omega)
  obtain ⟨n1, rfl, hd1, hp1, hwf1⟩ := open_int Try.underlying67 (hval 1 67 v1 rfl rfl) h1
  have hn1 : 0 ≤ n1 ∧ n1 < 65536 := by
    simp [Lit.wf, IntKind.min, IntKind.max, IntKind.signed, IntKind.bits] at hwf1
    omega
  obtain ⟨w1, rfl⟩ : ∃ w : Nat, n1 = (w : Int) := ⟨n1.toNat, by omega⟩
  have hw1 : w1 < 65536 := by omega
  obtain ⟨n2, rfl, hd2, hp2, hwf2⟩ := open_int Try.underlying5 (hval 2 5 v2 rfl rfl) h2
  have hn2 : 0 ≤ n2 ∧ n2 < 256 := by
    simp [Lit.wf, IntKind.min, IntKind.max, IntKind.signed, IntKind.bits] at hwf2
    omega
  obtain ⟨w2, rfl⟩ : ∃ w : Nat, n2 = (w : Int) := ⟨n2.toNat, by omega⟩
  have hw2 : w2 < 256 := by omega
  refine (walk e0 f0 l0 w1 hw1 w2 hw2).mono fun e W' ⟨he, hb⟩ => ?_
  subst he
  have hlt : ∀ p ∈ ((p0 ++ (p1 ++ (p2 ++ []))) : List MemPlace), p.block < W.heap.size := fun p hp => hA2.lt p hp
  refine ⟨_, rfl, post_below (pa := (p0 ++ (p1 ++ (p2 ++ [])))) (pv := []) hW' (fun _ _ _ => (trodAll_cons_mk (shut_bool Try.underlying4 _) trodAll_mk0)) (fun sp hsp => ?_) (fun _ _ => rfl) (by simp) hb (ok_one (by kernel_rfl) rfl (okWide_bool_mk Try.underlying4 _))⟩
  exact again hb (by intro t ht; rw [Try.params7] at ht; simp at ht; rcases ht with rfl | rfl | rfl <;> exact of_decide_eq_true (by kernel_rfl)) hA2 hlt (fun p hp => hsp p (by simpa using hp))

set_option maxRecDepth 100000 in
theorem lifted (os : Os) (started : os.Started) (H : Type) (enc : TypeId × Value → H) (F : Stop.Interp) :
    ReturnsInHanded {} Try.checked os 7 .any ((Rows.OpenSpec.upto Rows.encodeChangedSpec).pre6 enc Try.prog Try.f7 Rows.encodeChangedUptoRow.domain false) (((Rows.OpenSpec.upto Rows.encodeChangedSpec).at F).post enc Try.prog Try.f7 false true false false) := by
  refine returnsInHanded_of_cond (C := Try.checked) (s := Rows.OpenSpec.upto Rows.encodeChangedSpec) (k := Rows.uptoSmall) rfl own started (by kernel_rfl) Try.func7
    (OpenSpec.witness (enc := enc) (C := Try.checked) (s := Rows.OpenSpec.upto Rows.encodeChangedSpec) (k := Rows.uptoSmall) rfl false ⟨#[], #[.agg #[.int .i64 0, .int .i64 0, .string ⟨#[]⟩, .slice none 0 0, .slice none 0 0], .int .u16 0, .int .u8 0], []⟩ 8 (by kernel_rfl) (by kernel_rfl) (by kernel_rfl)
      (x := ([.agg [.lit (.int .i64 0), .lit (.int .i64 0), .lit (.string []), .nil, .nil], .lit (.int .u16 0), .lit (.int .u8 0)], [], [])) (by kernel_rfl) rfl (by kernel_rfl)) ?_
  intro W base args ds gs before hval hW _ hk _
  exact contract H enc W base args ds gs before hval hW hk

theorem over : Rows.encodeChangedUptoRow.holds Try.pinned (Rows.OpenSpec.upto Rows.encodeChangedSpec) :=
  OpenClaim.holds_of_cond 7 Try.f7 rfl rfl rfl rfl rfl rfl rfl ⟨rfl, rfl, rfl, rfl, rfl⟩ rfl rfl rfl rfl rfl (by kernel_rfl) Try.func7 (by kernel_rfl)
    (of_decide_eq_true (by kernel_rfl)) (by unfold Func.isWrapper; first | (rw [if_pos (by decide +kernel)]; kernel_rfl) | (rw [if_neg (by decide +kernel)]; exact ⟨rfl, rfl⟩))
    (fun os started H enc _ F => lifted os started H enc F)

theorem proved : Rows.EncodeChangedUptoSaid := over

end Go.Proofs.Ytilldjgagokcfaa.EncodeChanged
