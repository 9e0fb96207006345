/-
  Ev, part 11: the machine's steps at an operation; operations one behind the other.
-/
import Derived.Test.YtilldjgagokcfaaGreatEvLe
set_option linter.unusedVariables false
set_option linter.unusedSimpArgs false
namespace Go.Ev
open Go.RowKit

section
variable {P : Program} {base : Nat} {w₀ w : World} {σ : Sg} {S S' : St} {b : Frame} {k : List Item} {cs : List Frame} {ops : Array Oper} {i : Nat} {rest : List Nat} {o : Oper} {a : Act}

theorem finish_put (ho : ops[i]? = some o) (v : Value) : (b.at a (.inRegion ops (i :: rest) :: k)).finish v = b.at (a.put o.dst v) (.inRegion ops rest :: k) := by
  rw [Frame.finish_at, ho]; rfl

theorem step_value (ho : ops[i]? = some o) (hw : Region.wanted o (yielded ops a.tmps) = true) {r : Value} {w' : World} (hr : (execOp a.eval o).run P w = .ok (.value r) w') :
    Steps P (lone (b.at a (.inRegion ops (i :: rest) :: k)) cs w) (lone (b.at (a.put o.dst r) (.inRegion ops rest :: k)) cs w') := by
  have hg := stepG_op (P := P) (b := b) (k := k) (cs := cs) (w := w) (rest := rest) ho hw
  refine .one (step_lone_go ?_)
  rw [hg, ← finish_put ho]; simp [stepG.apply, hr]

theorem step_skip' (ho : ops[i]? = some o) (hw : Region.wanted o (yielded ops a.tmps) = true) {w' : World} (hr : (execOp a.eval o).run P w = .ok .skip w') :
    Steps P (lone (b.at a (.inRegion ops (i :: rest) :: k)) cs w) (lone (b.at (a.put o.dst undef) (.inRegion ops rest :: k)) cs w') := by
  have hg := stepG_op (P := P) (b := b) (k := k) (cs := cs) (w := w) (rest := rest) ho hw
  refine .one (step_lone_go ?_)
  rw [hg, ← finish_put ho]; simp [stepG.apply, hr]

theorem step_unwanted (ho : ops[i]? = some o) (hw : Region.wanted o (yielded ops a.tmps) = false) :
    Steps P (lone (b.at a (.inRegion ops (i :: rest) :: k)) cs w) (lone (b.at (a.put o.dst undef) (.inRegion ops rest :: k)) cs w) := by
  have hs := step_op_skip (P := P) (b := b) (a := a) (k := k) (cs := cs) (w := w) (ops := ops) (i := i) (rest := rest) (by simp [ho]; simpa using hw)
  simp only [ho, Option.bind_some] at hs
  exact .one hs

theorem step_recover_none (hro : b.roundOf = none) (ho : ops[i]? = some o) (hw : Region.wanted o (yielded ops a.tmps) = true) {w' : World} (hr : (execOp a.eval o).run P w = .ok .recover w')
    (hn : tryRecover (b.at a (.inRegion ops (i :: rest) :: k)) cs = none) :
    Steps P (lone (b.at a (.inRegion ops (i :: rest) :: k)) cs w) (lone (b.at (a.put o.dst .nilIface) (.inRegion ops rest :: k)) cs w') := by
  have hg := stepG_op (P := P) (b := b) (k := k) (cs := cs) (w := w) (rest := rest) ho hw
  refine .one (step_lone_go ?_)
  rw [hg, ← finish_put ho]
  simp only [Frame.at] at hn ⊢
  simp [stepG.apply, hr, hn]

theorem step_recover_some (hro : b.roundOf = none) (ho : ops[i]? = some o) (hw : Region.wanted o (yielded ops a.tmps) = true) {w' : World} (hr : (execOp a.eval o).run P w = .ok .recover w') {v : Value} {cs' : List Frame}
    (hn : tryRecover (b.at a (.inRegion ops (i :: rest) :: k)) cs = some (v, cs')) :
    Steps P (lone (b.at a (.inRegion ops (i :: rest) :: k)) cs w) (lone (b.at (a.put o.dst v) (.inRegion ops rest :: k)) cs' w') := by
  have hg := stepG_op (P := P) (b := b) (k := k) (cs := cs) (w := w) (rest := rest) ho hw
  refine .one (step_lone_go ?_)
  rw [hg, ← finish_put ho]
  simp only [Frame.at] at hn ⊢
  simp [stepG.apply, hr, hn]

theorem step_defer_op (ho : ops[i]? = some o) (hw : Region.wanted o (yielded ops a.tmps) = true) {d : Deferred} {w' : World} (hr : (execOp a.eval o).run P w = .ok (.defer d) w') :
    Steps P (lone (b.at a (.inRegion ops (i :: rest) :: k)) cs w) (lone (b.at ({ a with defers := d :: a.defers }.put o.dst undef) (.inRegion ops rest :: k)) cs w') := by
  have hg := stepG_op (P := P) (b := b) (k := k) (cs := cs) (w := w) (rest := rest) ho hw
  refine .one (step_lone_go ?_)
  have : ({ b.at a (.inRegion ops (i :: rest) :: k) with defers := d :: a.defers } : Frame).finish undef =
      b.at ({ a with defers := d :: a.defers }.put o.dst undef) (.inRegion ops rest :: k) := by
    have := Frame.finish_at b { a with defers := d :: a.defers } ops i rest k undef
    rw [ho] at this; exact this
  rw [hg]; simp only [stepG.apply, Sem.runT_eq, hr, GStep.bare_after]
  exact congrArg (fun fr => GStep.go { frame := fr, callers := cs, status := .running, dying := none } w') this

theorem step_panic (ho : ops[i]? = some o) (hw : Region.wanted o (yielded ops a.tmps) = true) {v : Value} {w' : World} (hr : (execOp a.eval o).run P w = .halt (.panic v) w') :
    Steps P (lone (b.at a (.inRegion ops (i :: rest) :: k)) cs w) (lone { b.at a (.inRegion ops (i :: rest) :: k) with mode := .panicking [{ v, recovered := false }] } cs w') := by
  have hg := stepG_op (P := P) (b := b) (k := k) (cs := cs) (w := w) (rest := rest) ho hw
  refine .one (step_lone_go ?_)
  rw [hg, ← Frame.raise_at]; simp [stepG.apply, hr]

theorem step_enter (ho : ops[i]? = some o) (hw : Region.wanted o (yielded ops a.tmps) = true) {f : FuncId} {args : Array Value} {w' : World} (hr : (execOp a.eval o).run P w = .ok (.enter f args) w') {R : Ending → World → Prop} (hc : Calls P f args w' R) :
    ∃ e w'', R e w'' ∧ (∀ v, e = .returned v → Steps P (lone (b.at a (.inRegion ops (i :: rest) :: k)) cs w) (lone (b.at (a.put o.dst v) (.inRegion ops rest :: k)) cs w'')) ∧
      (∀ ch, e = .panicked ch → Steps P (lone (b.at a (.inRegion ops (i :: rest) :: k)) cs w) (lone { b.at a (.inRegion ops (i :: rest) :: k) with mode := .panicking ch } cs w'')) := by
  have hg := stepG_op (P := P) (b := b) (k := k) (cs := cs) (w := w) (rest := rest) ho hw
  obtain ⟨e, w'', fr, hR, hsteps, _, hleave⟩ := hc (b.at a (.inRegion ops (i :: rest) :: k) :: cs)
  have henter : step P (lone (b.at a (.inRegion ops (i :: rest) :: k)) cs w) =
      .next (lone (Frame.enter P f args .normal) (b.at a (.inRegion ops (i :: rest) :: k) :: cs) w') :=
    step_lone_go (by rw [hg]; simp [stepG.apply, hr, Frame.at])
  refine ⟨e, w'', hR, ?_, ?_⟩
  · rintro v rfl
    refine .head henter (hsteps.trans (.one ?_))
    rw [← finish_put ho]; exact step_leave_returned hleave
  · rintro ch rfl
    refine .head henter (hsteps.trans (.one ?_))
    rw [← Frame.raise_at]; exact step_leave_panicked hleave

theorem tryRecover_pan {p : Pan} (hp : PanR σ p b cs) : match p with
    | .live _ => True
    | _ => tryRecover (b.at a (.inRegion ops (i :: rest) :: k)) cs = none := by
  cases p with
  | norm =>
    have hk : b.kind = .normal := hp
    simp [tryRecover, Frame.at, hk]
  | quiet =>
    obtain ⟨hk, c, r, rfl, hm⟩ := hp
    simp [tryRecover, Frame.at, hk, hm]
  | live v => trivial
  | done v =>
    obtain ⟨hk, c, r, y, rfl, hm, _⟩ := hp
    simp [tryRecover, Frame.at, hk, hm]

/-- The machine's steps where the abstract operation comes to a value. -/
theorem val_steps (hG : Good P) {rec : Rec} (hrec : CallOk P rec) (h : Rel none2 base w₀ σ S w) {ev : Operand → Option V} {pan : Pan} (hev : ∀ x u, ev x = some u → VR σ u (a.eval x)) (hp : PanR σ pan b cs) (hro : b.roundOf = none)
    (ho : ops[i]? = some o) (hw : Region.wanted o (yielded ops a.tmps) = true) {v : V} (ha : actE rec P o.op ev pan S = some (.val v S')) (hf : Free σ S.next S'.next) :
    ∃ r w' σ', Steps P (lone (b.at a (.inRegion ops (i :: rest) :: k)) cs w) (lone (b.at (a.put o.dst r) (.inRegion ops rest :: k)) cs w') ∧ VR σ' v r ∧ Rel none2 base w₀ σ' S' w' ∧ Stp σ S w σ' S' w' := by
  have hA := (actE_sound hG hrec h hev ha).1 v S' rfl hf
  rcases hA with ⟨r, w', σ', h1, h2, h3, h4⟩ | ⟨g, args, w', h1, hc⟩
  · refine ⟨r, w', σ', ?_, h2, h3, h4⟩
    rcases h1 with h1 | ⟨h1, rfl⟩ | ⟨h1, hn, rfl⟩
    · exact step_value ho hw h1
    · exact step_skip' ho hw h1
    · refine step_recover_none hro ho hw h1 ?_
      have := tryRecover_pan (a := a) (k := k) (ops := ops) (i := i) (rest := rest) hp
      cases pan <;> first | exact this | exact hn.elim
  · obtain ⟨e, w'', ⟨y, σ', rfl, q1, q2, q3⟩, s1, _⟩ := step_enter (b := b) (k := k) (cs := cs) (rest := rest) ho hw h1 hc
    exact ⟨y, w'', σ', s1 y rfl, q1, q2, q3⟩

/-- .. a panic. -/
theorem pan_steps (hG : Good P) {rec : Rec} (hrec : CallOk P rec) (h : Rel none2 base w₀ σ S w) {ev : Operand → Option V} {pan : Pan} (hev : ∀ x u, ev x = some u → VR σ u (a.eval x))
    (ho : ops[i]? = some o) (hw : Region.wanted o (yielded ops a.tmps) = true) {v : V} (ha : actE rec P o.op ev pan S = some (.pan v S')) (hf : Free σ S.next S'.next) :
    ∃ y w' σ', Steps P (lone (b.at a (.inRegion ops (i :: rest) :: k)) cs w) (lone { b.at a (.inRegion ops (i :: rest) :: k) with mode := .panicking [{ v := y, recovered := false }] } cs w') ∧ VR σ' v y ∧
      Rel none2 base w₀ σ' S' w' ∧ Stp σ S w σ' S' w' := by
  have hA := (actE_sound hG hrec h hev ha).2.1 v S' rfl hf
  rcases hA with ⟨y, w', σ', h1, h2, h3, h4⟩ | ⟨g, args, w', h1, hc⟩
  · exact ⟨y, w', σ', step_panic ho hw h1, h2, h3, h4⟩
  · obtain ⟨e, w'', ⟨y, σ', rfl, q1, q2, q3⟩, _, s1⟩ := step_enter (b := b) (k := k) (cs := cs) (rest := rest) ho hw h1 hc
    exact ⟨y, w'', σ', s1 _ rfl, q1, q2, q3⟩

/-- What a piece of code, or a list of operations, comes to, from this machine on. -/
def Comes' (P : Program) (base : Nat) (w₀ : World) (σ : Sg) (S : St) (w : World) (m : Machine) (b : Frame) (k : List Item) (cs : List Frame) (x : X) (fr' : Fr) (S' : St) : Prop :=
  ∃ e a' cs' w' σ', XR σ' x e ∧ AR σ' fr' a' ∧ PanR σ' fr'.pan b cs' ∧ Turn b cs cs' ∧ Rel none2 base w₀ σ' S' w' ∧ Stp σ S w σ' S' w' ∧ Arrives P m b k cs' e a' w'

theorem putE_some {fr fr' : Fr} {dst : Option Tmp} {v : V} {x : X} (h : putE fr dst v S = some (.code x fr' S')) : x = .normal ∧ fr.put dst v = some fr' ∧ S' = S := by
  unfold putE at h
  split at h
  · rename_i fr1 h1
    simp only [Option.some.injEq, Rs.code.injEq] at h
    obtain ⟨rfl, rfl, rfl⟩ := h
    exact ⟨rfl, h1, rfl⟩
  · cases h

theorem putE_code {fr : Fr} {dst : Option Tmp} {v : V} {r : Rs} (h : putE fr dst v S = some r) : ∃ x fr' S', r = .code x fr' S' := by
  unfold putE at h
  split at h
  · cases h; exact ⟨_, _, _, rfl⟩
  · cases h

/-- One operation. -/
theorem oneE_sound (hG : Good P) {rec : Rec} (hrec : CallOk P rec) (h : Rel none2 base w₀ σ S w) {fr fr' : Fr} {x : X} (hA : AR σ fr a) (hp : PanR σ fr.pan b cs) (hro : b.roundOf = none) (ho : ops[i]? = some o)
    (hE : oneE rec P ops o fr S = some (.code x fr' S')) (hf : Free σ S.next S'.next) :
    (x = .normal ∧ ∃ a' cs' w' σ', AR σ' fr' a' ∧ PanR σ' fr'.pan b cs' ∧ Turn b cs cs' ∧ Rel none2 base w₀ σ' S' w' ∧ Stp σ S w σ' S' w' ∧
      Steps P (lone (b.at a (.inRegion ops (i :: rest) :: k)) cs w) (lone (b.at a' (.inRegion ops rest :: k)) cs' w')) ∨
    ((∃ v, x = .panic v) ∧ Comes' P base w₀ σ S w (lone (b.at a (.inRegion ops (i :: rest) :: k)) cs w) b k cs x fr' S') := by
  unfold oneE at hE
  split at hE
  · cases hE
  · rename_i hw
    obtain ⟨rfl, h1, rfl⟩ := putE_some hE
    exact .inl ⟨rfl, _, cs, w, σ, hA.put h1 (undef_VR σ), by rw [(Fr.put_pan h1).1]; exact hp, .refl _, h, Stp.refl _ _ _, step_unwanted ho (wantE_sound hA hw)⟩
  · rename_i hw
    have hw := wantE_sound hA hw
    split at hE
    · cases hE
    · rename_i v S1 ha
      obtain ⟨rfl, h1, rfl⟩ := putE_some hE
      obtain ⟨r, w', σ', s1, s2, s3, s4⟩ := val_steps (rest := rest) (k := k) hG hrec h hA.eval hp hro ho hw ha hf
      exact .inl ⟨rfl, _, cs, w', σ', (hA.mono s4.le).put h1 s2, by rw [(Fr.put_pan h1).1]; exact hp.mono s4.le, .refl _, s3, s4, s1⟩
    · rename_i v S1 ha
      simp only [Option.some.injEq, Rs.code.injEq] at hE
      obtain ⟨rfl, rfl, rfl⟩ := hE
      obtain ⟨y, w', σ', s1, s2, s3, s4⟩ := pan_steps (b := b) (k := k) (cs := cs) (rest := rest) hG hrec h hA.eval ho hw ha hf
      exact .inr ⟨⟨_, rfl⟩, _, a, cs, w', σ', .panic s2, hA.mono s4.le, hp.mono s4.le, .refl _, s3, s4, _, s1⟩
    · rename_i d ha
      obtain ⟨rfl, h1, rfl⟩ := putE_some hE
      obtain ⟨f, l⟩ := d
      obtain ⟨d, caps, r1, r2, r3⟩ := (actE_sound hG hrec h hA.eval ha).2.2.1 f l rfl
      have hA' : AR σ { fr with ds := (f, l) :: fr.ds } { a with defers := d :: a.defers } := ⟨hA.n, hA.t, .cons r2 r3 hA.ds⟩
      exact .inl ⟨rfl, _, cs, w, σ, hA'.put h1 (undef_VR σ), by rw [(Fr.put_pan h1).1]; exact hp, .refl _, h, Stp.refl _ _ _, step_defer_op ho hw r1⟩
    · rename_i p v ha
      obtain ⟨rfl, h1, rfl⟩ := putE_some hE
      obtain ⟨e1, e2, r1⟩ := (actE_sound hG hrec h hA.eval ha).2.2.2 p v rfl
      subst e2
      rw [e1] at hp
      obtain ⟨hk, c, r, y, rfl, hm, hv⟩ := hp
      have hA' : AR σ { fr with pan := .done v } a := ⟨hA.n, hA.t, hA.ds⟩
      refine .inl ⟨rfl, _, { c with mode := .panicking [{ v := y, recovered := true }] } :: r, w, σ, hA'.put h1 hv, ?_, .head hk c _ r, h, Stp.refl _ _ _, step_recover_some hro ho hw r1 ?_⟩
      · rw [(Fr.put_pan h1).1]
        exact ⟨hk, _, _, y, rfl, rfl, hv⟩
      · simp [tryRecover, Frame.at, hk, hm]

theorem oneE_code {rec : Rec} {o : Oper} {fr : Fr} {r : Rs} (h : oneE rec P ops o fr S = some r) : ∃ x fr' S', r = .code x fr' S' := by
  unfold oneE at h
  split at h
  · cases h
  · exact putE_code h
  · split at h
    · cases h
    · exact putE_code h
    · cases h; exact ⟨_, _, _, rfl⟩
    · exact putE_code h
    · exact putE_code h

theorem seqE_sound (hG : Good P) {rec : Rec} (hl : LeOk rec) (hrec : CallOk P rec) (hro : b.roundOf = none) : ∀ (l : List Nat) {σ : Sg} {S : St} {w : World} {a : Act} {cs : List Frame} {fr fr' : Fr} {x : X} {S' : St}, Rel none2 base w₀ σ S w → AR σ fr a → PanR σ fr.pan b cs →
    seqE rec P ops l fr S = some (.code x fr' S') → Free σ S.next S'.next → Comes' P base w₀ σ S w (lone (b.at a (.inRegion ops l :: k)) cs w) b k cs x fr' S'
  | [], σ, S, w, a, cs, fr, fr', x, S', h, hA, hp, hE, _ => by
    simp only [seqE, Option.some.injEq, Rs.code.injEq] at hE
    obtain ⟨rfl, rfl, rfl⟩ := hE
    exact ⟨.normal, a, cs, w, σ, .normal, hA, hp, .refl _, h, Stp.refl _ _ _, Steps.one step_region_end⟩
  | i :: l, σ, S, w, a, cs, fr, fr', x, S', h, hA, hp, hE, hf => by
    simp only [seqE] at hE
    split at hE
    · cases hE
    · rename_i o ho
      split at hE
      · rename_i fr1 S1 h1
        have hn : S1.next ≤ S'.next := (seqE_le hl l hE).next
        have hf1 : Free σ S.next S1.next := hf.mono (Nat.le_refl _) hn
        rcases oneE_sound (rest := l) (k := k) hG hrec h hA hp hro ho h1 hf1 with ⟨_, a', cs', w', σ', q1, q2, q3, q4, q5, q6⟩ | ⟨⟨_, q0⟩, _⟩
        · obtain ⟨e, a'', cs'', w'', σ'', r0, r1, r2, r3, r4, r5, r6⟩ := seqE_sound hG hl hrec hro l q4 q1 q2 hE (q5.free hf)
          exact ⟨e, a'', cs'', w'', σ'', r0, r1, r2, q3.trans r3, r4, q5.trans r5 hf, .of_steps q6 r6⟩
        · cases q0
      · rename_i hne
        rcases oneE_sound (rest := l) (k := k) hG hrec h hA hp hro ho hE hf with ⟨q0, _⟩ | ⟨_, q⟩
        · subst q0; exact absurd hE (hne _ _)
        · exact q

end
end Go.Ev
