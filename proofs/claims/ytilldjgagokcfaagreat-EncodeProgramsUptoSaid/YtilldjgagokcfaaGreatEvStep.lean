/-
  Ev, part 10: frames, and one operation of whatever kind.
-/
import Derived.Test.YtilldjgagokcfaaGreatEvOp
import Derived.Laws.Externs
set_option linter.unusedVariables false
set_option linter.unusedSimpArgs false
namespace Go.Ev
open Go.RowKit

/-- What is asked of a program once. -/
structure Good (P : Program) : Prop where
  nm : ∀ (f : FuncId) (fn : Func), P.funcs[f]? = some fn → fn.body.isSome = true → fn.name ≠ "runtime.NumGoroutine"
  esc : ∀ (f : FuncId) (fn : Func), P.funcs[f]? = some fn → fn.body = none → fn.name = "internal/abi.NoEscape" → Extern.findNext fn = none ∧ Extern.find fn = some Extern.AbiNoEscape.same
  mix : P.follows .mixedOrders = true

inductive DsR (σ : Sg) : List (FuncId × List V) → List Deferred → Prop
  | nil : DsR σ [] []
  | cons {f : FuncId} {l : List V} {d : Deferred} {caps : Array Value} {ds : List (FuncId × List V)} {es : List Deferred} (ht : d.target = .fn (.func f) caps) (h : VRs σ l (d.args ++ caps).toList) (k : DsR σ ds es) :
      DsR σ ((f, l) :: ds) (d :: es)

theorem DsR.mono {σ σ' : Sg} (hs : σ.le σ') : ∀ {ds : List (FuncId × List V)} {es : List Deferred}, DsR σ ds es → DsR σ' ds es
  | _, _, .nil => .nil
  | _, _, .cons ht h k => .cons ht (h.mono hs) (k.mono hs)

structure AR (σ : Sg) (fr : Fr) (a : Act) : Prop where
  n : a.tmps.size = fr.n
  t : ∀ t v, fr.t.find t = some v → ∃ y, a.tmps[t]? = some y ∧ VR σ v y
  ds : DsR σ fr.ds a.defers

theorem AR.mono {σ σ' : Sg} (hs : σ.le σ') {fr : Fr} {a : Act} (h : AR σ fr a) : AR σ' fr a :=
  ⟨h.n, fun t v ht => let ⟨y, h1, h2⟩ := h.t t v ht; ⟨y, h1, h2.mono hs⟩, h.ds.mono hs⟩

def PanR (σ : Sg) (p : Pan) (b : Frame) (cs : List Frame) : Prop :=
  match p with
  | .norm => b.kind = .normal
  | .quiet => b.kind = .deferred ∧ ∃ c r, cs = c :: r ∧ c.mode = .returning
  | .live v => b.kind = .deferred ∧ ∃ c r y, cs = c :: r ∧ c.mode = .panicking [{ v := y, recovered := false }] ∧ VR σ v y
  | .done v => b.kind = .deferred ∧ ∃ c r y, cs = c :: r ∧ c.mode = .panicking [{ v := y, recovered := true }] ∧ VR σ v y

theorem PanR.mono {σ σ' : Sg} (hs : σ.le σ') {p : Pan} {b : Frame} {cs : List Frame} (h : PanR σ p b cs) : PanR σ' p b cs := by
  cases p with
  | norm => exact h
  | quiet => exact h
  | live v => obtain ⟨h1, c, r, y, h2, h3, h4⟩ := h; exact ⟨h1, c, r, y, h2, h3, h4.mono hs⟩
  | done v => obtain ⟨h1, c, r, y, h2, h3, h4⟩ := h; exact ⟨h1, c, r, y, h2, h3, h4.mono hs⟩

/-- Of a deferred frame's callers the first one's mode alone turns. -/
inductive Turn (b : Frame) : List Frame → List Frame → Prop
  | refl (cs : List Frame) : Turn b cs cs
  | head (h : b.kind = .deferred) (c : Frame) (u : FrameMode) (r : List Frame) : Turn b (c :: r) ({ c with mode := u } :: r)

theorem Turn.trans {f : Frame} {a b c : List Frame} (h : Turn f a b) (k : Turn f b c) : Turn f a c := by
  cases h with
  | refl => exact k
  | head hf c u r =>
    cases k with
    | refl => exact .head hf c u r
    | head _ _ u' _ => exact .head hf c u' r

section
variable {P : Program} {base : Nat} {w₀ w : World} {σ : Sg} {S S' : St}

theorem AR.eval {fr : Fr} {a : Act} (h : AR σ fr a) : ∀ x u, fr.opd x = some u → VR σ u (a.eval x) := by
  intro x u hu
  cases x with
  | tmp t =>
    obtain ⟨y, h1, h2⟩ := h.t t u hu
    have : a.eval (.tmp t) = y := by simp [Act.eval, h1]
    rwa [this]
  | const v => exact ofVal_sound σ _ _ _ hu
  | global g => simp [Fr.opd] at hu
  | func f =>
    simp [Fr.opd] at hu
    subst hu
    exact VR.func (vs := []) (ws := []) .nil .nil

theorem AR.put {fr fr' : Fr} {a : Act} (h : AR σ fr a) {dst : Option Tmp} {v : V} {y : Value} (hp : fr.put dst v = some fr') (hv : VR σ v y) : AR σ fr' (a.put dst y) := by
  cases dst with
  | none => simp [Fr.put] at hp; subst hp; exact h
  | some d =>
    simp only [Fr.put] at hp
    split at hp
    · rename_i hd
      cases hp
      have hd : d < fr.n := by simpa using hd
      refine ⟨by simpa [Act.put] using h.n, fun t u ht => ?_, h.ds⟩
      simp only [Tr.find_put] at ht
      split at ht
      · rename_i he
        subst he
        cases ht
        exact ⟨y, by simp [Act.put, h.n, hd], hv⟩
      · rename_i he
        obtain ⟨z, h1, h2⟩ := h.t t u ht
        exact ⟨z, by simp only [Act.put]; rw [Array.getElem?_setIfInBounds_ne (fun e => he e.symm)]; exact h1, h2⟩
    · cases hp

theorem Fr.put_pan {fr fr' : Fr} {dst : Option Tmp} {v : V} (hp : fr.put dst v = some fr') : fr'.pan = fr.pan ∧ fr'.ds = fr.ds := by
  cases dst with
  | none => simp [Fr.put] at hp; subst hp; exact ⟨rfl, rfl⟩
  | some d =>
    simp only [Fr.put] at hp
    split at hp
    · cases hp; exact ⟨rfl, rfl⟩
    · cases hp

theorem wantE_sound {fr : Fr} {a : Act} (h : AR σ fr a) {ops : Array Oper} {o : Oper} {b : Bool} (hw : wantE ops o fr = some b) : Region.wanted o (yielded ops a.tmps) = b := by
  unfold wantE at hw
  unfold Region.wanted
  split at hw
  · rename_i hg; rw [hg]; cases hw; rfl
  · rename_i j want hg
    rw [hg]
    simp only
    split at hw
    · cases hw
    · rename_i d hd
      unfold yielded
      rw [hd]
      simp only [Option.bind_some]
      split at hw
      · rename_i b' hf
        obtain ⟨y, h1, h2⟩ := h.t d _ hf
        cases h2
        cases hw
        rw [h1]
        cases b' <;> cases want <;> rfl
      · rename_i hf
        obtain ⟨y, h1, h2⟩ := h.t d _ hf
        cases hw
        rw [h1]
        cases h2
        cases want <;> rfl
      · cases hw

theorem calleeE_sound {ev : Operand → Option V} {ρ : Operand → Value} (hev : ∀ x u, ev x = some u → VR σ u (ρ x)) {f : Operand} {args : Array Operand} {g : FuncId} {l : List V} (h : calleeE ev f args = some (g, l)) :
    ∃ first caps : Array Value, ρ f = .func (.func g) first caps ∧ VRs σ l (first ++ args.map ρ ++ caps).toList := by
  unfold calleeE at h
  split at h
  · rename_i g' first caps l' hf hl
    simp only [Option.some.injEq, Prod.mk.injEq] at h
    obtain ⟨rfl, rfl⟩ := h
    have := hev _ _ hf
    cases hq : ρ f <;> rw [hq] at this <;> cases this
    rename_i vs ws hv hw
    refine ⟨_, _, rfl, ?_⟩
    have hm := mapO_VRs hev hl
    simpa using (hv.append hm).append hw
  · cases h

/-- How a run of code ends. -/
inductive XR (σ : Sg) : X → Exit → Prop
  | normal : XR σ .normal .normal
  | exit (n : Nat) : XR σ (.exit n) (.exit n)
  | ret : XR σ .ret .ret
  | panic {v : V} {y : Value} (h : VR σ v y) : XR σ (.panic v) (.panic [{ v := y, recovered := false }])

/-- What a call comes to. -/
def CallOk (P : Program) (rec : Rec) : Prop :=
  ∀ (g : FuncId) (l : List V) (S : St) (r : Rs), rec (.call g l) S = some r →
    (∀ v S', r = .ret v S' → ∀ base w₀ σ w (vs : List Value), Rel none2 base w₀ σ S w → Free σ S.next S'.next → VRs σ l vs →
      Calls P g vs.toArray w fun e w' => ∃ y σ', e = .returned y ∧ VR σ' v y ∧ Rel none2 base w₀ σ' S' w' ∧ Stp σ S w σ' S' w') ∧
    (∀ v S', r = .pan v S' → ∀ base w₀ σ w (vs : List Value), Rel none2 base w₀ σ S w → Free σ S.next S'.next → VRs σ l vs →
      Calls P g vs.toArray w fun e w' => ∃ y σ', e = .panicked [{ v := y, recovered := false }] ∧ VR σ' v y ∧ Rel none2 base w₀ σ' S' w' ∧ Stp σ S w σ' S' w')

/-- What the model's operation does, where the abstract one comes to a value, a panic, a deferred call, a recovery. -/
theorem actE_sound (hG : Good P) {rec : Rec} (hrec : CallOk P rec) (h : Rel none2 base w₀ σ S w) {o : Oper} {ev : Operand → Option V} {ρ : Operand → Value} {pan : Pan} (hev : ∀ x u, ev x = some u → VR σ u (ρ x)) {ac : Ac} (ha : actE rec P o.op ev pan S = some ac) :
    (∀ v S', ac = .val v S' → Free σ S.next S'.next →
      (∃ r w' σ', ((execOp ρ o).run P w = .ok (.value r) w' ∨ ((execOp ρ o).run P w = .ok .skip w' ∧ r = undef) ∨
          ((execOp ρ o).run P w = .ok .recover w' ∧ (match pan with | .live _ => False | _ => True) ∧ r = .nilIface)) ∧ VR σ' v r ∧ Rel none2 base w₀ σ' S' w' ∧ Stp σ S w σ' S' w') ∨
      (∃ g args w', (execOp ρ o).run P w = .ok (.enter g args) w' ∧ Calls P g args w' fun e w'' => ∃ y σ', e = .returned y ∧ VR σ' v y ∧ Rel none2 base w₀ σ' S' w'' ∧ Stp σ S w σ' S' w'')) ∧
    (∀ v S', ac = .pan v S' → Free σ S.next S'.next →
      (∃ y w' σ', (execOp ρ o).run P w = .halt (.panic y) w' ∧ VR σ' v y ∧ Rel none2 base w₀ σ' S' w' ∧ Stp σ S w σ' S' w') ∨
      (∃ g args w', (execOp ρ o).run P w = .ok (.enter g args) w' ∧ Calls P g args w' fun e w'' => ∃ y σ', e = .panicked [{ v := y, recovered := false }] ∧ VR σ' v y ∧ Rel none2 base w₀ σ' S' w'' ∧ Stp σ S w σ' S' w'')) ∧
    (∀ f l, ac = .dfr (f, l) → ∃ d caps, (execOp ρ o).run P w = .ok (.defer d) w ∧ d.target = .fn (.func f) caps ∧ VRs σ l (d.args ++ caps).toList) ∧
    (∀ p v, ac = .rcv p v → pan = .live v ∧ p = .done v ∧ (execOp ρ o).run P w = .ok .recover w) := by
  obtain ⟨dst, op, type, pos, after, guard⟩ := o
  simp only at ha
  -- an operation that runs no code
  have plain : ∀ v S', opE P op ev S = some (v, S') → Free σ S.next S'.next → ∃ r w' σ', ((execOp ρ ⟨dst, op, type, pos, after, guard⟩).run P w = .ok (.value r) w' ∨ ((execOp ρ ⟨dst, op, type, pos, after, guard⟩).run P w = .ok .skip w' ∧ r = undef) ∨
          ((execOp ρ ⟨dst, op, type, pos, after, guard⟩).run P w = .ok .recover w' ∧ (match pan with | .live _ => False | _ => True) ∧ r = .nilIface)) ∧ VR σ' v r ∧ Rel none2 base w₀ σ' S' w' ∧ Stp σ S w σ' S' w' := by
    intro v S' h1 h2
    obtain ⟨r, w', σ', e1, e2⟩ := opE_sound (o := ⟨dst, op, type, pos, after, guard⟩) h h1 h2 hev
    refine ⟨r, w', σ', ?_, e2⟩
    rcases e1 with e1 | e1
    · exact .inl e1
    · exact .inr (.inl e1)
  unfold actE at ha
  split at ha
  · -- a call
    rename_i f args ats
    split at ha
    · cases ha
    · rename_i g l hc
      obtain ⟨first, caps, hf, hl⟩ := calleeE_sound hev hc
      have hexec : (execOp ρ ⟨dst, .call { callee := .value f, args, argTypes := ats }, type, pos, after, guard⟩).run P w = (callFunc g (first ++ args.map ρ ++ caps)).run P w := by
        simp only [execOp, resolve, hf, Deferred.ofValue, Sem.run_bind, Sem.run_pure, Result.andThen_ok, invoke]
      split at ha
      · cases ha
      · rename_i fn hfn
        split at ha
        · rename_i body hb
          have hnm := hG.nm g fn hfn (by rw [hb]; rfl)
          have henter : (callFunc g (first ++ args.map ρ ++ caps)).run P w = .ok (.enter g (first ++ args.map ρ ++ caps)) w := by
            simp [callFunc, hfn, hnm, hb]
          have harr : (first ++ args.map ρ ++ caps).toList.toArray = first ++ args.map ρ ++ caps := by simp
          split at ha
          · rename_i v S' hr
            cases ha
            refine ⟨fun v' S'' e hfr => ?_, fun v S' e => by (cases e), fun f l e => by (cases e), fun p v e => by (cases e)⟩
            cases e
            have := (hrec g l S _ hr).1 _ _ rfl base w₀ σ w _ h hfr hl
            rw [harr] at this
            exact .inr ⟨g, _, w, by rw [hexec, henter], this⟩
          · rename_i v S' hr
            cases ha
            refine ⟨fun v S' e => by (cases e), fun v' S'' e hfr => ?_, fun f l e => by (cases e), fun p v e => by (cases e)⟩
            cases e
            have := (hrec g l S _ hr).2 _ _ rfl base w₀ σ w _ h hfr hl
            rw [harr] at this
            exact .inr ⟨g, _, w, by rw [hexec, henter], this⟩
          · cases ha
        · rename_i hb
          split at ha
          · rename_i hname
            split at ha
            · rename_i v
              cases ha
              refine ⟨fun v' S'' e hfr => ?_, fun v S' e => by (cases e), fun f l e => by (cases e), fun p v e => by (cases e)⟩
              cases e
              obtain ⟨x1, x2⟩ := hG.esc g fn hfn hb hname
              cases hq : (first ++ args.map ρ ++ caps).toList with
              | nil => rw [hq] at hl; cases hl
              | cons y ys =>
                rw [hq] at hl
                cases hl with
                | cons hv hn =>
                  cases hn
                  have harr : first ++ args.map ρ ++ caps = #[y] := by
                    apply Array.ext'
                    rw [hq]
                  refine .inl ⟨y, w, σ, .inl ?_, hv, h, Stp.refl _ _ _⟩
                  rw [hexec, harr, run_callFunc_extern hfn (by rw [hname]; decide) (by rw [hb]; rfl) x1 x2]
                  rfl
            · cases ha
          · cases ha
  · -- recover
    rename_i args ats
    have hexec : (execOp ρ ⟨dst, .call { callee := .builtin .recover, args, argTypes := ats }, type, pos, after, guard⟩).run P w = .ok .recover w := by
      simp [execOp, resolve, invoke, builtin]
    split at ha
    · cases ha
      refine ⟨fun v S' e _ => ?_, fun v S' e => by (cases e), fun f l e => by (cases e), fun p v e => by (cases e)⟩
      cases e
      exact .inl ⟨.nilIface, w, σ, .inr (.inr ⟨hexec, trivial, rfl⟩), .nili, h, Stp.refl _ _ _⟩
    · cases ha
      refine ⟨fun v S' e _ => ?_, fun v S' e => by (cases e), fun f l e => by (cases e), fun p v e => by (cases e)⟩
      cases e
      exact .inl ⟨.nilIface, w, σ, .inr (.inr ⟨hexec, trivial, rfl⟩), .nili, h, Stp.refl _ _ _⟩
    · cases ha
      refine ⟨fun v S' e _ => ?_, fun v S' e => by (cases e), fun f l e => by (cases e), fun p v e => by (cases e)⟩
      cases e
      exact .inl ⟨.nilIface, w, σ, .inr (.inr ⟨hexec, trivial, rfl⟩), .nili, h, Stp.refl _ _ _⟩
    · cases ha
      refine ⟨fun v S' e => by (cases e), fun v S' e => by (cases e), fun f l e => by (cases e), fun p v e => ?_⟩
      cases e
      exact ⟨rfl, rfl, hexec⟩
  · -- defer
    rename_i f args ats
    split at ha
    · cases ha
    · rename_i g l hc
      cases ha
      obtain ⟨first, caps, hf, hl⟩ := calleeE_sound hev hc
      refine ⟨fun v S' e => by (cases e), fun v S' e => by (cases e), fun f' l' e => ?_, fun p v e => by (cases e)⟩
      cases e
      refine ⟨{ target := .fn (.func g) caps, args := first ++ args.map ρ }, caps, ?_, rfl, hl⟩
      simp only [execOp, resolve, hf, Deferred.ofValue, Sem.run_bind, Sem.run_pure, Result.andThen_ok]
  · -- panic
    rename_i x
    split at ha
    · rename_i t v hx
      cases ha
      refine ⟨fun v S' e => by (cases e), fun v' S' e _ => ?_, fun f l e => by (cases e), fun p v e => by (cases e)⟩
      cases e
      have := hev _ _ hx
      cases hq : ρ x <;> rw [hq] at this <;> cases this
      rename_i y hy
      refine .inl ⟨.iface t y, w, σ, ?_, .iface t hy, h, Stp.refl _ _ _⟩
      simp [execOp, hq, Instr.panic]
    · cases ha
  · split at ha
    · rename_i v S' ho
      cases ha
      refine ⟨fun v' S'' e hfr => ?_, fun v S' e => by (cases e), fun f l e => by (cases e), fun p v e => by (cases e)⟩
      cases e
      exact .inl (plain _ _ ho hfr)
    · cases ha

end
end Go.Ev
