/-
  Ev, part 19: the evaluator is right.
-/
import Derived.Test.YtilldjgagokcfaaGreatEvRun
set_option linter.unusedVariables false
set_option linter.unusedSimpArgs false
namespace Go.Ev
open Go.RowKit

section
variable {P : Program} {rec : Rec} {base : Nat} {w₀ w : World} {σ : Sg} {S S' : St} {a : Act} {fr : Fr} {fn : Func}

theorem drawE_le (hl : LeOk rec) {ops : Array Oper} (hok : (planOf ops).ok = true) {r : Rs} (hE : drawE rec P ops (planOf ops).ms S (planOf ops).ord [] fr S = some r) : StLe S r.st := by
  have hord : ordOk (masks ops.toList []) ops 0 (planOf ops).ord = true := by
    have : (edgesOk ops && dstOk (masks ops.toList []) ops && ordOk (masks ops.toList []) ops 0 (planOf ops).ord) = true := hok
    simp only [Bool.and_eq_true] at this
    exact this.2
  rcases drawE_tra hl (planOf ops).ord .nil .nil hord hE with ⟨_, _, _, rfl, h, _⟩ | ⟨_, _, _, _, _, rfl, ⟨o, R, T0, frm, frR, Sm, Sa, SR, l2, _, h0, _, _, hx, _, _, _, _, _, _, _, _, rfl, hSN⟩⟩
  · exact h.le hl
  · exact ((h0.le hl).trans (actE_le hl hx : StLe Sm Sa)).trans (.up _ hSN)

theorem stepT_le (hl : LeOk rec) : LeOk (stepT P rec) := by
  intro task S r h
  cases task with
  | call f args =>
    simp only [stepT] at h
    split at h
    · cases h
    · split at h
      · cases h
      · split at h
        · rename_i h1; exact (hl _ _ _ h1).trans (leaveE_le hl _ h)
        · rename_i h1; exact (hl _ _ _ h1).trans (leaveE_le hl _ h)
        · rename_i h1; exact (hl _ _ _ h1).trans (leaveE_le hl _ h)
        · cases h
  | dcall f args p =>
    simp only [stepT] at h
    split at h
    · cases h
    · split at h
      · cases h
      · split at h
        · rename_i h1
          split at h
          · cases h; have := hl _ _ _ h1; exact this
          · cases h
        · rename_i h1
          split at h
          · cases h; have := hl _ _ _ h1; exact this
          · cases h
        · cases h
  | code c fr =>
    simp only [stepT] at h
    cases c <;> simp only at h <;> try (cases h; done)
    case skip => cases h; exact .refl _
    case ret => cases h; exact .refl _
    case exit n => cases h; exact .refl _
    case region id ops draw =>
      cases draw with
      | false => simp only [regionE] at h; exact seqE_le hl _ h
      | true =>
        simp only [regionE] at h
        split at h
        · rename_i hok; exact drawE_le hl hok h
        · cases h
    case seq y z =>
      split at h
      · rename_i h1; exact (hl _ _ _ h1).trans (hl _ _ _ h)
      · exact hl _ _ _ h
    case cond o y z =>
      split at h
      · exact hl _ _ _ h
      · exact hl _ _ _ h
      · cases h
    case block n y =>
      split at h
      · rename_i h1
        have := hl _ _ _ h1
        split at h <;> cases h <;> exact this
      · exact hl _ _ _ h
    case loop y =>
      split at h
      · rename_i h1; exact (hl _ _ _ h1).trans (hl _ _ _ h)
      · exact hl _ _ _ h

theorem Turn.normal {b : Frame} {cs cs' : List Frame} (h : Turn b cs cs') (hb : b.kind = .normal) : cs' = cs := by
  cases h with
  | refl => rfl
  | head hk => rw [hb] at hk; cases hk

/-- The run of a body and of what is deferred. -/
theorem body_ok (hG : Good P) (hR : RecOk P rec) {f : FuncId} {c : Code} {args : List V} {r : Rs} (hf : P.funcs[f]? = some fn) (hb : fn.body = some c) {x : X} {fr' : Fr} {S1 : St}
    (hc : rec (.code c (startFr fn args .norm)) S = some (.code x fr' S1)) {p : Option V} (hx : (x = .normal ∨ x = .ret) ∧ p = none ∨ ∃ v, x = .panic v ∧ p = some v) (hl : leaveE rec P fn fr' fr'.ds p S1 = some r) :
    (∃ v S', r = .ret v S' ∨ r = .pan v S') ∧ ∀ (base : Nat) (w₀ : World) (σ : Sg) (w : World) (vs : List Value), Rel none2 base w₀ σ S w → Free σ S.next r.st.next → VRs σ args vs →
      Calls P f vs.toArray w fun e w' => ∃ σ', RetR σ' r e ∧ Rel none2 base w₀ σ' r.st w' ∧ Stp σ S w σ' r.st w' := by
  obtain ⟨k1, k2⟩ := leave_ok hG hR fr'.ds hl
  have hn := (leaveE_le hR.le fr'.ds hl).next
  refine ⟨k1, fun base w₀ σ w vs q1 q2 q3 => ?_⟩
  obtain ⟨x', fr'', S1', he, hrun⟩ := hR.code.at hc
  cases he
  intro cs
  let b : Frame := { (default : Frame) with fn := f, kind := .normal }
  have henter : Frame.enter P f vs.toArray .normal = b.at { tmps := vs.toArray ++ Array.replicate (fn.ntmps - vs.toArray.size) undef, defers := [] } [.code c] := by
    simp [Frame.enter, Frame.at, hf, hb, b]
  obtain ⟨e, a', cs', w', σ', z0, z1, z2, z3, z4, z5, z6⟩ := hrun base w₀ σ w _ b cs [] q1 (start_AR q3 .norm) rfl rfl (q2.mono (Nat.le_refl _) hn)
  rw [← henter] at z6
  have hcs := z3.normal rfl
  subst hcs
  have fin : ∀ (u : FrameMode) (todo : List Item), MR σ' (pn p) u → Steps P (lone (Frame.enter P f vs.toArray .normal) cs' w) (lone { b.at a' todo with mode := u } cs' w') →
      ∃ e w'' fr0, (∃ σ'', RetR σ'' r e ∧ Rel none2 base w₀ σ'' r.st w'' ∧ Stp σ S w σ'' r.st w'') ∧ Comes P (lone (Frame.enter P f vs.toArray .normal) cs' w) (lone fr0 cs' w'') e ∧ fr0.fn = f ∧ fr0.leaving P w'' e := by
    intro u todo hu hs
    have hL := k2 base w₀ σ' w' a' a'.defers u z4 z1 z1.ds hu (z5.free q2)
    obtain ⟨e', w'', frX, ⟨σ'', r1, r2, r3⟩, hs', hfn, hlv⟩ := leaves_steps a'.defers u w' { b.at a' todo with mode := u } cs' rfl rfl rfl hf rfl hL
    exact ⟨e', w'', frX, ⟨σ'', r1, r2, z5.trans r3 q2⟩, Comes.of_steps hs hs', hfn, hlv⟩
  rcases hx with ⟨rfl | rfl, rfl⟩ | ⟨v, rfl, rfl⟩
  · cases z0
    exact fin .returning [] rfl (Steps.trans z6 (.one step_end))
  · cases z0
    obtain ⟨todo, z6⟩ := z6
    exact fin .returning todo rfl z6
  · cases z0 with
    | panic hv =>
      obtain ⟨todo, z6⟩ := z6
      exact fin _ todo ⟨_, rfl, hv⟩ z6

theorem call_ok (hG : Good P) (hR : RecOk P rec) : CallOk P (stepT P rec) := by
  intro g l S r h
  simp only [stepT] at h
  have key : ∀ (r : Rs), stepT P rec (.call g l) S = some r → (∃ v S', r = .ret v S' ∨ r = .pan v S') ∧ ∀ (base : Nat) (w₀ : World) (σ : Sg) (w : World) (vs : List Value), Rel none2 base w₀ σ S w → Free σ S.next r.st.next → VRs σ l vs →
      Calls P g vs.toArray w fun e w' => ∃ σ', RetR σ' r e ∧ Rel none2 base w₀ σ' r.st w' ∧ Stp σ S w σ' r.st w' := by
    intro r h
    simp only [stepT] at h
    split at h
    · cases h
    · rename_i fn hf
      split at h
      · cases h
      · rename_i c hb
        split at h
        · rename_i h1; exact body_ok hG hR hf hb h1 (.inl ⟨.inl rfl, rfl⟩) h
        · rename_i h1; exact body_ok hG hR hf hb h1 (.inl ⟨.inr rfl, rfl⟩) h
        · rename_i h1; exact body_ok hG hR hf hb h1 (.inr ⟨_, rfl, rfl⟩) h
        · cases h
  obtain ⟨_, k2⟩ := key r h
  refine ⟨fun v S' hr base w₀ σ w vs q1 q2 q3 => ?_, fun v S' hr base w₀ σ w vs q1 q2 q3 => ?_⟩
  · subst hr
    refine Calls.mono (k2 base w₀ σ w vs q1 q2 q3) fun e w' => ?_
    rintro ⟨σ', ⟨y, rfl, y1⟩, y2, y3⟩
    exact ⟨y, σ', rfl, y1, y2, y3⟩
  · subst hr
    refine Calls.mono (k2 base w₀ σ w vs q1 q2 q3) fun e w' => ?_
    rintro ⟨σ', ⟨y, rfl, y1⟩, y2, y3⟩
    exact ⟨y, σ', rfl, y1, y2, y3⟩

theorem Turn.cons {b c : Frame} {cs cs' : List Frame} (h : Turn b (c :: cs) cs') : ∃ u, cs' = { c with mode := u } :: cs := by
  cases h with
  | refl => exact ⟨c.mode, rfl⟩
  | head _ _ u _ => exact ⟨u, rfl⟩

theorem dcall_ok (hR : RecOk P rec) : DcallOk P (stepT P rec) := by
  intro g l p S r h
  simp only [stepT] at h
  split at h
  · cases h
  · rename_i fn hf
    split at h
    · cases h
    · rename_i c hb
      have key : ∀ (x : X) (fr : Fr) (S' : St), (x = .normal ∨ x = .ret) → rec (.code c (startFr fn l p)) S = some (.code x fr S') → (match fr.ds, resultsE P fn fr S' with
          | [], some _ => some (Rs.dret fr.pan S')
          | _, _ => none) = some r → ∃ p' S', r = .dret p' S' ∧ (∃ fn, P.funcs[g]? = some fn ∧ fn.body.isSome = true) ∧
          ∀ (base : Nat) (w₀ : World) (σ : Sg) (w : World) (vs : List Value) (u : FrameMode), Rel none2 base w₀ σ S w → VRs σ l vs → MR σ p u → Free σ S.next S'.next →
            CallsD P g vs.toArray u w fun e u' w' => (∃ y, e = .returned y) ∧ ∃ σ', MR σ' p' u' ∧ Rel none2 base w₀ σ' S' w' ∧ Stp σ S w σ' S' w' := by
        intro x fr S' hx hc h
        split at h
        · rename_i v hds hres
          cases h
          refine ⟨_, _, rfl, ⟨fn, hf, by rw [hb]; rfl⟩, fun base w₀ σ w vs u q1 q2 q3 q4 => ?_⟩
          obtain ⟨x', fr'', S1', he, hrun⟩ := hR.code.at hc
          cases he
          intro c₀ cs hu
          let b : Frame := { (default : Frame) with fn := g, kind := .deferred }
          have henter : Frame.enter P g vs.toArray .deferred = b.at { tmps := vs.toArray ++ Array.replicate (fn.ntmps - vs.toArray.size) undef, defers := [] } [.code c] := by
            simp [Frame.enter, Frame.at, hf, hb, b]
          subst hu
          obtain ⟨e, a', cs', w', σ', z0, z1, z2, z3, z4, z5, z6⟩ := hrun base w₀ σ w _ b (c₀ :: cs) [] q1 (start_AR q2 p) (q3.toPan rfl) rfl q4
          rw [← henter] at z6
          obtain ⟨u', rfl⟩ := z3.cons
          have hm := MR.ofPan z2 rfl
          obtain ⟨y, y1, y2⟩ := results_sound z4 z1 hres
          have hds' : a'.defers = [] := by
            have := z1.ds
            rw [hds] at this
            cases hq : a'.defers with
            | nil => rfl
            | cons d ds => rw [hq] at this; cases this
          rcases hx with rfl | rfl
          · cases z0
            exact ⟨.returned y, u', w', _, ⟨⟨y, rfl⟩, σ', hm, z4, z5⟩, Steps.trans z6 (.one step_end), rfl, rfl, hds', fn, hf, y1⟩
          · cases z0
            obtain ⟨todo, z6⟩ := z6
            exact ⟨.returned y, u', w', _, ⟨⟨y, rfl⟩, σ', hm, z4, z5⟩, z6, rfl, rfl, hds', fn, hf, y1⟩
        · cases h
      split at h
      · rename_i h1; exact key _ _ _ (.inl rfl) h1 h
      · rename_i h1; exact key _ _ _ (.inr rfl) h1 h
      · cases h

theorem run_ok (hG : Good P) : ∀ n, RecOk P (run P n)
  | 0 => ⟨fun _ _ _ h => (by cases h), fun _ _ _ _ h => (by cases h), fun _ _ _ _ h => (by cases h), fun _ _ _ _ _ h => (by cases h)⟩
  | n + 1 => ⟨stepT_le (run_ok hG n).le, call_ok hG (run_ok hG n), code_ok hG (run_ok hG n), dcall_ok (run_ok hG n)⟩

/-- Nothing is known. -/
def Sg.none : Sg := ⟨fun _ => Option.none, fun _ _ => Option.none, fun _ => Option.none⟩

theorem rel_start (w : World) : Rel none2 w.heap.size w Sg.none S0 w :=
  ⟨Below.refl _ _, Nat.le_refl _, fun _ _ _ h => (by cases h), fun _ _ _ h => (by cases h), fun _ _ h => (by cases h),
    fun id o h => (by simp only [S0, Tr.find_leaf] at h; cases h), fun i j o o' x y h => (by simp only [S0, Tr.find_leaf] at h; cases h)⟩

/-- A call without arguments that comes to a truth value, at every world. -/
theorem closed (hG : Good P) {n : Nat} {f : FuncId} {v : Bool} {S' : St} (h : run P n (.call f []) S0 = some (.ret (.bool v) S')) (w : World) :
    Calls P f #[] w fun e w' => e = .returned (.bool v) ∧ Below w.heap.size w w' := by
  have := ((run_ok hG n).call f [] S0 _ h).1 _ _ rfl w.heap.size w Sg.none w [] (rel_start w) (fun _ _ _ => rfl) .nil
  refine Calls.mono this fun e w' => ?_
  rintro ⟨y, σ', rfl, hv, hr, _⟩
  cases hv
  exact ⟨rfl, hr.below⟩

def boolOf : Option Rs → Option Bool
  | some (.ret (.bool b) _) => some b
  | _ => none

theorem closed' (hG : Good P) {f : FuncId} {v : Bool} (n : Nat) (h : boolOf (run P n (.call f []) S0) = some v) (w : World) :
    Calls P f #[] w fun e w' => e = .returned (.bool v) ∧ Below w.heap.size w w' := by
  unfold boolOf at h
  split at h
  · rename_i b S' he
    cases h
    exact closed hG he w
  · cases h

end

/-! ### What is asked of a program, decided -/

theorem good_of {P : Program} (i : Nat) (fn0 : Func) (h1 : (P.funcs.all fun fn => fn.body.isNone || !decide (fn.name = "runtime.NumGoroutine")) = true)
    (h2 : ((List.range P.funcs.size).all fun j => match P.funcs[j]? with
      | some fn => fn.body.isSome || !decide (fn.name = "internal/abi.NoEscape") || Nat.beq j i
      | none => true) = true)
    (hat : P.funcs[i]? = some fn0) (e1 : Extern.findNext fn0 = none) (e2 : Extern.find fn0 = some Extern.AbiNoEscape.same) (mix : P.follows .mixedOrders = true) : Good P where
  nm f fn hf hb := by
    rw [Array.all_eq_true_iff_forall_mem] at h1
    have := h1 fn (Array.mem_of_getElem? hf)
    intro he
    rw [he] at this
    cases hq : fn.body with
    | none => rw [hq] at hb; cases hb
    | some b => rw [hq] at this; simp at this
  esc f fn hf hb hn := by
    rw [List.all_eq_true] at h2
    have h3 := h2 f (List.mem_range.2 (Array.getElem?_eq_some_iff.1 hf).1)
    rw [hf] at h3
    simp only [hb, hn, decide_true, Bool.not_true, Option.isSome_none, Bool.false_or] at h3
    have := Nat.eq_of_beq_eq_true h3
    subst this
    rw [hat] at hf
    cases hf
    exact ⟨e1, e2⟩
  mix := mix

end Go.Ev
