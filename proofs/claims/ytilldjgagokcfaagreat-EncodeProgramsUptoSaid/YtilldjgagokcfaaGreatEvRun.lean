/-
  Ev, part 18: calls and deferred calls; the whole.
-/
import Derived.Test.YtilldjgagokcfaaGreatEvSound
import Derived.Laws.Sem
set_option linter.unusedVariables false
set_option linter.unusedSimpArgs false
namespace Go.Ev
open Go.RowKit

section
variable {P : Program} {rec : Rec} {base : Nat} {w₀ w : World} {σ : Sg} {S S' : St} {a : Act} {fr : Fr} {fn : Func}

theorem go_find : ∀ (l : List V) (i : Nat) (t : Tr V) (j : Nat) (v : V), (startFr.go i l t).find j = some v → (i ≤ j ∧ l[j - i]? = some v) ∨ t.find j = some v
  | [], i, t, j, v, h => .inr h
  | x :: l, i, t, j, v, h => by
    simp only [startFr.go] at h
    rcases go_find l (i + 1) _ j v h with ⟨h1, h2⟩ | h1
    · left
      refine ⟨by omega, ?_⟩
      rw [show j - i = (j - (i + 1)) + 1 by omega]
      simpa using h2
    · rw [Tr.find_put] at h1
      split at h1
      · rename_i hj; subst hj; left; exact ⟨Nat.le_refl _, by simpa using h1⟩
      · exact .inr h1

theorem start_AR {l : List V} {vs : List Value} (h : VRs σ l vs) (p : Pan) : AR σ (startFr fn l p) { tmps := vs.toArray ++ Array.replicate (fn.ntmps - vs.toArray.size) undef, defers := [] } := by
  have hlen := h.length
  refine ⟨?_, fun t v ht => ?_, .nil⟩
  · simp only [startFr, Array.size_append, Array.size_replicate, List.size_toArray]
    omega
  · rcases go_find l 0 .leaf t v ht with ⟨_, h1⟩ | h1
    · obtain ⟨y, h2, h3⟩ := h.get h1
      refine ⟨y, ?_, h3⟩
      have hlt : t < vs.length := by
        rcases Nat.lt_or_ge t vs.length with h' | h'
        · exact h'
        · simp [List.getElem?_eq_none h'] at h2
      have h2' : vs.toArray[t]? = some y := by simpa using h2
      rw [Array.getElem?_append_left (by simpa using hlt)]
      exact h2'
    · rw [Tr.find_leaf] at h1; cases h1

def rvf (tmps : Array Value) : ResultVar → Sem Value
  | .tmp t => pure (tmps.getD t undef)
  | .cell a t => do loadVar t (← asAddr (tmps.getD a undef))

theorem results_eq (fn : Func) (tmps : Array Value) : results fn tmps = (do let vs ← List.toArray <$> fn.results.toList.mapM (rvf tmps); pure (if h : vs.size = 1 then vs[0] else .tuple vs)) := by
  rw [← Array.mapM_eq_mapM_toList]
  rfl

theorem results_sound (h : Rel none2 base w₀ σ S w) (hA : AR σ fr a) {v : V} (hr : resultsE P fn fr S = some v) : ∃ y, (results fn a.tmps).run P w = .ok y w ∧ VR σ v y := by
  have key : ∀ (l : List ResultVar) (vs : List V), mapO (fun r => match r with
      | ResultVar.tmp t => fr.t.find t
      | ResultVar.cell a t => match fr.t.find a with
        | some p => loadE P t p S
        | none => none) l = some vs → ∃ ys, (l.mapM (rvf a.tmps)).run P w = .ok ys w ∧ VRs σ vs ys := by
    intro l
    induction l with
    | nil => intro vs h1; simp only [mapO, Option.some.injEq] at h1; subst h1; exact ⟨[], by simp, .nil⟩
    | cons r l ih =>
      intro vs h1
      simp only [mapO] at h1
      split at h1
      · cases h1
      · rename_i u hu
        split at h1
        · cases h1
        · rename_i us hus
          cases h1
          obtain ⟨ys, y1, y2⟩ := ih us hus
          have hhead : ∃ y, (rvf a.tmps r).run P w = .ok y w ∧ VR σ u y := by
            cases r with
            | tmp t =>
              obtain ⟨y, z1, z2⟩ := hA.t t u hu
              exact ⟨y, by simp [rvf, Array.getD_eq_getD_getElem?, z1], z2⟩
            | cell c t =>
              simp only at hu
              split at hu
              · rename_i p hp
                obtain ⟨y, z1, z2⟩ := hA.t c p hp
                obtain ⟨b, o, q, rfl, q1, q2⟩ := loadE_sound h hu z2
                refine ⟨q, ?_, q2⟩
                have : a.tmps.getD c undef = .pointer (some ⟨b, o, none⟩) := by simp [Array.getD_eq_getD_getElem?, z1]
                simp only [rvf, this, asAddr, Sem.run_bind, Sem.run_pure, Result.andThen_ok]
                exact q1
              · cases hu
          obtain ⟨y, z1, z2⟩ := hhead
          refine ⟨y :: ys, ?_, .cons z2 y2⟩
          rw [List.mapM_cons]
          simp only [Sem.run_bind, z1, Result.andThen_ok, y1, Sem.run_pure]
  unfold resultsE at hr
  split at hr
  · rename_i u hu
    cases hr
    obtain ⟨ys, y1, y2⟩ := key _ _ hu
    cases y2 with
    | cons y2 y3 =>
      cases y3
      rename_i y
      refine ⟨y, ?_, y2⟩
      rw [results_eq]
      simp only [Sem.run_bind, map_eq_pure_bind, y1, Result.andThen_ok, Sem.run_pure]
      simp
  · rename_i vs hne hu
    cases hr
    obtain ⟨ys, y1, y2⟩ := key _ _ hu
    refine ⟨.tuple ys.toArray, ?_, .tup y2⟩
    rw [results_eq]
    simp only [Sem.run_bind, map_eq_pure_bind, y1, Result.andThen_ok, Sem.run_pure]
    have hn : ¬ ys.toArray.size = 1 := by
      intro h1
      have hl := y2.length
      have : vs.length = 1 := by rw [hl]; simpa using h1
      match vs, this with
      | [v], _ => exact hne v rfl
    rw [dif_neg hn]
  · cases hr

/-- How a call has ended. -/
def RetR (σ : Sg) : Rs → Ending → Prop
  | .ret v _, e => ∃ y, e = .returned y ∧ VR σ v y
  | .pan v _, e => ∃ y, e = .panicked [{ v := y, recovered := false }] ∧ VR σ v y
  | _, _ => False

def pn : Option V → Pan
  | none => .quiet
  | some v => .live v

theorem leaveE_le (hl : LeOk rec) : ∀ (ds : List (FuncId × List V)) {p : Option V} {S : St} {r : Rs}, leaveE rec P fn fr ds p S = some r → StLe S r.st
  | [], none, S, r, h => by
    simp only [leaveE, Option.map_eq_some_iff] at h
    obtain ⟨v, _, rfl⟩ := h
    exact .refl _
  | [], some v, S, r, h => by simp only [leaveE, Option.some.injEq] at h; subst h; exact .refl _
  | (g, l) :: ds, p, S, r, h => by
    simp only [leaveE] at h
    split at h
    · rename_i h1; exact (hl _ _ _ h1).trans (leaveE_le hl ds h)
    · rename_i h1; exact (hl _ _ _ h1).trans (leaveE_le hl ds h)
    · rename_i h1; exact (hl _ _ _ h1).trans (leaveE_le hl ds h)
    · cases h

theorem leave_ok (hG : Good P) (hR : RecOk P rec) : ∀ (ds : List (FuncId × List V)) {p : Option V} {S : St} {r : Rs}, leaveE rec P fn fr ds p S = some r →
    (∃ v S', r = .ret v S' ∨ r = .pan v S') ∧ ∀ (base : Nat) (w₀ : World) (σ : Sg) (w : World) (a : Act) (es : List Deferred) (u : FrameMode), Rel none2 base w₀ σ S w → AR σ fr a → DsR σ ds es → MR σ (pn p) u → Free σ S.next r.st.next →
      Leaves P fn a.tmps (fun e w' => ∃ σ', RetR σ' r e ∧ Rel none2 base w₀ σ' r.st w' ∧ Stp σ S w σ' r.st w') es u w
  | [], none, S, r, h => by
    simp only [leaveE, Option.map_eq_some_iff] at h
    obtain ⟨v, h1, rfl⟩ := h
    refine ⟨⟨v, S, .inl rfl⟩, fun base w₀ σ w a es u q1 q2 q3 q4 _ => ?_⟩
    cases q3
    have q4 : u = .returning := q4
    subst q4
    obtain ⟨y, y1, y2⟩ := results_sound q1 q2 h1
    exact ⟨y, y1, σ, ⟨y, rfl, y2⟩, q1, Stp.refl _ _ _⟩
  | [], some v, S, r, h => by
    simp only [leaveE, Option.some.injEq] at h
    subst h
    refine ⟨⟨v, S, .inr rfl⟩, fun base w₀ σ w a es u q1 q2 q3 q4 _ => ?_⟩
    cases q3
    obtain ⟨y, rfl, y2⟩ : ∃ y, u = .panicking [{ v := y, recovered := false }] ∧ VR σ v y := q4
    exact ⟨σ, ⟨y, rfl, y2⟩, q1, Stp.refl _ _ _⟩
  | (g, l) :: ds, p, S, r, h => by
    simp only [leaveE] at h
    -- the rest
    have rest : ∀ (p' : Pan) (p2 : Option V) (S1 : St), rec (.dcall g l (pn p)) S = some (.dret p' S1) → leaveE rec P fn fr ds p2 S1 = some r → (∀ σ u, MR σ p' u → MR σ (pn p2) (settle u)) →
        (∃ v S', r = .ret v S' ∨ r = .pan v S') ∧ ∀ (base : Nat) (w₀ : World) (σ : Sg) (w : World) (a : Act) (es : List Deferred) (u : FrameMode), Rel none2 base w₀ σ S w → AR σ fr a → DsR σ ((g, l) :: ds) es → MR σ (pn p) u → Free σ S.next r.st.next →
          Leaves P fn a.tmps (fun e w' => ∃ σ', RetR σ' r e ∧ Rel none2 base w₀ σ' r.st w' ∧ Stp σ S w σ' r.st w') es u w := by
      intro p' p2 S1 h1 h2 hset
      obtain ⟨k1, k2⟩ := leave_ok hG hR ds h2
      have hn := (leaveE_le hR.le ds h2).next
      refine ⟨k1, fun base w₀ σ w a es u q1 q2 q3 q4 q5 => ?_⟩
      cases q3 with
      | cons ht hv hds =>
        rename_i d caps es'
        obtain ⟨p'', S1', he, ⟨fn', hf', hb'⟩, hrun⟩ := hR.dcall g l (pn p) S _ h1
        cases he
        have hu : u ≠ .run := by
          rintro rfl
          cases p with
          | none => cases q4
          | some v => obtain ⟨y, h, _⟩ := q4; cases h
        have harr : (d.args ++ caps).toList.toArray = d.args ++ caps := by simp
        refine ⟨hu, .func g, caps, g, d.args ++ caps, ht, ?_, ?_⟩
        · have hnm := hG.nm g fn' hf' hb'
          have hbn : fn'.body.isNone = false := by cases hq : fn'.body <;> simp_all
          rw [ht]
          simp only [invoke]
          cases hq : fn'.body with
          | none => rw [hq] at hb'; cases hb'
          | some body => simp [callFunc, hf', hnm, hq]
        · have hc := hrun base w₀ σ w _ u q1 hv q4 (q5.mono (Nat.le_refl _) hn)
          rw [harr] at hc
          refine CallsD.mono hc fun e u' w' => ?_
          rintro ⟨⟨y, rfl⟩, σ', m1, m2, m3⟩
          have := k2 base w₀ σ' w' a es' (settle u') m2 (q2.mono m3.le) (hds.mono m3.le) (hset _ _ m1) (m3.free q5)
          simp only
          revert this
          generalize settle u' = u2
          intro this
          refine leaves_mono this fun e w'' => ?_
          rintro ⟨σ'', z1, z2, z3⟩
          exact ⟨σ'', z1, z2, m3.trans z3 q5⟩
    split at h
    · rename_i S1 h1
      exact rest .quiet none S1 (by cases p <;> exact h1) h fun σ u hu => by have hu : u = .returning := hu; subst hu; rfl
    · rename_i v S1 h1
      exact rest (.live v) (some v) S1 (by cases p <;> exact h1) h fun σ u hu => by obtain ⟨y, rfl, h⟩ := hu; exact ⟨y, rfl, h⟩
    · rename_i v S1 h1
      exact rest (.done v) none S1 (by cases p <;> exact h1) h fun σ u hu => by obtain ⟨y, rfl, h⟩ := hu; rfl
    · cases h
where
  leaves_mono {P : Program} {fn : Func} {tmps : Array Value} {R R' : Ending → World → Prop} : ∀ {ds : List Deferred} {u : FrameMode} {w : World}, Leaves P fn tmps R ds u w → (∀ e w', R e w' → R' e w') → Leaves P fn tmps R' ds u w
    | [], .returning, w, ⟨v, h1, h2⟩, hr => ⟨v, h1, hr _ _ h2⟩
    | [], .panicking _, w, h, hr => hr _ _ h
    | [], .run, w, h, hr => h
    | d :: ds, u, w, ⟨h0, fv, cap, f, args, h1, h2, h3⟩, hr => ⟨h0, fv, cap, f, args, h1, h2, CallsD.mono h3 fun e u' w' he => by
        cases e with
        | returned v => exact leaves_mono he hr
        | panicked ch => exact leaves_mono he hr
        | outgrown => exact hr _ _ he⟩

end
end Go.Ev
