import Derived.Test.YtilldjgagokcfaaGreatE5
import Derived.Recover
import Derived.Laws.Sem
set_option linter.unusedVariables false
set_option linter.unusedSimpArgs false
namespace Go.Ev
open Go.RowKit
def MR (σ : Sg) (p : Pan) (u : FrameMode) : Prop :=
  match p with
  | .norm => False
  | .quiet => u = .returning
  | .live v => ∃ y, u = .panicking [{ v := y, recovered := false }] ∧ VR σ v y
  | .done v => ∃ y, u = .panicking [{ v := y, recovered := true }] ∧ VR σ v y
theorem MR.toPan {σ : Sg} {p : Pan} {b c : Frame} {cs : List Frame} (h : MR σ p c.mode) (hb : b.kind = .deferred) : PanR σ p b (c :: cs) := by
  cases p with
  | norm => exact h.elim
  | quiet => exact ⟨hb, c, cs, rfl, h⟩
  | live v => obtain ⟨y, h1, h2⟩ := h; exact ⟨hb, c, cs, y, rfl, h1, h2⟩
  | done v => obtain ⟨y, h1, h2⟩ := h; exact ⟨hb, c, cs, y, rfl, h1, h2⟩
theorem MR.ofPan {σ : Sg} {p : Pan} {b c : Frame} {cs : List Frame} (h : PanR σ p b (c :: cs)) (hb : b.kind = .deferred) : MR σ p c.mode := by
  cases p with
  | norm => have h : b.kind = .normal := h; rw [hb] at h; cases h
  | quiet => obtain ⟨_, _, _, h1, h2⟩ := h; cases h1; exact h2
  | live v => obtain ⟨_, _, _, y, h1, h2, h3⟩ := h; cases h1; exact ⟨y, h2, h3⟩
  | done v => obtain ⟨_, _, _, y, h1, h2, h3⟩ := h; cases h1; exact ⟨y, h2, h3⟩
theorem MR.mono {σ σ' : Sg} (hs : σ.le σ') {p : Pan} {u : FrameMode} (h : MR σ p u) : MR σ' p u := by
  cases p with
  | norm => exact h
  | quiet => exact h
  | live v => obtain ⟨y, h1, h2⟩ := h; exact ⟨y, h1, h2.mono hs⟩
  | done v => obtain ⟨y, h1, h2⟩ := h; exact ⟨y, h1, h2.mono hs⟩
def ent (c : Code) (k : List Item) : List Item :=
  match c with
  | .loop b => .code b :: .inLoop b :: k
  | c => .code c :: k
def CodeOk (P : Program) (rec : Rec) : Prop :=
  ∀ (c : Code) (fr : Fr) (S : St) (r : Rs), rec (.code c fr) S = some r → ∃ x fr' S', r = .code x fr' S' ∧
    ∀ (base : Nat) (w₀ : World) (σ : Sg) (w : World) (a : Act) (b : Frame) (cs : List Frame) (k : List Item), Rel none2 base w₀ σ S w → AR σ fr a → PanR σ fr.pan b cs → b.roundOf = none → Free σ S.next S'.next →
      Comes' P base w₀ σ S w (lone (b.at a (ent c k)) cs w) b k cs x fr' S'
def DcallOk (P : Program) (rec : Rec) : Prop :=
  ∀ (g : FuncId) (l : List V) (p : Pan) (S : St) (r : Rs), rec (.dcall g l p) S = some r → ∃ p' S', r = .dret p' S' ∧ (∃ fn, P.funcs[g]? = some fn ∧ fn.body.isSome = true) ∧
    ∀ (base : Nat) (w₀ : World) (σ : Sg) (w : World) (vs : List Value) (u : FrameMode), Rel none2 base w₀ σ S w → VRs σ l vs → MR σ p u → Free σ S.next S'.next →
      CallsD P g vs.toArray u w fun e u' w' => (∃ y, e = .returned y) ∧ ∃ σ', MR σ' p' u' ∧ Rel none2 base w₀ σ' S' w' ∧ Stp σ S w σ' S' w'
structure RecOk (P : Program) (rec : Rec) : Prop where
  le : LeOk rec
  call : CallOk P rec
  code : CodeOk P rec
  dcall : DcallOk P rec
section
variable {P : Program} {rec : Rec} {base : Nat} {w₀ w : World} {σ : Sg} {S S' : St} {a : Act} {b : Frame} {cs : List Frame} {k : List Item} {fr fr' : Fr} {x : X} {m m₁ : Machine} {c : Code}
theorem ent_steps : Steps P (lone (b.at a (.code c :: k)) cs w) (lone (b.at a (ent c k)) cs w) := by
  cases c
  case loop => exact .one step_loop
  all_goals exact .refl _ _
theorem Comes'.of_steps (hs : Steps P m m₁) (h : Comes' P base w₀ σ S w m₁ b k cs x fr' S') : Comes' P base w₀ σ S w m b k cs x fr' S' :=
  let ⟨e, a', cs', w', σ', z0, z1, z2, z3, z4, z5, z6⟩ := h
  ⟨e, a', cs', w', σ', z0, z1, z2, z3, z4, z5, .of_steps hs z6⟩
theorem CodeOk.at (h : CodeOk P rec) {r : Rs} (hr : rec (.code c fr) S = some r) : ∃ x fr' S', r = .code x fr' S' ∧
    ∀ (base : Nat) (w₀ : World) (σ : Sg) (w : World) (a : Act) (b : Frame) (cs : List Frame) (k : List Item), Rel none2 base w₀ σ S w → AR σ fr a → PanR σ fr.pan b cs → b.roundOf = none → Free σ S.next S'.next →
      Comes' P base w₀ σ S w (lone (b.at a (.code c :: k)) cs w) b k cs x fr' S' := by
  obtain ⟨x, fr', S', rfl, h1⟩ := h c fr S r hr
  exact ⟨x, fr', S', rfl, fun base w₀ σ w a b cs k q1 q2 q3 q4 q5 => (h1 base w₀ σ w a b cs k q1 q2 q3 q4 q5).of_steps ent_steps⟩
theorem region_ok (hG : Good P) (hR : RecOk P rec) {id : Nat} {ops : Array Oper} {draw : Bool} {r : Rs} (hr : regionE rec P ops draw fr S = some r) : ∃ x fr' S', r = .code x fr' S' ∧
    ∀ (base : Nat) (w₀ : World) (σ : Sg) (w : World) (a : Act) (b : Frame) (cs : List Frame) (k : List Item), Rel none2 base w₀ σ S w → AR σ fr a → PanR σ fr.pan b cs → b.roundOf = none → Free σ S.next S'.next →
      Comes' P base w₀ σ S w (lone (b.at a (.code (.region id ops draw) :: k)) cs w) b k cs x fr' S' := by
  cases draw with
  | false =>
    simp only [regionE] at hr
    have hc : ∀ (l : List Nat) {fr : Fr} {S : St} {r : Rs}, seqE rec P ops l fr S = some r → ∃ x fr' S', r = .code x fr' S' := by
      intro l
      induction l with
      | nil => intro fr S r h; simp only [seqE, Option.some.injEq] at h; exact ⟨_, _, _, h.symm⟩
      | cons i l ih =>
        intro fr S r h
        simp only [seqE] at h
        split at h
        · cases h
        · split at h
          · exact ih h
          · exact oneE_code h
    obtain ⟨x, fr', S', rfl⟩ := hc _ hr
    exact ⟨x, fr', S', rfl, fun base w₀ σ w a b cs k q1 q2 q3 q4 q5 => (seqE_sound hG hR.le hR.call q4 _ q1 q2 q3 hr q5).of_steps (.one step_region)⟩
  | true =>
    simp only [regionE] at hr
    split at hr
    · rename_i hok
      have hcode : ∃ x fr' S', r = .code x fr' S' := by
        have hord : ordOk (masks ops.toList []) ops 0 (planOf ops).ord = true := by
          have : (edgesOk ops && dstOk (masks ops.toList []) ops && ordOk (masks ops.toList []) ops 0 (planOf ops).ord) = true := hok
          simp only [Bool.and_eq_true] at this
          exact this.2
        rcases drawE_tra hR.le (planOf ops).ord .nil .nil hord hr with ⟨_, _, _, h, _⟩ | ⟨_, _, _, _, _, h, _⟩
        · exact ⟨_, _, _, h⟩
        · exact ⟨_, _, _, h⟩
      obtain ⟨x, fr', S', rfl⟩ := hcode
      refine ⟨x, fr', S', rfl, fun base w₀ σ w a b cs k q1 q2 q3 q4 q5 => ?_⟩
      have hd : Rel none2 base w₀ σ S { w with drawn := w.drawn + 1 } := q1.drew rfl rfl rfl rfl
      obtain ⟨x', fr'', S'', he, hrun⟩ := drawE_sound (b := b) (k := k) (cs := cs) hG hR.le hR.call hd q2 q3 q4 hok hr
      cases he
      have hst := step_region_draw (P := P) (b := b) (a := a) (k := k) (cs := cs) (w := w) (ops := ops) (id := id)
      rw [hG.mix] at hst
      obtain ⟨e, a', cs', w', σ', z0, z1, z2, z3, z4, z5, z6⟩ := hrun q5 (w.tape w.drawn (.order b.fn id))
      refine ⟨e, a', cs', w', σ', z0, z1, z2, z3, z4, ?_, .of_steps (.one hst) z6⟩
      exact (Stp.drew σ S w { w with drawn := w.drawn + 1 } rfl).trans z5 q5
    · cases hr
theorem pass_X {y : Item} {e : Exit} {a' : Act} {w' : World} (hy : y.plain = true) (hx : XR σ x e) (hn : x ≠ .normal) (h : Arrives P m b (y :: k) cs e a' w') : Arrives P m b k cs e a' w' := by
  refine .pass hy (fun _ _ => .inl ?_) h
  cases hx
  · exact absurd rfl hn
  all_goals simp
theorem code_ok (hG : Good P) (hR : RecOk P rec) : CodeOk P (stepT P rec) := by
  intro c fr S r hr
  simp only [stepT] at hr
  cases c <;> simp only at hr <;> try (cases hr; done)
  case skip =>
    cases hr
    exact ⟨_, _, _, rfl, fun base w₀ σ w a b cs k q1 q2 q3 q4 q5 => ⟨.normal, a, cs, w, σ, .normal, q2, q3, .refl _, q1, Stp.refl _ _ _, Steps.one step_skip⟩⟩
  case ret =>
    cases hr
    exact ⟨_, _, _, rfl, fun base w₀ σ w a b cs k q1 q2 q3 q4 q5 => ⟨.ret, a, cs, w, σ, .ret, q2, q3, .refl _, q1, Stp.refl _ _ _, _, .one step_ret⟩⟩
  case exit n =>
    cases hr
    exact ⟨_, _, _, rfl, fun base w₀ σ w a b cs k q1 q2 q3 q4 q5 => ⟨.exit n, a, cs, w, σ, .exit n, q2, q3, .refl _, q1, Stp.refl _ _ _, fun k' hk => .one (step_exit hk)⟩⟩
  case region id ops draw => exact region_ok hG hR hr
  case seq y z =>
    split at hr
    · rename_i fr1 S1 h1
      obtain ⟨x', fr1', S1', he, hy⟩ := hR.code.at h1
      cases he
      obtain ⟨x, fr', S', rfl, hz⟩ := hR.code.at hr
      have hn : S1.next ≤ S'.next := (hR.le _ _ _ hr).next
      refine ⟨x, fr', S', rfl, fun base w₀ σ w a b cs k q1 q2 q3 q4 q5 => ?_⟩
      obtain ⟨e, a', cs', w', σ', z0, z1, z2, z3, z4, z5, z6⟩ := hy base w₀ σ w a b cs (.code z :: k) q1 q2 q3 q4 (q5.mono (Nat.le_refl _) hn)
      cases z0
      obtain ⟨e', a'', cs'', w'', σ'', y0, y1, y2, y3, y4, y5, y6⟩ := hz base w₀ σ' w' a' b cs' k z4 z1 z2 q4 (z5.free q5)
      exact ⟨e', a'', cs'', w'', σ'', y0, y1, y2, z3.trans y3, y4, z5.trans y5 q5, .of_steps (Steps.trans (.one step_seq) z6) y6⟩
    · rename_i hne
      obtain ⟨x, fr', S', rfl, hy⟩ := hR.code.at hr
      refine ⟨x, fr', S', rfl, fun base w₀ σ w a b cs k q1 q2 q3 q4 q5 => ?_⟩
      obtain ⟨e, a', cs', w', σ', z0, z1, z2, z3, z4, z5, z6⟩ := hy base w₀ σ w a b cs (.code z :: k) q1 q2 q3 q4 q5
      exact ⟨e, a', cs', w', σ', z0, z1, z2, z3, z4, z5, .of_steps (.one step_seq) (pass_X rfl z0 (fun h => hne _ _ (by rw [hr, h])) z6)⟩
  case cond o y z =>
    split at hr
    · rename_i ho
      obtain ⟨x, fr', S', rfl, hy⟩ := hR.code.at hr
      refine ⟨x, fr', S', rfl, fun base w₀ σ w a b cs k q1 q2 q3 q4 q5 => ?_⟩
      have hv := q2.eval _ _ ho
      have hv : a.eval o = .bool true := by cases hq : a.eval o <;> rw [hq] at hv <;> cases hv; rfl
      exact (hy base w₀ σ w a b cs k q1 q2 q3 q4 q5).of_steps (.one (step_cond hv))
    · rename_i ho
      obtain ⟨x, fr', S', rfl, hy⟩ := hR.code.at hr
      refine ⟨x, fr', S', rfl, fun base w₀ σ w a b cs k q1 q2 q3 q4 q5 => ?_⟩
      have hv := q2.eval _ _ ho
      have hv : a.eval o = .bool false := by cases hq : a.eval o <;> rw [hq] at hv <;> cases hv; rfl
      exact (hy base w₀ σ w a b cs k q1 q2 q3 q4 q5).of_steps (.one (step_cond hv))
    · cases hr
  case block n y =>
    have hx : ∃ x fr' S', rec (.code y fr) S = some (.code x fr' S') ∧ (∀ base w₀ σ w a b cs k, Rel none2 base w₀ σ S w → AR σ fr a → PanR σ fr.pan b cs → b.roundOf = none → Free σ S.next S'.next →
        Comes' P base w₀ σ S w (lone (b.at a (.code y :: k)) cs w) b k cs x fr' S') ∧ r = .code (match x with | .exit m => if Nat.beq m n then .normal else .exit m | x => x) fr' S' := by
      split at hr
      · rename_i m fr1 S1 h1
        obtain ⟨x, fr', S', he, hy⟩ := hR.code.at h1
        cases he
        refine ⟨_, _, _, h1, hy, ?_⟩
        split at hr <;> cases hr <;> simp [*]
      · rename_i hne
        obtain ⟨x, fr', S', rfl, hy⟩ := hR.code.at hr
        refine ⟨_, _, _, hr, hy, ?_⟩
        cases x with
        | exit m => exact absurd hr (hne _ _ _)
        | _ => rfl
    obtain ⟨x, fr', S', h1, hy, rfl⟩ := hx
    refine ⟨_, _, _, rfl, fun base w₀ σ w a b cs k q1 q2 q3 q4 q5 => ?_⟩
    obtain ⟨e, a', cs', w', σ', z0, z1, z2, z3, z4, z5, z6⟩ := hy base w₀ σ w a b cs (.inBlock n :: k) q1 q2 q3 q4 q5
    have hs : Steps P (lone (b.at a (ent (.block n y) k)) cs w) (lone (b.at a (.code y :: .inBlock n :: k)) cs w) := .one step_block
    cases z0 with
    | normal => exact ⟨.normal, a', cs', w', σ', .normal, z1, z2, z3, z4, z5, Steps.trans hs (Steps.trans z6 (.one step_inBlock))⟩
    | exit m =>
      by_cases hm : m = n
      · subst hm
        refine ⟨.normal, a', cs', w', σ', ?_, z1, z2, z3, z4, z5, Steps.trans hs (z6 k (by simp [exitTo]))⟩
        simp only [Nat.beq_refl, if_true]; exact .normal
      · have hne : Nat.beq m n = false := by
          cases hq : Nat.beq m n
          · rfl
          · exact absurd (Nat.eq_of_beq_eq_true hq) hm
        refine ⟨.exit m, a', cs', w', σ', ?_, z1, z2, z3, z4, z5, fun k' hk => Steps.trans hs (z6 k' ?_)⟩
        · simp only [hne]; exact .exit m
        · have : (n == m) = false := by simp; exact fun h => hm h.symm
          simp [exitTo, this, hk]
    | ret => exact ⟨_, a', cs', w', σ', .ret, z1, z2, z3, z4, z5, .of_steps hs z6⟩
    | panic hv => exact ⟨_, a', cs', w', σ', .panic hv, z1, z2, z3, z4, z5, .of_steps hs z6⟩
  case loop y =>
    split at hr
    · rename_i fr1 S1 h1
      obtain ⟨x', fr1', S1', he, hy⟩ := hR.code.at h1
      cases he
      obtain ⟨x, fr', S', rfl, hz⟩ := hR.code _ _ _ _ hr
      have hn : S1.next ≤ S'.next := (hR.le _ _ _ hr).next
      refine ⟨x, fr', S', rfl, fun base w₀ σ w a b cs k q1 q2 q3 q4 q5 => ?_⟩
      obtain ⟨e, a', cs', w', σ', z0, z1, z2, z3, z4, z5, z6⟩ := hy base w₀ σ w a b cs (.inLoop y :: k) q1 q2 q3 q4 (q5.mono (Nat.le_refl _) hn)
      cases z0
      obtain ⟨e', a'', cs'', w'', σ'', y0, y1, y2, y3, y4, y5, y6⟩ := hz base w₀ σ' w' a' b cs' k z4 z1 z2 q4 (z5.free q5)
      exact ⟨e', a'', cs'', w'', σ'', y0, y1, y2, z3.trans y3, y4, z5.trans y5 q5, .of_steps (Steps.trans z6 (.one step_inLoop)) y6⟩
    · rename_i hne
      obtain ⟨x, fr', S', rfl, hy⟩ := hR.code.at hr
      refine ⟨x, fr', S', rfl, fun base w₀ σ w a b cs k q1 q2 q3 q4 q5 => ?_⟩
      obtain ⟨e, a', cs', w', σ', z0, z1, z2, z3, z4, z5, z6⟩ := hy base w₀ σ w a b cs (.inLoop y :: k) q1 q2 q3 q4 q5
      exact ⟨e, a', cs', w', σ', z0, z1, z2, z3, z4, z5, pass_X rfl z0 (fun h => hne _ _ (by rw [hr, h])) z6⟩
end
end Go.Ev
namespace Go.Ev
open Go.RowKit
section
variable {P : Program} {rec : Rec} {base : Nat} {w₀ w : World} {σ : Sg} {S S' : St} {a : Act} {fr : Fr} {fn : Func}
theorem go_find : ∀ (l : List V) (i : Nat) (t : Tr V) (j : Nat) (v : V), (startFr.go i l t).find j = some v → (i ≤ j ∧ l[j - i]? = some v) ∨ t.find j = some v
  | [], i, t, j, v, h => .inr h
  | x :: l, i, t, j, v, h => by
    simp only [startFr.go] at h
    rcases go_find l (i + 1) _ j v h with ⟨h1, h2⟩ | h1
    · left
      refine ⟨by omega, ?_⟩
      rw [show j - i = (j - (i + 1)) + 1 by omega]
      simpa using h2
    · rw [Tr.find_put] at h1
      split at h1
      · rename_i hj; subst hj; left; exact ⟨Nat.le_refl _, by simpa using h1⟩
      · exact .inr h1
theorem start_AR {l : List V} {vs : List Value} (h : VRs σ l vs) (p : Pan) : AR σ (startFr fn l p) { tmps := vs.toArray ++ Array.replicate (fn.ntmps - vs.toArray.size) undef, defers := [] } := by
  have hlen := h.length
  refine ⟨?_, fun t v ht => ?_, .nil⟩
  · simp only [startFr, Array.size_append, Array.size_replicate, List.size_toArray]
    omega
  · rcases go_find l 0 .leaf t v ht with ⟨_, h1⟩ | h1
    · obtain ⟨y, h2, h3⟩ := h.get h1
      refine ⟨y, ?_, h3⟩
      have hlt : t < vs.length := by
        rcases Nat.lt_or_ge t vs.length with h' | h'
        · exact h'
        · simp [List.getElem?_eq_none h'] at h2
      have h2' : vs.toArray[t]? = some y := by simpa using h2
      rw [Array.getElem?_append_left (by simpa using hlt)]
      exact h2'
    · rw [Tr.find_leaf] at h1; cases h1
def rvf (tmps : Array Value) : ResultVar → Sem Value
  | .tmp t => pure (tmps.getD t undef)
  | .cell a t => do loadVar t (← asAddr (tmps.getD a undef))
theorem results_eq (fn : Func) (tmps : Array Value) : results fn tmps = (do let vs ← List.toArray <$> fn.results.toList.mapM (rvf tmps); pure (if h : vs.size = 1 then vs[0] else .tuple vs)) := by
  rw [← Array.mapM_eq_mapM_toList]
  rfl
theorem results_sound (h : Rel none2 base w₀ σ S w) (hA : AR σ fr a) {v : V} (hr : resultsE P fn fr S = some v) : ∃ y, (results fn a.tmps).run P w = .ok y w ∧ VR σ v y := by
  have key : ∀ (l : List ResultVar) (vs : List V), mapO (fun r => match r with
      | ResultVar.tmp t => fr.t.find t
      | ResultVar.cell a t => match fr.t.find a with
        | some p => loadE P t p S
        | none => none) l = some vs → ∃ ys, (l.mapM (rvf a.tmps)).run P w = .ok ys w ∧ VRs σ vs ys := by
    intro l
    induction l with
    | nil => intro vs h1; simp only [mapO, Option.some.injEq] at h1; subst h1; exact ⟨[], by simp, .nil⟩
    | cons r l ih =>
      intro vs h1
      simp only [mapO] at h1
      split at h1
      · cases h1
      · rename_i u hu
        split at h1
        · cases h1
        · rename_i us hus
          cases h1
          obtain ⟨ys, y1, y2⟩ := ih us hus
          have hhead : ∃ y, (rvf a.tmps r).run P w = .ok y w ∧ VR σ u y := by
            cases r with
            | tmp t =>
              obtain ⟨y, z1, z2⟩ := hA.t t u hu
              exact ⟨y, by simp [rvf, Array.getD_eq_getD_getElem?, z1], z2⟩
            | cell c t =>
              simp only at hu
              split at hu
              · rename_i p hp
                obtain ⟨y, z1, z2⟩ := hA.t c p hp
                obtain ⟨b, o, q, rfl, q1, q2⟩ := loadE_sound h hu z2
                refine ⟨q, ?_, q2⟩
                have : a.tmps.getD c undef = .pointer (some ⟨b, o, none⟩) := by simp [Array.getD_eq_getD_getElem?, z1]
                simp only [rvf, this, asAddr, Sem.run_bind, Sem.run_pure, Result.andThen_ok]
                exact q1
              · cases hu
          obtain ⟨y, z1, z2⟩ := hhead
          refine ⟨y :: ys, ?_, .cons z2 y2⟩
          rw [List.mapM_cons]
          simp only [Sem.run_bind, z1, Result.andThen_ok, y1, Sem.run_pure]
  unfold resultsE at hr
  split at hr
  · rename_i u hu
    cases hr
    obtain ⟨ys, y1, y2⟩ := key _ _ hu
    cases y2 with
    | cons y2 y3 =>
      cases y3
      rename_i y
      refine ⟨y, ?_, y2⟩
      rw [results_eq]
      simp only [Sem.run_bind, map_eq_pure_bind, y1, Result.andThen_ok, Sem.run_pure]
      simp
  · rename_i vs hne hu
    cases hr
    obtain ⟨ys, y1, y2⟩ := key _ _ hu
    refine ⟨.tuple ys.toArray, ?_, .tup y2⟩
    rw [results_eq]
    simp only [Sem.run_bind, map_eq_pure_bind, y1, Result.andThen_ok, Sem.run_pure]
    have hn : ¬ ys.toArray.size = 1 := by
      intro h1
      have hl := y2.length
      have : vs.length = 1 := by rw [hl]; simpa using h1
      match vs, this with
      | [v], _ => exact hne v rfl
    rw [dif_neg hn]
  · cases hr
def RetR (σ : Sg) : Rs → Ending → Prop
  | .ret v _, e => ∃ y, e = .returned y ∧ VR σ v y
  | .pan v _, e => ∃ y, e = .panicked [{ v := y, recovered := false }] ∧ VR σ v y
  | _, _ => False
def pn : Option V → Pan
  | none => .quiet
  | some v => .live v
theorem leaveE_le (hl : LeOk rec) : ∀ (ds : List (FuncId × List V)) {p : Option V} {S : St} {r : Rs}, leaveE rec P fn fr ds p S = some r → StLe S r.st
  | [], none, S, r, h => by
    simp only [leaveE, Option.map_eq_some_iff] at h
    obtain ⟨v, _, rfl⟩ := h
    exact .refl _
  | [], some v, S, r, h => by simp only [leaveE, Option.some.injEq] at h; subst h; exact .refl _
  | (g, l) :: ds, p, S, r, h => by
    simp only [leaveE] at h
    split at h
    · rename_i h1; exact (hl _ _ _ h1).trans (leaveE_le hl ds h)
    · rename_i h1; exact (hl _ _ _ h1).trans (leaveE_le hl ds h)
    · rename_i h1; exact (hl _ _ _ h1).trans (leaveE_le hl ds h)
    · cases h
theorem leave_ok (hG : Good P) (hR : RecOk P rec) : ∀ (ds : List (FuncId × List V)) {p : Option V} {S : St} {r : Rs}, leaveE rec P fn fr ds p S = some r →
    (∃ v S', r = .ret v S' ∨ r = .pan v S') ∧ ∀ (base : Nat) (w₀ : World) (σ : Sg) (w : World) (a : Act) (es : List Deferred) (u : FrameMode), Rel none2 base w₀ σ S w → AR σ fr a → DsR σ ds es → MR σ (pn p) u → Free σ S.next r.st.next →
      Leaves P fn a.tmps (fun e w' => ∃ σ', RetR σ' r e ∧ Rel none2 base w₀ σ' r.st w' ∧ Stp σ S w σ' r.st w') es u w
  | [], none, S, r, h => by
    simp only [leaveE, Option.map_eq_some_iff] at h
    obtain ⟨v, h1, rfl⟩ := h
    refine ⟨⟨v, S, .inl rfl⟩, fun base w₀ σ w a es u q1 q2 q3 q4 _ => ?_⟩
    cases q3
    have q4 : u = .returning := q4
    subst q4
    obtain ⟨y, y1, y2⟩ := results_sound q1 q2 h1
    exact ⟨y, y1, σ, ⟨y, rfl, y2⟩, q1, Stp.refl _ _ _⟩
  | [], some v, S, r, h => by
    simp only [leaveE, Option.some.injEq] at h
    subst h
    refine ⟨⟨v, S, .inr rfl⟩, fun base w₀ σ w a es u q1 q2 q3 q4 _ => ?_⟩
    cases q3
    obtain ⟨y, rfl, y2⟩ : ∃ y, u = .panicking [{ v := y, recovered := false }] ∧ VR σ v y := q4
    exact ⟨σ, ⟨y, rfl, y2⟩, q1, Stp.refl _ _ _⟩
  | (g, l) :: ds, p, S, r, h => by
    simp only [leaveE] at h
    have rest : ∀ (p' : Pan) (p2 : Option V) (S1 : St), rec (.dcall g l (pn p)) S = some (.dret p' S1) → leaveE rec P fn fr ds p2 S1 = some r → (∀ σ u, MR σ p' u → MR σ (pn p2) (settle u)) →
        (∃ v S', r = .ret v S' ∨ r = .pan v S') ∧ ∀ (base : Nat) (w₀ : World) (σ : Sg) (w : World) (a : Act) (es : List Deferred) (u : FrameMode), Rel none2 base w₀ σ S w → AR σ fr a → DsR σ ((g, l) :: ds) es → MR σ (pn p) u → Free σ S.next r.st.next →
          Leaves P fn a.tmps (fun e w' => ∃ σ', RetR σ' r e ∧ Rel none2 base w₀ σ' r.st w' ∧ Stp σ S w σ' r.st w') es u w := by
      intro p' p2 S1 h1 h2 hset
      obtain ⟨k1, k2⟩ := leave_ok hG hR ds h2
      have hn := (leaveE_le hR.le ds h2).next
      refine ⟨k1, fun base w₀ σ w a es u q1 q2 q3 q4 q5 => ?_⟩
      cases q3 with
      | cons ht hv hds =>
        rename_i d caps es'
        obtain ⟨p'', S1', he, ⟨fn', hf', hb'⟩, hrun⟩ := hR.dcall g l (pn p) S _ h1
        cases he
        have hu : u ≠ .run := by
          rintro rfl
          cases p with
          | none => cases q4
          | some v => obtain ⟨y, h, _⟩ := q4; cases h
        have harr : (d.args ++ caps).toList.toArray = d.args ++ caps := by simp
        refine ⟨hu, .func g, caps, g, d.args ++ caps, ht, ?_, ?_⟩
        · have hnm := hG.nm g fn' hf' hb'
          have hbn : fn'.body.isNone = false := by cases hq : fn'.body <;> simp_all
          rw [ht]
          simp only [invoke]
          cases hq : fn'.body with
          | none => rw [hq] at hb'; cases hb'
          | some body => simp [callFunc, hf', hnm, hq]
        · have hc := hrun base w₀ σ w _ u q1 hv q4 (q5.mono (Nat.le_refl _) hn)
          rw [harr] at hc
          refine CallsD.mono hc fun e u' w' => ?_
          rintro ⟨⟨y, rfl⟩, σ', m1, m2, m3⟩
          have := k2 base w₀ σ' w' a es' (settle u') m2 (q2.mono m3.le) (hds.mono m3.le) (hset _ _ m1) (m3.free q5)
          simp only
          revert this
          generalize settle u' = u2
          intro this
          refine leaves_mono this fun e w'' => ?_
          rintro ⟨σ'', z1, z2, z3⟩
          exact ⟨σ'', z1, z2, m3.trans z3 q5⟩
    split at h
    · rename_i S1 h1
      exact rest .quiet none S1 (by cases p <;> exact h1) h fun σ u hu => by have hu : u = .returning := hu; subst hu; rfl
    · rename_i v S1 h1
      exact rest (.live v) (some v) S1 (by cases p <;> exact h1) h fun σ u hu => by obtain ⟨y, rfl, h⟩ := hu; exact ⟨y, rfl, h⟩
    · rename_i v S1 h1
      exact rest (.done v) none S1 (by cases p <;> exact h1) h fun σ u hu => by obtain ⟨y, rfl, h⟩ := hu; rfl
    · cases h
where
  leaves_mono {P : Program} {fn : Func} {tmps : Array Value} {R R' : Ending → World → Prop} : ∀ {ds : List Deferred} {u : FrameMode} {w : World}, Leaves P fn tmps R ds u w → (∀ e w', R e w' → R' e w') → Leaves P fn tmps R' ds u w
    | [], .returning, w, ⟨v, h1, h2⟩, hr => ⟨v, h1, hr _ _ h2⟩
    | [], .panicking _, w, h, hr => hr _ _ h
    | [], .run, w, h, hr => h
    | d :: ds, u, w, ⟨h0, fv, cap, f, args, h1, h2, h3⟩, hr => ⟨h0, fv, cap, f, args, h1, h2, CallsD.mono h3 fun e u' w' he => by
        cases e with
        | returned v => exact leaves_mono he hr
        | panicked ch => exact leaves_mono he hr
        | outgrown => exact hr _ _ he⟩
end
end Go.Ev
namespace Go.Ev
open Go.RowKit
section
variable {P : Program} {rec : Rec} {base : Nat} {w₀ w : World} {σ : Sg} {S S' : St} {a : Act} {fr : Fr} {fn : Func}
theorem drawE_le (hl : LeOk rec) {ops : Array Oper} (hok : (planOf ops).ok = true) {r : Rs} (hE : drawE rec P ops (planOf ops).ms S (planOf ops).ord [] fr S = some r) : StLe S r.st := by
  have hord : ordOk (masks ops.toList []) ops 0 (planOf ops).ord = true := by
    have : (edgesOk ops && dstOk (masks ops.toList []) ops && ordOk (masks ops.toList []) ops 0 (planOf ops).ord) = true := hok
    simp only [Bool.and_eq_true] at this
    exact this.2
  rcases drawE_tra hl (planOf ops).ord .nil .nil hord hE with ⟨_, _, _, rfl, h, _⟩ | ⟨_, _, _, _, _, rfl, ⟨o, R, T0, frm, frR, Sm, Sa, SR, l2, _, h0, _, _, hx, _, _, _, _, _, _, _, _, rfl, hSN⟩⟩
  · exact h.le hl
  · exact ((h0.le hl).trans (actE_le hl hx : StLe Sm Sa)).trans (.up _ hSN)
theorem stepT_le (hl : LeOk rec) : LeOk (stepT P rec) := by
  intro task S r h
  cases task with
  | call f args =>
    simp only [stepT] at h
    split at h
    · cases h
    · split at h
      · cases h
      · split at h
        · rename_i h1; exact (hl _ _ _ h1).trans (leaveE_le hl _ h)
        · rename_i h1; exact (hl _ _ _ h1).trans (leaveE_le hl _ h)
        · rename_i h1; exact (hl _ _ _ h1).trans (leaveE_le hl _ h)
        · cases h
  | dcall f args p =>
    simp only [stepT] at h
    split at h
    · cases h
    · split at h
      · cases h
      · split at h
        · rename_i h1
          split at h
          · cases h; have := hl _ _ _ h1; exact this
          · cases h
        · rename_i h1
          split at h
          · cases h; have := hl _ _ _ h1; exact this
          · cases h
        · cases h
  | code c fr =>
    simp only [stepT] at h
    cases c <;> simp only at h <;> try (cases h; done)
    case skip => cases h; exact .refl _
    case ret => cases h; exact .refl _
    case exit n => cases h; exact .refl _
    case region id ops draw =>
      cases draw with
      | false => simp only [regionE] at h; exact seqE_le hl _ h
      | true =>
        simp only [regionE] at h
        split at h
        · rename_i hok; exact drawE_le hl hok h
        · cases h
    case seq y z =>
      split at h
      · rename_i h1; exact (hl _ _ _ h1).trans (hl _ _ _ h)
      · exact hl _ _ _ h
    case cond o y z =>
      split at h
      · exact hl _ _ _ h
      · exact hl _ _ _ h
      · cases h
    case block n y =>
      split at h
      · rename_i h1
        have := hl _ _ _ h1
        split at h <;> cases h <;> exact this
      · exact hl _ _ _ h
    case loop y =>
      split at h
      · rename_i h1; exact (hl _ _ _ h1).trans (hl _ _ _ h)
      · exact hl _ _ _ h
theorem Turn.normal {b : Frame} {cs cs' : List Frame} (h : Turn b cs cs') (hb : b.kind = .normal) : cs' = cs := by
  cases h with
  | refl => rfl
  | head hk => rw [hb] at hk; cases hk
theorem body_ok (hG : Good P) (hR : RecOk P rec) {f : FuncId} {c : Code} {args : List V} {r : Rs} (hf : P.funcs[f]? = some fn) (hb : fn.body = some c) {x : X} {fr' : Fr} {S1 : St}
    (hc : rec (.code c (startFr fn args .norm)) S = some (.code x fr' S1)) {p : Option V} (hx : (x = .normal ∨ x = .ret) ∧ p = none ∨ ∃ v, x = .panic v ∧ p = some v) (hl : leaveE rec P fn fr' fr'.ds p S1 = some r) :
    (∃ v S', r = .ret v S' ∨ r = .pan v S') ∧ ∀ (base : Nat) (w₀ : World) (σ : Sg) (w : World) (vs : List Value), Rel none2 base w₀ σ S w → Free σ S.next r.st.next → VRs σ args vs →
      Calls P f vs.toArray w fun e w' => ∃ σ', RetR σ' r e ∧ Rel none2 base w₀ σ' r.st w' ∧ Stp σ S w σ' r.st w' := by
  obtain ⟨k1, k2⟩ := leave_ok hG hR fr'.ds hl
  have hn := (leaveE_le hR.le fr'.ds hl).next
  refine ⟨k1, fun base w₀ σ w vs q1 q2 q3 => ?_⟩
  obtain ⟨x', fr'', S1', he, hrun⟩ := hR.code.at hc
  cases he
  intro cs
  let b : Frame := { (default : Frame) with fn := f, kind := .normal }
  have henter : Frame.enter P f vs.toArray .normal = b.at { tmps := vs.toArray ++ Array.replicate (fn.ntmps - vs.toArray.size) undef, defers := [] } [.code c] := by
    simp [Frame.enter, Frame.at, hf, hb, b]
  obtain ⟨e, a', cs', w', σ', z0, z1, z2, z3, z4, z5, z6⟩ := hrun base w₀ σ w _ b cs [] q1 (start_AR q3 .norm) rfl rfl (q2.mono (Nat.le_refl _) hn)
  rw [← henter] at z6
  have hcs := z3.normal rfl
  subst hcs
  have fin : ∀ (u : FrameMode) (todo : List Item), MR σ' (pn p) u → Steps P (lone (Frame.enter P f vs.toArray .normal) cs' w) (lone { b.at a' todo with mode := u } cs' w') →
      ∃ e w'' fr0, (∃ σ'', RetR σ'' r e ∧ Rel none2 base w₀ σ'' r.st w'' ∧ Stp σ S w σ'' r.st w'') ∧ Comes P (lone (Frame.enter P f vs.toArray .normal) cs' w) (lone fr0 cs' w'') e ∧ fr0.fn = f ∧ fr0.leaving P w'' e := by
    intro u todo hu hs
    have hL := k2 base w₀ σ' w' a' a'.defers u z4 z1 z1.ds hu (z5.free q2)
    obtain ⟨e', w'', frX, ⟨σ'', r1, r2, r3⟩, hs', hfn, hlv⟩ := leaves_steps a'.defers u w' { b.at a' todo with mode := u } cs' rfl rfl rfl hf rfl hL
    exact ⟨e', w'', frX, ⟨σ'', r1, r2, z5.trans r3 q2⟩, Comes.of_steps hs hs', hfn, hlv⟩
  rcases hx with ⟨rfl | rfl, rfl⟩ | ⟨v, rfl, rfl⟩
  · cases z0
    exact fin .returning [] rfl (Steps.trans z6 (.one step_end))
  · cases z0
    obtain ⟨todo, z6⟩ := z6
    exact fin .returning todo rfl z6
  · cases z0 with
    | panic hv =>
      obtain ⟨todo, z6⟩ := z6
      exact fin _ todo ⟨_, rfl, hv⟩ z6
theorem call_ok (hG : Good P) (hR : RecOk P rec) : CallOk P (stepT P rec) := by
  intro g l S r h
  simp only [stepT] at h
  have key : ∀ (r : Rs), stepT P rec (.call g l) S = some r → (∃ v S', r = .ret v S' ∨ r = .pan v S') ∧ ∀ (base : Nat) (w₀ : World) (σ : Sg) (w : World) (vs : List Value), Rel none2 base w₀ σ S w → Free σ S.next r.st.next → VRs σ l vs →
      Calls P g vs.toArray w fun e w' => ∃ σ', RetR σ' r e ∧ Rel none2 base w₀ σ' r.st w' ∧ Stp σ S w σ' r.st w' := by
    intro r h
    simp only [stepT] at h
    split at h
    · cases h
    · rename_i fn hf
      split at h
      · cases h
      · rename_i c hb
        split at h
        · rename_i h1; exact body_ok hG hR hf hb h1 (.inl ⟨.inl rfl, rfl⟩) h
        · rename_i h1; exact body_ok hG hR hf hb h1 (.inl ⟨.inr rfl, rfl⟩) h
        · rename_i h1; exact body_ok hG hR hf hb h1 (.inr ⟨_, rfl, rfl⟩) h
        · cases h
  obtain ⟨_, k2⟩ := key r h
  refine ⟨fun v S' hr base w₀ σ w vs q1 q2 q3 => ?_, fun v S' hr base w₀ σ w vs q1 q2 q3 => ?_⟩
  · subst hr
    refine Calls.mono (k2 base w₀ σ w vs q1 q2 q3) fun e w' => ?_
    rintro ⟨σ', ⟨y, rfl, y1⟩, y2, y3⟩
    exact ⟨y, σ', rfl, y1, y2, y3⟩
  · subst hr
    refine Calls.mono (k2 base w₀ σ w vs q1 q2 q3) fun e w' => ?_
    rintro ⟨σ', ⟨y, rfl, y1⟩, y2, y3⟩
    exact ⟨y, σ', rfl, y1, y2, y3⟩
theorem Turn.cons {b c : Frame} {cs cs' : List Frame} (h : Turn b (c :: cs) cs') : ∃ u, cs' = { c with mode := u } :: cs := by
  cases h with
  | refl => exact ⟨c.mode, rfl⟩
  | head _ _ u _ => exact ⟨u, rfl⟩
theorem dcall_ok (hR : RecOk P rec) : DcallOk P (stepT P rec) := by
  intro g l p S r h
  simp only [stepT] at h
  split at h
  · cases h
  · rename_i fn hf
    split at h
    · cases h
    · rename_i c hb
      have key : ∀ (x : X) (fr : Fr) (S' : St), (x = .normal ∨ x = .ret) → rec (.code c (startFr fn l p)) S = some (.code x fr S') → (match fr.ds, resultsE P fn fr S' with
          | [], some _ => some (Rs.dret fr.pan S')
          | _, _ => none) = some r → ∃ p' S', r = .dret p' S' ∧ (∃ fn, P.funcs[g]? = some fn ∧ fn.body.isSome = true) ∧
          ∀ (base : Nat) (w₀ : World) (σ : Sg) (w : World) (vs : List Value) (u : FrameMode), Rel none2 base w₀ σ S w → VRs σ l vs → MR σ p u → Free σ S.next S'.next →
            CallsD P g vs.toArray u w fun e u' w' => (∃ y, e = .returned y) ∧ ∃ σ', MR σ' p' u' ∧ Rel none2 base w₀ σ' S' w' ∧ Stp σ S w σ' S' w' := by
        intro x fr S' hx hc h
        split at h
        · rename_i v hds hres
          cases h
          refine ⟨_, _, rfl, ⟨fn, hf, by rw [hb]; rfl⟩, fun base w₀ σ w vs u q1 q2 q3 q4 => ?_⟩
          obtain ⟨x', fr'', S1', he, hrun⟩ := hR.code.at hc
          cases he
          intro c₀ cs hu
          let b : Frame := { (default : Frame) with fn := g, kind := .deferred }
          have henter : Frame.enter P g vs.toArray .deferred = b.at { tmps := vs.toArray ++ Array.replicate (fn.ntmps - vs.toArray.size) undef, defers := [] } [.code c] := by
            simp [Frame.enter, Frame.at, hf, hb, b]
          subst hu
          obtain ⟨e, a', cs', w', σ', z0, z1, z2, z3, z4, z5, z6⟩ := hrun base w₀ σ w _ b (c₀ :: cs) [] q1 (start_AR q2 p) (q3.toPan rfl) rfl q4
          rw [← henter] at z6
          obtain ⟨u', rfl⟩ := z3.cons
          have hm := MR.ofPan z2 rfl
          obtain ⟨y, y1, y2⟩ := results_sound z4 z1 hres
          have hds' : a'.defers = [] := by
            have := z1.ds
            rw [hds] at this
            cases hq : a'.defers with
            | nil => rfl
            | cons d ds => rw [hq] at this; cases this
          rcases hx with rfl | rfl
          · cases z0
            exact ⟨.returned y, u', w', _, ⟨⟨y, rfl⟩, σ', hm, z4, z5⟩, Steps.trans z6 (.one step_end), rfl, rfl, hds', fn, hf, y1⟩
          · cases z0
            obtain ⟨todo, z6⟩ := z6
            exact ⟨.returned y, u', w', _, ⟨⟨y, rfl⟩, σ', hm, z4, z5⟩, z6, rfl, rfl, hds', fn, hf, y1⟩
        · cases h
      split at h
      · rename_i h1; exact key _ _ _ (.inl rfl) h1 h
      · rename_i h1; exact key _ _ _ (.inr rfl) h1 h
      · cases h
theorem run_ok (hG : Good P) : ∀ n, RecOk P (run P n)
  | 0 => ⟨fun _ _ _ h => (by cases h), fun _ _ _ _ h => (by cases h), fun _ _ _ _ h => (by cases h), fun _ _ _ _ _ h => (by cases h)⟩
  | n + 1 => ⟨stepT_le (run_ok hG n).le, call_ok hG (run_ok hG n), code_ok hG (run_ok hG n), dcall_ok (run_ok hG n)⟩
def Sg.none : Sg := ⟨fun _ => Option.none, fun _ _ => Option.none, fun _ => Option.none⟩
theorem rel_start (w : World) : Rel none2 w.heap.size w Sg.none S0 w :=
  ⟨Below.refl _ _, Nat.le_refl _, fun _ _ _ h => (by cases h), fun _ _ _ h => (by cases h), fun _ _ h => (by cases h),
    fun id o h => (by simp only [S0, Tr.find_leaf] at h; cases h), fun i j o o' x y h => (by simp only [S0, Tr.find_leaf] at h; cases h)⟩
theorem closed (hG : Good P) {n : Nat} {f : FuncId} {v : Bool} {S' : St} (h : run P n (.call f []) S0 = some (.ret (.bool v) S')) (w : World) :
    Calls P f #[] w fun e w' => e = .returned (.bool v) ∧ Below w.heap.size w w' := by
  have := ((run_ok hG n).call f [] S0 _ h).1 _ _ rfl w.heap.size w Sg.none w [] (rel_start w) (fun _ _ _ => rfl) .nil
  refine Calls.mono this fun e w' => ?_
  rintro ⟨y, σ', rfl, hv, hr, _⟩
  cases hv
  exact ⟨rfl, hr.below⟩
def boolOf : Option Rs → Option Bool
  | some (.ret (.bool b) _) => some b
  | _ => none
theorem closed' (hG : Good P) {f : FuncId} {v : Bool} (n : Nat) (h : boolOf (run P n (.call f []) S0) = some v) (w : World) :
    Calls P f #[] w fun e w' => e = .returned (.bool v) ∧ Below w.heap.size w w' := by
  unfold boolOf at h
  split at h
  · rename_i b S' he
    cases h
    exact closed hG he w
  · cases h
end
theorem good_of {P : Program} (i : Nat) (fn0 : Func) (h1 : (P.funcs.all fun fn => fn.body.isNone || !decide (fn.name = "runtime.NumGoroutine")) = true)
    (h2 : ((List.range P.funcs.size).all fun j => match P.funcs[j]? with
      | some fn => fn.body.isSome || !decide (fn.name = "internal/abi.NoEscape") || Nat.beq j i
      | none => true) = true)
    (hat : P.funcs[i]? = some fn0) (e1 : Extern.findNext fn0 = none) (e2 : Extern.find fn0 = some Extern.AbiNoEscape.same) (mix : P.follows .mixedOrders = true) : Good P where
  nm f fn hf hb := by
    rw [Array.all_eq_true_iff_forall_mem] at h1
    have := h1 fn (Array.mem_of_getElem? hf)
    intro he
    rw [he] at this
    cases hq : fn.body with
    | none => rw [hq] at hb; cases hb
    | some b => rw [hq] at this; simp at this
  esc f fn hf hb hn := by
    rw [List.all_eq_true] at h2
    have h3 := h2 f (List.mem_range.2 (Array.getElem?_eq_some_iff.1 hf).1)
    rw [hf] at h3
    simp only [hb, hn, decide_true, Bool.not_true, Option.isSome_none, Bool.false_or] at h3
    have := Nat.eq_of_beq_eq_true h3
    subst this
    rw [hat] at hf
    cases hf
    exact ⟨e1, e2⟩
  mix := mix
end Go.Ev
