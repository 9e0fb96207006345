/-
  Ev, part 17: code, calls, deferred calls; the whole.
-/
import Derived.Test.YtilldjgagokcfaaGreatEvDraw
import Derived.Recover
set_option linter.unusedVariables false
set_option linter.unusedSimpArgs false
namespace Go.Ev
open Go.RowKit

/-- A deferred call's caller. -/
def MR (σ : Sg) (p : Pan) (u : FrameMode) : Prop :=
  match p with
  | .norm => False
  | .quiet => u = .returning
  | .live v => ∃ y, u = .panicking [{ v := y, recovered := false }] ∧ VR σ v y
  | .done v => ∃ y, u = .panicking [{ v := y, recovered := true }] ∧ VR σ v y

theorem MR.toPan {σ : Sg} {p : Pan} {b c : Frame} {cs : List Frame} (h : MR σ p c.mode) (hb : b.kind = .deferred) : PanR σ p b (c :: cs) := by
  cases p with
  | norm => exact h.elim
  | quiet => exact ⟨hb, c, cs, rfl, h⟩
  | live v => obtain ⟨y, h1, h2⟩ := h; exact ⟨hb, c, cs, y, rfl, h1, h2⟩
  | done v => obtain ⟨y, h1, h2⟩ := h; exact ⟨hb, c, cs, y, rfl, h1, h2⟩

theorem MR.ofPan {σ : Sg} {p : Pan} {b c : Frame} {cs : List Frame} (h : PanR σ p b (c :: cs)) (hb : b.kind = .deferred) : MR σ p c.mode := by
  cases p with
  | norm => have h : b.kind = .normal := h; rw [hb] at h; cases h
  | quiet => obtain ⟨_, _, _, h1, h2⟩ := h; cases h1; exact h2
  | live v => obtain ⟨_, _, _, y, h1, h2, h3⟩ := h; cases h1; exact ⟨y, h2, h3⟩
  | done v => obtain ⟨_, _, _, y, h1, h2, h3⟩ := h; cases h1; exact ⟨y, h2, h3⟩

theorem MR.mono {σ σ' : Sg} (hs : σ.le σ') {p : Pan} {u : FrameMode} (h : MR σ p u) : MR σ' p u := by
  cases p with
  | norm => exact h
  | quiet => exact h
  | live v => obtain ⟨y, h1, h2⟩ := h; exact ⟨y, h1, h2.mono hs⟩
  | done v => obtain ⟨y, h1, h2⟩ := h; exact ⟨y, h1, h2.mono hs⟩

/-- Where the machine stands at a piece of code. -/
def ent (c : Code) (k : List Item) : List Item :=
  match c with
  | .loop b => .code b :: .inLoop b :: k
  | c => .code c :: k

def CodeOk (P : Program) (rec : Rec) : Prop :=
  ∀ (c : Code) (fr : Fr) (S : St) (r : Rs), rec (.code c fr) S = some r → ∃ x fr' S', r = .code x fr' S' ∧
    ∀ (base : Nat) (w₀ : World) (σ : Sg) (w : World) (a : Act) (b : Frame) (cs : List Frame) (k : List Item), Rel none2 base w₀ σ S w → AR σ fr a → PanR σ fr.pan b cs → b.roundOf = none → Free σ S.next S'.next →
      Comes' P base w₀ σ S w (lone (b.at a (ent c k)) cs w) b k cs x fr' S'

def DcallOk (P : Program) (rec : Rec) : Prop :=
  ∀ (g : FuncId) (l : List V) (p : Pan) (S : St) (r : Rs), rec (.dcall g l p) S = some r → ∃ p' S', r = .dret p' S' ∧ (∃ fn, P.funcs[g]? = some fn ∧ fn.body.isSome = true) ∧
    ∀ (base : Nat) (w₀ : World) (σ : Sg) (w : World) (vs : List Value) (u : FrameMode), Rel none2 base w₀ σ S w → VRs σ l vs → MR σ p u → Free σ S.next S'.next →
      CallsD P g vs.toArray u w fun e u' w' => (∃ y, e = .returned y) ∧ ∃ σ', MR σ' p' u' ∧ Rel none2 base w₀ σ' S' w' ∧ Stp σ S w σ' S' w'

structure RecOk (P : Program) (rec : Rec) : Prop where
  le : LeOk rec
  call : CallOk P rec
  code : CodeOk P rec
  dcall : DcallOk P rec

section
variable {P : Program} {rec : Rec} {base : Nat} {w₀ w : World} {σ : Sg} {S S' : St} {a : Act} {b : Frame} {cs : List Frame} {k : List Item} {fr fr' : Fr} {x : X} {m m₁ : Machine} {c : Code}

theorem ent_steps : Steps P (lone (b.at a (.code c :: k)) cs w) (lone (b.at a (ent c k)) cs w) := by
  cases c
  case loop => exact .one step_loop
  all_goals exact .refl _ _

theorem Comes'.of_steps (hs : Steps P m m₁) (h : Comes' P base w₀ σ S w m₁ b k cs x fr' S') : Comes' P base w₀ σ S w m b k cs x fr' S' :=
  let ⟨e, a', cs', w', σ', z0, z1, z2, z3, z4, z5, z6⟩ := h
  ⟨e, a', cs', w', σ', z0, z1, z2, z3, z4, z5, .of_steps hs z6⟩

/-- .. from the code itself. -/
theorem CodeOk.at (h : CodeOk P rec) {r : Rs} (hr : rec (.code c fr) S = some r) : ∃ x fr' S', r = .code x fr' S' ∧
    ∀ (base : Nat) (w₀ : World) (σ : Sg) (w : World) (a : Act) (b : Frame) (cs : List Frame) (k : List Item), Rel none2 base w₀ σ S w → AR σ fr a → PanR σ fr.pan b cs → b.roundOf = none → Free σ S.next S'.next →
      Comes' P base w₀ σ S w (lone (b.at a (.code c :: k)) cs w) b k cs x fr' S' := by
  obtain ⟨x, fr', S', rfl, h1⟩ := h c fr S r hr
  exact ⟨x, fr', S', rfl, fun base w₀ σ w a b cs k q1 q2 q3 q4 q5 => (h1 base w₀ σ w a b cs k q1 q2 q3 q4 q5).of_steps ent_steps⟩

theorem region_ok (hG : Good P) (hR : RecOk P rec) {id : Nat} {ops : Array Oper} {draw : Bool} {r : Rs} (hr : regionE rec P ops draw fr S = some r) : ∃ x fr' S', r = .code x fr' S' ∧
    ∀ (base : Nat) (w₀ : World) (σ : Sg) (w : World) (a : Act) (b : Frame) (cs : List Frame) (k : List Item), Rel none2 base w₀ σ S w → AR σ fr a → PanR σ fr.pan b cs → b.roundOf = none → Free σ S.next S'.next →
      Comes' P base w₀ σ S w (lone (b.at a (.code (.region id ops draw) :: k)) cs w) b k cs x fr' S' := by
  cases draw with
  | false =>
    simp only [regionE] at hr
    have hc : ∀ (l : List Nat) {fr : Fr} {S : St} {r : Rs}, seqE rec P ops l fr S = some r → ∃ x fr' S', r = .code x fr' S' := by
      intro l
      induction l with
      | nil => intro fr S r h; simp only [seqE, Option.some.injEq] at h; exact ⟨_, _, _, h.symm⟩
      | cons i l ih =>
        intro fr S r h
        simp only [seqE] at h
        split at h
        · cases h
        · split at h
          · exact ih h
          · exact oneE_code h
    obtain ⟨x, fr', S', rfl⟩ := hc _ hr
    exact ⟨x, fr', S', rfl, fun base w₀ σ w a b cs k q1 q2 q3 q4 q5 => (seqE_sound hG hR.le hR.call q4 _ q1 q2 q3 hr q5).of_steps (.one step_region)⟩
  | true =>
    simp only [regionE] at hr
    split at hr
    · rename_i hok
      have hcode : ∃ x fr' S', r = .code x fr' S' := by
        have hord : ordOk (masks ops.toList []) ops 0 (planOf ops).ord = true := by
          have : (edgesOk ops && dstOk (masks ops.toList []) ops && ordOk (masks ops.toList []) ops 0 (planOf ops).ord) = true := hok
          simp only [Bool.and_eq_true] at this
          exact this.2
        rcases drawE_tra hR.le (planOf ops).ord .nil .nil hord hr with ⟨_, _, _, h, _⟩ | ⟨_, _, _, _, _, h, _⟩
        · exact ⟨_, _, _, h⟩
        · exact ⟨_, _, _, h⟩
      obtain ⟨x, fr', S', rfl⟩ := hcode
      refine ⟨x, fr', S', rfl, fun base w₀ σ w a b cs k q1 q2 q3 q4 q5 => ?_⟩
      have hd : Rel none2 base w₀ σ S { w with drawn := w.drawn + 1 } := q1.drew rfl rfl rfl rfl
      obtain ⟨x', fr'', S'', he, hrun⟩ := drawE_sound (b := b) (k := k) (cs := cs) hG hR.le hR.call hd q2 q3 q4 hok hr
      cases he
      have hst := step_region_draw (P := P) (b := b) (a := a) (k := k) (cs := cs) (w := w) (ops := ops) (id := id)
      rw [hG.mix] at hst
      obtain ⟨e, a', cs', w', σ', z0, z1, z2, z3, z4, z5, z6⟩ := hrun q5 (w.tape w.drawn (.order b.fn id))
      refine ⟨e, a', cs', w', σ', z0, z1, z2, z3, z4, ?_, .of_steps (.one hst) z6⟩
      exact (Stp.drew σ S w { w with drawn := w.drawn + 1 } rfl).trans z5 q5
    · cases hr

theorem pass_X {y : Item} {e : Exit} {a' : Act} {w' : World} (hy : y.plain = true) (hx : XR σ x e) (hn : x ≠ .normal) (h : Arrives P m b (y :: k) cs e a' w') : Arrives P m b k cs e a' w' := by
  refine .pass hy (fun _ _ => .inl ?_) h
  cases hx
  · exact absurd rfl hn
  all_goals simp

theorem code_ok (hG : Good P) (hR : RecOk P rec) : CodeOk P (stepT P rec) := by
  intro c fr S r hr
  simp only [stepT] at hr
  cases c <;> simp only at hr <;> try (cases hr; done)
  case skip =>
    cases hr
    exact ⟨_, _, _, rfl, fun base w₀ σ w a b cs k q1 q2 q3 q4 q5 => ⟨.normal, a, cs, w, σ, .normal, q2, q3, .refl _, q1, Stp.refl _ _ _, Steps.one step_skip⟩⟩
  case ret =>
    cases hr
    exact ⟨_, _, _, rfl, fun base w₀ σ w a b cs k q1 q2 q3 q4 q5 => ⟨.ret, a, cs, w, σ, .ret, q2, q3, .refl _, q1, Stp.refl _ _ _, _, .one step_ret⟩⟩
  case exit n =>
    cases hr
    exact ⟨_, _, _, rfl, fun base w₀ σ w a b cs k q1 q2 q3 q4 q5 => ⟨.exit n, a, cs, w, σ, .exit n, q2, q3, .refl _, q1, Stp.refl _ _ _, fun k' hk => .one (step_exit hk)⟩⟩
  case region id ops draw => exact region_ok hG hR hr
  case seq y z =>
    split at hr
    · rename_i fr1 S1 h1
      obtain ⟨x', fr1', S1', he, hy⟩ := hR.code.at h1
      cases he
      obtain ⟨x, fr', S', rfl, hz⟩ := hR.code.at hr
      have hn : S1.next ≤ S'.next := (hR.le _ _ _ hr).next
      refine ⟨x, fr', S', rfl, fun base w₀ σ w a b cs k q1 q2 q3 q4 q5 => ?_⟩
      obtain ⟨e, a', cs', w', σ', z0, z1, z2, z3, z4, z5, z6⟩ := hy base w₀ σ w a b cs (.code z :: k) q1 q2 q3 q4 (q5.mono (Nat.le_refl _) hn)
      cases z0
      obtain ⟨e', a'', cs'', w'', σ'', y0, y1, y2, y3, y4, y5, y6⟩ := hz base w₀ σ' w' a' b cs' k z4 z1 z2 q4 (z5.free q5)
      exact ⟨e', a'', cs'', w'', σ'', y0, y1, y2, z3.trans y3, y4, z5.trans y5 q5, .of_steps (Steps.trans (.one step_seq) z6) y6⟩
    · rename_i hne
      obtain ⟨x, fr', S', rfl, hy⟩ := hR.code.at hr
      refine ⟨x, fr', S', rfl, fun base w₀ σ w a b cs k q1 q2 q3 q4 q5 => ?_⟩
      obtain ⟨e, a', cs', w', σ', z0, z1, z2, z3, z4, z5, z6⟩ := hy base w₀ σ w a b cs (.code z :: k) q1 q2 q3 q4 q5
      exact ⟨e, a', cs', w', σ', z0, z1, z2, z3, z4, z5, .of_steps (.one step_seq) (pass_X rfl z0 (fun h => hne _ _ (by rw [hr, h])) z6)⟩
  case cond o y z =>
    split at hr
    · rename_i ho
      obtain ⟨x, fr', S', rfl, hy⟩ := hR.code.at hr
      refine ⟨x, fr', S', rfl, fun base w₀ σ w a b cs k q1 q2 q3 q4 q5 => ?_⟩
      have hv := q2.eval _ _ ho
      have hv : a.eval o = .bool true := by cases hq : a.eval o <;> rw [hq] at hv <;> cases hv; rfl
      exact (hy base w₀ σ w a b cs k q1 q2 q3 q4 q5).of_steps (.one (step_cond hv))
    · rename_i ho
      obtain ⟨x, fr', S', rfl, hy⟩ := hR.code.at hr
      refine ⟨x, fr', S', rfl, fun base w₀ σ w a b cs k q1 q2 q3 q4 q5 => ?_⟩
      have hv := q2.eval _ _ ho
      have hv : a.eval o = .bool false := by cases hq : a.eval o <;> rw [hq] at hv <;> cases hv; rfl
      exact (hy base w₀ σ w a b cs k q1 q2 q3 q4 q5).of_steps (.one (step_cond hv))
    · cases hr
  case block n y =>
    have hx : ∃ x fr' S', rec (.code y fr) S = some (.code x fr' S') ∧ (∀ base w₀ σ w a b cs k, Rel none2 base w₀ σ S w → AR σ fr a → PanR σ fr.pan b cs → b.roundOf = none → Free σ S.next S'.next →
        Comes' P base w₀ σ S w (lone (b.at a (.code y :: k)) cs w) b k cs x fr' S') ∧ r = .code (match x with | .exit m => if Nat.beq m n then .normal else .exit m | x => x) fr' S' := by
      split at hr
      · rename_i m fr1 S1 h1
        obtain ⟨x, fr', S', he, hy⟩ := hR.code.at h1
        cases he
        refine ⟨_, _, _, h1, hy, ?_⟩
        split at hr <;> cases hr <;> simp [*]
      · rename_i hne
        obtain ⟨x, fr', S', rfl, hy⟩ := hR.code.at hr
        refine ⟨_, _, _, hr, hy, ?_⟩
        cases x with
        | exit m => exact absurd hr (hne _ _ _)
        | _ => rfl
    obtain ⟨x, fr', S', h1, hy, rfl⟩ := hx
    refine ⟨_, _, _, rfl, fun base w₀ σ w a b cs k q1 q2 q3 q4 q5 => ?_⟩
    obtain ⟨e, a', cs', w', σ', z0, z1, z2, z3, z4, z5, z6⟩ := hy base w₀ σ w a b cs (.inBlock n :: k) q1 q2 q3 q4 q5
    have hs : Steps P (lone (b.at a (ent (.block n y) k)) cs w) (lone (b.at a (.code y :: .inBlock n :: k)) cs w) := .one step_block
    cases z0 with
    | normal => exact ⟨.normal, a', cs', w', σ', .normal, z1, z2, z3, z4, z5, Steps.trans hs (Steps.trans z6 (.one step_inBlock))⟩
    | exit m =>
      by_cases hm : m = n
      · subst hm
        refine ⟨.normal, a', cs', w', σ', ?_, z1, z2, z3, z4, z5, Steps.trans hs (z6 k (by simp [exitTo]))⟩
        simp only [Nat.beq_refl, if_true]; exact .normal
      · have hne : Nat.beq m n = false := by
          cases hq : Nat.beq m n
          · rfl
          · exact absurd (Nat.eq_of_beq_eq_true hq) hm
        refine ⟨.exit m, a', cs', w', σ', ?_, z1, z2, z3, z4, z5, fun k' hk => Steps.trans hs (z6 k' ?_)⟩
        · simp only [hne]; exact .exit m
        · have : (n == m) = false := by simp; exact fun h => hm h.symm
          simp [exitTo, this, hk]
    | ret => exact ⟨_, a', cs', w', σ', .ret, z1, z2, z3, z4, z5, .of_steps hs z6⟩
    | panic hv => exact ⟨_, a', cs', w', σ', .panic hv, z1, z2, z3, z4, z5, .of_steps hs z6⟩
  case loop y =>
    split at hr
    · rename_i fr1 S1 h1
      obtain ⟨x', fr1', S1', he, hy⟩ := hR.code.at h1
      cases he
      obtain ⟨x, fr', S', rfl, hz⟩ := hR.code _ _ _ _ hr
      have hn : S1.next ≤ S'.next := (hR.le _ _ _ hr).next
      refine ⟨x, fr', S', rfl, fun base w₀ σ w a b cs k q1 q2 q3 q4 q5 => ?_⟩
      obtain ⟨e, a', cs', w', σ', z0, z1, z2, z3, z4, z5, z6⟩ := hy base w₀ σ w a b cs (.inLoop y :: k) q1 q2 q3 q4 (q5.mono (Nat.le_refl _) hn)
      cases z0
      obtain ⟨e', a'', cs'', w'', σ'', y0, y1, y2, y3, y4, y5, y6⟩ := hz base w₀ σ' w' a' b cs' k z4 z1 z2 q4 (z5.free q5)
      exact ⟨e', a'', cs'', w'', σ'', y0, y1, y2, z3.trans y3, y4, z5.trans y5 q5, .of_steps (Steps.trans z6 (.one step_inLoop)) y6⟩
    · rename_i hne
      obtain ⟨x, fr', S', rfl, hy⟩ := hR.code.at hr
      refine ⟨x, fr', S', rfl, fun base w₀ σ w a b cs k q1 q2 q3 q4 q5 => ?_⟩
      obtain ⟨e, a', cs', w', σ', z0, z1, z2, z3, z4, z5, z6⟩ := hy base w₀ σ w a b cs (.inLoop y :: k) q1 q2 q3 q4 q5
      exact ⟨e, a', cs', w', σ', z0, z1, z2, z3, z4, z5, pass_X rfl z0 (fun h => hne _ _ (by rw [hr, h])) z6⟩

end
end Go.Ev
