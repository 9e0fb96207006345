import Derived.Test.YtodiioeddlmjhaaGreatDoorE5
import Derived.Recover
import Derived.RangeFuncIn
import Derived.Laws.Sem
set_option linter.unusedVariables false
set_option linter.unusedSimpArgs false
namespace Go.Ev
open Go.RowKit
def MR (σ : Sg) (p : Pan) (u : FrameMode) : Prop :=
 match p with
 | .norm => False
 | .quiet => u = .returning
 | .live v => ∃ y, u = .panicking [{ v := y, recovered := false }] ∧ VR σ v y
 | .done v => ∃ y, u = .panicking [{ v := y, recovered := true }] ∧ VR σ v y
 | .rnd => False
theorem MR.toPan {σ : Sg} {p : Pan} {b c : Frame} {cs : List Frame} (h : MR σ p c.mode) (hb : b.kind = .deferred) (hr : b.roundOf = none) : PanR σ p b (c :: cs) := by
 cases p with
 | norm => exact h.elim
 | rnd => exact h.elim
 | quiet => exact ⟨⟨hb, hr⟩, c, cs, rfl, h⟩
 | live v => obtain ⟨y, h1, h2⟩ := h; exact ⟨⟨hb, hr⟩, c, cs, y, rfl, h1, h2⟩
 | done v => obtain ⟨y, h1, h2⟩ := h; exact ⟨⟨hb, hr⟩, c, cs, y, rfl, h1, h2⟩
theorem MR.ofPan {σ : Sg} {p : Pan} {b c : Frame} {cs : List Frame} (h : PanR σ p b (c :: cs)) (hb : b.kind = .deferred) : MR σ p c.mode := by
 cases p with
 | norm => have h : b.kind = .normal := h.1; rw [hb] at h; cases h
 | rnd => have h : b.kind = .normal := h.1; rw [hb] at h; cases h
 | quiet => obtain ⟨_, _, _, h1, h2⟩ := h; cases h1; exact h2
 | live v => obtain ⟨_, _, _, y, h1, h2, h3⟩ := h; cases h1; exact ⟨y, h2, h3⟩
 | done v => obtain ⟨_, _, _, y, h1, h2, h3⟩ := h; cases h1; exact ⟨y, h2, h3⟩
def DcallOk [Glob] (P : Program) (rec : Rec) : Prop :=
 ∀ (g : FuncId) (l : List V) (p : Pan) (S : St) (r : Rs), rec (.dcall g l p) S = some r → ∃ p' S', r = .dret p' S' ∧ (∃ fn, P.funcs[g]? = some fn ∧ fn.body.isSome = true) ∧
  ∀ (base : Nat) (w₀ : World) (σ : Sg) (w : World) (vs : List Value) (u : FrameMode), Rel none2 base w₀ σ S w → VRs σ l vs → MR σ p u → Free σ S.next S'.next →
   CallsD P g vs.toArray u w fun e u' w' => (∃ y, e = .returned y) ∧ ∃ σ', MR σ' p' u' ∧ Rel none2 base w₀ σ' S' w' ∧ Stp σ S w σ' S' w'
structure RecOk [Glob] (P : Program) (rec : Rec) : Prop where
 le : LeOk rec
 call : CallOk0 P rec
 code : CodeOk P rec
 dcall : DcallOk P rec
theorem RecOk.toC [Glob] {P : Program} {rec : Rec} (h : RecOk P rec) : CallOk P rec := ⟨h.le, h.call, h.code⟩
section
variable {P : Program} {rec : Rec} {base : Nat} {w₀ w : World} {σ : Sg} {S S' : St} {a : Act} {b : Frame} {cs : List Frame} {k : List Item} {fr fr' : Fr} {x : X} {m m₁ : Machine} {c : Code}
theorem region_ok [Glob] (hG : Good P) (hR : RecOk P rec) {id : Nat} {ops : Array Oper} {draw : Bool} {r : Rs} (hr : regionE rec P ops draw fr S = some r) : ∃ x fr' S', r = .code x fr' S' ∧
 ∀ (base : Nat) (w₀ : World) (σ : Sg) (w : World) (a : Act) (b : Frame) (cs : List Frame) (k : List Item), Rel none2 base w₀ σ S w → AR σ fr a → PanR σ fr.pan b cs → True → Free σ S.next S'.next →
  Comes' P base w₀ σ S w (lone (b.atR a (.code (.region id ops draw) :: k)) cs w) b k cs x fr' S' := by
 cases draw with
 | false =>
  simp only [regionE] at hr
  have hc : ∀ (l : List Nat) {fr : Fr} {S : St} {r : Rs}, seqE rec P ops l fr S = some r → ∃ x fr' S', r = .code x fr' S' := by
   intro l
   induction l with
   | nil => intro fr S r h; simp only [seqE, Option.some.injEq] at h; exact ⟨_, _, _, h.symm⟩
   | cons i l ih =>
    intro fr S r h
    simp only [seqE] at h
    split at h
    ·cases h
    ·split at h
     ·exact ih h
     ·exact oneE_code h
  obtain ⟨x, fr', S', rfl⟩ := hc _ hr
  exact ⟨x, fr', S', rfl, fun base w₀ σ w a b cs k q1 q2 q3 q4 q5 => (seqE_sound hG hR.le hR.toC q4 _ q1 q2 q3 hr q5).of_steps (.one stepR_region)⟩
 | true =>
  simp only [regionE] at hr
  split at hr
  ·rename_i hok
   have hcode : ∃ x fr' S', r = .code x fr' S' := by
    have hord : ordOk (masks ops.toList []) ops 0 (planOf ops).ord = true := by
     have : (edgesOk ops && dstOk (masks ops.toList []) ops && ordOk (masks ops.toList []) ops 0 (planOf ops).ord) = true := hok
     simp only [Bool.and_eq_true] at this
     exact this.2
    rcases drawE_tra hR.le (planOf ops).ord .nil .nil hord hr with ⟨_, _, _, h, _⟩ | ⟨_, _, _, _, _, h, _⟩
    ·exact ⟨_, _, _, h⟩
    ·exact ⟨_, _, _, h⟩
   obtain ⟨x, fr', S', rfl⟩ := hcode
   refine ⟨x, fr', S', rfl, fun base w₀ σ w a b cs k q1 q2 q3 q4 q5 => ?_⟩
   have hd : Rel none2 base w₀ σ S { w with drawn := w.drawn + 1 } := q1.drew rfl rfl rfl rfl
   obtain ⟨x', fr'', S'', he, hrun⟩ := drawE_sound (b := b) (k := k) (cs := cs) hG hR.le hR.toC hd q2 q3 q4 hok hr
   cases he
   have hst := stepR_region_draw (P := P) (b := b) (a := a) (k := k) (cs := cs) (w := w) (ops := ops) (id := id)
   rw [hG.mix] at hst
   obtain ⟨e, a', cs', w', σ', z0, z1, z2, z3, z4, z5, z6⟩ := hrun q5 (w.tape w.drawn (.order b.fn id))
   refine ⟨e, a', cs', w', σ', z0, z1, z2, z3, z4, ?_, .of_steps (.one hst) z6⟩
   exact (Stp.drew σ S w { w with drawn := w.drawn + 1 } rfl).trans z5 q5
  ·cases hr
theorem pass_X {y : Item} {e : Exit} {a' : Act} {w' : World} (hy : y.plain = true) (hx : XR σ x e) (hn : x ≠ .normal) (h : Arr P m b (y :: k) cs e a' w') : Arr P m b k cs e a' w' := by
 cases hx with
 | normal => exact absurd rfl hn
 | exit n =>
  obtain ⟨k1, h1, h2⟩ := h
  refine ⟨k1, h1.trans ?_, h2⟩
  cases y <;> first | rfl | cases hy
 | ret => exact h
 | panic hv => exact h
 | goto l =>
  obtain ⟨k1, h1, h2⟩ := h
  refine ⟨k1, h1.trans ?_, h2⟩
  cases y <;> first | rfl | cases hy
theorem rangeFunc_ok [Glob] (hG : Good P) (hR : RecOk P rec) {f : Operand} {ps : Array Tmp} {asg body : Code} {r : Rs} (hr : rangeFuncE rec P f ps asg body fr S = some r) : ∃ x fr' S', r = .code x fr' S' ∧
 ∀ (base : Nat) (w₀ : World) (σ : Sg) (w : World) (a : Act) (b : Frame) (cs : List Frame) (k : List Item), Rel none2 base w₀ σ S w → AR σ fr a → PanR σ fr.pan b cs → True → Free σ S.next S'.next →
  Comes' P base w₀ σ S w (lone (b.atR a (.code (.rangeFunc f ps asg body) :: k)) cs w) b k cs x fr' S' := by
 unfold rangeFuncE at hr
 split at hr
 ·cases hr
 ·rename_i g first caps hopd hpan
  have hnr : isRnd fr.pan = false := by cases hq : fr.pan <;> first | rfl | exact (hpan hq).elim
  split at hr
  ·cases hr
  ·rename_i fn hfn
   split at hr
   ·cases hr
   ·rename_i c' hb
    have enter : ∀ (N : Nat), S.next + 2 ≤ N → ∀ (base : Nat) (w₀ : World) (σ : Sg) (w : World) (a : Act) (b : Frame) (cs : List Frame) (k : List Item), Rel none2 base w₀ σ S w → AR σ fr a → PanR σ fr.pan b cs → Free σ S.next N →
     ∃ σ' w', ∃ vs : List Value, ∃ a' : Act, VRs σ' (first ++ [.yld (S.next + 1)] ++ caps) vs ∧ Rel none2 base w₀ σ' (St.new (S.new (.oth .dfr)) (.oth (.loop .ready none fr.t fr.n ps asg body))) w' ∧
      Stp σ S w σ' (St.new (S.new (.oth .dfr)) (.oth (.loop .ready none fr.t fr.n ps asg body))) w' ∧ AR σ' { fr with ds := (0, [.dmk S.next]) :: fr.ds } a' ∧ σ'.ρ (S.next + 1) = some (w.heap.size + 1, 0, 0) ∧
      step P (lone (b.atR a (.code (.rangeFunc f ps asg body) :: k)) cs w) = .next (lone (Frame.enter P g vs.toArray .normal) (b.atR a' (.inRangeFunc (w.heap.size + 1) :: k) :: cs) w') := by
     intro N hN base w₀ σ w a b cs k q1 q2 q3 q5
     have hv := q2.eval q1.gl _ _ hopd
     cases hq : a.eval f <;> rw [hq] at hv <;> cases hv
     rename_i vs ws hvs hws
     obtain ⟨r1, r2⟩ := q1.newOth (q5 S.next (Nat.le_refl _) (by omega)) (x := .dfr) (ob := .deferred (some [])) rfl
     have hn1 : (σ.addK S.next (w.heap.size, 0, 0)).ρ (S.new (.oth .dfr)).next = none := by
      have : (S.new (.oth .dfr)).next = S.next + 1 := rfl
      rw [this]
      simp only [Sg.addK]
      rw [if_neg (by omega)]
      exact q5 _ (by omega) (by omega)
     have hA1 := q2.mono r2.le
     obtain ⟨u1, u2⟩ := r1.newOth hn1 (x := .loop .ready none fr.t fr.n ps asg body)
      (ob := .loop { state := .ready, pending := none, fn := b.fn, tmps := a.tmps, params := ps, assign := asg, body := body, defers := w.heap.size }) ⟨rfl, rfl, ⟨hA1.n, hA1.t⟩, rfl, rfl, rfl⟩
     have hst := r2.trans u2 (q5.mono (Nat.le_refl _) (by simpa [St.new] using hN))
     have hk1 : ((σ.addK S.next (w.heap.size, 0, 0)).addK (S.new (.oth .dfr)).next ((w.alloc (.deferred (some []))).heap.size, 0, 0)).ρ (S.next + 1) = some (w.heap.size + 1, 0, 0) := by
      simp [Sg.addK, St.new]
     have hk0 : ((σ.addK S.next (w.heap.size, 0, 0)).addK (S.new (.oth .dfr)).next ((w.alloc (.deferred (some []))).heap.size, 0, 0)).ρ S.next = some (w.heap.size, 0, 0) := by
      simp [Sg.addK, St.new]
     refine ⟨_, _, vs ++ [.func (.yield (w.heap.size + 1)) #[] #[]] ++ ws, { a with defers := [{ target := .collected w.heap.size, args := #[] }] ++ a.defers }, ?_, u1, hst, ?_, hk1, ?_⟩
     ·exact ((hvs.mono hst.le).append (.cons (.yld hk1) .nil)).append (hws.mono hst.le)
     ·exact ⟨(q2.mono hst.le).n, (q2.mono hst.le).t, .mark rfl hk0 (q2.mono hst.le).ds⟩
     ·have he := run_enterLoop_outer (P := P) (w := w) b.fn a.tmps ps asg body
      rw [← q3.ro hnr] at he
      have hnm := hG.nm g fn hfn (by rw [hb]; rfl)
      have hres : ∀ W, (resolve a.eval (rangeCall f (w.heap.size + 1)) 0).run P W = .ok { target := .fn (.func g) ws.toArray, args := vs.toArray ++ #[.func (.yield (w.heap.size + 1)) #[] #[]] } W := fun W => by
       simp only [resolve, rangeCall, hq, Deferred.ofValue, Sem.run_bind, Sem.run_pure, Result.andThen_ok]
       simp [Act.eval]
      have hinv : ∀ W, (invoke (.fn (.func g) ws.toArray) (vs.toArray ++ #[.func (.yield (w.heap.size + 1)) #[] #[]])).run P W = .ok (.enter g (vs.toArray ++ #[.func (.yield (w.heap.size + 1)) #[] #[]] ++ ws.toArray)) W := fun W => by
       simp [invoke, callFunc, hfn, hnm, hb]
      have harr : (vs ++ [Value.func (.yield (w.heap.size + 1)) #[] #[]] ++ ws).toArray = vs.toArray ++ #[.func (.yield (w.heap.size + 1)) #[] #[]] ++ ws.toArray := by simp
      rw [harr]
      exact stepR_rangeFunc he (hres _) (hinv _)
    simp only at hr
    split at hr
    ·rename_i v S3 hcall
     split at hr
     ·cases hr
     ·rename_i r0 hloop
      split at hr
      ·cases hr
      ·rename_i hbusy
       split at hr
       ·cases hr
       ·rename_i x hland
        cases hr
        refine ⟨_, _, _, rfl, fun base w₀ σ w a b cs k q1 q2 q3 _ q5 => ?_⟩
        have hn3 : S.next + 2 ≤ S3.next := (hR.le _ _ _ hcall).next
        obtain ⟨σ1, w1, vs, a', p1, p2, p3, p4, p5, p6⟩ := enter S3.next hn3 base w₀ σ w a b cs k q1 q2 q3 q5
        have hq5 : Free σ S.next S3.next := q5
        obtain ⟨e, w3, frx, ⟨y, σ3, rfl, m1, m2, m3⟩, hsteps, _, hleave⟩ := (hR.call g _ _ _ hcall).1 v S3 rfl base w₀ σ1 w1 vs p2 (p3.free hq5) p1 (b.atR a' (.inRangeFunc (w.heap.size + 1) :: k) :: cs)
        have hρ := m3.le.ρ _ _ p5
        obtain ⟨rr, hr1, s1, s2, s3, s4, s5, s6⟩ := m2.loopAt hloop hρ
        have hbz : rr.state ≠ .busy := by
         intro e; rw [s1] at e; rw [e] at hbusy; exact hbusy rfl
        obtain ⟨v1, v2⟩ := m2.setLoop hloop hρ hr1 .exhausted r0.2.1
        have hend := run_endLoop (P := P) hr1 hbz
        have hex : ({ rr with state := .exhausted } : Loop) = { rr with state := .exhausted, pending := r0.2.1 } := by rw [← s2]
        rw [hex, s2] at hend
        have hret : Steps P (lone (b.atR a (.code (.rangeFunc f ps asg body) :: k)) cs w) (lone (b.atR a' ((r0.2.1.map Item.code).toList ++ k)) cs (w3.putObj (w.heap.size + 1) (.loop { rr with state := .exhausted, pending := r0.2.1 }))) := by
         refine .head p6 (Steps.trans hsteps (.head (step_leave_returned hleave) ?_))
         rw [finish_atR_inRangeFunc]
         exact .one (stepR_endRangeFunc hend)
        have hstp := (p3.trans m3 hq5).trans v2 hq5
        have hAR := (p4.mono m3.le).mono v2.le
        have hPR := q3.mono hstp.le
        cases hpd : r0.2.1 with
        | none =>
         rw [hpd] at hland hret hstp v1
         cases hland
         exact ⟨.normal, a', cs, _, σ3, .normal, hAR, hPR, .refl _, v1, hstp, hret⟩
        | some c =>
         rw [hpd] at hland hret hstp v1
         cases c <;> first | (cases hland; done) | skip
         ·rename_i n
          cases hland
          exact ⟨.exit n, a', cs, _, σ3, .exit n, hAR, hPR, .refl _, v1, hstp, k, rfl, hret⟩
         ·rename_i n
          cases hland
          exact ⟨.goto n, a', cs, _, σ3, .goto n, hAR, hPR, .refl _, v1, hstp, k, rfl, hret⟩
         ·cases hland
          exact ⟨.ret, a', cs, _, σ3, .ret, hAR, hPR, .refl _, v1, hstp, k, hret⟩
    ·rename_i v S3 hcall
     cases hr
     refine ⟨_, _, _, rfl, fun base w₀ σ w a b cs k q1 q2 q3 _ q5 => ?_⟩
     have hn3 : S.next + 2 ≤ S3.next := (hR.le _ _ _ hcall).next
     obtain ⟨σ1, w1, vs, a', p1, p2, p3, p4, p5, p6⟩ := enter S3.next hn3 base w₀ σ w a b cs k q1 q2 q3 q5
     obtain ⟨e, w3, frx, ⟨y, σ3, rfl, m1, m2, m3⟩, hsteps, _, hleave⟩ := (hR.call g _ _ _ hcall).2 v _ rfl base w₀ σ1 w1 vs p2 (p3.free q5) p1 (b.atR a' (.inRangeFunc (w.heap.size + 1) :: k) :: cs)
     have hret := Steps.head p6 (Steps.trans hsteps (.one (step_leave_panicked hleave)))
     rw [Frame.raise_atR] at hret
     have hstp := p3.trans m3 q5
     exact ⟨_, a', cs, w3, σ3, .panic m1, p4.mono m3.le, q3.mono hstp.le, .refl _, m2, hstp, _, hret⟩
    ·cases hr
 ·cases hr
theorem stepR_scope {body : Code} : step P (lone (b.atR a (.code (.scope body) :: k)) cs w) = .next (lone (b.atR a (.code body :: .inScope body :: k)) cs w) :=
 step_lone_go (by simp [stepG, stepG.exec, Frame.atR])
theorem stepR_inScope {body : Code} : step P (lone (b.atR a (.inScope body :: k)) cs w) = .next (lone (b.atR a k) cs w) :=
 step_lone_go (by simp [stepG, stepG.exec, Frame.atR])
theorem scopeE_le (hl : LeOk rec) {body : Code} : ∀ (n : Nat) {c : Code} {fr : Fr} {S : St} {r : Rs}, scopeE rec body n c fr S = some r → StLe S r.st
 | 0, _, _, _, _, h => by cases h
 | n + 1, c, fr, S, r, h => by
  simp only [scopeE] at h
  split at h
  ·rename_i h1
   split at h
   ·exact (hl _ _ _ h1).trans (scopeE_le hl n h)
   ·cases h; exact hl _ _ _ h1
  ·exact hl _ _ _ h
theorem scope_ok [Glob] (hR : RecOk P rec) {body : Code} : ∀ (n : Nat) {c : Code} {fr : Fr} {S : St} {r : Rs}, scopeE rec body n c fr S = some r → ∃ x fr' S', r = .code x fr' S' ∧
 ∀ (base : Nat) (w₀ : World) (σ : Sg) (w : World) (a : Act) (b : Frame) (cs : List Frame) (k : List Item), Rel none2 base w₀ σ S w → AR σ fr a → PanR σ fr.pan b cs → True → Free σ S.next S'.next →
  Comes' P base w₀ σ S w (lone (b.atR a (.code c :: .inScope body :: k)) cs w) b k cs x fr' S'
 | 0, _, _, _, _, h => by cases h
 | n + 1, c, fr, S, r, h => by
  simp only [scopeE] at h
  have last : ∀ (r : Rs), rec (.code c fr) S = some r → (∀ l fr' S', r = .code (.goto l) fr' S' → findLabel body l = none) → ∃ x fr' S', r = .code x fr' S' ∧
   ∀ (base : Nat) (w₀ : World) (σ : Sg) (w : World) (a : Act) (b : Frame) (cs : List Frame) (k : List Item), Rel none2 base w₀ σ S w → AR σ fr a → PanR σ fr.pan b cs → True → Free σ S.next S'.next →
    Comes' P base w₀ σ S w (lone (b.atR a (.code c :: .inScope body :: k)) cs w) b k cs x fr' S' := by
   intro r h hno
   obtain ⟨x, fr', S', rfl, hy⟩ := hR.code.at h
   refine ⟨x, fr', S', rfl, fun base w₀ σ w a b cs k q1 q2 q3 q4 q5 => ?_⟩
   obtain ⟨e, a', cs', w', σ', z0, z1, z2, z3, z4, z5, z6⟩ := hy base w₀ σ w a b cs (.inScope body :: k) q1 q2 q3 q4 q5
   cases z0 with
   | normal => exact ⟨.normal, a', cs', w', σ', .normal, z1, z2, z3, z4, z5, Steps.trans z6 (.one stepR_inScope)⟩
   | exit m => obtain ⟨k1, hk1, z6⟩ := z6; exact ⟨_, a', cs', w', σ', .exit m, z1, z2, z3, z4, z5, k1, hk1, z6⟩
   | ret => exact ⟨_, a', cs', w', σ', .ret, z1, z2, z3, z4, z5, z6⟩
   | panic hv => exact ⟨_, a', cs', w', σ', .panic hv, z1, z2, z3, z4, z5, z6⟩
   | goto l =>
    obtain ⟨k1, hk1, z6⟩ := z6
    refine ⟨_, a', cs', w', σ', .goto l, z1, z2, z3, z4, z5, k1, hk1.trans ?_, z6⟩
    simp only [gotoIn, hno l fr' S' rfl]
  split at h
  ·rename_i l fr1 S1 h1
   split at h
   ·rename_i rest hfl
    obtain ⟨x1, fr1', S1', he, hy⟩ := hR.code.at h1
    cases he
    obtain ⟨x, fr', S', rfl, hz⟩ := scope_ok hR n h
    have hn : S1.next ≤ S'.next := (scopeE_le hR.le n h).next
    refine ⟨x, fr', S', rfl, fun base w₀ σ w a b cs k q1 q2 q3 q4 q5 => ?_⟩
    obtain ⟨e, a', cs', w', σ', z0, z1, z2, z3, z4, z5, z6⟩ := hy base w₀ σ w a b cs (.inScope body :: k) q1 q2 q3 q4 (q5.mono (Nat.le_refl _) hn)
    cases z0
    obtain ⟨k1, hk1, z6⟩ := z6
    obtain ⟨e', a'', cs'', w'', σ'', y0, y1, y2, y3, y4, y5, y6⟩ := hz base w₀ σ' w' a' b cs' k z4 z1 z2 q4 (z5.free q5)
    have hg : gotoIn l k1 = some (.code rest :: .inScope body :: k) := by rw [hk1]; simp only [gotoIn, hfl]
    exact ⟨e', a'', cs'', w'', σ'', y0, y1, y2, z3.trans y3, y4, z5.trans y5 q5, .of_steps (Steps.trans z6 (.one (stepR_goto hg))) y6⟩
   ·rename_i hfl
    cases h
    exact last _ h1 fun l' fr' S' e => by cases e; exact hfl
  ·rename_i hne
   exact last _ h fun l' fr' S' e => (hne l' fr' S' (by rw [h, e])).elim
theorem code_ok [Glob] (hG : Good P) (hR : RecOk P rec) : CodeOk P (stepT P rec) := by
 intro c fr S r hr
 simp only [stepT] at hr
 cases c <;> simp only at hr <;> try (cases hr; done)
 case skip =>
  cases hr
  exact ⟨_, _, _, rfl, fun base w₀ σ w a b cs k q1 q2 q3 q4 q5 => ⟨.normal, a, cs, w, σ, .normal, q2, q3, .refl _, q1, Stp.refl _ _ _, Steps.one stepR_skip⟩⟩
 case ret =>
  cases hr
  exact ⟨_, _, _, rfl, fun base w₀ σ w a b cs k q1 q2 q3 q4 q5 => ⟨.ret, a, cs, w, σ, .ret, q2, q3, .refl _, q1, Stp.refl _ _ _, k, .refl _ _⟩⟩
 case exit n =>
  cases hr
  exact ⟨_, _, _, rfl, fun base w₀ σ w a b cs k q1 q2 q3 q4 q5 => ⟨.exit n, a, cs, w, σ, .exit n, q2, q3, .refl _, q1, Stp.refl _ _ _, k, rfl, .refl _ _⟩⟩
 case label l =>
  cases hr
  exact ⟨_, _, _, rfl, fun base w₀ σ w a b cs k q1 q2 q3 q4 q5 => ⟨.normal, a, cs, w, σ, .normal, q2, q3, .refl _, q1, Stp.refl _ _ _, Steps.one stepR_label⟩⟩
 case goto l =>
  cases hr
  exact ⟨_, _, _, rfl, fun base w₀ σ w a b cs k q1 q2 q3 q4 q5 => ⟨.goto l, a, cs, w, σ, .goto l, q2, q3, .refl _, q1, Stp.refl _ _ _, k, rfl, .refl _ _⟩⟩
 case scope body =>
  obtain ⟨x, fr', S', rfl, h⟩ := scope_ok hR 1048576 hr
  exact ⟨x, fr', S', rfl, fun base w₀ σ w a b cs k q1 q2 q3 q4 q5 => (h base w₀ σ w a b cs k q1 q2 q3 q4 q5).of_steps (.one stepR_scope)⟩
 case region id ops draw => exact region_ok hG hR hr
 case seq y z =>
  split at hr
  ·rename_i fr1 S1 h1
   obtain ⟨x', fr1', S1', he, hy⟩ := hR.code.at h1
   cases he
   obtain ⟨x, fr', S', rfl, hz⟩ := hR.code.at hr
   have hn : S1.next ≤ S'.next := (hR.le _ _ _ hr).next
   refine ⟨x, fr', S', rfl, fun base w₀ σ w a b cs k q1 q2 q3 q4 q5 => ?_⟩
   obtain ⟨e, a', cs', w', σ', z0, z1, z2, z3, z4, z5, z6⟩ := hy base w₀ σ w a b cs (.code z :: k) q1 q2 q3 q4 (q5.mono (Nat.le_refl _) hn)
   cases z0
   obtain ⟨e', a'', cs'', w'', σ'', y0, y1, y2, y3, y4, y5, y6⟩ := hz base w₀ σ' w' a' b cs' k z4 z1 z2 q4 (z5.free q5)
   exact ⟨e', a'', cs'', w'', σ'', y0, y1, y2, z3.trans y3, y4, z5.trans y5 q5, .of_steps (Steps.trans (.one stepR_seq) z6) y6⟩
  ·rename_i hne
   obtain ⟨x, fr', S', rfl, hy⟩ := hR.code.at hr
   refine ⟨x, fr', S', rfl, fun base w₀ σ w a b cs k q1 q2 q3 q4 q5 => ?_⟩
   obtain ⟨e, a', cs', w', σ', z0, z1, z2, z3, z4, z5, z6⟩ := hy base w₀ σ w a b cs (.code z :: k) q1 q2 q3 q4 q5
   exact ⟨e, a', cs', w', σ', z0, z1, z2, z3, z4, z5, .of_steps (.one stepR_seq) (pass_X rfl z0 (fun h => hne _ _ (by rw [hr, h])) z6)⟩
 case cond o y z =>
  split at hr
  ·rename_i ho
   obtain ⟨x, fr', S', rfl, hy⟩ := hR.code.at hr
   refine ⟨x, fr', S', rfl, fun base w₀ σ w a b cs k q1 q2 q3 q4 q5 => ?_⟩
   have hv := q2.eval q1.gl _ _ ho
   have hv : a.eval o = .bool true := by cases hq : a.eval o <;> rw [hq] at hv <;> cases hv; rfl
   exact (hy base w₀ σ w a b cs k q1 q2 q3 q4 q5).of_steps (.one (stepR_cond hv))
  ·rename_i ho
   obtain ⟨x, fr', S', rfl, hy⟩ := hR.code.at hr
   refine ⟨x, fr', S', rfl, fun base w₀ σ w a b cs k q1 q2 q3 q4 q5 => ?_⟩
   have hv := q2.eval q1.gl _ _ ho
   have hv : a.eval o = .bool false := by cases hq : a.eval o <;> rw [hq] at hv <;> cases hv; rfl
   exact (hy base w₀ σ w a b cs k q1 q2 q3 q4 q5).of_steps (.one (stepR_cond hv))
  ·cases hr
 case block n y =>
  have hx : ∃ x fr' S', rec (.code y fr) S = some (.code x fr' S') ∧ (∀ base w₀ σ w a b cs k, Rel none2 base w₀ σ S w → AR σ fr a → PanR σ fr.pan b cs → True → Free σ S.next S'.next →
   Comes' P base w₀ σ S w (lone (b.atR a (.code y :: k)) cs w) b k cs x fr' S') ∧ r = .code (match x with | .exit m => if Nat.beq m n then .normal else .exit m | x => x) fr' S' := by
   split at hr
   ·rename_i m fr1 S1 h1
    obtain ⟨x, fr', S', he, hy⟩ := hR.code.at h1
    cases he
    refine ⟨_, _, _, h1, hy, ?_⟩
    split at hr <;> cases hr <;> simp [*]
   ·rename_i hne
    obtain ⟨x, fr', S', rfl, hy⟩ := hR.code.at hr
    refine ⟨_, _, _, hr, hy, ?_⟩
    cases x with
    | exit m => exact absurd hr (hne _ _ _)
    | _ => rfl
  obtain ⟨x, fr', S', h1, hy, rfl⟩ := hx
  refine ⟨_, _, _, rfl, fun base w₀ σ w a b cs k q1 q2 q3 q4 q5 => ?_⟩
  obtain ⟨e, a', cs', w', σ', z0, z1, z2, z3, z4, z5, z6⟩ := hy base w₀ σ w a b cs (.inBlock n :: k) q1 q2 q3 q4 q5
  have hs : Steps P (lone (b.atR a (ent (.block n y) k)) cs w) (lone (b.atR a (.code y :: .inBlock n :: k)) cs w) := .one stepR_block
  cases z0 with
  | normal => exact ⟨.normal, a', cs', w', σ', .normal, z1, z2, z3, z4, z5, Steps.trans hs (Steps.trans z6 (.one stepR_inBlock))⟩
  | exit m =>
   obtain ⟨k1, hk1, z6⟩ := z6
   by_cases hm : m = n
   ·subst hm
    refine ⟨.normal, a', cs', w', σ', ?_, z1, z2, z3, z4, z5, Steps.trans hs (Steps.trans z6 (.one (stepR_exit (by rw [hk1]; simp [exitTo]))))⟩
    simp only [Nat.beq_refl, if_true]; exact .normal
   ·have hne : Nat.beq m n = false := by
     cases hq : Nat.beq m n
     ·rfl
     ·exact absurd (Nat.eq_of_beq_eq_true hq) hm
    refine ⟨.exit m, a', cs', w', σ', ?_, z1, z2, z3, z4, z5, k1, hk1.trans ?_, Steps.trans hs z6⟩
    ·simp only [hne]; exact .exit m
    ·have : (n == m) = false := by simp; exact fun h => hm h.symm
     simp [exitTo, this]
  | ret => exact ⟨_, a', cs', w', σ', .ret, z1, z2, z3, z4, z5, .of_steps hs z6⟩
  | panic hv => exact ⟨_, a', cs', w', σ', .panic hv, z1, z2, z3, z4, z5, .of_steps hs z6⟩
  | goto l =>
   obtain ⟨k1, hk1, z6⟩ := z6
   exact ⟨_, a', cs', w', σ', .goto l, z1, z2, z3, z4, z5, k1, hk1, Steps.trans hs z6⟩
 case loop y =>
  split at hr
  ·rename_i fr1 S1 h1
   obtain ⟨x', fr1', S1', he, hy⟩ := hR.code.at h1
   cases he
   obtain ⟨x, fr', S', rfl, hz⟩ := hR.code _ _ _ _ hr
   have hn : S1.next ≤ S'.next := (hR.le _ _ _ hr).next
   refine ⟨x, fr', S', rfl, fun base w₀ σ w a b cs k q1 q2 q3 q4 q5 => ?_⟩
   obtain ⟨e, a', cs', w', σ', z0, z1, z2, z3, z4, z5, z6⟩ := hy base w₀ σ w a b cs (.inLoop y :: k) q1 q2 q3 q4 (q5.mono (Nat.le_refl _) hn)
   cases z0
   obtain ⟨e', a'', cs'', w'', σ'', y0, y1, y2, y3, y4, y5, y6⟩ := hz base w₀ σ' w' a' b cs' k z4 z1 z2 q4 (z5.free q5)
   exact ⟨e', a'', cs'', w'', σ'', y0, y1, y2, z3.trans y3, y4, z5.trans y5 q5, .of_steps (Steps.trans z6 (.one stepR_inLoop)) y6⟩
  ·rename_i hne
   obtain ⟨x, fr', S', rfl, hy⟩ := hR.code.at hr
   refine ⟨x, fr', S', rfl, fun base w₀ σ w a b cs k q1 q2 q3 q4 q5 => ?_⟩
   obtain ⟨e, a', cs', w', σ', z0, z1, z2, z3, z4, z5, z6⟩ := hy base w₀ σ w a b cs (.inLoop y :: k) q1 q2 q3 q4 q5
   exact ⟨e, a', cs', w', σ', z0, z1, z2, z3, z4, z5, pass_X rfl z0 (fun h => hne _ _ (by rw [hr, h])) z6⟩
 case rangeFunc f ps asg body => exact rangeFunc_ok hG hR hr
end
end Go.Ev
namespace Go.Ev
open Go.RowKit
section
variable {P : Program} {rec : Rec} {base : Nat} {w₀ w : World} {σ : Sg} {S S' : St} {a : Act} {fr : Fr} {fn : Func}
theorem go_find : ∀ (l : List V) (i : Nat) (t : Tr V) (j : Nat) (v : V), (startFr.go i l t).find j = some v → (i ≤ j ∧ l[j - i]? = some v) ∨ t.find j = some v
 | [], i, t, j, v, h => .inr h
 | x :: l, i, t, j, v, h => by
  simp only [startFr.go] at h
  rcases go_find l (i + 1) _ j v h with ⟨h1, h2⟩ | h1
  ·left
   refine ⟨by omega, ?_⟩
   rw [show j - i = (j - (i + 1)) + 1 by omega]
   simpa using h2
  ·rw [Tr.find_put] at h1
   split at h1
   ·rename_i hj; subst hj; left; exact ⟨Nat.le_refl _, by simpa using h1⟩
   ·exact .inr h1
theorem start_AR {l : List V} {vs : List Value} (h : VRs σ l vs) (p : Pan) : AR σ (startFr fn l p) { tmps := vs.toArray ++ Array.replicate (fn.ntmps - vs.toArray.size) undef, defers := [] } := by
 have hlen := h.length
 refine ⟨?_, fun t v ht => ?_, .nil⟩
 ·simp only [startFr, Array.size_append, Array.size_replicate, List.size_toArray]
  omega
 ·rcases go_find l 0 .leaf t v ht with ⟨_, h1⟩ | h1
  ·obtain ⟨y, h2, h3⟩ := h.get h1
   refine ⟨y, ?_, h3⟩
   have hlt : t < vs.length := by
    rcases Nat.lt_or_ge t vs.length with h' | h'
    ·exact h'
    ·simp [List.getElem?_eq_none h'] at h2
   have h2' : vs.toArray[t]? = some y := by simpa using h2
   rw [Array.getElem?_append_left (by simpa using hlt)]
   exact h2'
  ·rw [Tr.find_leaf] at h1; cases h1
def rvf (tmps : Array Value) : ResultVar → Sem Value
 | .tmp t => pure (tmps.getD t undef)
 | .cell a t => do loadVar t (← asAddr (tmps.getD a undef))
theorem results_eq (fn : Func) (tmps : Array Value) : results fn tmps = (do let vs ← List.toArray <$> fn.results.toList.mapM (rvf tmps); pure (if h : vs.size = 1 then vs[0] else .tuple vs)) := by
 rw [← Array.mapM_eq_mapM_toList]
 rfl
theorem results_sound [Glob] (h : Rel none2 base w₀ σ S w) (hA : AR σ fr a) {v : V} (hr : resultsE P fn fr S = some v) : ∃ y, (results fn a.tmps).run P w = .ok y w ∧ VR σ v y := by
 have key : ∀ (l : List ResultVar) (vs : List V), mapO (fun r => match r with
  | ResultVar.tmp t => fr.t.find t
  | ResultVar.cell a t => match fr.t.find a with
   | some p => loadE P t p S
   | none => none) l = some vs → ∃ ys, (l.mapM (rvf a.tmps)).run P w = .ok ys w ∧ VRs σ vs ys := by
  intro l
  induction l with
  | nil => intro vs h1; simp only [mapO, Option.some.injEq] at h1; subst h1; exact ⟨[], by simp, .nil⟩
  | cons r l ih =>
   intro vs h1
   simp only [mapO] at h1
   split at h1
   ·cases h1
   ·rename_i u hu
    split at h1
    ·cases h1
    ·rename_i us hus
     cases h1
     obtain ⟨ys, y1, y2⟩ := ih us hus
     have hhead : ∃ y, (rvf a.tmps r).run P w = .ok y w ∧ VR σ u y := by
      cases r with
      | tmp t =>
       obtain ⟨y, z1, z2⟩ := hA.t t u hu
       exact ⟨y, by simp [rvf, Array.getD_eq_getD_getElem?, z1], z2⟩
      | cell c t =>
       simp only at hu
       split at hu
       ·rename_i p hp
        obtain ⟨y, z1, z2⟩ := hA.t c p hp
        obtain ⟨b, o, q, rfl, q1, q2⟩ := loadE_sound h hu z2
        refine ⟨q, ?_, q2⟩
        have : a.tmps.getD c undef = .pointer (some ⟨b, o, none⟩) := by simp [Array.getD_eq_getD_getElem?, z1]
        simp only [rvf, this, asAddr, Sem.run_bind, Sem.run_pure, Result.andThen_ok]
        exact q1
       ·cases hu
     obtain ⟨y, z1, z2⟩ := hhead
     refine ⟨y :: ys, ?_, .cons z2 y2⟩
     rw [List.mapM_cons]
     simp only [Sem.run_bind, z1, Result.andThen_ok, y1, Sem.run_pure]
 unfold resultsE at hr
 split at hr
 ·rename_i u hu
  cases hr
  obtain ⟨ys, y1, y2⟩ := key _ _ hu
  cases y2 with
  | cons y2 y3 =>
   cases y3
   rename_i y
   refine ⟨y, ?_, y2⟩
   rw [results_eq]
   simp only [Sem.run_bind, map_eq_pure_bind, y1, Result.andThen_ok, Sem.run_pure]
   simp
 ·rename_i vs hne hu
  cases hr
  obtain ⟨ys, y1, y2⟩ := key _ _ hu
  refine ⟨.tuple ys.toArray, ?_, .tup y2⟩
  rw [results_eq]
  simp only [Sem.run_bind, map_eq_pure_bind, y1, Result.andThen_ok, Sem.run_pure]
  have hn : ¬ ys.toArray.size = 1 := by
   intro h1
   have hl := y2.length
   have : vs.length = 1 := by rw [hl]; simpa using h1
   match vs, this with
   | [v], _ => exact hne v rfl
  rw [dif_neg hn]
 ·cases hr
def LeavesM (P : Program) (fn : Func) (tmps : Array Value) (R : Ending → World → Prop) : List Deferred → FrameMode → World → Prop
 | [], .returning, w => ∃ v, (results fn tmps).run P w = .ok v w ∧ R (.returned v) w
 | [], .panicking chain, w => R (.panicked chain) w
 | [], .run, _ => False
 | d :: ds, u, w => u ≠ .run ∧ ((∃ r w', d.target = .collected r ∧ (Instr.takeDeferred r).run P w = .ok [] w' ∧ LeavesM P fn tmps R ds u w') ∨
  ∃ fv cap f args, d.target = .fn fv cap ∧ (invoke d.target d.args).run P w = .ok (.enter f args) w ∧
  CallsD P f args u w fun
   | .returned _, u', w' => LeavesM P fn tmps R ds (settle u') w'
   | .panicked chain, u', w' => LeavesM P fn tmps R ds (raised u' chain) w'
   | .outgrown, _, w' => R .outgrown w')
theorem leavesM_steps {tmps : Array Value} {R : Ending → World → Prop} : ∀ (ds : List Deferred) (u : FrameMode) (w : World) (fr : Frame)
 (cs : List Frame), fr.mode = u → fr.defers = ds → fr.tmps = tmps → P.funcs[fr.fn]? = some fn → fr.kind = .normal → LeavesM P fn tmps R ds u w →
 ∃ e w' fr', R e w' ∧ Comes P (lone fr cs w) (lone fr' cs w') e ∧ fr'.fn = fr.fn ∧ fr'.leaving P w' e := by
 intro ds
 induction ds with
 | nil =>
  intro u w fr cs hu hd ht hf hk h
  cases u with
  | run => exact h.elim
  | returning =>
   obtain ⟨v, hr, hR⟩ := h
   exact ⟨.returned v, w, fr, hR, Steps.refl P _, rfl, hu, hd, hk, fn, hf, ht ▸ hr⟩
  | panicking chain => exact ⟨.panicked chain, w, fr, h, Steps.refl P _, rfl, hu, hd, fn, hf⟩
 | cons d ds ih =>
  intro u w fr cs hu hd ht hf hk h
  obtain ⟨hrun, h⟩ := h
  rcases h with ⟨r, w', htar, htake, hrest⟩ | ⟨fv, cap, f, args, htar, hinv, hcall⟩
  ·have h1 := step_collected (cs := cs) (hu ▸ hrun) hd htar htake
   obtain ⟨e', w'', fr', hR', hs', hfn', hl'⟩ := ih u w' { fr with defers := [] ++ ds } cs hu rfl ht hf hk hrest
   exact ⟨e', w'', fr', hR', Comes.of_steps (.one h1) hs', hfn', hl'⟩
  have h1 := step_defer (cs := cs) (hu ▸ hrun) hd htar hinv
  obtain ⟨e, u', w', frX, hR, hsteps, hkX, hgo⟩ := hcall { fr with defers := ds } cs hu
  cases e with
  | returned v =>
   have h2 := step_going_returned (c := { { fr with defers := ds } with mode := u' }) (cs := cs) hkX hgo
   obtain ⟨e', w'', fr', hR', hs', hfn', hl'⟩ := ih (settle u') w' { { { fr with defers := ds } with mode := u' } with mode := settle u' } cs rfl rfl ht hf hk hR
   exact ⟨e', w'', fr', hR', Comes.of_steps (.head h1 (Steps.trans hsteps (.one h2))) hs', hfn', hl'⟩
  | panicked chain =>
   have h2 := step_going_panicked (c := { { fr with defers := ds } with mode := u' }) (cs := cs) hgo
   obtain ⟨e', w'', fr', hR', hs', hfn', hl'⟩ := ih (raised u' chain) w' { { { fr with defers := ds } with mode := u' } with mode := raised u' chain } cs rfl rfl ht hf hk hR
   exact ⟨e', w'', fr', hR', Comes.of_steps (.head h1 (Steps.trans hsteps (.one h2))) hs', hfn', hl'⟩
  | outgrown => exact ⟨.outgrown, w', fr, hR, Outgrown.of_steps (.one h1) hsteps, rfl, trivial⟩
def RetR (σ : Sg) : Rs → Ending → Prop
 | .ret v _, e => ∃ y, e = .returned y ∧ VR σ v y
 | .pan v _, e => ∃ y, e = .panicked [{ v := y, recovered := false }] ∧ VR σ v y
 | _, _ => False
def pn : Option V → Pan
 | none => .quiet
 | some v => .live v
theorem leaveE_le (hl : LeOk rec) : ∀ (ds : List (FuncId × List V)) {p : Option V} {S : St} {r : Rs}, leaveE rec P fn fr ds p S = some r → StLe S r.st
 | [], none, S, r, h => by
  simp only [leaveE, Option.map_eq_some_iff] at h
  obtain ⟨v, _, rfl⟩ := h
  exact .refl _
 | [], some v, S, r, h => by simp only [leaveE, Option.some.injEq] at h; subst h; exact .refl _
 | (g, l) :: ds, p, S, r, h => by
  simp only [leaveE] at h
  split at h
  ·split at h
   ·exact (StLe.del S _).trans (leaveE_le hl ds h)
   ·cases h
  ·split at h
   ·rename_i h1; exact (hl _ _ _ h1).trans (leaveE_le hl ds h)
   ·rename_i h1; exact (hl _ _ _ h1).trans (leaveE_le hl ds h)
   ·rename_i h1; exact (hl _ _ _ h1).trans (leaveE_le hl ds h)
   ·cases h
theorem leave_ok [Glob] (hG : Good P) (hR : RecOk P rec) : ∀ (ds : List (FuncId × List V)) {p : Option V} {S : St} {r : Rs}, leaveE rec P fn fr ds p S = some r →
 (∃ v S', r = .ret v S' ∨ r = .pan v S') ∧ ∀ (base : Nat) (w₀ : World) (σ : Sg) (w : World) (a : Act) (es : List Deferred) (u : FrameMode), Rel none2 base w₀ σ S w → AR σ fr a → DsR σ ds es → MR σ (pn p) u → Free σ S.next r.st.next →
  LeavesM P fn a.tmps (fun e w' => ∃ σ', RetR σ' r e ∧ Rel none2 base w₀ σ' r.st w' ∧ Stp σ S w σ' r.st w') es u w
 | [], none, S, r, h => by
  simp only [leaveE, Option.map_eq_some_iff] at h
  obtain ⟨v, h1, rfl⟩ := h
  refine ⟨⟨v, S, .inl rfl⟩, fun base w₀ σ w a es u q1 q2 q3 q4 _ => ?_⟩
  cases q3
  have q4 : u = .returning := q4
  subst q4
  obtain ⟨y, y1, y2⟩ := results_sound q1 q2 h1
  exact ⟨y, y1, σ, ⟨y, rfl, y2⟩, q1, Stp.refl _ _ _⟩
 | [], some v, S, r, h => by
  simp only [leaveE, Option.some.injEq] at h
  subst h
  refine ⟨⟨v, S, .inr rfl⟩, fun base w₀ σ w a es u q1 q2 q3 q4 _ => ?_⟩
  cases q3
  obtain ⟨y, rfl, y2⟩ : ∃ y, u = .panicking [{ v := y, recovered := false }] ∧ VR σ v y := q4
  exact ⟨σ, ⟨y, rfl, y2⟩, q1, Stp.refl _ _ _⟩
 | (g, l) :: ds, p, S, r, h => by
  simp only [leaveE] at h
  cases hmk : markOf l with
  | some m =>
   rw [hmk] at h
   simp only at h
   have hl1 : l = [.dmk m] := by
    unfold markOf at hmk
    split at hmk
    ·cases hmk; rfl
    ·cases hmk
   split at h
   ·rename_i hid
    obtain ⟨k1, k2⟩ := leave_ok hG hR ds h
    refine ⟨k1, fun base w₀ σ w a es u q1 q2 q3 q4 q5 => ?_⟩
    have hu : u ≠ .run := by
     rintro rfl
     cases p with
     | none => cases q4
     | some v => obtain ⟨y, h, _⟩ := q4; cases h
    subst hl1
    cases q3 with
    | cons ht hv hds =>
     have hno : ∀ l, ¬ VRs σ [.dmk m] l := fun l h => by cases h with | cons h1 _ => cases h1
     exact (hno _ hv).elim
    | mark ht hρ hds =>
     obtain ⟨b', e', ob, o1, o2, o3, o4, o5⟩ := q1.ob m _ hid
     rw [hρ] at o1; cases o1
     cases ob <;> first | exact o4.elim | skip
     have o4 : _ = some [] := o4
     subst o4
     obtain ⟨r1, r2⟩ := q1.delOth hid hρ (.deferred none)
     refine ⟨hu, .inl ⟨_, _, ht, run_takeDeferred o3, ?_⟩⟩
     refine leaves_mono (k2 base w₀ σ _ a _ u r1 q2 hds q4 q5) fun e w'' => ?_
     rintro ⟨σ'', z1, z2, z3⟩
     exact ⟨σ'', z1, z2, r2.trans z3 q5⟩
   ·cases h
  | none =>
  rw [hmk] at h
  simp only at h
  have rest : ∀ (p' : Pan) (p2 : Option V) (S1 : St), rec (.dcall g l (pn p)) S = some (.dret p' S1) → leaveE rec P fn fr ds p2 S1 = some r → (∀ σ u, MR σ p' u → MR σ (pn p2) (settle u)) →
   (∃ v S', r = .ret v S' ∨ r = .pan v S') ∧ ∀ (base : Nat) (w₀ : World) (σ : Sg) (w : World) (a : Act) (es : List Deferred) (u : FrameMode), Rel none2 base w₀ σ S w → AR σ fr a → DsR σ ((g, l) :: ds) es → MR σ (pn p) u → Free σ S.next r.st.next →
    LeavesM P fn a.tmps (fun e w' => ∃ σ', RetR σ' r e ∧ Rel none2 base w₀ σ' r.st w' ∧ Stp σ S w σ' r.st w') es u w := by
   intro p' p2 S1 h1 h2 hset
   obtain ⟨k1, k2⟩ := leave_ok hG hR ds h2
   have hn := (leaveE_le hR.le ds h2).next
   refine ⟨k1, fun base w₀ σ w a es u q1 q2 q3 q4 q5 => ?_⟩
   cases q3 with
   | mark ht hρ hds => cases hmk
   | cons ht hv hds =>
    rename_i d caps es'
    obtain ⟨p'', S1', he, ⟨fn', hf', hb'⟩, hrun⟩ := hR.dcall g l (pn p) S _ h1
    cases he
    have hu : u ≠ .run := by
     rintro rfl
     cases p with
     | none => cases q4
     | some v => obtain ⟨y, h, _⟩ := q4; cases h
    have harr : (d.args ++ caps).toList.toArray = d.args ++ caps := by simp
    refine ⟨hu, .inr ⟨.func g, caps, g, d.args ++ caps, ht, ?_, ?_⟩⟩
    ·have hnm := hG.nm g fn' hf' hb'
     have hbn : fn'.body.isNone = false := by cases hq : fn'.body <;> simp_all
     rw [ht]
     simp only [invoke]
     cases hq : fn'.body with
     | none => rw [hq] at hb'; cases hb'
     | some body => simp [callFunc, hf', hnm, hq]
    ·have hc := hrun base w₀ σ w _ u q1 hv q4 (q5.mono (Nat.le_refl _) hn)
     rw [harr] at hc
     refine CallsD.mono hc fun e u' w' => ?_
     rintro ⟨⟨y, rfl⟩, σ', m1, m2, m3⟩
     have := k2 base w₀ σ' w' a es' (settle u') m2 (q2.mono m3.le) (hds.mono m3.le) (hset _ _ m1) (m3.free q5)
     simp only
     revert this
     generalize settle u' = u2
     intro this
     refine leaves_mono this fun e w'' => ?_
     rintro ⟨σ'', z1, z2, z3⟩
     exact ⟨σ'', z1, z2, m3.trans z3 q5⟩
  split at h
  ·rename_i S1 h1
   exact rest .quiet none S1 (by cases p <;> exact h1) h fun σ u hu => by have hu : u = .returning := hu; subst hu; rfl
  ·rename_i v S1 h1
   exact rest (.live v) (some v) S1 (by cases p <;> exact h1) h fun σ u hu => by obtain ⟨y, rfl, h⟩ := hu; exact ⟨y, rfl, h⟩
  ·rename_i v S1 h1
   exact rest (.done v) none S1 (by cases p <;> exact h1) h fun σ u hu => by obtain ⟨y, rfl, h⟩ := hu; rfl
  ·cases h
where
 leaves_mono {P : Program} {fn : Func} {tmps : Array Value} {R R' : Ending → World → Prop} : ∀ {ds : List Deferred} {u : FrameMode} {w : World}, LeavesM P fn tmps R ds u w → (∀ e w', R e w' → R' e w') → LeavesM P fn tmps R' ds u w
  | [], .returning, w, ⟨v, h1, h2⟩, hr => ⟨v, h1, hr _ _ h2⟩
  | [], .panicking _, w, h, hr => hr _ _ h
  | [], .run, w, h, hr => h
  | d :: ds, u, w, ⟨h0, .inl ⟨r, w', h1, h2, h3⟩⟩, hr => ⟨h0, .inl ⟨r, w', h1, h2, leaves_mono h3 hr⟩⟩
  | d :: ds, u, w, ⟨h0, .inr ⟨fv, cap, f, args, h1, h2, h3⟩⟩, hr => ⟨h0, .inr ⟨fv, cap, f, args, h1, h2, CallsD.mono h3 fun e u' w' he => by
   cases e with
   | returned v => exact leaves_mono he hr
   | panicked ch => exact leaves_mono he hr
   | outgrown => exact hr _ _ he⟩⟩
end
end Go.Ev
namespace Go.Ev
open Go.RowKit
section
variable {P : Program} {rec : Rec} {base : Nat} {w₀ w : World} {σ : Sg} {S S' : St} {a : Act} {fr : Fr} {fn : Func}
theorem drawE_le [Glob] (hl : LeOk rec) {ops : Array Oper} (hok : (planOf ops).ok = true) {r : Rs} (hE : drawE rec P ops (planOf ops).ms S (planOf ops).ord [] fr S = some r) : StLe S r.st := by
 have hord : ordOk (masks ops.toList []) ops 0 (planOf ops).ord = true := by
  have : (edgesOk ops && dstOk (masks ops.toList []) ops && ordOk (masks ops.toList []) ops 0 (planOf ops).ord) = true := hok
  simp only [Bool.and_eq_true] at this
  exact this.2
 rcases drawE_tra hl (planOf ops).ord .nil .nil hord hE with ⟨_, _, _, rfl, h, _⟩ | ⟨_, _, _, _, _, rfl, ⟨o, R, T0, frm, frR, Sm, Sa, SR, l2, _, h0, _, _, hx, _, _, _, _, _, _, _, _, rfl, hSN⟩⟩
 ·exact h.le hl
 ·exact ((h0.le hl).trans (actE_le hl hx : StLe Sm Sa)).trans (.up _ hSN)
theorem rangeFuncE_le [Glob] (hl : LeOk rec) {f : Operand} {ps : Array Tmp} {asg body : Code} {r : Rs} (h : rangeFuncE rec P f ps asg body fr S = some r) : StLe S r.st := by
 unfold rangeFuncE at h
 split at h
 ·cases h
 ·split at h
  ·cases h
  ·split at h
   ·cases h
   ·simp only at h
    have h0 : StLe S (St.new (S.new (.oth .dfr)) (.oth (.loop .ready none fr.t fr.n ps asg body))) := (StLe.new _ _).trans (StLe.new _ _)
    split at h
    ·rename_i h1
     split at h
     ·cases h
     ·rename_i h2
      split at h
      ·cases h
      ·split at h
       ·cases h
       ·cases h; exact (h0.trans (hl _ _ _ h1)).trans (setLoop_le h2 _ _)
    ·rename_i h1; cases h; have := hl _ _ _ h1; exact h0.trans this
    ·cases h
 ·cases h
theorem stepT_le [Glob] (hl : LeOk rec) : LeOk (stepT P rec) := by
 intro task S r h
 cases task with
 | call f args =>
  simp only [stepT] at h
  split at h
  ·cases h
  ·split at h
   ·cases h
   ·split at h
    ·rename_i h1; exact (hl _ _ _ h1).trans (leaveE_le hl _ h)
    ·rename_i h1; exact (hl _ _ _ h1).trans (leaveE_le hl _ h)
    ·rename_i h1; exact (hl _ _ _ h1).trans (leaveE_le hl _ h)
    ·cases h
 | dcall f args p =>
  simp only [stepT] at h
  split at h
  ·cases h
  ·split at h
   ·cases h
   ·split at h
    ·rename_i h1
     split at h
     ·cases h; have := hl _ _ _ h1; exact this
     ·cases h
    ·rename_i h1
     split at h
     ·cases h; have := hl _ _ _ h1; exact this
     ·cases h
    ·cases h
 | code c fr =>
  simp only [stepT] at h
  cases c <;> simp only at h <;> try (cases h; done)
  case skip => cases h; exact .refl _
  case ret => cases h; exact .refl _
  case exit n => cases h; exact .refl _
  case region id ops draw =>
   cases draw with
   | false => simp only [regionE] at h; exact seqE_le hl _ h
   | true =>
    simp only [regionE] at h
    split at h
    ·rename_i hok; exact drawE_le hl hok h
    ·cases h
  case seq y z =>
   split at h
   ·rename_i h1; exact (hl _ _ _ h1).trans (hl _ _ _ h)
   ·exact hl _ _ _ h
  case cond o y z =>
   split at h
   ·exact hl _ _ _ h
   ·exact hl _ _ _ h
   ·cases h
  case block n y =>
   split at h
   ·rename_i h1
    have := hl _ _ _ h1
    split at h <;> cases h <;> exact this
   ·exact hl _ _ _ h
  case loop y =>
   split at h
   ·rename_i h1; exact (hl _ _ _ h1).trans (hl _ _ _ h)
   ·exact hl _ _ _ h
  case rangeFunc f ps asg b => exact rangeFuncE_le hl h
  case label l => cases h; exact .refl _
  case goto l => cases h; exact .refl _
  case scope b => exact scopeE_le hl _ h
theorem body_ok [Glob] (hG : Good P) (hR : RecOk P rec) {f : FuncId} {c : Code} {args : List V} {r : Rs} (hf : P.funcs[f]? = some fn) (hb : fn.body = some c) {x : X} {fr' : Fr} {S1 : St}
 (hc : rec (.code c (startFr fn args .norm)) S = some (.code x fr' S1)) {p : Option V} (hx : (x = .normal ∨ x = .ret) ∧ p = none ∨ ∃ v, x = .panic v ∧ p = some v) (hl : leaveE rec P fn fr' fr'.ds p S1 = some r) :
 (∃ v S', r = .ret v S' ∨ r = .pan v S') ∧ ∀ (base : Nat) (w₀ : World) (σ : Sg) (w : World) (vs : List Value), Rel none2 base w₀ σ S w → Free σ S.next r.st.next → VRs σ args vs →
  Calls P f vs.toArray w fun e w' => ∃ σ', RetR σ' r e ∧ Rel none2 base w₀ σ' r.st w' ∧ Stp σ S w σ' r.st w' := by
 obtain ⟨k1, k2⟩ := leave_ok hG hR fr'.ds hl
 have hn := (leaveE_le hR.le fr'.ds hl).next
 refine ⟨k1, fun base w₀ σ w vs q1 q2 q3 => ?_⟩
 obtain ⟨x', fr'', S1', he, hrun⟩ := hR.code.at hc
 cases he
 intro cs
 let b : Frame := { (default : Frame) with fn := f, kind := .normal, roundOf := none }
 have henter : Frame.enter P f vs.toArray .normal = b.atR { tmps := vs.toArray ++ Array.replicate (fn.ntmps - vs.toArray.size) undef, defers := [] } [.code c] := by
  simp [Frame.enter, Frame.atR, hf, hb, b]
 obtain ⟨e, a', cs', w', σ', z0, z1, z2, z3, z4, z5, z6⟩ := hrun base w₀ σ w _ b cs [] q1 (start_AR q3 .norm) ⟨rfl, rfl⟩ trivial (q2.mono (Nat.le_refl _) hn)
 rw [← henter] at z6
 have hcs := z3.normal rfl
 subst hcs
 have fin : ∀ (u : FrameMode) (todo : List Item), MR σ' (pn p) u → Steps P (lone (Frame.enter P f vs.toArray .normal) cs' w) (lone { b.atR a' todo with mode := u } cs' w') →
  ∃ e w'' fr0, (∃ σ'', RetR σ'' r e ∧ Rel none2 base w₀ σ'' r.st w'' ∧ Stp σ S w σ'' r.st w'') ∧ Comes P (lone (Frame.enter P f vs.toArray .normal) cs' w) (lone fr0 cs' w'') e ∧ fr0.fn = f ∧ fr0.leaving P w'' e := by
  intro u todo hu hs
  have hL := k2 base w₀ σ' w' a' a'.defers u z4 z1 z1.ds hu (z5.free q2)
  obtain ⟨e', w'', frX, ⟨σ'', r1, r2, r3⟩, hs', hfn, hlv⟩ := leavesM_steps a'.defers u w' { b.atR a' todo with mode := u } cs' rfl rfl rfl hf rfl hL
  exact ⟨e', w'', frX, ⟨σ'', r1, r2, z5.trans r3 q2⟩, Comes.of_steps hs hs', hfn, hlv⟩
 rcases hx with ⟨rfl | rfl, rfl⟩ | ⟨v, rfl, rfl⟩
 ·cases z0
  exact fin .returning [] rfl (Steps.trans z6 (.one (stepR_end rfl)))
 ·cases z0
  obtain ⟨k1, z6⟩ := z6
  exact fin .returning _ rfl (Steps.trans z6 (.one (stepR_ret rfl)))
 ·cases z0 with
  | panic hv =>
   obtain ⟨todo, z6⟩ := z6
   exact fin _ todo ⟨_, rfl, hv⟩ z6
theorem call_ok [Glob] (hG : Good P) (hR : RecOk P rec) : CallOk0 P (stepT P rec) := by
 intro g l S r h
 simp only [stepT] at h
 have key : ∀ (r : Rs), stepT P rec (.call g l) S = some r → (∃ v S', r = .ret v S' ∨ r = .pan v S') ∧ ∀ (base : Nat) (w₀ : World) (σ : Sg) (w : World) (vs : List Value), Rel none2 base w₀ σ S w → Free σ S.next r.st.next → VRs σ l vs →
  Calls P g vs.toArray w fun e w' => ∃ σ', RetR σ' r e ∧ Rel none2 base w₀ σ' r.st w' ∧ Stp σ S w σ' r.st w' := by
  intro r h
  simp only [stepT] at h
  split at h
  ·cases h
  ·rename_i fn hf
   split at h
   ·cases h
   ·rename_i c hb
    split at h
    ·rename_i h1; exact body_ok hG hR hf hb h1 (.inl ⟨.inl rfl, rfl⟩) h
    ·rename_i h1; exact body_ok hG hR hf hb h1 (.inl ⟨.inr rfl, rfl⟩) h
    ·rename_i h1; exact body_ok hG hR hf hb h1 (.inr ⟨_, rfl, rfl⟩) h
    ·cases h
 obtain ⟨_, k2⟩ := key r h
 refine ⟨fun v S' hr base w₀ σ w vs q1 q2 q3 => ?_, fun v S' hr base w₀ σ w vs q1 q2 q3 => ?_⟩
 ·subst hr
  refine Calls.mono (k2 base w₀ σ w vs q1 q2 q3) fun e w' => ?_
  rintro ⟨σ', ⟨y, rfl, y1⟩, y2, y3⟩
  exact ⟨y, σ', rfl, y1, y2, y3⟩
 ·subst hr
  refine Calls.mono (k2 base w₀ σ w vs q1 q2 q3) fun e w' => ?_
  rintro ⟨σ', ⟨y, rfl, y1⟩, y2, y3⟩
  exact ⟨y, σ', rfl, y1, y2, y3⟩
theorem Turn.cons {b c : Frame} {cs cs' : List Frame} (h : Turn b (c :: cs) cs') : ∃ u, cs' = { c with mode := u } :: cs := by
 cases h with
 | refl => exact ⟨c.mode, rfl⟩
 | head _ _ u _ => exact ⟨u, rfl⟩
theorem dcall_ok [Glob] (hR : RecOk P rec) : DcallOk P (stepT P rec) := by
 intro g l p S r h
 simp only [stepT] at h
 split at h
 ·cases h
 ·rename_i fn hf
  split at h
  ·cases h
  ·rename_i c hb
   have key : ∀ (x : X) (fr : Fr) (S' : St), (x = .normal ∨ x = .ret) → rec (.code c (startFr fn l p)) S = some (.code x fr S') → (match fr.ds, resultsE P fn fr S' with
    | [], some _ => some (Rs.dret fr.pan S')
    | _, _ => none) = some r → ∃ p' S', r = .dret p' S' ∧ (∃ fn, P.funcs[g]? = some fn ∧ fn.body.isSome = true) ∧
    ∀ (base : Nat) (w₀ : World) (σ : Sg) (w : World) (vs : List Value) (u : FrameMode), Rel none2 base w₀ σ S w → VRs σ l vs → MR σ p u → Free σ S.next S'.next →
     CallsD P g vs.toArray u w fun e u' w' => (∃ y, e = .returned y) ∧ ∃ σ', MR σ' p' u' ∧ Rel none2 base w₀ σ' S' w' ∧ Stp σ S w σ' S' w' := by
    intro x fr S' hx hc h
    split at h
    ·rename_i v hds hres
     cases h
     refine ⟨_, _, rfl, ⟨fn, hf, by rw [hb]; rfl⟩, fun base w₀ σ w vs u q1 q2 q3 q4 => ?_⟩
     obtain ⟨x', fr'', S1', he, hrun⟩ := hR.code.at hc
     cases he
     intro c₀ cs hu
     let b : Frame := { (default : Frame) with fn := g, kind := .deferred, roundOf := none }
     have henter : Frame.enter P g vs.toArray .deferred = b.atR { tmps := vs.toArray ++ Array.replicate (fn.ntmps - vs.toArray.size) undef, defers := [] } [.code c] := by
      simp [Frame.enter, Frame.atR, hf, hb, b]
     subst hu
     obtain ⟨e, a', cs', w', σ', z0, z1, z2, z3, z4, z5, z6⟩ := hrun base w₀ σ w _ b (c₀ :: cs) [] q1 (start_AR q2 p) (q3.toPan rfl rfl) trivial q4
     rw [← henter] at z6
     obtain ⟨u', rfl⟩ := z3.cons
     have hm := MR.ofPan z2 rfl
     obtain ⟨y, y1, y2⟩ := results_sound z4 z1 hres
     have hds' : a'.defers = [] := by
      have := z1.ds
      rw [hds] at this
      cases hq : a'.defers with
      | nil => rfl
      | cons d ds => rw [hq] at this; cases this
     rcases hx with rfl | rfl
     ·cases z0
      exact ⟨.returned y, u', w', _, ⟨⟨y, rfl⟩, σ', hm, z4, z5⟩, Steps.trans z6 (.one (stepR_end rfl)), rfl, rfl, hds', fn, hf, y1⟩
     ·cases z0
      obtain ⟨k1, z6⟩ := z6
      exact ⟨.returned y, u', w', _, ⟨⟨y, rfl⟩, σ', hm, z4, z5⟩, Steps.trans z6 (.one (stepR_ret rfl)), rfl, rfl, hds', fn, hf, y1⟩
    ·cases h
   split at h
   ·rename_i h1; exact key _ _ _ (.inl rfl) h1 h
   ·rename_i h1; exact key _ _ _ (.inr rfl) h1 h
   ·cases h
theorem run_ok [Glob] (hG : Good P) : ∀ n, RecOk P (run P n)
 | 0 => ⟨fun _ _ _ h => (by cases h), fun _ _ _ _ h => (by cases h), fun _ _ _ _ h => (by cases h), fun _ _ _ _ _ h => (by cases h)⟩
 | n + 1 => ⟨stepT_le (run_ok hG n).le, call_ok hG (run_ok hG n), code_ok hG (run_ok hG n), dcall_ok (run_ok hG n)⟩
def Sg.none : Sg := ⟨fun _ => Option.none, fun _ _ => Option.none, fun _ => Option.none⟩
def Sg.vars [Glob] (w : World) : Sg := ⟨fun _ => Option.none, fun b o => if ((Glob.cells b).any fun cs => Nat.blt o cs.length) then w.cell? ⟨b, o, Option.none⟩ else Option.none, fun _ => Option.none⟩
def VarsOk [Glob] (w : World) : Prop := ∀ g cs, Glob.cells g = some cs → ∀ i v, cs[i]? = some v → ∃ y, w.cell? ⟨g, i, none⟩ = some y ∧ VR Sg.none v y
theorem VR.plain {σ σ' : Sg} {v : V} {y : Value} (h : VR σ v y) (hp : v.plain = true) : VR σ' v y := by
 cases h <;> first
  | (cases hp; done)
  | (constructor <;> assumption)
  | constructor
theorem VarsOk.of [Glob] {S : St} (h : Rel none2 base w₀ σ S w) : VarsOk w := by
 intro g cs hg i v hv
 obtain ⟨y, h1, h2⟩ := (h.gl g cs hg).get hv
 have hm := h.imm g (0 + i) y h1 id
 rw [Nat.zero_add] at hm
 refine ⟨y, hm, h2.plain ?_⟩
 exact List.all_eq_true.1 (Glob.plain g cs hg) v (List.mem_of_getElem? hv)
theorem gok_vars [Glob] {w : World} (h : VarsOk w) : GOk (Sg.vars w) := by
 intro g cs hg
 have key : ∀ (l : List V) (k : Nat), (∀ i v, l[i]? = some v → cs[k + i]? = some v) → CR (Sg.vars w) l g k := by
  intro l
  induction l with
  | nil => intro k _; exact .nil _ _
  | cons x l ih =>
   intro k hk
   obtain ⟨y, h1, h2⟩ := h g cs hg k x (hk 0 x rfl)
   refine .cons (y := y) ?_ (h2.mono ⟨fun _ _ e => (by cases e), fun _ _ _ e => (by cases e), fun _ _ e => (by cases e)⟩) (ih (k + 1) fun i v hi => by rw [Nat.add_right_comm, Nat.add_assoc]; exact hk (i + 1) v hi)
   have hlt : k < cs.length := by
    have := hk 0 x rfl
    exact (List.getElem?_eq_some_iff.1 this).1
   simp only [Sg.vars, hg, Option.any_some]
   rw [if_pos (by simpa using hlt)]
   exact h1
 exact key cs 0 fun i v hi => by rw [Nat.zero_add]; exact hi
theorem rel_start [Glob] (w : World) (hv : VarsOk w) : Rel none2 w.heap.size w (Sg.vars w) S0 w where
 below := Below.refl _ _
 hb := Nat.le_refl _
 imm b o v h _ := by
  simp only [Sg.vars] at h
  split at h
  ·exact h
  ·cases h
 cur b o v h := by
  simp only [Sg.vars] at h
  split at h
  ·unfold World.cell? at h
   simp only at h
   rcases Nat.lt_or_ge b w.heap.size with h' | h'
   ·exact h'
   ·rw [Array.getElem?_eq_none h'] at h; cases h
  ·cases h
 ty _ _ h := (by cases h)
 ob id o h := (by simp only [S0, Tr.find_leaf] at h; cases h)
 inj i j o o' x y h := (by simp only [S0, Tr.find_leaf] at h; cases h)
 gl := gok_vars hv
def boolOf : Option Rs → Option Bool
 | some (.ret (.bool b) _) => some b
 | _ => none
end
theorem good_of {P : Program} (i j k : Nat) (h1 : (P.funcs.all fun fn => fn.body.isNone || !decide (fn.name = "runtime.NumGoroutine")) = true)
 (h2 : ((List.range P.funcs.size).all fun n => match P.funcs[n]? with
  | some fn => fn.body.isSome || ((!decide (fn.name = "internal/abi.NoEscape") || Nat.beq n i) && (!decide (fn.name = "internal/bytealg.IndexByteString") || Nat.beq n j) && (!decide (fn.name = "internal/bytealg.MakeNoZero") || Nat.beq n k))
  | none => true) = true)
 (e1 : ∀ fn, P.funcs[i]? = some fn → fn.name = "internal/abi.NoEscape" → Extern.findNext fn = none ∧ Extern.find fn = some Extern.AbiNoEscape.same)
 (e2 : ∀ fn, P.funcs[j]? = some fn → fn.name = "internal/bytealg.IndexByteString" → Extern.findNext fn = none ∧ Extern.find fn = some Extern.BytealgIndexByte.indexByte)
 (e3 : ∀ fn, P.funcs[k]? = some fn → fn.name = "internal/bytealg.MakeNoZero" → Extern.findNext fn = none ∧ Extern.find fn = some (Extern.BytealgMakeNoZero.makeNoZero fn.params fn.resultTypes))
 (mix : P.follows .mixedOrders = true) : Good P := by
 have key : ∀ (f : FuncId) (fn : Func), P.funcs[f]? = some fn → fn.body = none → (fn.name = "internal/abi.NoEscape" → f = i) ∧ (fn.name = "internal/bytealg.IndexByteString" → f = j) ∧ (fn.name = "internal/bytealg.MakeNoZero" → f = k) := by
  intro f fn hf hb
  rw [List.all_eq_true] at h2
  have h3 := h2 f (List.mem_range.2 (Array.getElem?_eq_some_iff.1 hf).1)
  rw [hf] at h3
  simp only [hb, Option.isSome_none, Bool.false_or, Bool.and_eq_true] at h3
  obtain ⟨⟨k1, k2⟩, k3⟩ := h3
  refine ⟨fun hn => ?_, fun hn => ?_, fun hn => ?_⟩
  ·simp only [hn, decide_true, Bool.not_true, Bool.false_or] at k1; exact Nat.eq_of_beq_eq_true k1
  ·simp only [hn, decide_true, Bool.not_true, Bool.false_or] at k2; exact Nat.eq_of_beq_eq_true k2
  ·simp only [hn, decide_true, Bool.not_true, Bool.false_or] at k3; exact Nat.eq_of_beq_eq_true k3
 refine ⟨fun f fn hf hb => ?_, fun f fn hf hb hn => ?_, fun f fn hf hb hn => ?_, fun f fn hf hb hn => ?_, mix⟩
 ·rw [Array.all_eq_true_iff_forall_mem] at h1
  have := h1 fn (Array.mem_of_getElem? hf)
  intro he
  rw [he] at this
  cases hq : fn.body with
  | none => rw [hq] at hb; cases hb
  | some b => rw [hq] at this; simp at this
 ·have := (key f fn hf hb).1 hn; subst this; exact e1 fn hf hn
 ·have := (key f fn hf hb).2.1 hn; subst this; exact e2 fn hf hn
 ·have := (key f fn hf hb).2.2 hn; subst this; exact e3 fn hf hn
end Go.Ev
namespace Go.Ev
open Go.RowKit
section
variable {P : Program} {base : Nat} {w₀ w w' : World} {σ σ1 : Sg} {S S1 : St}
def Sg.join (σ σ1 : Sg) (w : World) (k n : Nat) : Sg where
 ρ := fun id => if k ≤ id ∧ id < k + n then σ1.ρ (id - k) else σ.ρ id
 I := fun b o => if b < w.heap.size then σ.I b o else σ1.I b o
 ty := fun b => if b < w.heap.size then σ.ty b else σ1.ty b
theorem addObs_find (k : Nat) : ∀ (l : List (Nat × Ob)) (h : Tr Ob) (id : Nat) (o : Ob), (addObs k l h).find id = some o → h.find id = some o ∨ ∃ i ob, (i, ob) ∈ l ∧ id = i + k ∧ o = ob.up k
 | [], _, _, _, h => .inl h
 | (i, ob) :: l, h, id, o, hf => by
  simp only [addObs, Tr.find_put] at hf
  split at hf
  ·cases hf; exact .inr ⟨i, ob, by simp, by assumption, rfl⟩
  ·rcases addObs_find k l h id o hf with h1 | ⟨j, ob', h1, h2⟩
   ·exact .inl h1
   ·exact .inr ⟨j, ob', by simp [h1], h2⟩
structure Mv (σ1 σ' : Sg) (k : Nat) : Prop where
 ρ : ∀ id x, σ1.ρ id = some x → σ'.ρ (id + k) = some x
 I : ∀ b o v, σ1.I b o = some v → σ'.I b o = some v
 ty : ∀ b t, σ1.ty b = some t → σ'.ty b = some t
theorem tkOk.mv {σ' : Sg} {k : Nat} (h : Mv σ1 σ' k) {sz len : Nat} {tk : Tk} {b o cap : Nat} (q : tkOk σ1 sz len tk b o cap) : tkOk σ' sz len (tk.up k) b o cap := by
 cases tk with
 | no => trivial
 | exact => exact q
 | own id => exact h.ρ _ _ q
theorem up_cells (k : Nat) (v : V) : (v.up k).cells = V.ups k v.cells := by
 cases v <;> simp [V.up, V.cells, V.ups]
theorem ups_length (k : Nat) : ∀ (l : List V), (V.ups k l).length = l.length
 | [] => rfl
 | v :: l => by simp [V.ups, ups_length k l]
mutual
theorem VR.mv {σ' : Sg} {k : Nat} (hm : Mv σ1 σ' k) : ∀ {x : V} {y : Value}, VR σ1 x y → VR σ' (x.up k) y
 | _, _, .bool b => .bool b
 | _, _, .int k n => .int k n
 | _, _, .str s h => .str s h
 | _, _, .nilp => .nilp
 | _, _, .ptr h => .ptr (hm.ρ _ _ h)
 | _, _, .cptr ht h => .cptr (fun t' e => hm.ty _ _ (ht t' e)) (h.mv hm)
 | _, _, .nils => .nils
 | _, _, .list (es := es) ht h hc hk => by
  have := VR.list (tk := _) (fun t' e => hm.ty _ _ (ht t' e)) (h.mv hm) (by rw [ups_length]; exact hc) (by rw [ups_length]; exact hk.mv hm)
  rw [ups_length] at this
  exact this
 | _, _, .arr h => .arr (hm.ρ _ _ h)
 | _, _, .func h q => .func (h.mv hm) (q.mv hm)
 | _, _, .nilf => .nilf
 | _, _, .iface t h => .iface t (h.mv hm)
 | _, _, .nili => .nili
 | _, _, .agg h => .agg (h.mv hm)
 | _, _, .tup h => .tup (h.mv hm)
 | _, _, .nilm => .nilm
 | _, _, .mt a => .mt a
 | _, _, .map h => .map (hm.ρ _ _ h)
 | _, _, .yld h => .yld (hm.ρ _ _ h)
 | _, _, .raw h ht hn => .raw (hm.ρ _ _ h) (hm.ty _ _ ht) hn
theorem VRs.mv {σ' : Sg} {k : Nat} (hm : Mv σ1 σ' k) : ∀ {x : List V} {y : List Value}, VRs σ1 x y → VRs σ' (V.ups k x) y
 | _, _, .nil => .nil
 | _, _, .cons h q => .cons (h.mv hm) (q.mv hm)
theorem CR.mv {σ' : Sg} {k : Nat} (hm : Mv σ1 σ' k) : ∀ {x : List V} {b o : Nat}, CR σ1 x b o → CR σ' (V.ups k x) b o
 | _, _, _, .nil b o => .nil b o
 | _, _, _, .cons hi h q => .cons (hm.I _ _ _ hi) (h.mv hm) (q.mv hm)
theorem LR.mv {σ' : Sg} {k : Nat} (hm : Mv σ1 σ' k) : ∀ {sz : Nat} {x : List V} {b o : Nat}, LR σ1 sz x b o → LR σ' sz (V.ups k x) b o
 | _, _, _, _, .nil sz b o => .nil sz b o
 | _, _, _, _, .cons hn h q => .cons (by rw [up_cells, ups_length]; exact hn) (by rw [up_cells]; exact h.mv hm) (q.mv hm)
end
theorem EsR.mv {σ' : Sg} {k : Nat} (hm : Mv σ1 σ' k) : ∀ {es : List (V × V × Nat)} {l : List MapEntry}, EsR σ1 es l → EsR σ' (upEs k es) l
 | _, _, .nil => .nil
 | _, _, .cons h1 h2 h3 t => .cons (h1.mv hm) (h2.mv hm) h3 (t.mv hm)
theorem reloc [Glob] (h : Rel none2 base w₀ σ S w) (h1 : Rel none2 w.heap.size w σ1 S1 w') (hs : Stp (Sg.vars w) S0 w σ1 S1 w') {v : V} {y : Value} (hv : VR σ1 v y) {objs : List (Nat × Ob)}
 (ho : ∀ i ob, (i, ob) ∈ objs → S1.h.find i = some ob ∧ ob.simple = true) (hf : Free σ S.next (S.next + S1.next)) :
 ∃ σ', VR σ' (v.up S.next) y ∧ Rel none2 base w₀ σ' (S.add S1.next objs) w' ∧ Stp σ S w σ' (S.add S1.next objs) w' := by
 have hb := h1.below
 have hsz := hb.size
 have own0 : ∀ b, ¬ Owns (Sg.vars w) S0 b := by
  rintro b ⟨id, o, x, q, _⟩
  simp only [S0, Tr.find_leaf] at q; cases q
 have hρ1 : ∀ id x, σ1.ρ id = some x → id < S1.next ∧ w.heap.size ≤ x.1 := by
  intro id x hx
  obtain ⟨_, q2, q3⟩ := hs.newK id x rfl hx
  refine ⟨q2, ?_⟩
  rcases q3 with q3 | q3
  ·exact q3
  ·exact absurd q3 (own0 _)
 have hI1 : ∀ b o u, b < w.heap.size → σ1.I b o = some u → σ.I b o = some u := by
  intro b o u hlt hu
  rw [hs.newI b hlt (own0 b) o] at hu
  simp only [Sg.vars] at hu
  split at hu
  ·rename_i hc
   cases hg : Glob.cells b with
   | none => rw [hg] at hc; cases hc
   | some cs =>
    rw [hg] at hc
    have hlt' : o < cs.length := by simpa using hc
    obtain ⟨y', q1, q2⟩ := (h.gl b cs hg).get (List.getElem?_eq_getElem hlt')
    rw [Nat.zero_add] at q1
    have := h.imm b o y' q1 id
    rw [hu] at this; cases this
    exact q1
  ·cases hu
 have hT1 : ∀ b t, σ1.ty b = some t → w.heap.size ≤ b := fun b t ht => (h1.ty b t ht).choose_spec.choose_spec.2
 let σ' := Sg.join σ σ1 w S.next S1.next
 have hle : σ.le σ' := by
  refine ⟨fun id x hx => ?_, fun b o u hu => ?_, fun b t ht => ?_⟩
  ·simp only [σ', Sg.join]
   rw [if_neg]
   ·exact hx
   ·rintro ⟨q1, q2⟩
    rw [hf id q1 q2] at hx; cases hx
  ·simp only [σ', Sg.join]
   rw [if_pos (h.cur b o u hu)]; exact hu
  ·simp only [σ', Sg.join]
   rw [if_pos (h.ty_lt ht)]; exact ht
 have hm : Mv σ1 σ' S.next := by
  refine ⟨fun id x hx => ?_, fun b o u hu => ?_, fun b t ht => ?_⟩
  ·obtain ⟨q1, _⟩ := hρ1 id x hx
   simp only [σ', Sg.join]
   rw [if_pos ⟨by omega, by omega⟩, show id + S.next - S.next = id by omega]
   exact hx
  ·simp only [σ', Sg.join]
   split
   ·rename_i hlt; exact hI1 b o u hlt hu
   ·exact hu
  ·simp only [σ', Sg.join]
   rw [if_neg (by have := hT1 b t ht; omega)]; exact ht
 have hIn : ∀ b o u, w.heap.size ≤ b → σ'.I b o = some u → σ1.I b o = some u := by
  intro b o u hlt hu
  simp only [σ', Sg.join] at hu
  rw [if_neg (by omega)] at hu; exact hu
 have hIo : ∀ b o, b < w.heap.size → σ'.I b o = σ.I b o := by
  intro b o hlt
  simp only [σ', Sg.join]
  rw [if_pos hlt]
 have hnew : ∀ i ob, (i, ob) ∈ objs → ObR σ' base w' (i + S.next) (ob.up S.next) := by
  intro i ob hi
  obtain ⟨q1, q2⟩ := ho i ob hi
  have q3 := h1.ob i ob q1
  have hbase : base ≤ w.heap.size := h.hb
  cases ob with
  | box t cs =>
   obtain ⟨b, e, vs, k1, k2, k3, k4, k5⟩ := q3
   refine ⟨b, e, vs, hm.ρ _ _ k1, by omega, k3, k4.mv hm, fun o => ?_⟩
   simp only [σ', Sg.join]
   rw [if_neg (by omega)]; exact k5 o
  | tok =>
   obtain ⟨b, p, e, c, t, lo, hi, k1, k2, k3, k4, k5, k6, k7, k8⟩ := q3
   refine ⟨b, p, e, c, t, lo, hi, hm.ρ _ _ k1, by omega, k3, k4, k5, k6, hm.ty _ _ k7, fun o ho => ?_⟩
   simp only [σ', Sg.join]
   rw [if_neg (by omega)]; exact k8 o ho
  | oth x =>
   obtain ⟨b, e, obj, k1, k2, k3, k4, k5⟩ := q3
   have k5' : ∀ o, σ'.I b o = none := fun o => by
    simp only [σ', Sg.join]
    rw [if_neg (by omega)]; exact k5 o
   cases x with
   | map es c =>
    refine ⟨b, e, obj, hm.ρ _ _ k1, by omega, k3, ?_, k5'⟩
    cases obj <;> first | exact k4.elim | skip
    exact ⟨k4.1.mv hm, k4.2⟩
   | sit s p => exact ⟨b, e, obj, hm.ρ _ _ k1, by omega, k3, by cases obj <;> exact k4, k5'⟩
   | dfr => exact ⟨b, e, obj, hm.ρ _ _ k1, by omega, k3, by cases obj <;> exact k4, k5'⟩
   | loop => cases q2
 have hold : ∀ id o, S.h.find id = some o → ObR σ' base w' id o := by
  intro id o hid
  refine (h.ob id o hid).keep hle fun x hx => ?_
  obtain ⟨z, k1, _, k3⟩ := (h.ob id o hid).key
  rw [k1] at hx; cases hx
  exact ⟨hb.block _ k3, fun o' ho' => by rw [hIo _ _ k3]; exact ho'⟩
 have hcase : ∀ id o, (S.add S1.next objs).h.find id = some o → S.h.find id = some o ∨ ∃ i ob, (i, ob) ∈ objs ∧ id = i + S.next ∧ o = ob.up S.next := fun id o hid => addObs_find S.next objs S.h id o hid
 have hid1 : ∀ i ob, (i, ob) ∈ objs → ∃ x, σ1.ρ i = some x ∧ w.heap.size ≤ x.1 := by
  intro i ob hi
  obtain ⟨x, k1, k2, _⟩ := (h1.ob i ob (ho i ob hi).1).key
  exact ⟨x, k1, k2⟩
 refine ⟨σ', hv.mv hm, ⟨?_, Nat.le_trans h.hb hsz, ?_, ?_, ?_, ?_, ?_, h.gl.mono hle⟩, ⟨hle, by simp [St.add], hsz, fun b hlt _ _ => hb.block b hlt, fun b hlt _ o => hIo b o hlt, ?_, ?_⟩⟩
 ·exact h.below.trans (hb.mono h.hb)
 ·intro b o u hu hp
  by_cases hlt : b < w.heap.size
  ·rw [hIo b o hlt] at hu
   rw [hb.cell (h.cur b o u hu)]; exact h.imm b o u hu hp
  ·exact h1.imm b o u (hIn b o u (by omega) hu) hp
 ·intro b o u hu
  by_cases hlt : b < w.heap.size
  ·omega
  ·exact h1.cur b o u (hIn b o u (by omega) hu)
 ·intro b t ht
  simp only [σ', Sg.join] at ht
  split at ht
  ·obtain ⟨c, fr, k1, k2⟩ := h.ty b t ht
   exact ⟨c, fr, by rw [hb.block b (heap_lt k1)]; exact k1, k2⟩
  ·obtain ⟨c, fr, k1, k2⟩ := h1.ty b t ht
   exact ⟨c, fr, k1, Nat.le_trans h.hb k2⟩
 ·intro id o hid
  rcases hcase id o hid with q | ⟨i, ob, q1, rfl, rfl⟩
  ·exact hold id o q
  ·exact hnew i ob q1
 ·intro i j o o' x z hi hj hx hz hxz
  have low : ∀ id o x, S.h.find id = some o → σ'.ρ id = some x → σ.ρ id = some x ∧ x.1 < w.heap.size := by
   intro id o x hid hx
   obtain ⟨z, k1, _, k3⟩ := (h.ob id o hid).key
   have := hle.ρ _ _ k1
   rw [this] at hx; cases hx
   exact ⟨k1, k3⟩
  have hi' : ∀ i ob x, (i, ob) ∈ objs → σ'.ρ (i + S.next) = some x → σ1.ρ i = some x ∧ w.heap.size ≤ x.1 := by
   intro i ob x hm' hx
   obtain ⟨z, k1, k2⟩ := hid1 i ob hm'
   have := hm.ρ _ _ k1
   rw [this] at hx; cases hx
   exact ⟨k1, k2⟩
  rcases hcase i o hi with q | ⟨i', ob, q1, rfl, rfl⟩ <;> rcases hcase j o' hj with r | ⟨j', ob', r1, rfl, rfl⟩
  ·exact h.inj i j o o' x z q r (low _ _ _ q hx).1 (low _ _ _ r hz).1 hxz
  ·have := (low _ _ _ q hx).2; have := (hi' _ _ _ r1 hz).2; omega
  ·have := (low _ _ _ r hz).2; have := (hi' _ _ _ q1 hx).2; omega
  ·have := h1.inj i' j' _ _ x z (ho _ _ q1).1 (ho _ _ r1).1 (hi' _ _ _ q1 hx).1 (hi' _ _ _ r1 hz).1 hxz
   rw [this]
 ·intro id x hx hx'
  simp only [σ', Sg.join] at hx'
  split at hx'
  ·rename_i hc
   refine ⟨hc.1, by simp only [St.add]; exact hc.2, .inl (hρ1 _ _ hx').2⟩
  ·rw [hx] at hx'; cases hx'
 ·intro id o hid
  rcases hcase id o hid with q | ⟨i, ob, q1, rfl, rfl⟩
  ·exact .inl ⟨o, q⟩
  ·right
   obtain ⟨x, k1, _⟩ := hid1 i ob q1
   have := (hρ1 i x k1).1
   exact ⟨by omega, by simp only [St.add]; omega⟩
theorem entryOf_some {r : Option Rs} {ids : List Nat} {E : Ent} (h : entryOf r ids = some E) : ∃ S1, r = some (.ret E.v S1) ∧ E.n = S1.next ∧ ∀ i ob, (i, ob) ∈ E.objs → S1.h.find i = some ob ∧ ob.simple = true := by
 unfold entryOf at h
 split at h
 ·rename_i v S
  cases h
  refine ⟨S, rfl, rfl, fun i ob hi => ?_⟩
  obtain ⟨j, _, hj⟩ := List.mem_filterMap.1 hi
  split at hj
  ·rename_i ob' hf
   split at hj
   ·rename_i hs
    cases hj
    exact ⟨hf, hs⟩
   ·cases hj
  ·cases hj
 ·cases h
theorem addObs_le (S : St) (n : Nat) (objs : List (Nat × Ob)) (hn : ∀ i ob, (i, ob) ∈ objs → i < n) : StLe S (S.add n objs) := by
 refine ⟨by simp [St.add], fun id o hid => ?_⟩
 rcases addObs_find S.next objs S.h id o hid with q | ⟨i, ob, q1, rfl, rfl⟩
 ·exact .inl ⟨o, q⟩
 ·have := hn i ob q1
  exact .inr ⟨by omega, by simp only [St.add]; omega⟩
theorem tab_call [Glob] (hG : Good P) (hT : TabOk P) {f : FuncId} {E : Ent} (he : Glob.tab f = some E) : (∀ i ob, (i, ob) ∈ E.objs → i < E.n) ∧
 ∀ base w₀ σ S w, Rel none2 base w₀ σ S w → Free σ S.next (S.next + E.n) →
  Calls P f #[] w fun e w' => ∃ y σ', e = .returned y ∧ VR σ' (E.v.up S.next) y ∧ Rel none2 base w₀ σ' (S.add E.n E.objs) w' ∧ Stp σ S w σ' (S.add E.n E.objs) w' := by
 obtain ⟨n, ids, h1⟩ := hT f E he
 obtain ⟨S1, h2, h3, h4⟩ := entryOf_some h1
 have hle := (run_ok hG n).le _ _ _ h2
 refine ⟨fun i ob hi => ?_, fun base w₀ σ S w q1 q2 => ?_⟩
 ·rcases hle.dom i ob (h4 i ob hi).1 with ⟨o', k⟩ | ⟨_, k⟩
  ·simp only [S0, Tr.find_leaf] at k; cases k
  ·rw [h3]; exact k
 ·have := ((run_ok hG n).call f [] S0 _ h2).1 _ _ rfl w.heap.size w (Sg.vars w) w [] (rel_start w (VarsOk.of q1)) (fun _ _ _ => rfl) .nil
  refine Calls.mono this fun e w' => ?_
  rintro ⟨y, σ1, rfl, k1, k2, k3⟩
  rw [h3] at q2 ⊢
  obtain ⟨σ', r1, r2, r3⟩ := reloc q1 k2 k3 k1 h4 q2
  exact ⟨y, σ', rfl, r1, r2, r3⟩
theorem orcT_inv [Glob] {t : Task} {S : St} {r : Rs} (h : orcT t S = some r) : ∃ f E, t = .call f [] ∧ Glob.tab f = some E ∧ r = .ret (E.v.up S.next) (S.add E.n E.objs) := by
 unfold orcT at h
 split at h
 ·split at h
  ·cases h; exact ⟨_, _, rfl, by assumption, rfl⟩
  ·cases h
 ·cases h
theorem orcT_ok [Glob] (hG : Good P) (hT : TabOk P) : RecOk P orcT where
 le := fun t S r h => by
  obtain ⟨f, E, rfl, h1, rfl⟩ := orcT_inv h
  exact addObs_le S E.n E.objs (tab_call hG hT h1).1
 call := fun g l S r h => by
  obtain ⟨f, E, ht, h1, rfl⟩ := orcT_inv h
  cases ht
  refine ⟨fun v S' e base w₀ σ w vs hr hf hv => ?_, fun v S' e => by cases e⟩
  cases e
  cases hv
  exact (tab_call hG hT h1).2 base w₀ σ S w hr hf
 code := fun c fr S r h => by
  obtain ⟨f, E, ht, _⟩ := orcT_inv h
  cases ht
 dcall := fun g l p S r h => by
  obtain ⟨f, E, ht, _⟩ := orcT_inv h
  cases ht
theorem runT_ok [Glob] (hG : Good P) (hT : TabOk P) : ∀ n, RecOk P (runT P n)
 | 0 => orcT_ok hG hT
 | n + 1 => by
  have h1 := orcT_ok hG hT
  have h2 := runT_ok hG hT n
  have hs : ∀ t S r, runT P (n + 1) t S = some r → orcT t S = some r ∨ stepT P (runT P n) t S = some r := by
   intro t S r h
   simp only [runT] at h
   split at h
   ·rename_i q ho; cases h; exact .inl ho
   ·exact .inr h
  exact ⟨fun t S r h => (hs t S r h).elim (h1.le t S r) (stepT_le h2.le t S r), fun g l S r h => (hs _ S r h).elim (h1.call g l S r) (call_ok hG h2 g l S r),
   fun c fr S r h => (hs _ S r h).elim (h1.code c fr S r) (code_ok hG h2 c fr S r), fun g l p S r h => (hs _ S r h).elim (h1.dcall g l p S r) (dcall_ok h2 g l p S r)⟩
end
end Go.Ev
