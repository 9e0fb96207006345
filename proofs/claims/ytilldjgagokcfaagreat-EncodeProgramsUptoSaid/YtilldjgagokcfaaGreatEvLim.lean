/-
  Ev, part 21: the limit of the runs, which is a fixed point of one step.
-/
import Derived.Test.YtilldjgagokcfaaGreatEvMain
set_option linter.unusedVariables false
set_option linter.unusedSimpArgs false
namespace Go.Ev
open Go.RowKit

/-- From some number on this is the answer. -/
def Conv {α : Type} (X : Nat → Option α) (r : α) : Prop := ∃ n, ∀ m, n ≤ m → X m = some r

theorem Conv.of_eq {α : Type} {X : Nat → Option α} {r : α} (h : ∀ n, X n = some r) : Conv X r := ⟨0, fun m _ => h m⟩

section
variable {P : Program} {L : Rec} {R : Nat → Rec}

theorem conv_act (hL : ∀ t S r, L t S = some r → Conv (fun n => R n t S) r) {op : Op} {ev : Operand → Option V} {pan : Pan} {S : St} {a : Ac} (h : actE L P op ev pan S = some a) :
    Conv (fun n => actE (R n) P op ev pan S) a := by
  by_cases hc : ∃ f args ats, op = .call { callee := .value f, args, argTypes := ats }
  · obtain ⟨f, args, ats, rfl⟩ := hc
    simp only [actE] at h ⊢
    cases h1 : calleeE ev f args with
    | none => rw [h1] at h; cases h
    | some gl =>
      obtain ⟨g, l⟩ := gl
      rw [h1] at h
      simp only at h ⊢
      cases h2 : P.funcs[g]? with
      | none => rw [h2] at h; cases h
      | some fn =>
        rw [h2] at h
        simp only at h ⊢
        cases h3 : fn.body with
        | none =>
          rw [h3] at h
          exact .of_eq fun _ => h
        | some b =>
          rw [h3] at h
          simp only at h ⊢
          cases h4 : L (.call g l) S with
          | none => rw [h4] at h; cases h
          | some r =>
            obtain ⟨n, hn⟩ := hL _ _ _ h4
            rw [h4] at h
            exact ⟨n, fun m hm => by show (match R m (.call g l) S with | some (.ret v S') => some (Ac.val v S') | some (.pan v S') => some (Ac.pan v S') | _ => none) = some a; rw [show R m (.call g l) S = some r from hn m hm]; exact h⟩
  · have : ∀ Q, actE Q P op ev pan S = actE L P op ev pan S := by
      intro Q
      cases op with
      | call c =>
        obtain ⟨callee, args, ats⟩ := c
        cases callee with
        | value f => exact absurd ⟨_, _, _, rfl⟩ hc
        | builtin b => cases b <;> rfl
        | _ => rfl
      | defer c =>
        obtain ⟨callee, args, ats⟩ := c
        cases callee <;> rfl
      | _ => rfl
    exact .of_eq fun n => by rw [this]; exact h

theorem conv_one (hL : ∀ t S r, L t S = some r → Conv (fun n => R n t S) r) {ops : Array Oper} {o : Oper} {fr : Fr} {S : St} {r : Rs} (h : oneE L P ops o fr S = some r) :
    Conv (fun n => oneE (R n) P ops o fr S) r := by
  simp only [oneE] at h ⊢
  cases h1 : wantE ops o fr with
  | none => rw [h1] at h; cases h
  | some b =>
    rw [h1] at h
    cases b with
    | false => exact .of_eq fun _ => h
    | true =>
      simp only at h ⊢
      cases h2 : actE L P o.op fr.opd fr.pan S with
      | none => rw [h2] at h; cases h
      | some a =>
        obtain ⟨n, hn⟩ := conv_act hL h2
        rw [h2] at h
        exact ⟨n, fun m hm => by simp only [hn m hm]; exact h⟩

theorem conv_seq (hL : ∀ t S r, L t S = some r → Conv (fun n => R n t S) r) {ops : Array Oper} : ∀ {l : List Nat} {fr : Fr} {S : St} {r : Rs}, seqE L P ops l fr S = some r →
    Conv (fun n => seqE (R n) P ops l fr S) r
  | [], fr, S, r, h => .of_eq fun _ => h
  | i :: l, fr, S, r, h => by
    simp only [seqE] at h ⊢
    cases h1 : ops[i]? with
    | none => rw [h1] at h; cases h
    | some o =>
      rw [h1] at h
      simp only at h ⊢
      cases h2 : oneE L P ops o fr S with
      | none => rw [h2] at h; cases h
      | some q =>
        obtain ⟨n, hn⟩ := conv_one hL h2
        rw [h2] at h
        by_cases hq : ∃ fr' S', q = .code .normal fr' S'
        · obtain ⟨fr', S', rfl⟩ := hq
          obtain ⟨k, hk⟩ := conv_seq hL (l := l) (fr := fr') (S := S') (r := r) h
          exact ⟨max n k, fun m hm => by simp only [hn m (by omega)]; exact hk m (by omega)⟩
        · refine ⟨n, fun m hm => ?_⟩
          simp only [hn m hm]
          split at h
          · rename_i fr' S' he
            cases he
            exact absurd ⟨_, _, rfl⟩ hq
          · exact h

theorem conv_draw (hL : ∀ t S r, L t S = some r → Conv (fun n => R n t S) r) {ops : Array Oper} {ms : List Nat} {S0 : St} : ∀ {l : List Nat} {T : List En} {fr : Fr} {S : St} {r : Rs}, drawE L P ops ms S0 l T fr S = some r →
    Conv (fun n => drawE (R n) P ops ms S0 l T fr S) r
  | [], T, fr, S, r, h => .of_eq fun _ => h
  | i :: l, T, fr, S, r, h => by
    simp only [drawE] at h ⊢
    cases h1 : ops[i]? with
    | none => rw [h1] at h; cases h
    | some o =>
      rw [h1] at h
      simp only at h ⊢
      split at h
      · rename_i hc
        simp only [hc, if_true]
        cases h2 : actE L P o.op (viewE fr (looks ops o)) fr.pan S with
        | none => rw [h2] at h; cases h
        | some a =>
          obtain ⟨n, hn⟩ := conv_act hL h2
          rw [h2] at h
          cases a with
          | val v S' =>
            simp only at h
            cases h3 : fr.put o.dst v with
            | none => rw [h3] at h; cases h
            | some fr' =>
              rw [h3] at h
              obtain ⟨k, hk⟩ := conv_draw hL h
              exact ⟨max n k, fun m hm => by simp only [hn m (by omega), h3]; exact hk m (by omega)⟩
          | pan v S' => exact ⟨n, fun m hm => by simp only [hn m (by omega)]; exact h⟩
          | dfr d => cases h
          | rcv p v => cases h
      · rename_i hc
        simp only [hc, Bool.false_eq_true, if_false]
        cases h2 : mildE P ops ms S0 i o T fr S with
        | none => rw [h2] at h; cases h
        | some q =>
          obtain ⟨v, ob⟩ := q
          rw [h2] at h
          simp only at h ⊢
          cases h3 : fr.put o.dst v with
          | none => rw [h3] at h; cases h
          | some fr' =>
            rw [h3] at h
            exact conv_draw hL h

theorem conv_region (hL : ∀ t S r, L t S = some r → Conv (fun n => R n t S) r) {ops : Array Oper} {d : Bool} {fr : Fr} {S : St} {r : Rs} (h : regionE L P ops d fr S = some r) :
    Conv (fun n => regionE (R n) P ops d fr S) r := by
  cases d with
  | false => exact conv_seq hL h
  | true =>
    simp only [regionE] at h ⊢
    split at h
    · rename_i hc; simp only [hc, if_true]; exact conv_draw hL h
    · cases h

theorem conv_leave (hL : ∀ t S r, L t S = some r → Conv (fun n => R n t S) r) {fn : Func} {fr : Fr} : ∀ {ds : List (FuncId × List V)} {p : Option V} {S : St} {r : Rs}, leaveE L P fn fr ds p S = some r →
    Conv (fun n => leaveE (R n) P fn fr ds p S) r
  | [], none, S, r, h => .of_eq fun _ => h
  | [], some v, S, r, h => .of_eq fun _ => h
  | (g, l) :: ds, p, S, r, h => by
    have key : ∀ pn : Pan, (match L (.dcall g l pn) S with
        | some (.dret .quiet S') => leaveE L P fn fr ds none S'
        | some (.dret (.live v) S') => leaveE L P fn fr ds (some v) S'
        | some (.dret (.done _) S') => leaveE L P fn fr ds none S'
        | _ => none) = some r → Conv (fun n => match R n (.dcall g l pn) S with
        | some (.dret .quiet S') => leaveE (R n) P fn fr ds none S'
        | some (.dret (.live v) S') => leaveE (R n) P fn fr ds (some v) S'
        | some (.dret (.done _) S') => leaveE (R n) P fn fr ds none S'
        | _ => none) r := by
      intro pn h
      cases h2 : L (.dcall g l pn) S with
      | none => rw [h2] at h; cases h
      | some q =>
        obtain ⟨n, hn⟩ := hL _ _ _ h2
        rw [h2] at h
        cases q with
        | dret p' S' =>
          cases p' with
          | norm => cases h
          | quiet =>
            obtain ⟨k, hk⟩ := conv_leave hL h
            exact ⟨max n k, fun m hm => by simp only [hn m (by omega)]; exact hk m (by omega)⟩
          | live v =>
            obtain ⟨k, hk⟩ := conv_leave hL h
            exact ⟨max n k, fun m hm => by simp only [hn m (by omega)]; exact hk m (by omega)⟩
          | done v =>
            obtain ⟨k, hk⟩ := conv_leave hL h
            exact ⟨max n k, fun m hm => by simp only [hn m (by omega)]; exact hk m (by omega)⟩
        | _ => cases h
    cases p with
    | none => exact key _ h
    | some v => exact key _ h

theorem conv_step (hL : ∀ t S r, L t S = some r → Conv (fun n => R n t S) r) {t : Task} {S : St} {r : Rs} (h : stepT P L t S = some r) : Conv (fun n => stepT P (R n) t S) r := by
  cases t with
  | call f args =>
    simp only [stepT] at h ⊢
    cases h1 : P.funcs[f]? with
    | none => rw [h1] at h; cases h
    | some fn =>
      rw [h1] at h
      simp only at h ⊢
      cases h2 : fn.body with
      | none => rw [h2] at h; cases h
      | some c =>
        rw [h2] at h
        simp only at h ⊢
        cases h3 : L (.code c (startFr fn args .norm)) S with
        | none => rw [h3] at h; cases h
        | some q =>
          obtain ⟨n, hn⟩ := hL _ _ _ h3
          rw [h3] at h
          cases q with
          | code x fr S' =>
            cases x with
            | exit m => cases h
            | _ =>
              obtain ⟨k, hk⟩ := conv_leave hL h
              exact ⟨max n k, fun m hm => by simp only [hn m (by omega)]; exact hk m (by omega)⟩
          | _ => cases h
  | dcall f args p =>
    simp only [stepT] at h ⊢
    cases h1 : P.funcs[f]? with
    | none => rw [h1] at h; cases h
    | some fn =>
      rw [h1] at h
      simp only at h ⊢
      cases h2 : fn.body with
      | none => rw [h2] at h; cases h
      | some c =>
        rw [h2] at h
        simp only at h ⊢
        cases h3 : L (.code c (startFr fn args p)) S with
        | none => rw [h3] at h; cases h
        | some q =>
          obtain ⟨n, hn⟩ := hL _ _ _ h3
          rw [h3] at h
          exact ⟨n, fun m hm => by simp only [hn m hm]; exact h⟩
  | code c fr =>
    cases c with
    | region i ops d => exact conv_region hL h
    | seq a b =>
      simp only [stepT] at h ⊢
      cases h3 : L (.code a fr) S with
      | none => rw [h3] at h; cases h
      | some q =>
        obtain ⟨n, hn⟩ := hL _ _ _ h3
        rw [h3] at h
        by_cases hq : ∃ fr' S', q = .code .normal fr' S'
        · obtain ⟨fr', S', rfl⟩ := hq
          obtain ⟨k, hk⟩ := hL _ _ _ h
          exact ⟨max n k, fun m hm => by simp only [hn m (by omega)]; exact hk m (by omega)⟩
        · refine ⟨n, fun m hm => ?_⟩
          simp only [hn m hm]
          split at h
          · rename_i fr' S' he
            cases he
            exact absurd ⟨_, _, rfl⟩ hq
          · exact h
    | cond x a b =>
      simp only [stepT] at h ⊢
      split at h
      · exact hL _ _ _ h
      · exact hL _ _ _ h
      · cases h
    | block k b =>
      simp only [stepT] at h ⊢
      cases h3 : L (.code b fr) S with
      | none => rw [h3] at h; cases h
      | some q =>
        obtain ⟨n, hn⟩ := hL _ _ _ h3
        rw [h3] at h
        exact ⟨n, fun m hm => by simp only [hn m hm]; exact h⟩
    | loop b =>
      simp only [stepT] at h ⊢
      cases h3 : L (.code b fr) S with
      | none => rw [h3] at h; cases h
      | some q =>
        obtain ⟨n, hn⟩ := hL _ _ _ h3
        rw [h3] at h
        by_cases hq : ∃ fr' S', q = .code .normal fr' S'
        · obtain ⟨fr', S', rfl⟩ := hq
          obtain ⟨k, hk⟩ := hL _ _ _ h
          exact ⟨max n k, fun m hm => by simp only [hn m (by omega)]; exact hk m (by omega)⟩
        · refine ⟨n, fun m hm => ?_⟩
          simp only [hn m hm]
          split at h
          · rename_i fr' S' he
            cases he
            exact absurd ⟨_, _, rfl⟩ hq
          · exact h
    | _ => exact .of_eq fun _ => h

end

theorem run_mono (P : Program) : ∀ n {t : Task} {S : St} {r : Rs}, run P n t S = some r → run P (n + 1) t S = some r
  | 0, _, _, _, h => by cases h
  | n + 1, t, S, r, h => by
    obtain ⟨k, hk⟩ := conv_step (P := P) (L := run P n) (R := fun _ => run P (n + 1)) (fun t S r h => .of_eq fun _ => run_mono P n h) h
    exact hk k (Nat.le_refl _)

theorem run_le (P : Program) {n m : Nat} (hm : n ≤ m) {t : Task} {S : St} {r : Rs} (h : run P n t S = some r) : run P m t S = some r := by
  induction hm with
  | refl => exact h
  | step _ ih => exact run_mono P _ ih

/-- A call without arguments that comes to true, wherever it is made. -/
def ClosedT (P : Program) (f : FuncId) : Prop := ∃ n S', run P n (.call f []) S0 = some (.ret (.bool true) S')

open Classical in
/-- Such a call's answer, told of any state. -/
noncomputable def orc (P : Program) : Rec := fun t S => match t with
  | .call f [] => if ClosedT P f then some (.ret (.bool true) S) else none
  | _ => none

theorem orc_inv {P : Program} {t : Task} {S : St} {r : Rs} (h : orc P t S = some r) : ∃ f, t = .call f [] ∧ ClosedT P f ∧ r = .ret (.bool true) S := by
  unfold orc at h
  split at h
  · split at h
    · cases h; exact ⟨_, rfl, by assumption, rfl⟩
    · cases h
  · cases h

noncomputable def runO (P : Program) : Nat → Rec
  | 0 => orc P
  | n + 1 => fun t S => match orc P t S with
    | some r => some r
    | none => stepT P (runO P n) t S

theorem runO_orc {P : Program} {t : Task} {S : St} {r : Rs} (h : orc P t S = some r) : ∀ n, runO P n t S = some r
  | 0 => h
  | n + 1 => by simp only [runO, h]

theorem runO_mono (P : Program) : ∀ n {t : Task} {S : St} {r : Rs}, runO P n t S = some r → runO P (n + 1) t S = some r
  | 0, t, S, r, h => runO_orc h 1
  | n + 1, t, S, r, h => by
    cases ho : orc P t S with
    | some q =>
      rw [runO_orc ho] at h ⊢
      exact h
    | none =>
      simp only [runO, ho] at h ⊢
      obtain ⟨k, hk⟩ := conv_step (P := P) (L := runO P n) (R := fun _ => runO P (n + 1)) (fun t S r h => .of_eq fun _ => runO_mono P n h) h
      exact hk k (Nat.le_refl _)

theorem runO_le (P : Program) {n m : Nat} (hm : n ≤ m) {t : Task} {S : St} {r : Rs} (h : runO P n t S = some r) : runO P m t S = some r := by
  induction hm with
  | refl => exact h
  | step _ ih => exact runO_mono P _ ih

open Classical in
/-- What the runs come to, with rounds enough. -/
noncomputable def lim (P : Program) : Rec := fun t S => if h : ∃ r, ∃ n, runO P n t S = some r then some (Classical.choose h) else none

theorem lim_iff {P : Program} {t : Task} {S : St} {r : Rs} : lim P t S = some r ↔ ∃ n, runO P n t S = some r := by
  unfold lim
  constructor
  · intro h
    split at h
    · rename_i hx
      cases h
      exact Classical.choose_spec hx
    · cases h
  · rintro ⟨n, hn⟩
    have hx : ∃ r, ∃ n, runO P n t S = some r := ⟨r, n, hn⟩
    rw [dif_pos hx]
    obtain ⟨m, hm⟩ := Classical.choose_spec hx
    have h1 := runO_le P (Nat.le_max_left n m) hn
    have h2 := runO_le P (Nat.le_max_right n m) hm
    rw [h1] at h2
    rw [← h2]

theorem lim_conv {P : Program} {t : Task} {S : St} {r : Rs} (h : lim P t S = some r) : Conv (fun n => runO P n t S) r := by
  obtain ⟨n, hn⟩ := lim_iff.1 h
  exact ⟨n, fun m hm => runO_le P hm hn⟩

/-- A step. -/
theorem lim_of_step {P : Program} {t : Task} {S : St} {r : Rs} (h : stepT P (lim P) t S = some r) (ho : orc P t S = none := by rfl) : lim P t S = some r := by
  obtain ⟨n, hn⟩ := conv_step (fun _ _ _ h => lim_conv h) h
  refine lim_iff.2 ⟨n + 1, ?_⟩
  simp only [runO, ho]
  exact hn n (Nat.le_refl _)

theorem lim_closed {P : Program} {f : FuncId} (h : ClosedT P f) (S : St) : lim P (.call f []) S = some (.ret (.bool true) S) := by
  refine lim_iff.2 ⟨0, ?_⟩
  simp only [runO, orc]
  rw [if_pos h]

theorem orc_ok {P : Program} (hG : Good P) : RecOk P (orc P) where
  le := fun t S r h => by
    obtain ⟨f, rfl, _, rfl⟩ := orc_inv h
    exact StLe.refl S
  call := fun g l S r h => by
    obtain ⟨f, ht, ⟨n, S1, hc⟩, rfl⟩ := orc_inv h
    cases ht
    refine ⟨fun v S' e base w₀ σ w vs hr hf hv => ?_, fun v S' e => by cases e⟩
    cases e
    cases hv
    refine (closed hG hc w).mono fun e w' => ?_
    rintro ⟨rfl, hb⟩
    have hbase : base ≤ w.heap.size := hr.hb
    refine ⟨.bool true, σ, rfl, .bool true, ⟨hr.below.trans (hb.mono hbase), Nat.le_trans hbase hb.size, fun b o v hi hn => ?_, fun b o v hi => Nat.lt_of_lt_of_le (hr.cur b o v hi) hb.size, fun b t ht => ?_, fun id o ho => ?_, hr.inj⟩,
      ⟨.refl σ, Nat.le_refl _, hb.size, fun b hlt _ _ => hb.block b hlt, fun _ _ _ _ => rfl, (fun id x h k => by rw [h] at k; cases k), fun _ o h => Or.inl ⟨o, h⟩⟩⟩
    · rw [hb.cell (hr.cur b o v hi)]; exact hr.imm b o v hi hn
    · obtain ⟨c, fr, h1, h2⟩ := hr.ty b t ht
      exact ⟨c, fr, by rw [hb.block b (heap_lt h1)]; exact h1, h2⟩
    · exact (hr.ob id o ho).keep (.refl σ) fun x hx => ⟨hb.block x.1 (by
        obtain ⟨y, h1, _, h3⟩ := (hr.ob id o ho).key
        rw [h1] at hx; cases hx; exact h3), fun _ h => h⟩
  code := fun c fr S r h => by
    obtain ⟨f, ht, _⟩ := orc_inv h
    cases ht
  dcall := fun g l p S r h => by
    obtain ⟨f, ht, _⟩ := orc_inv h
    cases ht

theorem runO_ok {P : Program} (hG : Good P) : ∀ n, RecOk P (runO P n)
  | 0 => orc_ok hG
  | n + 1 => by
    have h1 := orc_ok hG
    have h2 := runO_ok hG n
    have hs : ∀ t S r, runO P (n + 1) t S = some r → orc P t S = some r ∨ stepT P (runO P n) t S = some r := by
      intro t S r h
      cases ho : orc P t S with
      | some q => rw [runO_orc ho] at h; exact .inl h
      | none => simp only [runO, ho] at h; exact .inr h
    exact ⟨fun t S r h => (hs t S r h).elim (h1.le t S r) (stepT_le h2.le t S r), fun g l S r h => (hs _ S r h).elim (h1.call g l S r) (call_ok hG h2 g l S r),
      fun c fr S r h => (hs _ S r h).elim (h1.code c fr S r) (code_ok hG h2 c fr S r), fun g l p S r h => (hs _ S r h).elim (h1.dcall g l p S r) (dcall_ok h2 g l p S r)⟩

theorem lim_ok {P : Program} (hG : Good P) : RecOk P (lim P) where
  le := fun t S r h => by
    obtain ⟨n, hn⟩ := lim_iff.1 h
    exact (runO_ok hG n).le t S r hn
  call := fun g l S r h => by
    obtain ⟨n, hn⟩ := lim_iff.1 h
    exact (runO_ok hG n).call g l S r hn
  code := fun c fr S r h => by
    obtain ⟨n, hn⟩ := lim_iff.1 h
    exact (runO_ok hG n).code c fr S r hn
  dcall := fun g l p S r h => by
    obtain ⟨n, hn⟩ := lim_iff.1 h
    exact (runO_ok hG n).dcall g l p S r hn

end Go.Ev
