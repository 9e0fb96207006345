import Derived.Test.YtodiioeddlmjhaaGreatDoorE7
import Derived.Test.YtodiioeddlmjhaaGreatDoorE6
set_option linter.unusedVariables false
set_option linter.unusedSimpArgs false
namespace Go.Ev
open Go.RowKit
def Conv {α : Type} (X : Nat → Option α) (r : α) : Prop := ∃ n, ∀ m, n ≤ m → X m = some r
theorem Conv.of_eq {α : Type} {X : Nat → Option α} {r : α} (h : ∀ n, X n = some r) : Conv X r := ⟨0, fun m _ => h m⟩
section
variable {P : Program} {L : Rec} {R : Nat → Rec}
theorem conv_round (hL : ∀ t S r, L t S = some r → Conv (fun n => R n t S) r) {id : Nat} {l : List V} {S : St} {q : V × St} (h : roundE L id l S = some q) : Conv (fun n => roundE (R n) id l S) q := by
 unfold roundE at h
 split at h
 ·cases h
 ·rename_i r hid
  split at h
  ·cases h
  ·rename_i t hput
   cases h1 : L (.code r.2.2.2.2.2.1 { t := t, n := r.2.2.2.1, ds := [], pan := .rnd }) S with
   | none => rw [h1] at h; cases h
   | some q1 =>
    obtain ⟨n, hn⟩ := hL _ _ _ h1
    rw [h1] at h
    split at h
    ·rename_i fr1 S1 he
     cases he
     split at h
     ·cases h
     ·rename_i r1 hid1
      split at h
      ·rename_i hrdy
       cases h2 : L (.code r.2.2.2.2.2.2 fr1) (setLoop S1 id .busy r1.2.1 r1) with
       | none => rw [h2] at h; cases h
       | some q2 =>
        obtain ⟨k, hk⟩ := hL _ _ _ h2
        rw [h2] at h
        exact ⟨max n k, fun m hm => by simp only [roundE, hid, hput, hn m (by omega), hid1, hrdy, if_true, hk m (by omega)]; exact h⟩
      ·cases h
    ·cases h
theorem conv_act (hL : ∀ t S r, L t S = some r → Conv (fun n => R n t S) r) {op : Op} {ev : Operand → Option V} {pan : Pan} {S : St} {a : Ac} (h : actE L P op ev pan S = some a) :
 Conv (fun n => actE (R n) P op ev pan S) a := by
 by_cases hc : ∃ f args ats, op = .call { callee := .value f, args, argTypes := ats }
 ·obtain ⟨f, args, ats, rfl⟩ := hc
  simp only [actE] at h ⊢
  cases hy : isYld (ev f) with
  | some id =>
   rw [hy] at h
   simp only at h ⊢
   cases h1 : mapO ev args.toList with
   | none => rw [h1] at h; cases h
   | some l =>
    rw [h1] at h
    simp only at h ⊢
    cases h2 : roundE L id l S with
    | none => rw [h2] at h; cases h
    | some q =>
     obtain ⟨n, hn⟩ := conv_round hL h2
     rw [h2] at h
     exact ⟨n, fun m hm => by simp only [hn m hm]; exact h⟩
  | none =>
  rw [hy] at h
  simp only at h ⊢
  cases h1 : calleeE ev f args with
  | none => rw [h1] at h; cases h
  | some gl =>
   obtain ⟨g, l⟩ := gl
   rw [h1] at h
   simp only at h ⊢
   cases h2 : P.funcs[g]? with
   | none => rw [h2] at h; cases h
   | some fn =>
    rw [h2] at h
    simp only at h ⊢
    cases h3 : fn.body with
    | none =>
     rw [h3] at h
     exact .of_eq fun _ => h
    | some b =>
     rw [h3] at h
     simp only at h ⊢
     cases h4 : L (.call g l) S with
     | none => rw [h4] at h; cases h
     | some r =>
      obtain ⟨n, hn⟩ := hL _ _ _ h4
      rw [h4] at h
      exact ⟨n, fun m hm => by show (match R m (.call g l) S with | some (.ret v S') => some (Ac.val v S') | some (.pan v S') => some (Ac.pan v S') | _ => none) = some a; rw [show R m (.call g l) S = some r from hn m hm]; exact h⟩
 ·have : ∀ Q, actE Q P op ev pan S = actE L P op ev pan S := by
   intro Q
   cases op with
   | call c =>
    obtain ⟨callee, args, ats⟩ := c
    cases callee with
    | value f => exact absurd ⟨_, _, _, rfl⟩ hc
    | builtin b => cases b <;> rfl
    | _ => rfl
   | defer c =>
    obtain ⟨callee, args, ats⟩ := c
    cases callee <;> rfl
   | _ => rfl
  exact .of_eq fun n => by rw [this]; exact h
theorem conv_one [Glob] (hL : ∀ t S r, L t S = some r → Conv (fun n => R n t S) r) {ops : Array Oper} {o : Oper} {fr : Fr} {S : St} {r : Rs} (h : oneE L P ops o fr S = some r) :
 Conv (fun n => oneE (R n) P ops o fr S) r := by
 simp only [oneE] at h ⊢
 cases h1 : wantE ops o fr with
 | none => rw [h1] at h; cases h
 | some b =>
  rw [h1] at h
  cases b with
  | false => exact .of_eq fun _ => h
  | true =>
   simp only at h ⊢
   cases h2 : actE L P o.op fr.opd fr.pan S with
   | none => rw [h2] at h; cases h
   | some a =>
    obtain ⟨n, hn⟩ := conv_act hL h2
    rw [h2] at h
    exact ⟨n, fun m hm => by simp only [hn m hm]; exact h⟩
theorem conv_seq [Glob] (hL : ∀ t S r, L t S = some r → Conv (fun n => R n t S) r) {ops : Array Oper} : ∀ {l : List Nat} {fr : Fr} {S : St} {r : Rs}, seqE L P ops l fr S = some r →
 Conv (fun n => seqE (R n) P ops l fr S) r
 | [], fr, S, r, h => .of_eq fun _ => h
 | i :: l, fr, S, r, h => by
  simp only [seqE] at h ⊢
  cases h1 : ops[i]? with
  | none => rw [h1] at h; cases h
  | some o =>
   rw [h1] at h
   simp only at h ⊢
   cases h2 : oneE L P ops o fr S with
   | none => rw [h2] at h; cases h
   | some q =>
    obtain ⟨n, hn⟩ := conv_one hL h2
    rw [h2] at h
    by_cases hq : ∃ fr' S', q = .code .normal fr' S'
    ·obtain ⟨fr', S', rfl⟩ := hq
     obtain ⟨k, hk⟩ := conv_seq hL (l := l) (fr := fr') (S := S') (r := r) h
     exact ⟨max n k, fun m hm => by simp only [hn m (by omega)]; exact hk m (by omega)⟩
    ·refine ⟨n, fun m hm => ?_⟩
     simp only [hn m hm]
     split at h
     ·rename_i fr' S' he
      cases he
      exact absurd ⟨_, _, rfl⟩ hq
     ·exact h
theorem conv_draw [Glob] (hL : ∀ t S r, L t S = some r → Conv (fun n => R n t S) r) {ops : Array Oper} {ms : List Nat} {S0 : St} : ∀ {l : List Nat} {T : List En} {fr : Fr} {S : St} {r : Rs}, drawE L P ops ms S0 l T fr S = some r →
 Conv (fun n => drawE (R n) P ops ms S0 l T fr S) r
 | [], T, fr, S, r, h => .of_eq fun _ => h
 | i :: l, T, fr, S, r, h => by
  simp only [drawE] at h ⊢
  cases h1 : ops[i]? with
  | none => rw [h1] at h; cases h
  | some o =>
   rw [h1] at h
   simp only at h ⊢
   split at h
   ·rename_i hc
    simp only [hc, if_true]
    cases h2 : actE L P o.op (viewE fr (looks ops o)) fr.pan S with
    | none => rw [h2] at h; cases h
    | some a =>
     obtain ⟨n, hn⟩ := conv_act hL h2
     rw [h2] at h
     cases a with
     | val v S' =>
      simp only at h
      cases h3 : fr.put o.dst v with
      | none => rw [h3] at h; cases h
      | some fr' =>
       rw [h3] at h
       obtain ⟨k, hk⟩ := conv_draw hL h
       exact ⟨max n k, fun m hm => by simp only [hn m (by omega), h3]; exact hk m (by omega)⟩
     | pan v S' => exact ⟨n, fun m hm => by simp only [hn m (by omega)]; exact h⟩
     | dfr d => cases h
     | rcv p v => cases h
   ·rename_i hc
    simp only [hc, Bool.false_eq_true, if_false]
    cases h2 : mildE P ops ms S0 i o T fr S with
    | none => rw [h2] at h; cases h
    | some q =>
     obtain ⟨v, ob⟩ := q
     rw [h2] at h
     simp only at h ⊢
     cases h3 : fr.put o.dst v with
     | none => rw [h3] at h; cases h
     | some fr' =>
      rw [h3] at h
      exact conv_draw hL h
theorem conv_region [Glob] (hL : ∀ t S r, L t S = some r → Conv (fun n => R n t S) r) {ops : Array Oper} {d : Bool} {fr : Fr} {S : St} {r : Rs} (h : regionE L P ops d fr S = some r) :
 Conv (fun n => regionE (R n) P ops d fr S) r := by
 cases d with
 | false => exact conv_seq hL h
 | true =>
  simp only [regionE] at h ⊢
  split at h
  ·rename_i hc; simp only [hc, if_true]; exact conv_draw hL h
  ·cases h
theorem conv_leave (hL : ∀ t S r, L t S = some r → Conv (fun n => R n t S) r) {fn : Func} {fr : Fr} : ∀ {ds : List (FuncId × List V)} {p : Option V} {S : St} {r : Rs}, leaveE L P fn fr ds p S = some r →
 Conv (fun n => leaveE (R n) P fn fr ds p S) r
 | [], none, S, r, h => .of_eq fun _ => h
 | [], some v, S, r, h => .of_eq fun _ => h
 | (g, l) :: ds, p, S, r, h => by
  have key : ∀ pn : Pan, (match L (.dcall g l pn) S with
   | some (.dret .quiet S') => leaveE L P fn fr ds none S'
   | some (.dret (.live v) S') => leaveE L P fn fr ds (some v) S'
   | some (.dret (.done _) S') => leaveE L P fn fr ds none S'
   | _ => none) = some r → Conv (fun n => match R n (.dcall g l pn) S with
   | some (.dret .quiet S') => leaveE (R n) P fn fr ds none S'
   | some (.dret (.live v) S') => leaveE (R n) P fn fr ds (some v) S'
   | some (.dret (.done _) S') => leaveE (R n) P fn fr ds none S'
   | _ => none) r := by
   intro pn h
   cases h2 : L (.dcall g l pn) S with
   | none => rw [h2] at h; cases h
   | some q =>
    obtain ⟨n, hn⟩ := hL _ _ _ h2
    rw [h2] at h
    cases q with
    | dret p' S' =>
     cases p' with
     | norm => cases h
     | rnd => cases h
     | quiet =>
      obtain ⟨k, hk⟩ := conv_leave hL h
      exact ⟨max n k, fun m hm => by simp only [hn m (by omega)]; exact hk m (by omega)⟩
     | live v =>
      obtain ⟨k, hk⟩ := conv_leave hL h
      exact ⟨max n k, fun m hm => by simp only [hn m (by omega)]; exact hk m (by omega)⟩
     | done v =>
      obtain ⟨k, hk⟩ := conv_leave hL h
      exact ⟨max n k, fun m hm => by simp only [hn m (by omega)]; exact hk m (by omega)⟩
    | _ => cases h
  simp only [leaveE] at h ⊢
  cases hm : markOf l with
  | some m =>
   simp only [hm] at h ⊢
   split at h
   ·rename_i hid
    exact conv_leave hL h
   ·cases h
  | none =>
   simp only [hm] at h ⊢
   exact key _ h
theorem conv_scope (hL : ∀ t S r, L t S = some r → Conv (fun n => R n t S) r) {body : Code} : ∀ (N : Nat) {c : Code} {fr : Fr} {S : St} {r : Rs}, scopeE L body N c fr S = some r → Conv (fun n => scopeE (R n) body N c fr S) r
 | 0, _, _, _, _, h => by cases h
 | N + 1, c, fr, S, r, h => by
  simp only [scopeE] at h ⊢
  cases h1 : L (.code c fr) S with
  | none => rw [h1] at h; cases h
  | some q =>
   obtain ⟨n, hn⟩ := hL _ _ _ h1
   rw [h1] at h
   split at h
   ·rename_i l fr' S' he
    cases he
    cases hf : findLabel body l with
    | none =>
     rw [hf] at h
     exact ⟨n, fun m hm => by simp only [hn m hm, hf]; exact h⟩
    | some rest =>
     rw [hf] at h
     obtain ⟨k, hk⟩ := conv_scope hL N h
     exact ⟨max n k, fun m hm => by simp only [hn m (by omega), hf]; exact hk m (by omega)⟩
   ·rename_i hne
    cases h
    refine ⟨n, fun m hm => ?_⟩
    simp only [hn m hm]
theorem conv_step [Glob] (hL : ∀ t S r, L t S = some r → Conv (fun n => R n t S) r) {t : Task} {S : St} {r : Rs} (h : stepT P L t S = some r) : Conv (fun n => stepT P (R n) t S) r := by
 cases t with
 | call f args =>
  simp only [stepT] at h ⊢
  cases h1 : P.funcs[f]? with
  | none => rw [h1] at h; cases h
  | some fn =>
   rw [h1] at h
   simp only at h ⊢
   cases h2 : fn.body with
   | none => rw [h2] at h; cases h
   | some c =>
    rw [h2] at h
    simp only at h ⊢
    cases h3 : L (.code c (startFr fn args .norm)) S with
    | none => rw [h3] at h; cases h
    | some q =>
     obtain ⟨n, hn⟩ := hL _ _ _ h3
     rw [h3] at h
     cases q with
     | code x fr S' =>
      cases x with
      | exit m => cases h
      | goto m => cases h
      | _ =>
       obtain ⟨k, hk⟩ := conv_leave hL h
       exact ⟨max n k, fun m hm => by simp only [hn m (by omega)]; exact hk m (by omega)⟩
     | _ => cases h
 | dcall f args p =>
  simp only [stepT] at h ⊢
  cases h1 : P.funcs[f]? with
  | none => rw [h1] at h; cases h
  | some fn =>
   rw [h1] at h
   simp only at h ⊢
   cases h2 : fn.body with
   | none => rw [h2] at h; cases h
   | some c =>
    rw [h2] at h
    simp only at h ⊢
    cases h3 : L (.code c (startFr fn args p)) S with
    | none => rw [h3] at h; cases h
    | some q =>
     obtain ⟨n, hn⟩ := hL _ _ _ h3
     rw [h3] at h
     exact ⟨n, fun m hm => by simp only [hn m hm]; exact h⟩
 | code c fr =>
  cases c with
  | region i ops d => exact conv_region hL h
  | seq a b =>
   simp only [stepT] at h ⊢
   cases h3 : L (.code a fr) S with
   | none => rw [h3] at h; cases h
   | some q =>
    obtain ⟨n, hn⟩ := hL _ _ _ h3
    rw [h3] at h
    by_cases hq : ∃ fr' S', q = .code .normal fr' S'
    ·obtain ⟨fr', S', rfl⟩ := hq
     obtain ⟨k, hk⟩ := hL _ _ _ h
     exact ⟨max n k, fun m hm => by simp only [hn m (by omega)]; exact hk m (by omega)⟩
    ·refine ⟨n, fun m hm => ?_⟩
     simp only [hn m hm]
     split at h
     ·rename_i fr' S' he
      cases he
      exact absurd ⟨_, _, rfl⟩ hq
     ·exact h
  | cond x a b =>
   simp only [stepT] at h ⊢
   split at h
   ·exact hL _ _ _ h
   ·exact hL _ _ _ h
   ·cases h
  | block k b =>
   simp only [stepT] at h ⊢
   cases h3 : L (.code b fr) S with
   | none => rw [h3] at h; cases h
   | some q =>
    obtain ⟨n, hn⟩ := hL _ _ _ h3
    rw [h3] at h
    exact ⟨n, fun m hm => by simp only [hn m hm]; exact h⟩
  | loop b =>
   simp only [stepT] at h ⊢
   cases h3 : L (.code b fr) S with
   | none => rw [h3] at h; cases h
   | some q =>
    obtain ⟨n, hn⟩ := hL _ _ _ h3
    rw [h3] at h
    by_cases hq : ∃ fr' S', q = .code .normal fr' S'
    ·obtain ⟨fr', S', rfl⟩ := hq
     obtain ⟨k, hk⟩ := hL _ _ _ h
     exact ⟨max n k, fun m hm => by simp only [hn m (by omega)]; exact hk m (by omega)⟩
    ·refine ⟨n, fun m hm => ?_⟩
     simp only [hn m hm]
     split at h
     ·rename_i fr' S' he
      cases he
      exact absurd ⟨_, _, rfl⟩ hq
     ·exact h
  | rangeFunc f ps asg b =>
   simp only [stepT] at h ⊢
   unfold rangeFuncE at h
   split at h
   ·cases h
   ·rename_i g first caps hopd hpan
    split at h
    ·cases h
    ·rename_i fn hfn
     split at h
     ·cases h
     ·rename_i c hb
      have hpn : fr.pan ≠ .rnd := fun e => hpan e
      cases h1 : L (.call g (first ++ [.yld (S.next + 1)] ++ caps)) (St.new (S.new (.oth .dfr)) (.oth (.loop .ready none fr.t fr.n ps asg b))) with
      | none => simp only [h1] at h; cases h
      | some q =>
       obtain ⟨n, hn⟩ := hL _ _ _ h1
       simp only [h1] at h
       refine ⟨n, fun m hm => ?_⟩
       unfold rangeFuncE
       cases hq : fr.pan <;> first
        | exact (hpn hq).elim
        | (simp only [hopd, hfn, hb, hn m hm]; rw [hq] at h; exact h)
   ·cases h
  | scope b => exact conv_scope hL _ h
  | _ => exact .of_eq fun _ => h
end
def ClosedT [Glob] (P : Program) (f : FuncId) : Prop := ∃ n S', runT P n (.call f []) S0 = some (.ret (.bool true) S')
structure GoodT [Glob] (P : Program) : Prop where
 good : Good P
 tab : TabOk P
theorem closedR [Glob] {P : Program} (hG : GoodT P) {n : Nat} {f : FuncId} {v : Bool} {S' : St} (h : runT P n (.call f []) S0 = some (.ret (.bool v) S')) (w : World) (hv : VarsOk w) :
 Calls P f #[] w fun e w' => e = .returned (.bool v) ∧ Below w.heap.size w w' := by
 have := ((runT_ok hG.good hG.tab n).call f [] S0 _ h).1 _ _ rfl w.heap.size w (Sg.vars w) w [] (rel_start w hv) (fun _ _ _ => rfl) .nil
 refine Calls.mono this fun e w' => ?_
 rintro ⟨y, σ', rfl, hv, hr, _⟩
 cases hv
 exact ⟨rfl, hr.below⟩
open Classical in
noncomputable def orc [Glob] (P : Program) : Rec := fun t S => match t with
 | .call f [] => match Glob.tab f with
  | some E => some (.ret (E.v.up S.next) (S.add E.n E.objs))
  | none => if ClosedT P f then some (.ret (.bool true) S) else none
 | .code (.seq a c) fr => if h : ∃ r, ChoR P fr S a c r then some (Classical.choose h) else none
 | _ => none
theorem orc_inv [Glob] {P : Program} {t : Task} {S : St} {r : Rs} (h : orc P t S = some r) : (∃ f, t = .call f [] ∧ (ClosedT P f ∧ r = .ret (.bool true) S ∨ orcT t S = some r)) ∨ ∃ a c fr, t = .code (.seq a c) fr ∧ ChoR P fr S a c r := by
 unfold orc at h
 split at h
 ·split at h
  ·rename_i E he
   refine .inl ⟨_, rfl, .inr ?_⟩
   simp only [orcT, he]; exact h
  ·split at h
   ·cases h; exact .inl ⟨_, rfl, .inl ⟨by assumption, rfl⟩⟩
   ·cases h
 ·split at h
  ·rename_i hx
   cases h
   exact .inr ⟨_, _, _, rfl, Classical.choose_spec hx⟩
  ·cases h
 ·cases h
noncomputable def runO [Glob] (P : Program) : Nat → Rec
 | 0 => orc P
 | n + 1 => fun t S => match orc P t S with
  | some r => some r
  | none => stepT P (runO P n) t S
theorem runO_orc [Glob] {P : Program} {t : Task} {S : St} {r : Rs} (h : orc P t S = some r) : ∀ n, runO P n t S = some r
 | 0 => h
 | n + 1 => by simp only [runO, h]
theorem runO_mono [Glob] (P : Program) : ∀ n {t : Task} {S : St} {r : Rs}, runO P n t S = some r → runO P (n + 1) t S = some r
 | 0, t, S, r, h => runO_orc h 1
 | n + 1, t, S, r, h => by
  cases ho : orc P t S with
  | some q =>
   rw [runO_orc ho] at h ⊢
   exact h
  | none =>
   simp only [runO, ho] at h ⊢
   obtain ⟨k, hk⟩ := conv_step (P := P) (L := runO P n) (R := fun _ => runO P (n + 1)) (fun t S r h => .of_eq fun _ => runO_mono P n h) h
   exact hk k (Nat.le_refl _)
theorem runO_le [Glob] (P : Program) {n m : Nat} (hm : n ≤ m) {t : Task} {S : St} {r : Rs} (h : runO P n t S = some r) : runO P m t S = some r := by
 induction hm with
 | refl => exact h
 | step _ ih => exact runO_mono P _ ih
open Classical in
noncomputable def lim [Glob] (P : Program) : Rec := fun t S => if h : ∃ r, ∃ n, runO P n t S = some r then some (Classical.choose h) else none
theorem lim_iff [Glob] {P : Program} {t : Task} {S : St} {r : Rs} : lim P t S = some r ↔ ∃ n, runO P n t S = some r := by
 unfold lim
 constructor
 ·intro h
  split at h
  ·rename_i hx
   cases h
   exact Classical.choose_spec hx
  ·cases h
 ·rintro ⟨n, hn⟩
  have hx : ∃ r, ∃ n, runO P n t S = some r := ⟨r, n, hn⟩
  rw [dif_pos hx]
  obtain ⟨m, hm⟩ := Classical.choose_spec hx
  have h1 := runO_le P (Nat.le_max_left n m) hn
  have h2 := runO_le P (Nat.le_max_right n m) hm
  rw [h1] at h2
  rw [← h2]
theorem lim_conv [Glob] {P : Program} {t : Task} {S : St} {r : Rs} (h : lim P t S = some r) : Conv (fun n => runO P n t S) r := by
 obtain ⟨n, hn⟩ := lim_iff.1 h
 exact ⟨n, fun m hm => runO_le P hm hn⟩
theorem lim_of_step [Glob] {P : Program} {t : Task} {S : St} {r : Rs} (h : stepT P (lim P) t S = some r) (ho : orc P t S = none := by rfl) : lim P t S = some r := by
 obtain ⟨n, hn⟩ := conv_step (fun _ _ _ h => lim_conv h) h
 refine lim_iff.2 ⟨n + 1, ?_⟩
 simp only [runO, ho]
 exact hn n (Nat.le_refl _)
theorem lim_region_none [Glob] {P : Program} {i : Nat} {ops : Array Oper} {fr : Fr} {S : St} (h : (planOf ops).ok = false) : lim P (.code (.region i ops true) fr) S = none := by
 cases hl : lim P (.code (.region i ops true) fr) S with
 | none => rfl
 | some r =>
  obtain ⟨n, hn⟩ := lim_iff.1 hl
  cases n with
  | zero => cases hn
  | succ n =>
   have hs : regionE (runO P n) P ops true fr S = some r := hn
   simp [regionE, h] at hs
theorem lim_of_stepC [Glob] {P : Program} {c : Code} {fr : Fr} {S : St} {r : Rs} (h : stepT P (lim P) (.code c fr) S = some r) : lim P (.code c fr) S = some r := by
 refine lim_of_step h ?_
 cases ho : orc P (.code c fr) S with
 | none => rfl
 | some q =>
  rcases orc_inv ho with ⟨f, ht, _⟩ | ⟨a, c', fr', ht, hc⟩
  ·cases ht
  ·cases ht
   obtain ⟨i, ops, rfl, hp⟩ := hc.left
   simp only [stepT, lim_region_none hp] at h
   cases h
theorem lim_closed [Glob] {P : Program} {f : FuncId} (h : ClosedT P f) (S : St) (ht : Glob.tab f = none := by rfl) : lim P (.call f []) S = some (.ret (.bool true) S) := by
 refine lim_iff.2 ⟨0, ?_⟩
 simp only [runO, orc, ht]
 rw [if_pos h]
theorem lim_tab [Glob] {P : Program} {f : FuncId} {E : Ent} (h : Glob.tab f = some E) (S : St) : lim P (.call f []) S = some (.ret (E.v.up S.next) (S.add E.n E.objs)) := by
 refine lim_iff.2 ⟨0, ?_⟩
 simp only [runO, orc, h]
theorem orc_ok [Glob] {P : Program} (hG : GoodT P) : RecOk P (orc P) where
 le := fun t S r h => by
  rcases orc_inv h with ⟨f, rfl, ⟨_, rfl⟩ | h⟩ | ⟨a, c, fr, rfl, hc⟩
  ·exact StLe.refl S
  ·exact (orcT_ok hG.good hG.tab).le _ S r h
  ·obtain ⟨x, fr', S', rfl, _, h2, _⟩ := cho_ok hG.good hc
   exact h2
 call := fun g l S r h => by
  obtain ⟨f, ht, hh⟩ := (orc_inv h).resolve_right (fun ⟨_, _, _, h, _⟩ => by cases h)
  rcases hh with ⟨⟨n, S1, hc⟩, rfl⟩ | hh
  rotate_left
  ·exact (orcT_ok hG.good hG.tab).call g l S r hh
  cases ht
  refine ⟨fun v S' e base w₀ σ w vs hr hf hv => ?_, fun v S' e => by cases e⟩
  cases e
  cases hv
  refine (closedR hG hc w (VarsOk.of hr)).mono fun e w' => ?_
  rintro ⟨rfl, hb⟩
  have hbase : base ≤ w.heap.size := hr.hb
  refine ⟨.bool true, σ, rfl, .bool true, ⟨hr.below.trans (hb.mono hbase), Nat.le_trans hbase hb.size, fun b o v hi hn => ?_, fun b o v hi => Nat.lt_of_lt_of_le (hr.cur b o v hi) hb.size, fun b t ht => ?_, fun id o ho => ?_, hr.inj, hr.gl⟩,
   ⟨.refl σ, Nat.le_refl _, hb.size, fun b hlt _ _ => hb.block b hlt, fun _ _ _ _ => rfl, (fun id x h k => by rw [h] at k; cases k), fun _ o h => Or.inl ⟨o, h⟩⟩⟩
  ·rw [hb.cell (hr.cur b o v hi)]; exact hr.imm b o v hi hn
  ·obtain ⟨c, fr, h1, h2⟩ := hr.ty b t ht
   exact ⟨c, fr, by rw [hb.block b (heap_lt h1)]; exact h1, h2⟩
  ·exact (hr.ob id o ho).keep (.refl σ) fun x hx => ⟨hb.block x.1 (by
    obtain ⟨y, h1, _, h3⟩ := (hr.ob id o ho).key
    rw [h1] at hx; cases hx; exact h3), fun _ h => h⟩
 code := fun c fr S r h => by
  rcases orc_inv h with ⟨f, ht, _⟩ | ⟨a, c, fr, ht, hc⟩
  ·cases ht
  ·cases ht
   obtain ⟨x, fr', S', h1, _, _, h3⟩ := cho_ok hG.good hc
   exact ⟨x, fr', S', h1, fun base w₀ σ w A b cs k q1 q2 q3 q4 q5 => h3 base w₀ σ w A b cs k q1 q2 q3 q4 q5⟩
 dcall := fun g l p S r h => by
  rcases orc_inv h with ⟨f, ht, _⟩ | ⟨a, c, fr, ht, _⟩ <;> cases ht
theorem runO_ok [Glob] {P : Program} (hG : GoodT P) : ∀ n, RecOk P (runO P n)
 | 0 => orc_ok hG
 | n + 1 => by
  have h1 := orc_ok hG
  have h2 := runO_ok hG n
  have hs : ∀ t S r, runO P (n + 1) t S = some r → orc P t S = some r ∨ stepT P (runO P n) t S = some r := by
   intro t S r h
   cases ho : orc P t S with
   | some q => rw [runO_orc ho] at h; exact .inl h
   | none => simp only [runO, ho] at h; exact .inr h
  exact ⟨fun t S r h => (hs t S r h).elim (h1.le t S r) (stepT_le h2.le t S r), fun g l S r h => (hs _ S r h).elim (h1.call g l S r) (call_ok hG.good h2 g l S r),
   fun c fr S r h => (hs _ S r h).elim (h1.code c fr S r) (code_ok hG.good h2 c fr S r), fun g l p S r h => (hs _ S r h).elim (h1.dcall g l p S r) (dcall_ok h2 g l p S r)⟩
theorem lim_ok [Glob] {P : Program} (hG : GoodT P) : RecOk P (lim P) where
 le := fun t S r h => by
  obtain ⟨n, hn⟩ := lim_iff.1 h
  exact (runO_ok hG n).le t S r hn
 call := fun g l S r h => by
  obtain ⟨n, hn⟩ := lim_iff.1 h
  exact (runO_ok hG n).call g l S r hn
 code := fun c fr S r h => by
  obtain ⟨n, hn⟩ := lim_iff.1 h
  exact (runO_ok hG n).code c fr S r hn
 dcall := fun g l p S r h => by
  obtain ⟨n, hn⟩ := lim_iff.1 h
  exact (runO_ok hG n).dcall g l p S r hn
end Go.Ev
namespace Go.Ev
open Go.RowKit
abbrev Env := List (Nat × V)
def Env.get : List (Nat × V) → Nat → Option V
 | [], _ => none
 | (k, v) :: l, n => match Nat.beq k n with
  | true => some v
  | false => Env.get l n
def Env.opd [Glob] (E : Env) : Operand → Option V
 | .tmp t => Env.get E t
 | .const v => ofVal 20 v
 | .global g => (Glob.cells g).map fun cs => .cptr none cs 0
 | .func f => some (.func f [] [])
structure Sh where
 n : Nat
 ds : List (FuncId × List V)
 pan : Pan
structure Has (F : Sh) (E : Env) (fr : Fr) : Prop where
 n : fr.n = F.n
 ds : fr.ds = F.ds
 pan : fr.pan = F.pan
 t : ∀ k v, Env.get E k = some v → fr.t.find k = some v
theorem Env.get_cons (k : Nat) (v : V) (l : Env) (n : Nat) : Env.get ((k, v) :: l) n = if k = n then some v else Env.get l n := by
 simp only [Env.get]
 by_cases h : k = n
 ·subst h; simp
 ·have : Nat.beq k n = false := by
   cases hb : Nat.beq k n with
   | false => rfl
   | true => exact absurd (Nat.eq_of_beq_eq_true hb) h
  simp [this, h]
theorem Has.opd [Glob] {F : Sh} {E : Env} {fr : Fr} (h : Has F E fr) {x : Operand} {v : V} (hx : Env.opd E x = some v) : fr.opd x = some v := by
 cases x with
 | tmp t => exact h.t t v hx
 | const c => exact hx
 | global g => exact hx
 | func f => exact hx
theorem Has.put {F : Sh} {E : Env} {fr : Fr} (h : Has F E fr) {d : Nat} (v : V) (hd : Nat.blt d F.n = true) : ∃ fr', fr.put (some d) v = some fr' ∧ Has F ((d, v) :: E) fr' := by
 refine ⟨{ fr with t := fr.t.put d v }, by simp only [Fr.put, h.n, hd, if_true], h.n, h.ds, h.pan, fun k u hu => ?_⟩
 rw [Env.get_cons] at hu
 simp only [Tr.find_put]
 by_cases hk : d = k
 ·subst hk; simp at hu; simp [hu]
 ·rw [if_neg hk] at hu
  rw [if_neg (fun e => hk e.symm)]
  exact h.t k u hu
def Sub : Env → Env → Prop
 | [], _ => True
 | (k, v) :: l, E => Env.get E k = some v ∧ Sub l E
theorem Sub.get : ∀ {E' E : Env}, Sub E' E → ∀ k v, Env.get E' k = some v → Env.get E k = some v
 | [], _, _, _, _, h => by cases h
 | (k, v) :: l, E, ⟨h1, h2⟩, n, u, h => by
  rw [Env.get_cons] at h
  by_cases hk : k = n
  ·subst hk; simp at h; rw [← h]; exact h1
  ·rw [if_neg hk] at h; exact Sub.get h2 n u h
theorem Has.sub {F : Sh} {E E' : Env} {fr : Fr} (h : Has F E fr) (hs : Sub E' E) : Has F E' fr :=
 ⟨h.n, h.ds, h.pan, fun k v hv => h.t k v (hs.get k v hv)⟩
theorem mapO_mono {α β : Type} {f g : α → Option β} (h : ∀ x v, f x = some v → g x = some v) : ∀ {l : List α} {r : List β}, mapO f l = some r → mapO g l = some r
 | [], r, hr => hr
 | x :: xs, r, hr => by
  simp only [mapO] at hr ⊢
  cases h1 : f x with
  | none => rw [h1] at hr; cases hr
  | some y =>
   rw [h1] at hr
   simp only at hr
   cases h2 : mapO f xs with
   | none => rw [h2] at hr; cases hr
   | some ys =>
    rw [h2] at hr
    rw [h x y h1]
    simp only [mapO_mono h h2]
    exact hr
theorem mapO_congr {α β : Type} {f g : α → Option β} : ∀ {l : List α}, (∀ x ∈ l, f x = g x) → mapO f l = mapO g l
 | [], _ => rfl
 | x :: xs, h => by
  simp only [mapO]
  rw [h x (by simp), mapO_congr (l := xs) fun y hy => h y (by simp [hy])]
section
variable {P : Program}
theorem opE_mono {op : Op} {ev ev' : Operand → Option V} (hl : ∀ x v, ev x = some v → ev' x = some v) {S : St} {r : V × St} (h : opE P op ev S = some r) : opE P op ev' S = some r := by
 have hm : ∀ {l : List Operand} {r : List V}, mapO ev l = some r → mapO ev' l = some r := fun h => mapO_mono hl h
 cases op
 case pick c a b =>
  simp only [opE] at h ⊢
  cases hc : ev c with
  | none => rw [hc] at h; cases h
  | some v =>
   rw [hc] at h
   rw [hl _ _ hc]
   cases v with
   | bool b =>
    cases b
    ·simp only at h ⊢
     cases h1 : ev _ with
     | none => rw [h1] at h; cases h
     | some u => rw [h1] at h; rw [hl _ _ h1]; exact h
    ·simp only at h ⊢
     cases h1 : ev _ with
     | none => rw [h1] at h; cases h
     | some u => rw [h1] at h; rw [hl _ _ h1]; exact h
   | _ => cases h
 case build t ps =>
  simp only [opE] at h ⊢
  split at h
  ·rename_i l hq
   have : mapO (fun (p : Nat × Operand) => (ev' p.2).map fun v => (p.1, v)) ps.toList = some l := by
    refine mapO_mono (fun x v hx => ?_) hq
    cases h1 : ev x.2 with
    | none => rw [h1] at hx; cases hx
    | some u => rw [h1] at hx; rw [hl _ _ h1]; exact hx
   rw [this]; exact h
  ·cases h
 case buildSlice t n ps =>
  simp only [opE] at h ⊢
  split at h
  ·rename_i l hq
   have : mapO (fun (p : Nat × Operand) => (ev' p.2).map fun v => (p.1, v)) ps.toList = some l := by
    refine mapO_mono (fun x v hx => ?_) hq
    cases h1 : ev x.2 with
    | none => rw [h1] at hx; cases hx
    | some u => rw [h1] at hx; rw [hl _ _ h1]; exact hx
   rw [this]; exact h
  ·cases h
 case makeFunc fn first caps =>
  cases fn with
  | func f =>
   simp only [opE] at h ⊢
   split at h
   ·rename_i a b h1 h2
    rw [hm h1, hm h2]; exact h
   ·cases h
  | _ => exact h
 case slice t x lo hi mx =>
  simp only [opE] at h ⊢
  split at h
  ·rename_i a l h' m h1 h2 h3 h4
   rw [hl _ _ h1, hm h2, hm h3, hm h4]; exact h
  ·cases h
 case call c =>
  obtain ⟨callee, args, ats⟩ := c
  cases callee with
  | builtin b =>
   simp only [opE] at h ⊢
   split at h
   ·rename_i l h1
    rw [hm h1]; exact h
   ·cases h
  | _ => exact h
 case nilCheck x =>
  simp only [opE] at h ⊢
  cases h1 : ev x with
  | none => rw [h1] at h; cases h
  | some v => rw [h1] at h; rw [hl _ _ h1]; exact h
 case alloc => exact h
 case makeMap t r =>
  simp only [opE] at h ⊢
  cases h1 : mapO ev r.toList with
  | none => rw [h1] at h; split at h <;> first | (rename_i e; cases e; done) | cases h
  | some l => rw [h1] at h; rw [hm h1]; exact h
 case lookup t x k ok =>
  simp only [opE] at h ⊢
  cases h1 : ev x with
  | none => rw [h1] at h; cases h
  | some v =>
   cases h2 : ev k with
   | none => rw [h1, h2] at h; cases h
   | some u => rw [h1, h2] at h; rw [hl _ _ h1, hl _ _ h2]; exact h
 case range t x =>
  simp only [opE] at h ⊢
  cases h1 : ev x with
  | none => rw [h1] at h; cases h
  | some v => rw [h1] at h; rw [hl _ _ h1]; exact h
 case next x b =>
  simp only [opE] at h ⊢
  cases h1 : ev x with
  | none => rw [h1] at h; cases h
  | some v => rw [h1] at h; rw [hl _ _ h1]; exact h
 case insert t m k x =>
  simp only [opE] at h ⊢
  cases h1 : ev m with
  | none => rw [h1] at h; cases h
  | some a =>
   cases h2 : ev k with
   | none => rw [h1, h2] at h; cases h
   | some b =>
    cases h3 : ev x with
    | none => rw [h1, h2, h3] at h; cases h
    | some c => rw [h1, h2, h3] at h; rw [hl _ _ h1, hl _ _ h2, hl _ _ h3]; exact h
 case mapUpdate t m k x =>
  simp only [opE] at h ⊢
  cases h1 : ev m with
  | none => rw [h1] at h; cases h
  | some a =>
   cases h2 : ev k with
   | none => rw [h1, h2] at h; cases h
   | some b =>
    cases h3 : ev x with
    | none => rw [h1, h2, h3] at h; cases h
    | some c => rw [h1, h2, h3] at h; rw [hl _ _ h1, hl _ _ h2, hl _ _ h3]; exact h
 case binOp op t x y u =>
  simp only [opE] at h ⊢
  cases h1 : ev x with
  | none => rw [h1] at h; cases h
  | some v =>
   cases h2 : ev y with
   | none => rw [h1, h2] at h; cases h
   | some u => rw [h1, h2] at h; rw [hl _ _ h1, hl _ _ h2]; exact h
 case typeAssert x t a b =>
  simp only [opE] at h ⊢
  cases h1 : ev x with
  | none => rw [h1] at h; cases h
  | some v => rw [h1] at h; rw [hl _ _ h1]; exact h
 all_goals first
  | exact h
  | (simp only [opE] at h ⊢
     first
      | (rename_i x
         cases h1 : ev x with
         | none => rw [h1] at h; cases h
         | some v => rw [h1] at h; rw [hl _ _ h1]; exact h)
      | (rename_i x _
         cases h1 : ev x with
         | none => rw [h1] at h; cases h
         | some v => rw [h1] at h; rw [hl _ _ h1]; exact h)
      | (rename_i x _ _
         cases h1 : ev x with
         | none => rw [h1] at h; cases h
         | some v => rw [h1] at h; rw [hl _ _ h1]; exact h)
      | (rename_i x y
         cases h1 : ev x with
         | none => rw [h1] at h; cases h
         | some v =>
          cases h2 : ev y with
          | none => rw [h1, h2] at h; cases h
          | some u => rw [h1, h2] at h; rw [hl _ _ h1, hl _ _ h2]; exact h))
theorem act_plain {rec : Rec} {op : Op} {ev : Operand → Option V} {pan : Pan} {S : St} {v : V} {S' : St} (h : opE P op ev S = some (v, S'))
 (he : actE rec P op ev pan S = (match opE P op ev S with | some (v, S') => some (.val v S') | none => none)) : actE rec P op ev pan S = some (.val v S') := by
 rw [he, h]
theorem opE_act {op : Op} {ev : Operand → Option V} {S : St} {v : V} {S' : St} (h : opE P op ev S = some (v, S')) (rec : Rec) (pan : Pan) : actE rec P op ev pan S = some (.val v S') := by
 cases op with
 | call c =>
  obtain ⟨callee, args, ats⟩ := c
  cases callee with
  | value f => cases h
  | builtin b =>
   cases b
   case recover =>
    simp only [opE] at h
    split at h
    ·simp only [builtinE] at h; cases h
    ·cases h
   all_goals exact act_plain h rfl
  | _ => exact act_plain h rfl
 | defer c =>
  obtain ⟨callee, args, ats⟩ := c
  cases callee <;> cases h
 | panic x => cases h
 | _ => exact act_plain h rfl
theorem calleeE_mono {ev ev' : Operand → Option V} (hl : ∀ x v, ev x = some v → ev' x = some v) {f : Operand} {args : Array Operand} {r : FuncId × List V} (h : calleeE ev f args = some r) : calleeE ev' f args = some r := by
 unfold calleeE at h ⊢
 split at h
 ·rename_i g first caps l h1 h2
  rw [hl _ _ h1, mapO_mono hl h2]; exact h
 ·cases h
def opsL [Glob] (rec : Rec) (P : Program) (ops : Array Oper) : List Oper → Fr → St → Option Rs
 | [], fr, S => some (.code .normal fr S)
 | o :: l, fr, S => match oneE rec P ops o fr S with
  | some (.code .normal fr' S') => opsL rec P ops l fr' S'
  | r => r
theorem seq_opsL [Glob] (rec : Rec) (ops : Array Oper) : ∀ (l : List Nat), (∀ i ∈ l, i < ops.size) → ∀ (fr : Fr) (S : St), seqE rec P ops l fr S = opsL rec P ops (l.filterMap (ops[·]?)) fr S
 | [], _, _, _ => rfl
 | i :: l, h, fr, S => by
  have hi : i < ops.size := h i (by simp)
  have he : ops[i]? = some ops[i] := Array.getElem?_eq_getElem hi
  simp only [seqE, List.filterMap_cons, he, opsL]
  cases h1 : oneE rec P ops ops[i] fr S with
  | none => rfl
  | some r =>
   split
   ·rename_i fr' S' he
    cases he
    exact seq_opsL rec ops l (fun j hj => h j (by simp [hj])) fr' S'
   ·rename_i h2
    split
    ·rename_i fr' S' he
     cases he
     exact absurd rfl (h2 _ _)
    ·rfl
theorem range_ops (ops : Array Oper) : (List.range ops.size).filterMap (ops[·]?) = ops.toList := by
 obtain ⟨l⟩ := ops
 simp only [List.size_toArray, List.getElem?_toArray]
 induction l with
 | nil => rfl
 | cons x l ih =>
  rw [List.length_cons, List.range_succ_eq_map, List.filterMap_cons]
  simp only [List.getElem?_cons_zero, List.filterMap_map]
  congr 1
theorem region_opsL [Glob] (rec : Rec) (ops : Array Oper) (fr : Fr) (S : St) : regionE rec P ops false fr S = opsL rec P ops ops.toList fr S := by
 simp only [regionE]
 rw [seq_opsL rec ops _ (fun i hi => List.mem_range.1 hi), range_ops]
def plain3 : Op → Bool
 | .defer _ => false
 | .call { callee := .builtin .recover, .. } => false
 | _ => true
def quiet3 : Op → Bool
 | .call { callee := .value _, .. } => false
 | .panic _ => false
 | _ => true
def calmL (ops : Array Oper) (ms : List Nat) : List Nat → List Nat → Bool
 | [], _ => true
 | i :: l, acts => match ops[i]? with
  | none => false
  | some o => match clsE o.op with
   | 0 => plain3 o.op && calmL ops ms l acts
   | 2 => plain3 o.op && acts.all (fun j => ancOf ms j i) && calmL ops ms l acts
   | 3 => plain3 o.op && (quiet3 o.op || l.all (fun j => ancOf ms i j)) && calmL ops ms l (i :: acts)
   | _ => false
def Tgood (S0 : St) (acts : List Nat) (S : St) : List En → Prop
 | [] => S = S0
 | .mild _ _ _ _ ob :: T => ob = none ∧ Tgood S0 acts S T
 | .act j _ _ _ S1 :: _ => S1 = S ∧ j ∈ acts
mutual
theorem V.beq_refl : ∀ v : V, V.beq v v = true
 | .bool b => by simp [V.beq]
 | .int k n => by simp [V.beq]
 | .str s => by simp [V.beq]
 | .nilp => rfl
 | .ptr i o => by simp [V.beq]
 | .cptr t cs o => by simp [V.beq, V.beqs_refl cs]
 | .nils => rfl
 | .list t n es k => by simp [V.beq, V.beqs_refl es]
 | .arr a b c d => by simp [V.beq]
 | .func f a b => by simp [V.beq, V.beqs_refl a, V.beqs_refl b]
 | .nilf => rfl
 | .iface t v => by simp [V.beq, V.beq_refl v]
 | .nili => rfl
 | .agg cs => by simp [V.beq, V.beqs_refl cs]
 | .tup vs => by simp [V.beq, V.beqs_refl vs]
 | .nilm => rfl
 | .mt => rfl
 | .map i => by simp [V.beq]
 | .yld i => by simp [V.beq]
 | .dmk i => by simp [V.beq]
 | .raw t i n => by simp [V.beq]
theorem V.beqs_refl : ∀ l : List V, V.beqs l l = true
 | [] => rfl
 | x :: xs => by simp [V.beqs, V.beq_refl x, V.beqs_refl xs]
end
theorem sameE_good {ms : List Nat} {i : Nat} {op : Op} {ev : Operand → Option V} {v : V} {S0 S S2 : St} {acts : List Nat} (ho : opE P op ev S = some (v, S2)) (ha : acts.all (fun j => ancOf ms j i) = true) :
 ∀ (T : List En), Tgood S0 acts S T → sameE P ms i op ev v S0 T [] = true
 | [], h => by
  have h : S = S0 := h
  subst h
  simp only [sameE, sameAt, withs]
  rw [ho]
  exact V.beq_refl v
 | .mild j o u n ob :: T, h => by
  obtain ⟨rfl, h⟩ := h
  simp only [sameE]
  exact sameE_good ho ha T h
 | .act j o u n S1 :: T, h => by
  obtain ⟨rfl, hj⟩ := h
  have := List.all_eq_true.1 ha j hj
  simp only [sameE, this, Bool.true_or, Bool.and_true, sameAt, withs]
  rw [ho]
  exact V.beq_refl v
theorem viewE_opd [Glob] {ops : Array Oper} {o : Oper} {fr : Fr} {x : Operand} (hx : x ∈ o.op.operands.toList) : viewE fr (looks ops o) x = fr.opd x := by
 cases x with
 | tmp t =>
  have : t ∈ looks ops o := by
   unfold looks Oper.looksAt
   refine List.mem_append_left _ (List.mem_filterMap.2 ⟨_, hx, rfl⟩)
  simp [viewE, Fr.opd, this]
 | _ => rfl
theorem calleeE_congr {ev ev' : Operand → Option V} {f : Operand} {args : Array Operand} (hf : ev f = ev' f) (ha : ∀ x ∈ args.toList, ev x = ev' x) : calleeE ev f args = calleeE ev' f args := by
 unfold calleeE
 rw [hf, mapO_congr ha]
theorem opE_congr {op : Op} {ev ev' : Operand → Option V} (h : ∀ x ∈ op.operands.toList, ev x = ev' x) (S : St) : opE P op ev S = opE P op ev' S := by
 cases op
 case pick c a b => simp only [opE]; rw [h c (by simp [Op.operands]), h a (by simp [Op.operands]), h b (by simp [Op.operands])]
 case build t ps =>
  simp only [opE]
  rw [mapO_congr (f := fun (p : Nat × Operand) => (ev p.2).map fun v => (p.1, v)) (g := fun (p : Nat × Operand) => (ev' p.2).map fun v => (p.1, v))]
  intro x hx
  show Option.map _ _ = Option.map _ _
  rw [h x.2 (by simp only [Op.operands]; exact List.mem_map_of_mem hx)]
 case buildSlice t n ps =>
  simp only [opE]
  rw [mapO_congr (f := fun (p : Nat × Operand) => (ev p.2).map fun v => (p.1, v)) (g := fun (p : Nat × Operand) => (ev' p.2).map fun v => (p.1, v))]
  intro x hx
  show Option.map _ _ = Option.map _ _
  rw [h x.2 (by simp only [Op.operands]; exact List.mem_map_of_mem hx)]
 case makeFunc fn first caps =>
  cases fn with
  | func f =>
   simp only [opE]
   rw [mapO_congr (f := ev) (g := ev') (l := first.toList) fun x hx => h x (by simp [Op.operands]; left; simpa using hx),
    mapO_congr (f := ev) (g := ev') (l := caps.toList) fun x hx => h x (by simp [Op.operands]; right; simpa using hx)]
  | _ => rfl
 case slice t x lo hi mx =>
  simp only [opE]
  have e1 := h x (by simp [Op.operands])
  have e2 : mapO ev lo.toList = mapO ev' lo.toList := mapO_congr fun y hy => h y (by cases lo <;> simp_all [Op.operands])
  have e3 : mapO ev hi.toList = mapO ev' hi.toList := mapO_congr fun y hy => h y (by cases hi <;> simp_all [Op.operands])
  have e4 : mapO ev mx.toList = mapO ev' mx.toList := mapO_congr fun y hy => h y (by cases mx <;> simp_all [Op.operands])
  rw [e1, e2, e3, e4]
 case call c =>
  obtain ⟨callee, args, ats⟩ := c
  cases callee with
  | builtin b =>
   simp only [opE]
   rw [mapO_congr (f := ev) (g := ev') (l := args.toList) fun x hx => h x (by simp [Op.operands, Call.operands]; simpa using hx)]
  | _ => rfl
 case makeMap t r =>
  simp only [opE]
  have e1 : mapO ev r.toList = mapO ev' r.toList := mapO_congr fun y hy => h y (by simpa [Op.operands] using hy)
  rw [e1]
 case lookup t x k ok => simp only [opE]; rw [h x (by simp [Op.operands]), h k (by simp [Op.operands])]
 case insert t m k x => simp only [opE]; rw [h m (by simp [Op.operands]), h k (by simp [Op.operands]), h x (by simp [Op.operands])]
 case mapUpdate t m k x => simp only [opE]; rw [h m (by simp [Op.operands]), h k (by simp [Op.operands]), h x (by simp [Op.operands])]
 case range t x => simp only [opE]; rw [h x (by simp [Op.operands])]
 case next x b => simp only [opE]; rw [h x (by simp [Op.operands])]
 case binOp op t x y u => simp only [opE]; rw [h x (by simp [Op.operands]), h y (by simp [Op.operands])]
 case typeAssert x t a b => simp only [opE]; rw [h x (by simp [Op.operands])]
 case store t x y => simp only [opE]; rw [h x (by simp [Op.operands]), h y (by simp [Op.operands])]
 case makeSlice t x y => simp only [opE]; rw [h x (by simp [Op.operands]), h y (by simp [Op.operands])]
 case indexAddr t x y => simp only [opE]; rw [h x (by simp [Op.operands]), h y (by simp [Op.operands])]
 case index t x y => simp only [opE]; rw [h x (by simp [Op.operands]), h y (by simp [Op.operands])]
 all_goals first
  | rfl
  | (simp only [opE]
     first
      | (rename_i x; rw [h x (by simp [Op.operands])])
      | (rename_i x _; rw [h x (by simp [Op.operands])])
      | (rename_i x _ _; rw [h x (by simp [Op.operands])])
      | (rename_i x y; rw [h x (by simp [Op.operands]), h y (by simp [Op.operands])]))
theorem act_congr_plain {rec : Rec} {op : Op} {ev ev' : Operand → Option V} {pan : Pan} {S : St}
 (h1 : actE rec P op ev pan S = (match opE P op ev S with | some (v, S') => some (.val v S') | none => none))
 (h2 : actE rec P op ev' pan S = (match opE P op ev' S with | some (v, S') => some (.val v S') | none => none)) (ho : opE P op ev S = opE P op ev' S) : actE rec P op ev pan S = actE rec P op ev' pan S := by
 rw [h1, h2, ho]
theorem actE_congr {rec : Rec} {op : Op} {ev ev' : Operand → Option V} (h : ∀ x ∈ op.operands.toList, ev x = ev' x) (pan : Pan) (S : St) : actE rec P op ev pan S = actE rec P op ev' pan S := by
 cases op with
 | call c =>
  obtain ⟨callee, args, ats⟩ := c
  cases callee with
  | value f =>
   simp only [actE]
   rw [calleeE_congr (ev := ev) (ev' := ev') (h f (by simp [Op.operands, Call.operands])) fun x hx => h x (by simp [Op.operands, Call.operands]; right; simpa using hx), h f (by simp [Op.operands, Call.operands]),
    mapO_congr (f := ev) (g := ev') (l := args.toList) fun x hx => h x (by simp [Op.operands, Call.operands]; right; simpa using hx)]
  | builtin b =>
   cases b
   case recover => rfl
   all_goals exact act_congr_plain rfl rfl (opE_congr h S)
  | _ => exact act_congr_plain rfl rfl (opE_congr h S)
 | defer c =>
  obtain ⟨callee, args, ats⟩ := c
  cases callee with
  | value f =>
   simp only [actE]
   rw [calleeE_congr (ev := ev) (ev' := ev') (h f (by simp [Op.operands, Call.operands])) fun x hx => h x (by simp [Op.operands, Call.operands]; right; simpa using hx)]
  | _ => rfl
 | panic x =>
  simp only [actE]
  rw [h x (by simp [Op.operands])]
 | _ => exact act_congr_plain rfl rfl (opE_congr h S)
theorem cls0_state {op : Op} (hc : clsE op = 0 ∨ clsE op = 2) {ev : Operand → Option V} {S S' : St} {v : V} (h : opE P op ev S = some (v, S')) : S' = S := by
 have mp : ∀ {α : Type} {o : Option α} {f : α → V}, (o.map fun v => (f v, S)) = some (v, S') → S' = S := by
  intro α o f h
  cases o with
  | none => cases h
  | some a => cases h; rfl
 cases op
 case call c =>
  obtain ⟨callee, args, ats⟩ := c
  cases callee with
  | builtin b =>
   simp only [opE] at h
   generalize mapO ev args.toList = ol at h
   split at h
   ·rename_i l
    cases b
    case len =>
     unfold builtinE at h
     split at h <;> first | contradiction | exact mp h | (cases h; rfl) | (cases h; done)
    case max =>
     unfold builtinE at h
     split at h <;> first | contradiction | exact mp h | (cases h; rfl) | (cases h; done)
    case min =>
     unfold builtinE at h
     split at h <;> first | contradiction | exact mp h | (cases h; rfl) | (cases h; done)
    case unsafeSliceData =>
     unfold builtinE at h
     split at h <;> first | contradiction | exact mp h | (cases h; rfl) | (cases h; done)
    all_goals (rcases hc with hc | hc <;> simp [clsE] at hc)
   ·cases h
  | _ => cases h
 case convert s d x =>
  simp only [opE] at h
  split at h
  ·unfold convertE at h
   repeat' split at h
   all_goals first | (cases h; done) | (cases h; rfl) | exact mp h
  ·cases h
 case makeFunc fn a b =>
  cases fn with
  | func f =>
   simp only [opE] at h
   split at h
   ·cases h; rfl
   ·cases h
  | _ => cases h
 case nilCheck x =>
  simp only [opE] at h
  split at h <;> first | (cases h; rfl) | (cases h; done)
 case pick c a b =>
  simp only [opE] at h
  split at h
  ·exact mp h
  ·exact mp h
  ·cases h
 case makeMap => rcases hc with hc | hc <;> simp [clsE] at hc
 case insert => rcases hc with hc | hc <;> simp [clsE] at hc
 case mapUpdate => rcases hc with hc | hc <;> simp [clsE] at hc
 case range => rcases hc with hc | hc <;> simp [clsE] at hc
 case next => rcases hc with hc | hc <;> simp [clsE] at hc
 case alloc => rcases hc with hc | hc <;> simp [clsE] at hc
 case box => rcases hc with hc | hc <;> simp [clsE] at hc
 case store => rcases hc with hc | hc <;> simp [clsE] at hc
 case makeSlice => rcases hc with hc | hc <;> simp [clsE] at hc
 case makeInterface t x =>
  simp only [opE] at h
  split at h
  ·split at h
   ·cases h; rfl
   ·cases h
  ·cases h
 all_goals first
  | (cases h; done)
  | (simp only [opE] at h; exact mp h)
  | (simp only [opE] at h; split at h <;> first | exact mp h | (cases h; done))
theorem draw_calm [Glob] {rec : Rec} {ops : Array Oper} {ms : List Nat} {S0 : St} : ∀ (l acts : List Nat) (T : List En) (fr : Fr) (S : St) (r : Rs), calmL ops ms l acts = true → Tgood S0 acts S T →
 opsL rec P ops (l.filterMap (ops[·]?)) fr S = some r → drawE rec P ops ms S0 l T fr S = some r
 | [], _, _, _, _, _, _, _, h => h
 | i :: l, acts, T, fr, S, r, hc, hT, h => by
  simp only [calmL] at hc
  cases ho : ops[i]? with
  | none => rw [ho] at hc; cases hc
  | some o =>
   rw [ho] at hc
   simp only at hc
   simp only [List.filterMap_cons, ho, opsL] at h
   simp only [drawE, ho]
   have hview : ∀ x ∈ o.op.operands.toList, viewE fr (looks ops o) x = fr.opd x := fun x hx => viewE_opd hx
   have hp3 : plain3 o.op = true := by
    split at hc
    ·simp only [Bool.and_eq_true] at hc; exact hc.1
    ·simp only [Bool.and_eq_true] at hc; exact hc.1.1
    ·simp only [Bool.and_eq_true] at hc; exact hc.1.1
    ·cases hc
   have mild : ∀ v, (∃ acts', (∀ j ∈ acts, j ∈ acts') ∧ calmL ops ms l acts' = true) → mildE P ops ms S0 i o T fr S = some (v, none) → (match fr.put o.dst v with
    | none => none
    | some fr' => opsL rec P ops (l.filterMap (ops[·]?)) fr' S) = some r →
    (match mildE P ops ms S0 i o T fr S with
     | none => none
     | some (v, ob) => match fr.put o.dst v with
      | none => none
      | some fr' => drawE rec P ops ms S0 l (.mild i o v S.next ob :: T) fr' (S.plus ob)) = some r := by
    rintro v ⟨acts', hsub, hcl⟩ hm hr
    rw [hm]
    simp only
    cases hq : fr.put o.dst v with
    | none => rw [hq] at hr; cases hr
    | some fr' =>
     rw [hq] at hr
     refine draw_calm l acts' _ fr' S r hcl ⟨rfl, ?_⟩ hr
     clear hm hr hq h hview
     induction T with
     | nil => exact hT
     | cons e T ih =>
      cases e with
      | mild => exact ⟨hT.1, ih hT.2⟩
      | act => exact ⟨hT.1, hsub _ hT.2⟩
   have hput : ∀ (fr1 : Fr) (v : V) (S1 : St), (match putE fr1 o.dst v S1 with
    | some (.code .normal fr' S') => opsL rec P ops (l.filterMap (ops[·]?)) fr' S'
    | r => r) = some r → (match fr1.put o.dst v with
    | none => none
    | some fr' => opsL rec P ops (l.filterMap (ops[·]?)) fr' S1) = some r := by
    intro fr1 v S1 h
    simp only [putE] at h
    cases hq : fr1.put o.dst v with
    | none => rw [hq] at h; cases h
    | some fr' => rw [hq] at h; exact h
   unfold oneE at h
   cases hw : wantE ops o fr with
   | none => rw [hw] at h; cases h
   | some b =>
    rw [hw] at h
    cases b with
    | false =>
     simp only [isT, Bool.and_false, Bool.false_eq_true, if_false]
     simp only at h
     refine mild (.tup []) ?_ (by simp only [mildE, hw]) (hput _ _ _ h)
     split at hc
     ·simp only [Bool.and_eq_true] at hc; exact ⟨acts, fun _ h => h, hc.2⟩
     ·simp only [Bool.and_eq_true] at hc; exact ⟨acts, fun _ h => h, hc.2⟩
     ·simp only [Bool.and_eq_true] at hc; exact ⟨i :: acts, fun _ h => List.mem_cons_of_mem _ h, hc.2⟩
     ·cases hc
    | true =>
     simp only [isT, Bool.and_true]
     simp only at h
     have hact : actE rec P o.op (viewE fr (looks ops o)) fr.pan S = actE rec P o.op fr.opd fr.pan S := actE_congr hview _ _
     have hope : opE P o.op (viewE fr (looks ops o)) S = opE P o.op fr.opd S := opE_congr hview _
     cases ha : actE rec P o.op fr.opd fr.pan S with
     | none => rw [ha] at h; cases h
     | some a =>
      rw [ha] at h
      by_cases h3 : clsE o.op = 3
      ·rw [h3] at hc
       simp only [Bool.and_eq_true] at hc
       obtain ⟨⟨_, hall⟩, hrest⟩ := hc
       simp only [h3, Nat.beq_refl, if_true]
       rw [hact, ha]
       cases a with
       | val v S' =>
        simp only at h ⊢
        have h := hput _ _ _ h
        cases hq : fr.put o.dst v with
        | none => rw [hq] at h; cases h
        | some fr' =>
         rw [hq] at h
         exact draw_calm l (i :: acts) _ fr' S' r hrest ⟨rfl, List.mem_cons_self⟩ h
       | pan v S' =>
        simp only at h ⊢
        have hall : (l.all fun j => ancOf ms i j) = true := by
         cases hqt : quiet3 o.op with
         | false => rw [hqt] at hall; simpa using hall
         | true =>
          exfalso
          unfold actE at ha
          split at ha
          ·rename_i heq; rw [heq] at hqt; cases hqt
          ·repeat' split at ha
           all_goals cases ha
          ·repeat' split at ha
           all_goals cases ha
          ·rename_i heq; rw [heq] at hqt; cases hqt
          ·repeat' split at ha
           all_goals cases ha
        have hfil : (l.filter fun j => !ancOf ms i j) = [] := by
         rw [List.filter_eq_nil_iff]
         intro j hj
         simp [List.all_eq_true.1 hall j hj]
        rw [hfil]
        simp only [mildsE, dropT]
        exact h
       | dfr d =>
        exfalso
        unfold actE at ha
        split at ha
        ·repeat' split at ha
         all_goals cases ha
        ·repeat' split at ha
         all_goals cases ha
        ·rename_i heq; rw [heq] at hp3; cases hp3
        ·repeat' split at ha
         all_goals cases ha
        ·repeat' split at ha
         all_goals cases ha
       | rcv p v =>
        exfalso
        unfold actE at ha
        split at ha
        ·repeat' split at ha
         all_goals cases ha
        ·rename_i heq; rw [heq] at hp3; cases hp3
        ·repeat' split at ha
         all_goals cases ha
        ·repeat' split at ha
         all_goals cases ha
        ·repeat' split at ha
         all_goals cases ha
      ·have hb : Nat.beq (clsE o.op) 3 = false := by
        cases hq : Nat.beq (clsE o.op) 3 with
        | false => rfl
        | true => exact absurd (Nat.eq_of_beq_eq_true hq) h3
       simp only [hb, Bool.false_eq_true, if_false]
       have hcl : clsE o.op = 0 ∨ clsE o.op = 2 := by
        split at hc
        ·left; assumption
        ·right; assumption
        ·rename_i h4; exact absurd h4 h3
        ·cases hc
       have hval : ∃ v S', opE P o.op fr.opd S = some (v, S') ∧ a = .val v S' := by
        unfold actE at ha
        split at ha
        ·rename_i heq; rw [heq] at h3; exact absurd rfl h3
        ·rename_i heq; rw [heq] at hp3; cases hp3
        ·rename_i heq; rw [heq] at hp3; cases hp3
        ·rename_i heq; rw [heq] at h3; exact absurd rfl h3
        ·cases ho2 : opE P o.op fr.opd S with
         | none => rw [ho2] at ha; cases ha
         | some q => obtain ⟨v, S'⟩ := q; rw [ho2] at ha; cases ha; exact ⟨v, S', rfl, rfl⟩
       obtain ⟨v, S', ho2, rfl⟩ := hval
       have hS := cls0_state hcl ho2
       subst hS
       simp only at h
       rcases hcl with h0 | h2
       ·rw [h0] at hc
        simp only [Bool.and_eq_true] at hc
        refine mild v ⟨acts, fun _ h => h, hc.2⟩ (by simp only [mildE, hw, hope, ho2, h0]) (hput _ _ _ h)
       ·rw [h2] at hc
        simp only [Bool.and_eq_true] at hc
        refine mild v ⟨acts, fun _ h => h, hc.2⟩ (by simp only [mildE, hw, hope, ho2, h2, sameE_good (hope.trans ho2) hc.1.2 T hT, if_true]) (hput _ _ _ h)
def calmId (ops : Array Oper) : Bool := (planOf ops).ok && decide ((planOf ops).ord = List.range ops.size) && calmL ops (planOf ops).ms (planOf ops).ord []
def calmAt (ops : Array Oper) (ord : List Nat) : Bool := (planOf ops).ok && decide ((planOf ops).ord = ord) && calmL ops (planOf ops).ms (planOf ops).ord []
theorem region_calmAt [Glob] {rec : Rec} {ops : Array Oper} {ord : List Nat} (h : calmAt ops ord = true) {fr : Fr} {S : St} {r : Rs} (hr : opsL rec P ops (ord.filterMap (ops[·]?)) fr S = some r) : regionE rec P ops true fr S = some r := by
 simp only [calmAt, Bool.and_eq_true, decide_eq_true_eq] at h
 obtain ⟨⟨h1, h2⟩, h3⟩ := h
 subst h2
 simp only [regionE, h1, if_true]
 exact draw_calm _ [] [] fr S r h3 rfl hr
theorem region_calmId [Glob] {rec : Rec} {ops : Array Oper} (h : calmId ops = true) {fr : Fr} {S : St} {r : Rs} (hr : opsL rec P ops ops.toList fr S = some r) : regionE rec P ops true fr S = some r := by
 refine region_calmAt (ord := List.range ops.size) h ?_
 rw [range_ops]; exact hr
end
end Go.Ev
namespace Go.Ev
open Go.RowKit
abbrev K := X → Fr → St → Prop
def Run [Glob] (P : Program) (c : Code) (fr : Fr) (S : St) (k : K) : Prop := ∃ x fr' S', lim P (.code c fr) S = some (.code x fr' S') ∧ k x fr' S'
structure Go [Glob] (P : Program) (F : Sh) (E : Env) (S : St) (c : Code) (k : K) : Prop where
 h : ∀ fr, Has F E fr → Run P c fr S k
structure Opl [Glob] (P : Program) (ops : Array Oper) (os : List Oper) (F : Sh) (E : Env) (S : St) (k : K) : Prop where
 h : ∀ fr, Has F E fr → ∃ x fr' S', opsL (lim P) P ops os fr S = some (.code x fr' S') ∧ k x fr' S'
structure At (x : X) (k : K) (F : Sh) (E : Env) (S : St) : Prop where
 h : ∀ fr, Has F E fr → k x fr S
def Ks [Glob] (P : Program) (b : Code) (k : K) : K := fun x fr S => match x with
 | .normal => Run P b fr S k
 | x => k x fr S
def Kb (n : Nat) (k : K) : K := fun x fr S => match x with
 | .exit m => match Nat.beq m n with
  | true => k .normal fr S
  | false => k (.exit m) fr S
 | x => k x fr S
section
variable {P : Program} {F : Sh} {E E' : Env} {S S' : St} {k : K} {ops : Array Oper} {os : List Oper} {c a b : Code} {n m : Nat} {v : V}
theorem Go.weaken [Glob] (h : Go P F E' S c k) (hs : Sub E' E) : Go P F E S c k := ⟨fun fr hf => h.h fr (hf.sub hs)⟩
theorem At.seq [Glob] (h : Go P F E S b k) : At .normal (Ks P b k) F E S := ⟨fun fr hf => h.h fr hf⟩
theorem At.seqx [Glob] (h : At (.exit m) k F E S) : At (.exit m) (Ks P b k) F E S := ⟨h.h⟩
theorem At.seqr [Glob] (h : At .ret k F E S) : At .ret (Ks P b k) F E S := ⟨h.h⟩
theorem At.seqp [Glob] (h : At (.panic v) k F E S) : At (.panic v) (Ks P b k) F E S := ⟨h.h⟩
theorem At.blk (h : At .normal k F E S) : At .normal (Kb n k) F E S := ⟨h.h⟩
theorem At.seqg [Glob] {l : Nat} (h : At (.goto l) k F E S) : At (.goto l) (Ks P b k) F E S := ⟨h.h⟩
theorem At.blkg {l : Nat} (h : At (.goto l) k F E S) : At (.goto l) (Kb n k) F E S := ⟨h.h⟩
theorem At.blkr (h : At .ret k F E S) : At .ret (Kb n k) F E S := ⟨h.h⟩
theorem At.blkp (h : At (.panic v) k F E S) : At (.panic v) (Kb n k) F E S := ⟨h.h⟩
theorem At.blkx (h : At .normal k F E S) : At (.exit n) (Kb n k) F E S := .mk fun fr hf => by
 show (match Nat.beq n n with | true => k .normal fr S | false => k (.exit n) fr S)
 rw [Nat.beq_refl]; exact h.h fr hf
theorem At.blky (hm : Nat.beq m n = false) (h : At (.exit m) k F E S) : At (.exit m) (Kb n k) F E S := .mk fun fr hf => by
 show (match Nat.beq m n with | true => k .normal fr S | false => k (.exit m) fr S)
 rw [hm]; exact h.h fr hf
theorem Run.of_step [Glob] {fr : Fr} {x : X} {fr' : Fr} (h : stepT P (lim P) (.code c fr) S = some (.code x fr' S')) (hk : k x fr' S') : Run P c fr S k :=
 ⟨x, fr', S', lim_of_stepC h, hk⟩
theorem Go.skip [Glob] (h : At .normal k F E S) : Go P F E S .skip k := .mk fun fr hf => .of_step rfl (h.h fr hf)
theorem Go.ret [Glob] (h : At .ret k F E S) : Go P F E S .ret k := .mk fun fr hf => .of_step rfl (h.h fr hf)
theorem Go.exit [Glob] (h : At (.exit n) k F E S) : Go P F E S (.exit n) k := .mk fun fr hf => .of_step rfl (h.h fr hf)
theorem Go.label [Glob] {l : Nat} (h : At .normal k F E S) : Go P F E S (.label l) k := .mk fun fr hf => .of_step rfl (h.h fr hf)
theorem Go.goto [Glob] {l : Nat} (h : At (.goto l) k F E S) : Go P F E S (.goto l) k := .mk fun fr hf => .of_step rfl (h.h fr hf)
theorem Go.seq [Glob] (h : Go P F E S a (Ks P b k)) : Go P F E S (.seq a b) k := .mk fun fr hf => by
 obtain ⟨x, fr', S', h1, h2⟩ := h.h fr hf
 cases x with
 | normal =>
  obtain ⟨y, fr2, S2, h3, h4⟩ := h2
  exact .of_step (by simp only [stepT, h1]; exact h3) h4
 | _ => exact .of_step (by simp only [stepT, h1]) h2
theorem Go.cond [Glob] {x : Operand} {q : Bool} (hx : Env.opd E x = some (.bool q)) (h1 : q = true → Go P F E S a k) (h2 : q = false → Go P F E S b k) : Go P F E S (.cond x a b) k := .mk fun fr hf => by
 cases q with
 | true =>
  obtain ⟨y, fr2, S2, h3, h4⟩ := (h1 rfl).h fr hf
  exact .of_step (by simp only [stepT, hf.opd hx]; exact h3) h4
 | false =>
  obtain ⟨y, fr2, S2, h3, h4⟩ := (h2 rfl).h fr hf
  exact .of_step (by simp only [stepT, hf.opd hx]; exact h3) h4
theorem Go.condT [Glob] {x : Operand} (hx : Env.opd E x = some (.bool true)) (h1 : Go P F E S a k) : Go P F E S (.cond x a b) k := .cond hx (fun _ => h1) (fun h => by cases h)
theorem Go.condF [Glob] {x : Operand} (hx : Env.opd E x = some (.bool false)) (h1 : Go P F E S b k) : Go P F E S (.cond x a b) k := .cond hx (fun h => by cases h) (fun _ => h1)
theorem Go.block [Glob] (h : Go P F E S c (Kb n k)) : Go P F E S (.block n c) k := .mk fun fr hf => by
 obtain ⟨x, fr', S', h1, h2⟩ := h.h fr hf
 cases x with
 | exit m =>
  have h2 : (match Nat.beq m n with | true => k .normal fr' S' | false => k (.exit m) fr' S') := h2
  cases hm : Nat.beq m n with
  | true =>
   rw [hm] at h2
   exact .of_step (by simp only [stepT, h1, hm, if_true]) h2
  | false =>
   rw [hm] at h2
   exact .of_step (by simp only [stepT, h1, hm, Bool.false_eq_true, if_false]) h2
 | _ => exact .of_step (by simp only [stepT, h1]) h2
theorem Go.loop [Glob] (h : Go P F E S c (Ks P (.loop c) k)) : Go P F E S (.loop c) k := .mk fun fr hf => by
 obtain ⟨x, fr', S', h1, h2⟩ := h.h fr hf
 cases x with
 | normal =>
  obtain ⟨y, fr2, S2, h3, h4⟩ := h2
  exact .of_step (by simp only [stepT, h1]; exact h3) h4
 | _ => exact .of_step (by simp only [stepT, h1]) h2
theorem Go.loop_ind [Glob] {α : Type} (μ : α → Nat) (Inv : α → Env → St → Prop)
 (h : ∀ x E S, Inv x E S → (∀ y E' S', μ y < μ x → Inv y E' S' → Go P F E' S' (.loop c) k) → Go P F E S c (Ks P (.loop c) k)) : ∀ x E S, Inv x E S → Go P F E S (.loop c) k := by
 have : ∀ n x E S, μ x < n → Inv x E S → Go P F E S (.loop c) k := by
  intro n
  induction n with
  | zero => intro x E S hx; omega
  | succ n ih => exact fun x E S hx hI => .loop (h x E S hI fun y E' S' hy hI' => ih y E' S' (by omega) hI')
 exact fun x E S => this (μ x + 1) x E S (by omega)
theorem Go.region [Glob] {i : Nat} (h : Opl P ops ops.toList F E S k) : Go P F E S (.region i ops false) k := .mk fun fr hf => by
 obtain ⟨x, fr', S', h1, h2⟩ := h.h fr hf
 exact .of_step (by simp only [stepT]; rw [region_opsL]; exact h1) h2
theorem Go.drawId [Glob] {i : Nat} (hc : calmId ops = true) (h : Opl P ops ops.toList F E S k) : Go P F E S (.region i ops true) k := .mk fun fr hf => by
 obtain ⟨x, fr', S', h1, h2⟩ := h.h fr hf
 exact .of_step (by simp only [stepT]; exact region_calmId hc h1) h2
theorem Go.drawAt [Glob] {i : Nat} (ord : List Nat) (hc : calmAt ops ord = true) (h : Opl P ops (ord.filterMap (ops[·]?)) F E S k) : Go P F E S (.region i ops true) k := .mk fun fr hf => by
 obtain ⟨x, fr', S', h1, h2⟩ := h.h fr hf
 exact .of_step (by simp only [stepT]; exact region_calmAt hc h1) h2
theorem Opl.nil [Glob] (h : At .normal k F E S) : Opl P ops [] F E S k := .mk fun fr hf => ⟨.normal, fr, S, rfl, h.h fr hf⟩
variable {d j : Nat} {op : Op} {ty : TypeId} {pos : String} {after : Array Edge} {w : Bool}
theorem opsL_one [Glob] {o : Oper} {fr : Fr} (h : ∃ x fr' S', (match oneE (lim P) P ops o fr S with
 | some (.code .normal fr' S') => opsL (lim P) P ops os fr' S'
 | r => r) = some (.code x fr' S') ∧ k x fr' S') : ∃ x fr' S', opsL (lim P) P ops (o :: os) fr S = some (.code x fr' S') ∧ k x fr' S' := h
theorem Opl.act [Glob] {o : Oper} (h : ∀ fr, Has F E fr → ∃ fr' , oneE (lim P) P ops o fr S = some (.code .normal fr' S') ∧ ∃ F' E', Has F' E' fr' ∧ Opl P ops os F' E' S' k) : Opl P ops (o :: os) F E S k := .mk fun fr hf => by
 obtain ⟨fr', h1, F', E', h2, h3⟩ := h fr hf
 refine opsL_one ?_
 rw [h1]
 exact h3.h fr' h2
theorem Opl.val [Glob] (h : opE P op (Env.opd E) S = some (v, S')) (hd : Nat.blt d F.n = true) (hk : Opl P ops os F ((d, v) :: E) S' k) : Opl P ops (⟨some d, op, ty, pos, after, none⟩ :: os) F E S k :=
 .act fun fr hf => by
  obtain ⟨fr', h1, h2⟩ := hf.put v hd
  refine ⟨fr', ?_, F, _, h2, hk⟩
  simp only [oneE, wantE, opE_act (opE_mono (fun x v => hf.opd) h) (lim P) fr.pan, putE, h1]
theorem Opl.eff [Glob] (h : opE P op (Env.opd E) S = some (v, S')) (hk : Opl P ops os F E S' k) : Opl P ops (⟨none, op, ty, pos, after, none⟩ :: os) F E S k :=
 .act fun fr hf => by
  refine ⟨fr, ?_, F, _, hf, hk⟩
  simp only [oneE, wantE, opE_act (opE_mono (fun x v => hf.opd) h) (lim P) fr.pan, putE, Fr.put]
def gd (ops : Array Oper) (E : Env) (j : Nat) (w : Bool) : Option Bool :=
 match (ops[j]?).bind (·.dst) with
 | none => none
 | some d => match Env.get E d with
  | some (.bool b) => some (b == w)
  | some (.tup []) => some false
  | _ => none
theorem gd_want {fr : Fr} (hf : Has F E fr) {q : Bool} (h : gd ops E j w = some q) : wantE ops ⟨some d, op, ty, pos, after, some (j, w)⟩ fr = some q := by
 unfold gd at h
 simp only [wantE]
 cases h1 : (ops[j]?).bind (·.dst) with
 | none => rw [h1] at h; cases h
 | some e =>
  rw [h1] at h
  simp only at h ⊢
  cases h2 : Env.get E e with
  | none => rw [h2] at h; cases h
  | some u =>
   rw [h2] at h
   rw [hf.t e u h2]
   exact h
theorem Opl.gno [Glob] (hg : gd ops E j w = some false) (hd : Nat.blt d F.n = true) (hk : Opl P ops os F ((d, .tup []) :: E) S k) : Opl P ops (⟨some d, op, ty, pos, after, some (j, w)⟩ :: os) F E S k :=
 .act fun fr hf => by
  obtain ⟨fr', h1, h2⟩ := hf.put (.tup []) hd
  refine ⟨fr', ?_, F, _, h2, hk⟩
  simp only [oneE, gd_want hf hg, putE, h1]
theorem Opl.gon [Glob] {q : Bool} (hg : gd ops E j w = some q) (hd : Nat.blt d F.n = true) (h1 : q = true → Opl P ops (⟨some d, op, ty, pos, after, none⟩ :: os) F E S k)
 (h2 : q = false → Opl P ops os F ((d, .tup []) :: E) S k) : Opl P ops (⟨some d, op, ty, pos, after, some (j, w)⟩ :: os) F E S k := by
 cases q with
 | false => exact .gno hg hd (h2 rfl)
 | true =>
  refine ⟨fun fr hf => ?_⟩
  have := (h1 rfl).h fr hf
  simp only [opsL, oneE, gd_want hf hg] at this ⊢
  simpa only [wantE] using this
theorem Opl.panic [Glob] {x : Operand} {t : TypeId} {u : V} {ds : Option Nat} (h : Env.opd E x = some (.iface t u)) (hk : At (.panic (.iface t u)) k F E S) : Opl P ops (⟨ds, .panic x, ty, pos, after, none⟩ :: os) F E S k := .mk fun fr hf =>
 ⟨.panic (.iface t u), fr, S, by simp only [opsL, oneE, wantE, actE, hf.opd h], hk.h fr hf⟩
def hasBody (P : Program) (g : FuncId) : Bool := match P.funcs[g]? with
 | some fn => fn.body.isSome
 | none => false
def CallTo [Glob] (P : Program) (g : FuncId) (l : List V) (S : St) (Qr Qp : V → St → Prop) : Prop :=
 (∃ v S', lim P (.call g l) S = some (.ret v S') ∧ Qr v S') ∨ (∃ v S', lim P (.call g l) S = some (.pan v S') ∧ Qp v S')
theorem CallTo.mono [Glob] {g : FuncId} {l : List V} {Qr Qp Qr' Qp' : V → St → Prop} (h : CallTo P g l S Qr Qp) (h1 : ∀ v S', Qr v S' → Qr' v S') (h2 : ∀ v S', Qp v S' → Qp' v S') : CallTo P g l S Qr' Qp' := by
 rcases h with ⟨v, S', h3, h4⟩ | ⟨v, S', h3, h4⟩
 ·exact .inl ⟨v, S', h3, h1 _ _ h4⟩
 ·exact .inr ⟨v, S', h3, h2 _ _ h4⟩
theorem isYld_none {ev : Operand → Option V} {f : Operand} {args : Array Operand} {q : FuncId × List V} (hf : calleeE ev f args = some q) : isYld (ev f) = none := by
 unfold calleeE at hf
 split at hf
 ·rename_i h1 _; rw [h1]; rfl
 ·cases hf
theorem act_ret [Glob] {g : FuncId} {l : List V} {f : Operand} {args : Array Operand} {ats : Array TypeId} {ev : Operand → Option V} {pan : Pan} (hb : hasBody P g = true) (hf : calleeE ev f args = some (g, l)) (hr : lim P (.call g l) S = some (.ret v S')) :
 actE (lim P) P (.call { callee := .value f, args, argTypes := ats }) ev pan S = some (.val v S') := by
 unfold hasBody at hb
 simp only [actE, hf, isYld_none hf]
 cases h1 : P.funcs[g]? with
 | none => rw [h1] at hb; cases hb
 | some fn =>
  rw [h1] at hb
  simp only at hb ⊢
  cases h2 : fn.body with
  | none => rw [h2] at hb; cases hb
  | some c => simp only [hr]
theorem act_pan [Glob] {g : FuncId} {l : List V} {f : Operand} {args : Array Operand} {ats : Array TypeId} {ev : Operand → Option V} {pan : Pan} (hb : hasBody P g = true) (hf : calleeE ev f args = some (g, l)) (hr : lim P (.call g l) S = some (.pan v S')) :
 actE (lim P) P (.call { callee := .value f, args, argTypes := ats }) ev pan S = some (.pan v S') := by
 unfold hasBody at hb
 simp only [actE, hf, isYld_none hf]
 cases h1 : P.funcs[g]? with
 | none => rw [h1] at hb; cases hb
 | some fn =>
  rw [h1] at hb
  simp only at hb ⊢
  cases h2 : fn.body with
  | none => rw [h2] at hb; cases hb
  | some c => simp only [hr]
theorem Opl.call [Glob] {f : Operand} {args : Array Operand} {ats : Array TypeId} {g : FuncId} {l : List V} {Qr Qp : V → St → Prop} (hf : calleeE (Env.opd E) f args = some (g, l)) (hb : hasBody P g = true) (hc : CallTo P g l S Qr Qp)
 (hd : Nat.blt d F.n = true) (h1 : ∀ v S', Qr v S' → Opl P ops os F ((d, v) :: E) S' k) (h2 : ∀ v S', Qp v S' → At (.panic v) k F E S') :
 Opl P ops (⟨some d, .call { callee := .value f, args, argTypes := ats }, ty, pos, after, none⟩ :: os) F E S k := .mk fun fr hfr => by
 have hcal := calleeE_mono (fun x v => hfr.opd) hf
 rcases hc with ⟨v, S', h3, h4⟩ | ⟨v, S', h3, h4⟩
 ·obtain ⟨fr', h5, h6⟩ := hfr.put v hd
  refine opsL_one ?_
  simp only [oneE, wantE, act_ret hb hcal h3, putE, h5]
  exact (h1 v S' h4).h fr' h6
 ·refine opsL_one ?_
  simp only [oneE, wantE, act_pan hb hcal h3]
  exact ⟨_, _, _, rfl, (h2 v S' h4).h fr hfr⟩
theorem Opl.callv [Glob] {f : Operand} {args : Array Operand} {ats : Array TypeId} {g : FuncId} {l : List V} {r : V} {Q : St → Prop} {Qp : V → St → Prop} (hf : calleeE (Env.opd E) f args = some (g, l)) (hb : hasBody P g = true) (hc : CallTo P g l S (fun v S' => v = r ∧ Q S') Qp)
 (hd : Nat.blt d F.n = true) (h1 : ∀ S', Q S' → Opl P ops os F ((d, r) :: E) S' k) (h2 : ∀ v S', Qp v S' → At (.panic v) k F E S') :
 Opl P ops (⟨some d, .call { callee := .value f, args, argTypes := ats }, ty, pos, after, none⟩ :: os) F E S k :=
 .call hf hb hc hd (fun v S' h => by obtain ⟨rfl, h⟩ := h; exact h1 S' h) h2
theorem Opl.callr [Glob] {f : Operand} {args : Array Operand} {ats : Array TypeId} {g : FuncId} {l : List V} (hf : calleeE (Env.opd E) f args = some (g, l)) (hb : hasBody P g = true) (hc : lim P (.call g l) S = some (.ret v S'))
 (hd : Nat.blt d F.n = true) (h1 : Opl P ops os F ((d, v) :: E) S' k) :
 Opl P ops (⟨some d, .call { callee := .value f, args, argTypes := ats }, ty, pos, after, none⟩ :: os) F E S k :=
 .call (Qr := fun v' S'' => v' = v ∧ S'' = S') (Qp := fun _ _ => False) hf hb (.inl ⟨v, S', hc, rfl, rfl⟩) hd (fun v' S'' h => by obtain ⟨rfl, rfl⟩ := h; exact h1) (fun _ _ h => h.elim)
def envOf : Nat → List V → Env
 | _, [] => []
 | i, v :: l => (i, v) :: envOf (i + 1) l
theorem start_find : ∀ (l : List V) (i : Nat) (t : Tr V) (k : Nat) (v : V), Env.get (envOf i l) k = some v → (startFr.go i l t).find k = some v := by
 have keep : ∀ (l : List V) (i : Nat) (t : Tr V) (k : Nat), k < i → (startFr.go i l t).find k = t.find k := by
  intro l
  induction l with
  | nil => intro i t k _; rfl
  | cons u l ih =>
   intro i t k hk
   simp only [startFr.go]
   rw [ih (i + 1) _ k (by omega), Tr.find_put, if_neg (by omega)]
 intro l
 induction l with
 | nil => intro i t k v h; cases h
 | cons u l ih =>
  intro i t k v h
  simp only [envOf] at h
  rw [Env.get_cons] at h
  simp only [startFr.go]
  by_cases hk : i = k
  ·subst hk
   simp at h
   subst h
   rw [keep l (i + 1) _ i (by omega), Tr.find_put, if_pos rfl]
  ·rw [if_neg hk] at h
   exact ih (i + 1) _ k v h
theorem start_has (fn : Func) (args : List V) (p : Pan) {n : Nat} (hn : max args.length fn.ntmps = n) : Has ⟨n, [], p⟩ (envOf 0 args) (startFr fn args p) :=
 ⟨hn, rfl, rfl, fun k v h => start_find args 0 .leaf k v h⟩
def resV (P : Program) (E : Env) (S : St) : List ResultVar → Option (List V)
 | [] => some []
 | r :: rs => match (match r with
  | .tmp t => Env.get E t
  | .cell a t => match Env.get E a with
   | some p => loadE P t p S
   | none => none) with
  | none => none
  | some v => match resV P E S rs with
   | none => none
   | some vs => some (v :: vs)
def packV : List V → V
 | [v] => v
 | vs => .tup vs
def rvF (P : Program) (fr : Fr) (S : St) : ResultVar → Option V
 | .tmp t => fr.t.find t
 | .cell a t => match fr.t.find a with
  | some p => loadE P t p S
  | none => none
def rvE (P : Program) (E : Env) (S : St) : ResultVar → Option V
 | .tmp t => Env.get E t
 | .cell a t => match Env.get E a with
  | some p => loadE P t p S
  | none => none
theorem rv_of {fr : Fr} (hf : Has F E fr) {r : ResultVar} {u : V} (h : rvE P E S r = some u) : rvF P fr S r = some u := by
 cases r with
 | tmp t => exact hf.t _ _ h
 | cell a t =>
  simp only [rvE] at h
  simp only [rvF]
  cases h3 : Env.get E a with
  | none => rw [h3] at h; cases h
  | some p => rw [h3] at h; rw [hf.t _ _ h3]; exact h
theorem resV_mapO : ∀ (rs : List ResultVar) (vs : List V), resV P E S rs = some vs → mapO (rvE P E S) rs = some vs
 | [], vs, h => h
 | r :: rs, vs, h => by
  simp only [mapO]
  have h : (match rvE P E S r with
   | none => none
   | some v => match resV P E S rs with
    | none => none
    | some vs => some (v :: vs)) = some vs := by
   cases r <;> exact h
  cases h1 : rvE P E S r with
  | none => rw [h1] at h; cases h
  | some u =>
   rw [h1] at h
   simp only at h ⊢
   cases h3 : resV P E S rs with
   | none => rw [h3] at h; cases h
   | some us =>
    rw [h3] at h
    rw [resV_mapO rs us h3]
    exact h
theorem resultsE_rv (fn : Func) (fr : Fr) : resultsE P fn fr S = (match mapO (rvF P fr S) fn.results.toList with
 | some [v] => some v
 | some vs => some (.tup vs)
 | none => none) := by
 have : (rvF P fr S) = (fun r => match r with
  | ResultVar.tmp t => fr.t.find t
  | ResultVar.cell a t => match fr.t.find a with
   | some p => loadE P t p S
   | none => none) := by
  funext r
  cases r <;> rfl
 rw [this]
 rfl
theorem res_of {fn : Func} {fr : Fr} (hf : Has F E fr) {rs : List ResultVar} (hrs : fn.results.toList = rs) {vs : List V} (h : resV P E S rs = some vs) : resultsE P fn fr S = some (packV vs) := by
 rw [resultsE_rv, hrs, mapO_mono (fun r u hu => rv_of hf hu) (resV_mapO rs vs h)]
 cases vs with
 | nil => rfl
 | cons x xs =>
  cases xs with
  | nil => rfl
  | cons => rfl
def Kf (P : Program) (fn : Func) (Qr Qp : V → St → Prop) : K := fun x fr S => match x with
 | .normal => fr.ds = [] ∧ ∃ v, resultsE P fn fr S = some v ∧ Qr v S
 | .ret => fr.ds = [] ∧ ∃ v, resultsE P fn fr S = some v ∧ Qr v S
 | .panic v => fr.ds = [] ∧ Qp v S
 | .exit _ => False
 | .goto _ => False
theorem CallTo.of [Glob] {g : FuncId} {l : List V} {fn : Func} {c : Code} {Qr Qp : V → St → Prop} {n : Nat} (hf : P.funcs[g]? = some fn) (hb : fn.body = some c) (hn : max l.length fn.ntmps = n) (h : Go P ⟨n, [], .norm⟩ (envOf 0 l) S c (Kf P fn Qr Qp)) (hl : orc P (.call g l) S = none := by rfl) : CallTo P g l S Qr Qp := by
 obtain ⟨x, fr, S', h1, h2⟩ := h.h _ (start_has fn l .norm hn)
 cases x with
 | normal =>
  obtain ⟨h3, v, h4, h5⟩ := h2
  refine .inl ⟨v, S', lim_of_step ?_ hl, h5⟩
  simp only [stepT, hf, hb, h1, h3, leaveE, h4, Option.map]
 | ret =>
  obtain ⟨h3, v, h4, h5⟩ := h2
  refine .inl ⟨v, S', lim_of_step ?_ hl, h5⟩
  simp only [stepT, hf, hb, h1, h3, leaveE, h4, Option.map]
 | panic v =>
  obtain ⟨h3, h5⟩ := h2
  refine .inr ⟨v, S', lim_of_step ?_ hl, h5⟩
  simp only [stepT, hf, hb, h1, h3, leaveE]
 | exit m => exact h2.elim
 | goto m => exact h2.elim
theorem At.fn {fn : Func} {Qr Qp : V → St → Prop} {rs : List ResultVar} {vs : List V} (hrs : fn.results.toList = rs) (hd : F.ds = []) (h : resV P E S rs = some vs) (hq : Qr (packV vs) S) : At .normal (Kf P fn Qr Qp) F E S := .mk fun fr hf =>
 ⟨by rw [hf.ds, hd], _, res_of hf hrs h, hq⟩
theorem At.fnr {fn : Func} {Qr Qp : V → St → Prop} {rs : List ResultVar} {vs : List V} (hrs : fn.results.toList = rs) (hd : F.ds = []) (h : resV P E S rs = some vs) (hq : Qr (packV vs) S) : At .ret (Kf P fn Qr Qp) F E S := .mk fun fr hf =>
 ⟨by rw [hf.ds, hd], _, res_of hf hrs h, hq⟩
end
end Go.Ev
namespace Go.Ev
open Go.RowKit
def load1 (p : V) (S : St) : Option V := match rd S p 1 with
 | some [v] => some v
 | _ => none
def loadA (n : Nat) (p : V) (S : St) : Option V := (rd S p n).map .agg
class LdOne (P : Program) (t : TypeId) : Prop where
 h : loadE P t = load1
class LdAgg (P : Program) (t : TypeId) (n : outParam Nat) : Prop where
 h : loadE P t = loadA n
class SzN (P : Program) (t : TypeId) (n : outParam Nat) : Prop where
 h : szOf P t = some n
class Zer (P : Program) (t : TypeId) (z : outParam V) : Prop where
 h : zeroV P t = some z
def padd (p : V) (k : Nat) : V := match p with
 | .ptr id o => .ptr id (o + k)
 | .cptr t cs o => .cptr t cs (o + k)
 | v => v
def isP : V → Bool
 | .ptr _ _ => true
 | .cptr _ _ _ => true
 | _ => false
def addO (off : Nat) : V → Option V
 | .ptr id o => some (.ptr id (o + off))
 | .cptr t cs o => some (.cptr t cs (o + off))
 | _ => none
class Fld (P : Program) (t : TypeId) (f : Nat) (off : outParam Nat) : Prop where
 h : ∀ p, fieldAddrE P t p f = addO off p
class ConI (P : Program) (d : TypeId) (k : outParam IntKind) : Prop where
 h : P.underlying d = some (.int k)
class ElT (P : Program) (t : TypeId) (e : outParam TypeId) : Prop where
 h : P.underlying t = some (.slice e)
class IsStr (P : Program) (t : TypeId) : Prop where
 h : P.underlying t = some .string
class IsDesc (P : Program) (t : TypeId) : Prop where
 h : (P.underlying t).isSome = true
class Conc (P : Program) (t : TypeId) : Prop where
 h : concreteB P t = true
class App (P : Program) (t u : TypeId) (e : outParam TypeId) (n : outParam Nat) (a : outParam Bool) (bytes : outParam Nat) : Prop where
 el : elemT P t = some e
 inf : ∃ i ud z, P.info? e = some i ∧ i.size = n ∧ i.bytes = bytes ∧ aggT P e = some a ∧ P.underlying u = some ud ∧ isIntD ud = false ∧ zeroV P e = some z ∧ z.cells.length = n ∧ 1 ≤ n
section
variable {P : Program} {ev : Operand → Option V} {S S' : St} {x y a b : Operand} {t u : TypeId} {v w : V} {p : V} {n off id : Nat}
theorem op_move (h : ev x = some v) : opE P (.move x) ev S = some (v, S) := by simp [opE, h]
theorem op_assign (h : ev x = some v) : opE P (.assign x) ev S = some (v, S) := by simp [opE, h]
theorem op_pickT {c : Operand} (hc : ev c = some (.bool true)) (h : ev a = some v) : opE P (.pick c a b) ev S = some (v, S) := by simp [opE, h, hc]
theorem op_pickF {c : Operand} (hc : ev c = some (.bool false)) (h : ev b = some v) : opE P (.pick c a b) ev S = some (v, S) := by simp [opE, h, hc]
theorem op_alloc {z : V} [hz : Zer P t z] : opE P (.alloc t) ev S = some (.ptr S.next 0, S.new (.box t z.cells)) := by simp [opE, hz.h]
theorem op_box (h : ev x = some v) : opE P (.box t x) ev S = some (.ptr S.next 0, S.new (.box t v.cells)) := by simp [opE, h]
theorem op_load (h : ev a = some p) (hl : loadE P t p S = some v) : opE P (.load t a) ev S = some (v, S) := by simp [opE, h, hl]
theorem op_store (h : ev a = some p) (h2 : ev x = some v) (hl : storeE P t p v S = some S') : opE P (.store t a x) ev S = some (.tup [], S') := by simp [opE, h, h2, hl]
theorem op_nilP (h : ev x = some p) (hp : isP p = true) : opE P (.nilCheck x) ev S = some (p, S) := by
 cases p <;> first | (cases hp; done) | simp [opE, h]
theorem op_fld {f : Nat} [hf : Fld P t f off] (h : ev x = some p) (hp : isP p = true) : opE P (.fieldAddr t x f) ev S = some (padd p off, S) := by
 cases p <;> first | (cases hp; done) | simp [opE, h, hf.h, addO, padd]
theorem op_int {op : BinOp} {k : IntKind} {i j : Int} (h : ev x = some (.int k i)) (h2 : ev y = some (.int k j)) (ho : (match op with | .shl => false | .shr => false | _ => true) = true) (hi : intOp op k i j = some v) : opE P (.binOp op t x y u) ev S = some (v, S) := by
 simp only [opE, h, h2, binE]
 cases op <;> first | (cases ho; done) | simp [hi]
theorem op_shift {op : BinOp} {k k2 : IntKind} {i j : Int} (h : ev x = some (.int k i)) (h2 : ev y = some (.int k2 j)) (ho : (match op with | .shl => true | .shr => true | _ => false) = true) (hi : shiftE op k i j = some v) : opE P (.binOp op t x y u) ev S = some (v, S) := by
 simp only [opE, h, h2, binE]
 cases op <;> first | (cases ho; done) | simp [hi]
theorem op_bin {op : BinOp} {r : V} (h : ev x = some v) (h2 : ev y = some w) (hb : binE P op t x y v w = some r) : opE P (.binOp op t x y u) ev S = some (r, S) := by simp [opE, h, h2, hb]
theorem op_str {op : BinOp} {i j : List UInt8} (h : ev x = some (.str i)) (h2 : ev y = some (.str j)) (hi : strOp op i j = some v) : opE P (.binOp op t x y u) ev S = some (v, S) := by
 simp [opE, h, h2, binE, hi]
theorem op_un {op : UnOp} (h : ev x = some v) (hi : unE op v = some w) : opE P (.unOp op t x) ev S = some (w, S) := by simp [opE, h, hi]
theorem op_conv {s d : TypeId} (h : ev x = some v) (hi : convertE P s d v S = some (w, S')) : opE P (.convert s d x) ev S = some (w, S') := by simp [opE, h, hi]
theorem op_convI {s d : TypeId} {k k2 : IntKind} {i : Int} [hd : ConI P d k] [hs : IsDesc P s] (h : ev x = some (.int k2 i)) : opE P (.convert s d x) ev S = some (.int k (k.wrap i), S) := by
 refine op_conv h ?_
 have h1 := hs.h
 unfold convertE
 cases h2 : P.underlying s with
 | none => rw [h2] at h1; cases h1
 | some sd => rw [hd.h]
theorem op_mk [hc : Conc P t] (h : ev x = some v) : opE P (.makeInterface t x) ev S = some (.iface t v, S) := by simp [opE, h, hc.h]
theorem op_fn {f : FuncId} {first caps : Array Operand} {l m : List V} (h1 : mapO ev first.toList = some l) (h2 : mapO ev caps.toList = some m) : opE P (.makeFunc (.func f) first caps) ev S = some (.func f l m, S) := by simp [opE, h1, h2]
theorem op_build0 (hb : buildE P t [] = some v) : opE P (.build t #[]) ev S = some (v, S) := by simp [opE, mapO, hb]
theorem op_build1 {i : Nat} (h : ev x = some w) (hb : buildE P t [(i, w)] = some v) : opE P (.build t #[(i, x)]) ev S = some (v, S) := by simp [opE, mapO, h, hb]
theorem op_ext {i : Nat} {vs : List V} (h : ev x = some (.tup vs)) (hi : vs[i]? = some v) : opE P (.extract x i) ev S = some (v, S) := by simp [opE, h, hi]
theorem op_lenS [hs : IsStr P t] {ats : Array TypeId} {l : List TypeId} {s : List UInt8} {args : Array Operand} (ha : mapO ev args.toList = some [.str s]) (ht : ats.toList = t :: l) :
 opE P (.call { callee := .builtin .len, args, argTypes := ats }) ev S = some (.int .i64 s.length, S) := by
 simp only [opE, ha, ht, builtinE, lenE, hs.h, Option.map]
def elems : V → List V
 | .list _ _ es _ => es
 | _ => []
def isL : V → Bool
 | .nils => true
 | .mt => true
 | .list _ _ _ _ => true
 | _ => false
theorem op_lenL {e : TypeId} [hs : ElT P t e] {ats : Array TypeId} {l : List TypeId} {args : Array Operand} (ha : mapO ev args.toList = some [v]) (hv : isL v = true) (ht : ats.toList = t :: l) :
 opE P (.call { callee := .builtin .len, args, argTypes := ats }) ev S = some (.int .i64 ((elems v).length : Nat), S) := by
 cases v <;> first | (cases hv; done) | simp only [opE, ha, ht, builtinE, lenE, hs.h, Option.map, elems, List.length_nil]
theorem op_idxS [hs : IsStr P t] {s : List UInt8} {k : IntKind} {i : Nat} {c : UInt8} (h : ev x = some (.str s)) (h2 : ev y = some (.int k i)) (hc : s[i]? = some c) : opE P (.index t x y) ev S = some (.int .u8 c.toNat, S) := by
 simp [opE, h, h2, indexE, hs.h, hc]
theorem op_ixaL {e : TypeId} [hs : ElT P t e] [hn : SzN P e n] {k : IntKind} {i : Nat} {lt : Option TypeId} {es : List V} {tk : Tk} (h : ev x = some (.list lt n es tk)) (h2 : ev y = some (.int k i)) (hc : es[i]? = some v) :
 opE P (.indexAddr t x y) ev S = some (.cptr none v.cells 0, S) := by
 simp [opE, h, h2, indexAddrE, hs.h, hn.h, hc]
def Pt (S : St) (p : V) (cs : List V) : Prop := match p with
 | .ptr id off => ∃ e bs, S.h.find id = some (.box e bs) ∧ ∀ i v, cs[i]? = some v → bs[off + i]? = some v
 | .cptr _ bs off => ∀ i v, cs[i]? = some v → bs[off + i]? = some v
 | _ => False
theorem cut_one {bs : List V} {v : V} (h : bs[off]? = some v) : cut bs off 1 = some [v] := by
 have hlt : off < bs.length := (List.getElem?_eq_some_iff.1 h).1
 have he : bs.drop off = v :: bs.drop (off + 1) := by
  rw [List.drop_eq_getElem_cons hlt]
  congr 1
  exact (List.getElem?_eq_some_iff.1 h).2
 simp [cut, he]
theorem Pt.load1 {cs : List V} (h : Pt S p (v :: cs)) : load1 p S = some v := by
 cases p <;> first | exact h.elim | skip
 ·obtain ⟨e, bs, h1, h2⟩ := h
  have := cut_one (h2 0 v rfl)
  simp only [Nat.add_zero] at this
  simp [Ev.load1, rd, h1, this]
 ·have := cut_one (h 0 v rfl)
  simp only [Nat.add_zero] at this
  simp [Ev.load1, rd, this]
theorem Pt.sub {cs ds : List V} (h : Pt S p cs) (k : Nat) (hd : ∀ i v, ds[i]? = some v → cs[k + i]? = some v) : Pt S (padd p k) ds := by
 cases p <;> first | exact h.elim | skip
 ·obtain ⟨e, bs, h1, h2⟩ := h
  exact ⟨e, bs, h1, fun i v hi => by rw [Nat.add_assoc]; exact h2 _ _ (hd i v hi)⟩
 ·exact fun i v hi => by rw [Nat.add_assoc]; exact h _ _ (hd i v hi)
theorem Pt.at {cs : List V} (h : Pt S p cs) (k : Nat) (hv : cs[k]? = some v) : Pt S (padd p k) [v] :=
 h.sub k fun i u hi => by
  cases i with
  | zero => simp at hi; subst hi; exact hv
  | succ i => simp at hi
theorem Pt.drop {cs : List V} (h : Pt S p cs) (k : Nat) : Pt S (padd p k) (cs.drop k) :=
 h.sub k fun i u hi => by rw [List.getElem?_drop] at hi; exact hi
theorem ld_one [hl : LdOne P t] {cs : List V} (h : Pt S p (v :: cs)) : loadE P t p S = some v := by rw [hl.h]; exact h.load1
theorem cut_pre : ∀ {bs cs : List V} {off : Nat}, (∀ i v, cs[i]? = some v → bs[off + i]? = some v) → cut bs off cs.length = some cs := by
 intro bs cs off h
 have he : (bs.drop off).take cs.length = cs := by
  apply List.ext_getElem?
  intro i
  rw [List.getElem?_take]
  split
  ·rename_i hi
   rw [List.getElem?_drop]
   have := h i cs[i] (List.getElem?_eq_getElem hi)
   rw [this, List.getElem?_eq_getElem hi]
  ·rename_i hi
   rw [List.getElem?_eq_none (by omega)]
 simp [cut, he]
theorem ld_agg {cs : List V} [hl : LdAgg P t n] (h : Pt S p cs) (hn : cs.length = n) : loadE P t p S = some (.agg cs) := by
 rw [hl.h]
 subst hn
 cases p <;> first | exact h.elim | skip
 ·obtain ⟨e, bs, h1, h2⟩ := h
  simp [loadA, rd, h1, cut_pre h2]
 ·simp [loadA, rd, cut_pre h]
theorem st_one [hs : SzN P t 1] {e : TypeId} {cs cs' : List V} (hb : S.h.find id = some (.box e cs)) (hv : v.one = true) (hc : splice cs off [v] = some cs') : storeE P t (.ptr id off) v S = some { S with h := S.h.put id (.box e cs') } := by
 have hcell : v.cells = [v] := by cases v <;> first | rfl | cases hv
 simp [storeE, hb, hs.h, hcell, hv, hc]
theorem st_agg [hs : SzN P t n] {e : TypeId} {cs cs' vs : List V} (hb : S.h.find id = some (.box e cs)) (hl : vs.length = n) (hv : vs.all V.one = true) (hc : splice cs off vs = some cs') : storeE P t (.ptr id off) (.agg vs) S = some { S with h := S.h.put id (.box e cs') } := by
 have hcell : (V.agg vs).cells = vs := rfl
 simp only [storeE, hb, hs.h, hcell, hl, Nat.beq_refl, hv, Bool.and_self, if_true, hc]
theorem app_nil {e : TypeId} {ag : Bool} {bytes : Nat} [ha : App P t u e n ag bytes] {y : V} {ys : List V} (hy : readS S ag n y = some ys) (hys : ∀ z ∈ ys, z.cells.length = n ∧ z.cells.all V.one = true) (hne : ys.isEmpty = false) (hr : roomOk ys.length bytes = true) :
 appendE P t u .nils y S = some (.list (some e) n ys (.own S.next), S.new .tok) := by
 obtain ⟨i, ud, z, h1, h2, h3, h4, h5, h6, h7, h8, h9⟩ := ha.inf
 subst h2 h3
 have hall : ys.all (fun v => Nat.beq v.cells.length i.size && v.cells.all V.one) = true := List.all_eq_true.2 fun z hz => by
  rw [(hys z hz).1, (hys z hz).2, Nat.beq_refl]; rfl
 have hb : Nat.ble 1 i.size = true := Nat.ble_eq_true_of_le h9
 unfold appendE
 rw [ha.el]
 simp only [h1, h4, h5, h7, h6, hb, h8, Nat.beq_refl, hy, hall, hne, hr, Bool.not_true, Bool.or_false, Bool.false_eq_true, if_false, if_true]
theorem app_own {e : TypeId} {ag : Bool} {bytes : Nat} [ha : App P t u e n ag bytes] {es : List V} {y : V} {ys : List V} (htok : S.h.find id = some .tok) (hy : readS S ag n y = some ys) (hys : ∀ z ∈ ys, z.cells.length = n ∧ z.cells.all V.one = true)
 (hne : ys.isEmpty = false) (hr : roomOk (es.length + ys.length) bytes = true) :
 appendE P t u (.list (some e) n es (.own id)) y S = some (.list (some e) n (es ++ ys) (.own S.next), St.new { S with h := S.h.del id } .tok) := by
 obtain ⟨i, ud, z, h1, h2, h3, h4, h5, h6, h7, h8, h9⟩ := ha.inf
 subst h2 h3
 have hall : ys.all (fun v => Nat.beq v.cells.length i.size && v.cells.all V.one) = true := List.all_eq_true.2 fun z hz => by
  rw [(hys z hz).1, (hys z hz).2, Nat.beq_refl]; rfl
 have hb : Nat.ble 1 i.size = true := Nat.ble_eq_true_of_le h9
 unfold appendE
 rw [ha.el]
 simp only [h1, h4, h5, h7, h6, hb, h8, Nat.beq_refl, hy, hall, hne, hr, htok, Bool.not_true, Bool.or_false, Bool.false_eq_true, if_false, if_true]
theorem Opl.ext [Glob] {F : Sh} {E : Env} {k : K} {ops : Array Oper} {os : List Oper} {d : Nat} {ty : TypeId} {pos : String} {after : Array Edge} {f : Operand} {args : Array Operand} {ats : Array TypeId} {g : FuncId} {fn : Func} {l : List V}
 (hf : calleeE (Env.opd E) f args = some (g, l)) (hfn : P.funcs[g]? = some fn) (hb : fn.body = none) (hx : extE P fn l S = some (v, S')) (hd : Nat.blt d F.n = true) (h1 : Opl P ops os F ((d, v) :: E) S' k) :
 Opl P ops (⟨some d, .call { callee := .value f, args, argTypes := ats }, ty, pos, after, none⟩ :: os) F E S k :=
 .act fun fr hfr => by
  have hcal := calleeE_mono (fun x v => hfr.opd) hf
  obtain ⟨fr', h5, h6⟩ := hfr.put v hd
  refine ⟨fr', ?_, F, _, h6, h1⟩
  have hy : isYld (fr.opd f) = none := isYld_none hcal
  have hcal' : calleeE fr.opd f args = some (g, l) := hcal
  simp only [oneE, wantE, actE, hy, hcal', hfn, hb, hx, putE, h5]
theorem Opl.noesc [Glob] {F : Sh} {E : Env} {k : K} {ops : Array Oper} {os : List Oper} {d : Nat} {ty : TypeId} {pos : String} {after : Array Edge} {f : Operand} {args : Array Operand} {ats : Array TypeId} {g : FuncId} {fn : Func}
 (hf : calleeE (Env.opd E) f args = some (g, [v])) (hfn : P.funcs[g]? = some fn) (hb : fn.body = none) (hname : fn.name = "internal/abi.NoEscape") (hd : Nat.blt d F.n = true) (h1 : Opl P ops os F ((d, v) :: E) S k) :
 Opl P ops (⟨some d, .call { callee := .value f, args, argTypes := ats }, ty, pos, after, none⟩ :: os) F E S k :=
 .ext hf hfn hb (by simp only [extE, hname, if_true]) hd h1
def appOf (P : Program) (t u : TypeId) : Option (TypeId × Nat × Bool × Nat) :=
 match elemT P t with
 | none => none
 | some e => match P.info? e, aggT P e, P.underlying u, zeroV P e with
  | some i, some a, some ud, some z => if !isIntD ud && Nat.beq z.cells.length i.size && Nat.ble 1 i.size then some (e, i.size, a, i.bytes) else none
  | _, _, _, _ => none
theorem App.of {e : TypeId} {ag : Bool} {bytes : Nat} (h : appOf P t u = some (e, n, ag, bytes)) : App P t u e n ag bytes := by
 unfold appOf at h
 cases h1 : elemT P t with
 | none => rw [h1] at h; cases h
 | some e' =>
  rw [h1] at h
  simp only at h
  split at h
  ·rename_i i a ud z h2 h3 h4 h5
   split at h
   ·rename_i hc
    simp only [Bool.and_eq_true, Bool.not_eq_true'] at hc
    cases h
    exact ⟨h1, i, ud, z, h2, rfl, rfl, h3, h4, hc.1.1, h5, Nat.eq_of_beq_eq_true hc.1.2, Nat.le_of_ble_eq_true hc.2⟩
   ·cases h
  ·cases h
theorem op_app {ats : Array TypeId} {args : Array Operand} (ha : mapO ev args.toList = some [v, w]) (ht : ats.toList = [t, u]) {r : V} (h : appendE P t u v w S = some (r, S')) :
 opE P (.call { callee := .builtin .append, args, argTypes := ats }) ev S = some (r, S') := by
 simp only [opE, ha, ht, builtinE, h]
end
section
variable {P : Program} {ev : Operand → Option V} {S S' : St} {x : Operand} {t : TypeId} {v : V} {p : V} {off : Nat}
theorem Opl.std [Glob] {F : Sh} {E : Env} {k : K} {ops : Array Oper} {os : List Oper} {d : Nat} {op : Op} {ty : TypeId} {pos : String} {after : Array Edge}
 (hk : Opl P ops os F ((d, v) :: E) S' k)
 (h : opE P op (Env.opd E) S = some (v, S') := by
  first
  | exact op_move rfl
  | exact op_assign rfl
  | exact op_nilP rfl (by first | rfl | assumption | exact isP_padd (by assumption) _)
  | exact op_fld2 rfl (by first | rfl | assumption)
  | exact op_fld rfl (by first | rfl | assumption)
  | exact op_load rfl (ld_one (Pt.at (by assumption) _ rfl))
  | exact op_load rfl (ld_one (by assumption))
  | exact op_int rfl rfl rfl rfl
  | exact op_convI rfl
  | exact op_un rfl rfl
  | exact op_ext rfl rfl
  | exact op_mk rfl
  | exact op_fn rfl rfl
  | exact op_lenS rfl rfl
  | exact op_pickT rfl rfl
  | exact op_pickF rfl rfl)
 (hd : Nat.blt d F.n = true := by rfl) : Opl P ops (⟨some d, op, ty, pos, after, none⟩ :: os) F E S k := .val h hd hk
theorem Opl.gn [Glob] {F : Sh} {E : Env} {k : K} {ops : Array Oper} {os : List Oper} {d j : Nat} {w : Bool} {op : Op} {ty : TypeId} {pos : String} {after : Array Edge}
 (hk : Opl P ops os F ((d, .tup []) :: E) S k) (hg : gd ops E j w = some false := by rfl) (hd : Nat.blt d F.n = true := by rfl) : Opl P ops (⟨some d, op, ty, pos, after, some (j, w)⟩ :: os) F E S k := .gno hg hd hk
theorem At.xs [Glob] {F : Sh} {E : Env} {k : K} {x : X} {b : Code} (h : At x k F E S) (hx : (match x with | .normal => false | _ => true) = true := by rfl) : At x (Ks P b k) F E S := by
 cases x with
 | normal => cases hx
 | exit n => exact .seqx h
 | ret => exact .seqr h
 | panic v => exact .seqp h
 | goto l => exact .seqg h
def kbX (n : Nat) : X → X
 | .exit m => match Nat.beq m n with
  | true => .normal
  | false => .exit m
 | x => x
theorem kbN (n : Nat) : kbX n .normal = .normal := rfl
theorem kbR (n : Nat) : kbX n .ret = .ret := rfl
theorem kbP (n : Nat) (v : V) : kbX n (.panic v) = .panic v := rfl
theorem kbE (n : Nat) : kbX n (.exit n) = .normal := by simp [kbX]
theorem kbO {n m : Nat} (h : Nat.beq m n = false) : kbX n (.exit m) = .exit m := by simp only [kbX, h]
theorem At.kb {F : Sh} {E : Env} {k : K} {n : Nat} {x y : X} (h : At y k F E S) (hy : kbX n x = y := by first | exact kbN _ | exact kbE _ | exact kbO rfl | exact kbR _ | exact kbP _ _) : At x (Kb n k) F E S := by
 cases x with
 | normal => rw [kbN] at hy; subst hy; exact .blk h
 | ret => rw [kbR] at hy; subst hy; exact .blkr h
 | panic v => rw [kbP] at hy; subst hy; exact .blkp h
 | goto l => have hy : X.goto l = y := hy; subst hy; exact .blkg h
 | exit m =>
  cases hm : Nat.beq m n with
  | true =>
   have := Nat.eq_of_beq_eq_true hm
   subst this
   rw [kbE] at hy; subst hy
   exact .blkx h
  | false =>
   rw [kbO hm] at hy; subst hy
   exact .blky hm h
def leafX : Code → Option X
 | .skip => some .normal
 | .ret => some .ret
 | .exit n => some (.exit n)
 | .label _ => some .normal
 | .goto l => some (.goto l)
 | _ => none
theorem lfS : leafX .skip = some .normal := rfl
theorem lfR : leafX .ret = some .ret := rfl
theorem lfE (n : Nat) : leafX (.exit n) = some (.exit n) := rfl
theorem Go.leaf [Glob] {F : Sh} {E : Env} {k : K} {c : Code} {x : X} (h : At x k F E S) (hx : leafX c = some x := by first | exact lfS | exact lfE _ | exact lfR | exact lfL _ | exact lfG _) : Go P F E S c k := by
 cases c <;> first | (cases hx; done) | skip
 all_goals (cases hx; first | exact .skip h | exact .ret h | exact .exit h | exact .label h | exact .goto h)
theorem Go.dr [Glob] {F : Sh} {E : Env} {k : K} {ops : Array Oper} {i : Nat} (h : Opl P ops ops.toList F E S k) (hc : calmId ops = true := by kernel_rfl) : Go P F E S (.region i ops true) k := .drawId hc h
end
end Go.Ev
