/-
  Ev, part 25: regions whose draws may part a read from a call, where the call leaves what is read; deferred calls.
-/
import Derived.Test.YtilldjgagokcfaaGreatEvTac
set_option linter.unusedVariables false
set_option linter.unusedSimpArgs false
namespace Go.Ev
open Go.RowKit

section
variable {P : Program}

/-- All states behind operations of class 3 are of this kind. -/
def Tg (I : St → Prop) : List En → Prop
  | [] => True
  | .mild _ _ _ _ ob :: T => ob = none ∧ Tg I T
  | .act _ _ _ _ S :: T => I S ∧ Tg I T

structure Drw (P : Program) (ops : Array Oper) (ms : List Nat) (S0 : St) (I : St → Prop) (l : List Nat) (F : Sh) (E : Env) (S : St) (k : K) : Prop where
  h : ∀ fr T, Has F E fr → Tg I T → ∃ x fr' S', drawE (lim P) P ops ms S0 l T fr S = some (.code x fr' S') ∧ k x fr' S'

variable {ops : Array Oper} {ms : List Nat} {S0 S S' : St} {I : St → Prop} {l : List Nat} {F : Sh} {E : Env} {k : K} {i d : Nat} {op : Op} {ty : TypeId} {pos : String} {after : Array Edge} {v : V}

theorem Drw.nil (h : At .normal k F E S) : Drw P ops ms S0 I [] F E S k := .mk fun fr _ hf _ => ⟨.normal, fr, S, rfl, h.h fr hf⟩

theorem Drw.c0 (ho : ops[i]? = some ⟨some d, op, ty, pos, after, none⟩) (hc : clsE op = 0) (h : opE P op (Env.opd E) S = some (v, S')) (hd : Nat.blt d F.n = true) (hk : Drw P ops ms S0 I l F ((d, v) :: E) S k) : Drw P ops ms S0 I (i :: l) F E S k := .mk fun fr T hf hT => by
  obtain ⟨fr', h1, h2⟩ := hf.put v hd
  have hS := cls0_state (.inl hc) h
  subst hS
  have h3 := opE_mono (fun x v => hf.opd) h
  have h4 : opE P op (viewE fr (looks ops ⟨some d, op, ty, pos, after, none⟩)) S' = some (v, S') := (opE_congr (fun x hx => viewE_opd (o := ⟨some d, op, ty, pos, after, none⟩) hx) S').trans h3
  have hb : Nat.beq (clsE op) 3 = false := by rw [hc]; rfl
  obtain ⟨x, fr2, S2, h5, h6⟩ := hk.h fr' (.mild i ⟨some d, op, ty, pos, after, none⟩ v S'.next none :: T) h2 ⟨rfl, hT⟩
  refine ⟨x, fr2, S2, ?_, h6⟩
  simp only [drawE, ho, hb, Bool.false_and, Bool.false_eq_true, if_false, mildE, wantE, h4, hc, h1]
  exact h5

theorem sameE_all {op : Op} {ev : Operand → Option V} (h0 : opE P op ev S0 = some (v, S0)) (h : ∀ U, I U → opE P op ev U = some (v, U)) : ∀ (T : List En), Tg I T → sameE P ms i op ev v S0 T [] = true
  | [], _ => by simp only [sameE, sameAt, withs]; rw [h0]; exact V.beq_refl v
  | .mild j o u n ob :: T, hT => by
    obtain ⟨rfl, hT⟩ := hT
    simp only [sameE]
    exact sameE_all h0 h T hT
  | .act j o u n S1 :: T, hT => by
    simp only [sameE, sameAt, withs]
    rw [h S1 hT.1, sameE_all h0 h T hT.2]
    simp [V.beq_refl]

theorem Drw.c2 (ho : ops[i]? = some ⟨some d, op, ty, pos, after, none⟩) (hc : clsE op = 2) (h0 : I S0) (hS : I S) (h : ∀ U, I U → opE P op (Env.opd E) U = some (v, U)) (hd : Nat.blt d F.n = true) (hk : Drw P ops ms S0 I l F ((d, v) :: E) S k) : Drw P ops ms S0 I (i :: l) F E S k := .mk fun fr T hf hT => by
  obtain ⟨fr', h1, h2⟩ := hf.put v hd
  have h4 : ∀ U, I U → opE P op (viewE fr (looks ops ⟨some d, op, ty, pos, after, none⟩)) U = some (v, U) := fun U hU =>
    (opE_congr (fun x hx => viewE_opd (o := ⟨some d, op, ty, pos, after, none⟩) hx) U).trans (opE_mono (fun x v => hf.opd) (h U hU))
  have hb : Nat.beq (clsE op) 3 = false := by rw [hc]; rfl
  obtain ⟨x, fr2, S2, h5, h6⟩ := hk.h fr' (.mild i ⟨some d, op, ty, pos, after, none⟩ v S.next none :: T) h2 ⟨rfl, hT⟩
  refine ⟨x, fr2, S2, ?_, h6⟩
  simp only [drawE, ho, hb, Bool.false_and, Bool.false_eq_true, if_false, mildE, wantE, h4 S hS, hc, sameE_all (h4 S0 h0) h4 T hT, if_true, h1]
  exact h5

theorem Drw.call {f : Operand} {args : Array Operand} {ats : Array TypeId} {g : FuncId} {m : List V} {Q : V → St → Prop} (ho : ops[i]? = some ⟨some d, .call { callee := .value f, args, argTypes := ats }, ty, pos, after, none⟩)
    (hf : calleeE (Env.opd E) f args = some (g, m)) (hb : hasBody P g = true) (hc : CallTo P g m S Q (fun _ _ => False)) (hd : Nat.blt d F.n = true) (hk : ∀ v S', Q v S' → I S' ∧ Drw P ops ms S0 I l F ((d, v) :: E) S' k) :
    Drw P ops ms S0 I (i :: l) F E S k := .mk fun fr T hfr hT => by
  rcases hc with ⟨v, S', h3, h4⟩ | ⟨v, S', h3, h4⟩
  · obtain ⟨hI, hk⟩ := hk v S' h4
    obtain ⟨fr', h5, h6⟩ := hfr.put v hd
    have hcal := calleeE_mono (fun x v => hfr.opd) hf
    have hact : actE (lim P) P (.call { callee := .value f, args, argTypes := ats }) (viewE fr (looks ops ⟨some d, .call { callee := .value f, args, argTypes := ats }, ty, pos, after, none⟩)) fr.pan S = some (.val v S') :=
      (actE_congr (fun x hx => viewE_opd (o := ⟨some d, .call { callee := .value f, args, argTypes := ats }, ty, pos, after, none⟩) hx) _ _).trans (act_ret hb hcal h3)
    obtain ⟨x, fr2, S2, h7, h8⟩ := hk.h fr' (.act i ⟨some d, .call { callee := .value f, args, argTypes := ats }, ty, pos, after, none⟩ v S.next S' :: T) h6 ⟨hI, hT⟩
    refine ⟨x, fr2, S2, ?_, h8⟩
    have hcls : Nat.beq (clsE (.call { callee := .value f, args, argTypes := ats })) 3 = true := rfl
    simp only [drawE, ho, hcls, wantE, isT, Bool.and_self, if_true, hact, h5]
    exact h7
  · exact h4.elim

theorem Go.draw {id : Nat} (ms : List Nat) (ord : List Nat) (hp : planOf ops = ⟨ms, ord, true⟩) (I : St → Prop) (h : Drw P ops ms S I ord F E S k) : Go P F E S (.region id ops true) k := .mk fun fr hf => by
  obtain ⟨x, fr', S', h1, h2⟩ := h.h fr [] hf trivial
  refine .of_step ?_ h2
  simp only [stepT, regionE, hp, if_true]
  exact h1

/-! ### Deferred calls -/

def DcallTo (P : Program) (g : FuncId) (l : List V) (p : Pan) (S : St) (Q : Pan → St → Prop) : Prop := ∃ p' S', lim P (.dcall g l p) S = some (.dret p' S') ∧ Q p' S'

def Kd (P : Program) (fn : Func) (Q : Pan → St → Prop) : K := fun x fr S => match x with
  | .normal => fr.ds = [] ∧ (resultsE P fn fr S).isSome = true ∧ Q fr.pan S
  | .ret => fr.ds = [] ∧ (resultsE P fn fr S).isSome = true ∧ Q fr.pan S
  | _ => False

theorem DcallTo.of {g : FuncId} {l : List V} {p : Pan} {fn : Func} {c : Code} {Q : Pan → St → Prop} {n : Nat} (hf : P.funcs[g]? = some fn) (hb : fn.body = some c) (hn : max l.length fn.ntmps = n) (h : Go P ⟨n, [], p⟩ (envOf 0 l) S c (Kd P fn Q)) : DcallTo P g l p S Q := by
  obtain ⟨x, fr, S', h1, h2⟩ := h.h _ (start_has fn l p hn)
  cases x with
  | normal =>
    obtain ⟨h3, h4, h5⟩ := h2
    refine ⟨fr.pan, S', lim_of_step ?_, h5⟩
    cases hr : resultsE P fn fr S' with
    | none => rw [hr] at h4; cases h4
    | some v => simp only [stepT, hf, hb, h1, h3, hr]
  | ret =>
    obtain ⟨h3, h4, h5⟩ := h2
    refine ⟨fr.pan, S', lim_of_step ?_, h5⟩
    cases hr : resultsE P fn fr S' with
    | none => rw [hr] at h4; cases h4
    | some v => simp only [stepT, hf, hb, h1, h3, hr]
  | panic v => exact h2.elim
  | exit m => exact h2.elim

theorem At.dn {fn : Func} {Q : Pan → St → Prop} {rs : List ResultVar} {vs : List V} (hrs : fn.results.toList = rs) (hd : F.ds = []) (h : resV P E S rs = some vs) (hq : Q F.pan S) : At .normal (Kd P fn Q) F E S := .mk fun fr hf =>
  ⟨by rw [hf.ds, hd], by rw [res_of hf hrs h]; rfl, by rw [hf.pan]; exact hq⟩

/-- A function's end, where calls have been deferred. -/
def Kl (P : Program) (fn : Func) (Qr Qp : V → St → Prop) : K := fun x fr S =>
  ∃ p, (match x with
    | .normal => p = none
    | .ret => p = none
    | .panic v => p = some v
    | .exit _ => False) ∧
    ((∃ v S', leaveE (lim P) P fn fr fr.ds p S = some (.ret v S') ∧ Qr v S') ∨ (∃ v S', leaveE (lim P) P fn fr fr.ds p S = some (.pan v S') ∧ Qp v S'))

theorem CallTo.ofD {g : FuncId} {l : List V} {fn : Func} {c : Code} {Qr Qp : V → St → Prop} {n : Nat} (hf : P.funcs[g]? = some fn) (hb : fn.body = some c) (hn : max l.length fn.ntmps = n) (h : Go P ⟨n, [], .norm⟩ (envOf 0 l) S c (Kl P fn Qr Qp)) (hl : orc P (.call g l) S = none := by rfl) : CallTo P g l S Qr Qp := by
  obtain ⟨x, fr, S1, h1, p, hp, h2⟩ := h.h _ (start_has fn l .norm hn)
  cases x with
  | normal =>
    subst hp
    rcases h2 with ⟨v, S', h3, h4⟩ | ⟨v, S', h3, h4⟩
    · exact .inl ⟨v, S', lim_of_step (by simp only [stepT, hf, hb, h1]; exact h3) hl, h4⟩
    · exact .inr ⟨v, S', lim_of_step (by simp only [stepT, hf, hb, h1]; exact h3) hl, h4⟩
  | ret =>
    subst hp
    rcases h2 with ⟨v, S', h3, h4⟩ | ⟨v, S', h3, h4⟩
    · exact .inl ⟨v, S', lim_of_step (by simp only [stepT, hf, hb, h1]; exact h3) hl, h4⟩
    · exact .inr ⟨v, S', lim_of_step (by simp only [stepT, hf, hb, h1]; exact h3) hl, h4⟩
  | panic v0 =>
    subst hp
    rcases h2 with ⟨v, S', h3, h4⟩ | ⟨v, S', h3, h4⟩
    · exact .inl ⟨v, S', lim_of_step (by simp only [stepT, hf, hb, h1]; exact h3) hl, h4⟩
    · exact .inr ⟨v, S', lim_of_step (by simp only [stepT, hf, hb, h1]; exact h3) hl, h4⟩
  | exit m => exact hp.elim

/-- One deferred call, behind which the function's results stand in the same frame. -/
theorem At.lret {fn : Func} {Qr Qp : V → St → Prop} {g : FuncId} {m : List V} {rs : List ResultVar} {Q : Pan → St → Prop} (hrs : fn.results.toList = rs) (hds : F.ds = [(g, m)]) (hc : DcallTo P g m .quiet S Q)
    (hq : ∀ p S', Q p S' → p = .quiet ∧ ∃ vs, resV P E S' rs = some vs ∧ Qr (packV vs) S') : At .ret (Kl P fn Qr Qp) F E S := .mk fun fr hf => by
  obtain ⟨p', S', h1, h2⟩ := hc
  obtain ⟨rfl, vs, h3, h4⟩ := hq p' S' h2
  refine ⟨none, rfl, .inl ⟨packV vs, S', ?_, h4⟩⟩
  rw [hf.ds, hds]
  simp only [leaveE, h1, res_of hf hrs h3, Option.map]

theorem At.lpan {fn : Func} {Qr Qp : V → St → Prop} {g : FuncId} {m : List V} {rs : List ResultVar} {Q : Pan → St → Prop} {u : V} (hrs : fn.results.toList = rs) (hds : F.ds = [(g, m)]) (hc : DcallTo P g m (.live u) S Q)
    (hq : ∀ p S', Q p S' → (∃ w, p = .done w) ∧ ∃ vs, resV P E S' rs = some vs ∧ Qr (packV vs) S') : At (.panic u) (Kl P fn Qr Qp) F E S := .mk fun fr hf => by
  obtain ⟨p', S', h1, h2⟩ := hc
  obtain ⟨⟨w, rfl⟩, vs, h3, h4⟩ := hq p' S' h2
  refine ⟨some u, rfl, .inl ⟨packV vs, S', ?_, h4⟩⟩
  rw [hf.ds, hds]
  simp only [leaveE, h1, res_of hf hrs h3, Option.map]

end
end Go.Ev
