/-
  Ev, part 23: the walk's rules.
-/
import Derived.Test.YtilldjgagokcfaaGreatEvGo
set_option linter.unusedVariables false
set_option linter.unusedSimpArgs false
namespace Go.Ev
open Go.RowKit

abbrev K := X → Fr → St → Prop

def Run (P : Program) (c : Code) (fr : Fr) (S : St) (k : K) : Prop := ∃ x fr' S', lim P (.code c fr) S = some (.code x fr' S') ∧ k x fr' S'

/-- From every frame of which this much is known. -/
structure Go (P : Program) (F : Sh) (E : Env) (S : St) (c : Code) (k : K) : Prop where
  h : ∀ fr, Has F E fr → Run P c fr S k

/-- The same of operations. -/
structure Opl (P : Program) (ops : Array Oper) (os : List Oper) (F : Sh) (E : Env) (S : St) (k : K) : Prop where
  h : ∀ fr, Has F E fr → ∃ x fr' S', opsL (lim P) P ops os fr S = some (.code x fr' S') ∧ k x fr' S'

structure At (x : X) (k : K) (F : Sh) (E : Env) (S : St) : Prop where
  h : ∀ fr, Has F E fr → k x fr S

def Ks (P : Program) (b : Code) (k : K) : K := fun x fr S => match x with
  | .normal => Run P b fr S k
  | x => k x fr S

def Kb (n : Nat) (k : K) : K := fun x fr S => match x with
  | .exit m => match Nat.beq m n with
    | true => k .normal fr S
    | false => k (.exit m) fr S
  | x => k x fr S

section
variable {P : Program} {F : Sh} {E E' : Env} {S S' : St} {k : K} {ops : Array Oper} {os : List Oper} {c a b : Code} {n m : Nat} {v : V}

theorem Go.weaken (h : Go P F E' S c k) (hs : Sub E' E) : Go P F E S c k := ⟨fun fr hf => h.h fr (hf.sub hs)⟩
theorem Opl.weaken (h : Opl P ops os F E' S k) (hs : Sub E' E) : Opl P ops os F E S k := ⟨fun fr hf => h.h fr (hf.sub hs)⟩

/-! ### Ends -/

theorem At.seq (h : Go P F E S b k) : At .normal (Ks P b k) F E S := ⟨fun fr hf => h.h fr hf⟩
theorem At.seqx (h : At (.exit m) k F E S) : At (.exit m) (Ks P b k) F E S := ⟨h.h⟩
theorem At.seqr (h : At .ret k F E S) : At .ret (Ks P b k) F E S := ⟨h.h⟩
theorem At.seqp (h : At (.panic v) k F E S) : At (.panic v) (Ks P b k) F E S := ⟨h.h⟩
theorem At.blk (h : At .normal k F E S) : At .normal (Kb n k) F E S := ⟨h.h⟩
theorem At.blkr (h : At .ret k F E S) : At .ret (Kb n k) F E S := ⟨h.h⟩
theorem At.blkp (h : At (.panic v) k F E S) : At (.panic v) (Kb n k) F E S := ⟨h.h⟩
theorem At.blkx (h : At .normal k F E S) : At (.exit n) (Kb n k) F E S := .mk fun fr hf => by
  show (match Nat.beq n n with | true => k .normal fr S | false => k (.exit n) fr S)
  rw [Nat.beq_refl]; exact h.h fr hf
theorem At.blky (hm : Nat.beq m n = false) (h : At (.exit m) k F E S) : At (.exit m) (Kb n k) F E S := .mk fun fr hf => by
  show (match Nat.beq m n with | true => k .normal fr S | false => k (.exit m) fr S)
  rw [hm]; exact h.h fr hf

/-! ### Code -/

theorem Run.of_step {fr : Fr} {x : X} {fr' : Fr} (h : stepT P (lim P) (.code c fr) S = some (.code x fr' S')) (hk : k x fr' S') : Run P c fr S k :=
  ⟨x, fr', S', lim_of_step h, hk⟩

theorem Go.skip (h : At .normal k F E S) : Go P F E S .skip k := .mk fun fr hf => .of_step rfl (h.h fr hf)
theorem Go.ret (h : At .ret k F E S) : Go P F E S .ret k := .mk fun fr hf => .of_step rfl (h.h fr hf)
theorem Go.exit (h : At (.exit n) k F E S) : Go P F E S (.exit n) k := .mk fun fr hf => .of_step rfl (h.h fr hf)

theorem Go.seq (h : Go P F E S a (Ks P b k)) : Go P F E S (.seq a b) k := .mk fun fr hf => by
  obtain ⟨x, fr', S', h1, h2⟩ := h.h fr hf
  cases x with
  | normal =>
    obtain ⟨y, fr2, S2, h3, h4⟩ := h2
    exact .of_step (by simp only [stepT, h1]; exact h3) h4
  | _ => exact .of_step (by simp only [stepT, h1]) h2

theorem Go.cond {x : Operand} {q : Bool} (hx : Env.opd E x = some (.bool q)) (h1 : q = true → Go P F E S a k) (h2 : q = false → Go P F E S b k) : Go P F E S (.cond x a b) k := .mk fun fr hf => by
  cases q with
  | true =>
    obtain ⟨y, fr2, S2, h3, h4⟩ := (h1 rfl).h fr hf
    exact .of_step (by simp only [stepT, hf.opd hx]; exact h3) h4
  | false =>
    obtain ⟨y, fr2, S2, h3, h4⟩ := (h2 rfl).h fr hf
    exact .of_step (by simp only [stepT, hf.opd hx]; exact h3) h4

theorem Go.condT {x : Operand} (hx : Env.opd E x = some (.bool true)) (h1 : Go P F E S a k) : Go P F E S (.cond x a b) k := .cond hx (fun _ => h1) (fun h => by cases h)
theorem Go.condF {x : Operand} (hx : Env.opd E x = some (.bool false)) (h1 : Go P F E S b k) : Go P F E S (.cond x a b) k := .cond hx (fun h => by cases h) (fun _ => h1)

theorem Go.block (h : Go P F E S c (Kb n k)) : Go P F E S (.block n c) k := .mk fun fr hf => by
  obtain ⟨x, fr', S', h1, h2⟩ := h.h fr hf
  cases x with
  | exit m =>
    have h2 : (match Nat.beq m n with | true => k .normal fr' S' | false => k (.exit m) fr' S') := h2
    cases hm : Nat.beq m n with
    | true =>
      rw [hm] at h2
      exact .of_step (by simp only [stepT, h1, hm, if_true]) h2
    | false =>
      rw [hm] at h2
      exact .of_step (by simp only [stepT, h1, hm, Bool.false_eq_true, if_false]) h2
  | _ => exact .of_step (by simp only [stepT, h1]) h2

theorem Go.loop (h : Go P F E S c (Ks P (.loop c) k)) : Go P F E S (.loop c) k := .mk fun fr hf => by
  obtain ⟨x, fr', S', h1, h2⟩ := h.h fr hf
  cases x with
  | normal =>
    obtain ⟨y, fr2, S2, h3, h4⟩ := h2
    exact .of_step (by simp only [stepT, h1]; exact h3) h4
  | _ => exact .of_step (by simp only [stepT, h1]) h2

/-- A loop, by induction on a measure. -/
theorem Go.loop_ind {α : Type} (μ : α → Nat) (Inv : α → Env → St → Prop)
    (h : ∀ x E S, Inv x E S → (∀ y E' S', μ y < μ x → Inv y E' S' → Go P F E' S' (.loop c) k) → Go P F E S c (Ks P (.loop c) k)) : ∀ x E S, Inv x E S → Go P F E S (.loop c) k := by
  have : ∀ n x E S, μ x < n → Inv x E S → Go P F E S (.loop c) k := by
    intro n
    induction n with
    | zero => intro x E S hx; omega
    | succ n ih => exact fun x E S hx hI => .loop (h x E S hI fun y E' S' hy hI' => ih y E' S' (by omega) hI')
  exact fun x E S => this (μ x + 1) x E S (by omega)

theorem Go.region {i : Nat} (h : Opl P ops ops.toList F E S k) : Go P F E S (.region i ops false) k := .mk fun fr hf => by
  obtain ⟨x, fr', S', h1, h2⟩ := h.h fr hf
  exact .of_step (by simp only [stepT]; rw [region_opsL]; exact h1) h2

theorem Go.drawId {i : Nat} (hc : calmId ops = true) (h : Opl P ops ops.toList F E S k) : Go P F E S (.region i ops true) k := .mk fun fr hf => by
  obtain ⟨x, fr', S', h1, h2⟩ := h.h fr hf
  exact .of_step (by simp only [stepT]; exact region_calmId hc h1) h2

theorem Go.drawAt {i : Nat} (ord : List Nat) (hc : calmAt ops ord = true) (h : Opl P ops (ord.filterMap (ops[·]?)) F E S k) : Go P F E S (.region i ops true) k := .mk fun fr hf => by
  obtain ⟨x, fr', S', h1, h2⟩ := h.h fr hf
  exact .of_step (by simp only [stepT]; exact region_calmAt hc h1) h2

/-! ### Operations -/

theorem Opl.nil (h : At .normal k F E S) : Opl P ops [] F E S k := .mk fun fr hf => ⟨.normal, fr, S, rfl, h.h fr hf⟩

variable {d j : Nat} {op : Op} {ty : TypeId} {pos : String} {after : Array Edge} {w : Bool}

theorem opsL_one {o : Oper} {fr : Fr} (h : ∃ x fr' S', (match oneE (lim P) P ops o fr S with
      | some (.code .normal fr' S') => opsL (lim P) P ops os fr' S'
      | r => r) = some (.code x fr' S') ∧ k x fr' S') : ∃ x fr' S', opsL (lim P) P ops (o :: os) fr S = some (.code x fr' S') ∧ k x fr' S' := h

theorem Opl.act {o : Oper} (h : ∀ fr, Has F E fr → ∃ fr' , oneE (lim P) P ops o fr S = some (.code .normal fr' S') ∧ ∃ F' E', Has F' E' fr' ∧ Opl P ops os F' E' S' k) : Opl P ops (o :: os) F E S k := .mk fun fr hf => by
  obtain ⟨fr', h1, F', E', h2, h3⟩ := h fr hf
  refine opsL_one ?_
  rw [h1]
  exact h3.h fr' h2

theorem Opl.val (h : opE P op (Env.opd E) S = some (v, S')) (hd : Nat.blt d F.n = true) (hk : Opl P ops os F ((d, v) :: E) S' k) : Opl P ops (⟨some d, op, ty, pos, after, none⟩ :: os) F E S k :=
  .act fun fr hf => by
    obtain ⟨fr', h1, h2⟩ := hf.put v hd
    refine ⟨fr', ?_, F, _, h2, hk⟩
    simp only [oneE, wantE, opE_act (opE_mono (fun x v => hf.opd) h) (lim P) fr.pan, putE, h1]

theorem Opl.eff (h : opE P op (Env.opd E) S = some (v, S')) (hk : Opl P ops os F E S' k) : Opl P ops (⟨none, op, ty, pos, after, none⟩ :: os) F E S k :=
  .act fun fr hf => by
    refine ⟨fr, ?_, F, _, hf, hk⟩
    simp only [oneE, wantE, opE_act (opE_mono (fun x v => hf.opd) h) (lim P) fr.pan, putE, Fr.put]

/-- Is an operation with a guard wanted? -/
def gd (ops : Array Oper) (E : Env) (j : Nat) (w : Bool) : Option Bool :=
  match (ops[j]?).bind (·.dst) with
  | none => none
  | some d => match Env.get E d with
    | some (.bool b) => some (b == w)
    | some (.tup []) => some false
    | _ => none

theorem gd_want {fr : Fr} (hf : Has F E fr) {q : Bool} (h : gd ops E j w = some q) : wantE ops ⟨some d, op, ty, pos, after, some (j, w)⟩ fr = some q := by
  unfold gd at h
  simp only [wantE]
  cases h1 : (ops[j]?).bind (·.dst) with
  | none => rw [h1] at h; cases h
  | some e =>
    rw [h1] at h
    simp only at h ⊢
    cases h2 : Env.get E e with
    | none => rw [h2] at h; cases h
    | some u =>
      rw [h2] at h
      rw [hf.t e u h2]
      exact h

theorem Opl.gno (hg : gd ops E j w = some false) (hd : Nat.blt d F.n = true) (hk : Opl P ops os F ((d, .tup []) :: E) S k) : Opl P ops (⟨some d, op, ty, pos, after, some (j, w)⟩ :: os) F E S k :=
  .act fun fr hf => by
    obtain ⟨fr', h1, h2⟩ := hf.put (.tup []) hd
    refine ⟨fr', ?_, F, _, h2, hk⟩
    simp only [oneE, gd_want hf hg, putE, h1]

theorem Opl.gyes (hg : gd ops E j w = some true) (h : opE P op (Env.opd E) S = some (v, S')) (hd : Nat.blt d F.n = true) (hk : Opl P ops os F ((d, v) :: E) S' k) : Opl P ops (⟨some d, op, ty, pos, after, some (j, w)⟩ :: os) F E S k :=
  .act fun fr hf => by
    obtain ⟨fr', h1, h2⟩ := hf.put v hd
    refine ⟨fr', ?_, F, _, h2, hk⟩
    simp only [oneE, gd_want hf hg, opE_act (opE_mono (fun x v => hf.opd) h) (lim P) fr.pan, putE, h1]

/-- The same operation without its guard. -/
theorem Opl.gon {q : Bool} (hg : gd ops E j w = some q) (hd : Nat.blt d F.n = true) (h1 : q = true → Opl P ops (⟨some d, op, ty, pos, after, none⟩ :: os) F E S k)
    (h2 : q = false → Opl P ops os F ((d, .tup []) :: E) S k) : Opl P ops (⟨some d, op, ty, pos, after, some (j, w)⟩ :: os) F E S k := by
  cases q with
  | false => exact .gno hg hd (h2 rfl)
  | true =>
    refine ⟨fun fr hf => ?_⟩
    have := (h1 rfl).h fr hf
    simp only [opsL, oneE, gd_want hf hg] at this ⊢
    simpa only [wantE] using this

theorem Opl.panic {x : Operand} {t : TypeId} {u : V} {ds : Option Nat} (h : Env.opd E x = some (.iface t u)) (hk : At (.panic (.iface t u)) k F E S) : Opl P ops (⟨ds, .panic x, ty, pos, after, none⟩ :: os) F E S k := .mk fun fr hf =>
  ⟨.panic (.iface t u), fr, S, by simp only [opsL, oneE, wantE, actE, hf.opd h], hk.h fr hf⟩

/-! ### Calls -/

def hasBody (P : Program) (g : FuncId) : Bool := match P.funcs[g]? with
  | some fn => fn.body.isSome
  | none => false

/-- A call comes to a value, or to a panic, of which this is known. -/
def CallTo (P : Program) (g : FuncId) (l : List V) (S : St) (Qr Qp : V → St → Prop) : Prop :=
  (∃ v S', lim P (.call g l) S = some (.ret v S') ∧ Qr v S') ∨ (∃ v S', lim P (.call g l) S = some (.pan v S') ∧ Qp v S')

theorem CallTo.mono {g : FuncId} {l : List V} {Qr Qp Qr' Qp' : V → St → Prop} (h : CallTo P g l S Qr Qp) (h1 : ∀ v S', Qr v S' → Qr' v S') (h2 : ∀ v S', Qp v S' → Qp' v S') : CallTo P g l S Qr' Qp' := by
  rcases h with ⟨v, S', h3, h4⟩ | ⟨v, S', h3, h4⟩
  · exact .inl ⟨v, S', h3, h1 _ _ h4⟩
  · exact .inr ⟨v, S', h3, h2 _ _ h4⟩

theorem act_ret {g : FuncId} {l : List V} {f : Operand} {args : Array Operand} {ats : Array TypeId} {ev : Operand → Option V} {pan : Pan} (hb : hasBody P g = true) (hf : calleeE ev f args = some (g, l)) (hr : lim P (.call g l) S = some (.ret v S')) :
    actE (lim P) P (.call { callee := .value f, args, argTypes := ats }) ev pan S = some (.val v S') := by
  unfold hasBody at hb
  simp only [actE, hf]
  cases h1 : P.funcs[g]? with
  | none => rw [h1] at hb; cases hb
  | some fn =>
    rw [h1] at hb
    simp only at hb ⊢
    cases h2 : fn.body with
    | none => rw [h2] at hb; cases hb
    | some c => simp only [hr]

theorem act_pan {g : FuncId} {l : List V} {f : Operand} {args : Array Operand} {ats : Array TypeId} {ev : Operand → Option V} {pan : Pan} (hb : hasBody P g = true) (hf : calleeE ev f args = some (g, l)) (hr : lim P (.call g l) S = some (.pan v S')) :
    actE (lim P) P (.call { callee := .value f, args, argTypes := ats }) ev pan S = some (.pan v S') := by
  unfold hasBody at hb
  simp only [actE, hf]
  cases h1 : P.funcs[g]? with
  | none => rw [h1] at hb; cases hb
  | some fn =>
    rw [h1] at hb
    simp only at hb ⊢
    cases h2 : fn.body with
    | none => rw [h2] at hb; cases hb
    | some c => simp only [hr]

theorem Opl.call {f : Operand} {args : Array Operand} {ats : Array TypeId} {g : FuncId} {l : List V} {Qr Qp : V → St → Prop} (hf : calleeE (Env.opd E) f args = some (g, l)) (hb : hasBody P g = true) (hc : CallTo P g l S Qr Qp)
    (hd : Nat.blt d F.n = true) (h1 : ∀ v S', Qr v S' → Opl P ops os F ((d, v) :: E) S' k) (h2 : ∀ v S', Qp v S' → At (.panic v) k F E S') :
    Opl P ops (⟨some d, .call { callee := .value f, args, argTypes := ats }, ty, pos, after, none⟩ :: os) F E S k := .mk fun fr hfr => by
  have hcal := calleeE_mono (fun x v => hfr.opd) hf
  rcases hc with ⟨v, S', h3, h4⟩ | ⟨v, S', h3, h4⟩
  · obtain ⟨fr', h5, h6⟩ := hfr.put v hd
    refine opsL_one ?_
    simp only [oneE, wantE, act_ret hb hcal h3, putE, h5]
    exact (h1 v S' h4).h fr' h6
  · refine opsL_one ?_
    simp only [oneE, wantE, act_pan hb hcal h3]
    exact ⟨_, _, _, rfl, (h2 v S' h4).h fr hfr⟩

/-- A call whose value is known. -/
theorem Opl.callv {f : Operand} {args : Array Operand} {ats : Array TypeId} {g : FuncId} {l : List V} {r : V} {Q : St → Prop} {Qp : V → St → Prop} (hf : calleeE (Env.opd E) f args = some (g, l)) (hb : hasBody P g = true) (hc : CallTo P g l S (fun v S' => v = r ∧ Q S') Qp)
    (hd : Nat.blt d F.n = true) (h1 : ∀ S', Q S' → Opl P ops os F ((d, r) :: E) S' k) (h2 : ∀ v S', Qp v S' → At (.panic v) k F E S') :
    Opl P ops (⟨some d, .call { callee := .value f, args, argTypes := ats }, ty, pos, after, none⟩ :: os) F E S k :=
  .call hf hb hc hd (fun v S' h => by obtain ⟨rfl, h⟩ := h; exact h1 S' h) h2

/-- A call that does not panic. -/
theorem Opl.callr {f : Operand} {args : Array Operand} {ats : Array TypeId} {g : FuncId} {l : List V} (hf : calleeE (Env.opd E) f args = some (g, l)) (hb : hasBody P g = true) (hc : lim P (.call g l) S = some (.ret v S'))
    (hd : Nat.blt d F.n = true) (h1 : Opl P ops os F ((d, v) :: E) S' k) :
    Opl P ops (⟨some d, .call { callee := .value f, args, argTypes := ats }, ty, pos, after, none⟩ :: os) F E S k :=
  .call (Qr := fun v' S'' => v' = v ∧ S'' = S') (Qp := fun _ _ => False) hf hb (.inl ⟨v, S', hc, rfl, rfl⟩) hd (fun v' S'' h => by obtain ⟨rfl, rfl⟩ := h; exact h1) (fun _ _ h => h.elim)

theorem Opl.defer {f : Operand} {args : Array Operand} {ats : Array TypeId} {g : FuncId} {l : List V} (hf : calleeE (Env.opd E) f args = some (g, l)) (h1 : Opl P ops os { F with ds := (g, l) :: F.ds } E S k) :
    Opl P ops (⟨none, .defer { callee := .value f, args, argTypes := ats }, ty, pos, after, none⟩ :: os) F E S k :=
  .act fun fr hfr => by
    have hcal := calleeE_mono (fun x v => hfr.opd) hf
    refine ⟨{ fr with ds := (g, l) :: fr.ds }, ?_, { F with ds := (g, l) :: F.ds }, E, ⟨hfr.n, by simp [hfr.ds], hfr.pan, hfr.t⟩, h1⟩
    simp only [oneE, wantE, actE, hcal, putE, Fr.put]

theorem Opl.recoverNo {args : Array Operand} {ats : Array TypeId} (hp : F.pan = .quiet ∨ F.pan = .norm) (hd : Nat.blt d F.n = true) (h1 : Opl P ops os F ((d, .nili) :: E) S k) :
    Opl P ops (⟨some d, .call { callee := .builtin .recover, args, argTypes := ats }, ty, pos, after, none⟩ :: os) F E S k :=
  .act fun fr hfr => by
    obtain ⟨fr', h5, h6⟩ := hfr.put .nili hd
    refine ⟨fr', ?_, F, _, h6, h1⟩
    rcases hp with hp | hp <;> simp only [oneE, wantE, actE, hfr.pan, hp, putE, h5]

theorem Opl.recover {args : Array Operand} {ats : Array TypeId} {n : Nat} {ds : List (FuncId × List V)} (hd : Nat.blt d n = true) (h1 : Opl P ops os ⟨n, ds, .done v⟩ ((d, v) :: E) S k) :
    Opl P ops (⟨some d, .call { callee := .builtin .recover, args, argTypes := ats }, ty, pos, after, none⟩ :: os) ⟨n, ds, .live v⟩ E S k :=
  .act fun fr hfr => by
    have h0 : Has ⟨n, ds, .done v⟩ E { fr with pan := .done v } := ⟨hfr.n, hfr.ds, rfl, hfr.t⟩
    obtain ⟨fr', h5, h6⟩ := h0.put v hd
    refine ⟨fr', ?_, _, _, h6, h1⟩
    simp only [oneE, wantE, actE, hfr.pan, putE, h5]

/-! ### Functions -/

def envOf : Nat → List V → Env
  | _, [] => []
  | i, v :: l => (i, v) :: envOf (i + 1) l

theorem envOf_lt : ∀ (l : List V) (i k : Nat) (v : V), Env.get (envOf i l) k = some v → i ≤ k
  | [], _, _, _, h => by cases h
  | u :: l, i, k, v, h => by
    simp only [envOf] at h
    rw [Env.get_cons] at h
    by_cases hk : i = k
    · omega
    · rw [if_neg hk] at h
      have := envOf_lt l (i + 1) k v h
      omega

theorem start_find : ∀ (l : List V) (i : Nat) (t : Tr V) (k : Nat) (v : V), Env.get (envOf i l) k = some v → (startFr.go i l t).find k = some v := by
  have keep : ∀ (l : List V) (i : Nat) (t : Tr V) (k : Nat), k < i → (startFr.go i l t).find k = t.find k := by
    intro l
    induction l with
    | nil => intro i t k _; rfl
    | cons u l ih =>
      intro i t k hk
      simp only [startFr.go]
      rw [ih (i + 1) _ k (by omega), Tr.find_put, if_neg (by omega)]
  intro l
  induction l with
  | nil => intro i t k v h; cases h
  | cons u l ih =>
    intro i t k v h
    simp only [envOf] at h
    rw [Env.get_cons] at h
    simp only [startFr.go]
    by_cases hk : i = k
    · subst hk
      simp at h
      subst h
      rw [keep l (i + 1) _ i (by omega), Tr.find_put, if_pos rfl]
    · rw [if_neg hk] at h
      exact ih (i + 1) _ k v h

theorem start_has (fn : Func) (args : List V) (p : Pan) {n : Nat} (hn : max args.length fn.ntmps = n) : Has ⟨n, [], p⟩ (envOf 0 args) (startFr fn args p) :=
  ⟨hn, rfl, rfl, fun k v h => start_find args 0 .leaf k v h⟩

def resV (P : Program) (E : Env) (S : St) : List ResultVar → Option (List V)
  | [] => some []
  | r :: rs => match (match r with
      | .tmp t => Env.get E t
      | .cell a t => match Env.get E a with
        | some p => loadE P t p S
        | none => none) with
    | none => none
    | some v => match resV P E S rs with
      | none => none
      | some vs => some (v :: vs)

def packV : List V → V
  | [v] => v
  | vs => .tup vs

def rvF (P : Program) (fr : Fr) (S : St) : ResultVar → Option V
  | .tmp t => fr.t.find t
  | .cell a t => match fr.t.find a with
    | some p => loadE P t p S
    | none => none

def rvE (P : Program) (E : Env) (S : St) : ResultVar → Option V
  | .tmp t => Env.get E t
  | .cell a t => match Env.get E a with
    | some p => loadE P t p S
    | none => none

theorem rv_of {fr : Fr} (hf : Has F E fr) {r : ResultVar} {u : V} (h : rvE P E S r = some u) : rvF P fr S r = some u := by
  cases r with
  | tmp t => exact hf.t _ _ h
  | cell a t =>
    simp only [rvE] at h
    simp only [rvF]
    cases h3 : Env.get E a with
    | none => rw [h3] at h; cases h
    | some p => rw [h3] at h; rw [hf.t _ _ h3]; exact h

theorem resV_mapO : ∀ (rs : List ResultVar) (vs : List V), resV P E S rs = some vs → mapO (rvE P E S) rs = some vs
  | [], vs, h => h
  | r :: rs, vs, h => by
    simp only [mapO]
    have h : (match rvE P E S r with
      | none => none
      | some v => match resV P E S rs with
        | none => none
        | some vs => some (v :: vs)) = some vs := by
      cases r <;> exact h
    cases h1 : rvE P E S r with
    | none => rw [h1] at h; cases h
    | some u =>
      rw [h1] at h
      simp only at h ⊢
      cases h3 : resV P E S rs with
      | none => rw [h3] at h; cases h
      | some us =>
        rw [h3] at h
        rw [resV_mapO rs us h3]
        exact h

theorem resultsE_rv (fn : Func) (fr : Fr) : resultsE P fn fr S = (match mapO (rvF P fr S) fn.results.toList with
    | some [v] => some v
    | some vs => some (.tup vs)
    | none => none) := by
  have : (rvF P fr S) = (fun r => match r with
    | ResultVar.tmp t => fr.t.find t
    | ResultVar.cell a t => match fr.t.find a with
      | some p => loadE P t p S
      | none => none) := by
    funext r
    cases r <;> rfl
  rw [this]
  rfl

theorem res_of {fn : Func} {fr : Fr} (hf : Has F E fr) {rs : List ResultVar} (hrs : fn.results.toList = rs) {vs : List V} (h : resV P E S rs = some vs) : resultsE P fn fr S = some (packV vs) := by
  rw [resultsE_rv, hrs, mapO_mono (fun r u hu => rv_of hf hu) (resV_mapO rs vs h)]
  cases vs with
  | nil => rfl
  | cons x xs =>
    cases xs with
    | nil => rfl
    | cons => rfl

/-- Where a function's body ends, which defers nothing. -/
def Kf (P : Program) (fn : Func) (Qr Qp : V → St → Prop) : K := fun x fr S => match x with
  | .normal => fr.ds = [] ∧ ∃ v, resultsE P fn fr S = some v ∧ Qr v S
  | .ret => fr.ds = [] ∧ ∃ v, resultsE P fn fr S = some v ∧ Qr v S
  | .panic v => fr.ds = [] ∧ Qp v S
  | .exit _ => False

theorem CallTo.of {g : FuncId} {l : List V} {fn : Func} {c : Code} {Qr Qp : V → St → Prop} {n : Nat} (hf : P.funcs[g]? = some fn) (hb : fn.body = some c) (hn : max l.length fn.ntmps = n) (h : Go P ⟨n, [], .norm⟩ (envOf 0 l) S c (Kf P fn Qr Qp)) (hl : orc P (.call g l) S = none := by rfl) : CallTo P g l S Qr Qp := by
  obtain ⟨x, fr, S', h1, h2⟩ := h.h _ (start_has fn l .norm hn)
  cases x with
  | normal =>
    obtain ⟨h3, v, h4, h5⟩ := h2
    refine .inl ⟨v, S', lim_of_step ?_ hl, h5⟩
    simp only [stepT, hf, hb, h1, h3, leaveE, h4, Option.map]
  | ret =>
    obtain ⟨h3, v, h4, h5⟩ := h2
    refine .inl ⟨v, S', lim_of_step ?_ hl, h5⟩
    simp only [stepT, hf, hb, h1, h3, leaveE, h4, Option.map]
  | panic v =>
    obtain ⟨h3, h5⟩ := h2
    refine .inr ⟨v, S', lim_of_step ?_ hl, h5⟩
    simp only [stepT, hf, hb, h1, h3, leaveE]
  | exit m => exact h2.elim

theorem At.fn {fn : Func} {Qr Qp : V → St → Prop} {rs : List ResultVar} {vs : List V} (hrs : fn.results.toList = rs) (hd : F.ds = []) (h : resV P E S rs = some vs) (hq : Qr (packV vs) S) : At .normal (Kf P fn Qr Qp) F E S := .mk fun fr hf =>
  ⟨by rw [hf.ds, hd], _, res_of hf hrs h, hq⟩
theorem At.fnr {fn : Func} {Qr Qp : V → St → Prop} {rs : List ResultVar} {vs : List V} (hrs : fn.results.toList = rs) (hd : F.ds = []) (h : resV P E S rs = some vs) (hq : Qr (packV vs) S) : At .ret (Kf P fn Qr Qp) F E S := .mk fun fr hf =>
  ⟨by rw [hf.ds, hd], _, res_of hf hrs h, hq⟩
theorem At.fnp {fn : Func} {Qr Qp : V → St → Prop} (hd : F.ds = []) (hq : Qp v S) : At (.panic v) (Kf P fn Qr Qp) F E S := .mk fun fr hf =>
  ⟨by rw [hf.ds, hd], hq⟩

end
end Go.Ev
