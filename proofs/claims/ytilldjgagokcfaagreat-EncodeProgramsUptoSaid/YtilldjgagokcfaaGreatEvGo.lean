/-
  Ev, part 22: rules by which the limit is walked: environments, operations, code, calls.
-/
import Derived.Test.YtilldjgagokcfaaGreatEvLim
set_option linter.unusedVariables false
set_option linter.unusedSimpArgs false
namespace Go.Ev
open Go.RowKit

/-! ### Environments -/

abbrev Env := List (Nat × V)

def Env.get : List (Nat × V) → Nat → Option V
  | [], _ => none
  | (k, v) :: l, n => match Nat.beq k n with
    | true => some v
    | false => Env.get l n

def Env.opd (E : Env) : Operand → Option V
  | .tmp t => Env.get E t
  | .const v => ofVal 20 v
  | .global _ => none
  | .func f => some (.func f [] [])

structure Sh where
  n : Nat
  ds : List (FuncId × List V)
  pan : Pan

structure Has (F : Sh) (E : Env) (fr : Fr) : Prop where
  n : fr.n = F.n
  ds : fr.ds = F.ds
  pan : fr.pan = F.pan
  t : ∀ k v, Env.get E k = some v → fr.t.find k = some v

theorem Env.get_cons (k : Nat) (v : V) (l : Env) (n : Nat) : Env.get ((k, v) :: l) n = if k = n then some v else Env.get l n := by
  simp only [Env.get]
  by_cases h : k = n
  · subst h; simp
  · have : Nat.beq k n = false := by
      cases hb : Nat.beq k n with
      | false => rfl
      | true => exact absurd (Nat.eq_of_beq_eq_true hb) h
    simp [this, h]

theorem Has.opd {F : Sh} {E : Env} {fr : Fr} (h : Has F E fr) {x : Operand} {v : V} (hx : Env.opd E x = some v) : fr.opd x = some v := by
  cases x with
  | tmp t => exact h.t t v hx
  | const c => exact hx
  | global g => cases hx
  | func f => exact hx

theorem Has.put {F : Sh} {E : Env} {fr : Fr} (h : Has F E fr) {d : Nat} (v : V) (hd : Nat.blt d F.n = true) : ∃ fr', fr.put (some d) v = some fr' ∧ Has F ((d, v) :: E) fr' := by
  refine ⟨{ fr with t := fr.t.put d v }, by simp only [Fr.put, h.n, hd, if_true], h.n, h.ds, h.pan, fun k u hu => ?_⟩
  rw [Env.get_cons] at hu
  simp only [Tr.find_put]
  by_cases hk : d = k
  · subst hk; simp at hu; simp [hu]
  · rw [if_neg hk] at hu
    rw [if_neg (fun e => hk e.symm)]
    exact h.t k u hu

def Sub : Env → Env → Prop
  | [], _ => True
  | (k, v) :: l, E => Env.get E k = some v ∧ Sub l E

theorem Sub.get : ∀ {E' E : Env}, Sub E' E → ∀ k v, Env.get E' k = some v → Env.get E k = some v
  | [], _, _, _, _, h => by cases h
  | (k, v) :: l, E, ⟨h1, h2⟩, n, u, h => by
    rw [Env.get_cons] at h
    by_cases hk : k = n
    · subst hk; simp at h; rw [← h]; exact h1
    · rw [if_neg hk] at h; exact Sub.get h2 n u h

theorem Has.sub {F : Sh} {E E' : Env} {fr : Fr} (h : Has F E fr) (hs : Sub E' E) : Has F E' fr :=
  ⟨h.n, h.ds, h.pan, fun k v hv => h.t k v (hs.get k v hv)⟩

/-! ### More is known, no less comes of it -/

theorem mapO_mono {α β : Type} {f g : α → Option β} (h : ∀ x v, f x = some v → g x = some v) : ∀ {l : List α} {r : List β}, mapO f l = some r → mapO g l = some r
  | [], r, hr => hr
  | x :: xs, r, hr => by
    simp only [mapO] at hr ⊢
    cases h1 : f x with
    | none => rw [h1] at hr; cases hr
    | some y =>
      rw [h1] at hr
      simp only at hr
      cases h2 : mapO f xs with
      | none => rw [h2] at hr; cases hr
      | some ys =>
        rw [h2] at hr
        rw [h x y h1]
        simp only [mapO_mono h h2]
        exact hr

theorem mapO_congr {α β : Type} {f g : α → Option β} : ∀ {l : List α}, (∀ x ∈ l, f x = g x) → mapO f l = mapO g l
  | [], _ => rfl
  | x :: xs, h => by
    simp only [mapO]
    rw [h x (by simp), mapO_congr (l := xs) fun y hy => h y (by simp [hy])]

section
variable {P : Program}

theorem opE_mono {op : Op} {ev ev' : Operand → Option V} (hl : ∀ x v, ev x = some v → ev' x = some v) {S : St} {r : V × St} (h : opE P op ev S = some r) : opE P op ev' S = some r := by
  have hm : ∀ {l : List Operand} {r : List V}, mapO ev l = some r → mapO ev' l = some r := fun h => mapO_mono hl h
  cases op
  case pick c a b =>
    simp only [opE] at h ⊢
    cases hc : ev c with
    | none => rw [hc] at h; cases h
    | some v =>
      rw [hc] at h
      rw [hl _ _ hc]
      cases v with
      | bool b =>
        cases b
        · simp only at h ⊢
          cases h1 : ev _ with
          | none => rw [h1] at h; cases h
          | some u => rw [h1] at h; rw [hl _ _ h1]; exact h
        · simp only at h ⊢
          cases h1 : ev _ with
          | none => rw [h1] at h; cases h
          | some u => rw [h1] at h; rw [hl _ _ h1]; exact h
      | _ => cases h
  case build t ps =>
    simp only [opE] at h ⊢
    split at h
    · rename_i l hq
      have : mapO (fun (p : Nat × Operand) => (ev' p.2).map fun v => (p.1, v)) ps.toList = some l := by
        refine mapO_mono (fun x v hx => ?_) hq
        cases h1 : ev x.2 with
        | none => rw [h1] at hx; cases hx
        | some u => rw [h1] at hx; rw [hl _ _ h1]; exact hx
      rw [this]; exact h
    · cases h
  case buildSlice t n ps =>
    simp only [opE] at h ⊢
    split at h
    · rename_i l hq
      have : mapO (fun (p : Nat × Operand) => (ev' p.2).map fun v => (p.1, v)) ps.toList = some l := by
        refine mapO_mono (fun x v hx => ?_) hq
        cases h1 : ev x.2 with
        | none => rw [h1] at hx; cases hx
        | some u => rw [h1] at hx; rw [hl _ _ h1]; exact hx
      rw [this]; exact h
    · cases h
  case makeFunc fn first caps =>
    cases fn with
    | func f =>
      simp only [opE] at h ⊢
      split at h
      · rename_i a b h1 h2
        rw [hm h1, hm h2]; exact h
      · cases h
    | _ => exact h
  case slice t x lo hi mx =>
    simp only [opE] at h ⊢
    split at h
    · rename_i a l h' m h1 h2 h3 h4
      rw [hl _ _ h1, hm h2, hm h3, hm h4]; exact h
    · cases h
  case call c =>
    obtain ⟨callee, args, ats⟩ := c
    cases callee with
    | builtin b =>
      simp only [opE] at h ⊢
      split at h
      · rename_i l h1
        rw [hm h1]; exact h
      · cases h
    | _ => exact h
  case nilCheck x =>
    simp only [opE] at h ⊢
    cases h1 : ev x with
    | none => rw [h1] at h; cases h
    | some v => rw [h1] at h; rw [hl _ _ h1]; exact h
  case alloc => exact h
  case binOp op t x y u =>
    simp only [opE] at h ⊢
    cases h1 : ev x with
    | none => rw [h1] at h; cases h
    | some v =>
      cases h2 : ev y with
      | none => rw [h1, h2] at h; cases h
      | some u => rw [h1, h2] at h; rw [hl _ _ h1, hl _ _ h2]; exact h
  case typeAssert x t a b =>
    simp only [opE] at h ⊢
    cases h1 : ev x with
    | none => rw [h1] at h; cases h
    | some v => rw [h1] at h; rw [hl _ _ h1]; exact h
  all_goals first
    | exact h
    | (simp only [opE] at h ⊢
       first
        | (rename_i x
           cases h1 : ev x with
           | none => rw [h1] at h; cases h
           | some v => rw [h1] at h; rw [hl _ _ h1]; exact h)
        | (rename_i x _
           cases h1 : ev x with
           | none => rw [h1] at h; cases h
           | some v => rw [h1] at h; rw [hl _ _ h1]; exact h)
        | (rename_i x _ _
           cases h1 : ev x with
           | none => rw [h1] at h; cases h
           | some v => rw [h1] at h; rw [hl _ _ h1]; exact h)
        | (rename_i x y
           cases h1 : ev x with
           | none => rw [h1] at h; cases h
           | some v =>
             cases h2 : ev y with
             | none => rw [h1, h2] at h; cases h
             | some u => rw [h1, h2] at h; rw [hl _ _ h1, hl _ _ h2]; exact h))

theorem act_plain {rec : Rec} {op : Op} {ev : Operand → Option V} {pan : Pan} {S : St} {v : V} {S' : St} (h : opE P op ev S = some (v, S'))
    (he : actE rec P op ev pan S = (match opE P op ev S with | some (v, S') => some (.val v S') | none => none)) : actE rec P op ev pan S = some (.val v S') := by
  rw [he, h]

theorem opE_act {op : Op} {ev : Operand → Option V} {S : St} {v : V} {S' : St} (h : opE P op ev S = some (v, S')) (rec : Rec) (pan : Pan) : actE rec P op ev pan S = some (.val v S') := by
  cases op with
  | call c =>
    obtain ⟨callee, args, ats⟩ := c
    cases callee with
    | value f => cases h
    | builtin b =>
      cases b
      case recover =>
        simp only [opE] at h
        split at h
        · simp only [builtinE] at h; cases h
        · cases h
      all_goals exact act_plain h rfl
    | _ => exact act_plain h rfl
  | defer c =>
    obtain ⟨callee, args, ats⟩ := c
    cases callee <;> cases h
  | panic x => cases h
  | _ => exact act_plain h rfl

theorem calleeE_mono {ev ev' : Operand → Option V} (hl : ∀ x v, ev x = some v → ev' x = some v) {f : Operand} {args : Array Operand} {r : FuncId × List V} (h : calleeE ev f args = some r) : calleeE ev' f args = some r := by
  unfold calleeE at h ⊢
  split at h
  · rename_i g first caps l h1 h2
    rw [hl _ _ h1, mapO_mono hl h2]; exact h
  · cases h

/-! ### Operations in order -/

def opsL (rec : Rec) (P : Program) (ops : Array Oper) : List Oper → Fr → St → Option Rs
  | [], fr, S => some (.code .normal fr S)
  | o :: l, fr, S => match oneE rec P ops o fr S with
    | some (.code .normal fr' S') => opsL rec P ops l fr' S'
    | r => r

theorem seq_opsL (rec : Rec) (ops : Array Oper) : ∀ (l : List Nat), (∀ i ∈ l, i < ops.size) → ∀ (fr : Fr) (S : St), seqE rec P ops l fr S = opsL rec P ops (l.filterMap (ops[·]?)) fr S
  | [], _, _, _ => rfl
  | i :: l, h, fr, S => by
    have hi : i < ops.size := h i (by simp)
    have he : ops[i]? = some ops[i] := Array.getElem?_eq_getElem hi
    simp only [seqE, List.filterMap_cons, he, opsL]
    cases h1 : oneE rec P ops ops[i] fr S with
    | none => rfl
    | some r =>
      split
      · rename_i fr' S' he
        cases he
        exact seq_opsL rec ops l (fun j hj => h j (by simp [hj])) fr' S'
      · rename_i h2
        split
        · rename_i fr' S' he
          cases he
          exact absurd rfl (h2 _ _)
        · rfl

theorem range_ops (ops : Array Oper) : (List.range ops.size).filterMap (ops[·]?) = ops.toList := by
  obtain ⟨l⟩ := ops
  simp only [List.size_toArray, List.getElem?_toArray]
  induction l with
  | nil => rfl
  | cons x l ih =>
    rw [List.length_cons, List.range_succ_eq_map, List.filterMap_cons]
    simp only [List.getElem?_cons_zero, List.filterMap_map]
    congr 1

theorem region_opsL (rec : Rec) (ops : Array Oper) (fr : Fr) (S : St) : regionE rec P ops false fr S = opsL rec P ops ops.toList fr S := by
  simp only [regionE]
  rw [seq_opsL rec ops _ (fun i hi => List.mem_range.1 hi), range_ops]

/-! ### Regions that draw, and whose draws make no difference -/

def plain3 : Op → Bool
  | .defer _ => false
  | .call { callee := .builtin .recover, .. } => false
  | _ => true

def calmL (ops : Array Oper) (ms : List Nat) : List Nat → List Nat → Bool
  | [], _ => true
  | i :: l, acts => match ops[i]? with
    | none => false
    | some o => match clsE o.op with
      | 0 => plain3 o.op && calmL ops ms l acts
      | 2 => plain3 o.op && acts.all (fun j => ancOf ms j i) && calmL ops ms l acts
      | 3 => plain3 o.op && l.all (fun j => ancOf ms i j) && calmL ops ms l (i :: acts)
      | _ => false

def Tgood (S0 : St) (acts : List Nat) (S : St) : List En → Prop
  | [] => S = S0
  | .mild _ _ _ _ ob :: T => ob = none ∧ Tgood S0 acts S T
  | .act j _ _ _ S1 :: _ => S1 = S ∧ j ∈ acts

mutual
theorem V.beq_refl : ∀ v : V, V.beq v v = true
  | .bool b => by simp [V.beq]
  | .int k n => by simp [V.beq]
  | .str s => by simp [V.beq]
  | .nilp => rfl
  | .ptr i o => by simp [V.beq]
  | .cptr t cs o => by simp [V.beq, V.beqs_refl cs]
  | .nils => rfl
  | .list t n es k => by simp [V.beq, V.beqs_refl es]
  | .arr a b c d => by simp [V.beq]
  | .func f a b => by simp [V.beq, V.beqs_refl a, V.beqs_refl b]
  | .nilf => rfl
  | .iface t v => by simp [V.beq, V.beq_refl v]
  | .nili => rfl
  | .agg cs => by simp [V.beq, V.beqs_refl cs]
  | .tup vs => by simp [V.beq, V.beqs_refl vs]
  | .nilm => rfl
  | .mt => rfl
theorem V.beqs_refl : ∀ l : List V, V.beqs l l = true
  | [] => rfl
  | x :: xs => by simp [V.beqs, V.beq_refl x, V.beqs_refl xs]
end

theorem sameE_good {ms : List Nat} {i : Nat} {op : Op} {ev : Operand → Option V} {v : V} {S0 S S2 : St} {acts : List Nat} (ho : opE P op ev S = some (v, S2)) (ha : acts.all (fun j => ancOf ms j i) = true) :
    ∀ (T : List En), Tgood S0 acts S T → sameE P ms i op ev v S0 T [] = true
  | [], h => by
    have h : S = S0 := h
    subst h
    simp only [sameE, sameAt, withs]
    rw [ho]
    exact V.beq_refl v
  | .mild j o u n ob :: T, h => by
    obtain ⟨rfl, h⟩ := h
    simp only [sameE]
    exact sameE_good ho ha T h
  | .act j o u n S1 :: T, h => by
    obtain ⟨rfl, hj⟩ := h
    have := List.all_eq_true.1 ha j hj
    simp only [sameE, this, Bool.true_or, Bool.and_true, sameAt, withs]
    rw [ho]
    exact V.beq_refl v

theorem viewE_opd {ops : Array Oper} {o : Oper} {fr : Fr} {x : Operand} (hx : x ∈ o.op.operands.toList) : viewE fr (looks ops o) x = fr.opd x := by
  cases x with
  | tmp t =>
    have : t ∈ looks ops o := by
      unfold looks Oper.looksAt
      refine List.mem_append_left _ (List.mem_filterMap.2 ⟨_, hx, rfl⟩)
    simp [viewE, Fr.opd, this]
  | _ => rfl

theorem calleeE_congr {ev ev' : Operand → Option V} {f : Operand} {args : Array Operand} (hf : ev f = ev' f) (ha : ∀ x ∈ args.toList, ev x = ev' x) : calleeE ev f args = calleeE ev' f args := by
  unfold calleeE
  rw [hf, mapO_congr ha]

theorem opE_congr {op : Op} {ev ev' : Operand → Option V} (h : ∀ x ∈ op.operands.toList, ev x = ev' x) (S : St) : opE P op ev S = opE P op ev' S := by
  cases op
  case pick c a b => simp only [opE]; rw [h c (by simp [Op.operands]), h a (by simp [Op.operands]), h b (by simp [Op.operands])]
  case build t ps =>
    simp only [opE]
    rw [mapO_congr (f := fun (p : Nat × Operand) => (ev p.2).map fun v => (p.1, v)) (g := fun (p : Nat × Operand) => (ev' p.2).map fun v => (p.1, v))]
    intro x hx
    show Option.map _ _ = Option.map _ _
    rw [h x.2 (by simp only [Op.operands]; exact List.mem_map_of_mem hx)]
  case buildSlice t n ps =>
    simp only [opE]
    rw [mapO_congr (f := fun (p : Nat × Operand) => (ev p.2).map fun v => (p.1, v)) (g := fun (p : Nat × Operand) => (ev' p.2).map fun v => (p.1, v))]
    intro x hx
    show Option.map _ _ = Option.map _ _
    rw [h x.2 (by simp only [Op.operands]; exact List.mem_map_of_mem hx)]
  case makeFunc fn first caps =>
    cases fn with
    | func f =>
      simp only [opE]
      rw [mapO_congr (f := ev) (g := ev') (l := first.toList) fun x hx => h x (by simp [Op.operands]; left; simpa using hx),
        mapO_congr (f := ev) (g := ev') (l := caps.toList) fun x hx => h x (by simp [Op.operands]; right; simpa using hx)]
    | _ => rfl
  case slice t x lo hi mx =>
    simp only [opE]
    have e1 := h x (by simp [Op.operands])
    have e2 : mapO ev lo.toList = mapO ev' lo.toList := mapO_congr fun y hy => h y (by cases lo <;> simp_all [Op.operands])
    have e3 : mapO ev hi.toList = mapO ev' hi.toList := mapO_congr fun y hy => h y (by cases hi <;> simp_all [Op.operands])
    have e4 : mapO ev mx.toList = mapO ev' mx.toList := mapO_congr fun y hy => h y (by cases mx <;> simp_all [Op.operands])
    rw [e1, e2, e3, e4]
  case call c =>
    obtain ⟨callee, args, ats⟩ := c
    cases callee with
    | builtin b =>
      simp only [opE]
      rw [mapO_congr (f := ev) (g := ev') (l := args.toList) fun x hx => h x (by simp [Op.operands, Call.operands]; simpa using hx)]
    | _ => rfl
  case binOp op t x y u => simp only [opE]; rw [h x (by simp [Op.operands]), h y (by simp [Op.operands])]
  case typeAssert x t a b => simp only [opE]; rw [h x (by simp [Op.operands])]
  case store t x y => simp only [opE]; rw [h x (by simp [Op.operands]), h y (by simp [Op.operands])]
  case makeSlice t x y => simp only [opE]; rw [h x (by simp [Op.operands]), h y (by simp [Op.operands])]
  case indexAddr t x y => simp only [opE]; rw [h x (by simp [Op.operands]), h y (by simp [Op.operands])]
  case index t x y => simp only [opE]; rw [h x (by simp [Op.operands]), h y (by simp [Op.operands])]
  all_goals first
    | rfl
    | (simp only [opE]
       first
        | (rename_i x; rw [h x (by simp [Op.operands])])
        | (rename_i x _; rw [h x (by simp [Op.operands])])
        | (rename_i x _ _; rw [h x (by simp [Op.operands])])
        | (rename_i x y; rw [h x (by simp [Op.operands]), h y (by simp [Op.operands])]))

theorem act_congr_plain {rec : Rec} {op : Op} {ev ev' : Operand → Option V} {pan : Pan} {S : St}
    (h1 : actE rec P op ev pan S = (match opE P op ev S with | some (v, S') => some (.val v S') | none => none))
    (h2 : actE rec P op ev' pan S = (match opE P op ev' S with | some (v, S') => some (.val v S') | none => none)) (ho : opE P op ev S = opE P op ev' S) : actE rec P op ev pan S = actE rec P op ev' pan S := by
  rw [h1, h2, ho]

theorem actE_congr {rec : Rec} {op : Op} {ev ev' : Operand → Option V} (h : ∀ x ∈ op.operands.toList, ev x = ev' x) (pan : Pan) (S : St) : actE rec P op ev pan S = actE rec P op ev' pan S := by
  cases op with
  | call c =>
    obtain ⟨callee, args, ats⟩ := c
    cases callee with
    | value f =>
      simp only [actE]
      rw [calleeE_congr (ev := ev) (ev' := ev') (h f (by simp [Op.operands, Call.operands])) fun x hx => h x (by simp [Op.operands, Call.operands]; right; simpa using hx)]
    | builtin b =>
      cases b
      case recover => rfl
      all_goals exact act_congr_plain rfl rfl (opE_congr h S)
    | _ => exact act_congr_plain rfl rfl (opE_congr h S)
  | defer c =>
    obtain ⟨callee, args, ats⟩ := c
    cases callee with
    | value f =>
      simp only [actE]
      rw [calleeE_congr (ev := ev) (ev' := ev') (h f (by simp [Op.operands, Call.operands])) fun x hx => h x (by simp [Op.operands, Call.operands]; right; simpa using hx)]
    | _ => rfl
  | panic x =>
    simp only [actE]
    rw [h x (by simp [Op.operands])]
  | _ => exact act_congr_plain rfl rfl (opE_congr h S)

/-- An operation of class 0 leaves the state. -/
theorem cls0_state {op : Op} (hc : clsE op = 0 ∨ clsE op = 2) {ev : Operand → Option V} {S S' : St} {v : V} (h : opE P op ev S = some (v, S')) : S' = S := by
  have mp : ∀ {α : Type} {o : Option α} {f : α → V}, (o.map fun v => (f v, S)) = some (v, S') → S' = S := by
    intro α o f h
    cases o with
    | none => cases h
    | some a => cases h; rfl
  cases op
  case call c =>
    obtain ⟨callee, args, ats⟩ := c
    cases callee with
    | builtin b =>
      simp only [opE] at h
      generalize mapO ev args.toList = ol at h
      split at h
      · rename_i l
        cases b
        case len =>
          unfold builtinE at h
          split at h <;> first | contradiction | exact mp h | (cases h; rfl) | (cases h; done)
        case max =>
          unfold builtinE at h
          split at h <;> first | contradiction | exact mp h | (cases h; rfl) | (cases h; done)
        case min =>
          unfold builtinE at h
          split at h <;> first | contradiction | exact mp h | (cases h; rfl) | (cases h; done)
        case unsafeSliceData =>
          unfold builtinE at h
          split at h <;> first | contradiction | exact mp h | (cases h; rfl) | (cases h; done)
        all_goals (rcases hc with hc | hc <;> simp [clsE] at hc)
      · cases h
    | _ => cases h
  case convert s d x =>
    simp only [opE] at h
    split at h
    · unfold convertE at h
      repeat' split at h
      all_goals first | (cases h; done) | (cases h; rfl) | exact mp h
    · cases h
  case makeFunc fn a b =>
    cases fn with
    | func f =>
      simp only [opE] at h
      split at h
      · cases h; rfl
      · cases h
    | _ => cases h
  case nilCheck x =>
    simp only [opE] at h
    split at h <;> first | (cases h; rfl) | (cases h; done)
  case pick c a b =>
    simp only [opE] at h
    split at h
    · exact mp h
    · exact mp h
    · cases h
  case alloc => rcases hc with hc | hc <;> simp [clsE] at hc
  case box => rcases hc with hc | hc <;> simp [clsE] at hc
  case store => rcases hc with hc | hc <;> simp [clsE] at hc
  case makeSlice => rcases hc with hc | hc <;> simp [clsE] at hc
  case makeInterface t x =>
    simp only [opE] at h
    split at h
    · split at h
      · cases h; rfl
      · cases h
    · cases h
  all_goals first
    | (cases h; done)
    | (simp only [opE] at h; exact mp h)
    | (simp only [opE] at h; split at h <;> first | exact mp h | (cases h; done))

theorem draw_calm {rec : Rec} {ops : Array Oper} {ms : List Nat} {S0 : St} : ∀ (l acts : List Nat) (T : List En) (fr : Fr) (S : St) (r : Rs), calmL ops ms l acts = true → Tgood S0 acts S T →
    opsL rec P ops (l.filterMap (ops[·]?)) fr S = some r → drawE rec P ops ms S0 l T fr S = some r
  | [], _, _, _, _, _, _, _, h => h
  | i :: l, acts, T, fr, S, r, hc, hT, h => by
    simp only [calmL] at hc
    cases ho : ops[i]? with
    | none => rw [ho] at hc; cases hc
    | some o =>
      rw [ho] at hc
      simp only at hc
      simp only [List.filterMap_cons, ho, opsL] at h
      simp only [drawE, ho]
      have hview : ∀ x ∈ o.op.operands.toList, viewE fr (looks ops o) x = fr.opd x := fun x hx => viewE_opd hx
      have hp3 : plain3 o.op = true := by
        split at hc
        · simp only [Bool.and_eq_true] at hc; exact hc.1
        · simp only [Bool.and_eq_true] at hc; exact hc.1.1
        · simp only [Bool.and_eq_true] at hc; exact hc.1.1
        · cases hc
      -- the rest, behind an operation that is mild
      have mild : ∀ v, (∃ acts', (∀ j ∈ acts, j ∈ acts') ∧ calmL ops ms l acts' = true) → mildE P ops ms S0 i o T fr S = some (v, none) → (match fr.put o.dst v with
            | none => none
            | some fr' => opsL rec P ops (l.filterMap (ops[·]?)) fr' S) = some r →
          (match mildE P ops ms S0 i o T fr S with
            | none => none
            | some (v, ob) => match fr.put o.dst v with
              | none => none
              | some fr' => drawE rec P ops ms S0 l (.mild i o v S.next ob :: T) fr' (S.plus ob)) = some r := by
        rintro v ⟨acts', hsub, hcl⟩ hm hr
        rw [hm]
        simp only
        cases hq : fr.put o.dst v with
        | none => rw [hq] at hr; cases hr
        | some fr' =>
          rw [hq] at hr
          refine draw_calm l acts' _ fr' S r hcl ⟨rfl, ?_⟩ hr
          clear hm hr hq h hview
          induction T with
          | nil => exact hT
          | cons e T ih =>
            cases e with
            | mild => exact ⟨hT.1, ih hT.2⟩
            | act => exact ⟨hT.1, hsub _ hT.2⟩
      have hput : ∀ (fr1 : Fr) (v : V) (S1 : St), (match putE fr1 o.dst v S1 with
            | some (.code .normal fr' S') => opsL rec P ops (l.filterMap (ops[·]?)) fr' S'
            | r => r) = some r → (match fr1.put o.dst v with
            | none => none
            | some fr' => opsL rec P ops (l.filterMap (ops[·]?)) fr' S1) = some r := by
        intro fr1 v S1 h
        simp only [putE] at h
        cases hq : fr1.put o.dst v with
        | none => rw [hq] at h; cases h
        | some fr' => rw [hq] at h; exact h
      unfold oneE at h
      cases hw : wantE ops o fr with
      | none => rw [hw] at h; cases h
      | some b =>
        rw [hw] at h
        cases b with
        | false =>
          simp only [isT, Bool.and_false, Bool.false_eq_true, if_false]
          simp only at h
          refine mild (.tup []) ?_ (by simp only [mildE, hw]) (hput _ _ _ h)
          split at hc
          · simp only [Bool.and_eq_true] at hc; exact ⟨acts, fun _ h => h, hc.2⟩
          · simp only [Bool.and_eq_true] at hc; exact ⟨acts, fun _ h => h, hc.2⟩
          · simp only [Bool.and_eq_true] at hc; exact ⟨i :: acts, fun _ h => List.mem_cons_of_mem _ h, hc.2⟩
          · cases hc
        | true =>
          simp only [isT, Bool.and_true]
          simp only at h
          have hact : actE rec P o.op (viewE fr (looks ops o)) fr.pan S = actE rec P o.op fr.opd fr.pan S := actE_congr hview _ _
          have hope : opE P o.op (viewE fr (looks ops o)) S = opE P o.op fr.opd S := opE_congr hview _
          cases ha : actE rec P o.op fr.opd fr.pan S with
          | none => rw [ha] at h; cases h
          | some a =>
            rw [ha] at h
            -- class 3, or mild
            by_cases h3 : clsE o.op = 3
            · rw [h3] at hc
              simp only [Bool.and_eq_true] at hc
              obtain ⟨⟨_, hall⟩, hrest⟩ := hc
              simp only [h3, Nat.beq_refl, if_true]
              rw [hact, ha]
              cases a with
              | val v S' =>
                simp only at h ⊢
                have h := hput _ _ _ h
                cases hq : fr.put o.dst v with
                | none => rw [hq] at h; cases h
                | some fr' =>
                  rw [hq] at h
                  exact draw_calm l (i :: acts) _ fr' S' r hrest ⟨rfl, List.mem_cons_self⟩ h
              | pan v S' =>
                simp only at h ⊢
                have hfil : (l.filter fun j => !ancOf ms i j) = [] := by
                  rw [List.filter_eq_nil_iff]
                  intro j hj
                  simp [List.all_eq_true.1 hall j hj]
                rw [hfil]
                simp only [mildsE, dropT]
                exact h
              | dfr d =>
                exfalso
                unfold actE at ha
                split at ha
                · repeat' split at ha
                  all_goals cases ha
                · repeat' split at ha
                  all_goals cases ha
                · rename_i heq; rw [heq] at hp3; cases hp3
                · repeat' split at ha
                  all_goals cases ha
                · repeat' split at ha
                  all_goals cases ha
              | rcv p v =>
                exfalso
                unfold actE at ha
                split at ha
                · repeat' split at ha
                  all_goals cases ha
                · rename_i heq; rw [heq] at hp3; cases hp3
                · repeat' split at ha
                  all_goals cases ha
                · repeat' split at ha
                  all_goals cases ha
                · repeat' split at ha
                  all_goals cases ha
            · have hb : Nat.beq (clsE o.op) 3 = false := by
                cases hq : Nat.beq (clsE o.op) 3 with
                | false => rfl
                | true => exact absurd (Nat.eq_of_beq_eq_true hq) h3
              simp only [hb, Bool.false_eq_true, if_false]
              have hcl : clsE o.op = 0 ∨ clsE o.op = 2 := by
                split at hc
                · left; assumption
                · right; assumption
                · rename_i h4; exact absurd h4 h3
                · cases hc
              have hval : ∃ v S', opE P o.op fr.opd S = some (v, S') ∧ a = .val v S' := by
                unfold actE at ha
                split at ha
                · rename_i heq; rw [heq] at h3; exact absurd rfl h3
                · rename_i heq; rw [heq] at hp3; cases hp3
                · rename_i heq; rw [heq] at hp3; cases hp3
                · rename_i heq; rw [heq] at h3; exact absurd rfl h3
                · cases ho2 : opE P o.op fr.opd S with
                  | none => rw [ho2] at ha; cases ha
                  | some q => obtain ⟨v, S'⟩ := q; rw [ho2] at ha; cases ha; exact ⟨v, S', rfl, rfl⟩
              obtain ⟨v, S', ho2, rfl⟩ := hval
              have hS := cls0_state hcl ho2
              subst hS
              simp only at h
              rcases hcl with h0 | h2
              · rw [h0] at hc
                simp only [Bool.and_eq_true] at hc
                refine mild v ⟨acts, fun _ h => h, hc.2⟩ (by simp only [mildE, hw, hope, ho2, h0]) (hput _ _ _ h)
              · rw [h2] at hc
                simp only [Bool.and_eq_true] at hc
                refine mild v ⟨acts, fun _ h => h, hc.2⟩ (by simp only [mildE, hw, hope, ho2, h2, sameE_good (hope.trans ho2) hc.1.2 T hT, if_true]) (hput _ _ _ h)

/-- In the operations' own order. -/
def calmId (ops : Array Oper) : Bool := (planOf ops).ok && decide ((planOf ops).ord = List.range ops.size) && calmL ops (planOf ops).ms (planOf ops).ord []

/-- In this order. -/
def calmAt (ops : Array Oper) (ord : List Nat) : Bool := (planOf ops).ok && decide ((planOf ops).ord = ord) && calmL ops (planOf ops).ms (planOf ops).ord []

theorem region_calmAt {rec : Rec} {ops : Array Oper} {ord : List Nat} (h : calmAt ops ord = true) {fr : Fr} {S : St} {r : Rs} (hr : opsL rec P ops (ord.filterMap (ops[·]?)) fr S = some r) : regionE rec P ops true fr S = some r := by
  simp only [calmAt, Bool.and_eq_true, decide_eq_true_eq] at h
  obtain ⟨⟨h1, h2⟩, h3⟩ := h
  subst h2
  simp only [regionE, h1, if_true]
  exact draw_calm _ [] [] fr S r h3 rfl hr

theorem region_calmId {rec : Rec} {ops : Array Oper} (h : calmId ops = true) {fr : Fr} {S : St} {r : Rs} (hr : opsL rec P ops ops.toList fr S = some r) : regionE rec P ops true fr S = some r := by
  refine region_calmAt (ord := List.range ops.size) h ?_
  rw [range_ops]; exact hr

end
end Go.Ev
