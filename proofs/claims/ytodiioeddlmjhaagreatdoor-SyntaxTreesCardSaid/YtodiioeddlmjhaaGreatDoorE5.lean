import Derived.Test.YtodiioeddlmjhaaGreatDoorE4
set_option linter.unusedVariables false
set_option linter.unusedSimpArgs false
namespace Go.Ev
mutual
theorem V.beq_eq : ∀ {a b : V}, V.beq a b = true → a = b := by
 intro a b h
 cases a <;> cases b <;> simp [V.beq] at h <;> try rfl
 all_goals first
  | (subst h; rfl)
  | (obtain ⟨rfl, rfl⟩ := h; rfl)
  | (obtain ⟨⟨h1, h2⟩, h3⟩ := h; rw [h1, V.beqs_eq h2, h3])
  | (obtain ⟨⟨⟨h1, h2⟩, h3⟩, h4⟩ := h; first | (rw [h1, h2, V.beqs_eq h3, h4]) | rw [h1, h2, h3, h4])
  | (obtain ⟨⟨h1, h2⟩, h3⟩ := h; rw [h1, V.beqs_eq h2, V.beqs_eq h3])
  | (obtain ⟨h1, h2⟩ := h; rw [h1, V.beq_eq h2])
  | (obtain ⟨⟨h1, h2⟩, h3⟩ := h; rw [h1, h2, h3])
  | (rw [V.beqs_eq h])
theorem V.beqs_eq : ∀ {a b : List V}, V.beqs a b = true → a = b := by
 intro a b h
 cases a <;> cases b <;> simp [V.beqs] at h
 ·rfl
 ·rw [V.beq_eq h.1, V.beqs_eq h.2]
end
section
variable {P : Program} {ev : Operand → Option V} {S S' : St} {op : Op} {v : V}
theorem cls0 (hc : clsE op = 0) (h : opE P op ev S = some (v, S')) : ∀ U, opE P op ev U = some (v, U) := by
 intro U
 cases op
 case call c =>
  obtain ⟨callee, args, ats⟩ := c
  cases callee with
  | builtin b => cases b <;> simp [clsE] at hc <;> (simp only [opE] at h ⊢; split at h <;> (try (cases h; done)); simp only [builtinE] at h ⊢; repeat' split at h) <;> first | (simp_all; done) | (simp_all; obtain ⟨_, h1, rfl, _⟩ := h; exact h1)
  | value f => simp [clsE] at hc
  | invoke r m => simp [clsE] at hc
 all_goals simp [clsE] at hc
 all_goals
  simp only [opE] at h ⊢
  repeat' split at h
 all_goals first | (simp_all; done) | (simp_all; obtain ⟨_, h1, rfl, _⟩ := h; exact h1) | (simp_all; obtain ⟨_, h1, rfl, _⟩ := h; exact ⟨_, h1, rfl⟩)
theorem cls1 (hc : clsE op = 1) (h : opE P op ev S = some (v, S')) :
 (S'.next = S.next → ∀ U, opE P op ev U = some (v, U)) ∧
 (∀ ob, ob.made = true → S'.h.find S.next = some ob → S'.next ≠ S.next → ∀ U, U.next = S.next → opE P op ev U = some (v, U.new ob)) := by
 cases op
 case call c =>
  obtain ⟨callee, args, ats⟩ := c
  cases callee with
  | builtin b => cases b <;> simp [clsE] at hc
  | value f => simp [clsE] at hc
  | invoke r m => simp [clsE] at hc
 all_goals simp [clsE] at hc
 case alloc t' =>
  simp only [opE, Option.map_eq_some_iff, Prod.mk.injEq] at h ⊢
  obtain ⟨z, h1, rfl, rfl⟩ := h
  refine ⟨fun h => by simp [St.new] at h, fun ob _ hb _ U hU => ?_⟩
  simp [St.new, Tr.find_put] at hb
  subst hb
  exact ⟨z, h1, by rw [hU], rfl⟩
 case box t' x =>
  simp only [opE, Option.map_eq_some_iff, Prod.mk.injEq] at h ⊢
  obtain ⟨z, h1, rfl, rfl⟩ := h
  refine ⟨fun h => by simp [St.new] at h, fun ob _ hb _ U hU => ?_⟩
  simp [St.new, Tr.find_put] at hb
  subst hb
  exact ⟨z, h1, by rw [hU], rfl⟩
 case makeSlice t' l c =>
  simp only [opE] at h ⊢
  split at h <;> try (cases h; done)
  rename_i a b ha hb'
  simp only [makeSliceE] at h ⊢
  repeat' split at h
  all_goals try (cases h; done)
  ·rename_i hcnd hc0
   cases h
   refine ⟨fun _ U => ?_, fun ob _ hb hn => absurd rfl hn⟩
   simp_all
  ·cases h
   exact ⟨fun h => by simp [St.new] at h, fun ob hm hb => by simp [St.new, Tr.find_put] at hb; subst hb; cases hm⟩
  ·rename_i hcnd hc0 hl0
   simp only [Option.some.injEq, Prod.mk.injEq] at h
   obtain ⟨rfl, rfl⟩ := h
   refine ⟨fun h => by simp [St.new] at h, fun ob _ hb _ U hU => ?_⟩
   simp [St.new, Tr.find_put] at hb
   subst hb
   simp_all
 case makeMap t' r =>
  simp only [opE] at h ⊢
  split at h
  ·cases h
   refine ⟨fun h => by simp [St.new] at h, fun ob _ hb _ U hU => ?_⟩
   simp [St.new, Tr.find_put] at hb
   subst hb
   simp_all
  ·cases h
   refine ⟨fun h => by simp [St.new] at h, fun ob _ hb _ U hU => ?_⟩
   simp [St.new, Tr.find_put] at hb
   subst hb
   simp_all
  ·cases h
theorem cls2 (hc : clsE op = 2) (h : opE P op ev S = some (v, S')) : S' = S := by
 cases op
 case call c =>
  obtain ⟨callee, args, ats⟩ := c
  cases callee with
  | builtin b => cases b <;> simp [clsE] at hc
  | value f => simp [clsE] at hc
  | invoke r m => simp [clsE] at hc
 all_goals simp [clsE] at hc
 case load t a =>
  simp only [opE] at h
  split at h
  ·exact map_st (f := fun v => v) h
  ·cases h
 case convert s d x =>
  simp only [opE] at h
  split at h
  ·exact convertE_le h
  ·cases h
 case lookup t x k ok =>
  simp only [opE] at h
  split at h
  ·exact map_st (f := fun v => v) h
  ·cases h
theorem act_of_op {rec : Rec} {pan : Pan} (hc : clsE op < 3) (h : opE P op ev S = some (v, S')) : actE rec P op ev pan S = some (.val v S') := by
 cases op
 case call c =>
  obtain ⟨callee, args, ats⟩ := c
  cases callee with
  | builtin b => cases b <;> simp [clsE] at hc <;> simp only [actE, h]
  | value f => simp [clsE] at hc
  | invoke r m => simp [clsE] at hc
 all_goals first
  | (simp [clsE] at hc; done)
  | simp only [actE, h]
end
end Go.Ev
namespace Go.Ev
def En.i : En → Nat
 | .mild i _ _ _ _ | .act i _ _ _ _ => i
def En.o : En → Oper
 | .mild _ o _ _ _ | .act _ o _ _ _ => o
def En.v : En → V
 | .mild _ _ v _ _ | .act _ _ v _ _ => v
def En.lo : En → Nat
 | .mild _ _ _ n _ | .act _ _ _ n _ => n
def En.hi : En → Nat
 | .mild _ _ _ n ob => match ob with
  | some _ => n + 1
  | none => n
 | .act _ _ _ _ S => S.next
def En.st : En → St → St
 | .mild _ _ _ _ ob, S => S.plus ob
 | .act _ _ _ _ S', _ => S'
def En.isMild : En → Bool
 | .mild .. => true
 | .act .. => false
abbrev idx (T : List En) : List Nat := T.map En.i
abbrev anc (ops : Array Oper) (i j : Nat) : Bool := ancOf (masks ops.toList []) i j
section
variable (rec : Rec) (P : Program) (ops : Array Oper) (S0 : St) (fr0 : Fr)
inductive EF [Glob] : En → List En → Fr → St → Prop
 | mild {i : Nat} {o : Oper} {v : V} {ob : Option Ob} {T : List En} {fr : Fr} {S : St} (ho : ops[i]? = some o) (hm : mildE P ops (masks ops.toList []) S0 i o T fr S = some (v, ob))
  (ha : ∀ j, anc ops j i = true → j ∈ idx T) (hn : i ∉ idx T) : EF (.mild i o v S.next ob) T fr S
 | act {i : Nat} {o : Oper} {v : V} {T : List En} {fr : Fr} {S S' : St} (ho : ops[i]? = some o) (hw : wantE ops o fr = some true) (hx : actE rec P o.op (viewE fr (looks ops o)) fr.pan S = some (.val v S'))
  (ha : ∀ j, anc ops j i = true → j ∈ idx T) (hn : i ∉ idx T) (hb : ∀ j ∈ idx T, anc ops j i = true) : EF (.act i o v S.next S') T fr S
inductive Tra [Glob] : List En → Fr → St → Prop
 | nil : Tra [] fr0 S0
 | cons {e : En} {T : List En} {fr fr' : Fr} {S : St} (h : Tra T fr S) (f : EF rec P ops S0 e T fr S) (hp : fr.put e.o.dst e.v = some fr') : Tra (e :: T) fr' (e.st S)
 | jump {T : List En} {fr : Fr} {S : St} (h : Tra T fr S) (n : Nat) (hn : S.next ≤ n) : Tra T fr { S with next := n }
end
section
variable {rec : Rec} {P : Program} {ops : Array Oper} {S0 : St} {fr0 : Fr} {e : En} {T : List En} {fr : Fr} {S : St}
theorem EF.ho [Glob] (f : EF rec P ops S0 e T fr S) : ops[e.i]? = some e.o := by cases f <;> assumption
theorem EF.ha [Glob] (f : EF rec P ops S0 e T fr S) : ∀ j, anc ops j e.i = true → j ∈ idx T := by cases f <;> assumption
theorem EF.hn [Glob] (f : EF rec P ops S0 e T fr S) : e.i ∉ idx T := by cases f <;> assumption
theorem EF.lo [Glob] (f : EF rec P ops S0 e T fr S) : e.lo = S.next := by cases f <;> rfl
theorem EF.hi [Glob] (f : EF rec P ops S0 e T fr S) : e.hi = (e.st S).next := by
 obtain @⟨i, o, v, ob, _, _, _, _, _, _, _⟩ | _ := f
 ·cases ob <;> rfl
 ·rfl
theorem mild_le [Glob] {i : Nat} {o : Oper} {v : V} {ob : Option Ob} (_ : mildE P ops (masks ops.toList []) S0 i o T fr S = some (v, ob)) : StLe S (S.plus ob) := by
 cases ob with
 | none => exact .refl _
 | some ob => exact .new _ _
theorem EF.le [Glob] (hl : LeOk rec) (f : EF rec P ops S0 e T fr S) : StLe S (e.st S) := by
 cases f with
 | mild ho hm ha hn => exact mild_le hm
 | act ho hw hx ha hn hb => exact actE_le hl hx
theorem Tra.le [Glob] (hl : LeOk rec) (h : Tra rec P ops S0 fr0 T fr S) : StLe S0 S := by
 induction h with
 | nil => exact .refl _
 | cons h f hp ih => exact ih.trans (f.le hl)
 | jump h n hn ih => exact ih.trans (.up _ hn)
theorem Fr.put_n {fr fr' : Fr} {dst : Option Tmp} {v : V} (hp : fr.put dst v = some fr') : fr'.n = fr.n ∧ (∀ d, dst = some d → d < fr.n) ∧ ∀ t, fr'.t.find t = if dst = some t then some v else fr.t.find t := by
 cases dst with
 | none => simp [Fr.put] at hp; subst hp; simp
 | some d =>
  simp only [Fr.put] at hp
  split at hp
  ·rename_i hd
   cases hp
   refine ⟨rfl, fun d' hd' => by cases hd'; simpa using hd, fun t => ?_⟩
   simp only [Tr.find_put]
   by_cases h : t = d
   ·subst h; simp
   ·rw [if_neg h, if_neg (fun e => h (by cases e; rfl))]
  ·cases hp
theorem Tra.same [Glob] (h : Tra rec P ops S0 fr0 T fr S) : fr.pan = fr0.pan ∧ fr.ds = fr0.ds ∧ fr.n = fr0.n := by
 induction h with
 | nil => exact ⟨rfl, rfl, rfl⟩
 | cons h f hp ih =>
  obtain ⟨h1, h2, h3⟩ := ih
  exact ⟨by rw [(Fr.put_pan hp).1, h1], by rw [(Fr.put_pan hp).2, h2], by rw [(Fr.put_n hp).1, h3]⟩
 | jump h n hn ih => exact ih
theorem Tra.look [Glob] (h : Tra rec P ops S0 fr0 T fr S) {t : Tmp} {u : V} (hu : fr.t.find t = some u) :
 (∃ e ∈ T, e.o.dst = some t ∧ e.v = u) ∨ ((∀ e ∈ T, e.o.dst ≠ some t) ∧ fr0.t.find t = some u) := by
 induction h with
 | nil => exact .inr ⟨fun _ h => (by cases h), hu⟩
 | cons h f hp ih =>
  rename_i e T fr fr' S
  rw [(Fr.put_n hp).2.2] at hu
  split at hu
  ·rename_i hd
   cases hu
   exact .inl ⟨e, List.mem_cons_self, hd, rfl⟩
  ·rename_i hd
   rcases ih hu with ⟨e', h1, h2⟩ | ⟨h1, h2⟩
   ·exact .inl ⟨e', List.mem_cons_of_mem _ h1, h2⟩
   ·refine .inr ⟨fun e' he' => ?_, h2⟩
    rcases List.mem_cons.1 he' with rfl | he'
    ·exact hd
    ·exact h1 e' he'
 | jump h n hn ih => exact ih hu
theorem Tra.dst_lt [Glob] (h : Tra rec P ops S0 fr0 T fr S) : ∀ e ∈ T, ∀ d, e.o.dst = some d → d < fr0.n := by
 induction h with
 | nil => intro _ h; cases h
 | cons h f hp ih =>
  intro e' he' d hd
  rcases List.mem_cons.1 he' with rfl | he'
  ·rw [← h.same.2.2]; exact (Fr.put_n hp).2.1 d hd
  ·exact ih e' he' d hd
 | jump h n hn ih => exact ih
theorem Tra.nodup [Glob] (h : Tra rec P ops S0 fr0 T fr S) : (idx T).Nodup := by
 induction h with
 | nil => exact List.nodup_nil
 | cons h f hp ih => exact List.nodup_cons.2 ⟨f.hn, ih⟩
 | jump h n hn ih => exact ih
theorem Tra.split [Glob] (hl : LeOk rec) (h : Tra rec P ops S0 fr0 T fr S) : ∀ {R T1 : List En} {e : En}, T = R ++ e :: T1 →
 ∃ fr1 S1, Tra rec P ops S0 fr0 T1 fr1 S1 ∧ EF rec P ops S0 e T1 fr1 S1 ∧ (e.st S1).next ≤ S.next ∧ ∀ e' ∈ R, (e.st S1).next ≤ e'.lo := by
 induction h with
 | nil => intro R T1 e he; simp at he
 | cons h f hp ih =>
  rename_i e0 T fr fr' S
  intro R T1 e he
  cases R with
  | nil =>
   simp only [List.nil_append, List.cons.injEq] at he
   obtain ⟨rfl, rfl⟩ := he
   exact ⟨_, _, h, f, Nat.le_refl _, fun _ h => (by cases h)⟩
  | cons r R =>
   simp only [List.cons_append, List.cons.injEq] at he
   obtain ⟨rfl, he⟩ := he
   obtain ⟨fr1, S1, h1, h2, h3, h4⟩ := ih he
   refine ⟨fr1, S1, h1, h2, Nat.le_trans h3 (f.le hl).next, fun e' he' => ?_⟩
   rcases List.mem_cons.1 he' with rfl | he'
   ·rw [f.lo]; exact h3
   ·exact h4 e' he'
 | jump h n hn ih =>
  intro R T1 e he
  obtain ⟨fr1, S1, h1, h2, h3, h4⟩ := ih he
  exact ⟨fr1, S1, h1, h2, Nat.le_trans h3 hn, h4⟩
theorem Tra.tail [Glob] (hl : LeOk rec) (h : Tra rec P ops S0 fr0 T fr S) : ∀ {R T1 : List En}, T = R ++ T1 → ∃ fr1 S1, Tra rec P ops S0 fr0 T1 fr1 S1 ∧ S1.next ≤ S.next ∧ ∀ e' ∈ R, S1.next ≤ e'.lo := by
 induction h with
 | nil =>
  intro R T1 he
  have h2 : R = [] ∧ T1 = [] := by simpa using he.symm
  obtain ⟨rfl, rfl⟩ := h2
  exact ⟨_, _, .nil, Nat.le_refl _, fun _ h => (by cases h)⟩
 | cons h f hp ih =>
  rename_i e0 T fr fr' S
  intro R T1 he
  cases R with
  | nil =>
   simp only [List.nil_append] at he
   subst he
   exact ⟨_, _, h.cons f hp, Nat.le_refl _, fun _ h => (by cases h)⟩
  | cons r R =>
   simp only [List.cons_append, List.cons.injEq] at he
   obtain ⟨rfl, he⟩ := he
   obtain ⟨fr1, S1, h1, h3, h4⟩ := ih he
   refine ⟨fr1, S1, h1, Nat.le_trans h3 (f.le hl).next, fun e' he' => ?_⟩
   rcases List.mem_cons.1 he' with rfl | he'
   ·rw [f.lo]; exact h3
   ·exact h4 e' he'
 | jump h n hn ih =>
  intro R T1 he
  obtain ⟨fr1, S1, h1, h3, h4⟩ := ih he
  exact ⟨fr1, S1, h1, Nat.le_trans h3 hn, h4⟩
theorem Tra.range [Glob] (hl : LeOk rec) (h : Tra rec P ops S0 fr0 T fr S) {e : En} (he : e ∈ T) : S0.next ≤ e.lo ∧ e.lo ≤ e.hi ∧ e.hi ≤ S.next := by
 obtain ⟨R, T1, rfl⟩ := List.append_of_mem he
 obtain ⟨fr1, S1, h1, h2, h3, _⟩ := h.split hl rfl
 exact ⟨by rw [h2.lo]; exact (h1.le hl).next, by rw [h2.lo, h2.hi]; exact (h2.le hl).next, by rw [h2.hi]; exact h3⟩
theorem Tra.apart [Glob] (hl : LeOk rec) (h : Tra rec P ops S0 fr0 T fr S) {e e' : En} (he : e ∈ T) (he' : e' ∈ T) (hne : e.i ≠ e'.i) : e.hi ≤ e'.lo ∨ e'.hi ≤ e.lo := by
 obtain ⟨R, T1, rfl⟩ := List.append_of_mem he
 obtain ⟨fr1, S1, h1, h2, h3, h4⟩ := h.split hl rfl
 rcases List.mem_append.1 he' with h5 | h5
 ·exact .inl (by rw [h2.hi]; exact h4 e' h5)
 ·rcases List.mem_cons.1 h5 with rfl | h5
  ·exact absurd rfl hne
  ·exact .inr (by rw [h2.lo]; exact (h1.range hl h5).2.2)
theorem idx_inj (hn : (idx T).Nodup) {e e' : En} (he : e ∈ T) (he' : e' ∈ T) (h : e.i = e'.i) : e = e' := by
 induction T with
 | nil => cases he
 | cons a T ih =>
  simp only [idx, List.map_cons, List.nodup_cons] at hn
  obtain ⟨hn1, hn2⟩ := hn
  rcases List.mem_cons.1 he with he | he <;> rcases List.mem_cons.1 he' with he' | he'
  ·rw [he, he']
  ·rw [he] at h; exact absurd (List.mem_map.2 ⟨e', he', h.symm⟩) hn1
  ·rw [he'] at h; exact absurd (List.mem_map.2 ⟨e, he, h⟩) hn1
  ·exact ih hn2 he he'
def Marks (pm : Nat) (T : List En) : Prop := ∀ j, pm.testBit j = true ↔ j ∈ idx T
theorem Marks.nil : Marks 0 [] := fun j => by simp
theorem Marks.add {pm i : Nat} (h : Marks pm T) (he : e.i = i) : Marks (Nat.lor pm (2 ^ i)) (e :: T) := by
 intro j
 have : (Nat.lor pm (2 ^ i)).testBit j = (pm ||| 2 ^ i).testBit j := rfl
 rw [this, Nat.testBit_or, Nat.testBit_two_pow, Bool.or_eq_true, h j]
 simp only [decide_eq_true_eq, idx, List.map_cons, List.mem_cons, he]
 constructor
 ·rintro (h | h)
  ·exact .inr h
  ·exact .inl h.symm
 ·rintro (h | h)
  ·exact .inr h.symm
  ·exact .inl h
theorem land_sub {a b j : Nat} (h : Nat.beq (Nat.land a b) a = true) (hj : a.testBit j = true) : b.testBit j = true := by
 have h1 : a &&& b = a := Nat.eq_of_beq_eq_true h
 rw [← h1, Nat.testBit_and, Bool.and_eq_true] at hj
 exact hj.2
theorem ordOk_head {pm i : Nat} {l : List Nat} (hm : Marks pm T) (h : ordOk (masks ops.toList []) ops pm (i :: l) = true) :
 (∀ j, anc ops j i = true → j ∈ idx T) ∧ i ∉ idx T ∧ (cls3 ops i = true → ∀ j ∈ idx T, anc ops j i = true) ∧ ordOk (masks ops.toList []) ops (Nat.lor pm (2 ^ i)) l = true := by
 simp only [ordOk, Bool.and_eq_true, Bool.or_eq_true, Bool.not_eq_true'] at h
 obtain ⟨⟨⟨⟨_, h1⟩, h2⟩, h3⟩, h4⟩ := h
 refine ⟨fun j hj => ?_, fun hi => ?_, fun hc j hj => ?_, h4⟩
 ·unfold anc ancOf at hj
  rw [bitAt_eq] at hj
  exact (hm j).1 (land_sub h1 hj)
 ·rw [bitAt_eq, (hm i).2 hi] at h2; cases h2
 ·rcases h3 with h3 | h3
  ·rw [hc] at h3; cases h3
  ·unfold anc ancOf
   rw [bitAt_eq]
   exact land_sub h3 ((hm j).2 hj)
theorem ordOk_nil {pm : Nat} (hm : Marks pm T) (h : ordOk (masks ops.toList []) ops pm [] = true) : ∀ i, i < ops.size → i ∈ idx T := by
 intro i hi
 have h1 : pm = 2 ^ ops.size - 1 := Nat.eq_of_beq_eq_true h
 rw [← hm i, h1, Nat.testBit_two_pow_sub_one]
 simpa using hi
theorem maskOf_eq : ∀ T : List En, Marks (maskOf T) T
 | [] => .nil
 | .mild i _ _ _ _ :: T => Marks.add (maskOf_eq T) rfl
 | .act i _ _ _ _ :: T => Marks.add (maskOf_eq T) rfl
theorem ordOk_notin {i : Nat} : ∀ (l : List Nat) {pm : Nat}, pm.testBit i = true → ordOk (masks ops.toList []) ops pm l = true → i ∉ l := by
 intro l
 induction l with
 | nil => intro _ _ _ h; cases h
 | cons j l ih =>
  intro pm hb h hi
  simp only [ordOk, Bool.and_eq_true, Bool.not_eq_true'] at h
  obtain ⟨⟨⟨_, h2⟩, _⟩, h4⟩ := h
  rcases List.mem_cons.1 hi with rfl | hi
  ·rw [bitAt_eq, hb] at h2; cases h2
  ·refine ih ?_ h4 hi
   show (pm ||| 2 ^ j).testBit i = true
   rw [Nat.testBit_or, hb, Bool.true_or]
theorem ordOk_cover : ∀ (l : List Nat) {pm : Nat}, ordOk (masks ops.toList []) ops pm l = true → ∀ i, i < ops.size → pm.testBit i = true ∨ i ∈ l := by
 intro l
 induction l with
 | nil =>
  intro pm h i hi
  have h1 : pm = 2 ^ ops.size - 1 := Nat.eq_of_beq_eq_true h
  rw [h1, Nat.testBit_two_pow_sub_one]
  exact .inl (by simpa using hi)
 | cons j l ih =>
  intro pm h i hi
  simp only [ordOk, Bool.and_eq_true] at h
  rcases ih h.2 i hi with h1 | h1
  ·have h1 : (pm ||| 2 ^ j).testBit i = true := h1
   rw [Nat.testBit_or, Nat.testBit_two_pow, Bool.or_eq_true, decide_eq_true_eq] at h1
   rcases h1 with h1 | h1
   ·exact .inl h1
   ·exact .inr (by rw [← h1]; exact List.mem_cons_self)
  ·exact .inr (List.mem_cons_of_mem _ h1)
theorem mildsE_tra [Glob] : ∀ (l : List Nat) {pm n : Nat} {T : List En} {fr : Fr} {S : St}, Tra rec P ops S0 fr0 T fr S → Marks pm T → mildsE P ops (masks ops.toList []) S0 pm l T fr S = some n →
 ∃ R fr' S', Tra rec P ops S0 fr0 (R ++ T) fr' S' ∧ S'.next = n ∧ S.next ≤ S'.next ∧ (∀ e ∈ R, e.i ∈ l ∧ e.isMild = true ∧ S.next ≤ e.lo) ∧ ∀ i ∈ l, i ∈ idx R
 | [], pm, n, T, fr, S, h, hm, hE => by
  simp only [mildsE, Option.some.injEq] at hE
  exact ⟨[], fr, S, h, hE, Nat.le_refl _, fun _ h => (by cases h), fun _ h => (by cases h)⟩
 | i :: l, pm, n, T, fr, S, h, hm, hE => by
  simp only [mildsE] at hE
  split at hE
  ·cases hE
  ·rename_i o ho
   split at hE
   ·rename_i hc
    simp only [Bool.and_eq_true, Bool.not_eq_true'] at hc
    split at hE
    ·cases hE
    ·rename_i v ob hmi
     split at hE
     ·cases hE
     ·rename_i fr1 hp
      have f : EF rec P ops S0 (.mild i o v S.next ob) T fr S := .mild ho hmi (fun j hj => by
       unfold anc ancOf at hj
       rw [bitAt_eq] at hj
       exact (hm j).1 (land_sub hc.1 hj)) (fun hi => by have := hc.2; rw [bitAt_eq, (hm i).2 hi] at this; cases this)
      have h1 : Tra rec P ops S0 fr0 (.mild i o v S.next ob :: T) fr1 (S.plus ob) := h.cons f hp
      obtain ⟨R, fr', S', r1, r2, r0, r3, r4⟩ := mildsE_tra l h1 (hm.add rfl) hE
      refine ⟨R ++ [.mild i o v S.next ob], fr', S', by rw [List.append_assoc]; exact r1, r2, Nat.le_trans (mild_le hmi).next r0, fun e he => ?_, fun j hj => ?_⟩
      ·rcases List.mem_append.1 he with he | he
       ·obtain ⟨q1, q2, q3⟩ := r3 e he
        exact ⟨List.mem_cons_of_mem _ q1, q2, Nat.le_trans (mild_le hmi).next q3⟩
       ·cases List.mem_singleton.1 he
        exact ⟨List.mem_cons_self, rfl, Nat.le_refl _⟩
      ·simp only [idx, List.map_append, List.mem_append]
       rcases List.mem_cons.1 hj with rfl | hj
       ·exact .inr (by simp [En.i])
       ·exact .inl (r4 j hj)
   ·cases hE
structure PF [Glob] (rec : Rec) (P : Program) (ops : Array Oper) (S0 : St) (fr0 : Fr) (T : List En) (m : Nat) (v : V) (fr : Fr) (S' : St) : Prop where
 intro ::
 pan : ∃ (o : Oper) (R T0 : List En) (frm frR : Fr) (Sm Sa SR : St) (l2 : List Nat), T = R ++ T0 ∧ Tra rec P ops S0 fr0 T0 frm Sm ∧ ops[m]? = some o ∧ wantE ops o frm = some true ∧
  actE rec P o.op (viewE frm (looks ops o)) frm.pan Sm = some (.pan v Sa) ∧ (∀ j, anc ops j m = true → j ∈ idx T0) ∧ (∀ j ∈ idx T0, anc ops j m = true) ∧ m ∉ idx T ∧
  Tra rec P ops S0 fr0 T frR SR ∧ (∀ e ∈ R, e.isMild = true ∧ Sa.next ≤ e.lo ∧ e.i ∈ l2) ∧ (∀ j ∈ l2, anc ops m j = false) ∧ (∀ i, i < ops.size → i ∈ idx T ∨ i = m ∨ anc ops m i = true) ∧
  fr = dropT ops l2 frm ∧ S' = { Sa with next := SR.next } ∧ Sa.next ≤ SR.next
theorem drawE_tra [Glob] (hl : LeOk rec) : ∀ (l : List Nat) {pm : Nat} {T : List En} {fr : Fr} {S : St} {r : Rs}, Tra rec P ops S0 fr0 T fr S → Marks pm T → ordOk (masks ops.toList []) ops pm l = true → drawE rec P ops (masks ops.toList []) S0 l T fr S = some r →
 (∃ T' fr' S', r = .code .normal fr' S' ∧ Tra rec P ops S0 fr0 T' fr' S' ∧ ∀ i, i < ops.size → i ∈ idx T') ∨
 (∃ T' m v fr' S', r = .code (.panic v) fr' S' ∧ PF rec P ops S0 fr0 T' m v fr' S')
 | [], pm, T, fr, S, r, h, hm, hord, hE => by
  rw [drawE] at hE
  simp only [Option.some.injEq] at hE
  exact .inl ⟨T, fr, S, hE.symm, h, ordOk_nil hm hord⟩
 | i :: l, pm, T, fr, S, r, h, hm, hord, hE => by
  obtain ⟨ha, hn, hb, hord'⟩ := ordOk_head hm hord
  simp only [drawE] at hE
  split at hE
  ·cases hE
  ·rename_i o ho
   split at hE
   ·rename_i hcw
    simp only [Bool.and_eq_true] at hcw
    obtain ⟨hc3, hw⟩ := hcw
    have hw : wantE ops o fr = some true := by
     cases hq : wantE ops o fr with
     | none => rw [hq] at hw; cases hw
     | some b => rw [hq] at hw; cases b <;> first | rfl | cases hw
    have h3 : cls3 ops i = true := by unfold cls3; rw [ho]; exact hc3
    split at hE
    ·rename_i v S' hx
     split at hE
     ·cases hE
     ·rename_i fr' hp
      exact drawE_tra hl l (h.cons (.act ho hw hx ha hn (hb h3)) hp) (hm.add rfl) hord' hE
    ·rename_i v S' hx
     split at hE
     ·rename_i n hms
      simp only [Option.some.injEq] at hE
      have hle : S.next ≤ S'.next := (actE_le hl hx : StLe S S').next
      obtain ⟨R, frR, SR, r1, r2, r0, r3, r4⟩ := mildsE_tra _ (h.jump S'.next hle) (maskOf_eq T) hms
      refine .inr ⟨R ++ T, i, v, _, _, hE.symm, ⟨o, R, T, fr, frR, S, S', SR, l.filter fun j => !ancOf (masks ops.toList []) i j, rfl, h, ho, hw, hx, ha, hb h3, ?_, r1, fun e he => ?_, fun j hj => ?_, fun j hj => ?_, rfl, ?_, r0⟩⟩
      ·simp only [idx, List.map_append, List.mem_append, not_or]
       refine ⟨fun hi => ?_, hn⟩
       obtain ⟨e, he, hei⟩ := List.mem_map.1 hi
       have h1 := (List.mem_filter.1 (r3 e he).1).1
       rw [hei] at h1
       refine ordOk_notin l ?_ hord' h1
       show (pm ||| 2 ^ i).testBit i = true
       rw [Nat.testBit_or, Nat.testBit_two_pow]; simp
      ·exact ⟨(r3 e he).2.1, (r3 e he).2.2, (r3 e he).1⟩
      ·have h1 := (List.mem_filter.1 hj).2
       simpa [anc] using h1
      ·rcases ordOk_cover l hord' j hj with h1 | h1
       ·have h1 : (pm ||| 2 ^ i).testBit j = true := h1
        rw [Nat.testBit_or, Nat.testBit_two_pow, Bool.or_eq_true, decide_eq_true_eq] at h1
        rcases h1 with h1 | h1
        ·exact .inl (by simp only [idx, List.map_append, List.mem_append]; exact .inr ((hm j).1 h1))
        ·exact .inr (.inl h1.symm)
       ·cases hanc : anc ops i j
        ·exact .inl (by simp only [idx, List.map_append, List.mem_append]; exact .inl (r4 j (List.mem_filter.2 ⟨h1, by unfold anc at hanc; rw [hanc]; rfl⟩)))
        ·exact .inr (.inr rfl)
      ·rw [r2]
     ·cases hE
    ·cases hE
   ·split at hE
    ·cases hE
    ·rename_i v ob hmi
     split at hE
     ·cases hE
     ·rename_i fr' hp
      exact drawE_tra hl l (h.cons (.mild ho hmi ha hn) hp) (hm.add rfl) hord' hE
end
end Go.Ev
namespace Go.Ev
open Go.RowKit
def Own (σ : Sg) (H : Nat → Option Ob) (b : Nat) : Prop := ∃ id o x, H id = some o ∧ σ.ρ id = some x ∧ x.1 = b
structure HS (lo hi : Nat) (σ : Sg) (H : Nat → Option Ob) (w : World) (σ' : Sg) (H' : Nat → Option Ob) (w' : World) : Prop where
 le : σ.le σ'
 size : w.heap.size ≤ w'.heap.size
 keep : ∀ b, b < w.heap.size → ¬ Own σ H b → (∀ o, σ.I b o = none) → w'.heap[b]? = w.heap[b]?
 newI : ∀ b, b < w.heap.size → ¬ Own σ H b → ∀ o, σ'.I b o = σ.I b o
 newK : ∀ id x, σ.ρ id = none → σ'.ρ id = some x → lo ≤ id ∧ id < hi ∧ (w.heap.size ≤ x.1 ∨ Own σ H x.1)
 dom : ∀ id o, H' id = some o → (∃ o', H id = some o') ∨ (lo ≤ id ∧ id < hi ∧ σ.ρ id = none)
section
variable {lo hi : Nat} {σ σ' σ₁ σ₂ : Sg} {H H' H₁ H₂ : Nat → Option Ob} {w w' w₁ w₂ : World}
theorem HS.refl (lo hi : Nat) (σ : Sg) (H : Nat → Option Ob) (w : World) : HS lo hi σ H w σ H w :=
 ⟨.refl σ, Nat.le_refl _, fun _ _ _ _ => rfl, fun _ _ _ _ => rfl, (fun id x h k => by rw [h] at k; cases k), fun _ o h => Or.inl ⟨o, h⟩⟩
theorem HS.owns (h : HS lo hi σ H w σ₁ H₁ w₁) {b : Nat} (hb : b < w.heap.size) (hn : ¬ Own σ H b) : ¬ Own σ₁ H₁ b := by
 rintro ⟨id, o, x, h1, h2, h3⟩
 cases hk : σ.ρ id with
 | none =>
  obtain ⟨_, _, h4⟩ := h.newK id x hk h2
  rcases h4 with h4 | h4
  ·omega
  ·rw [h3] at h4; exact hn h4
 | some y =>
  have hy := h.le.ρ id y hk
  rw [hy] at h2
  cases h2
  rcases h.dom id o h1 with ⟨o', h5⟩ | ⟨_, _, h5⟩
  ·exact hn ⟨id, o', _, h5, hk, h3⟩
  ·rw [h5] at hk; cases hk
theorem HS.trans (h : HS lo hi σ H w σ₁ H₁ w₁) (k : HS lo hi σ₁ H₁ w₁ σ₂ H₂ w₂) : HS lo hi σ H w σ₂ H₂ w₂ := by
 refine ⟨h.le.trans k.le, Nat.le_trans h.size k.size, ?_, ?_, ?_, ?_⟩
 ·intro b hb hn hI
  rw [k.keep b (Nat.lt_of_lt_of_le hb h.size) (h.owns hb hn) (fun o => by rw [h.newI b hb hn o]; exact hI o)]
  exact h.keep b hb hn hI
 ·intro b hb hn o
  rw [k.newI b (Nat.lt_of_lt_of_le hb h.size) (h.owns hb hn) o]
  exact h.newI b hb hn o
 ·intro id x h1 h2
  cases hm : σ₁.ρ id with
  | some y =>
   have h3 := h.newK id y h1 hm
   have h4 := k.le.ρ id y hm
   rw [h4] at h2
   cases h2
   exact h3
  | none =>
   obtain ⟨h3, h4, h5⟩ := k.newK id x hm h2
   refine ⟨h3, h4, ?_⟩
   rcases h5 with h5 | h5
   ·exact .inl (Nat.le_trans h.size h5)
   ·rcases Nat.lt_or_ge x.1 w.heap.size with h6 | h6
    ·by_cases h7 : Own σ H x.1
     ·exact .inr h7
     ·exact absurd h5 (h.owns h6 h7)
    ·exact .inl h6
 ·intro id o ho
  rcases k.dom id o ho with ⟨o', h1⟩ | ⟨h1, h2, h3⟩
  ·exact h.dom id o' h1
  ·refine .inr ⟨h1, h2, ?_⟩
   cases hm : σ.ρ id with
   | none => rfl
   | some y => rw [h.le.ρ id y hm] at h3; cases h3
theorem HS.wide {a b : Nat} (h : HS a b σ H w σ' H' w') (ha : lo ≤ a) (hb : b ≤ hi) : HS lo hi σ H w σ' H' w' :=
 ⟨h.le, h.size, h.keep, h.newI, fun id x h1 h2 => let ⟨q1, q2, q3⟩ := h.newK id x h1 h2; ⟨Nat.le_trans ha q1, Nat.lt_of_lt_of_le q2 hb, q3⟩,
  fun id o ho => (h.dom id o ho).imp_right fun ⟨q1, q2, q3⟩ => ⟨Nat.le_trans ha q1, Nat.lt_of_lt_of_le q2 hb, q3⟩⟩
theorem HS.void {a b : Nat} (h : HS a b σ H w σ' H' w') (hab : b ≤ a) : HS lo hi σ H w σ' H' w' :=
 ⟨h.le, h.size, h.keep, h.newI, fun id x h1 h2 => let ⟨q1, q2, q3⟩ := h.newK id x h1 h2; absurd q2 (by omega),
  fun id o ho => (h.dom id o ho).imp_right fun ⟨q1, q2, q3⟩ => absurd q2 (by omega)⟩
theorem HS.less (h : HS lo hi σ H w σ' H' w') (hs : ∀ id o, H₂ id = some o → H' id = some o) : HS lo hi σ H w σ' H₂ w' :=
 ⟨h.le, h.size, h.keep, h.newI, h.newK, fun id o ho => h.dom id o (hs id o ho)⟩
theorem HS.toStp {S S' : St} (h : HS lo hi σ S.h.find w σ' H' w') (hs : ∀ id o, S'.h.find id = some o → H' id = some o) (h1 : S.next ≤ lo) (h2 : hi ≤ S'.next) (h3 : S.next ≤ S'.next) : Stp σ S w σ' S' w' :=
 ⟨h.le, h3, h.size, h.keep, h.newI, fun id x q1 q2 => let ⟨r1, r2, r3⟩ := h.newK id x q1 q2; ⟨Nat.le_trans h1 r1, Nat.lt_of_lt_of_le r2 h2, r3⟩,
  fun id o ho => (h.dom id o (hs id o ho)).imp_right fun ⟨r1, r2, _⟩ => ⟨Nat.le_trans h1 r1, Nat.lt_of_lt_of_le r2 h2⟩⟩
theorem RelF.less [Glob] {pd : Nat → Nat → Prop} {base : Nat} {w₀ : World} (h : RelF pd base w₀ σ H w) (hs : ∀ id o, H' id = some o → H id = some o) : RelF pd base w₀ σ H' w :=
 ⟨h.below, h.hb, h.imm, h.cur, h.ty, fun id o ho => h.ob id o (hs id o ho), fun i j o o' x y hi hj => h.inj i j o o' x y (hs _ _ hi) (hs _ _ hj), h.gl⟩
theorem over [Glob] {base : Nat} {w₀ : World} {U U' : St} (h : RelF none2 base w₀ σ H w) (hU : ∀ id o, U.h.find id = some o → H id = some o) (h' : Rel none2 base w₀ σ' U' w') (hS : Stp σ U w σ' U' w')
 (hf : Free σ U.next U'.next) (hJ : ∀ id o, H' id = some o → U'.h.find id = some o ∨ (H id = some o ∧ U.h.find id = none ∧ o.made = true)) :
 RelF none2 base w₀ σ' H' w' ∧ HS U.next U'.next σ H w σ' H' w' := by
 have junk : ∀ id ob, ob.made = true → H id = some ob → U.h.find id = none → ∃ b e, σ.ρ id = some (b, 0, e) ∧ b < w.heap.size ∧ ¬ Owns σ U b ∧ (∀ o, σ.I b o = none) ∧ ObR σ base w id ob := by
  intro id ob hm h1 h2
  have h3 := h.ob id _ h1
  obtain ⟨b, e, k1, k3, k5⟩ : ∃ b e, σ.ρ id = some (b, 0, e) ∧ b < w.heap.size ∧ ∀ o, σ.I b o = none := by
   cases ob with
   | tok => cases hm
   | box t cs => obtain ⟨b, e, vs, k1, k2, k3, k4, k5⟩ := h3; exact ⟨b, e, k1, heap_lt k3, k5⟩
   | oth x => obtain ⟨b, e, ob, k1, k2, k3, k4, k5⟩ := h3; exact ⟨b, e, k1, heap_lt k3, k5⟩
  refine ⟨b, e, k1, k3, ?_, k5, h3⟩
  rintro ⟨id', o', x, q1, q2, q3⟩
  have := h.inj id' id o' _ x _ (hU _ _ q1) h1 q2 k1 (by simp [q3])
  subst this
  rw [h2] at q1; cases q1
 have own : ∀ b, ¬ Own σ H b → ¬ Owns σ U b := fun b hn ⟨id, o, x, q1, q2, q3⟩ => hn ⟨id, o, x, hU _ _ q1, q2, q3⟩
 refine ⟨⟨h'.below, h'.hb, h'.imm, h'.cur, h'.ty, ?_, ?_, h'.gl⟩, ⟨hS.le, hS.size, ?_, ?_, ?_, ?_⟩⟩
 ·intro id o ho
  rcases hJ id o ho with h1 | ⟨h1, h2, hm⟩
  ·exact h'.ob id o h1
  ·obtain ⟨b, e, k1, k2, k3, k4, k5⟩ := junk id o hm h1 h2
   refine k5.keep hS.le fun x hx => ?_
   rw [k1] at hx; cases hx
   exact ⟨hS.keep b k2 k3 k4, fun o ho => by rw [hS.newI b k2 k3 o]; exact ho⟩
 ·intro i j o o' x y hi hj hx hy hxy
  rcases hJ i o hi with h1 | ⟨h1, h2, hm⟩ <;> rcases hJ j o' hj with g1 | ⟨g1, g2, hm'⟩
  ·exact h'.inj i j o o' x y h1 g1 hx hy hxy
  ·obtain ⟨b, e, k1, k2, k3, _⟩ := junk j _ hm' g1 g2
   have := hS.le.ρ _ _ k1
   rw [this] at hy; cases hy
   exact absurd ⟨i, o, x, h1, hx, hxy⟩ (hS.owns hf k2 k3)
  ·obtain ⟨b, e, k1, k2, k3, _⟩ := junk i _ hm h1 h2
   have := hS.le.ρ _ _ k1
   rw [this] at hx; cases hx
   exact absurd ⟨j, o', y, g1, hy, hxy.symm⟩ (hS.owns hf k2 k3)
  ·obtain ⟨b, e, k1, _⟩ := junk i _ hm h1 h2
   obtain ⟨b', e', k1', _⟩ := junk j _ hm' g1 g2
   have e1 := hS.le.ρ _ _ k1
   have e2 := hS.le.ρ _ _ k1'
   rw [e1] at hx; cases hx
   rw [e2] at hy; cases hy
   exact h.inj i j _ _ _ _ h1 g1 k1 k1' hxy
 ·exact fun b hb hn hI => hS.keep b hb (own b hn) hI
 ·exact fun b hb hn o => hS.newI b hb (own b hn) o
 ·intro id x h1 h2
  obtain ⟨q1, q2, q3⟩ := hS.newK id x h1 h2
  exact ⟨q1, q2, q3.imp_right fun ⟨id', o, y, r1, r2, r3⟩ => ⟨id', o, y, hU _ _ r1, r2, r3⟩⟩
 ·intro id o ho
  rcases hJ id o ho with h1 | ⟨h1, _⟩
  ·rcases hS.dom id o h1 with ⟨o', h2⟩ | ⟨h2, h3⟩
   ·exact .inl ⟨o', hU _ _ h2⟩
   ·exact .inr ⟨h2, h3, hf id h2 h3⟩
  ·exact .inl ⟨o, h1⟩
end
def hd (D : Nat → Bool) (h0 : Nat → Option Ob) : List En → Nat → Option Ob
 | [] => h0
 | .mild i _ _ n ob :: T => match ob with
  | some ob => fun id => if D i = true ∧ id = n then some ob else hd D h0 T id
  | none => hd D h0 T
 | .act i _ _ _ S :: T => if D i = true then S.h.find else hd D h0 T
def baseOf (D : Nat → Bool) (S0 : St) : List En → St
 | [] => S0
 | .mild .. :: T => baseOf D S0 T
 | .act i _ _ _ S :: T => if D i = true then S else baseOf D S0 T
def jin (D : Nat → Bool) : List En → Nat → Ob → Prop
 | [], _, _ => False
 | .mild i _ _ n ob :: T, id, o => (D i = true ∧ id = n ∧ ob = some o) ∨ jin D T id o
 | .act i _ _ _ _ :: T, id, o => D i = false ∧ jin D T id o
section
variable {D D' : Nat → Bool} {h0 : Nat → Option Ob} {T T1 R : List En}
theorem hd_none : ∀ {T : List En}, (∀ e ∈ T, D e.i = false) → hd D h0 T = h0
 | [], _ => rfl
 | .mild i _ _ n ob :: T, h => by
  have h1 : D i = false := h _ List.mem_cons_self
  have h2 := hd_none (T := T) fun e he => h e (List.mem_cons_of_mem _ he)
  cases ob with
  | none => exact h2
  | some ob =>
   funext id
   simp only [hd, h1, Bool.false_eq_true, false_and, if_false]
   rw [h2]
 | .act i _ _ _ S :: T, h => by
  have h1 : D i = false := h _ List.mem_cons_self
  have h2 := hd_none (T := T) fun e he => h e (List.mem_cons_of_mem _ he)
  simp only [hd, h1, Bool.false_eq_true, if_false]
  exact h2
theorem hd_app {id : Nat} (hc : hd D h0 T id = hd D' h0 T1 id) : ∀ {R : List En}, (∀ e ∈ R, D e.i = D' e.i) → hd D h0 (R ++ T) id = hd D' h0 (R ++ T1) id
 | [], _ => hc
 | .mild i _ _ n ob :: R, h => by
  have h1 : D i = D' i := h _ List.mem_cons_self
  have h2 := hd_app hc fun e he => h e (List.mem_cons_of_mem _ he)
  cases ob with
  | none => exact h2
  | some ob =>
   simp only [List.cons_append, hd, h1]
   rw [h2]
 | .act i _ _ _ S :: R, h => by
  have h1 : D i = D' i := h _ List.mem_cons_self
  have h2 := hd_app hc fun e he => h e (List.mem_cons_of_mem _ he)
  simp only [List.cons_append, hd, h1]
  split
  ·rfl
  ·exact h2
theorem hd_congr (h : ∀ e ∈ T, D e.i = D' e.i) : hd D h0 T = hd D' h0 T := by
 funext id
 have := hd_app (D := D) (D' := D') (h0 := h0) (T := []) (T1 := []) (id := id) rfl h
 simpa using this
theorem hd_skip {id : Nat} : ∀ {R : List En}, (∀ e ∈ R, D e.i = true → e.isMild = true) → (∀ e ∈ R, e.lo < e.hi → id ≠ e.lo) → hd D h0 (R ++ T) id = hd D h0 T id
 | [], _, _ => rfl
 | .mild i _ _ n ob :: R, h, hk => by
  have h1 := hk _ List.mem_cons_self
  have h2 := hd_skip (R := R) (fun e he => h e (List.mem_cons_of_mem _ he)) fun e he => hk e (List.mem_cons_of_mem _ he)
  cases ob with
  | none => exact h2
  | some ob =>
   have h1 : id ≠ n := h1 (Nat.lt_succ_self n)
   simp only [List.cons_append, hd, h1, and_false, if_false]
   exact h2
 | .act i _ _ _ S :: R, h, hk => by
  have h1 : D i = false := by
   cases hd : D i
   ·rfl
   ·have := h _ List.mem_cons_self hd
    cases this
  have h2 := hd_skip (R := R) (fun e he => h e (List.mem_cons_of_mem _ he)) fun e he => hk e (List.mem_cons_of_mem _ he)
  simp only [List.cons_append, hd, h1, Bool.false_eq_true, if_false]
  exact h2
theorem hd_cases {id : Nat} : ∀ {R : List En}, (∀ e ∈ R, D e.i = true → e.isMild = true) → (∀ e ∈ R, D e.i = D' e.i) →
 (∀ h0 T, hd D h0 (R ++ T) id = hd D h0 T id ∧ hd D' h0 (R ++ T) id = hd D' h0 T id) ∨
 (∃ i o v n ob, En.mild i o v n (some ob) ∈ R ∧ id = n ∧ ∀ h0 T, hd D h0 (R ++ T) id = some ob ∧ hd D' h0 (R ++ T) id = some ob)
 | [], _, _ => .inl fun _ _ => ⟨rfl, rfl⟩
 | .mild i o v n ob :: R, h, hc => by
  have hDi : D i = D' i := hc _ List.mem_cons_self
  have h2 := hd_cases (id := id) (R := R) (fun e he => h e (List.mem_cons_of_mem _ he)) fun e he => hc e (List.mem_cons_of_mem _ he)
  have pass : (∀ h0 T, hd D h0 (.mild i o v n ob :: R ++ T) id = hd D h0 (R ++ T) id ∧ hd D' h0 (.mild i o v n ob :: R ++ T) id = hd D' h0 (R ++ T) id) →
   (∀ h0 T, hd D h0 (.mild i o v n ob :: R ++ T) id = hd D h0 T id ∧ hd D' h0 (.mild i o v n ob :: R ++ T) id = hd D' h0 T id) ∨
   (∃ i' o' v' n' ob', En.mild i' o' v' n' (some ob') ∈ En.mild i o v n ob :: R ∧ id = n' ∧ ∀ h0 T, hd D h0 (.mild i o v n ob :: R ++ T) id = some ob' ∧ hd D' h0 (.mild i o v n ob :: R ++ T) id = some ob') := by
   intro hp
   rcases h2 with h2 | ⟨i', o', v', n', ob', q1, q2, q3⟩
   ·exact .inl fun h0 T => ⟨(hp h0 T).1.trans (h2 h0 T).1, (hp h0 T).2.trans (h2 h0 T).2⟩
   ·exact .inr ⟨i', o', v', n', ob', List.mem_cons_of_mem _ q1, q2, fun h0 T => ⟨(hp h0 T).1.trans (q3 h0 T).1, (hp h0 T).2.trans (q3 h0 T).2⟩⟩
  cases ob with
  | none => exact pass fun h0 T => ⟨rfl, rfl⟩
  | some ob =>
   by_cases hx : D i = true ∧ id = n
   ·refine .inr ⟨i, o, v, n, ob, List.mem_cons_self, hx.2, fun h0 T => ?_⟩
    have hx' : D' i = true ∧ id = n := by rw [← hDi]; exact hx
    simp only [List.cons_append, hd]
    rw [if_pos hx, if_pos hx']
    exact ⟨rfl, rfl⟩
   ·refine pass fun h0 T => ?_
    have hx' : ¬ (D' i = true ∧ id = n) := by rw [← hDi]; exact hx
    simp only [List.cons_append, hd]
    rw [if_neg hx, if_neg hx']
    exact ⟨rfl, rfl⟩
 | .act i o v n S :: R, h, hc => by
  have h1 : D i = false := by
   cases hd : D i
   ·rfl
   ·have := h _ List.mem_cons_self hd
    cases this
  have h1' : D' i = false := by rw [← h1]; exact (hc _ List.mem_cons_self).symm
  have h2 := hd_cases (id := id) (R := R) (fun e he => h e (List.mem_cons_of_mem _ he)) fun e he => hc e (List.mem_cons_of_mem _ he)
  have hp : ∀ h0 T, hd D h0 (.act i o v n S :: R ++ T) id = hd D h0 (R ++ T) id ∧ hd D' h0 (.act i o v n S :: R ++ T) id = hd D' h0 (R ++ T) id := fun h0 T => by
   refine ⟨?_, ?_⟩ <;> simp [hd, h1, h1']
  rcases h2 with h2 | ⟨i', o', v', n', ob', q1, q2, q3⟩
  ·exact .inl fun h0 T => ⟨(hp h0 T).1.trans (h2 h0 T).1, (hp h0 T).2.trans (h2 h0 T).2⟩
  ·exact .inr ⟨i', o', v', n', ob', List.mem_cons_of_mem _ q1, q2, fun h0 T => ⟨(hp h0 T).1.trans (q3 h0 T).1, (hp h0 T).2.trans (q3 h0 T).2⟩⟩
theorem baseOf_app {S0 : St} : ∀ {R : List En}, (∀ e ∈ R, D e.i = true → e.isMild = true) → baseOf D S0 (R ++ T) = baseOf D S0 T
 | [], _ => rfl
 | .mild .. :: R, h => baseOf_app (R := R) fun e he => h e (List.mem_cons_of_mem _ he)
 | .act i _ _ _ S :: R, h => by
  have h1 : D i = false := by
   cases hd : D i
   ·rfl
   ·have := h _ List.mem_cons_self hd
    cases this
  simp only [List.cons_append, baseOf, h1, Bool.false_eq_true, if_false]
  exact baseOf_app (R := R) fun e he => h e (List.mem_cons_of_mem _ he)
theorem jin_app {id : Nat} {o : Ob} : ∀ {R : List En}, (∀ e ∈ R, D e.i = true → e.isMild = true) → jin D T id o → jin D (R ++ T) id o
 | [], _, hj => hj
 | .mild .. :: R, h, hj => .inr (jin_app (R := R) (fun e he => h e (List.mem_cons_of_mem _ he)) hj)
 | .act i _ _ _ S :: R, h, hj => by
  have h1 : D i = false := by
   cases hd : D i
   ·rfl
   ·have := h _ List.mem_cons_self hd
    cases this
  exact ⟨h1, jin_app (R := R) (fun e he => h e (List.mem_cons_of_mem _ he)) hj⟩
theorem hd_out {S0 : St} {id : Nat} {o : Ob} : ∀ {T : List En}, hd D S0.h.find T id = some o → (baseOf D S0 T).h.find id = some o ∨ jin D T id o
 | [], h => .inl h
 | .mild i _ _ n ob :: T, h => by
  cases ob with
  | none => exact (hd_out (T := T) h).imp_right fun h => .inr h
  | some ob =>
   simp only [hd] at h
   split at h
   ·rename_i hc
    cases h
    exact .inr (.inl ⟨hc.1, hc.2, rfl⟩)
   ·exact (hd_out (T := T) h).imp_right fun h => .inr h
 | .act i _ _ _ S :: T, h => by
  simp only [hd] at h
  simp only [baseOf]
  split at h
  ·rename_i hc; rw [if_pos hc]; exact .inl h
  ·rename_i hc; rw [if_neg hc]
   exact (hd_out (T := T) h).imp_right fun h => ⟨by simpa using hc, h⟩
theorem withs_find {id : Nat} {o : Ob} : ∀ {l : List (Nat × Ob)} {h : Tr Ob}, (withs h l).find id = some o → h.find id = some o ∨ (id, o) ∈ l
 | [], h, hh => .inl hh
 | (n, ob) :: l, h, hh => by
  rcases withs_find (l := l) hh with h1 | h1
  ·rw [Tr.find_put] at h1
   split at h1
   ·rename_i hc; cases h1; rw [hc]; exact .inr List.mem_cons_self
   ·exact .inl h1
  ·exact .inr (List.mem_cons_of_mem _ h1)
theorem withs_old {id : Nat} : ∀ {l : List (Nat × Ob)} {h : Tr Ob}, (∃ o, h.find id = some o) → ∃ o, (withs h l).find id = some o
 | [], h, hh => hh
 | (n, ob) :: l, h, hh => by
  refine withs_old (l := l) ?_
  simp only [Tr.find_put]
  split
  ·exact ⟨_, rfl⟩
  ·exact hh
end
section
variable {rec : Rec} {P : Program} {ops : Array Oper} {S0 : St} {fr0 : Fr} {T : List En} {fr : Fr} {S : St} {D : Nat → Bool}
theorem Tra.hd_all [Glob] (h : Tra rec P ops S0 fr0 T fr S) (hD : ∀ e ∈ T, D e.i = true) : ∀ id, S.h.find id = hd D S0.h.find T id := by
 induction h with
 | nil => exact fun _ => rfl
 | jump h n hn ih => exact ih hD
 | cons h f hp ih =>
  intro id
  have ih := ih fun e he => hD e (List.mem_cons_of_mem _ he)
  cases f with
  | mild ho hm ha hn =>
   rename_i i o v ob
   have h1 : D i = true := hD _ List.mem_cons_self
   cases ob with
   | none => exact ih id
   | some ob =>
    simp only [En.st, St.plus, St.new, Tr.find_put, hd, h1, true_and]
    split
    ·rfl
    ·exact ih id
  | act ho hw hx ha hn hb =>
   rename_i i o v S'
   have h1 : D i = true := hD _ List.mem_cons_self
   simp only [En.st, hd, h1, if_true]
theorem Tra.base_le [Glob] (hl : LeOk rec) (h : Tra rec P ops S0 fr0 T fr S) : StLe S0 (baseOf D S0 T) ∧ (baseOf D S0 T).next ≤ S.next := by
 induction h with
 | nil => exact ⟨.refl _, Nat.le_refl _⟩
 | jump h n hn ih => exact ⟨ih.1, Nat.le_trans ih.2 hn⟩
 | cons h f hp ih =>
  have h1 := (f.le hl).next
  have h2 := (h.cons f hp).le hl
  cases f with
  | mild ho hm ha hn => exact ⟨ih.1, Nat.le_trans ih.2 h1⟩
  | act ho hw hx ha hn hb =>
   simp only [baseOf]
   split
   ·exact ⟨h2, Nat.le_refl _⟩
   ·exact ⟨ih.1, Nat.le_trans ih.2 h1⟩
theorem Tra.jin_lt [Glob] (hl : LeOk rec) (h : Tra rec P ops S0 fr0 T fr S) {id : Nat} {o : Ob} (hj : jin D T id o) : S0.next ≤ id ∧ id < S.next := by
 induction h with
 | nil => exact hj.elim
 | jump h n hn ih => obtain ⟨h1, h2⟩ := ih hj; exact ⟨h1, Nat.lt_of_lt_of_le h2 hn⟩
 | cons h f hp ih =>
  have h1 := (f.le hl).next
  have h0 := (h.le hl).next
  cases f with
  | mild ho hm ha hn =>
   rename_i i o v ob
   rcases hj with ⟨_, rfl, rfl⟩ | hj
   ·exact ⟨h0, by simp [En.st, St.plus, St.new]⟩
   ·obtain ⟨h1', h2⟩ := ih hj; exact ⟨h1', Nat.lt_of_lt_of_le h2 h1⟩
  | act ho hw hx ha hn hb => obtain ⟨h1', h2⟩ := ih hj.2; exact ⟨h1', Nat.lt_of_lt_of_le h2 h1⟩
theorem mildE_box [Glob] {ms : List Nat} {i : Nat} {o : Oper} {v : V} {ob : Ob} (h : mildE P ops ms S0 i o T fr S = some (v, some ob)) : ob.made = true := by
 unfold mildE at h
 repeat' split at h
 all_goals first
  | (cases h; done)
  | (cases h; rfl)
theorem Tra.jin_box [Glob] (h : Tra rec P ops S0 fr0 T fr S) {id : Nat} {o : Ob} (hj : jin D T id o) : o.made = true := by
 induction h with
 | nil => exact hj.elim
 | jump h n hn ih => exact ih hj
 | cons h f hp ih =>
  cases f with
  | mild ho hm ha hn =>
   rcases hj with ⟨_, rfl, rfl⟩ | hj
   ·exact mildE_box hm
   ·exact ih hj
  | act ho hw hx ha hn hb => exact ih hj.2
theorem Tra.jin_in [Glob] (hl : LeOk rec) (h : Tra rec P ops S0 fr0 T fr S) {id : Nat} {o : Ob} (hj : jin D T id o) : hd D S0.h.find T id = some o := by
 induction h with
 | nil => exact hj.elim
 | jump h n hn ih => exact ih hj
 | cons h f hp ih =>
  cases f with
  | mild ho hm ha hn =>
   rename_i i o' v ob
   rcases hj with ⟨h1, rfl, rfl⟩ | hj
   ·simp only [hd, h1, true_and, if_true]
   ·have h2 := (h.jin_lt hl hj).2
    cases ob with
    | none => exact ih hj
    | some ob =>
     simp only [hd]
     rw [if_neg (by omega)]
     exact ih hj
  | act ho hw hx ha hn hb =>
   simp only [hd, hj.1, Bool.false_eq_true, if_false]
   exact ih hj.2
theorem Tra.base_in [Glob] (hl : LeOk rec) {N : Nat} (h : Tra rec P ops S0 fr0 T fr S) (hN : S.next ≤ N) (fresh : ∀ id, S0.next ≤ id → id < N → S0.h.find id = none) {id : Nat} {o : Ob} (hj : (baseOf D S0 T).h.find id = some o) :
 hd D S0.h.find T id = some o := by
 induction h with
 | nil => exact hj
 | jump h n hn ih => exact ih (Nat.le_trans hn hN) hj
 | cons h f hp ih =>
  rename_i e T fr fr' S
  have h1 := (f.le hl).next
  have ih := ih (Nat.le_trans h1 hN)
  have h0 := (h.le hl).next
  have hb := h.base_le (D := D) hl
  cases f with
  | mild ho hm ha hn =>
   rename_i i o' v ob
   cases ob with
   | none => exact ih hj
   | some ob =>
    simp only [hd]
    rw [if_neg]
    ·exact ih hj
    ·rintro ⟨_, rfl⟩
     have hlt : S.next < N := by simp [En.st, St.plus, St.new] at hN; omega
     rcases hb.1.dom _ _ hj with ⟨o', h2⟩ | ⟨_, h2⟩
     ·rw [fresh S.next h0 hlt] at h2; cases h2
     ·have := hb.2; omega
  | act ho hw hx ha hn hb =>
   simp only [hd]
   simp only [baseOf] at hj
   split
   ·rename_i hc; rw [if_pos hc] at hj; exact hj
   ·rename_i hc; rw [if_neg hc] at hj; exact ih hj
theorem sameE_at {ms : List Nat} {i : Nat} {op : Op} {ev : Operand → Option V} {v : V} (hD : ∀ j, ancOf ms j i = true → D j = true) : ∀ {T : List En} {acc : List (Nat × Ob)}, sameE P ms i op ev v S0 T acc = true →
 ∃ acc', (∀ p ∈ acc', p ∈ acc ∨ jin D T p.1 p.2) ∧ sameAt P op ev v { baseOf D S0 T with h := withs (baseOf D S0 T).h acc' } = true
 | [], acc, h => ⟨acc, fun p hp => .inl hp, h⟩
 | .mild j _ _ n ob :: T, acc, h => by
  cases ob with
  | none =>
   obtain ⟨acc', h1, h2⟩ := sameE_at hD (T := T) h
   exact ⟨acc', fun p hp => (h1 p hp).imp_right fun h => .inr h, h2⟩
  | some ob =>
   simp only [sameE] at h
   obtain ⟨acc', h1, h2⟩ := sameE_at hD (T := T) h
   refine ⟨acc', fun p hp => ?_, h2⟩
   rcases h1 p hp with h3 | h3
   ·split at h3
    ·rename_i hc
     rcases List.mem_cons.1 h3 with rfl | h3
     ·exact .inr (.inl ⟨hD j hc, rfl, rfl⟩)
     ·exact .inl h3
    ·exact .inl h3
   ·exact .inr (.inr h3)
 | .act j _ _ _ S :: T, acc, h => by
  simp only [sameE, Bool.and_eq_true, Bool.or_eq_true] at h
  simp only [baseOf]
  cases hd : D j
  ·have hna : ¬ ancOf ms j i = true := fun h => by rw [hD j h] at hd; cases hd
   obtain ⟨acc', h1, h2⟩ := sameE_at hD (T := T) (h.2.resolve_left hna)
   simp only [Bool.false_eq_true, if_false]
   exact ⟨acc', fun p hp => (h1 p hp).imp_right fun h => ⟨hd, h⟩, h2⟩
  ·simp only [if_true]
   exact ⟨acc, fun p hp => .inl hp, h.1⟩
end
end Go.Ev
namespace Go.Ev
open Go.RowKit
theorem dstOk_spec {ms : List Nat} {ops : Array Oper} (h : dstOk ms ops = true) {i k : Nat} {o' o : Oper} (hi : ops[i]? = some o') (hk : ops[k]? = some o) (hne : i ≠ k) {d : Tmp} (hd : o'.dst = some d) :
 o.dst ≠ some d ∧ (d ∈ looks ops o → ancOf ms i k = true ∨ ancOf ms k i = true) := by
 unfold dstOk at h
 simp only [List.all_eq_true] at h
 have m1 : (o', i) ∈ ops.toList.zipIdx := by rw [List.mem_zipIdx_iff_getElem?]; simpa using hi
 have m2 : (o, k) ∈ ops.toList.zipIdx := by rw [List.mem_zipIdx_iff_getElem?]; simpa using hk
 have h1 := h (o', i) m1
 simp only [hd, List.all_eq_true] at h1
 have h2 := h1 (o, k) m2
 simp only [Bool.or_eq_true, Bool.and_eq_true, Bool.not_eq_true', bne_iff_ne] at h2
 rcases h2 with h2 | ⟨h2, h3⟩
 ·exact absurd (Nat.eq_of_beq_eq_true h2) hne
 ·refine ⟨h2, fun hm => ?_⟩
  rcases h3 with (h3 | h3) | h3
  ·rw [List.contains_iff_mem.2 hm] at h3; cases h3
  ·exact .inl h3
  ·exact .inr h3
section
variable {rec : Rec} {P : Program} {ops : Array Oper} {S0 : St} {fr0 : Fr} {T : List En} {N fx1 fx2 : Nat} {D : Nat → Bool}
structure Ctx [Glob] (rec : Rec) (P : Program) (ops : Array Oper) (S0 : St) (fr0 : Fr) (T : List En) (N fx1 fx2 : Nat) : Prop where
 hl : LeOk rec
 edges : edgesOk ops = true
 dst : dstOk (masks ops.toList []) ops = true
 tra : ∃ fr S, Tra rec P ops S0 fr0 T fr S ∧ S.next ≤ N
 fresh : ∀ id, S0.next ≤ id → id < N → S0.h.find id = none
 fxo : ∀ e ∈ T, e.hi ≤ fx1 ∨ fx2 ≤ e.lo
 low : S0.next ≤ N
structure Inv [Glob] (base : Nat) (w₀ : World) (σ0 : Sg) (w1 : World) (S0 : St) (fr0 : Fr) (T : List En) (N fx1 fx2 : Nat) (D : Nat → Bool) (σ : Sg) (a : Act) (w : World) : Prop where
 rel : RelF none2 base w₀ σ (hd D S0.h.find T) w
 hs : HS S0.next N σ0 S0.h.find w1 σ (hd D S0.h.find T) w
 free : ∀ e ∈ T, D e.i = false → Free σ e.lo e.hi
 fx : Free σ fx1 fx2
 n : a.tmps.size = fr0.n
 ds : DsR σ fr0.ds a.defers
 t1 : ∀ e ∈ T, D e.i = true → ∀ d, e.o.dst = some d → ∃ y, a.tmps[d]? = some y ∧ VR σ e.v y
 t0 : ∀ t v, fr0.t.find t = some v → (∀ e ∈ T, D e.i = true → e.o.dst ≠ some t) → ∃ y, a.tmps[t]? = some y ∧ VR σ v y
theorem Tra.op [Glob] (hl : LeOk rec) {fr : Fr} {S : St} (h : Tra rec P ops S0 fr0 T fr S) {e : En} (he : e ∈ T) : ops[e.i]? = some e.o := by
 obtain ⟨R, T1, rfl⟩ := List.append_of_mem he
 obtain ⟨_, _, _, f, _⟩ := h.split hl rfl
 exact f.ho
theorem Tra.pre [Glob] (hl : LeOk rec) {fr : Fr} {S : St} (h : Tra rec P ops S0 fr0 T fr S) {e : En} (he : e ∈ T) {j : Nat} (hj : anc ops j e.i = true) : j ∈ idx T := by
 obtain ⟨R, T1, rfl⟩ := List.append_of_mem he
 obtain ⟨_, _, _, f, _⟩ := h.split hl rfl
 have := f.ha j hj
 simp only [idx, List.map_append, List.mem_append, List.map_cons, List.mem_cons]
 exact .inr (.inr this)
variable {base : Nat} {w₀ w w1 : World} {σ σ0 : Sg} {a : Act} {b : Frame} {k : List Item} {cs : List Frame} {rest : List Nat}
theorem view_tmp [Glob] (C : Ctx rec P ops S0 fr0 T N fx1 fx2) (I : Inv base w₀ σ0 w1 S0 fr0 T N fx1 fx2 D σ a w) (hcl : Closed ops D) {R T1 : List En} (hT : T = R ++ T1) {fr1 : Fr} {S1 : St} (h1 : Tra rec P ops S0 fr0 T1 fr1 S1)
 {m : Nat} {o : Oper} (ho : ops[m]? = some o) (ha : ∀ j, anc ops j m = true → j ∈ idx T1) (hm1 : m ∉ idx T1) (hDm : D m = false) (hanc : ∀ j, anc ops j m = true → D j = true) :
 ∀ t ∈ looks ops o, ∀ u, fr1.t.find t = some u → ∃ y, a.tmps[t]? = some y ∧ VR σ u y := by
 intro t ht u hu
 obtain ⟨fr, S, hTra, hN⟩ := C.tra
 have hmem : ∀ e ∈ T1, e ∈ T := fun e he => by rw [hT]; exact List.mem_append_right _ he
 rcases h1.look hu with ⟨e', g1, g2, rfl⟩ | ⟨g1, g2⟩
 ·have hne : e'.i ≠ m := fun h => hm1 (by rw [← h]; exact List.mem_map.2 ⟨e', g1, rfl⟩)
  obtain ⟨_, q⟩ := dstOk_spec C.dst (h1.op C.hl g1) ho hne g2
  rcases q ht with q | q
  ·exact I.t1 e' (hmem e' g1) (hanc _ q) t g2
  ·exact absurd (h1.pre C.hl g1 q) hm1
 ·refine I.t0 t u g2 fun e' he' hDe hd => ?_
  have hne : e'.i ≠ m := fun h => by rw [h, hDm] at hDe; cases hDe
  obtain ⟨_, q⟩ := dstOk_spec C.dst (hTra.op C.hl he') ho hne hd
  rcases q ht with q | q
  ·obtain ⟨e'', x1, x2⟩ := List.mem_map.1 (ha _ q)
   have := idx_inj hTra.nodup (hmem e'' x1) he' x2
   subst this
   exact g1 e'' x1 hd
  ·have hlt : e'.i < ops.size := (Array.getElem?_eq_some_iff.1 (hTra.op C.hl he')).1
   rw [hcl.anc C.edges hDe hlt q] at hDm; cases hDm
theorem view_sound [Glob] {fr : Fr} {l : List Tmp} (hg : GOk σ) (h : ∀ t ∈ l, ∀ u, fr.t.find t = some u → ∃ y, a.tmps[t]? = some y ∧ VR σ u y) : ∀ x u, viewE fr l x = some u → VR σ u (a.eval x) := by
 intro x u hu
 cases x with
 | tmp t =>
  simp only [viewE] at hu
  split at hu
  ·rename_i hc
   obtain ⟨y, h1, h2⟩ := h t (List.contains_iff_mem.1 hc) u hu
   have : a.eval (.tmp t) = y := by simp [Act.eval, h1]
   rwa [this]
  ·cases hu
 | const v => exact ofVal_sound σ _ _ _ hu
 | global g =>
  simp only [viewE, Fr.opd, Option.map_eq_some_iff] at hu
  obtain ⟨cs, h1, rfl⟩ := hu
  exact VR.cptr (b := g) (o := 0) (fun t' e => by cases e) (hg g cs h1)
 | func f =>
  simp [viewE, Fr.opd] at hu
  subst hu
  exact VR.func (vs := []) (ws := []) .nil .nil
theorem view_want {fr : Fr} {o : Oper} (h : ∀ t ∈ looks ops o, ∀ u, fr.t.find t = some u → ∃ y, a.tmps[t]? = some y ∧ VR σ u y) {c : Bool} (hw : wantE ops o fr = some c) : Region.wanted o (yielded ops a.tmps) = c := by
 unfold wantE at hw
 unfold Region.wanted
 split at hw
 ·rename_i hg; rw [hg]; cases hw; rfl
 ·rename_i j want hg
  rw [hg]
  simp only
  split at hw
  ·cases hw
  ·rename_i d hd
   have hm : d ∈ looks ops o := by
    unfold looks Oper.looksAt
    rw [hg]
    simp only
    rw [hd]
    simp
   unfold yielded
   rw [hd]
   simp only [Option.bind_some]
   split at hw
   ·rename_i b' hf
    obtain ⟨y, h1, h2⟩ := h d hm _ hf
    cases h2
    cases hw
    rw [h1]
    cases b' <;> cases want <;> rfl
   ·rename_i hf
    obtain ⟨y, h1, h2⟩ := h d hm _ hf
    cases hw
    rw [h1]
    cases h2
    cases want <;> rfl
   ·cases hw
theorem mildE_cases [Glob] {ms : List Nat} {i : Nat} {o : Oper} {v : V} {ob : Option Ob} {fr : Fr} {S : St} (h : mildE P ops ms S0 i o T fr S = some (v, ob)) (rec : Rec) (pan : Pan) :
 (wantE ops o fr = some false ∧ v = .tup [] ∧ ob = none) ∨
 (wantE ops o fr = some true ∧
  ((ob = none ∧ ∀ U, actE rec P o.op (viewE fr (looks ops o)) pan U = some (.val v U)) ∨
   (∃ ob', ob = some ob' ∧ ∀ U, U.next = S.next → actE rec P o.op (viewE fr (looks ops o)) pan U = some (.val v (U.new ob'))) ∨
   (ob = none ∧ clsE o.op = 2 ∧ sameE P ms i o.op (viewE fr (looks ops o)) v S0 T [] = true))) := by
 unfold mildE at h
 split at h
 ·cases h
 ·rename_i hw; cases h; exact .inl ⟨hw, rfl, rfl⟩
 ·rename_i hw
  refine .inr ⟨hw, ?_⟩
  split at h
  ·cases h
  ·rename_i u S' hop
   split at h
   ·rename_i hc
    cases h
    exact .inl ⟨rfl, fun U => act_of_op (by omega) (cls0 hc hop U)⟩
   ·rename_i hc
    obtain ⟨k1, k2⟩ := cls1 hc hop
    split at h
    ·rename_i hn
     cases h
     exact .inl ⟨rfl, fun U => act_of_op (by omega) (k1 (Nat.eq_of_beq_eq_true hn) U)⟩
    ·rename_i hn
     split at h
     ·rename_i t cs hb
      cases h
      exact .inr (.inl ⟨_, rfl, fun U hU => act_of_op (by omega) (k2 (.box t cs) rfl hb (fun e => hn (by rw [e]; exact Nat.beq_refl _)) U hU)⟩)
     ·rename_i x hb
      cases h
      exact .inr (.inl ⟨_, rfl, fun U hU => act_of_op (by omega) (k2 (.oth x) rfl hb (fun e => hn (by rw [e]; exact Nat.beq_refl _)) U hU)⟩)
     ·cases h
   ·rename_i hc
    split at h
    ·rename_i hs; cases h; exact .inr (.inr ⟨rfl, hc, hs⟩)
    ·cases h
   ·cases h
theorem sameAt_act {op : Op} {ev : Operand → Option V} {v : V} {U : St} {pan : Pan} (hc : clsE op = 2) (h : sameAt P op ev v U = true) : actE rec P op ev pan U = some (.val v U) := by
 unfold sameAt at h
 split at h
 ·rename_i u U' ho
  have := V.beq_eq h
  subst this
  have := cls2 hc ho
  subst this
  exact act_of_op (by omega) ho
 ·cases h
theorem Inv.add [Glob] (C : Ctx rec P ops S0 fr0 T N fx1 fx2) (I : Inv base w₀ σ0 w1 S0 fr0 T N fx1 fx2 D σ a w) {e : En} (he : e ∈ T) (hD : D e.i = false) {σ' : Sg} {w' : World} {r : Value} (hv : VR σ' e.v r)
 (hR : RelF none2 base w₀ σ' (hd (fun j => D j || j == e.i) S0.h.find T) w') (hS : HS e.lo e.hi σ (hd D S0.h.find T) w σ' (hd (fun j => D j || j == e.i) S0.h.find T) w') :
 Inv base w₀ σ0 w1 S0 fr0 T N fx1 fx2 (fun j => D j || j == e.i) σ' (a.put e.o.dst r) w' := by
 obtain ⟨fr, S, hTra, hN⟩ := C.tra
 obtain ⟨l1, l2, l3⟩ := hTra.range C.hl he
 have keepT : ∀ t, e.o.dst ≠ some t → (a.put e.o.dst r).tmps[t]? = a.tmps[t]? := by
  intro t ht
  cases hd : e.o.dst with
  | none => rfl
  | some d =>
   simp only [Act.put]
   rw [Array.getElem?_setIfInBounds_ne (fun h => ht (by rw [hd, h]))]
 refine ⟨hR, I.hs.trans (hS.wide l1 (Nat.le_trans l3 hN)), ?_, ?_, ?_, ?_, ?_, ?_⟩
 ·intro e' he' hDe'
  simp only [Bool.or_eq_false_iff, beq_eq_false_iff_ne] at hDe'
  have hap := hTra.apart C.hl he' he hDe'.2
  intro id q1 q2
  cases hk : σ'.ρ id with
  | none => rfl
  | some x =>
   have h0 := I.free e' he' hDe'.1 id q1 q2
   obtain ⟨z1, z2, _⟩ := hS.newK id x h0 hk
   omega
 ·intro id q1 q2
  cases hk : σ'.ρ id with
  | none => rfl
  | some x =>
   have h0 := I.fx id q1 q2
   obtain ⟨z1, z2, _⟩ := hS.newK id x h0 hk
   have := C.fxo e he
   omega
 ·rw [← I.n]; cases e.o.dst <;> simp [Act.put]
 ·have : (a.put e.o.dst r).defers = a.defers := by cases e.o.dst <;> rfl
  rw [this]
  exact I.ds.mono hS.le
 ·intro e' he' hDe' d hd
  by_cases hi : e'.i = e.i
  ·have := idx_inj hTra.nodup he' he hi
   subst this
   have hlt := hTra.dst_lt e' he d hd
   refine ⟨r, ?_, hv⟩
   rw [hd]
   simp [Act.put, I.n, hlt]
  ·have hDe : D e'.i = true := by
    simp only [Bool.or_eq_true, beq_iff_eq] at hDe'
    exact hDe'.resolve_right hi
   obtain ⟨y, y1, y2⟩ := I.t1 e' he' hDe d hd
   have hne := (dstOk_spec C.dst (hTra.op C.hl he') (hTra.op C.hl he) hi hd).1
   exact ⟨y, by rw [keepT d hne]; exact y1, y2.mono hS.le⟩
 ·intro t v ht hno
  obtain ⟨y, y1, y2⟩ := I.t0 t v ht fun e' he' hDe' => hno e' he' (by rw [hDe']; rfl)
  exact ⟨y, by rw [keepT t (hno e he (by simp))]; exact y1, y2.mono hS.le⟩
theorem step_any [Glob] (hG : Good P) (hrec : CallOk P rec) (C : Ctx rec P ops S0 fr0 T N fx1 fx2) (hcl : Closed ops D) (I : Inv base w₀ σ0 w1 S0 fr0 T N fx1 fx2 D σ a w) (hp : PanR σ0 fr0.pan b cs) (hro : True)
 {e : En} (he : e ∈ T) (hD : D e.i = false) (hr : ∀ ed ∈ e.o.after, Region.binds .any ed = true → D ed.on = true) :
 ∃ r w' σ', Steps P (lone (b.atR a (.inRegion ops (e.i :: rest) :: k)) cs w) (lone (b.atR (a.put e.o.dst r) (.inRegion ops rest :: k)) cs w') ∧
  Inv base w₀ σ0 w1 S0 fr0 T N fx1 fx2 (fun j => D j || j == e.i) σ' (a.put e.o.dst r) w' := by
 obtain ⟨fr, S, hTra, hN⟩ := C.tra
 obtain ⟨R, T1, hT⟩ := List.append_of_mem he
 obtain ⟨fr1, S1, h1, f, f3, f4⟩ := hTra.split C.hl hT
 obtain ⟨l1, l2, l3⟩ := hTra.range C.hl he
 have hop := f.ho
 have hanc : ∀ j, anc ops j e.i = true → D j = true := fun j hj => anc_closed C.edges hcl e.i hop hr hj
 have hRne : ∀ e' ∈ R, e'.i ≠ e.i := fun e' he' h => by
  have hnd := hTra.nodup
  rw [hT] at hnd
  simp only [idx, List.map_append, List.map_cons] at hnd
  have := (List.nodup_append.1 hnd).2.2 e'.i (List.mem_map.2 ⟨e', he', rfl⟩) e.i List.mem_cons_self
  exact this h
 have hT1ne : ∀ e' ∈ T1, e'.i ≠ e.i := fun e' he' h => f.hn (by rw [← h]; exact List.mem_map.2 ⟨e', he', rfl⟩)
 have hRD : ∀ e' ∈ R, D e'.i = true → e'.isMild = true := by
  intro e' he' hDe
  obtain ⟨R1, R2, hR⟩ := List.append_of_mem he'
  have hT' : T = R1 ++ e' :: (R2 ++ e :: T1) := by rw [hT, hR]; simp
  obtain ⟨_, _, _, f', _⟩ := hTra.split C.hl hT'
  cases f' with
  | mild => rfl
  | act ho hw hx ha hn hb =>
   exfalso
   have hq := hb e.i (by simp)
   have hlt := (Array.getElem?_eq_some_iff.1 ho).1
   rw [hcl.anc C.edges hDe hlt hq] at hD
   cases hD
 have hcR : ∀ e' ∈ R, D e'.i = (fun j => D j || j == e.i) e'.i := fun e' he' => by
  have : (e'.i == e.i) = false := by simpa using hRne e' he'
  simp [this]
 have hcT : ∀ e' ∈ T1, D e'.i = (fun j => D j || j == e.i) e'.i := fun e' he' => by
  have : (e'.i == e.i) = false := by simpa using hT1ne e' he'
  simp [this]
 have hD' : (fun j => D j || j == e.i) e.i = true := by simp
 have hRD' : ∀ e' ∈ R, (fun j => D j || j == e.i) e'.i = true → e'.isMild = true := fun e' he' h => hRD e' he' (by rw [hcR e' he']; exact h)
 have hview := view_tmp C I hcl (R := R ++ [e]) (T1 := T1) (by rw [hT]; simp) h1 hop f.ha f.hn hD hanc
 have hev := view_sound I.rel.gl hview
 have hpan : fr1.pan = fr0.pan := h1.same.1
 have hpσ : PanR σ fr1.pan b cs := by rw [hpan]; exact hp.mono I.hs.le
 have hT1c : hd D S0.h.find T1 = hd (fun j => D j || j == e.i) S0.h.find T1 := hd_congr hcT
 have finish : ∀ (U U' : St), Region.wanted e.o (yielded ops a.tmps) = true → actE rec P e.o.op (viewE fr1 (looks ops e.o)) fr1.pan U = some (.val e.v U') → (∀ id o, U.h.find id = some o → hd D S0.h.find T id = some o) →
  (U'.next ≤ U.next ∨ (e.lo = U.next ∧ e.hi = U'.next)) →
  (∀ id o, hd (fun j => D j || j == e.i) S0.h.find T id = some o → U'.h.find id = some o ∨ (hd D S0.h.find T id = some o ∧ U.h.find id = none ∧ o.made = true)) →
  ∃ r w' σ', Steps P (lone (b.atR a (.inRegion ops (e.i :: rest) :: k)) cs w) (lone (b.atR (a.put e.o.dst r) (.inRegion ops rest :: k)) cs w') ∧
   Inv base w₀ σ0 w1 S0 fr0 T N fx1 fx2 (fun j => D j || j == e.i) σ' (a.put e.o.dst r) w' := by
  intro U U' hw hx hU hrange hJ
  have hfree : Free σ U.next U'.next := by
   rcases hrange with h | ⟨h, h'⟩
   ·exact fun id q1 q2 => by omega
   ·rw [← h, ← h']; exact I.free e he hD
  obtain ⟨r, w', σ', s1, s2, s3, s4⟩ := val_steps (rest := rest) (k := k) hG hrec (I.rel.less hU : Rel none2 base w₀ σ U w) hev hpσ hro hop hw hx hfree
  obtain ⟨o1, o2⟩ := over I.rel hU s3 s4 hfree hJ
  refine ⟨r, w', σ', s1, I.add C he hD s2 o1 ?_⟩
  rcases hrange with h | ⟨h, h'⟩
  ·exact o2.void h
  ·rw [h, h']; exact o2
 cases f with
 | mild ho hm ha hn =>
  rename_i i o v ob
  have hlo : S1.next = (En.mild i o v S1.next ob).lo := rfl
  have hmap : ∀ id, (ob = none ∨ id ≠ S1.next) → hd (fun j => D j || j == i) S0.h.find T id = hd D S0.h.find T id := by
   intro id hid
   rw [hT]
   refine (hd_app ?_ hcR).symm
   cases ob with
   | none => simp only [hd]; rw [hT1c]; rfl
   | some ob =>
    have hne : id ≠ S1.next := hid.resolve_left (by simp)
    simp only [hd, hne, and_false, if_false]
    rw [hT1c]; rfl
  have hbase : baseOf D S0 T = baseOf D S0 T1 := by
   rw [hT, baseOf_app hRD]; rfl
  have hjin : ∀ id o, jin D T1 id o → jin D T id o := fun id o h => by
   rw [hT]; exact jin_app hRD (.inr h)
  have hbin : ∀ id o, (baseOf D S0 T).h.find id = some o → hd D S0.h.find T id = some o := fun id o h => hTra.base_in C.hl hN C.fresh h
  rcases mildE_cases hm rec fr1.pan with ⟨hw, rfl, rfl⟩ | ⟨hw, hcase⟩
  ·refine ⟨undef, w, σ, step_unwanted hop (view_want hview hw), I.add C he hD (undef_VR σ) ?_ ?_⟩
   ·exact I.rel.less fun id o h => by rw [← hmap id (.inl rfl)]; exact h
   ·refine (HS.refl _ _ σ _ w).less fun id o h => by rw [← hmap id (.inl rfl)]; exact h
  ·have hw' := view_want hview hw
   rcases hcase with ⟨rfl, hx⟩ | ⟨ob', rfl, hx⟩ | ⟨rfl, hc, hs⟩
   ·refine finish (baseOf D S0 T) (baseOf D S0 T) hw' (hx _) (hbin) (.inl (Nat.le_refl _)) fun id o h => ?_
    have h : hd (fun j => D j || j == i) S0.h.find T id = some o := h
    rw [hmap id (.inl rfl)] at h
    rcases hd_out h with h2 | h2
    ·exact .inl h2
    ·cases hq : (baseOf D S0 T).h.find id with
     | none => exact .inr ⟨h, rfl, hTra.jin_box h2⟩
     | some o' =>
      have := hbin id o' hq
      rw [h] at this; cases this
      exact .inl rfl
   ·refine finish { baseOf D S0 T with next := S1.next } _ hw' (hx _ rfl) (hbin) (.inr ⟨rfl, rfl⟩) fun id o h => ?_
    have h : hd (fun j => D j || j == i) S0.h.find T id = some o := h
    simp only [St.new, Tr.find_put]
    by_cases hid : id = S1.next
    ·subst hid
     rw [if_pos rfl]
     left
     rw [hT, hd_skip hRD'] at h
     ·simpa [hd] using h
     ·intro e' he' _
      have := f4 e' he'
      simp [En.st, St.plus, St.new] at this
      omega
    ·rw [if_neg hid]
     rw [hmap id (.inr hid)] at h
     rcases hd_out h with h2 | h2
     ·exact .inl h2
     ·cases hq : (baseOf D S0 T).h.find id with
      | none => exact .inr ⟨h, rfl, hTra.jin_box h2⟩
      | some o' =>
       have := hbin id o' hq
       rw [h] at this; cases this
       exact .inl rfl
   ·obtain ⟨acc, k1, k2⟩ := sameE_at (S0 := S0) (P := P) hanc hs
    rw [← hbase] at k2
    have hin : ∀ id o, (withs (baseOf D S0 T).h acc).find id = some o → hd D S0.h.find T id = some o := by
     intro id o h
     rcases withs_find h with h2 | h2
     ·exact hbin id o h2
     ·rcases k1 _ h2 with h3 | h3
      ·cases h3
      ·exact hTra.jin_in C.hl (hjin _ _ h3)
    refine finish _ _ hw' (sameAt_act hc k2) hin (.inl (Nat.le_refl _)) fun id o h => ?_
    have h : hd (fun j => D j || j == i) S0.h.find T id = some o := h
    rw [hmap id (.inl rfl)] at h
    simp only
    cases hq : (withs (baseOf D S0 T).h acc).find id with
    | some o' =>
     have := hin id o' hq
     rw [h] at this; cases this
     exact .inl rfl
    | none =>
     refine .inr ⟨h, rfl, ?_⟩
     rcases hd_out h with h2 | h2
     ·obtain ⟨o', h3⟩ := withs_old (l := acc) ⟨o, h2⟩
      rw [hq] at h3; cases h3
     ·exact hTra.jin_box h2
 | act ho hw hx ha hn hb =>
  rename_i i o0 v S'
  have hT1D : ∀ e' ∈ T1, D e'.i = true := fun e' he' => hanc _ (hb _ (List.mem_map.2 ⟨e', he', rfl⟩))
  have hall := h1.hd_all hT1D
  have hle : S1.next ≤ S'.next := (actE_le C.hl hx : StLe S1 S').next
  have hle0 := h1.le C.hl
  have hin : ∀ id o, S1.h.find id = some o → hd D S0.h.find T id = some o := by
   intro id o h
   have h' : hd D S0.h.find T1 id = some o := by rw [← hall id]; exact h
   rw [hT, hd_skip hRD]
   ·simp only [hd]
    rw [if_neg (by have : D i = false := hD; rw [this]; simp)]
    exact h'
   ·intro e' he' hlt heq
    have q1 : S'.next ≤ e'.lo := f4 e' he'
    have q2 := (hTra.range C.hl (by rw [hT]; exact List.mem_append_left _ he')).2.2
    rcases hle0.dom id o h with ⟨o', z⟩ | ⟨_, z⟩
    ·rw [C.fresh id (by have := hle0.next; omega) (by omega)] at z; cases z
    ·omega
  refine finish S1 S' (view_want hview hw) hx hin (.inr ⟨rfl, rfl⟩) fun id o h => ?_
  rw [hT] at h ⊢
  rcases hd_cases (D' := fun j => D j || j == i) (id := id) hRD hcR with hc | ⟨i', o', v', n', ob', q1, q2, q3⟩
  ·left
   have h : hd (fun j => D j || j == i) S0.h.find (R ++ En.act i o0 v S1.next S' :: T1) id = some o := h
   rw [(hc _ _).2] at h
   simp only [hd] at h
   rw [if_pos (by simp)] at h
   exact h
  ·right
   obtain ⟨z1, z2⟩ := q3 S0.h.find (En.act i o0 v S1.next S' :: T1)
   have h : hd (fun j => D j || j == i) S0.h.find (R ++ En.act i o0 v S1.next S' :: T1) id = some o := h
   have z2 : hd (fun j => D j || j == i) S0.h.find (R ++ En.act i o0 v S1.next S' :: T1) id = some ob' := z2
   rw [h] at z2
   cases z2
   subst q2
   have hmem : En.mild i' o' v' id (some o) ∈ T := by rw [hT]; exact List.mem_append_left _ q1
   refine ⟨z1, ?_, ?_⟩
   ·have y1 : S'.next ≤ id := f4 _ q1
    have y2 : id + 1 ≤ S.next := (hTra.range C.hl hmem).2.2
    cases hq : S1.h.find id with
    | none => rfl
    | some x =>
     rcases hle0.dom id x hq with ⟨o', z⟩ | ⟨_, z⟩
     ·rw [C.fresh id (by have := hle0.next; omega) (by omega)] at z; cases z
     ·omega
   ·obtain ⟨R', T', hT'⟩ := List.append_of_mem hmem
    obtain ⟨_, S2, _, f2, _⟩ := hTra.split C.hl hT'
    generalize hE : En.mild i' o' v' id (some o) = E at f2
    cases f2 with
    | mild _ hm' _ _ => cases hE; exact mildE_box hm'
    | act => cases hE
theorem dropT_find : ∀ (l : List Nat) {fr : Fr} {t : Tmp} {v : V}, (dropT ops l fr).t.find t = some v → fr.t.find t = some v ∧ ∀ i ∈ l, ∀ o, ops[i]? = some o → o.dst ≠ some t
 | [], fr, t, v, h => ⟨h, fun _ h => (by cases h)⟩
 | i :: l, fr, t, v, h => by
  simp only [dropT] at h
  split at h
  ·rename_i d hd
   obtain ⟨h1, h2⟩ := dropT_find l h
   simp only [Tr.find_del] at h1
   split at h1
   ·cases h1
   ·rename_i hne
    refine ⟨h1, fun j hj o ho => ?_⟩
    rcases List.mem_cons.1 hj with rfl | hj
    ·rw [ho] at hd
     simp only [Option.bind_some] at hd
     rw [hd]
     exact fun h => hne (by cases h; rfl)
    ·exact h2 j hj o ho
  ·rename_i hd
   obtain ⟨h1, h2⟩ := dropT_find l h
   refine ⟨h1, fun j hj o ho => ?_⟩
   rcases List.mem_cons.1 hj with rfl | hj
   ·rw [ho] at hd
    simp only [Option.bind_some] at hd
    rw [hd]; simp
   ·exact h2 j hj o ho
theorem dropT_same : ∀ (l : List Nat) (fr : Fr), (dropT ops l fr).pan = fr.pan ∧ (dropT ops l fr).ds = fr.ds ∧ (dropT ops l fr).n = fr.n
 | [], fr => ⟨rfl, rfl, rfl⟩
 | i :: l, fr => by
  simp only [dropT]
  split
  ·exact dropT_same l _
  ·exact dropT_same l fr
structure Fate [Glob] (rec : Rec) (P : Program) (ops : Array Oper) (S0 : St) (fr0 : Fr) (T : List En) (fx1 fx2 : Nat) (x : X) (fr' : Fr) (S' : St) : Prop where
 or : (x = .normal ∧ Tra rec P ops S0 fr0 T fr' S' ∧ ∀ i, i < ops.size → i ∈ idx T) ∨
  ∃ (m : Nat) (v : V) (o : Oper) (R T0 : List En) (frm frR : Fr) (Sm Sa SR : St) (l2 : List Nat), x = .panic v ∧ T = R ++ T0 ∧ Tra rec P ops S0 fr0 T0 frm Sm ∧ ops[m]? = some o ∧ wantE ops o frm = some true ∧
  actE rec P o.op (viewE frm (looks ops o)) frm.pan Sm = some (.pan v Sa) ∧ (∀ j, anc ops j m = true → j ∈ idx T0) ∧ (∀ j ∈ idx T0, anc ops j m = true) ∧ m ∉ idx T ∧
  Tra rec P ops S0 fr0 T frR SR ∧ (∀ e ∈ R, e.isMild = true ∧ Sa.next ≤ e.lo ∧ e.i ∈ l2) ∧ (∀ j ∈ l2, anc ops m j = false) ∧ (∀ i, i < ops.size → i ∈ idx T ∨ i = m ∨ anc ops m i = true) ∧
  fr' = dropT ops l2 frm ∧ S' = { Sa with next := SR.next } ∧ Sa.next ≤ SR.next ∧ fx1 = Sm.next ∧ fx2 = Sa.next
theorem Inv.frame [Glob] (C : Ctx rec P ops S0 fr0 T N fx1 fx2) (I : Inv base w₀ σ0 w1 S0 fr0 T N fx1 fx2 D σ a w) {T0 : List En} {fr : Fr} {S : St} (h : Tra rec P ops S0 fr0 T0 fr S) (hsub : ∀ e ∈ T0, e ∈ T ∧ D e.i = true)
 {t : Tmp} {v : V} (hv : fr.t.find t = some v) (hno : ∀ e ∈ T, D e.i = true → e ∈ T0 ∨ e.o.dst ≠ some t) : ∃ y, a.tmps[t]? = some y ∧ VR σ v y := by
 rcases h.look hv with ⟨e, g1, g2, rfl⟩ | ⟨g1, g2⟩
 ·exact I.t1 e (hsub e g1).1 (hsub e g1).2 t g2
 ·refine I.t0 t v g2 fun e he hDe => ?_
  rcases hno e he hDe with h1 | h1
  ·exact g1 e h1
  ·exact h1
theorem draw_run [Glob] (hG : Good P) (hrec : CallOk P rec) (C : Ctx rec P ops S0 fr0 T N fx1 fx2) {x : X} {fr' : Fr} {S' : St} (F : Fate rec P ops S0 fr0 T fx1 fx2 x fr' S') (hN : N = S'.next) (hp : PanR σ0 fr0.pan b cs) (hro : True) :
 ∀ {L : List Nat} {D : Nat → Bool}, Lin ops D L → ∀ {σ : Sg} {a : Act} {w : World}, Closed ops D → (∀ i, D i = true → i ∈ idx T) → Inv base w₀ σ0 w1 S0 fr0 T N fx1 fx2 D σ a w →
  Comes' P base w₀ σ0 S0 w1 (lone (b.atR a (.inRegion ops L :: k)) cs w) b k cs x fr' S' := by
 obtain ⟨frT, ST, hTra, hTN⟩ := C.tra
 intro L D hL
 induction hL with
 | nil hall =>
  rename_i D
  intro σ a w hcl hDT I
  rcases F.or with ⟨rfl, hF, _⟩ | ⟨m, v, o, R, T0, frm, frR, Sm, Sa, SR, l2, rfl, hT, h0, ho, hw, hx, ha, hb, hm, hTR, hR, hl2, hcov, rfl, rfl, hSN, rfl, rfl⟩
  ·have hDe : ∀ e ∈ T, D e.i = true := fun e he => hall _ (Array.getElem?_eq_some_iff.1 (hTra.op C.hl he)).1
   have hmap := hF.hd_all hDe
   have hin : ∀ id o, S'.h.find id = some o → hd D S0.h.find T id = some o := fun id o h => by rw [← hmap id]; exact h
   obtain ⟨e1, e2, e3⟩ := hF.same
   refine ⟨.normal, a, cs, w, σ, .normal, ⟨?_, fun t v hv => ?_, ?_⟩, ?_, .refl _, I.rel.less hin, I.hs.toStp hin (Nat.le_refl _) (by omega) (by have := C.low; omega), Steps.one stepR_region_end⟩
   ·rw [e3]; exact I.n
   ·exact I.frame C hF (fun e he => ⟨he, hDe e he⟩) hv fun e he _ => .inl he
   ·rw [e2]; exact I.ds
   ·rw [e1]; exact hp.mono I.hs.le
  ·exact absurd (hDT m (hall m (Array.getElem?_eq_some_iff.1 ho).1)) hm
 | cons ho hn hr hL ih =>
  rename_i D i l o
  intro σ a w hcl hDT I
  have hlt := (Array.getElem?_eq_some_iff.1 ho).1
  have go : i ∈ idx T → Comes' P base w₀ σ0 S0 w1 (lone (b.atR a (.inRegion ops (i :: l) :: k)) cs w) b k cs x fr' S' := by
   intro hi
   obtain ⟨e, he, rfl⟩ := List.mem_map.1 hi
   have hop := hTra.op C.hl he
   rw [ho] at hop
   cases hop
   obtain ⟨r, w', σ', s1, s2⟩ := step_any (rest := l) (k := k) hG hrec C hcl I hp hro he hn hr
   obtain ⟨ex, a', cs', w'', σ'', z0, z1, z2, z3, z4, z5, z6⟩ := ih (hcl.add ho hr) (fun j hj => by
    simp only [Bool.or_eq_true, beq_iff_eq] at hj
    rcases hj with hj | rfl
    ·exact hDT j hj
    ·exact hi) s2
   exact ⟨ex, a', cs', w'', σ'', z0, z1, z2, z3, z4, z5, .of_steps s1 z6⟩
  rcases F.or with ⟨rfl, hF, hcov⟩ | ⟨m, v, o', R, T0, frm, frR, Sm, Sa, SR, l2, rfl, hT, h0, ho', hw, hx, ha, hb, hm, hTR, hR, hl2, hcov, rfl, rfl, hSN, rfl, rfl⟩
  ·exact go (hcov i hlt)
  ·rcases hcov i hlt with hi | rfl | hi
   ·exact go hi
   ·-- the panic
    rw [ho] at ho'
    cases ho'
    have hanc : ∀ j, anc ops j i = true → D j = true := fun j hj => anc_closed C.edges hcl i ho hr hj
    have hsub : ∀ e ∈ T0, e ∈ T ∧ D e.i = true := fun e he => ⟨by rw [hT]; exact List.mem_append_right _ he, hanc _ (hb _ (List.mem_map.2 ⟨e, he, rfl⟩))⟩
    have hall := h0.hd_all fun e he => (hsub e he).2
    have hi0 : i ∉ idx T0 := fun h => hm (by rw [hT]; simp only [idx, List.map_append, List.mem_append]; exact .inr h)
    have hview := view_tmp C I hcl hT h0 ho ha hi0 hn hanc
    have hpan : frm.pan = fr0.pan := h0.same.1
    have hle : Sm.next ≤ Sa.next := (actE_le C.hl hx : StLe Sm Sa).next
    have hle0 := h0.le C.hl
    have hin : ∀ id o, Sm.h.find id = some o → hd D S0.h.find T id = some o := by
     intro id o h
     have h' : hd D S0.h.find T0 id = some o := by rw [← hall id]; exact h
     rw [hT, hd_skip (fun e he _ => (hR e he).1)]
     ·exact h'
     ·intro e' he' hlt heq
      have q1 := (hR e' he').2.1
      have q2 := (hTra.range C.hl (by rw [hT]; exact List.mem_append_left _ he')).2.2
      rcases hle0.dom id o h with ⟨o', z⟩ | ⟨_, z⟩
      ·rw [C.fresh id (by have := hle0.next; omega) (by omega)] at z; cases z
      ·omega
    obtain ⟨y, w', σ', s1, s2, s3, s4⟩ := pan_steps (rest := l) (k := k) (b := b) (cs := cs) hG hrec (I.rel.less hin : Rel none2 base w₀ σ Sm w) (view_sound I.rel.gl hview) (by rw [hpan]; exact hp.mono I.hs.le) ho (view_want hview hw) hx I.fx
    have hS := (over I.rel hin s3 s4 I.fx (H' := Sa.h.find) fun id o h => .inl h).2
    have hs2 := I.hs.trans (hS.wide (by have := hle0.next; omega) (by rw [hN]; exact hSN))
    have hA : AR σ (dropT ops l2 frm) a := by
     obtain ⟨d1, d2, d3⟩ := dropT_same (ops := ops) l2 frm
     refine ⟨by rw [d3, h0.same.2.2]; exact I.n, fun t u hu => ?_, by rw [d2, h0.same.2.1]; exact I.ds⟩
     obtain ⟨u1, u2⟩ := dropT_find l2 hu
     refine I.frame C h0 hsub u1 fun e he hDe => ?_
     rw [hT] at he
     rcases List.mem_append.1 he with he | he
     ·exact .inr (u2 e.i (hR e he).2.2 e.o (hTra.op C.hl (by rw [hT]; exact List.mem_append_left _ he)))
     ·exact .inl he
    refine ⟨_, a, cs, w', σ', .panic s2, hA.mono s4.le, ?_, .refl _, s3, hs2.toStp (fun id o h => h) (Nat.le_refl _) (by omega) (by have := C.low; omega), _, s1⟩
    rw [(dropT_same (ops := ops) l2 frm).1, hpan]
    exact (hp.mono I.hs.le).mono s4.le
   ·have := anc_closed C.edges hcl i ho hr hi
    exact absurd (hDT m this) hm
theorem drawE_sound [Glob] (hG : Good P) (hl : LeOk rec) (hrec : CallOk P rec) {S : St} {fr : Fr} (h : Rel none2 base w₀ σ S w) (hA : AR σ fr a) (hp : PanR σ fr.pan b cs) (hro : True) (hok : (planOf ops).ok = true) {r : Rs}
 (hE : drawE rec P ops (planOf ops).ms S (planOf ops).ord [] fr S = some r) :
 ∃ x fr' S', r = .code x fr' S' ∧ (Free σ S.next S'.next → ∀ t, Comes' P base w₀ σ S w (lone (b.atR a (.inRegion ops (Region.schedule true ops t) :: k)) cs w) b k cs x fr' S') := by
 have hok' : edgesOk ops = true ∧ dstOk (masks ops.toList []) ops = true ∧ ordOk (masks ops.toList []) ops 0 (planOf ops).ord = true := by
  have : (edgesOk ops && dstOk (masks ops.toList []) ops && ordOk (masks ops.toList []) ops 0 (planOf ops).ord) = true := hok
  simp only [Bool.and_eq_true] at this
  exact ⟨this.1.1, this.1.2, this.2⟩
 obtain ⟨k1, k2, k3⟩ := hok'
 have hE : drawE rec P ops (masks ops.toList []) S (planOf ops).ord [] fr S = some r := hE
 have inv0 : ∀ (T : List En) (N fx1 fx2 : Nat), (∀ e ∈ T, Free σ e.lo e.hi) → Free σ fx1 fx2 → Inv base w₀ σ w S fr T N fx1 fx2 (fun _ => false) σ a w := by
  intro T N fx1 fx2 hf hfx
  have hh : hd (fun _ => false) S.h.find T = S.h.find := hd_none fun _ _ => rfl
  refine ⟨by rw [hh]; exact h, by rw [hh]; exact HS.refl _ _ _ _ _, fun e he _ => hf e he, hfx, hA.n, hA.ds, (fun e he h => by cases h), fun t v ht _ => hA.t t v ht⟩
 have fresh : ∀ N, Free σ S.next N → ∀ id, S.next ≤ id → id < N → S.h.find id = none := by
  intro N hf id h1 h2
  cases hq : S.h.find id with
  | none => rfl
  | some o =>
   obtain ⟨y, hy, _⟩ := (h.ob id o hq).key
   rw [hf id h1 h2] at hy; cases hy
 have hcl : Closed ops (fun _ => false) := fun k o hk => by cases hk
 rcases drawE_tra hl (planOf ops).ord .nil .nil k3 hE with ⟨T, fr', S', rfl, hT, hcov⟩ | ⟨T, m, v, fr', S', rfl, ⟨o, R, T0, frm, frR, Sm, Sa, SR, l2, hTe, h0, ho, hw, hx, ha, hb, hm, hTR, hR, hl2, hcov, rfl, rfl, hSN⟩⟩
 ·refine ⟨_, _, _, rfl, fun hf t => ?_⟩
  have C : Ctx rec P ops S fr T S'.next 0 0 := ⟨hl, k1, k2, ⟨fr', S', hT, Nat.le_refl _⟩, fresh _ hf, fun e _ => .inr (Nat.zero_le _), (hT.le hl).next⟩
  refine draw_run hG hrec C ⟨.inl ⟨rfl, hT, hcov⟩⟩ rfl hp hro (lin_schedule k1 t) hcl (fun i h => by cases h) (inv0 T _ 0 0 (fun e he => ?_) fun id _ h2 => by omega)
  obtain ⟨q1, _, q3⟩ := hT.range hl he
  exact hf.mono q1 q3
 ·refine ⟨_, _, _, rfl, fun hf t => ?_⟩
  have hf : Free σ S.next SR.next := hf
  have hle : Sm.next ≤ Sa.next := (actE_le hl hx : StLe Sm Sa).next
  have hle0 := (h0.le hl).next
  have C : Ctx rec P ops S fr T SR.next Sm.next Sa.next := by
   refine ⟨hl, k1, k2, ⟨frR, SR, hTR, Nat.le_refl _⟩, fresh _ hf, fun e he => ?_, (hTR.le hl).next⟩
   rw [hTe] at he
   rcases List.mem_append.1 he with he | he
   ·exact .inr (hR e he).2.1
   ·exact .inl (h0.range hl he).2.2
  refine draw_run hG hrec C ⟨.inr ⟨m, v, o, R, T0, frm, frR, Sm, Sa, SR, l2, rfl, hTe, h0, ho, hw, hx, ha, hb, hm, hTR, hR, hl2, hcov, rfl, rfl, hSN, rfl, rfl⟩⟩ rfl hp hro (lin_schedule k1 t) hcl (fun i h => by cases h) (inv0 T _ _ _ (fun e he => ?_) (hf.mono hle0 hSN))
  obtain ⟨q1, _, q3⟩ := hTR.range hl he
  exact hf.mono q1 q3
end
end Go.Ev
