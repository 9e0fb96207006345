/-
  Ev, part 14: the record of a region's run in its plan's order.
-/
import Derived.Test.YtilldjgagokcfaaGreatEvTra
set_option linter.unusedVariables false
set_option linter.unusedSimpArgs false
namespace Go.Ev

def En.i : En → Nat
  | .mild i _ _ _ _ | .act i _ _ _ _ => i
def En.o : En → Oper
  | .mild _ o _ _ _ | .act _ o _ _ _ => o
def En.v : En → V
  | .mild _ _ v _ _ | .act _ _ v _ _ => v
def En.lo : En → Nat
  | .mild _ _ _ n _ | .act _ _ _ n _ => n
def En.hi : En → Nat
  | .mild _ _ _ n ob => match ob with
    | some _ => n + 1
    | none => n
  | .act _ _ _ _ S => S.next
/-- The state behind it. -/
def En.st : En → St → St
  | .mild _ _ _ _ ob, S => S.plus ob
  | .act _ _ _ _ S', _ => S'
def En.isMild : En → Bool
  | .mild .. => true
  | .act .. => false

abbrev idx (T : List En) : List Nat := T.map En.i

abbrev anc (ops : Array Oper) (i j : Nat) : Bool := ancOf (masks ops.toList []) i j

section
variable (rec : Rec) (P : Program) (ops : Array Oper) (S0 : St) (fr0 : Fr)

/-- Where an operation was carried out. -/
inductive EF : En → List En → Fr → St → Prop
  | mild {i : Nat} {o : Oper} {v : V} {ob : Option Ob} {T : List En} {fr : Fr} {S : St} (ho : ops[i]? = some o) (hm : mildE P ops (masks ops.toList []) S0 i o T fr S = some (v, ob))
      (ha : ∀ j, anc ops j i = true → j ∈ idx T) (hn : i ∉ idx T) : EF (.mild i o v S.next ob) T fr S
  | act {i : Nat} {o : Oper} {v : V} {T : List En} {fr : Fr} {S S' : St} (ho : ops[i]? = some o) (hw : wantE ops o fr = some true) (hx : actE rec P o.op (viewE fr (looks ops o)) fr.pan S = some (.val v S'))
      (ha : ∀ j, anc ops j i = true → j ∈ idx T) (hn : i ∉ idx T) (hb : ∀ j ∈ idx T, anc ops j i = true) : EF (.act i o v S.next S') T fr S

inductive Tra : List En → Fr → St → Prop
  | nil : Tra [] fr0 S0
  | cons {e : En} {T : List En} {fr fr' : Fr} {S : St} (h : Tra T fr S) (f : EF rec P ops S0 e T fr S) (hp : fr.put e.o.dst e.v = some fr') : Tra (e :: T) fr' (e.st S)
  | jump {T : List En} {fr : Fr} {S : St} (h : Tra T fr S) (n : Nat) (hn : S.next ≤ n) : Tra T fr { S with next := n }
end

section
variable {rec : Rec} {P : Program} {ops : Array Oper} {S0 : St} {fr0 : Fr} {e : En} {T : List En} {fr : Fr} {S : St}

theorem EF.ho (f : EF rec P ops S0 e T fr S) : ops[e.i]? = some e.o := by cases f <;> assumption
theorem EF.ha (f : EF rec P ops S0 e T fr S) : ∀ j, anc ops j e.i = true → j ∈ idx T := by cases f <;> assumption
theorem EF.hn (f : EF rec P ops S0 e T fr S) : e.i ∉ idx T := by cases f <;> assumption
theorem EF.lo (f : EF rec P ops S0 e T fr S) : e.lo = S.next := by cases f <;> rfl
theorem EF.hi (f : EF rec P ops S0 e T fr S) : e.hi = (e.st S).next := by
  obtain @⟨i, o, v, ob, _, _, _, _, _, _, _⟩ | _ := f
  · cases ob <;> rfl
  · rfl

theorem mild_le {i : Nat} {o : Oper} {v : V} {ob : Option Ob} (_ : mildE P ops (masks ops.toList []) S0 i o T fr S = some (v, ob)) : StLe S (S.plus ob) := by
  cases ob with
  | none => exact .refl _
  | some ob => exact .new _ _

theorem EF.le (hl : LeOk rec) (f : EF rec P ops S0 e T fr S) : StLe S (e.st S) := by
  cases f with
  | mild ho hm ha hn => exact mild_le hm
  | act ho hw hx ha hn hb => exact actE_le hl hx

theorem Tra.le (hl : LeOk rec) (h : Tra rec P ops S0 fr0 T fr S) : StLe S0 S := by
  induction h with
  | nil => exact .refl _
  | cons h f hp ih => exact ih.trans (f.le hl)
  | jump h n hn ih => exact ih.trans (.up _ hn)

theorem Fr.put_n {fr fr' : Fr} {dst : Option Tmp} {v : V} (hp : fr.put dst v = some fr') : fr'.n = fr.n ∧ (∀ d, dst = some d → d < fr.n) ∧ ∀ t, fr'.t.find t = if dst = some t then some v else fr.t.find t := by
  cases dst with
  | none => simp [Fr.put] at hp; subst hp; simp
  | some d =>
    simp only [Fr.put] at hp
    split at hp
    · rename_i hd
      cases hp
      refine ⟨rfl, fun d' hd' => by cases hd'; simpa using hd, fun t => ?_⟩
      simp only [Tr.find_put]
      by_cases h : t = d
      · subst h; simp
      · rw [if_neg h, if_neg (fun e => h (by cases e; rfl))]
    · cases hp

theorem Tra.same (h : Tra rec P ops S0 fr0 T fr S) : fr.pan = fr0.pan ∧ fr.ds = fr0.ds ∧ fr.n = fr0.n := by
  induction h with
  | nil => exact ⟨rfl, rfl, rfl⟩
  | cons h f hp ih =>
    obtain ⟨h1, h2, h3⟩ := ih
    exact ⟨by rw [(Fr.put_pan hp).1, h1], by rw [(Fr.put_pan hp).2, h2], by rw [(Fr.put_n hp).1, h3]⟩
  | jump h n hn ih => exact ih

/-- What a temporary holds: its writer's value, or what it held at the begin. -/
theorem Tra.look (h : Tra rec P ops S0 fr0 T fr S) {t : Tmp} {u : V} (hu : fr.t.find t = some u) :
    (∃ e ∈ T, e.o.dst = some t ∧ e.v = u) ∨ ((∀ e ∈ T, e.o.dst ≠ some t) ∧ fr0.t.find t = some u) := by
  induction h with
  | nil => exact .inr ⟨fun _ h => (by cases h), hu⟩
  | cons h f hp ih =>
    rename_i e T fr fr' S
    rw [(Fr.put_n hp).2.2] at hu
    split at hu
    · rename_i hd
      cases hu
      exact .inl ⟨e, List.mem_cons_self, hd, rfl⟩
    · rename_i hd
      rcases ih hu with ⟨e', h1, h2⟩ | ⟨h1, h2⟩
      · exact .inl ⟨e', List.mem_cons_of_mem _ h1, h2⟩
      · refine .inr ⟨fun e' he' => ?_, h2⟩
        rcases List.mem_cons.1 he' with rfl | he'
        · exact hd
        · exact h1 e' he'
  | jump h n hn ih => exact ih hu

/-- .. the writer's place is in the frame. -/
theorem Tra.dst_lt (h : Tra rec P ops S0 fr0 T fr S) : ∀ e ∈ T, ∀ d, e.o.dst = some d → d < fr0.n := by
  induction h with
  | nil => intro _ h; cases h
  | cons h f hp ih =>
    intro e' he' d hd
    rcases List.mem_cons.1 he' with rfl | he'
    · rw [← h.same.2.2]; exact (Fr.put_n hp).2.1 d hd
    · exact ih e' he' d hd
  | jump h n hn ih => exact ih

theorem Tra.nodup (h : Tra rec P ops S0 fr0 T fr S) : (idx T).Nodup := by
  induction h with
  | nil => exact List.nodup_nil
  | cons h f hp ih => exact List.nodup_cons.2 ⟨f.hn, ih⟩
  | jump h n hn ih => exact ih

/-- The record up to an entry. -/
theorem Tra.split (hl : LeOk rec) (h : Tra rec P ops S0 fr0 T fr S) : ∀ {R T1 : List En} {e : En}, T = R ++ e :: T1 →
    ∃ fr1 S1, Tra rec P ops S0 fr0 T1 fr1 S1 ∧ EF rec P ops S0 e T1 fr1 S1 ∧ (e.st S1).next ≤ S.next ∧ ∀ e' ∈ R, (e.st S1).next ≤ e'.lo := by
  induction h with
  | nil => intro R T1 e he; simp at he
  | cons h f hp ih =>
    rename_i e0 T fr fr' S
    intro R T1 e he
    cases R with
    | nil =>
      simp only [List.nil_append, List.cons.injEq] at he
      obtain ⟨rfl, rfl⟩ := he
      exact ⟨_, _, h, f, Nat.le_refl _, fun _ h => (by cases h)⟩
    | cons r R =>
      simp only [List.cons_append, List.cons.injEq] at he
      obtain ⟨rfl, he⟩ := he
      obtain ⟨fr1, S1, h1, h2, h3, h4⟩ := ih he
      refine ⟨fr1, S1, h1, h2, Nat.le_trans h3 (f.le hl).next, fun e' he' => ?_⟩
      rcases List.mem_cons.1 he' with rfl | he'
      · rw [f.lo]; exact h3
      · exact h4 e' he'
  | jump h n hn ih =>
    intro R T1 e he
    obtain ⟨fr1, S1, h1, h2, h3, h4⟩ := ih he
    exact ⟨fr1, S1, h1, h2, Nat.le_trans h3 hn, h4⟩

/-- .. up to a place. -/
theorem Tra.tail (hl : LeOk rec) (h : Tra rec P ops S0 fr0 T fr S) : ∀ {R T1 : List En}, T = R ++ T1 → ∃ fr1 S1, Tra rec P ops S0 fr0 T1 fr1 S1 ∧ S1.next ≤ S.next ∧ ∀ e' ∈ R, S1.next ≤ e'.lo := by
  induction h with
  | nil =>
    intro R T1 he
    have h2 : R = [] ∧ T1 = [] := by simpa using he.symm
    obtain ⟨rfl, rfl⟩ := h2
    exact ⟨_, _, .nil, Nat.le_refl _, fun _ h => (by cases h)⟩
  | cons h f hp ih =>
    rename_i e0 T fr fr' S
    intro R T1 he
    cases R with
    | nil =>
      simp only [List.nil_append] at he
      subst he
      exact ⟨_, _, h.cons f hp, Nat.le_refl _, fun _ h => (by cases h)⟩
    | cons r R =>
      simp only [List.cons_append, List.cons.injEq] at he
      obtain ⟨rfl, he⟩ := he
      obtain ⟨fr1, S1, h1, h3, h4⟩ := ih he
      refine ⟨fr1, S1, h1, Nat.le_trans h3 (f.le hl).next, fun e' he' => ?_⟩
      rcases List.mem_cons.1 he' with rfl | he'
      · rw [f.lo]; exact h3
      · exact h4 e' he'
  | jump h n hn ih =>
    intro R T1 he
    obtain ⟨fr1, S1, h1, h3, h4⟩ := ih he
    exact ⟨fr1, S1, h1, Nat.le_trans h3 hn, h4⟩

theorem Tra.range (hl : LeOk rec) (h : Tra rec P ops S0 fr0 T fr S) {e : En} (he : e ∈ T) : S0.next ≤ e.lo ∧ e.lo ≤ e.hi ∧ e.hi ≤ S.next := by
  obtain ⟨R, T1, rfl⟩ := List.append_of_mem he
  obtain ⟨fr1, S1, h1, h2, h3, _⟩ := h.split hl rfl
  exact ⟨by rw [h2.lo]; exact (h1.le hl).next, by rw [h2.lo, h2.hi]; exact (h2.le hl).next, by rw [h2.hi]; exact h3⟩

/-- The ranges of two entries lie apart. -/
theorem Tra.apart (hl : LeOk rec) (h : Tra rec P ops S0 fr0 T fr S) {e e' : En} (he : e ∈ T) (he' : e' ∈ T) (hne : e.i ≠ e'.i) : e.hi ≤ e'.lo ∨ e'.hi ≤ e.lo := by
  obtain ⟨R, T1, rfl⟩ := List.append_of_mem he
  obtain ⟨fr1, S1, h1, h2, h3, h4⟩ := h.split hl rfl
  rcases List.mem_append.1 he' with h5 | h5
  · exact .inl (by rw [h2.hi]; exact h4 e' h5)
  · rcases List.mem_cons.1 h5 with rfl | h5
    · exact absurd rfl hne
    · exact .inr (by rw [h2.lo]; exact (h1.range hl h5).2.2)

theorem idx_inj (hn : (idx T).Nodup) {e e' : En} (he : e ∈ T) (he' : e' ∈ T) (h : e.i = e'.i) : e = e' := by
  induction T with
  | nil => cases he
  | cons a T ih =>
    simp only [idx, List.map_cons, List.nodup_cons] at hn
    obtain ⟨hn1, hn2⟩ := hn
    rcases List.mem_cons.1 he with he | he <;> rcases List.mem_cons.1 he' with he' | he'
    · rw [he, he']
    · rw [he] at h; exact absurd (List.mem_map.2 ⟨e', he', h.symm⟩) hn1
    · rw [he'] at h; exact absurd (List.mem_map.2 ⟨e, he, h⟩) hn1
    · exact ih hn2 he he'

/-! ### What the plan's check says -/

def Marks (pm : Nat) (T : List En) : Prop := ∀ j, pm.testBit j = true ↔ j ∈ idx T

theorem Marks.nil : Marks 0 [] := fun j => by simp

theorem Marks.add {pm i : Nat} (h : Marks pm T) (he : e.i = i) : Marks (Nat.lor pm (2 ^ i)) (e :: T) := by
  intro j
  have : (Nat.lor pm (2 ^ i)).testBit j = (pm ||| 2 ^ i).testBit j := rfl
  rw [this, Nat.testBit_or, Nat.testBit_two_pow, Bool.or_eq_true, h j]
  simp only [decide_eq_true_eq, idx, List.map_cons, List.mem_cons, he]
  constructor
  · rintro (h | h)
    · exact .inr h
    · exact .inl h.symm
  · rintro (h | h)
    · exact .inr h.symm
    · exact .inl h

theorem land_sub {a b j : Nat} (h : Nat.beq (Nat.land a b) a = true) (hj : a.testBit j = true) : b.testBit j = true := by
  have h1 : a &&& b = a := Nat.eq_of_beq_eq_true h
  rw [← h1, Nat.testBit_and, Bool.and_eq_true] at hj
  exact hj.2

theorem ordOk_head {pm i : Nat} {l : List Nat} (hm : Marks pm T) (h : ordOk (masks ops.toList []) ops pm (i :: l) = true) :
    (∀ j, anc ops j i = true → j ∈ idx T) ∧ i ∉ idx T ∧ (cls3 ops i = true → ∀ j ∈ idx T, anc ops j i = true) ∧ ordOk (masks ops.toList []) ops (Nat.lor pm (2 ^ i)) l = true := by
  simp only [ordOk, Bool.and_eq_true, Bool.or_eq_true, Bool.not_eq_true'] at h
  obtain ⟨⟨⟨⟨_, h1⟩, h2⟩, h3⟩, h4⟩ := h
  refine ⟨fun j hj => ?_, fun hi => ?_, fun hc j hj => ?_, h4⟩
  · unfold anc ancOf at hj
    rw [bitAt_eq] at hj
    exact (hm j).1 (land_sub h1 hj)
  · rw [bitAt_eq, (hm i).2 hi] at h2; cases h2
  · rcases h3 with h3 | h3
    · rw [hc] at h3; cases h3
    · unfold anc ancOf
      rw [bitAt_eq]
      exact land_sub h3 ((hm j).2 hj)

theorem ordOk_nil {pm : Nat} (hm : Marks pm T) (h : ordOk (masks ops.toList []) ops pm [] = true) : ∀ i, i < ops.size → i ∈ idx T := by
  intro i hi
  have h1 : pm = 2 ^ ops.size - 1 := Nat.eq_of_beq_eq_true h
  rw [← hm i, h1, Nat.testBit_two_pow_sub_one]
  simpa using hi

theorem maskOf_eq : ∀ T : List En, Marks (maskOf T) T
  | [] => .nil
  | .mild i _ _ _ _ :: T => Marks.add (maskOf_eq T) rfl
  | .act i _ _ _ _ :: T => Marks.add (maskOf_eq T) rfl

theorem ordOk_notin {i : Nat} : ∀ (l : List Nat) {pm : Nat}, pm.testBit i = true → ordOk (masks ops.toList []) ops pm l = true → i ∉ l := by
  intro l
  induction l with
  | nil => intro _ _ _ h; cases h
  | cons j l ih =>
    intro pm hb h hi
    simp only [ordOk, Bool.and_eq_true, Bool.not_eq_true'] at h
    obtain ⟨⟨⟨_, h2⟩, _⟩, h4⟩ := h
    rcases List.mem_cons.1 hi with rfl | hi
    · rw [bitAt_eq, hb] at h2; cases h2
    · refine ih ?_ h4 hi
      show (pm ||| 2 ^ j).testBit i = true
      rw [Nat.testBit_or, hb, Bool.true_or]

theorem ordOk_cover : ∀ (l : List Nat) {pm : Nat}, ordOk (masks ops.toList []) ops pm l = true → ∀ i, i < ops.size → pm.testBit i = true ∨ i ∈ l := by
  intro l
  induction l with
  | nil =>
    intro pm h i hi
    have h1 : pm = 2 ^ ops.size - 1 := Nat.eq_of_beq_eq_true h
    rw [h1, Nat.testBit_two_pow_sub_one]
    exact .inl (by simpa using hi)
  | cons j l ih =>
    intro pm h i hi
    simp only [ordOk, Bool.and_eq_true] at h
    rcases ih h.2 i hi with h1 | h1
    · have h1 : (pm ||| 2 ^ j).testBit i = true := h1
      rw [Nat.testBit_or, Nat.testBit_two_pow, Bool.or_eq_true, decide_eq_true_eq] at h1
      rcases h1 with h1 | h1
      · exact .inl h1
      · exact .inr (by rw [← h1]; exact List.mem_cons_self)
    · exact .inr (List.mem_cons_of_mem _ h1)

/-- The mild ones behind a panic's place. -/
theorem mildsE_tra : ∀ (l : List Nat) {pm n : Nat} {T : List En} {fr : Fr} {S : St}, Tra rec P ops S0 fr0 T fr S → Marks pm T → mildsE P ops (masks ops.toList []) S0 pm l T fr S = some n →
    ∃ R fr' S', Tra rec P ops S0 fr0 (R ++ T) fr' S' ∧ S'.next = n ∧ S.next ≤ S'.next ∧ (∀ e ∈ R, e.i ∈ l ∧ e.isMild = true ∧ S.next ≤ e.lo) ∧ ∀ i ∈ l, i ∈ idx R
  | [], pm, n, T, fr, S, h, hm, hE => by
    simp only [mildsE, Option.some.injEq] at hE
    exact ⟨[], fr, S, h, hE, Nat.le_refl _, fun _ h => (by cases h), fun _ h => (by cases h)⟩
  | i :: l, pm, n, T, fr, S, h, hm, hE => by
    simp only [mildsE] at hE
    split at hE
    · cases hE
    · rename_i o ho
      split at hE
      · rename_i hc
        simp only [Bool.and_eq_true, Bool.not_eq_true'] at hc
        split at hE
        · cases hE
        · rename_i v ob hmi
          split at hE
          · cases hE
          · rename_i fr1 hp
            have f : EF rec P ops S0 (.mild i o v S.next ob) T fr S := .mild ho hmi (fun j hj => by
              unfold anc ancOf at hj
              rw [bitAt_eq] at hj
              exact (hm j).1 (land_sub hc.1 hj)) (fun hi => by have := hc.2; rw [bitAt_eq, (hm i).2 hi] at this; cases this)
            have h1 : Tra rec P ops S0 fr0 (.mild i o v S.next ob :: T) fr1 (S.plus ob) := h.cons f hp
            obtain ⟨R, fr', S', r1, r2, r0, r3, r4⟩ := mildsE_tra l h1 (hm.add rfl) hE
            refine ⟨R ++ [.mild i o v S.next ob], fr', S', by rw [List.append_assoc]; exact r1, r2, Nat.le_trans (mild_le hmi).next r0, fun e he => ?_, fun j hj => ?_⟩
            · rcases List.mem_append.1 he with he | he
              · obtain ⟨q1, q2, q3⟩ := r3 e he
                exact ⟨List.mem_cons_of_mem _ q1, q2, Nat.le_trans (mild_le hmi).next q3⟩
              · cases List.mem_singleton.1 he
                exact ⟨List.mem_cons_self, rfl, Nat.le_refl _⟩
            · simp only [idx, List.map_append, List.mem_append]
              rcases List.mem_cons.1 hj with rfl | hj
              · exact .inr (by simp [En.i])
              · exact .inl (r4 j hj)
      · cases hE

/-- A region's panic. -/
structure PF (rec : Rec) (P : Program) (ops : Array Oper) (S0 : St) (fr0 : Fr) (T : List En) (m : Nat) (v : V) (fr : Fr) (S' : St) : Prop where
  intro ::
  pan : ∃ (o : Oper) (R T0 : List En) (frm frR : Fr) (Sm Sa SR : St) (l2 : List Nat), T = R ++ T0 ∧ Tra rec P ops S0 fr0 T0 frm Sm ∧ ops[m]? = some o ∧ wantE ops o frm = some true ∧
    actE rec P o.op (viewE frm (looks ops o)) frm.pan Sm = some (.pan v Sa) ∧ (∀ j, anc ops j m = true → j ∈ idx T0) ∧ (∀ j ∈ idx T0, anc ops j m = true) ∧ m ∉ idx T ∧
    Tra rec P ops S0 fr0 T frR SR ∧ (∀ e ∈ R, e.isMild = true ∧ Sa.next ≤ e.lo ∧ e.i ∈ l2) ∧ (∀ j ∈ l2, anc ops m j = false) ∧ (∀ i, i < ops.size → i ∈ idx T ∨ i = m ∨ anc ops m i = true) ∧
    fr = dropT ops l2 frm ∧ S' = { Sa with next := SR.next } ∧ Sa.next ≤ SR.next

theorem drawE_tra (hl : LeOk rec) : ∀ (l : List Nat) {pm : Nat} {T : List En} {fr : Fr} {S : St} {r : Rs}, Tra rec P ops S0 fr0 T fr S → Marks pm T → ordOk (masks ops.toList []) ops pm l = true → drawE rec P ops (masks ops.toList []) S0 l T fr S = some r →
    (∃ T' fr' S', r = .code .normal fr' S' ∧ Tra rec P ops S0 fr0 T' fr' S' ∧ ∀ i, i < ops.size → i ∈ idx T') ∨
    (∃ T' m v fr' S', r = .code (.panic v) fr' S' ∧ PF rec P ops S0 fr0 T' m v fr' S')
  | [], pm, T, fr, S, r, h, hm, hord, hE => by
    rw [drawE] at hE
    simp only [Option.some.injEq] at hE
    exact .inl ⟨T, fr, S, hE.symm, h, ordOk_nil hm hord⟩
  | i :: l, pm, T, fr, S, r, h, hm, hord, hE => by
    obtain ⟨ha, hn, hb, hord'⟩ := ordOk_head hm hord
    simp only [drawE] at hE
    split at hE
    · cases hE
    · rename_i o ho
      split at hE
      · rename_i hcw
        simp only [Bool.and_eq_true] at hcw
        obtain ⟨hc3, hw⟩ := hcw
        have hw : wantE ops o fr = some true := by
          cases hq : wantE ops o fr with
          | none => rw [hq] at hw; cases hw
          | some b => rw [hq] at hw; cases b <;> first | rfl | cases hw
        have h3 : cls3 ops i = true := by unfold cls3; rw [ho]; exact hc3
        split at hE
        · rename_i v S' hx
          split at hE
          · cases hE
          · rename_i fr' hp
            exact drawE_tra hl l (h.cons (.act ho hw hx ha hn (hb h3)) hp) (hm.add rfl) hord' hE
        · rename_i v S' hx
          split at hE
          · rename_i n hms
            simp only [Option.some.injEq] at hE
            have hle : S.next ≤ S'.next := (actE_le hl hx : StLe S S').next
            obtain ⟨R, frR, SR, r1, r2, r0, r3, r4⟩ := mildsE_tra _ (h.jump S'.next hle) (maskOf_eq T) hms
            refine .inr ⟨R ++ T, i, v, _, _, hE.symm, ⟨o, R, T, fr, frR, S, S', SR, l.filter fun j => !ancOf (masks ops.toList []) i j, rfl, h, ho, hw, hx, ha, hb h3, ?_, r1, fun e he => ?_, fun j hj => ?_, fun j hj => ?_, rfl, ?_, r0⟩⟩
            · simp only [idx, List.map_append, List.mem_append, not_or]
              refine ⟨fun hi => ?_, hn⟩
              obtain ⟨e, he, hei⟩ := List.mem_map.1 hi
              have h1 := (List.mem_filter.1 (r3 e he).1).1
              rw [hei] at h1
              refine ordOk_notin l ?_ hord' h1
              show (pm ||| 2 ^ i).testBit i = true
              rw [Nat.testBit_or, Nat.testBit_two_pow]; simp
            · exact ⟨(r3 e he).2.1, (r3 e he).2.2, (r3 e he).1⟩
            · have h1 := (List.mem_filter.1 hj).2
              simpa [anc] using h1
            · rcases ordOk_cover l hord' j hj with h1 | h1
              · have h1 : (pm ||| 2 ^ i).testBit j = true := h1
                rw [Nat.testBit_or, Nat.testBit_two_pow, Bool.or_eq_true, decide_eq_true_eq] at h1
                rcases h1 with h1 | h1
                · exact .inl (by simp only [idx, List.map_append, List.mem_append]; exact .inr ((hm j).1 h1))
                · exact .inr (.inl h1.symm)
              · cases hanc : anc ops i j
                · exact .inl (by simp only [idx, List.map_append, List.mem_append]; exact .inl (r4 j (List.mem_filter.2 ⟨h1, by unfold anc at hanc; rw [hanc]; rfl⟩)))
                · exact .inr (.inr rfl)
            · rw [r2]
          · cases hE
        · cases hE
      · split at hE
        · cases hE
        · rename_i v ob hmi
          split at hE
          · cases hE
          · rename_i fr' hp
            exact drawE_tra hl l (h.cons (.mild ho hmi ha hn) hp) (hm.add rfl) hord' hE

end
end Go.Ev
