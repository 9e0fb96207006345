/-
  Ev, part 12: the orders of a region, and who waits for whom.
-/
import Derived.Test.YtilldjgagokcfaaGreatEvSeq
set_option linter.unusedVariables false
set_option linter.unusedSimpArgs false
namespace Go.Ev

section
variable {ops : Array Oper}

theorem bitAt_eq (m i : Nat) : bitAt m i = m.testBit i := by
  unfold bitAt
  rw [Nat.testBit_eq_decide_div_mod_eq, Bool.eq_iff_iff]
  simp

/-- A list of the operations that are not yet carried out, each behind what it waits for. -/
inductive Lin (ops : Array Oper) : (Nat → Bool) → List Nat → Prop
  | nil {D : Nat → Bool} (h : ∀ i, i < ops.size → D i = true) : Lin ops D []
  | cons {D : Nat → Bool} {i : Nat} {l : List Nat} {o : Oper} (ho : ops[i]? = some o) (hn : D i = false) (hr : ∀ e ∈ o.after, Region.binds .any e = true → D e.on = true)
      (h : Lin ops (fun j => D j || j == i) l) : Lin ops D (i :: l)

theorem edgesOk_spec (h : edgesOk ops = true) {k : Nat} {o : Oper} (ho : ops[k]? = some o) {e : Edge} (he : e ∈ o.after) (hb : Region.binds .any e = true) : e.on < k := by
  unfold edgesOk at h
  rw [List.all_eq_true] at h
  have hm : (o, k) ∈ ops.toList.zipIdx := by
    rw [List.mem_zipIdx_iff_getElem?]
    simpa using ho
  have h1 := h (o, k) hm
  simp only at h1
  rw [Array.all_eq_true_iff_forall_mem] at h1
  have h2 := h1 e he
  simp only [hb, Bool.not_true, Bool.false_or] at h2
  simpa using h2

def unlisted (ops : Array Oper) (listed : Array Bool) : List Nat := (List.range ops.size).filter fun i => !listed.getD i true

theorem filter_len_lt {α : Type} {p q : α → Bool} : ∀ {l : List α} {x : α}, (∀ y ∈ l, q y = true → p y = true) → x ∈ l → p x = true → q x = false → (l.filter q).length < (l.filter p).length := by
  intro l
  induction l with
  | nil => intro x _ hx; cases hx
  | cons a l ih =>
    intro x h hx hp hq
    have hsub : (l.filter q).length ≤ (l.filter p).length := by
      clear ih hx
      have h' : ∀ y ∈ l, q y = true → p y = true := fun y hy => h y (List.mem_cons_of_mem _ hy)
      clear h
      induction l with
      | nil => simp
      | cons b l ihl =>
        have h1 := ihl fun y hy => h' y (List.mem_cons_of_mem _ hy)
        simp only [List.filter_cons]
        cases hqb : q b
        · cases hpb : p b <;> simp <;> omega
        · rw [h' b (List.mem_cons_self) hqb]; simp; omega
    rcases List.mem_cons.1 hx with rfl | hx
    · simp only [List.filter_cons, hp, hq, if_true]
      simp; omega
    · have h1 := ih (fun y hy => h y (List.mem_cons_of_mem _ hy)) hx hp hq
      simp only [List.filter_cons]
      cases hqa : q a
      · cases hpa : p a <;> simp <;> omega
      · rw [h a List.mem_cons_self hqa]; simp; omega

theorem lin_go (he : edgesOk ops = true) : ∀ (fuel t : Nat) (listed : Array Bool), listed.size = ops.size → (unlisted ops listed).length ≤ fuel →
    Lin ops (fun j => listed.getD j false) (Region.linearise.go .any ops fuel t listed []) := by
  have none_left : ∀ listed : Array Bool, listed.size = ops.size → Region.ready .any ops listed = [] → ∀ i, i < ops.size → listed.getD i false = true := by
    intro listed hs hr i
    induction i using Nat.strongRecOn with
    | ind i ih =>
      intro hi
      cases hb : listed.getD i false with
      | true => rfl
      | false =>
        exfalso
        have hmem : i ∈ Region.ready .any ops listed := by
          rw [mem_ready]
          refine ⟨?_, ops[i], by simp [hi], fun e hem hbd => ?_⟩
          · have hlt : i < listed.size := by omega
            simp [hlt] at hb ⊢
            exact hb
          · have hlt := edgesOk_spec he (o := ops[i]) (k := i) (by simp [hi]) hem hbd
            exact ih e.on hlt (by omega)
        rw [hr] at hmem
        cases hmem
  intro fuel
  induction fuel with
  | zero =>
    intro t listed hs hc
    simp only [Region.linearise.go, List.reverse_nil]
    refine .nil fun i hi => ?_
    have hnil : unlisted ops listed = [] := List.eq_nil_of_length_eq_zero (by omega)
    cases hb : listed.getD i false with
    | true => rfl
    | false =>
      exfalso
      have hmem : i ∈ unlisted ops listed := by
        unfold unlisted
        rw [List.mem_filter, List.mem_range]
        refine ⟨hi, ?_⟩
        have hlt : i < listed.size := by omega
        simp [hlt] at hb ⊢
        exact hb
      rw [hnil] at hmem
      cases hmem
  | succ fuel ih =>
    intro t listed hs hc
    simp only [Region.linearise.go]
    change Lin ops _ (match (Region.ready .any ops listed)[t % (Region.ready .any ops listed).length]? with
      | some i => Region.linearise.go .any ops fuel (t / (Region.ready .any ops listed).length) (listed.setIfInBounds i true) [i]
      | none => [].reverse)
    cases hi : (Region.ready .any ops listed)[t % (Region.ready .any ops listed).length]? with
    | none =>
      have hnil : Region.ready .any ops listed = [] := by
        cases hr : Region.ready .any ops listed with
        | nil => rfl
        | cons x xs =>
          rw [hr] at hi
          have hlt : t % (x :: xs).length < (x :: xs).length := Nat.mod_lt _ (by simp)
          simp at hi
          simp at hlt
          omega
      exact .nil (none_left listed hs hnil)
    | some i =>
      simp only []
      rw [linearise_go_acc, List.reverse_singleton, List.singleton_append]
      obtain ⟨h0, o, ho, hall⟩ := mem_ready.1 (List.mem_of_getElem? hi)
      have hlt : i < ops.size := (Array.getElem?_eq_some_iff.1 ho).1
      refine .cons ho (by have hl : i < listed.size := by omega
                          simp [hl] at h0 ⊢; exact h0) (fun e h1 h2 => hall e h1 h2) ?_
      have hD : (fun j => listed.getD j false || j == i) = fun j => (listed.setIfInBounds i true).getD j false := by
        funext j
        by_cases hj : i = j
        · subst hj
          have hl : i < listed.size := by omega
          simp [hl]
        · rw [getD_set_ne false hj]
          have : (j == i) = false := by simp; omega
          rw [this, Bool.or_false]
      rw [hD]
      refine ih _ _ (by simp [hs]) ?_
      have hless : (unlisted ops (listed.setIfInBounds i true)).length < (unlisted ops listed).length := by
        refine filter_len_lt (x := i) (fun y hy hq => ?_) (List.mem_range.2 hlt) (by rw [h0]; rfl) ?_
        · simp only [Bool.not_eq_true'] at hq ⊢
          by_cases hyi : i = y
          · subst hyi
            have hl : i < listed.size := by omega
            simp [hl] at hq
          · rwa [getD_set_ne true hyi] at hq
        · have hl : i < listed.size := by omega
          simp [hl]
      omega

theorem lin_schedule (he : edgesOk ops = true) (t : Nat) : Lin ops (fun _ => false) (Region.schedule true ops t) := by
  simp only [Region.schedule, Bool.true_or, if_true, Region.linearise]
  have h := lin_go he ops.size t (Array.replicate ops.size false) (by simp) (by
    unfold unlisted
    exact Nat.le_trans (List.length_filter_le _ _) (by simp))
  have hD : (fun j => (Array.replicate ops.size false).getD j false) = fun _ => false := by
    funext j
    by_cases hj : j < ops.size <;> simp [hj]
  rw [hD] at h
  exact h

/-! ### Who waits for whom -/

def stepMask (acc : List Nat) (o : Oper) : Nat := o.after.foldl (fun s e => if Region.binds .any e then s ||| (2 ^ e.on ||| acc.getD e.on 0) else s) 0

theorem masks_prefix : ∀ (l : List Oper) (acc : List Nat), ∃ l', masks l acc = acc ++ l' ∧ l'.length = l.length := by
  intro l
  induction l with
  | nil => intro acc; exact ⟨[], by simp [masks], rfl⟩
  | cons o l ih =>
    intro acc
    obtain ⟨l', h1, h2⟩ := ih (acc ++ [stepMask acc o])
    refine ⟨stepMask acc o :: l', ?_, by simp [h2]⟩
    simp only [masks]
    rw [show (o.after.foldl (fun s e => if Region.binds .any e then s ||| (2 ^ e.on ||| acc.getD e.on 0) else s) 0) = stepMask acc o from rfl, h1]
    simp

theorem foldl_congr_mem {α β : Type} {f g : β → α → β} : ∀ (l : List α) (b : β), (∀ b, ∀ a ∈ l, f b a = g b a) → l.foldl f b = l.foldl g b := by
  intro l
  induction l with
  | nil => intro b _; rfl
  | cons a l ih =>
    intro b h
    simp only [List.foldl_cons]
    rw [h b a List.mem_cons_self]
    exact ih _ fun b a ha => h b a (List.mem_cons_of_mem _ ha)

theorem masks_get : ∀ (l : List Oper) (acc : List Nat) (k : Nat) (o : Oper), l[k]? = some o → (∀ e ∈ o.after, Region.binds .any e = true → e.on < acc.length + k) →
    (masks l acc).getD (acc.length + k) 0 = stepMask (masks l acc) o := by
  intro l
  induction l with
  | nil => intro acc k o h; simp at h
  | cons a l ih =>
    intro acc k o ho he
    simp only [masks]
    rw [show (a.after.foldl (fun s e => if Region.binds .any e then s ||| (2 ^ e.on ||| acc.getD e.on 0) else s) 0) = stepMask acc a from rfl]
    cases k with
    | succ k =>
      have := ih (acc ++ [stepMask acc a]) k o (by simpa using ho) (fun e h1 h2 => by have := he e h1 h2; simp; omega)
      simp only [List.length_append, List.length_cons, List.length_nil] at this
      rw [show acc.length + (k + 1) = acc.length + (0 + 1) + k by omega]
      exact this
    | zero =>
      simp at ho
      subst ho
      obtain ⟨l', h1, _⟩ := masks_prefix l (acc ++ [stepMask acc a])
      rw [h1]
      rw [show (acc ++ [stepMask acc a] ++ l').getD (acc.length + 0) 0 = stepMask acc a by simp [List.getD]]
      unfold stepMask
      rw [← Array.foldl_toList, ← Array.foldl_toList]
      refine foldl_congr_mem _ _ fun b e hem => ?_
      cases hb : Region.binds .any e
      · rfl
      · have hlt := he e (by simpa using hem) hb
        simp only [if_true]
        have : (acc ++ [List.foldl (fun s e => if Region.binds .any e = true then s ||| (2 ^ e.on ||| acc.getD e.on 0) else s) 0 a.after.toList] ++ l').getD e.on 0 = acc.getD e.on 0 := by
          simp only [List.getD]
          rw [List.append_assoc, List.getElem?_append_left (by omega)]
        rw [this]

theorem foldl_bit (acc : List Nat) (i : Nat) : ∀ (l : List Edge) (s : Nat), (l.foldl (fun s e => if Region.binds .any e then s ||| (2 ^ e.on ||| acc.getD e.on 0) else s) s).testBit i = true →
    s.testBit i = true ∨ ∃ e ∈ l, Region.binds .any e = true ∧ (i = e.on ∨ (acc.getD e.on 0).testBit i = true) := by
  intro l
  induction l with
  | nil => intro s h; exact .inl h
  | cons e l ih =>
    intro s h
    simp only [List.foldl_cons] at h
    rcases ih _ h with h1 | ⟨e', h1, h2⟩
    · cases hb : Region.binds .any e
      · rw [hb] at h1; exact .inl (by simpa using h1)
      · rw [hb] at h1
        simp only [if_true, Nat.testBit_or, Bool.or_eq_true, Nat.testBit_two_pow, decide_eq_true_eq] at h1
        rcases h1 with h1 | h1 | h1
        · exact .inl h1
        · exact .inr ⟨e, List.mem_cons_self, hb, .inl h1.symm⟩
        · exact .inr ⟨e, List.mem_cons_self, hb, .inr h1⟩
    · exact .inr ⟨e', List.mem_cons_of_mem _ h1, h2⟩

/-- Who is waited for, is waited for by an edge, or through one. -/
theorem anc_edge (he : edgesOk ops = true) {i k : Nat} {o : Oper} (ho : ops[k]? = some o) (h : ancOf (masks ops.toList []) i k = true) :
    ∃ e ∈ o.after, Region.binds .any e = true ∧ (i = e.on ∨ ancOf (masks ops.toList []) i e.on = true) := by
  unfold ancOf at h
  rw [bitAt_eq] at h
  have hm := masks_get ops.toList [] k o (by simpa using ho) (fun e h1 h2 => by simpa using edgesOk_spec he ho h1 h2)
  simp only [List.length_nil, Nat.zero_add] at hm
  rw [hm] at h
  unfold stepMask at h
  rw [← Array.foldl_toList] at h
  rcases foldl_bit _ i _ _ h with h1 | ⟨e, h1, h2, h3⟩
  · simp at h1
  · refine ⟨e, by simpa using h1, h2, h3.imp id fun h => ?_⟩
    unfold ancOf
    rw [bitAt_eq]; exact h

def Closed (ops : Array Oper) (D : Nat → Bool) : Prop := ∀ k o, D k = true → ops[k]? = some o → ∀ e ∈ o.after, Region.binds .any e = true → D e.on = true

theorem anc_closed (he : edgesOk ops = true) {D : Nat → Bool} (hD : Closed ops D) {i : Nat} : ∀ (k : Nat) {o : Oper}, ops[k]? = some o → (∀ e ∈ o.after, Region.binds .any e = true → D e.on = true) →
    ancOf (masks ops.toList []) i k = true → D i = true := by
  intro k
  induction k using Nat.strongRecOn with
  | ind k ih =>
    intro o ho hr ha
    obtain ⟨e, h1, h2, h3⟩ := anc_edge he ho ha
    have hDe := hr e h1 h2
    rcases h3 with rfl | h3
    · exact hDe
    · have hlt := edgesOk_spec he ho h1 h2
      have hk : k < ops.size := (Array.getElem?_eq_some_iff.1 ho).1
      have hoe : ops[e.on]? = some ops[e.on] := by simp [show e.on < ops.size by omega]
      exact ih e.on hlt hoe (hD e.on _ hDe hoe) h3

theorem Closed.anc (he : edgesOk ops = true) {D : Nat → Bool} (hD : Closed ops D) {i k : Nat} (hk : D k = true) (hlt : k < ops.size) (ha : ancOf (masks ops.toList []) i k = true) : D i = true :=
  anc_closed he hD k (o := ops[k]) (by simp [hlt]) (hD k _ hk (by simp [hlt])) ha

theorem Closed.add {D : Nat → Bool} (hD : Closed ops D) {i : Nat} {o : Oper} (ho : ops[i]? = some o) (hr : ∀ e ∈ o.after, Region.binds .any e = true → D e.on = true) : Closed ops (fun j => D j || j == i) := by
  intro k o' hk ho' e h1 h2
  simp only [Bool.or_eq_true, beq_iff_eq] at hk ⊢
  rcases hk with hk | hk
  · exact .inl (hD k o' hk ho' e h1 h2)
  · subst hk
    rw [ho] at ho'; cases ho'
    exact .inl (hr e h1 h2)

end
end Go.Ev
