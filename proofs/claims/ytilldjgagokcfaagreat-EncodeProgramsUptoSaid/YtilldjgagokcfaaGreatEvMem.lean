/-
  Ev, part 3: memory that is written: a box, the free cells behind a list, a freeze.
-/
import Derived.Test.YtilldjgagokcfaaGreatEvRel
import Derived.Laws.CopyRow
set_option linter.unusedVariables false
set_option linter.unusedSimpArgs false
namespace Go.Ev
open Go.RowKit

theorem run_storeCells_fr (P : Program) (g o : Nat) (t : TypeId) (fr : Nat × Nat) : ∀ (vs : List Value) (i : Nat) (cur : Array Value) (w : World), w.heap[g]? = some (.cells cur t fr) → fr.2 ≤ o + i ∨ fr.1 = fr.2 → o + i + vs.length ≤ cur.size →
    (∀ v ∈ vs, v.oneCell' = true) → (storeCells ⟨g, o, none⟩ vs i).run P w = .ok () (w.setRow g (cur.toList.take (o + i) ++ vs ++ cur.toList.drop (o + i + vs.length)).toArray)
  | [], i, cur, w, hg, _, _, _ => by
    simp only [storeCells, List.append_nil, List.length_nil, Nat.add_zero, List.take_append_drop, Array.toArray_toList]
    rw [setRow_self w g cur t fr hg]
    rfl
  | v :: rest, i, cur, w, hg, hfr, hl, h1 => by
    have hi : o + i < cur.size := by simp at hl; omega
    have hadd : (⟨g, o, none⟩ : Addr).add i = ⟨g, o + i, none⟩ := by unfold Addr.add; split <;> simp_all
    have hcell : w.cell? ⟨g, o + i, none⟩ = some cur[o + i] := by simp [World.cell?, hg, hi]
    have hfro : w.frozen? ⟨g, o + i, none⟩ = false := by
      obtain ⟨lo, hi'⟩ := fr
      simp only [World.frozen?, hg]
      simp only at hfr
      simp; omega
    have hst : (store ((⟨g, o, none⟩ : Addr).add i) v).run P w = .ok () (w.setRow g (cur.setIfInBounds (o + i) v)) := by
      rw [hadd, run_store P w _ v _ (h1 v (by simp)), hcell]
      simp [hfro, setCell_eq_setRow w g (o + i) cur t fr v hg]
    have ih := run_storeCells_fr P g o t fr rest (i + 1) (cur.setIfInBounds (o + i) v) (w.setRow g (cur.setIfInBounds (o + i) v)) (setRow_heap w g cur _ t _ hg) (by omega) (by simp at hl ⊢; omega) (fun x hx => h1 x (by simp [hx]))
    simp only [storeCells, Sem.run_bind, hst, Result.andThen_ok, ih, setRow_setRow]
    congr 3
    have e := list_seg_step cur.toList (o + i) v rest (by simp at hl ⊢; omega)
    simpa [Array.toList_setIfInBounds, Nat.add_assoc] using e

section
variable {pd : Nat → Nat → Prop} {base : Nat} {w₀ w : World} {σ : Sg} {S : St}

theorem Below.setRow' {base : Nat} {w₀ w : World} (h : Below base w₀ w) {b : Nat} (hb : base ≤ b) (cs : Array Value) : Below base w₀ (w.setRow b cs) :=
  h.trans ⟨rfl, rfl, rfl, by simp, fun k hk => setRow_other w b k cs (by omega)⟩

/-- One owned block is written. -/
theorem Rel.write (h : Rel pd base w₀ σ S w) {b : Nat} {cur : Array Value} {t : TypeId} {fr : Nat × Nat} (hg : w.heap[b]? = some (.cells cur t fr)) (hb : base ≤ b) (hown : Owns σ S b)
    (cs' : Array Value) (σ' : Sg) (S' : St) (hs : σ.le σ') (hnext : S.next ≤ S'.next)
    (hI : ∀ b' o, b' ≠ b → σ'.I b' o = σ.I b' o) (hIb : ∀ o v, σ'.I b o = some v → ¬ pd b o → cs'[o]? = some v) (hT : σ'.ty = σ.ty)
    (hOb : ∀ id o, S'.h.find id = some o → (S.h.find id = some o ∧ ∀ x, σ.ρ id = some x → x.1 ≠ b) ∨ (Owns σ S b ∧ ObR σ' base (w.setRow b cs') id o ∧ (∃ x, σ'.ρ id = some x ∧ x.1 = b) ∧ ((∃ o', S.h.find id = some o') ∨ (S.next ≤ id ∧ id < S'.next))))
    (hone : ∀ i j x y, (∃ o, S'.h.find i = some o) → (∃ o, S'.h.find j = some o) → σ'.ρ i = some x → σ'.ρ j = some y → x.1 = b → y.1 = b → i = j)
    (hK : ∀ id x, σ.ρ id = none → σ'.ρ id = some x → S.next ≤ id ∧ id < S'.next ∧ x.1 = b) :
    Rel pd base w₀ σ' S' (w.setRow b cs') ∧ Stp σ S w σ' S' (w.setRow b cs') := by
  have hblt := heap_lt hg
  have hnow : (w.setRow b cs').heap[b]? = some (.cells cs' t fr) := setRow_heap w b cur cs' t fr hg
  refine ⟨⟨Below.setRow' h.below hb _, by simpa using h.hb, ?_, ?_, ?_, ?_, ?_⟩, ?_⟩
  · intro b' o v hv hp
    by_cases hbe : b' = b
    · subst hbe
      rw [cell_setRow_same w b' o cur cs' t fr hg]
      exact hIb o v hv hp
    · rw [hI b' o hbe] at hv
      rw [cell_setRow_other w b cs' _ hbe]
      exact h.imm b' o v hv hp
  · intro b' o v hv
    by_cases hbe : b' = b
    · subst hbe; simpa using hblt
    · rw [hI b' o hbe] at hv; simpa using h.cur b' o v hv
  · intro b' t' ht
    rw [hT] at ht
    obtain ⟨c, fr', hc, hbb⟩ := h.ty b' t' ht
    by_cases hbe : b' = b
    · subst hbe
      rw [hg] at hc; cases hc
      exact ⟨cs', fr, hnow, hbb⟩
    · exact ⟨c, fr', by rw [setRow_other w b b' cs' hbe]; exact hc, hbb⟩
  · intro id o ho
    rcases hOb id o ho with ⟨h1, h2⟩ | ⟨_, h2, _⟩
    · refine (h.ob id o h1).keep hs fun x hx => ?_
      exact ⟨setRow_other w b x.1 cs' (h2 x hx), fun o ho => by rw [hI _ _ (h2 x hx)]; exact ho⟩
    · exact h2
  · intro i j o o' x y hi hj hx hy hxy
    have key : ∀ k ok z, S'.h.find k = some ok → σ'.ρ k = some z → z.1 ≠ b → S.h.find k = some ok ∧ σ.ρ k = some z := fun k ok z h1 h2 h3 => by
      rcases hOb k ok h1 with ⟨h4, _⟩ | ⟨_, _, ⟨x', h5, h6⟩, _⟩
      · obtain ⟨z', hz, _⟩ := (h.ob k ok h4).key
        have := hs.ρ _ _ hz
        rw [this] at h2; cases h2
        exact ⟨h4, hz⟩
      · rw [h5] at h2; cases h2; exact absurd h6 h3
    by_cases hxb : x.1 = b
    · exact hone i j x y ⟨o, hi⟩ ⟨o', hj⟩ hx hy hxb (by rw [← hxy]; exact hxb)
    · obtain ⟨a1, a2⟩ := key i o x hi hx hxb
      obtain ⟨a3, a4⟩ := key j o' y hj hy (by rw [← hxy]; exact hxb)
      exact h.inj i j o o' x y a1 a3 a2 a4 hxy
  · refine ⟨hs, hnext, by simp, ?_, ?_, ?_, ?_⟩
    · intro b' _ hn _
      exact setRow_other w b b' cs' (fun e => hn (by rw [e]; exact hown))
    · intro b' _ hn o
      exact hI b' o (fun e => hn (by rw [e]; exact hown))
    · intro id x h1 h2
      obtain ⟨h3, h4, h5⟩ := hK id x h1 h2
      exact ⟨h3, h4, .inr (by rw [h5]; exact hown)⟩
    · intro id o ho
      rcases hOb id o ho with ⟨h1, _⟩ | ⟨_, _, _, h3⟩
      · exact .inl ⟨o, h1⟩
      · exact h3

/-- A box is written. -/
theorem Rel.setBox (h : Rel pd base w₀ σ S w) {id : Nat} {t : TypeId} {cs cs' : List V} (hid : S.h.find id = some (.box t cs)) {b p e : Nat} (hρ : σ.ρ id = some (b, p, e)) {vs' : List Value} (hv : VRs σ cs' vs') :
    Rel pd base w₀ σ { S with h := S.h.put id (.box t cs') } (w.setRow b vs'.toArray) ∧ Stp σ S w σ { S with h := S.h.put id (.box t cs') } (w.setRow b vs'.toArray) := by
  obtain ⟨b', e', vs, h1, h2, h3, h4, h5⟩ := h.ob id _ hid
  rw [hρ] at h1
  cases h1
  have hother : ∀ id' o x, id' ≠ id → S.h.find id' = some o → σ.ρ id' = some x → x.1 ≠ b := fun id' o x hne ho hx hxb =>
    hne (h.inj id' id o _ x _ ho hid hx hρ hxb)
  refine h.write h3 h2 ⟨id, _, _, hid, hρ, rfl⟩ _ σ _ (.refl σ) (Nat.le_refl _) (fun _ _ _ => rfl) (fun o v hv _ => by rw [h5 o] at hv; cases hv) rfl ?_ ?_ (fun id x h1 h2 => by rw [h1] at h2; cases h2)
  · intro id' o ho
    rw [Tr.find_put] at ho
    split at ho
    · rename_i hid'
      subst hid'
      cases ho
      refine .inr ⟨⟨id', _, _, hid, hρ, rfl⟩, ⟨b, _, vs', hρ, h2, setRow_heap w b _ _ t _ h3, hv, h5⟩, ⟨_, hρ, rfl⟩, .inl ⟨_, hid⟩⟩
    · rename_i hid'
      exact .inl ⟨ho, fun x hx => hother id' o x hid' ho hx⟩
  · intro i j x y ⟨oi, hi⟩ ⟨oj, hj⟩ hx hy hxb hyb
    rw [Tr.find_put] at hi hj
    have : ∀ k ok z, (if k = id then some (Ob.box t cs') else S.h.find k) = some ok → σ.ρ k = some z → z.1 = b → k = id := fun k ok z hk hz hzb => by
      by_cases hke : k = id
      · exact hke
      · rw [if_neg hke] at hk
        exact absurd hzb (hother k ok z hke hk hz)
    rw [this i oi x hi hx hxb, this j oj y hj hy hyb]

/-- The free cells behind a list are written: they never turn from now on. -/
theorem Rel.putTok (h : Rel pd base w₀ σ S w) (hpd : ∀ b o, ¬ pd b o) {id : Nat} (hid : S.h.find id = some .tok) {b p e : Nat} (hρ : σ.ρ id = some (b, p, e)) (hf : σ.ρ S.next = none) (vs : List Value) (hl : p + vs.length ≤ e)
    {cur : Array Value} {t : TypeId} {fr : Nat × Nat} (hg : w.heap[b]? = some (.cells cur t fr)) :
    Rel pd base w₀ ((σ.addI b p vs).addK S.next (b, p + vs.length, e)) (St.new { S with h := S.h.del id } .tok) (w.setRow b (cur.toList.take p ++ vs ++ cur.toList.drop (p + vs.length)).toArray) ∧
    Stp σ S w ((σ.addI b p vs).addK S.next (b, p + vs.length, e)) (St.new { S with h := S.h.del id } .tok) (w.setRow b (cur.toList.take p ++ vs ++ cur.toList.drop (p + vs.length)).toArray) ∧
    fr.2 ≤ p ∧ e ≤ cur.size := by
  obtain ⟨b', p', e', c, t', lo, hi, h1, h2, h3, h4, h5, h6, h7, h8⟩ := h.ob id _ hid
  rw [hρ] at h1
  cases h1
  rw [hg] at h3
  cases h3
  have hne : id ≠ S.next := fun e => by rw [e, hf] at hρ; cases hρ
  have l1 : σ.le (σ.addI b p vs) := Sg.le_addI fun o ho _ => h8 o ho
  have hs : σ.le ((σ.addI b p vs).addK S.next (b, p + vs.length, e)) := l1.trans (Sg.le_addK hf)
  have hother : ∀ id' o x, id' ≠ id → S.h.find id' = some o → σ.ρ id' = some x → x.1 ≠ b := fun id' o x hne ho hx hxb =>
    hne (h.inj id' id o _ x _ ho hid hx hρ hxb)
  have hsize : (cur.toList.take p ++ vs ++ cur.toList.drop (p + vs.length)).length = cur.size := by
    simp; omega
  have hfind : ∀ k ok, (St.new { S with h := S.h.del id } .tok).h.find k = some ok → (k = S.next ∧ ok = .tok) ∨ (k ≠ id ∧ k ≠ S.next ∧ S.h.find k = some ok) := fun k ok hk => by
    simp only [St.new, Tr.find_put, Tr.find_del] at hk
    split at hk
    · rename_i hk1; cases hk; exact .inl ⟨hk1, rfl⟩
    · rename_i hk1
      split at hk
      · cases hk
      · rename_i hk2; exact .inr ⟨hk2, hk1, hk⟩
  have hkey : ∀ k, k ≠ S.next → ((σ.addI b p vs).addK S.next (b, p + vs.length, e)).ρ k = σ.ρ k := fun k hk => by
    simp [Sg.addK, Sg.addI, hk]
  have hkey' : ((σ.addI b p vs).addK S.next (b, p + vs.length, e)).ρ S.next = some (b, p + vs.length, e) := by simp [Sg.addK]
  refine (fun W => ⟨W.1, W.2, h4, h6⟩) (h.write hg h2 ⟨id, _, _, hid, hρ, rfl⟩ (cur.toList.take p ++ vs ++ cur.toList.drop (p + vs.length)).toArray ((σ.addI b p vs).addK S.next (b, p + vs.length, e)) (St.new { S with h := S.h.del id } .tok) hs
    (by simp [St.new]) (fun b' o hb => by simp [Sg.addK, Sg.addI, hb]) (fun o v hv _ => by
      simp only [Sg.addK, Sg.addI, true_and] at hv
      rw [List.getElem?_toArray]
      split at hv
      · rename_i hc
        rw [List.append_assoc, List.getElem?_append_right (by simp; omega), List.getElem?_append_left (by simp; omega)]
        rw [show o - (cur.toList.take p).length = o - p by simp; omega]
        exact hv
      · rename_i hc
        have hop : o < p := by
          rcases Nat.lt_or_ge o p with h' | h'
          · exact h'
          · rw [h8 o h'] at hv; cases hv
        have := h.imm b o v hv (hpd b o)
        simp only [World.cell?, hg] at this
        simp at this
        rw [List.append_assoc, List.getElem?_append_left (by simp; omega), List.getElem?_take_of_lt hop]
        simpa using this) rfl ?_ ?_ ?_)
  · intro k ok hk
    rcases hfind k ok hk with ⟨rfl, rfl⟩ | ⟨h9, h10, h11⟩
    · refine .inr ⟨⟨id, _, _, hid, hρ, rfl⟩, ⟨b, p + vs.length, e, _, t, lo, hi, hkey', h2, setRow_heap w b _ _ t _ hg, by omega, hl, by rw [List.size_toArray, hsize]; exact h6, h7, fun o ho => ?_⟩, ⟨_, hkey', rfl⟩, .inr ⟨Nat.le_refl _, by simp [St.new]⟩⟩
      simp only [Sg.addK, Sg.addI, true_and]
      rw [if_neg (by omega)]
      exact h8 o (by omega)
    · exact .inl ⟨h11, fun x hx => hother k ok x h9 h11 hx⟩
  · intro i j x y ⟨oi, hi'⟩ ⟨oj, hj'⟩ hx hy hxb hyb
    have : ∀ k ok z, (St.new { S with h := S.h.del id } .tok).h.find k = some ok → ((σ.addI b p vs).addK S.next (b, p + vs.length, e)).ρ k = some z → z.1 = b → k = S.next := fun k ok z hk hz hzb => by
      rcases hfind k ok hk with ⟨h9, _⟩ | ⟨h9, h10, h11⟩
      · exact h9
      · rw [hkey k h10] at hz
        exact absurd hzb (hother k ok z h9 h11 hz)
    rw [this i oi x hi' hx hxb, this j oj y hj' hy hyb]
  · intro k x hk1 hk2
    by_cases hk : k = S.next
    · subst hk; rw [hkey'] at hk2; cases hk2; exact ⟨Nat.le_refl _, by simp [St.new], rfl⟩
    · rw [hkey k hk, hk1] at hk2; cases hk2

/-- A world that differs by draws alone. -/
theorem Rel.drew (h : Rel pd base w₀ σ S w) {w' : World} (e1 : w'.heap = w.heap) (e2 : w'.os = w.os) (e3 : w'.tape = w.tape) (e4 : w'.output = w.output) : Rel pd base w₀ σ S w' := by
  have hc : ∀ a, w'.cell? a = w.cell? a := fun a => by simp [World.cell?, e1]
  refine ⟨h.below.trans ⟨e2, e3, e4, by rw [e1]; exact Nat.le_refl _, fun k _ => by rw [e1]⟩, by rw [e1]; exact h.hb, fun b o v hv hp => by rw [hc]; exact h.imm b o v hv hp, fun b o v hv => by rw [e1]; exact h.cur b o v hv,
    fun b t ht => by rw [e1]; exact h.ty b t ht, fun id o ho => ?_, h.inj⟩
  exact (h.ob id o ho).keep (.refl σ) fun x _ => ⟨by rw [e1], fun _ h => h⟩

theorem freeze_other (w : World) (a : Addr) (n k : Nat) (h : k ≠ a.block) : (w.freeze a n).heap[k]? = w.heap[k]? := by
  unfold World.freeze
  split
  · rfl
  · simp only [Array.getElem?_modify]
    rw [if_neg (fun e => h e.symm)]

theorem freeze_same (w : World) (b o n : Nat) {c : Array Value} {t : TypeId} {lo hi : Nat} (hg : w.heap[b]? = some (.cells c t (lo, hi))) (hn : n ≠ 0) :
    (w.freeze ⟨b, o, none⟩ n).heap[b]? = some (.cells c t (if lo == hi then (o, o + n) else (min lo o, max hi (o + n)))) := by
  unfold World.freeze
  rw [if_neg hn]
  simp [Array.getElem?_modify, hg]

/-- Cells that never turn are frozen. -/
theorem Rel.freezeRow (h : Rel pd base w₀ σ S w) {b o n : Nat} (hb : base ≤ b) (hn : n ≠ 0) {c : Array Value} {t : TypeId} {lo hi : Nat} (hg : w.heap[b]? = some (.cells c t (lo, hi)))
    (hI : ∃ v, σ.I b (o + n - 1) = some v) : Rel pd base w₀ σ S (w.freeze ⟨b, o, none⟩ n) ∧ Stp σ S w σ S (w.freeze ⟨b, o, none⟩ n) := by
  obtain ⟨v, hv⟩ := hI
  have hsize : (w.freeze ⟨b, o, none⟩ n).heap.size = w.heap.size := by unfold World.freeze; rw [if_neg hn]; simp
  have hsame := freeze_same w b o n hg hn
  have hoth : ∀ k, k ≠ b → (w.freeze ⟨b, o, none⟩ n).heap[k]? = w.heap[k]? := fun k hk => freeze_other w _ n k hk
  have hcell : ∀ a, (w.freeze ⟨b, o, none⟩ n).cell? a = w.cell? a := fun a => by
    by_cases ha : a.block = b
    · simp [World.cell?, ha, hsame, hg]
    · simp [World.cell?, hoth _ ha]
  have hbelow : Below base w (w.freeze ⟨b, o, none⟩ n) := by
    unfold World.freeze
    rw [if_neg hn]
    exact ⟨rfl, rfl, rfl, by simp, fun k hk => by simp only [Array.getElem?_modify]; rw [if_neg (by omega)]⟩
  refine ⟨⟨h.below.trans hbelow, by rw [hsize]; exact h.hb, fun b' o' v' h1 h2 => by rw [hcell]; exact h.imm _ _ _ h1 h2, fun b' o' v' h1 => by rw [hsize]; exact h.cur _ _ _ h1, fun b' t' h1 => ?_, fun id ob ho => ?_, h.inj⟩, ?_⟩
  · obtain ⟨c', fr', hc, hbb⟩ := h.ty b' t' h1
    by_cases hbe : b' = b
    · subst hbe
      rw [hg] at hc; cases hc
      exact ⟨_, _, hsame, hbb⟩
    · exact ⟨c', fr', by rw [hoth _ hbe]; exact hc, hbb⟩
  · cases ob with
    | box t' cs =>
      obtain ⟨b', e, vs, h1, h2, h3, h4, h5⟩ := h.ob id _ ho
      have hbe : b' ≠ b := by rintro rfl; rw [h5] at hv; cases hv
      exact ⟨b', e, vs, h1, h2, by rw [hoth _ hbe]; exact h3, h4, h5⟩
    | tok =>
      obtain ⟨b', p, e, c', t', lo', hi', h1, h2, h3, h4, h5, h6, h7, h8⟩ := h.ob id _ ho
      by_cases hbe : b' = b
      · subst hbe
        rw [hg] at h3; cases h3
        have hp : o + n - 1 < p := by
          rcases Nat.lt_or_ge (o + n - 1) p with h' | h'
          · exact h'
          · rw [h8 _ h'] at hv; cases hv
        by_cases hlh : lo == hi
        · rw [if_pos hlh] at hsame
          exact ⟨b', p, e, _, _, _, _, h1, h2, hsame, by omega, h5, h6, h7, h8⟩
        · rw [if_neg hlh] at hsame
          exact ⟨b', p, e, _, _, _, _, h1, h2, hsame, by omega, h5, h6, h7, h8⟩
      · exact ⟨b', p, e, c', t', lo', hi', h1, h2, by rw [hoth _ hbe]; exact h3, h4, h5, h6, h7, h8⟩
  · refine ⟨.refl σ, Nat.le_refl _, by rw [hsize]; exact Nat.le_refl _, fun b' _ _ h1 => ?_, fun _ _ _ _ => rfl, (fun id x h1 h2 => by rw [h1] at h2; cases h2), fun id o ho => Or.inl ⟨o, ho⟩⟩
    exact hoth b' (by rintro rfl; rw [h1] at hv; cases hv)

/-- A mark behind the last cell of a row that nobody owns. -/
theorem Rel.markRow (h : Rel pd base w₀ σ S w) {b o n : Nat} (hb : base ≤ b) (hn : n ≠ 0) {c : Array Value} {t : TypeId} {fr : Nat × Nat} (hg : w.heap[b]? = some (.cells c t fr))
    (hown : ¬ Owns σ S b) : Rel pd base w₀ σ S (w.freeze ⟨b, o, none⟩ n) ∧ (∀ k, k ≠ b → (w.freeze ⟨b, o, none⟩ n).heap[k]? = w.heap[k]?) ∧ (w.freeze ⟨b, o, none⟩ n).heap.size = w.heap.size := by
  have hsize : (w.freeze ⟨b, o, none⟩ n).heap.size = w.heap.size := by unfold World.freeze; rw [if_neg hn]; simp
  obtain ⟨lo, hi⟩ := fr
  have hsame := freeze_same w b o n hg hn
  have hoth : ∀ k, k ≠ b → (w.freeze ⟨b, o, none⟩ n).heap[k]? = w.heap[k]? := fun k hk => freeze_other w _ n k hk
  have hcell : ∀ a, (w.freeze ⟨b, o, none⟩ n).cell? a = w.cell? a := fun a => by
    by_cases ha : a.block = b
    · simp [World.cell?, ha, hsame, hg]
    · simp [World.cell?, hoth _ ha]
  have hbelow : Below base w (w.freeze ⟨b, o, none⟩ n) := by
    unfold World.freeze
    rw [if_neg hn]
    exact ⟨rfl, rfl, rfl, by simp, fun k hk => by simp only [Array.getElem?_modify]; rw [if_neg (by omega)]⟩
  refine ⟨⟨h.below.trans hbelow, by rw [hsize]; exact h.hb, fun b' o' v' h1 h2 => by rw [hcell]; exact h.imm _ _ _ h1 h2, fun b' o' v' h1 => by rw [hsize]; exact h.cur _ _ _ h1, fun b' t' h1 => ?_, fun id ob ho => ?_, h.inj⟩, hoth, hsize⟩
  · obtain ⟨c', fr', hc, hbb⟩ := h.ty b' t' h1
    by_cases hbe : b' = b
    · subst hbe
      rw [hg] at hc; cases hc
      exact ⟨_, _, hsame, hbb⟩
    · exact ⟨c', fr', by rw [hoth _ hbe]; exact hc, hbb⟩
  · refine (h.ob id ob ho).keep (.refl σ) fun x hx => ⟨hoth _ (fun e => hown ⟨id, ob, x, ho, hx, e⟩), fun _ h => h⟩

end
end Go.Ev
