import Derived.Test.YtodiioeddlmjhaaGreatDoorE1
import Derived.MapKept
import Derived.RangeFuncRecord
import Derived.Laws.CopyRow
import Derived.Laws.Entries
import Derived.Laws.Append
import Derived.Laws.Build
import Derived.Laws.StructEq
set_option linter.unusedVariables false
set_option linter.unusedSimpArgs false
namespace Go.Ev
open Go.RowKit
theorem run_storeCells_fr (P : Program) (g o : Nat) (t : TypeId) (fr : Nat × Nat) : ∀ (vs : List Value) (i : Nat) (cur : Array Value) (w : World), w.heap[g]? = some (.cells cur t fr) → fr.2 ≤ o + i ∨ fr.1 = fr.2 → o + i + vs.length ≤ cur.size →
 (∀ v ∈ vs, v.oneCell' = true) → (storeCells ⟨g, o, none⟩ vs i).run P w = .ok () (w.setRow g (cur.toList.take (o + i) ++ vs ++ cur.toList.drop (o + i + vs.length)).toArray)
 | [], i, cur, w, hg, _, _, _ => by
  simp only [storeCells, List.append_nil, List.length_nil, Nat.add_zero, List.take_append_drop, Array.toArray_toList]
  rw [setRow_self w g cur t fr hg]
  rfl
 | v :: rest, i, cur, w, hg, hfr, hl, h1 => by
  have hi : o + i < cur.size := by simp at hl; omega
  have hadd : (⟨g, o, none⟩ : Addr).add i = ⟨g, o + i, none⟩ := by unfold Addr.add; split <;> simp_all
  have hcell : w.cell? ⟨g, o + i, none⟩ = some cur[o + i] := by simp [World.cell?, hg, hi]
  have hfro : w.frozen? ⟨g, o + i, none⟩ = false := by
   obtain ⟨lo, hi'⟩ := fr
   simp only [World.frozen?, hg]
   simp only at hfr
   simp; omega
  have hst : (store ((⟨g, o, none⟩ : Addr).add i) v).run P w = .ok () (w.setRow g (cur.setIfInBounds (o + i) v)) := by
   rw [hadd, run_store P w _ v _ (h1 v (by simp)), hcell]
   simp [hfro, setCell_eq_setRow w g (o + i) cur t fr v hg]
  have ih := run_storeCells_fr P g o t fr rest (i + 1) (cur.setIfInBounds (o + i) v) (w.setRow g (cur.setIfInBounds (o + i) v)) (setRow_heap w g cur _ t _ hg) (by omega) (by simp at hl ⊢; omega) (fun x hx => h1 x (by simp [hx]))
  simp only [storeCells, Sem.run_bind, hst, Result.andThen_ok, ih, setRow_setRow]
  congr 3
  have e := list_seg_step cur.toList (o + i) v rest (by simp at hl ⊢; omega)
  simpa [Array.toList_setIfInBounds, Nat.add_assoc] using e
section
variable {pd : Nat → Nat → Prop} {base : Nat} {w₀ w : World} {σ : Sg} {S : St}
theorem Below.setRow' {base : Nat} {w₀ w : World} (h : Below base w₀ w) {b : Nat} (hb : base ≤ b) (cs : Array Value) : Below base w₀ (w.setRow b cs) :=
 h.trans ⟨rfl, rfl, rfl, by simp, fun k hk => setRow_other w b k cs (by omega)⟩
theorem Rel.write [Glob] (h : Rel pd base w₀ σ S w) {b : Nat} {cur : Array Value} {t : TypeId} {fr : Nat × Nat} (hg : w.heap[b]? = some (.cells cur t fr)) (hb : base ≤ b) (hown : Owns σ S b)
 (cs' : Array Value) (σ' : Sg) (S' : St) (hs : σ.le σ') (hnext : S.next ≤ S'.next)
 (hI : ∀ b' o, b' ≠ b → σ'.I b' o = σ.I b' o) (hIb : ∀ o v, σ'.I b o = some v → ¬ pd b o → cs'[o]? = some v) (hT : σ'.ty = σ.ty)
 (hOb : ∀ id o, S'.h.find id = some o → (S.h.find id = some o ∧ ∀ x, σ.ρ id = some x → x.1 ≠ b) ∨ (Owns σ S b ∧ ObR σ' base (w.setRow b cs') id o ∧ (∃ x, σ'.ρ id = some x ∧ x.1 = b) ∧ ((∃ o', S.h.find id = some o') ∨ (S.next ≤ id ∧ id < S'.next))))
 (hone : ∀ i j x y, (∃ o, S'.h.find i = some o) → (∃ o, S'.h.find j = some o) → σ'.ρ i = some x → σ'.ρ j = some y → x.1 = b → y.1 = b → i = j)
 (hK : ∀ id x, σ.ρ id = none → σ'.ρ id = some x → S.next ≤ id ∧ id < S'.next ∧ x.1 = b) :
 Rel pd base w₀ σ' S' (w.setRow b cs') ∧ Stp σ S w σ' S' (w.setRow b cs') := by
 have hblt := heap_lt hg
 have hnow : (w.setRow b cs').heap[b]? = some (.cells cs' t fr) := setRow_heap w b cur cs' t fr hg
 refine ⟨⟨Below.setRow' h.below hb _, by simpa using h.hb, ?_, ?_, ?_, ?_, ?_, h.gl.mono hs⟩, ?_⟩
 ·intro b' o v hv hp
  by_cases hbe : b' = b
  ·subst hbe
   rw [cell_setRow_same w b' o cur cs' t fr hg]
   exact hIb o v hv hp
  ·rw [hI b' o hbe] at hv
   rw [cell_setRow_other w b cs' _ hbe]
   exact h.imm b' o v hv hp
 ·intro b' o v hv
  by_cases hbe : b' = b
  ·subst hbe; simpa using hblt
  ·rw [hI b' o hbe] at hv; simpa using h.cur b' o v hv
 ·intro b' t' ht
  rw [hT] at ht
  obtain ⟨c, fr', hc, hbb⟩ := h.ty b' t' ht
  by_cases hbe : b' = b
  ·subst hbe
   rw [hg] at hc; cases hc
   exact ⟨cs', fr, hnow, hbb⟩
  ·exact ⟨c, fr', by rw [setRow_other w b b' cs' hbe]; exact hc, hbb⟩
 ·intro id o ho
  rcases hOb id o ho with ⟨h1, h2⟩ | ⟨_, h2, _⟩
  ·refine (h.ob id o h1).keep hs fun x hx => ?_
   exact ⟨setRow_other w b x.1 cs' (h2 x hx), fun o ho => by rw [hI _ _ (h2 x hx)]; exact ho⟩
  ·exact h2
 ·intro i j o o' x y hi hj hx hy hxy
  have key : ∀ k ok z, S'.h.find k = some ok → σ'.ρ k = some z → z.1 ≠ b → S.h.find k = some ok ∧ σ.ρ k = some z := fun k ok z h1 h2 h3 => by
   rcases hOb k ok h1 with ⟨h4, _⟩ | ⟨_, _, ⟨x', h5, h6⟩, _⟩
   ·obtain ⟨z', hz, _⟩ := (h.ob k ok h4).key
    have := hs.ρ _ _ hz
    rw [this] at h2; cases h2
    exact ⟨h4, hz⟩
   ·rw [h5] at h2; cases h2; exact absurd h6 h3
  by_cases hxb : x.1 = b
  ·exact hone i j x y ⟨o, hi⟩ ⟨o', hj⟩ hx hy hxb (by rw [← hxy]; exact hxb)
  ·obtain ⟨a1, a2⟩ := key i o x hi hx hxb
   obtain ⟨a3, a4⟩ := key j o' y hj hy (by rw [← hxy]; exact hxb)
   exact h.inj i j o o' x y a1 a3 a2 a4 hxy
 ·refine ⟨hs, hnext, by simp, ?_, ?_, ?_, ?_⟩
  ·intro b' _ hn _
   exact setRow_other w b b' cs' (fun e => hn (by rw [e]; exact hown))
  ·intro b' _ hn o
   exact hI b' o (fun e => hn (by rw [e]; exact hown))
  ·intro id x h1 h2
   obtain ⟨h3, h4, h5⟩ := hK id x h1 h2
   exact ⟨h3, h4, .inr (by rw [h5]; exact hown)⟩
  ·intro id o ho
   rcases hOb id o ho with ⟨h1, _⟩ | ⟨_, _, _, h3⟩
   ·exact .inl ⟨o, h1⟩
   ·exact h3
theorem Rel.setBox [Glob] (h : Rel pd base w₀ σ S w) {id : Nat} {t : TypeId} {cs cs' : List V} (hid : S.h.find id = some (.box t cs)) {b p e : Nat} (hρ : σ.ρ id = some (b, p, e)) {vs' : List Value} (hv : VRs σ cs' vs') :
 Rel pd base w₀ σ { S with h := S.h.put id (.box t cs') } (w.setRow b vs'.toArray) ∧ Stp σ S w σ { S with h := S.h.put id (.box t cs') } (w.setRow b vs'.toArray) := by
 obtain ⟨b', e', vs, h1, h2, h3, h4, h5⟩ := h.ob id _ hid
 rw [hρ] at h1
 cases h1
 have hother : ∀ id' o x, id' ≠ id → S.h.find id' = some o → σ.ρ id' = some x → x.1 ≠ b := fun id' o x hne ho hx hxb =>
  hne (h.inj id' id o _ x _ ho hid hx hρ hxb)
 refine h.write h3 h2 ⟨id, _, _, hid, hρ, rfl⟩ _ σ _ (.refl σ) (Nat.le_refl _) (fun _ _ _ => rfl) (fun o v hv _ => by rw [h5 o] at hv; cases hv) rfl ?_ ?_ (fun id x h1 h2 => by rw [h1] at h2; cases h2)
 ·intro id' o ho
  rw [Tr.find_put] at ho
  split at ho
  ·rename_i hid'
   subst hid'
   cases ho
   refine .inr ⟨⟨id', _, _, hid, hρ, rfl⟩, ⟨b, _, vs', hρ, h2, setRow_heap w b _ _ t _ h3, hv, h5⟩, ⟨_, hρ, rfl⟩, .inl ⟨_, hid⟩⟩
  ·rename_i hid'
   exact .inl ⟨ho, fun x hx => hother id' o x hid' ho hx⟩
 ·intro i j x y ⟨oi, hi⟩ ⟨oj, hj⟩ hx hy hxb hyb
  rw [Tr.find_put] at hi hj
  have : ∀ k ok z, (if k = id then some (Ob.box t cs') else S.h.find k) = some ok → σ.ρ k = some z → z.1 = b → k = id := fun k ok z hk hz hzb => by
   by_cases hke : k = id
   ·exact hke
   ·rw [if_neg hke] at hk
    exact absurd hzb (hother k ok z hke hk hz)
  rw [this i oi x hi hx hxb, this j oj y hj hy hyb]
theorem Rel.putTok [Glob] (h : Rel pd base w₀ σ S w) (hpd : ∀ b o, ¬ pd b o) {id : Nat} (hid : S.h.find id = some .tok) {b p e : Nat} (hρ : σ.ρ id = some (b, p, e)) (hf : σ.ρ S.next = none) (vs : List Value) (hl : p + vs.length ≤ e)
 {cur : Array Value} {t : TypeId} {fr : Nat × Nat} (hg : w.heap[b]? = some (.cells cur t fr)) :
 Rel pd base w₀ ((σ.addI b p vs).addK S.next (b, p + vs.length, e)) (St.new { S with h := S.h.del id } .tok) (w.setRow b (cur.toList.take p ++ vs ++ cur.toList.drop (p + vs.length)).toArray) ∧
 Stp σ S w ((σ.addI b p vs).addK S.next (b, p + vs.length, e)) (St.new { S with h := S.h.del id } .tok) (w.setRow b (cur.toList.take p ++ vs ++ cur.toList.drop (p + vs.length)).toArray) ∧
 fr.2 ≤ p ∧ e ≤ cur.size := by
 obtain ⟨b', p', e', c, t', lo, hi, h1, h2, h3, h4, h5, h6, h7, h8⟩ := h.ob id _ hid
 rw [hρ] at h1
 cases h1
 rw [hg] at h3
 cases h3
 have hne : id ≠ S.next := fun e => by rw [e, hf] at hρ; cases hρ
 have l1 : σ.le (σ.addI b p vs) := Sg.le_addI fun o ho _ => h8 o ho
 have hs : σ.le ((σ.addI b p vs).addK S.next (b, p + vs.length, e)) := l1.trans (Sg.le_addK hf)
 have hother : ∀ id' o x, id' ≠ id → S.h.find id' = some o → σ.ρ id' = some x → x.1 ≠ b := fun id' o x hne ho hx hxb =>
  hne (h.inj id' id o _ x _ ho hid hx hρ hxb)
 have hsize : (cur.toList.take p ++ vs ++ cur.toList.drop (p + vs.length)).length = cur.size := by
  simp; omega
 have hfind : ∀ k ok, (St.new { S with h := S.h.del id } .tok).h.find k = some ok → (k = S.next ∧ ok = .tok) ∨ (k ≠ id ∧ k ≠ S.next ∧ S.h.find k = some ok) := fun k ok hk => by
  simp only [St.new, Tr.find_put, Tr.find_del] at hk
  split at hk
  ·rename_i hk1; cases hk; exact .inl ⟨hk1, rfl⟩
  ·rename_i hk1
   split at hk
   ·cases hk
   ·rename_i hk2; exact .inr ⟨hk2, hk1, hk⟩
 have hkey : ∀ k, k ≠ S.next → ((σ.addI b p vs).addK S.next (b, p + vs.length, e)).ρ k = σ.ρ k := fun k hk => by
  simp [Sg.addK, Sg.addI, hk]
 have hkey' : ((σ.addI b p vs).addK S.next (b, p + vs.length, e)).ρ S.next = some (b, p + vs.length, e) := by simp [Sg.addK]
 refine (fun W => ⟨W.1, W.2, h4, h6⟩) (h.write hg h2 ⟨id, _, _, hid, hρ, rfl⟩ (cur.toList.take p ++ vs ++ cur.toList.drop (p + vs.length)).toArray ((σ.addI b p vs).addK S.next (b, p + vs.length, e)) (St.new { S with h := S.h.del id } .tok) hs
  (by simp [St.new]) (fun b' o hb => by simp [Sg.addK, Sg.addI, hb]) (fun o v hv _ => by
   simp only [Sg.addK, Sg.addI, true_and] at hv
   rw [List.getElem?_toArray]
   split at hv
   ·rename_i hc
    rw [List.append_assoc, List.getElem?_append_right (by simp; omega), List.getElem?_append_left (by simp; omega)]
    rw [show o - (cur.toList.take p).length = o - p by simp; omega]
    exact hv
   ·rename_i hc
    have hop : o < p := by
     rcases Nat.lt_or_ge o p with h' | h'
     ·exact h'
     ·rw [h8 o h'] at hv; cases hv
    have := h.imm b o v hv (hpd b o)
    simp only [World.cell?, hg] at this
    simp at this
    rw [List.append_assoc, List.getElem?_append_left (by simp; omega), List.getElem?_take_of_lt hop]
    simpa using this) rfl ?_ ?_ ?_)
 ·intro k ok hk
  rcases hfind k ok hk with ⟨rfl, rfl⟩ | ⟨h9, h10, h11⟩
  ·refine .inr ⟨⟨id, _, _, hid, hρ, rfl⟩, ⟨b, p + vs.length, e, _, t, lo, hi, hkey', h2, setRow_heap w b _ _ t _ hg, by omega, hl, by rw [List.size_toArray, hsize]; exact h6, h7, fun o ho => ?_⟩, ⟨_, hkey', rfl⟩, .inr ⟨Nat.le_refl _, by simp [St.new]⟩⟩
   simp only [Sg.addK, Sg.addI, true_and]
   rw [if_neg (by omega)]
   exact h8 o (by omega)
  ·exact .inl ⟨h11, fun x hx => hother k ok x h9 h11 hx⟩
 ·intro i j x y ⟨oi, hi'⟩ ⟨oj, hj'⟩ hx hy hxb hyb
  have : ∀ k ok z, (St.new { S with h := S.h.del id } .tok).h.find k = some ok → ((σ.addI b p vs).addK S.next (b, p + vs.length, e)).ρ k = some z → z.1 = b → k = S.next := fun k ok z hk hz hzb => by
   rcases hfind k ok hk with ⟨h9, _⟩ | ⟨h9, h10, h11⟩
   ·exact h9
   ·rw [hkey k h10] at hz
    exact absurd hzb (hother k ok z h9 h11 hz)
  rw [this i oi x hi' hx hxb, this j oj y hj' hy hyb]
 ·intro k x hk1 hk2
  by_cases hk : k = S.next
  ·subst hk; rw [hkey'] at hk2; cases hk2; exact ⟨Nat.le_refl _, by simp [St.new], rfl⟩
  ·rw [hkey k hk, hk1] at hk2; cases hk2
theorem Rel.putOth [Glob] (h : Rel pd base w₀ σ S w) {id : Nat} {x : Oth} (hid : S.h.find id = some (.oth x)) {b p e : Nat} (hρ : σ.ρ id = some (b, p, e)) (ob' : Obj) (S' : St) (hn : S'.next = S.next)
 (hS : ∀ i o, S'.h.find i = some o → (i ≠ id ∧ S.h.find i = some o) ∨ (i = id ∧ ∃ x', o = .oth x' ∧ OthR σ x' ob')) :
 Rel pd base w₀ σ S' (w.putObj b ob') ∧ Stp σ S w σ S' (w.putObj b ob') := by
 obtain ⟨b', e', ob, h1, h2, h3, h4, h5⟩ := h.ob id _ hid
 rw [hρ] at h1
 cases h1
 have hlt := heap_lt h3
 have hoth : ∀ k, k ≠ b → (w.putObj b ob').heap[k]? = w.heap[k]? := fun k hk => World.putObj_heap_other hk
 have hcell : ∀ k o, k ≠ b → (w.putObj b ob').cell? ⟨k, o, none⟩ = w.cell? ⟨k, o, none⟩ := fun k o hk => by simp [World.cell?, hoth k hk]
 have hother : ∀ id' o x, id' ≠ id → S.h.find id' = some o → σ.ρ id' = some x → x.1 ≠ b := fun id' o x hne ho hx hxb =>
  hne (h.inj id' id o _ x _ ho hid hx hρ hxb)
 have hsub : ∀ i o, S'.h.find i = some o → ∃ o', S.h.find i = some o' := fun i o ho => by
  rcases hS i o ho with ⟨_, h6⟩ | ⟨rfl, _⟩
  ·exact ⟨o, h6⟩
  ·exact ⟨_, hid⟩
 refine ⟨⟨h.below.trans ⟨rfl, rfl, rfl, by simp, fun k hk => hoth k (by omega)⟩, by simpa using h.hb, fun b' o' v' h6 h7 => ?_, fun b' o' v' h6 => by simpa using h.cur _ _ _ h6, fun b' t' h6 => ?_, fun i o ho => ?_,
  fun i j o o' y z hi hj => ?_, h.gl⟩, ⟨.refl σ, by rw [hn]; exact Nat.le_refl _, by simp, fun b' _ h6 _ => hoth b' (fun hb => h6 ⟨id, _, _, hid, hρ, hb.symm⟩), fun _ _ _ _ => rfl, (fun id x h6 h7 => by rw [h6] at h7; cases h7), fun i o ho => .inl (hsub i o ho)⟩⟩
 ·by_cases hb : b' = b
  ·subst hb; rw [h5 o'] at h6; cases h6
  ·rw [hcell _ _ hb]; exact h.imm _ _ _ h6 h7
 ·obtain ⟨c, fr, h7, h8⟩ := h.ty b' t' h6
  by_cases hb : b' = b
  ·subst hb; rw [h3] at h7; cases h7; exact h4.not_cells.elim
  ·exact ⟨c, fr, by rw [hoth _ hb]; exact h7, h8⟩
 ·rcases hS i o ho with ⟨h6, h7⟩ | ⟨rfl, x', rfl, h7⟩
  ·exact (h.ob i o h7).keep (.refl σ) fun y hy => ⟨hoth _ (hother i o y h6 h7 hy), fun _ h => h⟩
  ·exact ⟨b, e, ob', hρ, h2, World.putObj_heap_same hlt, h7, h5⟩
 ·obtain ⟨oi, h6⟩ := hsub i o hi
  obtain ⟨oj, h7⟩ := hsub j o' hj
  exact h.inj i j oi oj y z h6 h7
theorem Rel.setOth [Glob] (h : Rel pd base w₀ σ S w) {id : Nat} {x x' : Oth} (hid : S.h.find id = some (.oth x)) {b p e : Nat} (hρ : σ.ρ id = some (b, p, e)) {ob' : Obj} (hv : OthR σ x' ob') :
 Rel pd base w₀ σ { S with h := S.h.put id (.oth x') } (w.putObj b ob') ∧ Stp σ S w σ { S with h := S.h.put id (.oth x') } (w.putObj b ob') := by
 refine h.putOth hid hρ ob' _ rfl fun i o ho => ?_
 rw [Tr.find_put] at ho
 split at ho
 ·cases ho; exact .inr ⟨by assumption, x', rfl, hv⟩
 ·exact .inl ⟨by assumption, ho⟩
theorem Rel.delOth [Glob] (h : Rel pd base w₀ σ S w) {id : Nat} {x : Oth} (hid : S.h.find id = some (.oth x)) {b p e : Nat} (hρ : σ.ρ id = some (b, p, e)) (ob' : Obj) :
 Rel pd base w₀ σ { S with h := S.h.del id } (w.putObj b ob') ∧ Stp σ S w σ { S with h := S.h.del id } (w.putObj b ob') := by
 refine h.putOth hid hρ ob' _ rfl fun i o ho => ?_
 rw [Tr.find_del] at ho
 split at ho
 ·cases ho
 ·exact .inl ⟨by assumption, ho⟩
theorem Rel.drew [Glob] (h : Rel pd base w₀ σ S w) {w' : World} (e1 : w'.heap = w.heap) (e2 : w'.os = w.os) (e3 : w'.tape = w.tape) (e4 : w'.output = w.output) : Rel pd base w₀ σ S w' := by
 have hc : ∀ a, w'.cell? a = w.cell? a := fun a => by simp [World.cell?, e1]
 refine ⟨h.below.trans ⟨e2, e3, e4, by rw [e1]; exact Nat.le_refl _, fun k _ => by rw [e1]⟩, by rw [e1]; exact h.hb, fun b o v hv hp => by rw [hc]; exact h.imm b o v hv hp, fun b o v hv => by rw [e1]; exact h.cur b o v hv,
  fun b t ht => by rw [e1]; exact h.ty b t ht, fun id o ho => ?_, h.inj, h.gl⟩
 exact (h.ob id o ho).keep (.refl σ) fun x _ => ⟨by rw [e1], fun _ h => h⟩
theorem freeze_other (w : World) (a : Addr) (n k : Nat) (h : k ≠ a.block) : (w.freeze a n).heap[k]? = w.heap[k]? := by
 unfold World.freeze
 split
 ·rfl
 ·simp only [Array.getElem?_modify]
  rw [if_neg (fun e => h e.symm)]
theorem freeze_same (w : World) (b o n : Nat) {c : Array Value} {t : TypeId} {lo hi : Nat} (hg : w.heap[b]? = some (.cells c t (lo, hi))) (hn : n ≠ 0) :
 (w.freeze ⟨b, o, none⟩ n).heap[b]? = some (.cells c t (if lo == hi then (o, o + n) else (min lo o, max hi (o + n)))) := by
 unfold World.freeze
 rw [if_neg hn]
 simp [Array.getElem?_modify, hg]
theorem Rel.freezeRow [Glob] (h : Rel pd base w₀ σ S w) {b o n : Nat} (hb : base ≤ b) (hn : n ≠ 0) {c : Array Value} {t : TypeId} {lo hi : Nat} (hg : w.heap[b]? = some (.cells c t (lo, hi)))
 (hI : ∃ v, σ.I b (o + n - 1) = some v) : Rel pd base w₀ σ S (w.freeze ⟨b, o, none⟩ n) ∧ Stp σ S w σ S (w.freeze ⟨b, o, none⟩ n) := by
 obtain ⟨v, hv⟩ := hI
 have hsize : (w.freeze ⟨b, o, none⟩ n).heap.size = w.heap.size := by unfold World.freeze; rw [if_neg hn]; simp
 have hsame := freeze_same w b o n hg hn
 have hoth : ∀ k, k ≠ b → (w.freeze ⟨b, o, none⟩ n).heap[k]? = w.heap[k]? := fun k hk => freeze_other w _ n k hk
 have hcell : ∀ a, (w.freeze ⟨b, o, none⟩ n).cell? a = w.cell? a := fun a => by
  by_cases ha : a.block = b
  ·simp [World.cell?, ha, hsame, hg]
  ·simp [World.cell?, hoth _ ha]
 have hbelow : Below base w (w.freeze ⟨b, o, none⟩ n) := by
  unfold World.freeze
  rw [if_neg hn]
  exact ⟨rfl, rfl, rfl, by simp, fun k hk => by simp only [Array.getElem?_modify]; rw [if_neg (by omega)]⟩
 refine ⟨⟨h.below.trans hbelow, by rw [hsize]; exact h.hb, fun b' o' v' h1 h2 => by rw [hcell]; exact h.imm _ _ _ h1 h2, fun b' o' v' h1 => by rw [hsize]; exact h.cur _ _ _ h1, fun b' t' h1 => ?_, fun id ob ho => ?_, h.inj, h.gl⟩, ?_⟩
 ·obtain ⟨c', fr', hc, hbb⟩ := h.ty b' t' h1
  by_cases hbe : b' = b
  ·subst hbe
   rw [hg] at hc; cases hc
   exact ⟨_, _, hsame, hbb⟩
  ·exact ⟨c', fr', by rw [hoth _ hbe]; exact hc, hbb⟩
 ·cases ob with
  | box t' cs =>
   obtain ⟨b', e, vs, h1, h2, h3, h4, h5⟩ := h.ob id _ ho
   have hbe : b' ≠ b := by rintro rfl; rw [h5] at hv; cases hv
   exact ⟨b', e, vs, h1, h2, by rw [hoth _ hbe]; exact h3, h4, h5⟩
  | tok =>
   obtain ⟨b', p, e, c', t', lo', hi', h1, h2, h3, h4, h5, h6, h7, h8⟩ := h.ob id _ ho
   by_cases hbe : b' = b
   ·subst hbe
    rw [hg] at h3; cases h3
    have hp : o + n - 1 < p := by
     rcases Nat.lt_or_ge (o + n - 1) p with h' | h'
     ·exact h'
     ·rw [h8 _ h'] at hv; cases hv
    by_cases hlh : lo == hi
    ·rw [if_pos hlh] at hsame
     exact ⟨b', p, e, _, _, _, _, h1, h2, hsame, by omega, h5, h6, h7, h8⟩
    ·rw [if_neg hlh] at hsame
     exact ⟨b', p, e, _, _, _, _, h1, h2, hsame, by omega, h5, h6, h7, h8⟩
   ·exact ⟨b', p, e, c', t', lo', hi', h1, h2, by rw [hoth _ hbe]; exact h3, h4, h5, h6, h7, h8⟩
  | oth x =>
   obtain ⟨b', e, ob', h1, h2, h3, h4, h5⟩ := h.ob id _ ho
   have hbe : b' ≠ b := by rintro rfl; rw [h5] at hv; cases hv
   exact ⟨b', e, ob', h1, h2, by rw [hoth _ hbe]; exact h3, h4, h5⟩
 ·refine ⟨.refl σ, Nat.le_refl _, by rw [hsize]; exact Nat.le_refl _, fun b' _ _ h1 => ?_, fun _ _ _ _ => rfl, (fun id x h1 h2 => by rw [h1] at h2; cases h2), fun id o ho => Or.inl ⟨o, ho⟩⟩
  exact hoth b' (by rintro rfl; rw [h1] at hv; cases hv)
theorem Rel.markRow [Glob] (h : Rel pd base w₀ σ S w) {b o n : Nat} (hb : base ≤ b) (hn : n ≠ 0) {c : Array Value} {t : TypeId} {fr : Nat × Nat} (hg : w.heap[b]? = some (.cells c t fr))
 (hown : ¬ Owns σ S b) : Rel pd base w₀ σ S (w.freeze ⟨b, o, none⟩ n) ∧ (∀ k, k ≠ b → (w.freeze ⟨b, o, none⟩ n).heap[k]? = w.heap[k]?) ∧ (w.freeze ⟨b, o, none⟩ n).heap.size = w.heap.size := by
 have hsize : (w.freeze ⟨b, o, none⟩ n).heap.size = w.heap.size := by unfold World.freeze; rw [if_neg hn]; simp
 obtain ⟨lo, hi⟩ := fr
 have hsame := freeze_same w b o n hg hn
 have hoth : ∀ k, k ≠ b → (w.freeze ⟨b, o, none⟩ n).heap[k]? = w.heap[k]? := fun k hk => freeze_other w _ n k hk
 have hcell : ∀ a, (w.freeze ⟨b, o, none⟩ n).cell? a = w.cell? a := fun a => by
  by_cases ha : a.block = b
  ·simp [World.cell?, ha, hsame, hg]
  ·simp [World.cell?, hoth _ ha]
 have hbelow : Below base w (w.freeze ⟨b, o, none⟩ n) := by
  unfold World.freeze
  rw [if_neg hn]
  exact ⟨rfl, rfl, rfl, by simp, fun k hk => by simp only [Array.getElem?_modify]; rw [if_neg (by omega)]⟩
 refine ⟨⟨h.below.trans hbelow, by rw [hsize]; exact h.hb, fun b' o' v' h1 h2 => by rw [hcell]; exact h.imm _ _ _ h1 h2, fun b' o' v' h1 => by rw [hsize]; exact h.cur _ _ _ h1, fun b' t' h1 => ?_, fun id ob ho => ?_, h.inj, h.gl⟩, hoth, hsize⟩
 ·obtain ⟨c', fr', hc, hbb⟩ := h.ty b' t' h1
  by_cases hbe : b' = b
  ·subst hbe
   rw [hg] at hc; cases hc
   exact ⟨_, _, hsame, hbb⟩
  ·exact ⟨c', fr', by rw [hoth _ hbe]; exact hc, hbb⟩
 ·refine (h.ob id ob ho).keep (.refl σ) fun x hx => ⟨hoth _ (fun e => hown ⟨id, ob, x, ho, hx, e⟩), fun _ h => h⟩
end
end Go.Ev
namespace Go.Ev
open Go.RowKit
section
variable {P : Program} {base : Nat} {w₀ w : World} {σ : Sg} {S S' : St}
theorem ofVal_sound (σ : Sg) : ∀ (d : Nat) (c : Value) (v : V), ofVal d c = some v → VR σ v c := by
 intro d
 induction d with
 | zero => intro c v h; simp [ofVal] at h
 | succ d ih =>
  intro c v h
  cases c with
  | bool b => simp [ofVal] at h; subst h; exact .bool b
  | int k n => simp [ofVal] at h; subst h; exact .int k n
  | string s => simp [ofVal] at h; subst h; exact .str s rfl
  | pointer a => cases a with
   | none => simp [ofVal] at h; subst h; exact .nilp
   | some a => simp [ofVal] at h
  | slice a n c => cases a with
   | none =>
    simp only [ofVal] at h
    split at h
    ·rename_i hc
     simp at hc h
     obtain ⟨rfl, rfl⟩ := hc
     subst h; exact .nils
    ·cases h
   | some a => simp [ofVal] at h
  | nilFunc => simp [ofVal] at h; subst h; exact .nilf
  | nilIface => simp [ofVal] at h; subst h; exact .nili
  | map r => cases r with
   | none => simp [ofVal] at h; subst h; exact .nilm
   | some r => simp [ofVal] at h
  | agg cs =>
   simp only [ofVal, Option.map_eq_some_iff] at h
   obtain ⟨xs, h1, rfl⟩ := h
   have := VRs.map_of (σ := σ) (g := fun x => x) h1 (fun a _ x hx => ih a x hx)
   simp at this
   have e : VR σ (.agg xs) (.agg cs.toList.toArray) := .agg this
   simpa using e
  | tuple vs =>
   simp only [ofVal, Option.map_eq_some_iff] at h
   obtain ⟨xs, h1, rfl⟩ := h
   have := VRs.map_of (σ := σ) (g := fun x => x) h1 (fun a _ x hx => ih a x hx)
   simp at this
   have e : VR σ (.tup xs) (.tuple vs.toList.toArray) := .tup this
   simpa using e
  | _ => simp [ofVal] at h
theorem zeroV_sound (σ : Sg) {t : TypeId} {z : V} (h : zeroV P t = some z) : ∃ i zv, P.info? t = some i ∧ i.zero = some zv ∧ VR σ z zv := by
 unfold zeroV at h
 split at h
 ·cases h
 ·rename_i i hi
  split at h
  ·cases h
  ·rename_i zv hz
   exact ⟨i, zv, hi, hz, ofVal_sound σ _ _ _ h⟩
theorem szOf_run {t : TypeId} {n : Nat} (h : szOf P t = some n) (w : World) : (sizeOf t).run P w = .ok n w := by
 unfold szOf at h
 cases hi : P.info? t with
 | none => simp [hi] at h
 | some i => simp [hi] at h; simp [sizeOf, typeInfo, hi, h]
theorem aggT_run {t : TypeId} {b : Bool} (h : aggT P t = some b) (w : World) : (isAgg t).run P w = .ok b w := by
 unfold aggT at h
 split at h <;> simp at h <;> subst h
 ·rename_i hu; simp [isAgg, run_underlying hu]
 ·rename_i hu; simp [isAgg, run_underlying hu]
 ·rename_i d h1 h2 hu
  unfold isAgg
  rw [Sem.run_bind, run_underlying hu]
  cases d <;> first | rfl | (exfalso; apply h1; rfl) | (exfalso; apply h2; rfl)
theorem zero_run {t : TypeId} {i : TypeInfo} {zv : Value} (hi : P.info? t = some i) (hz : i.zero = some zv) (w : World) : (zeroValue t).run P w = .ok zv w := by
 simp [zeroValue, typeInfo, hi, hz]
theorem cut_some {cs l : List V} {off n : Nat} (h : cut cs off n = some l) : l = (cs.drop off).take n ∧ l.length = n := by
 unfold cut at h
 simp only at h
 split at h
 ·rename_i hl; cases h; exact ⟨rfl, by simpa using hl⟩
 ·cases h
theorem addr_add (b o n : Nat) : (⟨b, o, none⟩ : Addr).add n = ⟨b, o + n, none⟩ := Addr.add_lit b o n
theorem cell_at {b : Nat} {cs : List Value} {t : TypeId} {fr : Nat × Nat} (h : w.heap[b]? = some (.cells cs.toArray t fr)) (o : Nat) : w.cell? ⟨b, o, none⟩ = cs[o]? := by
 simp [World.cell?, h]
theorem rd_sound [Glob] (h : Rel none2 base w₀ σ S w) {p : V} {y : Value} {n : Nat} {cs : List V} (hr : rd S p n = some cs) (hp : VR σ p y) :
 ∃ b o vs, y = .pointer (some ⟨b, o, none⟩) ∧ VRs σ cs vs ∧ vs.length = n ∧ ∀ j v, vs[j]? = some v → w.cell? ((⟨b, o, none⟩ : Addr).add j) = some v := by
 cases p with
 | ptr id off =>
  cases hp with
  | ptr hρ =>
   simp only [rd] at hr
   split at hr
   ·rename_i t cells hid
    obtain ⟨h1, h2⟩ := cut_some hr
    obtain ⟨b', e', vs, g1, g2, g3, g4, g5⟩ := h.ob id _ hid
    rw [hρ] at g1; cases g1
    refine ⟨_, off, (vs.drop off).take n, rfl, by rw [h1]; exact (g4.drop off).take n, ?_, fun j v hv => ?_⟩
    ·rw [← VRs.length ((g4.drop off).take n), ← h1]; exact h2
    ·rw [addr_add, cell_at g3]
     have hj : j < n := by
      rcases Nat.lt_or_ge j n with h' | h'
      ·exact h'
      ·rw [List.getElem?_eq_none (by simp; omega)] at hv; cases hv
     rw [List.getElem?_take_of_lt hj, List.getElem?_drop] at hv
     exact hv
   ·cases hr
 | cptr t cs' off =>
  cases hp with
  | cptr ht hc =>
   rename_i b o
   simp only [rd] at hr
   obtain ⟨h1, h2⟩ := cut_some hr
   have hc' := (hc.drop off).take n
   rw [← h1] at hc'
   obtain ⟨vs, g1, g2⟩ := hc'.vals
   refine ⟨b, o + off, vs, rfl, g1, by rw [← g1.length]; exact h2, fun j v hv => ?_⟩
   rw [addr_add]
   exact h.imm _ _ _ (g2 j v hv) id
 | _ => simp [rd] at hr
theorem loadE_sound [Glob] (h : Rel none2 base w₀ σ S w) {t : TypeId} {p v : V} {y : Value} (hl : loadE P t p S = some v) (hp : VR σ p y) :
 ∃ b o u, y = .pointer (some ⟨b, o, none⟩) ∧ (loadVar t ⟨b, o, none⟩).run P w = .ok u w ∧ VR σ v u := by
 unfold loadE at hl
 split at hl
 ·rename_i n ha hs
  simp only [Option.map_eq_some_iff] at hl
  obtain ⟨cs, h1, rfl⟩ := hl
  obtain ⟨b, o, vs, rfl, h2, h3, h4⟩ := rd_sound h h1 hp
  refine ⟨b, o, .agg vs.toArray, rfl, ?_, .agg h2⟩
  have := run_loadCells_list (P := P) w ⟨b, o, none⟩ vs h4
  rw [h3] at this
  simp [loadVar, aggT_run ha, szOf_run hs, this]
 ·rename_i ha
  split at hl
  ·rename_i v' h1
   cases hl
   obtain ⟨b, o, vs, rfl, h2, h3, h4⟩ := rd_sound h h1 hp
   cases h2 with
   | cons hv hnil =>
    cases hnil
    rename_i u
    have := h4 0 u rfl
    rw [addr_add] at this
    exact ⟨b, o, u, rfl, by simp [loadVar, aggT_run ha]; rw [show (⟨b, o, none⟩ : Addr) = ⟨b, o + 0, none⟩ from rfl, this], hv⟩
  ·cases hl
 ·cases hl
theorem splice_some {cs cs' vs : List V} {off : Nat} (h : splice cs off vs = some cs') : cs' = cs.take off ++ (vs ++ cs.drop (off + vs.length)) ∧ off + vs.length ≤ cs.length := by
 unfold splice at h
 split at h
 ·rename_i hl; cases h; exact ⟨rfl, by simpa using hl⟩
 ·cases h
theorem one_all {cs : List V} {vs : List Value} (h : VRs σ cs vs) (ho : cs.all V.one = true) : ∀ v ∈ vs, v.oneCell' = true := by
 induction cs generalizing vs with
 | nil => cases h; simp
 | cons c cs ih =>
  cases h with
  | cons h k =>
   simp at ho
   intro v hv
   simp at hv
   rcases hv with rfl | hv
   ·exact h.one ho.1
   ·exact ih k (by simpa using ho.2) v hv
theorem storeE_sound [Glob] (h : Rel none2 base w₀ σ S w) {t : TypeId} {p v : V} {y u : Value} (hl : storeE P t p v S = some S') (hp : VR σ p y) (hv : VR σ v u) :
 ∃ b o w', y = .pointer (some ⟨b, o, none⟩) ∧ (storeVar t ⟨b, o, none⟩ u).run P w = .ok () w' ∧ Rel none2 base w₀ σ S' w' ∧ Stp σ S w σ S' w' := by
 unfold storeE at hl
 split at hl
 ·rename_i id off
  split at hl
  ·rename_i e cs n hid hs
   split at hl
   ·rename_i hc
    split at hl
    ·rename_i cs' hsp
     cases hl
     simp only [Bool.and_eq_true] at hc
     obtain ⟨hn, hone⟩ := hc
     cases hp with
     | ptr hρ =>
      rename_i b p e'
      obtain ⟨b', e'', vs, g1, g2, g3, g4, g5⟩ := h.ob id _ hid
      rw [hρ] at g1; cases g1
      obtain ⟨hs1, hs2⟩ := splice_some hsp
      have hcells := hv.cells
      have hlen : u.cells.toList.length = v.cells.length := hcells.length.symm
      have hvl := g4.length
      have hsize : u.cells.size = n := by
       have : v.cells.length = n := by simpa using hn
       rw [← this, ← hlen]; simp
      have hst := run_storeCells_fr P b off e (0, 0) u.cells.toList 0 vs.toArray w g3 (.inr rfl) (by rw [hlen]; simp; omega) (one_all hcells hone)
      have hbox := h.setBox (cs' := cs') hid hρ (vs' := vs.take off ++ (u.cells.toList ++ vs.drop (off + u.cells.toList.length))) (by
       rw [hs1, hlen]
       exact (g4.take off).append (hcells.append (g4.drop _)))
      refine ⟨b, off, _, rfl, ?_, hbox.1, hbox.2⟩
      have hsz := szOf_run (P := P) hs w
      simp [storeVar, hsz, hsize]
      simpa [hsize] using hst
    ·cases hl
   ·cases hl
  ·cases hl
 ·cases hl
inductive PRs (σ : Sg) : List (Nat × V) → List (Nat × Value) → Prop
 | nil : PRs σ [] []
 | cons {i : Nat} {v : V} {u : Value} {l : List (Nat × V)} {r : List (Nat × Value)} (h : VR σ v u) (k : PRs σ l r) : PRs σ ((i, v) :: l) ((i, u) :: r)
theorem partE_sound {t : TypeId} {cs : List V} {vs : List Value} {off : Nat} {v : V} (h : partE P t cs off = some v) (hv : VRs σ cs vs) (w : World) : ∃ u, (part t vs.toArray off).run P w = .ok u w ∧ VR σ v u := by
 unfold partE at h
 split at h
 ·rename_i ha
  split at h
  ·rename_i n hs
   simp only [Option.map_eq_some_iff] at h
   obtain ⟨c, h1, rfl⟩ := h
   obtain ⟨h2, h3⟩ := cut_some h1
   refine ⟨.agg ((vs.drop off).take n).toArray, ?_, by rw [h2]; exact .agg ((hv.drop off).take n)⟩
   simp only [part, Sem.run_bind, aggT_run ha, Result.andThen_ok, if_true, szOf_run hs, Sem.run_pure]
   congr 2
   apply Array.ext'
   simp [List.take_drop]
  ·cases h
 ·rename_i ha
  obtain ⟨u, h1, h2⟩ := hv.get h
  exact ⟨u, by simp [part, aggT_run ha, h1], h2⟩
 ·cases h
theorem fill_one {cells : Array Value} {off : Nat} {c : List Value} (h : off + c.length ≤ cells.size) :
 (c.toArray.zipIdx.foldl (fun cs (p : Value × Nat) => cs.setIfInBounds (off + p.2) p.1) cells).toList = cells.toList.take off ++ (c ++ cells.toList.drop (off + c.length)) := by
 have key : ∀ (c : List Value) (k : Nat) (cells : Array Value), off + k + c.length ≤ cells.size →
  ((c.zipIdx k).foldl (fun (cs : Array Value) (p : Value × Nat) => cs.setIfInBounds (off + p.2) p.1) cells).toList = cells.toList.take (off + k) ++ (c ++ cells.toList.drop (off + k + c.length)) := by
  intro c
  induction c with
  | nil => intro k cells _; simp
  | cons v c ih =>
   intro k cells hk
   simp only [List.zipIdx_cons, List.foldl_cons]
   rw [ih (k + 1) _ (by simp at hk ⊢; omega)]
   have e := list_seg_step cells.toList (off + k) v c (by simp at hk ⊢; omega)
   rw [Array.toList_setIfInBounds]
   simpa [Nat.add_assoc, List.append_assoc] using e
 have := key c 0 cells (by simpa using h)
 simp only [Nat.add_zero] at this
 rw [← this]
 rw [← Array.foldl_toList]
 simp
theorem fillE_sound {place : Nat → Option (Nat × Nat)} : ∀ {parts : List (Nat × V)} {rparts : List (Nat × Value)} {cs cs' : List V} {cells : List Value}, fillE place cs parts = some cs' → VRs σ cs cells →
 PRs σ parts rparts → ∃ cells', Instr.fill place cells.toArray rparts = some (List.toArray cells') ∧ VRs σ cs' cells'
 | [], _, cs, cs', cells, h, hc, .nil => by simp [fillE] at h; subst h; exact ⟨cells, rfl, hc⟩
 | (i, v) :: parts, _, cs, cs', cells, h, hc, .cons (u := u) hv hr => by
  simp only [fillE] at h
  split at h
  ·cases h
  ·rename_i off size hp
   split at h
   ·rename_i hn
    split at h
    ·rename_i cs1 hsp
     obtain ⟨h1, h2⟩ := splice_some hsp
     have hcells := hv.cells
     have hlen : u.cells.toList.length = v.cells.length := hcells.length.symm
     have hcl := hc.length
     have hn' : v.cells.length = size := by simpa using hn
     have hus : u.cells.size = size := by rw [← hn', ← hlen]; simp
     have hc1 : VRs σ cs1 (cells.take off ++ (u.cells.toList ++ cells.drop (off + u.cells.toList.length))) := by
      rw [h1, hlen]; exact (hc.take off).append (hcells.append (hc.drop _))
     obtain ⟨cells', g1, g2⟩ := fillE_sound h hc1 hr
     refine ⟨cells', ?_, g2⟩
     have hf := fill_one (cells := cells.toArray) (off := off) (c := u.cells.toList) (by simp at *; omega)
     simp only [Instr.fill, hp]
     rw [if_neg (by simp [hus]; omega)]
     have e : u.cells.zipIdx.foldl (fun (cs : Array Value) (p : Value × Nat) => cs.setIfInBounds (off + p.2) p.1) cells.toArray = (cells.take off ++ (u.cells.toList ++ cells.drop (off + u.cells.toList.length))).toArray := by
      apply Array.ext'
      simpa using hf
     rw [← g1, ← e]
    ·cases h
   ·cases h
theorem places_run {fs : List Field} {places : List (Nat × Nat)} (h : mapO (fun (f : Field) => (szOf P f.type).map fun n => (f.offset, n)) fs = some places) (w : World) :
 (fs.toArray.mapM fun (f : Field) => (do pure (f.offset, ← sizeOf f.type) : Sem (Nat × Nat))).run P w = .ok places.toArray w := by
 have key : ∀ (fs : List Field) (places : List (Nat × Nat)), mapO (fun (f : Field) => (szOf P f.type).map fun n => (f.offset, n)) fs = some places →
  (fs.mapM fun (f : Field) => (do pure (f.offset, ← sizeOf f.type) : Sem (Nat × Nat))).run P w = .ok places w := by
  intro fs
  induction fs with
  | nil => intro pl h; simp [mapO] at h; subst h; simp
  | cons f fs ih =>
   intro pl h
   simp only [mapO] at h
   cases hs : szOf P f.type with
   | none => simp [hs] at h
   | some n =>
    simp only [hs, Option.map_some] at h
    cases hm : mapO (fun (f : Field) => (szOf P f.type).map fun n => (f.offset, n)) fs with
    | none => simp [hm] at h
    | some ps =>
     simp only [hm, Option.some.injEq] at h
     subst h
     rw [List.mapM_cons]
     simp only [Sem.run_bind, szOf_run hs, Result.andThen_ok, Sem.run_pure, ih ps hm]
 have := key fs places h
 simp only [List.mapM_toArray, Sem.run_map, this, Result.andThen_ok]
theorem buildE_sound (σ : Sg) {t : TypeId} {parts : List (Nat × V)} {rparts : List (Nat × Value)} {v : V} (h : buildE P t parts = some v) (hp : PRs σ parts rparts) (w : World) :
 ∃ u, (Instr.build t rparts.toArray).run P w = .ok u w ∧ VR σ v u := by
 unfold buildE at h
 split at h
 ·cases h
 ·rename_i z hz
  obtain ⟨i, zv, hi, hzv, hzr⟩ := zeroV_sound σ hz
  have hzc := hzr.cells
  split at h
  ·rename_i fs hu
   split at h
   ·cases h
   ·rename_i places hpl
    simp only [Option.map_eq_some_iff] at h
    obtain ⟨cs, h1, rfl⟩ := h
    obtain ⟨cells', g1, g2⟩ := fillE_sound h1 hzc hp
    refine ⟨.agg cells'.toArray, ?_, .agg g2⟩
    have hpr := places_run hpl w
    simp only [Array.toArray_toList] at hpr g1
    simp only [Instr.build, Sem.run_bind, zero_run hi hzv, Result.andThen_ok, run_underlying hu]
    simp only [hpr, Result.andThen_ok]
    have e : (fun (i : Nat) => places.toArray[i]?) = fun (i : Nat) => places[i]? := by funext i; simp
    simp only [e, g1]
    rfl
  ·rename_i n e hu
   split at h
   ·cases h
   ·rename_i n' hs
    simp only [Option.map_eq_some_iff] at h
    obtain ⟨cs, h1, rfl⟩ := h
    obtain ⟨cells', g1, g2⟩ := fillE_sound h1 hzc hp
    refine ⟨.agg cells'.toArray, ?_, .agg g2⟩
    simp only [Array.toArray_toList] at g1
    simp only [Instr.build, Sem.run_bind, zero_run hi hzv, Result.andThen_ok, run_underlying hu, szOf_run hs, g1]
    rfl
  ·cases h
def repv (z : List Value) : Nat → List Value
 | 0 => []
 | n + 1 => z ++ repv z n
theorem reps_sound {z : List V} {zv : List Value} (h : VRs σ z zv) : ∀ n, VRs σ (reps z n) (repv zv n)
 | 0 => .nil
 | n + 1 => h.append (reps_sound h n)
theorem repv_range (z : List Value) (k : Nat) : (List.range (k * z.length)).map (fun i => z[i % z.length]!) = repv z k := by
 induction k with
 | zero => simp [repv]
 | succ k ih =>
  rw [Nat.add_mul, Nat.one_mul, Nat.add_comm, List.range_add, List.map_append, List.map_map]
  simp only [repv]
  congr 1
  ·apply List.ext_getElem?
   intro i
   by_cases hi : i < z.length
   ·simp [hi, Nat.mod_eq_of_lt hi]
   ·simp [hi]
  ·rw [← ih]
   apply List.map_congr_left
   intro i _
   simp
theorem repv_length (z : List Value) (k : Nat) : (repv z k).length = k * z.length := by
 induction k with
 | zero => simp [repv]
 | succ k ih => simp [repv, ih, Nat.add_mul]; omega
theorem chunk_flat {agg : Bool} {n : Nat} : ∀ {k : Nat} {cs es : List V}, chunk agg n cs k = some es → es.length = k ∧ (∀ x ∈ es, x.cells.length = n) ∧ es.flatMap V.cells = cs.take (k * n) ∧ k * n ≤ cs.length
 | 0, cs, es, h => by simp [chunk] at h; subst h; simp
 | k + 1, cs, es, h => by
  simp only [chunk] at h
  split at h
  ·cases h
  ·rename_i c hc
   obtain ⟨h1, h2⟩ := cut_some hc
   simp at h1
   split at h
   ·cases h
   ·rename_i e he
    split at h
    ·cases h
    ·rename_i es' hes
     cases h
     obtain ⟨g1, g2, g3, g4⟩ := chunk_flat hes
     have hce : e.cells = c := by
      split at he
      ·cases he; rfl
      ·rename_i e'
       split at he
       ·rename_i ho
        cases he
        cases e <;> simp_all [V.cells, V.one]
       ·cases he
      ·cases he
     have hnc : n ≤ cs.length := by rw [h1] at h2; simp at h2; omega
     refine ⟨by simp [g1], ?_, ?_, ?_⟩
     ·intro x hx
      simp at hx
      rcases hx with rfl | hx
      ·rw [hce]; exact h2
      ·exact g2 x hx
     ·rw [List.flatMap_cons, hce, g3, h1, Nat.add_mul, Nat.one_mul, Nat.add_comm (k * n) n, List.take_add]
     ·simp at g4; rw [Nat.add_mul]; omega
theorem elemT_some {t e : TypeId} (h : elemT P t = some e) : P.underlying t = some (.slice e) := by
 unfold elemT at h
 split at h
 ·rename_i hu; cases h; exact hu
 ·cases h
theorem buildSliceE_sound [Glob] (h : Rel none2 base w₀ σ S w) {t : TypeId} {len : Nat} {parts : List (Nat × V)} {rparts : List (Nat × Value)} {v : V} (hb : buildSliceE P t len parts = some v) (hp : PRs σ parts rparts) :
 ∃ u w' σ', (Instr.buildSlice t len rparts.toArray).run P w = .ok u w' ∧ VR σ' v u ∧ Rel none2 base w₀ σ' S w' ∧ Stp σ S w σ' S w' := by
 unfold buildSliceE at hb
 split at hb
 ·cases hb
 ·rename_i e he
  split at hb
  ·rename_i n a z hs ha hz
   split at hb
   ·rename_i hc
    simp only [Bool.and_eq_true, Nat.ble_eq] at hc
    obtain ⟨⟨hn1, hlim⟩, hzl⟩ := hc
    have hzl : z.cells.length = n := by simpa using hzl
    split at hb
    ·cases hb
    ·rename_i cs hf
     simp only [Option.map_eq_some_iff] at hb
     obtain ⟨es, hch, rfl⟩ := hb
     obtain ⟨i, zv, hi, hzv, hzr⟩ := zeroV_sound σ hz
     have hzc := hzr.cells
     have hzlen : zv.cells.toList.length = n := by rw [← hzc.length]; exact hzl
     obtain ⟨cells', g1, g2⟩ := fillE_sound hf (reps_sound hzc len) hp
     obtain ⟨c1, c2, c3, c4⟩ := chunk_flat hch
     have hrow := h.newRow e cells' []
     simp only [List.append_nil] at hrow
     refine ⟨.slice (some ⟨w.heap.size, 0, none⟩) len len, _, _, ?_, ?_, hrow.1, hrow.2⟩
     ·have hu := elemT_some he
      have hzs : zv.cells.size = n := by rw [← hzlen]; simp
      simp only [Instr.buildSlice, Sem.run_bind, run_underlying hu, Result.andThen_ok, szOf_run hs]
      rw [if_neg (by omega)]
      by_cases h0 : len * n = 0
      ·have hl0 : len = 0 := by
        rcases Nat.mul_eq_zero.1 h0 with h' | h'
        ·exact h'
        ·omega
       subst hl0
       have g1' : Instr.fill (fun i => some (i * n, n)) #[] rparts = some cells'.toArray := by simpa [repv] using g1
       rw [if_pos h0]
       simp only [Sem.run_bind, Sem.run_pure, Result.andThen_ok, Nat.zero_mul]
       simp only [Array.range_zero', Array.map_empty, g1']
       rfl
      ·rw [if_neg h0]
       have hinit : ((Array.range (len * n)).map fun i => zv.cells[i % zv.cells.size]!) = (repv zv.cells.toList len).toArray := by
        apply Array.ext'
        rw [← repv_range, hzlen, hzs]
        simp only [Array.toList_map, Array.toList_range]
        refine List.map_congr_left fun i _ => ?_
        have hlt : i % n < n := Nat.mod_lt _ (by omega)
        have h1 : i % n < zv.cells.size := by omega
        have h2 : i % n < zv.cells.toList.length := by omega
        rw [getElem!_pos zv.cells (i % n) h1, getElem!_pos zv.cells.toList (i % n) h2, Array.getElem_toList]
       simp only [Sem.run_bind, Sem.run_pure, Result.andThen_ok, zero_run hi hzv, hinit, g1]
       rfl
     ·have hle := hrow.2.le
      have hcr : CR ((σ.addI w.heap.size 0 cells').addT w.heap.size e) cs w.heap.size 0 := CR.of_vals (g2.mono hle) fun i v hv => by
       have := Sg.addI_get σ w.heap.size 0 cells' i v hv
       simpa [Sg.addT] using this
      have hlr : LR ((σ.addI w.heap.size 0 cells').addT w.heap.size e) n es w.heap.size 0 := LR.of_flat c2 (by rw [c3]; exact hcr.take _)
      have := VR.list (t := some e) (tk := .exact) (cap := len) (fun t' ht' => by cases ht'; simp [Sg.addT]) hlr (by omega) (by simp [tkOk, c1])
      rw [c1] at this
      exact this
   ·cases hb
  ·cases hb
end
end Go.Ev
namespace Go.Ev
open Go.RowKit
section
variable {P : Program} {σ : Sg}
theorem str_eq {a b : List UInt8} {s t : ByteArray} (h : s.data.toList = a) (k : t.data.toList = b) : (s.toList == t.toList) = decide (a = b) := by
 rw [ByteArray.toList_eq, ByteArray.toList_eq, h, k]
 rw [Bool.eq_iff_iff]; simp
theorem eqFs_sound (d D : Nat) (w : World) (ih : ∀ (t : TypeId) (x y : V) (u v : Value) (b : Bool), eqE P d t x y = some b → VR σ x u → VR σ y v → (Op.equalIn D t u v).run P w = .ok b w) :
 ∀ (fs : List Field) (xs ys : List V) (us vs : List Value) (b : Bool), eqFs P (eqE P d) fs xs ys = some b → VRs σ xs us → VRs σ ys vs → (Op.eqFields D us.toArray vs.toArray fs).run P w = .ok b w
 | [], xs, ys, us, vs, b, h, _, _ => by simp [eqFs] at h; subst h; simp [Op.eqFields]
 | f :: fs, xs, ys, us, vs, b, h, hx, hy => by
  simp only [eqFs] at h
  split at h
  ·rename_i hn
   simp only [Op.eqFields]
   rw [if_neg (by simpa using hn)]
   exact eqFs_sound d D w ih fs xs ys us vs b h hx hy
  ·rename_i hn
   split at h
   ·rename_i x y h1 h2
    obtain ⟨u, g1, g2⟩ := partE_sound h1 hx w
    obtain ⟨v, g3, g4⟩ := partE_sound h2 hy w
    simp only [Op.eqFields]
    rw [if_pos (by simpa using hn)]
    split at h
    ·rename_i he
     have := ih f.type x y u v true he g2 g4
     simp only [Sem.run_bind, g1, Result.andThen_ok, g3, this, Bool.not_true, Bool.false_eq_true, if_false]
     exact eqFs_sound d D w ih fs xs ys us vs b h hx hy
    ·rename_i he
     cases h
     have := ih f.type x y u v false he g2 g4
     simp only [Sem.run_bind, g1, Result.andThen_ok, g3, this, Bool.not_false, if_true, Sem.run_pure]
    ·cases h
   ·cases h
def eqRow (P : Program) (D e s : Nat) (us vs : Array Value) : Nat → Nat → Sem Bool
 | _, 0 => pure true
 | i, n + 1 => do
  let a ← part e us (i * s)
  let b ← part e vs (i * s)
  let r ← Op.equalIn D e a b
  if (!r) = true then pure false else eqRow P D e s us vs (i + 1) n
theorem eqRow_run (w : World) (D : Nat) (t e n s : Nat) (us vs : Array Value) (ht : P.underlying t = some (.array n e)) (hs : szOf P e = some s) :
 (Op.equalIn (D + 1) t (.agg us) (.agg vs)).run P w = (eqRow P D e s us vs 0 n).run P w := by
 simp only [Op.equalIn, Sem.run_bind, run_underlying ht, Result.andThen_ok, szOf_run hs]
 rw [Std.Legacy.Range.forIn_eq_forIn_range']
 have hz : (Std.Legacy.Range.size { start := 0, stop := n, step := 1, step_pos := Nat.one_pos }) = n := by simp [Std.Legacy.Range.size]
 simp only [Std.Legacy.Range.size, Nat.sub_zero, Nat.add_sub_cancel, Nat.div_one]
 clear hz ht
 generalize 0 = i
 induction n generalizing i w with
 | zero => simp [eqRow]
 | succ n ih =>
  rw [List.range'_succ]
  simp only [List.forIn_cons, eqRow, Sem.run_bind]
  generalize (part e us (i * s)).run P w = r1
  cases r1 with
  | halt x w1 => simp [Result.andThen]
  | ok a w1 =>
   simp only [Result.andThen_ok]
   generalize (part e vs (i * s)).run P w1 = r2
   cases r2 with
   | halt x w2 => simp [Result.andThen]
   | ok b w2 =>
    simp only [Result.andThen_ok]
    generalize (Op.equalIn D e a b).run P w2 = r3
    cases r3 with
    | halt x w3 => simp [Result.andThen]
    | ok r w3 =>
     cases r
     ·simp
     ·simp only [Result.andThen_ok, Bool.not_true, Bool.false_eq_true, if_false, Sem.run_bind, Sem.run_pure]
      exact ih w3 (i + 1)
theorem eqEs_sound (d D : Nat) (w : World) (ih : ∀ (t : TypeId) (x y : V) (u v : Value) (b : Bool), eqE P d t x y = some b → VR σ x u → VR σ y v → (Op.equalIn D t u v).run P w = .ok b w) (e s : Nat) :
 ∀ (n i : Nat) (xs ys : List V) (us vs : List Value) (b : Bool), eqEs P (eqE P d) e s xs ys i n = some b → VRs σ xs us → VRs σ ys vs → (eqRow P D e s us.toArray vs.toArray i n).run P w = .ok b w
 | 0, i, xs, ys, us, vs, b, h, _, _ => by simp [eqEs] at h; subst h; simp [eqRow]
 | n + 1, i, xs, ys, us, vs, b, h, hx, hy => by
  simp only [eqEs] at h
  split at h
  ·rename_i x y h1 h2
   obtain ⟨u, g1, g2⟩ := partE_sound h1 hx w
   obtain ⟨v, g3, g4⟩ := partE_sound h2 hy w
   simp only [eqRow]
   split at h
   ·rename_i he
    have := ih e x y u v true he g2 g4
    simp only [Sem.run_bind, g1, Result.andThen_ok, g3, this, Bool.not_true, Bool.false_eq_true, if_false]
    exact eqEs_sound d D w ih e s n (i + 1) xs ys us vs b h hx hy
   ·rename_i he
    cases h
    have := ih e x y u v false he g2 g4
    simp only [Sem.run_bind, g1, Result.andThen_ok, g3, this, Bool.not_false, if_true, Sem.run_pure]
   ·cases h
  ·cases h
set_option maxHeartbeats 2000000 in
theorem eqE_sound (w : World) : ∀ (d D : Nat) (t : TypeId) (x y : V) (u v : Value) (b : Bool), d ≤ D → eqE P d t x y = some b → VR σ x u → VR σ y v → (Op.equalIn D t u v).run P w = .ok b w := by
 intro d
 induction d with
 | zero => intro D t x y u v b _ h; simp [eqE] at h
 | succ d ih =>
  intro D t x y u v b hD h hx hy
  obtain ⟨D, rfl⟩ : ∃ D', D = D' + 1 := ⟨D - 1, by omega⟩
  have ih' := fun t x y u v b h1 h2 h3 => ih D t x y u v b (by omega) h1 h2 h3
  simp only [eqE] at h
  split at h <;> try (cases h; done)
  all_goals rename_i hu
  ·cases hx; cases hy; cases h; simp [Op.equalIn, run_underlying hu]
  ·split at h
   ·rename_i hk
    cases h; cases hx; cases hy
    simp at hk
    simp [Op.equalIn, run_underlying hu, hk]
   ·cases h
  ·cases h
   cases hx with
   | str s hs => cases hy with
    | str s' hs' =>
     rw [run_equalIn_string w D t s s' hu, str_eq hs hs']
  ·cases h; cases hx; cases hy; simp [Op.equalIn, run_underlying hu]
  ·cases h; cases hx; cases hy; simp [Op.equalIn, run_underlying hu]
  ·cases h; cases hx; cases hy; simp [Op.equalIn, run_underlying hu]
  ·cases h; cases hx; cases hy; simp [Op.equalIn, run_underlying hu]
  ·cases h; cases hx; cases hy; simp [Op.equalIn, run_underlying hu]
  ·rename_i e i a j c
   split at h
   ·rename_i n hs
    split at h
    ·rename_i hij
     have hij : i = j := by simpa using hij
     subst hij
     cases h
     cases hx with
     | ptr h1 => cases hy with
      | ptr h2 =>
       rw [h1] at h2; cases h2
       simp [Op.equalIn, run_underlying hu, szOf_run hs, sameAddr]
       rw [Bool.eq_iff_iff]; simp
    ·cases h
   ·cases h
  ·cases h; cases hx; cases hy; simp [Op.equalIn, run_underlying hu]
  ·cases h; cases hx; cases hy; simp [Op.equalIn, run_underlying hu]
  ·cases h; cases hx; cases hy; simp [Op.equalIn, run_underlying hu]
  ·rename_i a u' c v'
   cases hx with
   | iface _ h1 => cases hy with
    | iface _ h2 =>
     split at h
     ·rename_i hac
      have hac : a = c := by simpa using hac
      subst hac
      split at h
      ·rename_i i hi
       split at h
       ·rename_i hcmp
        have := ih' a _ _ _ _ b h h1 h2
        simp [Op.equalIn, run_underlying hu, typeInfo, hi, hcmp, this]
       ·cases h
      ·cases h
     ·rename_i hac
      cases h
      have hac : a ≠ c := by simpa using hac
      simp [Op.equalIn, run_underlying hu, hac]
  ·rename_i fs xs ys
   split at h
   ·cases h
   ·rename_i hst
    have hst : P.stoodInHeld t = false := by simpa using hst
    cases hx with
    | agg h1 => cases hy with
     | agg h2 =>
      have hf : P.fieldsOf t = fs := by simp [Program.fieldsOf, hu]
      rw [run_equalIn_struct w D t _ _ (by rw [hf]; exact hu) hst, hf]
      exact eqFs_sound d D w ih' fs.toList xs ys _ _ b h h1 h2
  ·rename_i n e xs ys
   split at h
   ·rename_i s hs
    cases hx with
    | agg h1 => cases hy with
     | agg h2 =>
      rw [eqRow_run w D t e n s _ _ hu hs]
      exact eqEs_sound d D w ih' e s n 0 xs ys _ _ b h h1 h2
   ·cases h
  ·cases h; cases hx; cases hy; simp [Op.equalIn, run_underlying hu]
  ·cases h; cases hx; cases hy; simp [Op.equalIn, run_underlying hu]
  ·cases h; cases hx; cases hy; simp [Op.equalIn, run_underlying hu]
  ·cases h; cases hx; cases hy; simp [Op.equalIn, run_underlying hu]
  ·cases h; cases hx; cases hy; simp [Op.equalIn, run_underlying hu]
  ·cases h; cases hx; cases hy; simp [Op.equalIn, run_underlying hu]
  ·cases h; cases hx; cases hy; simp [Op.equalIn, run_underlying hu]
  ·cases h; cases hx; cases hy; simp [Op.equalIn, run_underlying hu]
  ·cases h; cases hx; cases hy; simp [Op.equalIn, run_underlying hu]
  ·cases h; cases hx; cases hy; simp [Op.equalIn, run_underlying hu]
  ·cases h; cases hx; cases hy; simp [Op.equalIn, run_underlying hu]
theorem intOp_sound {op : BinOp} {k : IntKind} {a b : Int} {v : V} (h : intOp op k a b = some v) (t : TypeId) (w : World) : ∃ u, (binOp op t (.int k a) (.int k b)).run P w = .ok u w ∧ VR σ v u := by
 cases op <;> simp only [intOp] at h
 case add => cases h; exact ⟨_, by simp [binOp, Op.intArith], .int _ _⟩
 case sub => cases h; exact ⟨_, by simp [binOp, Op.intArith], .int _ _⟩
 case mul => cases h; exact ⟨_, by simp [binOp, Op.intArith], .int _ _⟩
 case quo =>
  split at h
  ·cases h
  ·rename_i hb
   cases h
   have hb : b ≠ 0 := by simpa using hb
   exact ⟨_, by simp [binOp, Op.intDiv, hb], .int _ _⟩
 case rem =>
  split at h
  ·cases h
  ·rename_i hb
   cases h
   have hb : b ≠ 0 := by simpa using hb
   exact ⟨_, by simp [binOp, Op.intDiv, hb], .int _ _⟩
 case and => cases h; exact ⟨_, by simp only [binOp, ne_eq, not_true_eq_false, if_false, Op.intBits]; rfl, .int _ _⟩
 case or => cases h; exact ⟨_, by simp only [binOp, ne_eq, not_true_eq_false, if_false, Op.intBits]; rfl, .int _ _⟩
 case xor => cases h; exact ⟨_, by simp only [binOp, ne_eq, not_true_eq_false, if_false, Op.intBits]; rfl, .int _ _⟩
 case andNot => cases h; exact ⟨_, by simp only [binOp, ne_eq, not_true_eq_false, if_false, Op.intBits]; rfl, .int _ _⟩
 case eql => cases h; exact ⟨_, by simp [binOp, Op.intCmp], .bool _⟩
 case neq => cases h; exact ⟨_, by simp only [binOp, ne_eq, not_true_eq_false, if_false, Op.intCmp]; rfl, .bool _⟩
 case lss => cases h; exact ⟨_, by simp [binOp, Op.intCmp], .bool _⟩
 case leq => cases h; exact ⟨_, by simp [binOp, Op.intCmp], .bool _⟩
 case gtr => cases h; exact ⟨_, by simp [binOp, Op.intCmp], .bool _⟩
 case geq => cases h; exact ⟨_, by simp [binOp, Op.intCmp], .bool _⟩
 all_goals cases h
theorem shiftE_sound {op : BinOp} {k j : IntKind} {a b : Int} {v : V} (ho : op = .shl ∨ op = .shr) (h : shiftE op k a b = some v) (t : TypeId) (w : World) : ∃ u, (binOp op t (.int k a) (.int j b)).run P w = .ok u w ∧ VR σ v u := by
 unfold shiftE at h
 split at h
 ·cases h
 ·rename_i hb
  have hb : ¬ b < 0 := by simpa using hb
  rcases ho with rfl | rfl
  ·simp only at h; cases h; exact ⟨_, by simp only [binOp, Op.shift]; rw [if_neg hb]; rfl, .int _ _⟩
  ·simp only at h; cases h; exact ⟨_, by simp only [binOp, Op.shift]; rw [if_neg hb]; rfl, .int _ _⟩
theorem strOp_sound {op : BinOp} {a b : List UInt8} {s r : ByteArray} {v : V} (h : strOp op a b = some v) (hs : s.data.toList = a) (hr : r.data.toList = b) (t : TypeId) (w : World) : ∃ u, (binOp op t (.string s) (.string r)).run P w = .ok u w ∧ VR σ v u := by
 have hb : (binOp op t (.string s) (.string r)) = Op.stringOp op s r := by cases op <;> rfl
 rw [hb]
 have he : (a == b) = decide (a = b) := by rw [Bool.eq_iff_iff]; simp
 have h1 : s.toList = a := by rw [ByteArray.toList_eq]; exact hs
 have h2 : r.toList = b := by rw [ByteArray.toList_eq]; exact hr
 cases op <;> simp only [strOp] at h
 case add =>
  split at h
  ·rename_i hc
   cases h
   have hl : s.size = a.length := by rw [← hs]; exact (Array.length_toList).symm
   have hl2 : r.size = b.length := by rw [← hr]; exact (Array.length_toList).symm
   have hc : a.length + b.length ≤ 9223372036854775807 := by simpa using hc
   refine ⟨.string (s ++ r), ?_, .str _ (by rw [← hs, ← hr]; simp [ByteArray.data_append])⟩
   simp only [Op.stringOp]
   rw [if_neg (by rw [hl, hl2]; simp; omega)]
   rfl
  ·cases h
 case eql => cases h; exact ⟨_, by rw [show Op.stringOp .eql s r = pure (.bool (s.toList == r.toList)) from rfl, h1, h2, he]; rfl, .bool _⟩
 case neq => cases h; exact ⟨_, by rw [show Op.stringOp .neq s r = pure (.bool !(s.toList == r.toList)) from rfl, h1, h2, he]; rfl, .bool _⟩
 case lss => cases h; exact ⟨_, by simp only [Op.stringOp, h1, h2]; rfl, .bool _⟩
 case leq => cases h; exact ⟨_, by simp only [Op.stringOp, h1, h2, he]; rfl, .bool _⟩
 case gtr => cases h; exact ⟨_, by simp only [Op.stringOp, h1, h2, he]; rfl, .bool _⟩
 case geq => cases h; exact ⟨_, by simp only [Op.stringOp, h1, h2]; rfl, .bool _⟩
 all_goals cases h
end
end Go.Ev
