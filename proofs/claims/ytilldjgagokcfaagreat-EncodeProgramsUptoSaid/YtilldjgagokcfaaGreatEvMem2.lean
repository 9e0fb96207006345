/-
  Ev, part 7: append, copy, make, conversions, and all operations together.
-/
import Derived.Test.YtilldjgagokcfaaGreatEvPure2
import Derived.Laws.BytesString
import Derived.Lib.UnsafeStr
set_option linter.unusedVariables false
set_option linter.unusedSimpArgs false
namespace Go.Ev
open Go.RowKit

section
variable {P : Program} {base : Nat} {w₀ w : World} {σ : Sg} {S S' : St}

theorem cell_heap {w w' : World} (h : w'.heap = w.heap) (a : Addr) : w'.cell? a = w.cell? a := by simp [World.cell?, h]

theorem readS_sound (h : Rel none2 base w₀ σ S w) {a : Bool} {sz : Nat} {x : V} {y : Value} {ys : List V} (hr : readS S a sz x = some ys) (hx : VR σ x y) :
    ∃ vs, VRs σ (ys.flatMap V.cells) vs ∧ vs.length = ys.length * sz ∧ (∀ w' : World, (Builtin.lenOf y).run P w' = .ok ys.length w') ∧
      ∀ (w' : World) (n : Nat), w'.heap = w.heap → n ≤ ys.length → (Builtin.firstCells sz n y).run P w' = .ok (vs.take (n * sz)).toArray w' := by
  have load : ∀ (b o : Nat) (vs : List Value), (∀ j v, vs[j]? = some v → w.cell? ((⟨b, o, none⟩ : Addr).add j) = some v) → ∀ (w' : World) (k : Nat), w'.heap = w.heap → k ≤ vs.length → (loadCells ⟨b, o, none⟩ k).run P w' = .ok (vs.take k).toArray w' := by
    intro b o vs hv w' k hw hk
    have := run_loadCells_list (P := P) w' ⟨b, o, none⟩ (vs.take k) (fun j v hj => by
      rw [cell_heap hw]
      refine hv j v ?_
      have hjk : j < k := by
        rcases Nat.lt_or_ge j k with h' | h'
        · exact h'
        · rw [List.getElem?_eq_none (by simp; omega)] at hj; cases hj
      rwa [List.getElem?_take_of_lt hjk] at hj)
    rwa [List.length_take, Nat.min_eq_left hk] at this
  cases x with
  | nils =>
    simp [readS] at hr
    subst hr
    cases hx
    exact ⟨[], .nil, by simp, fun w' => rfl, fun w' n _ hn => by simp at hn; subst hn; simp [Builtin.firstCells]⟩
  | list t n es' tk =>
    simp only [readS] at hr
    split at hr
    · rename_i hn
      have hn : n = sz := by simpa using hn
      subst hn
      cases hr
      cases hx with
      | list ht hl hc hk =>
        rename_i b o cap
        obtain ⟨f1, f2⟩ := hl.flat
        obtain ⟨vs, g1, g2⟩ := f1.vals
        have hlen : vs.length = ys.length * n := by rw [← g1.length]; exact f2
        refine ⟨vs, g1, hlen, fun w' => rfl, fun w' k hw hk => ?_⟩
        simp only [Builtin.firstCells]
        refine load _ _ vs (fun j v hj => ?_) w' _ hw (by rw [hlen]; exact Nat.mul_le_mul_right _ hk)
        rw [addr_add]
        exact h.imm _ _ _ (g2 j v hj) id
    · cases hr
  | arr id off len cap =>
    simp only [readS] at hr
    split at hr
    · rename_i cs hcs
      obtain ⟨c1, c2, c3, c4⟩ := chunk_flat hr
      cases hx with
      | arr hρ =>
        obtain ⟨b, o, vs, e1, g1, g2, g3⟩ := rd_sound h hcs (.ptr hρ)
        cases e1
        have hcl : cs.length = len * sz := by rw [g1.length]; exact g2
        refine ⟨vs, by rw [c3, List.take_of_length_le (by omega)]; exact g1, by rw [c1]; exact g2, fun w' => by rw [c1]; rfl, fun w' k hw hk => ?_⟩
        simp only [Builtin.firstCells]
        exact load _ _ vs g3 w' _ hw (by rw [g2]; rw [c1] at hk; exact Nat.mul_le_mul_right _ hk)
    · cases hr
  | str s =>
    simp only [readS] at hr
    split at hr
    · rename_i hc
      simp at hc
      obtain ⟨rfl, _⟩ := hc
      cases hr
      cases hx with
      | str b hb =>
        subst hb
        have hvs : ∀ (l : List UInt8), VRs σ ((ofBytes l).flatMap V.cells) (l.map fun c => Value.int .u8 c.toNat) := by
          intro l
          induction l with
          | nil => exact .nil
          | cons c l ih => exact .cons (.int _ _) ih
        refine ⟨_, hvs _, by simp [ofBytes], fun w' => by rw [show (ofBytes b.data.toList).length = b.size by rw [ofBytes, List.length_map]; exact Array.length_toList]; rfl, fun w' n hw hn => ?_⟩
        simp only [Builtin.firstCells, Sem.run_pure]
        congr 1
        apply Array.ext'
        rw [Array.toList_map, ByteArray.data_extract, Array.toList_extract, List.extract_eq_take_drop]
        simp [List.map_take]
    · cases hr
  | _ => simp [readS] at hr

theorem readS_cells (h : Rel none2 base w₀ σ S w) {a : Bool} {sz : Nat} {x : V} {y : Value} {ys : List V} (hr : readS S a sz x = some ys) (hx : VR σ x y) : ∀ v ∈ ys, v.cells.length = sz := by
  cases x with
  | nils => simp [readS] at hr; subst hr; simp
  | list t n es' tk =>
    simp only [readS] at hr
    split at hr
    · rename_i hn
      have hn : n = sz := by simpa using hn
      subst hn
      cases hr
      cases hx with
      | list ht hl hc hk =>
        intro v hv
        obtain ⟨k, hk1⟩ := List.getElem?_of_mem hv
        exact (hl.get hk1).1
    · cases hr
  | arr id off len cap =>
    simp only [readS] at hr
    split at hr
    · exact (chunk_flat hr).2.1
    · cases hr
  | str s =>
    simp only [readS] at hr
    split at hr
    · rename_i hc
      simp at hc
      obtain ⟨rfl, _⟩ := hc
      cases hr
      intro v hv
      simp [ofBytes] at hv
      obtain ⟨b, _, rfl⟩ := hv
      rfl
    · cases hr
  | _ => simp [readS] at hr

theorem flat_len {sz : Nat} : ∀ {ys : List V}, (∀ v ∈ ys, v.cells.length = sz) → (ys.flatMap V.cells).length = ys.length * sz
  | [], _ => by simp
  | y :: ys, h => by
    rw [List.flatMap_cons, List.length_append, h y (by simp), flat_len fun v hv => h v (by simp [hv])]
    simp [Nat.add_mul]; omega

theorem flat_one {ys : List V} (h : ∀ v ∈ ys, v.cells.all V.one = true) : (ys.flatMap V.cells).all V.one = true := by
  induction ys with
  | nil => rfl
  | cons y ys ih =>
    rw [List.flatMap_cons, List.all_append, h y (by simp), ih fun v hv => h v (by simp [hv])]
    rfl

/-- What append does once there is no room. -/
theorem append_grow_run {t u e : TypeId} {ud : TypeDesc} {i : TypeInfo} {z : Value} {ty : TypeId} {x y : Value} {base' : Option Addr} {sLen sCap n : Nat} {old new : List Value} (w : World)
    (ht : P.underlying t = some (.slice e)) (hu : P.underlying u = some ud) (hui : ∀ k, ud ≠ .int k) (hi : P.info? e = some i) (hz : i.zero = some z)
    (hx : x = .slice base' sLen sCap) (hlen : ∀ w' : World, (Builtin.lenOf y).run P w' = .ok n w') (hold : ∀ w' : World, w'.heap = w.heap → (Builtin.firstCells i.size sLen x).run P w' = .ok old.toArray w')
    (hnew : ∀ w' : World, w'.heap = w.heap → (Builtin.firstCells i.size n y).run P w' = .ok new.toArray w') (hg : sCap < sLen + n) (hroom : roomOk (sLen + n) i.bytes = true) :
    ∃ c, sLen + n ≤ c ∧ (Builtin.append_ #[t, u] ty #[x, y]).run P w = .ok (.slice (some ⟨w.heap.size, 0, none⟩) (sLen + n) c) (w.drew.alloc (.cells (old ++ new ++ (Builtin.zeroCells z.cells (c - (sLen + n))).toList).toArray e)) := by
  simp only [roomOk, Bool.and_eq_true, Nat.ble_eq] at hroom
  have hfit := growslice_fits hg hroom.1
  subst hx
  have hd : w.drew.heap = w.heap := rfl
  refine ⟨(Question.appendCap (sLen + n) sCap e).cut (w.tape w.drawn (.appendCap (sLen + n) sCap e)), ?_, ?_⟩
  · simp only [Question.cut]; omega
  · have hn : ¬ (sLen + n ≤ sCap) := by omega
    have h63' : ¬ (9223372036854775807 < ((sLen : Int) + (n : Int))) := by omega
    have h48' : ¬ (281474976710656 < Builtin.nextslicecap (sLen + n) sCap * i.bytes) := by omega
    have hz' : (match (generalizing := false) ud with | .int _ => true | _ => false) = false := by
      cases ud <;> first | rfl | exact absurd rfl (hui _)
    have h1 := hold w.drew hd
    have h2 := hnew w.drew hd
    simp [Builtin.append_, run_underlying ht, run_underlying hu, hz', sizeOf, typeInfo, zeroValue, hi, hz, hlen, hn, h63', h48', Question.forced, h1, h2, newRow]
    congr 2
    apply Array.ext'
    simp [List.append_assoc]

/-- What append does where there is room. -/
theorem append_fit_run {t u e : TypeId} {ud : TypeDesc} {i : TypeInfo} {ty : TypeId} {y : Value} {base' : Option Addr} {sLen sCap n : Nat} {new : List Value} (w : World) (w' : World)
    (ht : P.underlying t = some (.slice e)) (hu : P.underlying u = some ud) (hui : ∀ k, ud ≠ .int k) (hi : P.info? e = some i)
    (hlen : ∀ w' : World, (Builtin.lenOf y).run P w' = .ok n w') (hnew : (Builtin.firstCells i.size n y).run P w = .ok new.toArray w) (hg : sLen + n ≤ sCap)
    (hst : match base' with | some a => (storeCells (a.add (sLen * i.size)) new).run P w = .ok () w' | none => w' = w) :
    (Builtin.append_ #[t, u] ty #[.slice base' sLen sCap, y]).run P w = .ok (.slice base' (sLen + n) sCap) w' := by
  have hz' : (match (generalizing := false) ud with | .int _ => true | _ => false) = false := by
    cases ud <;> first | rfl | exact absurd rfl (hui _)
  cases base' with
  | none =>
    simp only at hst
    subst hst
    simp [Builtin.append_, run_underlying ht, run_underlying hu, hz', sizeOf, typeInfo, hi, hlen, hg, hnew]
  | some a =>
    simp only at hst
    simp [Builtin.append_, run_underlying ht, run_underlying hu, hz', sizeOf, typeInfo, hi, hlen, hg, hnew, hst]

theorem Stp.of_less {σ σ' : Sg} {S S₁ S' : St} {w w' : World} (h : Stp σ S₁ w σ' S' w') (hn : S₁.next = S.next) (hs : ∀ id o, S₁.h.find id = some o → S.h.find id = some o) : Stp σ S w σ' S' w' := by
  have ho : ∀ b, Owns σ S₁ b → Owns σ S b := fun b ⟨id, o, x, h1, h2, h3⟩ => ⟨id, o, x, hs id o h1, h2, h3⟩
  refine ⟨h.le, by rw [← hn]; exact h.next, h.size, fun b hb hn' => h.keep b hb (fun e => hn' (ho b e)), fun b hb hn' => h.newI b hb (fun e => hn' (ho b e)), fun id x h1 h2 => ?_, fun id o h1 => ?_⟩
  · obtain ⟨a, b, c⟩ := h.newK id x h1 h2
    exact ⟨by rw [← hn]; exact a, b, c.imp (fun h => h) (ho _)⟩
  · rcases h.dom id o h1 with ⟨o', h2⟩ | h2
    · exact .inl ⟨o', hs id o' h2⟩
    · exact .inr (by rw [← hn]; exact h2)

theorem zeroCells_length (z : Array Value) (n : Nat) : (Builtin.zeroCells z n).toList.length = n * z.size := by
  simp [Builtin.zeroCells]

/-- A list in a row of its own. -/
theorem newTok_list (h : Rel none2 base w₀ σ S w) (hf : σ.ρ S.next = none) (e : TypeId) {sz : Nat} {es : List V} {vs rest : List Value} (hv : VRs σ (es.flatMap V.cells) vs) (hlen : ∀ x ∈ es, x.cells.length = sz) {cap : Nat}
    (hc : es.length ≤ cap) (hr : rest.length = (cap - es.length) * sz) :
    ∃ σ', VR σ' (.list (some e) sz es (.own S.next)) (.slice (some ⟨w.heap.size, 0, none⟩) es.length cap) ∧ Rel none2 base w₀ σ' (S.new .tok) (w.alloc (.cells (vs ++ rest).toArray e)) ∧
      Stp σ S w σ' (S.new .tok) (w.alloc (.cells (vs ++ rest).toArray e)) := by
  obtain ⟨r1, r2⟩ := h.newTok hf e vs rest
  refine ⟨_, ?_, r1, r2⟩
  have hvl : vs.length = es.length * sz := by rw [← hv.length]; exact flat_len hlen
  refine VR.list (fun t' ht' => ?_) (LR.of_flat hlen (CR.of_vals (hv.mono r2.le) fun i v hi => ?_)) hc ?_
  · cases ht'; simp [Sg.addK, Sg.addT]
  · have := Sg.addI_get σ w.heap.size 0 vs i v hi
    simpa [Sg.addK, Sg.addT] using this
  · simp only [tkOk, Sg.addK, if_true]
    rw [hvl, hr, Nat.zero_add, Nat.zero_add, ← Nat.add_mul]
    congr 4
    omega

theorem appendE_sound (h : Rel none2 base w₀ σ S w) {t u ty : TypeId} {x y v : V} {X Y : Value} (ha : appendE P t u x y S = some (v, S')) (hf : Free σ S.next S'.next) (hx : VR σ x X) (hy : VR σ y Y) :
    ∃ r w' σ', (Builtin.append_ #[t, u] ty #[X, Y]).run P w = .ok r w' ∧ VR σ' v r ∧ Rel none2 base w₀ σ' S' w' ∧ Stp σ S w σ' S' w' := by
  unfold appendE at ha
  split at ha
  · cases ha
  · rename_i e he
    have ht := elemT_some he
    split at ha
    · rename_i i a ud z hi hagg hu hz
      split at ha
      · cases ha
      · rename_i hc
        simp only [Bool.or_eq_true, not_or, Bool.not_eq_true, Bool.not_eq_false'] at hc
        obtain ⟨⟨hui', hsz⟩, hzl⟩ := hc
        have hui : ∀ k, ud ≠ .int k := by rintro k rfl; simp [isIntD] at hui'
        have hsz : 1 ≤ i.size := by simpa using hsz
        have hzl : z.cells.length = i.size := by simpa using hzl
        obtain ⟨i', zv, hi', hzv, hzr⟩ := zeroV_sound σ hz
        rw [hi] at hi'; cases hi'
        have hzs : zv.cells.size = i.size := by rw [← hzl, hzr.cells.length]; simp
        split at ha
        · cases ha
        · rename_i ys hys
          obtain ⟨new, n1, n2, n3, n4⟩ := readS_sound h hys hy
          have hnew : ∀ w' : World, w'.heap = w.heap → (Builtin.firstCells i.size ys.length Y).run P w' = .ok new.toArray w' := fun w' hw => by
            have := n4 w' ys.length hw (Nat.le_refl _)
            rwa [List.take_of_length_le (by omega)] at this
          split at ha
          · cases ha
          · rename_i hall
            have hall : ys.all (fun v => Nat.beq v.cells.length i.size && v.cells.all V.one) = true := by simpa using hall
            rw [List.all_eq_true] at hall
            have hlen : ∀ v ∈ ys, v.cells.length = i.size := fun v hv => by have := hall v hv; simp at this; exact this.1
            have hone : ∀ v ∈ ys, v.cells.all V.one = true := fun v hv => by have := hall v hv; simp at this; simpa using this.2
            split at ha
            · cases hx
              split at ha
              · rename_i hemp
                cases ha
                have hemp : ys = [] := by simpa using hemp
                subst hemp
                refine ⟨.slice none 0 0, w, σ, ?_, .nils, h, Stp.refl _ _ _⟩
                exact append_fit_run w w ht hu hui hi n3 (hnew w rfl) (by simp) rfl
              · rename_i hemp
                split at ha
                · rename_i hroom
                  cases ha
                  have hne : 0 < ys.length := by
                    cases ys with
                    | nil => simp at hemp
                    | cons _ _ => simp
                  obtain ⟨c, c1, c2⟩ := append_grow_run (ty := ty) (base' := none) (sCap := 0) (old := []) w ht hu hui hi hzv rfl n3 (fun w' _ => by simp [Builtin.firstCells]) hnew (by omega : 0 < 0 + ys.length) (by simpa using hroom)
                  simp only [Nat.zero_add, List.nil_append] at c1 c2
                  obtain ⟨σ', v1, v2, v3⟩ := newTok_list (h.drew (w' := w.drew) rfl rfl rfl rfl) (hf S.next (Nat.le_refl _) (by simp [St.new])) e (cap := c) n1 hlen c1 (by rw [zeroCells_length, hzs])
                  exact ⟨_, _, σ', c2, v1, v2, (Stp.drew σ S w w.drew rfl).trans v3 hf⟩
                · cases ha
            · rename_i lt n es tk
              cases hx with
              | list hty hl hcap hk =>
                rename_i b o cap
                split at ha
                · cases ha
                · rename_i hn
                  have hn : n = i.size := by simpa using hn
                  subst hn
                  split at ha
                  · rename_i hemp
                    cases ha
                    have hemp : ys = [] := by simpa using hemp
                    subst hemp
                    have hnil : new = [] := by
                      cases new with
                      | nil => rfl
                      | cons _ _ => simp at n2
                    subst hnil
                    refine ⟨.slice (some ⟨b, o, none⟩) es.length cap, w, σ, ?_, .list hty hl hcap hk, h, Stp.refl _ _ _⟩
                    exact append_fit_run (base' := some ⟨b, o, none⟩) w w ht hu hui hi n3 (hnew w rfl) (by simpa using hcap) rfl
                  · rename_i hemp
                    have hne : 0 < ys.length := by
                      cases ys with
                      | nil => simp at hemp
                      | cons _ _ => simp
                    split at ha
                    · cases ha
                    · rename_i hroom
                      have hroom : roomOk (es.length + ys.length) i.bytes = true := by simpa using hroom
                      obtain ⟨f1, f2⟩ := hl.flat
                      obtain ⟨old, o1, o2⟩ := f1.vals
                      have hol : old.length = es.length * i.size := by rw [← o1.length]; exact f2
                      have hold : ∀ w' : World, w'.heap = w.heap → (Builtin.firstCells i.size es.length (.slice (some ⟨b, o, none⟩) es.length cap)).run P w' = .ok old.toArray w' := fun w' hw => by
                        simp only [Builtin.firstCells]
                        rw [← hol]
                        refine run_loadCells_list (P := P) w' _ old fun j v hj => ?_
                        rw [cell_heap hw, addr_add]
                        exact h.imm _ _ _ (o2 j v hj) id
                      have hboth : VRs σ ((es ++ ys).flatMap V.cells) (old ++ new) := by rw [List.flatMap_append]; exact o1.append n1
                      have hlenb : ∀ v ∈ es ++ ys, v.cells.length = i.size := by
                        intro v hv
                        rcases List.mem_append.1 hv with h1 | h1
                        · obtain ⟨k, hk1⟩ := List.getElem?_of_mem h1
                          exact (hl.get hk1).1
                        · exact hlen v h1
                      -- the way by a new array
                      have grow : ∀ (S₁ : St), S₁.next = S.next → (∀ id o, S₁.h.find id = some o → S.h.find id = some o) → Free σ S.next (S.next + 1) → cap < es.length + ys.length →
                          ∃ r w' σ', (Builtin.append_ #[t, u] ty #[.slice (some ⟨b, o, none⟩) es.length cap, Y]).run P w = .ok r w' ∧ VR σ' (.list (some e) i.size (es ++ ys) (.own S.next)) r ∧ Rel none2 base w₀ σ' (S₁.new .tok) w' ∧ Stp σ S w σ' (S₁.new .tok) w' := by
                        intro S₁ e1 e2 e3 hlt
                        obtain ⟨c, c1, c2⟩ := append_grow_run (ty := ty) (old := old) w ht hu hui hi hzv rfl n3 hold hnew hlt hroom
                        obtain ⟨σ', v1, v2, v3⟩ := newTok_list ((h.less e2).drew (w' := w.drew) rfl rfl rfl rfl) (by rw [e1]; exact e3 S.next (Nat.le_refl _) (by omega)) e (es := es ++ ys) (cap := c) hboth hlenb (by simpa using c1) (rest := (Builtin.zeroCells zv.cells (c - (es.length + ys.length))).toList) (by rw [zeroCells_length, hzs]; simp)
                        rw [e1] at v1
                        simp only [List.length_append] at v1
                        refine ⟨_, _, σ', c2, v1, v2, ?_⟩
                        exact Stp.of_less ((Stp.drew σ S₁ w w.drew rfl).trans v3 (by rw [e1]; simp only [St.new, e1]; exact e3)) e1 e2
                      split at ha
                      · cases ha
                      · cases ha
                        have hk : cap = es.length := hk
                        exact grow S rfl (fun _ _ h => h) (by simpa [St.new] using hf) (by omega)
                      · rename_i id
                        split at ha
                        · rename_i lt' hid
                          split at ha
                          · rename_i hlt'
                            have hlt' : lt' = e := by simpa using hlt'
                            subst hlt'
                            cases ha
                            have hk : σ.ρ id = some (b, o + es.length * i.size, o + cap * i.size) := hk
                            have hfree : Free σ S.next (S.next + 1) := by simpa [St.new] using hf
                            by_cases hfit : es.length + ys.length ≤ cap
                            · obtain ⟨b', p', e', c, t', lo, hi2, q1, q2, q3, q4, q5, q6, q7, q8⟩ := h.ob id _ hid
                              rw [hk] at q1; cases q1
                              have hmul : (es.length + ys.length) * i.size ≤ cap * i.size := Nat.mul_le_mul_right _ hfit
                              rw [Nat.add_mul] at hmul
                              obtain ⟨r1, r2, r3, r4⟩ := h.putTok (fun _ _ h => h) hid hk (hfree S.next (Nat.le_refl _) (by omega)) new (by rw [n2]; omega) q3
                              have hst := run_storeCells_fr P b (o + es.length * i.size) t' (lo, hi2) new 0 c w q3 (.inl (by simpa using r3)) (by rw [n2]; omega) (one_all n1 (flat_one hone))
                              refine ⟨.slice (some ⟨b, o, none⟩) (es.length + ys.length) cap, _, _, ?_, ?_, r1, r2⟩
                              · refine append_fit_run (base' := some ⟨b, o, none⟩) w _ ht hu hui hi n3 (hnew w rfl) hfit ?_
                                simp only [addr_add]
                                simpa using hst
                              · have key := VR.list (σ := (σ.addI b (o + es.length * i.size) new).addK S.next (b, o + es.length * i.size + new.length, o + cap * i.size)) (t := some lt') (sz := i.size) (es := es ++ ys) (tk := .own S.next) (b := b) (o := o) (cap := cap)
                                  (fun t'' h'' => r2.le.ty _ _ (hty t'' h'')) ((hl.mono r2.le).append (LR.of_flat hlen (CR.of_vals (n1.mono r2.le) fun j v hj => by
                                    have := Sg.addI_get σ b (o + es.length * i.size) new j v hj
                                    simpa [Sg.addK] using this))) (by simpa using hfit) (by
                                    simp only [tkOk, Sg.addK, if_true, List.length_append]
                                    rw [n2, Nat.add_mul, Nat.add_assoc])
                                simpa using key
                            · exact grow { S with h := S.h.del id } rfl (fun k ok hk => by
                                simp only [Tr.find_del] at hk
                                split at hk
                                · cases hk
                                · exact hk) hfree (by omega)
                          · cases ha
                        · cases ha
            · cases ha
    · cases ha

end
end Go.Ev
