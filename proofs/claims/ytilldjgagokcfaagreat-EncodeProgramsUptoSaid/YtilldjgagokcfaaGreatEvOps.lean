/-
  Ev, part 4: the operations that yield a value and run no code.
-/
import Derived.Test.YtilldjgagokcfaaGreatEvMem
import Derived.Laws.Entries
import Derived.Laws.Append
import Derived.Laws.Build
set_option linter.unusedVariables false
set_option linter.unusedSimpArgs false
namespace Go.Ev
open Go.RowKit

section
variable {P : Program} {base : Nat} {w₀ w : World} {σ : Sg} {S S' : St}

/-! ### Constants -/

theorem ofVal_sound (σ : Sg) : ∀ (d : Nat) (c : Value) (v : V), ofVal d c = some v → VR σ v c := by
  intro d
  induction d with
  | zero => intro c v h; simp [ofVal] at h
  | succ d ih =>
    intro c v h
    cases c with
    | bool b => simp [ofVal] at h; subst h; exact .bool b
    | int k n => simp [ofVal] at h; subst h; exact .int k n
    | string s => simp [ofVal] at h; subst h; exact .str s rfl
    | pointer a => cases a with
      | none => simp [ofVal] at h; subst h; exact .nilp
      | some a => simp [ofVal] at h
    | slice a n c => cases a with
      | none =>
        simp only [ofVal] at h
        split at h
        · rename_i hc
          simp at hc h
          obtain ⟨rfl, rfl⟩ := hc
          subst h; exact .nils
        · cases h
      | some a => simp [ofVal] at h
    | nilFunc => simp [ofVal] at h; subst h; exact .nilf
    | nilIface => simp [ofVal] at h; subst h; exact .nili
    | map r => cases r with
      | none => simp [ofVal] at h; subst h; exact .nilm
      | some r => simp [ofVal] at h
    | agg cs =>
      simp only [ofVal, Option.map_eq_some_iff] at h
      obtain ⟨xs, h1, rfl⟩ := h
      have := VRs.map_of (σ := σ) (g := fun x => x) h1 (fun a _ x hx => ih a x hx)
      simp at this
      have e : VR σ (.agg xs) (.agg cs.toList.toArray) := .agg this
      simpa using e
    | tuple vs =>
      simp only [ofVal, Option.map_eq_some_iff] at h
      obtain ⟨xs, h1, rfl⟩ := h
      have := VRs.map_of (σ := σ) (g := fun x => x) h1 (fun a _ x hx => ih a x hx)
      simp at this
      have e : VR σ (.tup xs) (.tuple vs.toList.toArray) := .tup this
      simpa using e
    | _ => simp [ofVal] at h

theorem zeroV_sound (σ : Sg) {t : TypeId} {z : V} (h : zeroV P t = some z) : ∃ i zv, P.info? t = some i ∧ i.zero = some zv ∧ VR σ z zv := by
  unfold zeroV at h
  split at h
  · cases h
  · rename_i i hi
    split at h
    · cases h
    · rename_i zv hz
      exact ⟨i, zv, hi, hz, ofVal_sound σ _ _ _ h⟩

/-! ### Tables -/

theorem szOf_run {t : TypeId} {n : Nat} (h : szOf P t = some n) (w : World) : (sizeOf t).run P w = .ok n w := by
  unfold szOf at h
  cases hi : P.info? t with
  | none => simp [hi] at h
  | some i => simp [hi] at h; simp [sizeOf, typeInfo, hi, h]

theorem aggT_run {t : TypeId} {b : Bool} (h : aggT P t = some b) (w : World) : (isAgg t).run P w = .ok b w := by
  unfold aggT at h
  split at h <;> simp at h <;> subst h
  · rename_i hu; simp [isAgg, run_underlying hu]
  · rename_i hu; simp [isAgg, run_underlying hu]
  · rename_i d h1 h2 hu
    unfold isAgg
    rw [Sem.run_bind, run_underlying hu]
    cases d <;> first | rfl | (exfalso; apply h1; rfl) | (exfalso; apply h2; rfl)

theorem zero_run {t : TypeId} {i : TypeInfo} {zv : Value} (hi : P.info? t = some i) (hz : i.zero = some zv) (w : World) : (zeroValue t).run P w = .ok zv w := by
  simp [zeroValue, typeInfo, hi, hz]

/-! ### Cells -/

theorem cut_some {cs l : List V} {off n : Nat} (h : cut cs off n = some l) : l = (cs.drop off).take n ∧ l.length = n := by
  unfold cut at h
  simp only at h
  split at h
  · rename_i hl; cases h; exact ⟨rfl, by simpa using hl⟩
  · cases h

theorem addr_add (b o n : Nat) : (⟨b, o, none⟩ : Addr).add n = ⟨b, o + n, none⟩ := Addr.add_lit b o n

theorem cell_at {b : Nat} {cs : List Value} {t : TypeId} {fr : Nat × Nat} (h : w.heap[b]? = some (.cells cs.toArray t fr)) (o : Nat) : w.cell? ⟨b, o, none⟩ = cs[o]? := by
  simp [World.cell?, h]

theorem rd_sound (h : Rel none2 base w₀ σ S w) {p : V} {y : Value} {n : Nat} {cs : List V} (hr : rd S p n = some cs) (hp : VR σ p y) :
    ∃ b o vs, y = .pointer (some ⟨b, o, none⟩) ∧ VRs σ cs vs ∧ vs.length = n ∧ ∀ j v, vs[j]? = some v → w.cell? ((⟨b, o, none⟩ : Addr).add j) = some v := by
  cases p with
  | ptr id off =>
    cases hp with
    | ptr hρ =>
      simp only [rd] at hr
      split at hr
      · rename_i t cells hid
        obtain ⟨h1, h2⟩ := cut_some hr
        obtain ⟨b', e', vs, g1, g2, g3, g4, g5⟩ := h.ob id _ hid
        rw [hρ] at g1; cases g1
        refine ⟨_, off, (vs.drop off).take n, rfl, by rw [h1]; exact (g4.drop off).take n, ?_, fun j v hv => ?_⟩
        · rw [← VRs.length ((g4.drop off).take n), ← h1]; exact h2
        · rw [addr_add, cell_at g3]
          have hj : j < n := by
            rcases Nat.lt_or_ge j n with h' | h'
            · exact h'
            · rw [List.getElem?_eq_none (by simp; omega)] at hv; cases hv
          rw [List.getElem?_take_of_lt hj, List.getElem?_drop] at hv
          exact hv
      · cases hr
  | cptr t cs' off =>
    cases hp with
    | cptr ht hc =>
      rename_i b o
      simp only [rd] at hr
      obtain ⟨h1, h2⟩ := cut_some hr
      have hc' := (hc.drop off).take n
      rw [← h1] at hc'
      obtain ⟨vs, g1, g2⟩ := hc'.vals
      refine ⟨b, o + off, vs, rfl, g1, by rw [← g1.length]; exact h2, fun j v hv => ?_⟩
      rw [addr_add]
      exact h.imm _ _ _ (g2 j v hv) id
  | _ => simp [rd] at hr

theorem loadE_sound (h : Rel none2 base w₀ σ S w) {t : TypeId} {p v : V} {y : Value} (hl : loadE P t p S = some v) (hp : VR σ p y) :
    ∃ b o u, y = .pointer (some ⟨b, o, none⟩) ∧ (loadVar t ⟨b, o, none⟩).run P w = .ok u w ∧ VR σ v u := by
  unfold loadE at hl
  split at hl
  · rename_i n ha hs
    simp only [Option.map_eq_some_iff] at hl
    obtain ⟨cs, h1, rfl⟩ := hl
    obtain ⟨b, o, vs, rfl, h2, h3, h4⟩ := rd_sound h h1 hp
    refine ⟨b, o, .agg vs.toArray, rfl, ?_, .agg h2⟩
    have := run_loadCells_list (P := P) w ⟨b, o, none⟩ vs h4
    rw [h3] at this
    simp [loadVar, aggT_run ha, szOf_run hs, this]
  · rename_i ha
    split at hl
    · rename_i v' h1
      cases hl
      obtain ⟨b, o, vs, rfl, h2, h3, h4⟩ := rd_sound h h1 hp
      cases h2 with
      | cons hv hnil =>
        cases hnil
        rename_i u
        have := h4 0 u rfl
        rw [addr_add] at this
        exact ⟨b, o, u, rfl, by simp [loadVar, aggT_run ha]; rw [show (⟨b, o, none⟩ : Addr) = ⟨b, o + 0, none⟩ from rfl, this], hv⟩
    · cases hl
  · cases hl

theorem splice_some {cs cs' vs : List V} {off : Nat} (h : splice cs off vs = some cs') : cs' = cs.take off ++ (vs ++ cs.drop (off + vs.length)) ∧ off + vs.length ≤ cs.length := by
  unfold splice at h
  split at h
  · rename_i hl; cases h; exact ⟨rfl, by simpa using hl⟩
  · cases h

theorem one_all {cs : List V} {vs : List Value} (h : VRs σ cs vs) (ho : cs.all V.one = true) : ∀ v ∈ vs, v.oneCell' = true := by
  induction cs generalizing vs with
  | nil => cases h; simp
  | cons c cs ih =>
    cases h with
    | cons h k =>
      simp at ho
      intro v hv
      simp at hv
      rcases hv with rfl | hv
      · exact h.one ho.1
      · exact ih k (by simpa using ho.2) v hv

theorem storeE_sound (h : Rel none2 base w₀ σ S w) {t : TypeId} {p v : V} {y u : Value} (hl : storeE P t p v S = some S') (hp : VR σ p y) (hv : VR σ v u) :
    ∃ b o w', y = .pointer (some ⟨b, o, none⟩) ∧ (storeVar t ⟨b, o, none⟩ u).run P w = .ok () w' ∧ Rel none2 base w₀ σ S' w' ∧ Stp σ S w σ S' w' := by
  unfold storeE at hl
  split at hl
  · rename_i id off
    split at hl
    · rename_i e cs n hid hs
      split at hl
      · rename_i hc
        split at hl
        · rename_i cs' hsp
          cases hl
          simp only [Bool.and_eq_true] at hc
          obtain ⟨hn, hone⟩ := hc
          cases hp with
          | ptr hρ =>
            rename_i b p e'
            obtain ⟨b', e'', vs, g1, g2, g3, g4, g5⟩ := h.ob id _ hid
            rw [hρ] at g1; cases g1
            obtain ⟨hs1, hs2⟩ := splice_some hsp
            have hcells := hv.cells
            have hlen : u.cells.toList.length = v.cells.length := hcells.length.symm
            have hvl := g4.length
            have hsize : u.cells.size = n := by
              have : v.cells.length = n := by simpa using hn
              rw [← this, ← hlen]; simp
            have hst := run_storeCells_fr P b off e (0, 0) u.cells.toList 0 vs.toArray w g3 (.inr rfl) (by rw [hlen]; simp; omega) (one_all hcells hone)
            have hbox := h.setBox (cs' := cs') hid hρ (vs' := vs.take off ++ (u.cells.toList ++ vs.drop (off + u.cells.toList.length))) (by
              rw [hs1, hlen]
              exact (g4.take off).append (hcells.append (g4.drop _)))
            refine ⟨b, off, _, rfl, ?_, hbox.1, hbox.2⟩
            have hsz := szOf_run (P := P) hs w
            simp [storeVar, hsz, hsize]
            simpa [hsize] using hst
        · cases hl
      · cases hl
    · cases hl
  · cases hl

/-! ### Parts -/

inductive PRs (σ : Sg) : List (Nat × V) → List (Nat × Value) → Prop
  | nil : PRs σ [] []
  | cons {i : Nat} {v : V} {u : Value} {l : List (Nat × V)} {r : List (Nat × Value)} (h : VR σ v u) (k : PRs σ l r) : PRs σ ((i, v) :: l) ((i, u) :: r)


theorem partE_sound {t : TypeId} {cs : List V} {vs : List Value} {off : Nat} {v : V} (h : partE P t cs off = some v) (hv : VRs σ cs vs) (w : World) : ∃ u, (part t vs.toArray off).run P w = .ok u w ∧ VR σ v u := by
  unfold partE at h
  split at h
  · rename_i ha
    split at h
    · rename_i n hs
      simp only [Option.map_eq_some_iff] at h
      obtain ⟨c, h1, rfl⟩ := h
      obtain ⟨h2, h3⟩ := cut_some h1
      refine ⟨.agg ((vs.drop off).take n).toArray, ?_, by rw [h2]; exact .agg ((hv.drop off).take n)⟩
      simp only [part, Sem.run_bind, aggT_run ha, Result.andThen_ok, if_true, szOf_run hs, Sem.run_pure]
      congr 2
      apply Array.ext'
      simp [List.take_drop]
    · cases h
  · rename_i ha
    obtain ⟨u, h1, h2⟩ := hv.get h
    exact ⟨u, by simp [part, aggT_run ha, h1], h2⟩
  · cases h

theorem fill_one {cells : Array Value} {off : Nat} {c : List Value} (h : off + c.length ≤ cells.size) :
    (c.toArray.zipIdx.foldl (fun cs (p : Value × Nat) => cs.setIfInBounds (off + p.2) p.1) cells).toList = cells.toList.take off ++ (c ++ cells.toList.drop (off + c.length)) := by
  have key : ∀ (c : List Value) (k : Nat) (cells : Array Value), off + k + c.length ≤ cells.size →
      ((c.zipIdx k).foldl (fun (cs : Array Value) (p : Value × Nat) => cs.setIfInBounds (off + p.2) p.1) cells).toList = cells.toList.take (off + k) ++ (c ++ cells.toList.drop (off + k + c.length)) := by
    intro c
    induction c with
    | nil => intro k cells _; simp
    | cons v c ih =>
      intro k cells hk
      simp only [List.zipIdx_cons, List.foldl_cons]
      rw [ih (k + 1) _ (by simp at hk ⊢; omega)]
      have e := list_seg_step cells.toList (off + k) v c (by simp at hk ⊢; omega)
      rw [Array.toList_setIfInBounds]
      simpa [Nat.add_assoc, List.append_assoc] using e
  have := key c 0 cells (by simpa using h)
  simp only [Nat.add_zero] at this
  rw [← this]
  rw [← Array.foldl_toList]
  simp

theorem fillE_sound {place : Nat → Option (Nat × Nat)} : ∀ {parts : List (Nat × V)} {rparts : List (Nat × Value)} {cs cs' : List V} {cells : List Value}, fillE place cs parts = some cs' → VRs σ cs cells →
    PRs σ parts rparts → ∃ cells', Instr.fill place cells.toArray rparts = some (List.toArray cells') ∧ VRs σ cs' cells'
  | [], _, cs, cs', cells, h, hc, .nil => by simp [fillE] at h; subst h; exact ⟨cells, rfl, hc⟩
  | (i, v) :: parts, _, cs, cs', cells, h, hc, .cons (u := u) hv hr => by
    simp only [fillE] at h
    split at h
    · cases h
    · rename_i off size hp
      split at h
      · rename_i hn
        split at h
        · rename_i cs1 hsp
          obtain ⟨h1, h2⟩ := splice_some hsp
          have hcells := hv.cells
          have hlen : u.cells.toList.length = v.cells.length := hcells.length.symm
          have hcl := hc.length
          have hn' : v.cells.length = size := by simpa using hn
          have hus : u.cells.size = size := by rw [← hn', ← hlen]; simp
          have hc1 : VRs σ cs1 (cells.take off ++ (u.cells.toList ++ cells.drop (off + u.cells.toList.length))) := by
            rw [h1, hlen]; exact (hc.take off).append (hcells.append (hc.drop _))
          obtain ⟨cells', g1, g2⟩ := fillE_sound h hc1 hr
          refine ⟨cells', ?_, g2⟩
          have hf := fill_one (cells := cells.toArray) (off := off) (c := u.cells.toList) (by simp at *; omega)
          simp only [Instr.fill, hp]
          rw [if_neg (by simp [hus]; omega)]
          have e : u.cells.zipIdx.foldl (fun (cs : Array Value) (p : Value × Nat) => cs.setIfInBounds (off + p.2) p.1) cells.toArray = (cells.take off ++ (u.cells.toList ++ cells.drop (off + u.cells.toList.length))).toArray := by
            apply Array.ext'
            simpa using hf
          rw [← g1, ← e]
        · cases h
      · cases h

theorem places_run {fs : List Field} {places : List (Nat × Nat)} (h : mapO (fun (f : Field) => (szOf P f.type).map fun n => (f.offset, n)) fs = some places) (w : World) :
    (fs.toArray.mapM fun (f : Field) => (do pure (f.offset, ← sizeOf f.type) : Sem (Nat × Nat))).run P w = .ok places.toArray w := by
  have key : ∀ (fs : List Field) (places : List (Nat × Nat)), mapO (fun (f : Field) => (szOf P f.type).map fun n => (f.offset, n)) fs = some places →
      (fs.mapM fun (f : Field) => (do pure (f.offset, ← sizeOf f.type) : Sem (Nat × Nat))).run P w = .ok places w := by
    intro fs
    induction fs with
    | nil => intro pl h; simp [mapO] at h; subst h; simp
    | cons f fs ih =>
      intro pl h
      simp only [mapO] at h
      cases hs : szOf P f.type with
      | none => simp [hs] at h
      | some n =>
        simp only [hs, Option.map_some] at h
        cases hm : mapO (fun (f : Field) => (szOf P f.type).map fun n => (f.offset, n)) fs with
        | none => simp [hm] at h
        | some ps =>
          simp only [hm, Option.some.injEq] at h
          subst h
          rw [List.mapM_cons]
          simp only [Sem.run_bind, szOf_run hs, Result.andThen_ok, Sem.run_pure, ih ps hm]
  have := key fs places h
  simp only [List.mapM_toArray, Sem.run_map, this, Result.andThen_ok]

theorem buildE_sound (σ : Sg) {t : TypeId} {parts : List (Nat × V)} {rparts : List (Nat × Value)} {v : V} (h : buildE P t parts = some v) (hp : PRs σ parts rparts) (w : World) :
    ∃ u, (Instr.build t rparts.toArray).run P w = .ok u w ∧ VR σ v u := by
  unfold buildE at h
  split at h
  · cases h
  · rename_i z hz
    obtain ⟨i, zv, hi, hzv, hzr⟩ := zeroV_sound σ hz
    have hzc := hzr.cells
    split at h
    · rename_i fs hu
      split at h
      · cases h
      · rename_i places hpl
        simp only [Option.map_eq_some_iff] at h
        obtain ⟨cs, h1, rfl⟩ := h
        obtain ⟨cells', g1, g2⟩ := fillE_sound h1 hzc hp
        refine ⟨.agg cells'.toArray, ?_, .agg g2⟩
        have hpr := places_run hpl w
        simp only [Array.toArray_toList] at hpr g1
        simp only [Instr.build, Sem.run_bind, zero_run hi hzv, Result.andThen_ok, run_underlying hu]
        simp only [hpr, Result.andThen_ok]
        have e : (fun (i : Nat) => places.toArray[i]?) = fun (i : Nat) => places[i]? := by funext i; simp
        simp only [e, g1]
        rfl
    · rename_i n e hu
      split at h
      · cases h
      · rename_i n' hs
        simp only [Option.map_eq_some_iff] at h
        obtain ⟨cs, h1, rfl⟩ := h
        obtain ⟨cells', g1, g2⟩ := fillE_sound h1 hzc hp
        refine ⟨.agg cells'.toArray, ?_, .agg g2⟩
        simp only [Array.toArray_toList] at g1
        simp only [Instr.build, Sem.run_bind, zero_run hi hzv, Result.andThen_ok, run_underlying hu, szOf_run hs, g1]
        rfl
    · cases h

/-! ### Slices -/

def repv (z : List Value) : Nat → List Value
  | 0 => []
  | n + 1 => z ++ repv z n

theorem reps_sound {z : List V} {zv : List Value} (h : VRs σ z zv) : ∀ n, VRs σ (reps z n) (repv zv n)
  | 0 => .nil
  | n + 1 => h.append (reps_sound h n)

theorem repv_range (z : List Value) (k : Nat) : (List.range (k * z.length)).map (fun i => z[i % z.length]!) = repv z k := by
  induction k with
  | zero => simp [repv]
  | succ k ih =>
    rw [Nat.add_mul, Nat.one_mul, Nat.add_comm, List.range_add, List.map_append, List.map_map]
    simp only [repv]
    congr 1
    · apply List.ext_getElem?
      intro i
      by_cases hi : i < z.length
      · simp [hi, Nat.mod_eq_of_lt hi]
      · simp [hi]
    · rw [← ih]
      apply List.map_congr_left
      intro i _
      simp

theorem repv_length (z : List Value) (k : Nat) : (repv z k).length = k * z.length := by
  induction k with
  | zero => simp [repv]
  | succ k ih => simp [repv, ih, Nat.add_mul]; omega

theorem chunk_flat {agg : Bool} {n : Nat} : ∀ {k : Nat} {cs es : List V}, chunk agg n cs k = some es → es.length = k ∧ (∀ x ∈ es, x.cells.length = n) ∧ es.flatMap V.cells = cs.take (k * n) ∧ k * n ≤ cs.length
  | 0, cs, es, h => by simp [chunk] at h; subst h; simp
  | k + 1, cs, es, h => by
    simp only [chunk] at h
    split at h
    · cases h
    · rename_i c hc
      obtain ⟨h1, h2⟩ := cut_some hc
      simp at h1
      split at h
      · cases h
      · rename_i e he
        split at h
        · cases h
        · rename_i es' hes
          cases h
          obtain ⟨g1, g2, g3, g4⟩ := chunk_flat hes
          have hce : e.cells = c := by
            split at he
            · cases he; rfl
            · rename_i e'
              split at he
              · rename_i ho
                cases he
                cases e <;> simp_all [V.cells, V.one]
              · cases he
            · cases he
          have hnc : n ≤ cs.length := by rw [h1] at h2; simp at h2; omega
          refine ⟨by simp [g1], ?_, ?_, ?_⟩
          · intro x hx
            simp at hx
            rcases hx with rfl | hx
            · rw [hce]; exact h2
            · exact g2 x hx
          · rw [List.flatMap_cons, hce, g3, h1, Nat.add_mul, Nat.one_mul, Nat.add_comm (k * n) n, List.take_add]
          · simp at g4; rw [Nat.add_mul]; omega

theorem elemT_some {t e : TypeId} (h : elemT P t = some e) : P.underlying t = some (.slice e) := by
  unfold elemT at h
  split at h
  · rename_i hu; cases h; exact hu
  · cases h

theorem szOf_info {t : TypeId} {n : Nat} (h : szOf P t = some n) : ∃ i, P.info? t = some i ∧ i.size = n := by
  unfold szOf at h
  simpa using h

theorem buildSliceE_sound (h : Rel none2 base w₀ σ S w) {t : TypeId} {len : Nat} {parts : List (Nat × V)} {rparts : List (Nat × Value)} {v : V} (hb : buildSliceE P t len parts = some v) (hp : PRs σ parts rparts) :
    ∃ u w' σ', (Instr.buildSlice t len rparts.toArray).run P w = .ok u w' ∧ VR σ' v u ∧ Rel none2 base w₀ σ' S w' ∧ Stp σ S w σ' S w' := by
  unfold buildSliceE at hb
  split at hb
  · cases hb
  · rename_i e he
    split at hb
    · rename_i n a z hs ha hz
      split at hb
      · rename_i hc
        simp only [Bool.and_eq_true, Nat.ble_eq] at hc
        obtain ⟨⟨hn1, hlim⟩, hzl⟩ := hc
        have hzl : z.cells.length = n := by simpa using hzl
        split at hb
        · cases hb
        · rename_i cs hf
          simp only [Option.map_eq_some_iff] at hb
          obtain ⟨es, hch, rfl⟩ := hb
          obtain ⟨i, zv, hi, hzv, hzr⟩ := zeroV_sound σ hz
          have hzc := hzr.cells
          have hzlen : zv.cells.toList.length = n := by rw [← hzc.length]; exact hzl
          obtain ⟨cells', g1, g2⟩ := fillE_sound hf (reps_sound hzc len) hp
          obtain ⟨c1, c2, c3, c4⟩ := chunk_flat hch
          have hrow := h.newRow e cells' []
          simp only [List.append_nil] at hrow
          refine ⟨.slice (some ⟨w.heap.size, 0, none⟩) len len, _, _, ?_, ?_, hrow.1, hrow.2⟩
          · have hu := elemT_some he
            have hzs : zv.cells.size = n := by rw [← hzlen]; simp
            simp only [Instr.buildSlice, Sem.run_bind, run_underlying hu, Result.andThen_ok, szOf_run hs]
            rw [if_neg (by omega)]
            by_cases h0 : len * n = 0
            · have hl0 : len = 0 := by
                rcases Nat.mul_eq_zero.1 h0 with h' | h'
                · exact h'
                · omega
              subst hl0
              have g1' : Instr.fill (fun i => some (i * n, n)) #[] rparts = some cells'.toArray := by simpa [repv] using g1
              rw [if_pos h0]
              simp only [Sem.run_bind, Sem.run_pure, Result.andThen_ok, Nat.zero_mul]
              simp only [Array.range_zero', Array.map_empty, g1']
              rfl
            · rw [if_neg h0]
              have hinit : ((Array.range (len * n)).map fun i => zv.cells[i % zv.cells.size]!) = (repv zv.cells.toList len).toArray := by
                apply Array.ext'
                rw [← repv_range, hzlen, hzs]
                simp only [Array.toList_map, Array.toList_range]
                refine List.map_congr_left fun i _ => ?_
                have hlt : i % n < n := Nat.mod_lt _ (by omega)
                have h1 : i % n < zv.cells.size := by omega
                have h2 : i % n < zv.cells.toList.length := by omega
                rw [getElem!_pos zv.cells (i % n) h1, getElem!_pos zv.cells.toList (i % n) h2, Array.getElem_toList]
              simp only [Sem.run_bind, Sem.run_pure, Result.andThen_ok, zero_run hi hzv, hinit, g1]
              rfl
          · have hle := hrow.2.le
            have hcr : CR ((σ.addI w.heap.size 0 cells').addT w.heap.size e) cs w.heap.size 0 := CR.of_vals (g2.mono hle) fun i v hv => by
              have := Sg.addI_get σ w.heap.size 0 cells' i v hv
              simpa [Sg.addT] using this
            have hlr : LR ((σ.addI w.heap.size 0 cells').addT w.heap.size e) n es w.heap.size 0 := LR.of_flat c2 (by rw [c3]; exact hcr.take _)
            have := VR.list (t := some e) (tk := .exact) (cap := len) (fun t' ht' => by cases ht'; simp [Sg.addT]) hlr (by omega) (by simp [tkOk, c1])
            rw [c1] at this
            exact this
      · cases hb
    · cases hb

end
end Go.Ev
