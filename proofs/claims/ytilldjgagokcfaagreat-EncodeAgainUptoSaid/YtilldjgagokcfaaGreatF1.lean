/-
  Files: what is read of a file that was written, and of one of which a byte is another one, or bytes are lacking, or more are there.
-/
import Derived.Test.YtilldjgagokcfaaGreatD6
import Derived.Test.YtilldjgagokcfaaGreatW9
set_option linter.unusedVariables false
set_option linter.unusedSimpArgs false
namespace Go.Ev
open Go.RowKit

theorem be4_inj {m n : Nat} (hm : m < 4294967296) (hn : n < 4294967296) (h : be4 m = be4 n) : m = n := by
  rw [← num_be4 hm, h, num_be4 hn]

theorem adl_fst : ∀ (l : List UInt8) (a b : Nat), a < 65521 → (adl l a b).1 = (a + (l.map UInt8.toNat).sum) % 65521
  | [], a, b, h => by simp [adl, Nat.mod_eq_of_lt h]
  | c :: l, a, b, h => by
    rw [adl, adl_fst l _ _ (Nat.mod_lt _ (by omega))]
    simp only [List.map_cons, List.sum_cons]
    omega

theorem sum_byte {l r : List UInt8} {c d : UInt8} (h : sumOf (l ++ c :: r) = sumOf (l ++ d :: r)) : c = d := by
  have h1 := adl_lt (l ++ c :: r) 1 0 (by omega) (by omega)
  have h2 := adl_lt (l ++ d :: r) 1 0 (by omega) (by omega)
  unfold sumOf at h
  have e : (adl (l ++ c :: r) 1 0).1 = (adl (l ++ d :: r) 1 0).1 := by omega
  rw [adl_fst _ _ _ (by omega), adl_fst _ _ _ (by omega)] at e
  simp only [List.map_append, List.map_cons, List.sum_append, List.sum_cons] at e
  have hc := c.toNat_lt
  have hd := d.toNat_lt
  exact UInt8.toNat.inj (by omega)

/-- What is right around a struct's bytes. -/
structure Framed (f : List UInt8) (k : UInt8) : Prop where
  len : 12 ≤ f.length
  hd : ∀ j, j < 4 → f[j]? = (hdr k)[j]?
  size : slc f 4 8 = be4 (f.length - 12)
  sum : slc f (f.length - 4) f.length = be4 (sumOf (f.take (f.length - 4)))

theorem find_none' {f : List UInt8} {k : UInt8} (h1 : ∀ j, j < 4 → f[j]? = (hdr k)[j]?) : (List.range 4).find? (fun i => f[i]? != (hdr k)[i]?) = none := by
  rw [List.find?_eq_none]
  intro j hj
  simp only [List.mem_range] at hj
  simp [h1 j hj]

theorem outP_none {f : List UInt8} {k : UInt8} : outP f k = none ↔ Framed f k := by
  constructor
  · intro h
    unfold outP at h
    split at h
    · cases h
    · rename_i hf
      split at h
      · cases h
      · rename_i hn
        split at h
        · cases h
        · rename_i hs
          refine ⟨by omega, fun j hj => ?_, Decidable.of_not_not fun h => hn (.inr h), Decidable.of_not_not hs⟩
          rw [List.find?_eq_none] at hf
          have := hf j (by simpa using hj)
          simpa using this
  · rintro ⟨h1, h2, h3, h4⟩
    unfold outP
    rw [find_none' h2]
    simp only
    rw [if_neg (by intro h; rcases h with h | h; omega; exact h h3), if_neg (fun h => h h4)]

theorem Framed.kind {f : List UInt8} {k k' : UInt8} (h : Framed f k) (h' : Framed f k') : k = k' := by
  have h1 := h.hd 2 (by omega)
  have h2 := h'.hd 2 (by omega)
  rw [h1] at h2
  simpa [hdr] using h2

theorem Framed.take4 {f : List UInt8} {k : UInt8} (h : Framed f k) : f.take 4 = hdr k := by
  have hl := h.len
  apply List.ext_getElem?
  intro j
  by_cases hj : j < 4
  · rw [List.getElem?_take_of_lt hj]; exact h.hd j hj
  · rw [List.getElem?_eq_none (by simp; omega), List.getElem?_eq_none (by simp [hdr]; omega)]

theorem slc_zero (f : List UInt8) (j : Nat) : slc f 0 j = f.take j := by simp [slc]
theorem slc_end (f : List UInt8) (j : Nat) : slc f j f.length = f.drop j := by
  unfold slc
  rw [List.take_of_length_le (by simp)]

/-- A file is what is written of its struct's bytes. -/
theorem Framed.eq {f : List UInt8} {k : UInt8} (h : Framed f k) : f = fileOf k (slc f 8 (f.length - 4)) := by
  have hl := h.len
  have h8 : f.take (f.length - 4) = [82, 69, k, 1] ++ be4 (f.length - 12) ++ slc f 8 (f.length - 4) := by
    rw [← slc_zero, ← slc_app (by omega : 0 ≤ 8) (by omega : 8 ≤ f.length - 4), ← slc_app (by omega : 0 ≤ 4) (by omega : 4 ≤ 8), slc_zero, h.take4, h.size]; rfl
  have hsl : (slc f 8 (f.length - 4)).length = f.length - 12 := by rw [slc_len (by omega)]; omega
  unfold fileOf
  rw [hsl, ← h8, ← h.sum, slc_end, List.take_append_drop]

theorem be4_len (n : Nat) : (be4 n).length = 4 := rfl

theorem fileOf_len (k : UInt8) (bs : List UInt8) : (fileOf k bs).length = bs.length + 12 := by simp [fileOf, be4]

theorem fileOf_take (k : UInt8) (bs : List UInt8) : (fileOf k bs).take (bs.length + 8) = [82, 69, k, 1] ++ be4 bs.length ++ bs := by
  unfold fileOf
  rw [List.take_append_of_le_length (by simp [be4]), List.take_of_length_le (by simp [be4])]

theorem fileOf_framed (k : UInt8) (bs : List UInt8) : Framed (fileOf k bs) k := by
  have hl := fileOf_len k bs
  refine ⟨by omega, fun j hj => ?_, ?_, ?_⟩
  · have : j = 0 ∨ j = 1 ∨ j = 2 ∨ j = 3 := by omega
    rcases this with rfl | rfl | rfl | rfl <;> rfl
  · rw [hl, Nat.add_sub_cancel]; rfl
  · rw [hl, show bs.length + 12 - 4 = bs.length + 8 by omega, fileOf_take]
    have := slc_end (fileOf k bs) (bs.length + 8)
    rw [hl] at this
    rw [this]
    unfold fileOf
    rw [List.drop_append_of_le_length (by simp [be4]), List.drop_of_length_le (by simp [be4]), List.nil_append]

theorem fileOf_body (k : UInt8) (bs : List UInt8) : slc (fileOf k bs) 8 ((fileOf k bs).length - 4) = bs := by
  rw [fileOf_len, show bs.length + 12 - 4 = bs.length + 8 by omega, ← slc_take (n := bs.length + 8) (Nat.le_refl _), fileOf_take]
  have h : ([82, 69, k, 1] ++ be4 bs.length ++ bs) = [82, 69, k, 1] ++ be4 bs.length ++ (bs ++ []) := by simp
  rw [h]
  have := slc_pre ([82, 69, k, 1] ++ be4 bs.length) bs []
  simp only [List.length_append, be4_len] at this
  rw [show bs.length + 8 = [82, 69, k, 1].length + 4 + bs.length by simp; omega]
  exact this

/-- What has been written is read. -/
theorem rdOut_file {k : UInt8} {t : Nat} {cs : List V} {bs : List UInt8} (he : Enc (sch t) cs bs) (ht : sch t ≠ []) (hl : bs.length ≤ 99988) : rdOut (fileOf k bs) k t = none := by
  have hlen := fileOf_len k bs
  rw [rdOut_body (by omega) (outP_none.2 (fileOf_framed k bs)), hlen, show bs.length + 12 - 4 = bs.length + 8 by omega, fileOf_take]
  obtain ⟨d, he⟩ := he
  have h1 : scan ([82, 69, k, 1] ++ be4 bs.length ++ bs) (bs.length + 12 + 1) t 8 = .ok (8 + bs.length) := by
    have := scan_enc (s := [82, 69, k, 1] ++ be4 bs.length ++ bs) (by simp [be4]; omega) d (pre := [82, 69, k, 1] ++ be4 bs.length) (post := []) (k := bs.length + 12 + 1) ht he (by simp) (by omega)
    simp only [List.length_append, be4_len, List.length_cons, List.length_nil] at this
    exact this
  unfold bodyE
  rw [h1]
  simp only
  rw [if_neg (by simp [be4]; omega)]
  rfl

theorem rdOut_none {f : List UInt8} {k : UInt8} {t : Nat} (h : rdOut f k t = none) : f.length ≤ 100000 ∧ Framed f k := by
  unfold rdOut at h
  split at h
  · cases h
  · rename_i hl
    split at h
    · cases h
    · rename_i ho
      exact ⟨by omega, outP_none.1 ho⟩

theorem not_framed {f : List UInt8} {k : UInt8} {t : Nat} (h : ¬ Framed f k) : rdOut f k t ≠ none := fun e => h (rdOut_none e).2

/-- One byte is another one. -/
theorem changed {f : List UInt8} {k k' : UInt8} {i : Nat} {x : UInt8} (hb : f.length ≤ 100000) (h : Framed f k) (hi : i < f.length) (hx : f[i] ≠ x) : ¬ Framed (f.take i ++ [x] ++ f.drop (i + 1)) k' := by
  intro h'
  obtain ⟨g, hg⟩ : ∃ g, g = f.take i ++ [x] ++ f.drop (i + 1) := ⟨_, rfl⟩
  rw [← hg] at h'
  have hl := h.len
  have hgl : g.length = f.length := by rw [hg]; simp; omega
  have hs := h.sum
  have hs' := h'.sum
  rw [hgl, ← hgl, slc_end, hgl] at hs'
  rw [slc_end] at hs
  by_cases hc : i < f.length - 4
  · -- the byte is ahead of the checksum
    have hd : g.drop (f.length - 4) = f.drop (f.length - 4) := by
      rw [hg, List.append_assoc, List.drop_append, List.drop_of_length_le (by simp; omega)]
      simp only [List.nil_append, List.length_take, Nat.min_eq_left (Nat.le_of_lt hi)]
      rw [List.singleton_append, show f.length - 4 - i = (f.length - 4 - i - 1) + 1 by omega, List.drop_succ_cons, List.drop_drop]
      congr 1; omega
    have ht : g.take (f.length - 4) = f.take i ++ x :: (f.drop (i + 1)).take (f.length - 4 - i - 1) := by
      rw [hg, List.append_assoc, List.take_append, List.take_of_length_le (by simp; omega)]
      simp only [List.length_take, Nat.min_eq_left (Nat.le_of_lt hi)]
      rw [List.singleton_append, show f.length - 4 - i = (f.length - 4 - i - 1) + 1 by omega, List.take_succ_cons]
      simp
    have hf : f.take (f.length - 4) = f.take i ++ f[i] :: (f.drop (i + 1)).take (f.length - 4 - i - 1) := by
      have e1 : f.take (f.length - 4) = f.take i ++ (f.drop i).take (f.length - 4 - i) := by
        have := (slc_app (s := f) (by omega : 0 ≤ i) (by omega : i ≤ f.length - 4)).symm
        rw [slc_zero, slc_zero] at this
        exact this
      rw [e1, List.drop_eq_getElem_cons hi]
      obtain ⟨n, hn⟩ : ∃ n, f.length - 4 - i = n + 1 := ⟨f.length - 4 - i - 1, by omega⟩
      rw [hn, List.take_succ_cons]; rfl
    rw [hd, hs] at hs'
    have := be4_inj (sumOf_lt _) (sumOf_lt _) hs'
    rw [ht, hf] at this
    exact hx (sum_byte this)
  · have ht : g.take (f.length - 4) = f.take (f.length - 4) := by
      rw [hg, List.append_assoc, List.take_append_of_le_length (by simp; omega), List.take_take]
      congr 1; omega
    rw [ht, ← hs] at hs'
    have h1 : (g.drop (f.length - 4))[i - (f.length - 4)]? = some x := by
      rw [List.getElem?_drop, show f.length - 4 + (i - (f.length - 4)) = i by omega, hg, List.append_assoc, List.getElem?_append_right (by simp; omega)]
      simp [Nat.min_eq_left (Nat.le_of_lt hi)]
    have h2 : (f.drop (f.length - 4))[i - (f.length - 4)]? = some f[i] := by
      rw [List.getElem?_drop, show f.length - 4 + (i - (f.length - 4)) = i by omega, List.getElem?_eq_getElem hi]
    rw [hs', h2] at h1
    cases h1
    exact hx rfl

/-- Bytes are lacking at the end. -/
theorem lacking {f : List UInt8} {k k' : UInt8} {i : Nat} (hb : f.length ≤ 100000) (h : Framed f k) (hi : i < f.length) : ¬ Framed (f.take i) k' := by
  intro h'
  have hl := h.len
  have hl' := h'.len
  have hlen : (f.take i).length = i := by simp; omega
  rw [hlen] at hl'
  have hs' := h'.size
  rw [hlen, slc_take (by omega), h.size] at hs'
  have := be4_inj (by omega) (by omega) hs'
  omega

/-- There are more. -/
theorem more {f : List UInt8} {k k' : UInt8} {x : UInt8} (hb : f.length ≤ 100000) (h : Framed f k) : ¬ Framed (f ++ [x]) k' := by
  intro h'
  have hl := h.len
  have hs' := h'.size
  have hlen : (f ++ [x]).length = f.length + 1 := by simp
  have hs : slc (f ++ [x]) 4 8 = slc f 4 8 := by
    rw [← slc_take (s := f ++ [x]) (n := f.length) (by omega : 8 ≤ f.length), List.take_left]
  rw [hlen, hs, h.size] at hs'
  have := be4_inj (by omega) (by omega) hs'
  omega

/-- How many of the four functions read a file. -/
def cnt (l : List (Option (Nat × Int))) : Nat := (l.filter fun o => o.isNone).length
def readsOf (f : List UInt8) : Nat := cnt [rdOut f 112 14, rdOut f 99 15, rdOut f 115 20, rdOut f 118 2]

theorem readsOf_none {f : List UInt8} (h : ∀ k, ¬ Framed f k) : readsOf f = 0 := by
  have e : ∀ k t, (rdOut f k t).isNone = false := fun k t => by
    cases hr : rdOut f k t with
    | none => exact absurd hr (not_framed (h k))
    | some r => rfl
  simp [readsOf, cnt, e]

theorem readsOf_value {cs : List V} {bs : List UInt8} (he : Enc (sch 2) cs bs) (hl : bs.length ≤ 99988) : readsOf (fileOf 118 bs) = 1 := by
  have h0 := rdOut_file (k := 118) (t := 2) he (by simp [sch]) hl
  have e : ∀ k t, k ≠ 118 → (rdOut (fileOf 118 bs) k t).isNone = false := fun k t hk => by
    cases hr : rdOut (fileOf 118 bs) k t with
    | none => exact absurd ((rdOut_none hr).2.kind (fileOf_framed 118 bs)) hk
    | some r => rfl
  have e1 := e 112 14 (by decide)
  have e2 := e 99 15 (by decide)
  have e3 := e 115 20 (by decide)
  have e4 : (rdOut (fileOf 118 bs) 118 2).isNone = true := by rw [h0]; rfl
  simp [readsOf, cnt, List.filter_cons, e1, e2, e3, e4]

end Go.Ev
