/-
  The sum of a string's bytes: what encode.Sum and the reference's Sum compute, for every string.
-/
import Derived.Test.YtilldjgagokcfaaRows
import Derived.WalkKit
import Derived.ProofKit
import Derived.Below
namespace Go.Proofs.Ytilldjgagokcfaa
open Go.RowKit
set_option linter.unusedVariables false

/-- Adler's two numbers. -/
def adl : List UInt8 → Nat → Nat → Nat × Nat
  | [], a, b => (a, b)
  | c :: l, a, b => adl l ((a + c.toNat) % 65521) ((b + (a + c.toNat) % 65521) % 65521)

theorem adl_lt : ∀ (l : List UInt8) (a b : Nat), a < 65521 → b < 65521 → (adl l a b).1 < 65521 ∧ (adl l a b).2 < 65521
  | [], a, b, ha, hb => ⟨ha, hb⟩
  | c :: l, a, b, ha, hb => adl_lt l _ _ (Nat.mod_lt _ (by omega)) (Nat.mod_lt _ (by omega))

theorem adl_append : ∀ (l m : List UInt8) (a b : Nat), adl (l ++ m) a b = adl m (adl l a b).1 (adl l a b).2
  | [], m, a, b => rfl
  | c :: l, m, a, b => adl_append l m _ _

def sumOf (l : List UInt8) : Nat := 65536 * (adl l 1 0).2 + (adl l 1 0).1

theorem adl_step {s : ByteArray} {k : Nat} (h : k < s.size) (a b : Nat) :
    adl (s.data.toList.drop k) a b = adl (s.data.toList.drop (k + 1)) ((a + s[k].toNat) % 65521) ((b + (a + s[k].toNat) % 65521) % 65521) := by
  have hl : k < s.data.toList.length := by simpa using h
  rw [List.drop_eq_getElem_cons hl]
  rfl

theorem wrap_small (x : Int) (h0 : 0 ≤ x) (h1 : x < 9223372036854775808) : wrap64 x = x := by
  unfold wrap64; omega

theorem wrap_one (m c : Nat) (hm : m < 65521) (hc : c < 65521) : (wrap64 ((m : Int) + wrap64 (c : Int))).tmod 65521 = (((m + c) % 65521 : Nat) : Int) := by
  rw [wrap_small (c : Int) (by omega) (by omega), wrap_small _ (by omega) (by omega), Int.tmod_eq_emod_of_nonneg (by omega)]
  omega

theorem wrap_two (n m : Nat) (hn : n < 65521) (hm : m < 65521) : (wrap64 ((n : Int) + (m : Int))).tmod 65521 = (((n + m) % 65521 : Nat) : Int) := by
  rw [wrap_small _ (by omega) (by omega), Int.tmod_eq_emod_of_nonneg (by omega)]
  omega

theorem round_end {s : ByteArray} {k m n : Nat} {r : Nat × Nat} (h : k < s.size) (hm : m < 65521) (hn : n < 65521) (HS : Hid (adl (s.data.toList.drop k) m n = r)) :
    ∃ k' m' n' : Nat, k' ≤ s.size ∧ Value.int .i64 ((k : Int) + 1) = .int .i64 k' ∧ Value.int .i64 ((wrap64 ((m : Int) + wrap64 (s[k].toNat : Int))).tmod 65521) = .int .i64 m' ∧
      Value.int .i64 ((wrap64 ((n : Int) + (wrap64 ((m : Int) + wrap64 (s[k].toNat : Int))).tmod 65521)).tmod 65521) = .int .i64 n' ∧ m' < 65521 ∧ n' < 65521 ∧ Hid (adl (s.data.toList.drop k') m' n' = r) := by
  have hc : s[k].toNat < 65521 := by have := s[k].toNat_lt; omega
  have hlt : (m + s[k].toNat) % 65521 < 65521 := Nat.mod_lt _ (by omega)
  refine ⟨k + 1, (m + s[k].toNat) % 65521, (n + (m + s[k].toNat) % 65521) % 65521, h, by simp, by rw [wrap_one m _ hm hc], by rw [wrap_one m _ hm hc, wrap_two n _ hn hlt], hlt, Nat.mod_lt _ (by omega), ?_⟩
  have := HS.out
  rw [adl_step h] at this
  exact this

theorem sum_end {s : ByteArray} {k m n : Nat} (hk : k ≤ s.size) (h : ¬ k < s.size) (HS : Hid (adl (s.data.toList.drop k) m n = adl s.data.toList 1 0)) : (65536 * (n : Int) + (m : Int)) = (sumOf s.data.toList : Nat) := by
  have h1 := HS.out
  have : k = s.size := by omega
  subst this
  rw [List.drop_eq_nil_of_le (by simp)] at h1
  have h2 : (m, n) = adl s.data.toList 1 0 := h1
  unfold sumOf
  rw [← h2]
  simp

set_option maxRecDepth 100000 in
/-- The reference's Sum. -/
theorem sum10 (s : ByteArray) (hs : s.size ≤ 9223372036854775807) (w : World) :
    Calls Try.prog 10 #[.string s] w fun e w' => e = .returned (.int .i64 (sumOf s.data.toList)) ∧ w' = w := by
  go_enter Try.func10, Try.ntmps10
  go_wp2
  go_loop [3, 4, 5] (fun a b i => ∃ k m n : Nat, k ≤ s.size ∧ i = .int .i64 k ∧ a = .int .i64 m ∧ b = .int .i64 n ∧ m < 65521 ∧ n < 65521 ∧ Hid (adl (s.data.toList.drop k) m n = adl s.data.toList 1 0)) (fun _ _ i => s.size - (intOf i).toNat)
  case atStart => exact ⟨0, 1, 0, Nat.zero_le _, rfl, rfl, rfl, by omega, by omega, rfl⟩
  case round =>
    obtain ⟨k, m, n, hk, rfl, rfl, rfl, hm, hn, HS⟩ := hrel
    go_wp2
    · have hlt : k < s.size := by assumption
      exact ⟨round_end hlt hm hn HS, by simp [intOf]; omega⟩
    · have hge : ¬ k < s.size := by assumption
      go_ret
      exact ⟨by rw [sum_end hk hge HS]; rfl, rfl⟩

set_option maxRecDepth 100000 in
/-- encode.Sum. -/
theorem sum9 (s : ByteArray) (hs : s.size ≤ 9223372036854775807) (w : World) :
    Calls Try.prog 9 #[.string s] w fun e w' => e = .returned (.int .i64 (sumOf s.data.toList)) ∧ w' = w := by
  go_enter Try.func9, Try.ntmps9
  go_wp2
  go_loop [3, 4, 8] (fun a b i => ∃ k m n : Nat, k ≤ s.size ∧ i = .int .i64 k ∧ a = .int .i64 m ∧ b = .int .i64 n ∧ m < 65521 ∧ n < 65521 ∧ Hid (adl (s.data.toList.drop k) m n = adl s.data.toList 1 0)) (fun _ _ i => s.size - (intOf i).toNat)
  case atStart => exact ⟨0, 1, 0, Nat.zero_le _, rfl, rfl, rfl, by omega, by omega, rfl⟩
  case round =>
    obtain ⟨k, m, n, hk, rfl, rfl, rfl, hm, hn, HS⟩ := hrel
    go_wp2
    · have hlt : k < s.size := by assumption
      exact ⟨round_end hlt hm hn HS, by simp [intOf]; omega⟩
    · have hge : ¬ k < s.size := by assumption
      go_ret
      exact ⟨by rw [sum_end hk hge HS]; rfl, rfl⟩

end Go.Proofs.Ytilldjgagokcfaa
