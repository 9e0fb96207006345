/-
  Ev, part 5: the operations that leave memory alone.
-/
import Derived.Test.YtilldjgagokcfaaGreatEvOps
import Derived.Laws.StructEq
set_option linter.unusedVariables false
set_option linter.unusedSimpArgs false
namespace Go.Ev
open Go.RowKit

section
variable {P : Program} {σ : Sg}

theorem str_eq {a b : List UInt8} {s t : ByteArray} (h : s.data.toList = a) (k : t.data.toList = b) : (s.toList == t.toList) = decide (a = b) := by
  rw [ByteArray.toList_eq, ByteArray.toList_eq, h, k]
  rw [Bool.eq_iff_iff]; simp

theorem eqFs_sound (d D : Nat) (w : World) (ih : ∀ (t : TypeId) (x y : V) (u v : Value) (b : Bool), eqE P d t x y = some b → VR σ x u → VR σ y v → (Op.equalIn D t u v).run P w = .ok b w) :
    ∀ (fs : List Field) (xs ys : List V) (us vs : List Value) (b : Bool), eqFs P (eqE P d) fs xs ys = some b → VRs σ xs us → VRs σ ys vs → (Op.eqFields D us.toArray vs.toArray fs).run P w = .ok b w
  | [], xs, ys, us, vs, b, h, _, _ => by simp [eqFs] at h; subst h; simp [Op.eqFields]
  | f :: fs, xs, ys, us, vs, b, h, hx, hy => by
    simp only [eqFs] at h
    split at h
    · rename_i hn
      simp only [Op.eqFields]
      rw [if_neg (by simpa using hn)]
      exact eqFs_sound d D w ih fs xs ys us vs b h hx hy
    · rename_i hn
      split at h
      · rename_i x y h1 h2
        obtain ⟨u, g1, g2⟩ := partE_sound h1 hx w
        obtain ⟨v, g3, g4⟩ := partE_sound h2 hy w
        simp only [Op.eqFields]
        rw [if_pos (by simpa using hn)]
        split at h
        · rename_i he
          have := ih f.type x y u v true he g2 g4
          simp only [Sem.run_bind, g1, Result.andThen_ok, g3, this, Bool.not_true, Bool.false_eq_true, if_false]
          exact eqFs_sound d D w ih fs xs ys us vs b h hx hy
        · rename_i he
          cases h
          have := ih f.type x y u v false he g2 g4
          simp only [Sem.run_bind, g1, Result.andThen_ok, g3, this, Bool.not_false, if_true, Sem.run_pure]
        · cases h
      · cases h

/-- Two arrays' elements. -/
def eqRow (P : Program) (D e s : Nat) (us vs : Array Value) : Nat → Nat → Sem Bool
  | _, 0 => pure true
  | i, n + 1 => do
    let a ← part e us (i * s)
    let b ← part e vs (i * s)
    let r ← Op.equalIn D e a b
    if (!r) = true then pure false else eqRow P D e s us vs (i + 1) n

theorem eqRow_run (w : World) (D : Nat) (t e n s : Nat) (us vs : Array Value) (ht : P.underlying t = some (.array n e)) (hs : szOf P e = some s) :
    (Op.equalIn (D + 1) t (.agg us) (.agg vs)).run P w = (eqRow P D e s us vs 0 n).run P w := by
  simp only [Op.equalIn, Sem.run_bind, run_underlying ht, Result.andThen_ok, szOf_run hs]
  rw [Std.Legacy.Range.forIn_eq_forIn_range']
  have hz : (Std.Legacy.Range.size { start := 0, stop := n, step := 1, step_pos := Nat.one_pos }) = n := by simp [Std.Legacy.Range.size]
  simp only [Std.Legacy.Range.size, Nat.sub_zero, Nat.add_sub_cancel, Nat.div_one]
  clear hz ht
  generalize 0 = i
  induction n generalizing i w with
  | zero => simp [eqRow]
  | succ n ih =>
    rw [List.range'_succ]
    simp only [List.forIn_cons, eqRow, Sem.run_bind]
    generalize (part e us (i * s)).run P w = r1
    cases r1 with
    | halt x w1 => simp [Result.andThen]
    | ok a w1 =>
      simp only [Result.andThen_ok]
      generalize (part e vs (i * s)).run P w1 = r2
      cases r2 with
      | halt x w2 => simp [Result.andThen]
      | ok b w2 =>
        simp only [Result.andThen_ok]
        generalize (Op.equalIn D e a b).run P w2 = r3
        cases r3 with
        | halt x w3 => simp [Result.andThen]
        | ok r w3 =>
          cases r
          · simp
          · simp only [Result.andThen_ok, Bool.not_true, Bool.false_eq_true, if_false, Sem.run_bind, Sem.run_pure]
            exact ih w3 (i + 1)

theorem eqEs_sound (d D : Nat) (w : World) (ih : ∀ (t : TypeId) (x y : V) (u v : Value) (b : Bool), eqE P d t x y = some b → VR σ x u → VR σ y v → (Op.equalIn D t u v).run P w = .ok b w) (e s : Nat) :
    ∀ (n i : Nat) (xs ys : List V) (us vs : List Value) (b : Bool), eqEs P (eqE P d) e s xs ys i n = some b → VRs σ xs us → VRs σ ys vs → (eqRow P D e s us.toArray vs.toArray i n).run P w = .ok b w
  | 0, i, xs, ys, us, vs, b, h, _, _ => by simp [eqEs] at h; subst h; simp [eqRow]
  | n + 1, i, xs, ys, us, vs, b, h, hx, hy => by
    simp only [eqEs] at h
    split at h
    · rename_i x y h1 h2
      obtain ⟨u, g1, g2⟩ := partE_sound h1 hx w
      obtain ⟨v, g3, g4⟩ := partE_sound h2 hy w
      simp only [eqRow]
      split at h
      · rename_i he
        have := ih e x y u v true he g2 g4
        simp only [Sem.run_bind, g1, Result.andThen_ok, g3, this, Bool.not_true, Bool.false_eq_true, if_false]
        exact eqEs_sound d D w ih e s n (i + 1) xs ys us vs b h hx hy
      · rename_i he
        cases h
        have := ih e x y u v false he g2 g4
        simp only [Sem.run_bind, g1, Result.andThen_ok, g3, this, Bool.not_false, if_true, Sem.run_pure]
      · cases h
    · cases h

set_option maxHeartbeats 2000000 in
theorem eqE_sound (w : World) : ∀ (d D : Nat) (t : TypeId) (x y : V) (u v : Value) (b : Bool), d ≤ D → eqE P d t x y = some b → VR σ x u → VR σ y v → (Op.equalIn D t u v).run P w = .ok b w := by
  intro d
  induction d with
  | zero => intro D t x y u v b _ h; simp [eqE] at h
  | succ d ih =>
    intro D t x y u v b hD h hx hy
    obtain ⟨D, rfl⟩ : ∃ D', D = D' + 1 := ⟨D - 1, by omega⟩
    have ih' := fun t x y u v b h1 h2 h3 => ih D t x y u v b (by omega) h1 h2 h3
    simp only [eqE] at h
    split at h <;> try (cases h; done)
    all_goals rename_i hu
    · cases hx; cases hy; cases h; simp [Op.equalIn, run_underlying hu]
    · split at h
      · rename_i hk
        cases h; cases hx; cases hy
        simp at hk
        simp [Op.equalIn, run_underlying hu, hk]
      · cases h
    · cases h
      cases hx with
      | str s hs => cases hy with
        | str s' hs' =>
          rw [run_equalIn_string w D t s s' hu, str_eq hs hs']
    · cases h; cases hx; cases hy; simp [Op.equalIn, run_underlying hu]
    · cases h; cases hx; cases hy; simp [Op.equalIn, run_underlying hu]
    · cases h; cases hx; cases hy; simp [Op.equalIn, run_underlying hu]
    · cases h; cases hx; cases hy; simp [Op.equalIn, run_underlying hu]
    · cases h; cases hx; cases hy; simp [Op.equalIn, run_underlying hu]
    · rename_i e i a j c
      split at h
      · rename_i n hs
        split at h
        · rename_i hij
          have hij : i = j := by simpa using hij
          subst hij
          cases h
          cases hx with
          | ptr h1 => cases hy with
            | ptr h2 =>
              rw [h1] at h2; cases h2
              simp [Op.equalIn, run_underlying hu, szOf_run hs, sameAddr]
              rw [Bool.eq_iff_iff]; simp
        · cases h
      · cases h
    · cases h; cases hx; cases hy; simp [Op.equalIn, run_underlying hu]
    · cases h; cases hx; cases hy; simp [Op.equalIn, run_underlying hu]
    · cases h; cases hx; cases hy; simp [Op.equalIn, run_underlying hu]
    · rename_i a u' c v'
      cases hx with
      | iface _ h1 => cases hy with
        | iface _ h2 =>
          split at h
          · rename_i hac
            have hac : a = c := by simpa using hac
            subst hac
            split at h
            · rename_i i hi
              split at h
              · rename_i hcmp
                have := ih' a _ _ _ _ b h h1 h2
                simp [Op.equalIn, run_underlying hu, typeInfo, hi, hcmp, this]
              · cases h
            · cases h
          · rename_i hac
            cases h
            have hac : a ≠ c := by simpa using hac
            simp [Op.equalIn, run_underlying hu, hac]
    · rename_i fs xs ys
      split at h
      · cases h
      · rename_i hst
        have hst : P.stoodInHeld t = false := by simpa using hst
        cases hx with
        | agg h1 => cases hy with
          | agg h2 =>
            have hf : P.fieldsOf t = fs := by simp [Program.fieldsOf, hu]
            rw [run_equalIn_struct w D t _ _ (by rw [hf]; exact hu) hst, hf]
            exact eqFs_sound d D w ih' fs.toList xs ys _ _ b h h1 h2
    · rename_i n e xs ys
      split at h
      · rename_i s hs
        cases hx with
        | agg h1 => cases hy with
          | agg h2 =>
            rw [eqRow_run w D t e n s _ _ hu hs]
            exact eqEs_sound d D w ih' e s n 0 xs ys _ _ b h h1 h2
      · cases h
    · cases h; cases hx; cases hy; simp [Op.equalIn, run_underlying hu]
    · cases h; cases hx; cases hy; simp [Op.equalIn, run_underlying hu]
    · cases h; cases hx; cases hy; simp [Op.equalIn, run_underlying hu]
    · cases h; cases hx; cases hy; simp [Op.equalIn, run_underlying hu]
    · cases h; cases hx; cases hy; simp [Op.equalIn, run_underlying hu]
    · cases h; cases hx; cases hy; simp [Op.equalIn, run_underlying hu]
    · cases h; cases hx; cases hy; simp [Op.equalIn, run_underlying hu]
    · cases h; cases hx; cases hy; simp [Op.equalIn, run_underlying hu]
    · cases h; cases hx; cases hy; simp [Op.equalIn, run_underlying hu]

/-! ### Operators -/

theorem intOp_sound {op : BinOp} {k : IntKind} {a b : Int} {v : V} (h : intOp op k a b = some v) (t : TypeId) (w : World) : ∃ u, (binOp op t (.int k a) (.int k b)).run P w = .ok u w ∧ VR σ v u := by
  cases op <;> simp only [intOp] at h
  case add => cases h; exact ⟨_, by simp [binOp, Op.intArith], .int _ _⟩
  case sub => cases h; exact ⟨_, by simp [binOp, Op.intArith], .int _ _⟩
  case mul => cases h; exact ⟨_, by simp [binOp, Op.intArith], .int _ _⟩
  case quo =>
    split at h
    · cases h
    · rename_i hb
      cases h
      have hb : b ≠ 0 := by simpa using hb
      exact ⟨_, by simp [binOp, Op.intDiv, hb], .int _ _⟩
  case rem =>
    split at h
    · cases h
    · rename_i hb
      cases h
      have hb : b ≠ 0 := by simpa using hb
      exact ⟨_, by simp [binOp, Op.intDiv, hb], .int _ _⟩
  case and => cases h; exact ⟨_, by simp only [binOp, ne_eq, not_true_eq_false, if_false, Op.intBits]; rfl, .int _ _⟩
  case or => cases h; exact ⟨_, by simp only [binOp, ne_eq, not_true_eq_false, if_false, Op.intBits]; rfl, .int _ _⟩
  case xor => cases h; exact ⟨_, by simp only [binOp, ne_eq, not_true_eq_false, if_false, Op.intBits]; rfl, .int _ _⟩
  case andNot => cases h; exact ⟨_, by simp only [binOp, ne_eq, not_true_eq_false, if_false, Op.intBits]; rfl, .int _ _⟩
  case eql => cases h; exact ⟨_, by simp [binOp, Op.intCmp], .bool _⟩
  case neq => cases h; exact ⟨_, by simp only [binOp, ne_eq, not_true_eq_false, if_false, Op.intCmp]; rfl, .bool _⟩
  case lss => cases h; exact ⟨_, by simp [binOp, Op.intCmp], .bool _⟩
  case leq => cases h; exact ⟨_, by simp [binOp, Op.intCmp], .bool _⟩
  case gtr => cases h; exact ⟨_, by simp [binOp, Op.intCmp], .bool _⟩
  case geq => cases h; exact ⟨_, by simp [binOp, Op.intCmp], .bool _⟩
  all_goals cases h

theorem shiftE_sound {op : BinOp} {k j : IntKind} {a b : Int} {v : V} (ho : op = .shl ∨ op = .shr) (h : shiftE op k a b = some v) (t : TypeId) (w : World) : ∃ u, (binOp op t (.int k a) (.int j b)).run P w = .ok u w ∧ VR σ v u := by
  unfold shiftE at h
  split at h
  · cases h
  · rename_i hb
    have hb : ¬ b < 0 := by simpa using hb
    rcases ho with rfl | rfl
    · simp only at h; cases h; exact ⟨_, by simp only [binOp, Op.shift]; rw [if_neg hb]; rfl, .int _ _⟩
    · simp only at h; cases h; exact ⟨_, by simp only [binOp, Op.shift]; rw [if_neg hb]; rfl, .int _ _⟩

theorem strOp_sound {op : BinOp} {a b : List UInt8} {s r : ByteArray} {v : V} (h : strOp op a b = some v) (hs : s.data.toList = a) (hr : r.data.toList = b) (t : TypeId) (w : World) : ∃ u, (binOp op t (.string s) (.string r)).run P w = .ok u w ∧ VR σ v u := by
  have hb : (binOp op t (.string s) (.string r)) = Op.stringOp op s r := by cases op <;> rfl
  rw [hb]
  have he : (a == b) = decide (a = b) := by rw [Bool.eq_iff_iff]; simp
  have h1 : s.toList = a := by rw [ByteArray.toList_eq]; exact hs
  have h2 : r.toList = b := by rw [ByteArray.toList_eq]; exact hr
  cases op <;> simp only [strOp] at h
  case add =>
    split at h
    · rename_i hc
      cases h
      have hl : s.size = a.length := by rw [← hs]; exact (Array.length_toList).symm
      have hl2 : r.size = b.length := by rw [← hr]; exact (Array.length_toList).symm
      have hc : a.length + b.length ≤ 9223372036854775807 := by simpa using hc
      refine ⟨.string (s ++ r), ?_, .str _ (by rw [← hs, ← hr]; simp [ByteArray.data_append])⟩
      simp only [Op.stringOp]
      rw [if_neg (by rw [hl, hl2]; simp; omega)]
      rfl
    · cases h
  case eql => cases h; exact ⟨_, by rw [show Op.stringOp .eql s r = pure (.bool (s.toList == r.toList)) from rfl, h1, h2, he]; rfl, .bool _⟩
  case neq => cases h; exact ⟨_, by rw [show Op.stringOp .neq s r = pure (.bool !(s.toList == r.toList)) from rfl, h1, h2, he]; rfl, .bool _⟩
  case lss => cases h; exact ⟨_, by simp only [Op.stringOp, h1, h2]; rfl, .bool _⟩
  case leq => cases h; exact ⟨_, by simp only [Op.stringOp, h1, h2, he]; rfl, .bool _⟩
  case gtr => cases h; exact ⟨_, by simp only [Op.stringOp, h1, h2, he]; rfl, .bool _⟩
  case geq => cases h; exact ⟨_, by simp only [Op.stringOp, h1, h2]; rfl, .bool _⟩
  all_goals cases h

end
end Go.Ev
