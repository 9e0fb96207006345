import Derived.Test.YtodiioeddlmjhaaGreatDoorE2
import Derived.Laws.BytesString
import Derived.Lib.UnsafeStr
import Derived.IntWalk
import Derived.MapKept
set_option linter.unusedVariables false
set_option linter.unusedSimpArgs false
namespace Go.Ev
open Go.RowKit
section
variable {P : Program} {σ : Sg}
theorem eqGuard_sound {t : TypeId} {xo yo : Operand} {x y : V} {u v : Value} (h : guardE P t xo yo x y = true) (hx : VR σ x u) (hy : VR σ y v) (op : BinOp) (w : World) : (eqGuard op t xo yo u v).run P w = .ok () w := by
 unfold guardE at h
 split at h
 ·cases hx; cases hy
  simp only [Bool.or_eq_true] at h
  rcases h with h | h
  ·cases xo <;> simp [isConstO] at h
   cases op <;> rfl
  ·cases yo <;> simp [isConstO] at h
   cases op <;> cases xo <;> rfl
 ·cases hx; cases hy
  exact run_eqGuard_agg w op t xo yo _ _ (by simpa using h)
 ·rename_i h1 h2
  have k1 : ¬ (u = .nilIface ∧ v = .nilIface) := by
   rintro ⟨rfl, rfl⟩
   cases hx; cases hy; exact h1 rfl rfl
  have k2 : ∀ a b, ¬ (u = .agg a ∧ v = .agg b) := by
   rintro a b ⟨rfl, rfl⟩
   cases hx; cases hy; exact h2 _ _ rfl rfl
  cases op <;> try rfl
  all_goals (cases u <;> cases v <;> first | rfl | (exfalso; exact k1 ⟨rfl, rfl⟩) | (exfalso; exact k2 _ _ ⟨rfl, rfl⟩))
theorem binE_sound {op : BinOp} {t : TypeId} {xo yo : Operand} {x y z : V} {u v : Value} (h : binE P op t xo yo x y = some z) (hx : VR σ x u) (hy : VR σ y v) (w : World) :
 ∃ r, (do eqGuard op t xo yo u v; binOp op t u v : Sem Value).run P w = .ok r w ∧ VR σ z r := by
 unfold binE at h
 split at h
 ·rename_i j a k b
  cases hx; cases hy
  have hg : (eqGuard op t xo yo (.int j a) (.int k b)).run P w = .ok () w := by rw [eqGuard_at_int]; rfl
  rw [Sem.run_bind, hg, Result.andThen_ok]
  split at h
  ·exact shiftE_sound (.inl rfl) h t w
  ·exact shiftE_sound (.inr rfl) h t w
  ·split at h
   ·rename_i hk
    have hk : j = k := by simpa using hk
    subst hk
    exact intOp_sound h t w
   ·cases h
 ·rename_i a b
  cases hx with
  | str s hs => cases hy with
   | str r hr =>
    have hg : (eqGuard op t xo yo (.string s) (.string r)).run P w = .ok () w := by rw [eqGuard_at_string]; rfl
    rw [Sem.run_bind, hg, Result.andThen_ok]
    exact strOp_sound h hs hr t w
 ·rename_i h1 h2
  have hnum : ∀ k a k' b, ¬ (u = .int k a ∧ v = .int k' b) := by
   rintro k a k' b ⟨rfl, rfl⟩
   cases hx; cases hy; exact h1 _ _ _ _ rfl rfl
  have hstr : ∀ a b, ¬ (u = .string a ∧ v = .string b) := by
   rintro a b ⟨rfl, rfl⟩
   cases hx; cases hy; exact h2 _ _ rfl rfl
  have hnf : ∀ k a, u ≠ .float k a := by rintro k a rfl; cases hx
  have hnc : ∀ k a b, u ≠ .complex k a b := by rintro k a b rfl; cases hx
  have he : ∀ w, (binOp .eql t u v).run P w = ((Op.equal t u v).run P w).andThen fun b w' => .ok (.bool b) w' := by
   intro w
   unfold binOp
   split <;> first
    | (exfalso; exact hnum _ _ _ _ ⟨rfl, rfl⟩)
    | (exfalso; exact hstr _ _ ⟨rfl, rfl⟩)
    | (exfalso; exact hnf _ _ rfl)
    | (exfalso; exact hnc _ _ _ rfl)
    | (simp; done)
    | simp_all
  have hne : ∀ w, (binOp .neq t u v).run P w = ((Op.equal t u v).run P w).andThen fun b w' => .ok (.bool (!b)) w' := by
   intro w
   unfold binOp
   split <;> first
    | (exfalso; exact hnum _ _ _ _ ⟨rfl, rfl⟩)
    | (exfalso; exact hstr _ _ ⟨rfl, rfl⟩)
    | (exfalso; exact hnf _ _ rfl)
    | (exfalso; exact hnc _ _ _ rfl)
    | (simp; done)
    | simp_all
  split at h
  ·split at h
   ·rename_i hg
    simp only [Option.map_eq_some_iff] at h
    obtain ⟨b, hb, rfl⟩ := h
    have := eqE_sound (σ := σ) w 60 10000 t x y u v b (by omega) hb hx hy
    rw [Sem.run_bind, eqGuard_sound hg hx hy, Result.andThen_ok, he]
    exact ⟨.bool b, by rw [show Op.equal t u v = Op.equalIn 10000 t u v from rfl, this]; rfl, .bool b⟩
   ·cases h
  ·split at h
   ·rename_i hg
    simp only [Option.map_eq_some_iff] at h
    obtain ⟨b, hb, rfl⟩ := h
    have := eqE_sound (σ := σ) w 60 10000 t x y u v b (by omega) hb hx hy
    rw [Sem.run_bind, eqGuard_sound hg hx hy, Result.andThen_ok, hne]
    exact ⟨.bool (!b), by rw [show Op.equal t u v = Op.equalIn 10000 t u v from rfl, this]; rfl, .bool _⟩
   ·cases h
  ·cases h
theorem unE_sound {op : UnOp} {x z : V} {u : Value} (h : unE op x = some z) (hx : VR σ x u) (w : World) : ∃ r, (Op.unary op u).run P w = .ok r w ∧ VR σ z r := by
 unfold unE at h
 split at h
 ·cases h; cases hx; exact ⟨_, rfl, .int _ _⟩
 ·cases h; cases hx; exact ⟨_, rfl, .int _ _⟩
 ·cases h; cases hx; exact ⟨_, rfl, .bool _⟩
 ·cases h
theorem fieldAt_some {t : TypeId} {f : Nat} {fd : Field} (h : fieldAt P t f = some fd) : ∃ fs, P.underlying t = some (.struct fs) ∧ fs[f]? = some fd := by
 unfold fieldAt at h
 split at h
 ·rename_i fs hu; exact ⟨fs, hu, h⟩
 ·cases h
theorem fieldAddrE_sound {s : TypeId} {p z : V} {f : Nat} {u : Value} (h : fieldAddrE P s p f = some z) (hp : VR σ p u) (w : World) : ∃ r, (Instr.fieldAt s u f).run P w = .ok r w ∧ VR σ z r := by
 unfold fieldAddrE at h
 split at h
 ·cases h
 ·rename_i fd hf
  obtain ⟨fs, hu, hfd⟩ := fieldAt_some hf
  split at h
  ·rename_i n hs
   split at h
   ·cases h
    cases hp with
    | ptr hρ =>
     refine ⟨_, ?_, .ptr hρ⟩
     simp [Instr.fieldAt, run_underlying hu, hfd, Instr.sureAddr, fieldPlace, szOf_run hs, addr_add]
   ·cases h
    cases hp with
    | cptr ht hc =>
     rename_i off b o
     refine ⟨.pointer (some ⟨b, o + (off + fd.offset), none⟩), ?_, .cptr ht hc⟩
     simp [Instr.fieldAt, run_underlying hu, hfd, Instr.sureAddr, fieldPlace, szOf_run hs, addr_add, Nat.add_assoc]
   ·cases h
  ·cases h
theorem fieldE_sound {t : TypeId} {x z : V} {f : Nat} {u : Value} (h : fieldE P t x f = some z) (hx : VR σ x u) (w : World) : ∃ r, (Instr.field t u f).run P w = .ok r w ∧ VR σ z r := by
 unfold fieldE at h
 split at h
 ·rename_i fd cs hf
  obtain ⟨fs, hu, hfd⟩ := fieldAt_some hf
  cases hx with
  | agg hc =>
   obtain ⟨r, h1, h2⟩ := partE_sound h hc w
   exact ⟨r, by simp [Instr.field, run_underlying hu, hfd, asAgg, h1], h2⟩
 ·cases h
theorem indexAddrE_sound {t : TypeId} {x i z : V} {u j : Value} (h : indexAddrE P t x i = some z) (hx : VR σ x u) (hi : VR σ i j) (w : World) : ∃ r, (Instr.indexAt t u j).run P w = .ok r w ∧ VR σ z r := by
 unfold indexAddrE at h
 split at h
 ·rename_i k n
  cases hi
  split at h
  ·rename_i h0
   have h0 : 0 ≤ n := by simpa using h0
   split at h
   ·rename_i e lt m es tk hu
    split at h
    ·rename_i sz hs
     split at h
     ·rename_i hm
      have hm : m = sz := by simpa using hm
      subst hm
      simp only [Option.map_eq_some_iff] at h
      obtain ⟨v, hv, rfl⟩ := h
      cases hx with
      | list ht hl hc hk =>
       rename_i b o cap
       obtain ⟨h1, h2⟩ := hl.get hv
       have hlt : n.toNat < es.length := by
        rcases Nat.lt_or_ge n.toNat es.length with h' | h'
        ·exact h'
        ·rw [List.getElem?_eq_none h'] at hv; cases hv
       refine ⟨.pointer (some ⟨b, o + n.toNat * m + 0, none⟩), ?_, .cptr (fun _ h => by cases h) h2⟩
       simp only [Instr.indexAt, asIntOf, Sem.run_bind, Sem.run_pure, Result.andThen_ok, run_underlying hu]
       simp only [Bool.and_false, Sem.run_bind, run_underlying hu, Result.andThen_ok, Sem.run_pure]
       rw [if_pos ⟨h0, by omega⟩]
       simp [szOf_run hs, addr_add]
     ·cases h
    ·cases h
   ·rename_i e id off len cap hu
    split at h
    ·rename_i sz hs
     split at h
     ·rename_i hlt
      cases h
      have hlt : n < (len : Int) := by simpa using hlt
      cases hx with
      | arr hρ =>
       refine ⟨_, ?_, .ptr hρ⟩
       simp [Instr.indexAt, asIntOf, run_underlying hu, h0, hlt, szOf_run hs, addr_add]
     ·cases h
    ·cases h
   ·rename_i m e id off hu
    split at h
    ·rename_i sz hs
     split at h
     ·rename_i hlt
      cases h
      have hlt : n < (m : Int) := by simpa using hlt
      cases hx with
      | ptr hρ =>
       refine ⟨_, ?_, .ptr hρ⟩
       simp [Instr.indexAt, asIntOf, Instr.sureAddr, run_underlying hu, h0, hlt, szOf_run hs, addr_add]
     ·cases h
    ·cases h
   ·rename_i m e t' cs off hu
    split at h
    ·rename_i sz hs
     split at h
     ·rename_i hlt
      cases h
      have hlt : n < (m : Int) := by simpa using hlt
      cases hx with
      | cptr ht hc =>
       rename_i b o
       refine ⟨.pointer (some ⟨b, o + (off + n.toNat * sz), none⟩), ?_, .cptr ht hc⟩
       simp [Instr.indexAt, asIntOf, Instr.sureAddr, run_underlying hu, h0, hlt, szOf_run hs, addr_add, Nat.add_assoc]
     ·cases h
    ·cases h
   ·cases h
  ·cases h
 ·cases h
theorem indexE_sound {t : TypeId} {x i z : V} {u j : Value} (h : indexE P t x i = some z) (hx : VR σ x u) (hi : VR σ i j) (w : World) : ∃ r, (Instr.index t u j).run P w = .ok r w ∧ VR σ z r := by
 unfold indexE at h
 split at h
 ·rename_i k n
  cases hi
  split at h
  ·rename_i h0
   have h0 : 0 ≤ n := by simpa using h0
   split at h
   ·rename_i s hu
    simp only [Option.map_eq_some_iff] at h
    obtain ⟨b, hb, rfl⟩ := h
    cases hx with
    | str r hr =>
     refine ⟨.int .u8 b.toNat, ?_, .int _ _⟩
     have hb' : r[n.toNat]? = some b := by
      rw [← hr] at hb
      have hlt : n.toNat < r.data.toList.length := by
       rcases Nat.lt_or_ge n.toNat r.data.toList.length with h' | h'
       ·exact h'
       ·rw [List.getElem?_eq_none h'] at hb; cases hb
      have hlt2 : n.toNat < r.size := by rw [show r.size = r.data.size from rfl, ← Array.length_toList]; exact hlt
      rw [List.getElem?_eq_getElem hlt] at hb
      rw [getElem?_pos r n.toNat hlt2]
      rw [← hb]
      simp [ByteArray.getElem_eq_getElem_data]
     simp only [Instr.index, asIntOf, Sem.run_bind, Sem.run_pure, Result.andThen_ok, run_underlying hu, if_pos h0, hb']
   ·rename_i m e cs hu
    split at h
    ·rename_i sz hs
     split at h
     ·rename_i hlt
      have hlt : n < (m : Int) := by simpa using hlt
      cases hx with
      | agg hc =>
       obtain ⟨r, h1, h2⟩ := partE_sound h hc w
       exact ⟨r, by simp [Instr.index, asIntOf, run_underlying hu, h0, hlt, szOf_run hs, h1], h2⟩
     ·cases h
    ·cases h
   ·cases h
  ·cases h
 ·cases h
theorem assertE_sound {x z : V} {xt t : TypeId} {ok : Bool} {u : Value} (h : assertE P x t ok = some z) (hx : VR σ x u) (w : World) : ∃ r, (Instr.typeAssert u xt t ok).run P w = .ok r w ∧ VR σ z r := by
 unfold assertE at h
 split at h
 ·cases h
 ·rename_i d h1 hu
  split at h
  ·rename_i hok
   simp only [Option.map_eq_some_iff] at h
   obtain ⟨z', hz, rfl⟩ := h
   obtain ⟨i, zv, hi, hzv, hzr⟩ := zeroV_sound σ hz
   cases hx
   refine ⟨_, ?_, VR.tup (.cons hzr (.cons (.bool false) .nil))⟩
   simp only [Instr.typeAssert, Sem.run_bind, run_underlying hu, Result.andThen_ok]
   cases d <;> first
    | (exfalso; exact h1 _ rfl)
    | simp [hok, zero_run hi hzv]
  ·cases h
 ·rename_i d t' v h1 hu
  cases hx with
  | iface _ hv =>
   rename_i y
   split at h
   ·rename_i ht
    have ht : t' = t := by simpa using ht
    cases h
    refine ⟨if ok then .tuple #[y, .bool true] else y, ?_, ?_⟩
    ·simp only [Instr.typeAssert, Sem.run_bind, run_underlying hu, Result.andThen_ok]
     cases d <;> first
      | (exfalso; exact h1 _ rfl)
      | simp [ht]
    ·cases ok
     ·simpa using hv
     ·exact VR.tup (.cons hv (.cons (.bool true) .nil))
   ·rename_i ht
    have ht : t' ≠ t := by simpa using ht
    split at h
    ·rename_i hok
     simp only [Option.map_eq_some_iff] at h
     obtain ⟨z', hz, rfl⟩ := h
     obtain ⟨i, zv, hi, hzv, hzr⟩ := zeroV_sound σ hz
     refine ⟨_, ?_, VR.tup (.cons hzr (.cons (.bool false) .nil))⟩
     simp only [Instr.typeAssert, Sem.run_bind, run_underlying hu, Result.andThen_ok]
     cases d <;> first
      | (exfalso; exact h1 _ rfl)
      | simp [ht, hok, zero_run hi hzv]
    ·cases h
 ·cases h
inductive OR (σ : Sg) : Option V → Option Value → Prop
 | none : OR σ none none
 | some {x : V} {y : Value} (h : VR σ x y) : OR σ (some x) (some y)
theorem boundB_some {x : Option V} {y : Option Value} {d m n : Nat} (h : boundB x d m = some n) (hx : OR σ x y) (hd : d ≤ m) (code : BoundsCode) (w : World) :
 n ≤ m ∧ ((y = none ∧ n = d) ∨ ∃ v, y = some v ∧ ∀ M, m ≤ M → (Instr.sliceBound v M code).run P w = .ok n w) := by
 unfold boundB at h
 cases hx with
 | none => simp at h; subst h; exact ⟨hd, .inl ⟨rfl, rfl⟩⟩
 | some hv =>
  split at h
  ·rename_i e; cases e
  ·rename_i k i e
   cases e
   split at h
   ·rename_i hc
    cases h
    simp at hc
    cases hv
    refine ⟨by omega, .inr ⟨_, rfl, fun M hM => ?_⟩⟩
    have : i ≤ (M : Int) := by omega
    simp [Instr.sliceBound, asIntOf, hc.1, this]
   ·cases h
  ·cases h
theorem sliceB_sound {lo hi : Option V} {rl rh : Option Value} {len cap l h : Nat} (isS : Bool) (hb : sliceB lo hi len cap = some (l, h)) (hlc : len ≤ cap) (hl : OR σ lo rl) (hh : OR σ hi rh) (w : World) {M : Nat} (hM : cap ≤ M) :
 (Instr.sliceBounds isS len M rl rh none).run P w = .ok (l, h, M) w ∧ l ≤ h ∧ h ≤ cap := by
 unfold sliceB at hb
 split at hb
 ·cases hb
 ·rename_i h' e1
  split at hb
  ·cases hb
  ·rename_i l' e2
   cases hb
   obtain ⟨g1, g2⟩ := boundB_some (P := P) e1 hh hlc (if isS then .sliceAcap else .sliceAlen) w
   obtain ⟨g3, g4⟩ := boundB_some (P := P) e2 hl (Nat.zero_le _) .sliceB w
   refine ⟨?_, g3, g1⟩
   simp only [Instr.sliceBounds, Sem.run_bind, Sem.run_pure, Result.andThen_ok]
   rcases g2 with ⟨rfl, rfl⟩ | ⟨v, rfl, g2⟩ <;> rcases g4 with ⟨rfl, rfl⟩ | ⟨u, rfl, g4⟩
   ·rfl
   ·simp [g4 _ (Nat.le_refl _)]
   ·rw [Sem.run_bind, g2 M hM]; rfl
   ·rw [Sem.run_bind, g2 M hM, Result.andThen_ok]
    simp [g4 _ (Nat.le_refl _)]
theorem sliceB3_sound {lo hi : Option V} {mx : V} {rl rh : Option Value} {rm : Value} {len cap l h m : Nat} (isS : Bool) (hb : sliceB3 lo hi mx cap = some (l, h, m)) (hl : OR σ lo rl) (hh : OR σ hi rh) (hm : VR σ mx rm) (w : World) {M : Nat} (hM : cap ≤ M) :
 (Instr.sliceBounds isS len M rl rh (some rm)).run P w = .ok (l, h, m) w ∧ l ≤ h ∧ h ≤ m ∧ m ≤ cap := by
 unfold sliceB3 at hb
 split at hb
 ·cases hb
 ·rename_i hv
  split at hb
  ·cases hb
  ·rename_i m' e0
   split at hb
   ·cases hb
   ·rename_i h' e1
    split at hb
    ·cases hb
    ·rename_i l' e2
     cases hb
     obtain ⟨g1, g2⟩ := boundB_some (P := P) e0 (.some hm) (Nat.zero_le _) (if isS then .slice3Acap else .slice3Alen) w
     obtain ⟨g3, g4⟩ := boundB_some (P := P) e1 hh (Nat.zero_le _) .slice3B w
     obtain ⟨g5, g6⟩ := boundB_some (P := P) e2 hl (Nat.zero_le _) .slice3C w
     refine ⟨?_, g5, g3, g1⟩
     rcases g2 with ⟨h0, _⟩ | ⟨v, h0, g2⟩
     ·cases h0
     ·cases h0
      rcases g4 with ⟨rfl, _⟩ | ⟨u, rfl, g4⟩
      ·cases hh
      ·have g2 := g2 M hM
       have g4 := g4 m (Nat.le_refl _)
       rcases g6 with ⟨rfl, rfl⟩ | ⟨q, rfl, g6⟩
       ·simp only [Instr.sliceBounds, Sem.run_bind, g2, Result.andThen_ok, g4]; rfl
       ·have g6 := g6 h (Nat.le_refl _)
        simp only [Instr.sliceBounds, Sem.run_bind, g2, Result.andThen_ok, g4, Option.isSome, if_true, g6]; rfl
theorem slice3E_sound {t : TypeId} {x z : V} {lo hi : Option V} {mx : V} {rl rh : Option Value} {rm u : Value} (h : slice3E P t x lo hi mx = some z) (hx : VR σ x u) (hl : OR σ lo rl) (hh : OR σ hi rh) (hm : VR σ mx rm) (w : World) :
 ∃ r, (Instr.sliceAt t u rl rh (some rm)).run P w = .ok r w ∧ VR σ z r := by
 unfold slice3E at h
 split at h
 ·rename_i e hu
  split at h
  ·rename_i n lh hs hb
   cases h
   cases hx
   obtain ⟨l, h', m⟩ := lh
   obtain ⟨g1, g2, g3, g4⟩ := sliceB3_sound (P := P) (len := 0) true hb hl hh hm w (Nat.le_refl _)
   have : l = 0 ∧ h' = 0 ∧ m = 0 := by omega
   obtain ⟨rfl, rfl, rfl⟩ := this
   exact ⟨_, by simp [Instr.sliceAt, run_underlying hu, Instr.slice, g1, szOf_run hs], .nils⟩
  ·cases h
 ·rename_i e hu
  split at h
  ·rename_i n lh hs hb
   cases h
   cases hx with
   | mt a0 =>
    obtain ⟨l, h', m⟩ := lh
    obtain ⟨g1, g2, g3, g4⟩ := sliceB3_sound (P := P) (len := 0) true hb hl hh hm w (Nat.le_refl _)
    have : l = 0 ∧ h' = 0 ∧ m = 0 := by omega
    obtain ⟨rfl, rfl, rfl⟩ := this
    exact ⟨.slice (some a0) 0 0, by simp [Instr.sliceAt, run_underlying hu, Instr.slice, g1, szOf_run hs], .mt a0⟩
  ·cases h
 ·rename_i e lt n es tk hu
  split at h
  ·rename_i sz hs
   split at h
   ·rename_i hn
    have hn : n = sz := by simpa using hn
    subst hn
    split at h
    ·rename_i l h' m hb
     cases h
     cases hx with
     | list ht hr hc hk =>
      rename_i b o cap
      obtain ⟨g1, g2, g3, g4⟩ := sliceB3_sound (P := P) (len := es.length) true hb hl hh hm w hc
      have hlen : ((es.take h').drop l).length = h' - l := by simp; omega
      have hk' : ∀ o', tkOk σ n ((es.take h').drop l).length (if Nat.beq h' m then .exact else .no) b o' (m - l) := by
       intro o'
       rw [hlen]
       by_cases he : Nat.beq h' m = true
       ·rw [if_pos he]
        have he : h' = m := by simpa using he
        subst he
        simp [tkOk]
       ·rw [if_neg he]; trivial
      have hrun : (Instr.sliceAt t (.slice (some ⟨b, o, none⟩) es.length cap) rl rh (some rm)).run P w = .ok (.slice (if m = l then some ⟨b, o, none⟩ else some ⟨b, o + l * n, none⟩) (h' - l) (m - l)) w := by
       simp [Instr.sliceAt, run_underlying hu, Instr.slice, g1, szOf_run hs, addr_add]
      refine ⟨_, hrun, ?_⟩
      by_cases hml : m = l
      ·rw [if_pos hml]
       have hnil : (es.take h').drop l = [] := List.eq_nil_of_length_eq_zero (by rw [hlen]; omega)
       have hk2 := hk' o
       rw [hnil] at hk2 ⊢
       have key := VR.list (σ := σ) (cap := m - l) ht (.nil n b o) (Nat.zero_le _) hk2
       have h0 : h' - l = 0 := by omega
       rw [h0]
       exact key
      ·rw [if_neg hml]
       have key := VR.list (cap := m - l) ht ((hr.take h').drop l (by simp; omega)) (by rw [hlen]; omega) (hk' (o + l * n))
       rw [hlen] at key
       exact key
    ·cases h
   ·cases h
  ·cases h
 ·cases h
theorem sliceE_sound {t : TypeId} {x z : V} {lo hi : Option V} {rl rh : Option Value} {u : Value} (h : sliceE P t x lo hi none = some z) (hx : VR σ x u) (hl : OR σ lo rl) (hh : OR σ hi rh) (w : World) :
 ∃ r, (Instr.sliceAt t u rl rh none).run P w = .ok r w ∧ VR σ z r := by
 unfold sliceE at h
 simp only at h
 split at h
 ·rename_i s hu
  simp only [Option.map_eq_some_iff] at h
  obtain ⟨⟨l, h'⟩, hb, rfl⟩ := h
  cases hx with
  | str b hb' =>
   have hlen : b.size = s.length := by rw [← hb']; exact (Array.length_toList).symm
   obtain ⟨g1, g2, g3⟩ := sliceB_sound (P := P) false hb (Nat.le_refl _) hl hh w (Nat.le_refl _)
   refine ⟨.string (b.extract l h'), ?_, .str _ ?_⟩
   ·simp [Instr.sliceAt, run_underlying hu, Instr.slice, hlen, g1]
   ·rw [ByteArray.data_extract, Array.toList_extract, List.extract_eq_take_drop, hb']
    simp only
    rw [List.drop_take]
 ·rename_i e hu
  split at h
  ·rename_i n lh hs hb
   cases h
   cases hx
   obtain ⟨l, h'⟩ := lh
   obtain ⟨g1, g2, g3⟩ := sliceB_sound (P := P) true hb (Nat.le_refl _) hl hh w (Nat.le_refl _)
   have : l = 0 ∧ h' = 0 := by omega
   obtain ⟨rfl, rfl⟩ := this
   exact ⟨_, by simp [Instr.sliceAt, run_underlying hu, Instr.slice, g1, szOf_run hs], .nils⟩
  ·cases h
 ·rename_i e hu
  split at h
  ·rename_i n lh hs hb
   cases h
   cases hx with
   | mt a0 =>
    obtain ⟨l, h'⟩ := lh
    obtain ⟨g1, g2, g3⟩ := sliceB_sound (P := P) true hb (Nat.le_refl _) hl hh w (Nat.le_refl _)
    have : l = 0 ∧ h' = 0 := by omega
    obtain ⟨rfl, rfl⟩ := this
    exact ⟨.slice (some a0) 0 0, by simp [Instr.sliceAt, run_underlying hu, Instr.slice, g1, szOf_run hs], .mt a0⟩
  ·cases h
 ·rename_i e lt n es tk hu
  split at h
  ·rename_i sz hs
   split at h
   ·rename_i hn
    have hn : n = sz := by simpa using hn
    subst hn
    split at h
    ·rename_i l h' hb
     cases hx with
     | list ht hr hc hk =>
      rename_i b o cap
      obtain ⟨g1, g2, g3⟩ := sliceB_sound (P := P) true hb (Nat.le_refl _) hl hh w hc
      have hrun : (Instr.sliceAt t (.slice (some ⟨b, o, none⟩) es.length cap) rl rh none).run P w = .ok (.slice (if cap = l then some ⟨b, o, none⟩ else some ⟨b, o + l * n, none⟩) (h' - l) (cap - l)) w := by
       simp [Instr.sliceAt, run_underlying hu, Instr.slice, g1, szOf_run hs, addr_add]
      rw [hrun]
      by_cases h1 : (Nat.beq l 0 && Nat.beq h' es.length) = true
      ·rw [if_pos h1] at h
       simp at h1
       obtain ⟨rfl, rfl⟩ := h1
       cases h
       refine ⟨_, rfl, ?_⟩
       have := VR.list ht hr hc hk
       simpa using this
      ·rw [if_neg h1] at h
       by_cases h0 : Nat.blt l es.length = true
       ·rw [if_pos h0] at h
        cases h
        have h0 : l < es.length := by simpa using h0
        have hlen : ((es.take h').drop l).length = h' - l := by simp; omega
        refine ⟨_, rfl, ?_⟩
        have hcl : ¬ cap = l := by omega
        rw [if_neg hcl]
        have hk' : tkOk σ n ((es.take h').drop l).length (if Nat.beq h' es.length then tk else .no) b (o + l * n) (cap - l) := by
         rw [hlen]
         by_cases he : Nat.beq h' es.length = true
         ·rw [if_pos he]
          have he : h' = es.length := by simpa using he
          subst he
          cases tk with
          | no => trivial
          | exact => simp [tkOk] at hk ⊢; omega
          | own id =>
           simp only [tkOk] at hk ⊢
           rw [hk]
           have e1 : o + l * n + (es.length - l) * n = o + es.length * n := by rw [Nat.add_assoc, ← Nat.add_mul]; congr 2; omega
           have e2 : o + l * n + (cap - l) * n = o + cap * n := by rw [Nat.add_assoc, ← Nat.add_mul]; congr 2; omega
           rw [e1, e2]
         ·rw [if_neg he]; trivial
        have key := VR.list (cap := cap - l) ht ((hr.take h').drop l (by simp; omega)) (by rw [hlen]; omega) hk'
        rw [hlen] at key
        exact key
       ·rw [if_neg h0] at h
        cases h
        have h0 : ¬ l < es.length := by simpa using h0
        have hz : h' - l = 0 := by omega
        rw [hz]
        by_cases hcl : cap = l
        ·rw [if_pos hcl]
         refine ⟨_, rfl, ?_⟩
         have hk' : tkOk σ n 0 tk.tail b o (cap - l) := by
          cases tk with
          | no => trivial
          | exact => simp [tkOk, Tk.tail]; omega
          | own id => trivial
         exact VR.list (σ := σ) (es := []) (cap := cap - l) ht (.nil n b o) (Nat.zero_le _) hk'
        ·rw [if_neg hcl]
         refine ⟨_, rfl, ?_⟩
         have hk' : tkOk σ n 0 tk.tail b (o + l * n) (cap - l) := by
          cases tk with
          | no => trivial
          | exact => simp [tkOk, Tk.tail] at hk ⊢; omega
          | own id => trivial
         exact VR.list (σ := σ) (es := []) (cap := cap - l) ht (.nil n b (o + l * n)) (Nat.zero_le _) hk'
    ·cases h
   ·cases h
  ·cases h
 ·rename_i e t' id n hu
  split at h
  ·rename_i hs hb
   split at h
   ·rename_i he
    cases h
    have he : t' = e := by simpa using he
    subst he
    cases hx with
    | raw hρ ht hn =>
     rename_i b cap
     obtain ⟨g1, g2, g3⟩ := sliceB_sound (P := P) true hb (Nat.le_refl _) hl hh w hn
     refine ⟨.slice (some ⟨b, 0, none⟩) 0 cap, ?_, ?_⟩
     ·simp [Instr.sliceAt, run_underlying hu, Instr.slice, g1, szOf_run hs, addr_add]
     ·have := VR.list (σ := σ) (t := some t') (sz := 1) (es := []) (tk := .own id) (b := b) (o := 0) (cap := cap) (fun t'' e => by cases e; exact ht) (.nil _ _ _) (Nat.zero_le _) (by simpa [tkOk] using hρ)
      simpa using this
   ·cases h
  ·cases h
 ·rename_i e id off len cap hu
  split at h
  ·rename_i sz l h' hs hb
   split at h
   ·rename_i hlt
    cases h
    simp at hlt
    obtain ⟨hlc, hlt⟩ := hlt
    cases hx with
    | arr hρ =>
     obtain ⟨g1, g2, g3⟩ := sliceB_sound (P := P) true hb hlc hl hh w (Nat.le_refl _)
     refine ⟨_, ?_, .arr hρ⟩
     have : ¬ cap = l := by omega
     simp [Instr.sliceAt, run_underlying hu, Instr.slice, g1, szOf_run hs, addr_add, this]
   ·cases h
  ·cases h
 ·rename_i n e id off hu
  split at h
  ·rename_i sz l h' hs hb
   split at h
   ·rename_i hlt
    cases h
    have hlt : l < n := by simpa using hlt
    cases hx with
    | ptr hρ =>
     rename_i b p e'
     obtain ⟨g1, g2, g3⟩ := sliceB_sound (P := P) false hb (Nat.le_refl _) hl hh w (Nat.le_refl _)
     refine ⟨.slice (some ⟨b, off + l * sz, none⟩) (h' - l) (n - l), ?_, .arr hρ⟩
     have : ¬ n = l := by omega
     simp [Instr.sliceAt, run_underlying hu, Instr.sureAddr, g1, szOf_run hs, addr_add, this]
   ·cases h
  ·cases h
 ·cases h
end
end Go.Ev
namespace Go.Ev
open Go.RowKit
section
variable {P : Program} {base : Nat} {w₀ w : World} {σ : Sg} {S S' : St}
theorem cell_heap {w w' : World} (h : w'.heap = w.heap) (a : Addr) : w'.cell? a = w.cell? a := by simp [World.cell?, h]
theorem readS_sound [Glob] (h : Rel none2 base w₀ σ S w) {a : Bool} {sz : Nat} {x : V} {y : Value} {ys : List V} (hr : readS S a sz x = some ys) (hx : VR σ x y) :
 ∃ vs, VRs σ (ys.flatMap V.cells) vs ∧ vs.length = ys.length * sz ∧ (∀ w' : World, (Builtin.lenOf y).run P w' = .ok ys.length w') ∧
  ∀ (w' : World) (n : Nat), w'.heap = w.heap → n ≤ ys.length → (Builtin.firstCells sz n y).run P w' = .ok (vs.take (n * sz)).toArray w' := by
 have load : ∀ (b o : Nat) (vs : List Value), (∀ j v, vs[j]? = some v → w.cell? ((⟨b, o, none⟩ : Addr).add j) = some v) → ∀ (w' : World) (k : Nat), w'.heap = w.heap → k ≤ vs.length → (loadCells ⟨b, o, none⟩ k).run P w' = .ok (vs.take k).toArray w' := by
  intro b o vs hv w' k hw hk
  have := run_loadCells_list (P := P) w' ⟨b, o, none⟩ (vs.take k) (fun j v hj => by
   rw [cell_heap hw]
   refine hv j v ?_
   have hjk : j < k := by
    rcases Nat.lt_or_ge j k with h' | h'
    ·exact h'
    ·rw [List.getElem?_eq_none (by simp; omega)] at hj; cases hj
   rwa [List.getElem?_take_of_lt hjk] at hj)
  rwa [List.length_take, Nat.min_eq_left hk] at this
 cases x with
 | nils =>
  simp [readS] at hr
  subst hr
  cases hx
  exact ⟨[], .nil, by simp, fun w' => rfl, fun w' n _ hn => by simp at hn; subst hn; simp [Builtin.firstCells]⟩
 | mt =>
  simp [readS] at hr
  subst hr
  cases hx with
  | mt ad =>
   exact ⟨[], .nil, by simp, fun w' => rfl, fun w' n hw hn => by
    simp at hn; subst hn
    have := run_loadCells_list (P := P) w' ad [] (fun j v hj => by simp at hj)
    simpa [Builtin.firstCells] using this⟩
 | list t n es' tk =>
  simp only [readS] at hr
  split at hr
  ·rename_i hn
   have hn : n = sz := by simpa using hn
   subst hn
   cases hr
   cases hx with
   | list ht hl hc hk =>
    rename_i b o cap
    obtain ⟨f1, f2⟩ := hl.flat
    obtain ⟨vs, g1, g2⟩ := f1.vals
    have hlen : vs.length = ys.length * n := by rw [← g1.length]; exact f2
    refine ⟨vs, g1, hlen, fun w' => rfl, fun w' k hw hk => ?_⟩
    simp only [Builtin.firstCells]
    refine load _ _ vs (fun j v hj => ?_) w' _ hw (by rw [hlen]; exact Nat.mul_le_mul_right _ hk)
    rw [addr_add]
    exact h.imm _ _ _ (g2 j v hj) id
  ·cases hr
 | arr id off len cap =>
  simp only [readS] at hr
  split at hr
  ·rename_i cs hcs
   obtain ⟨c1, c2, c3, c4⟩ := chunk_flat hr
   cases hx with
   | arr hρ =>
    obtain ⟨b, o, vs, e1, g1, g2, g3⟩ := rd_sound h hcs (.ptr hρ)
    cases e1
    have hcl : cs.length = len * sz := by rw [g1.length]; exact g2
    refine ⟨vs, by rw [c3, List.take_of_length_le (by omega)]; exact g1, by rw [c1]; exact g2, fun w' => by rw [c1]; rfl, fun w' k hw hk => ?_⟩
    simp only [Builtin.firstCells]
    exact load _ _ vs g3 w' _ hw (by rw [g2]; rw [c1] at hk; exact Nat.mul_le_mul_right _ hk)
  ·cases hr
 | str s =>
  simp only [readS] at hr
  split at hr
  ·rename_i hc
   simp at hc
   obtain ⟨rfl, _⟩ := hc
   cases hr
   cases hx with
   | str b hb =>
    subst hb
    have hvs : ∀ (l : List UInt8), VRs σ ((ofBytes l).flatMap V.cells) (l.map fun c => Value.int .u8 c.toNat) := by
     intro l
     induction l with
     | nil => exact .nil
     | cons c l ih => exact .cons (.int _ _) ih
    refine ⟨_, hvs _, by simp [ofBytes], fun w' => by rw [show (ofBytes b.data.toList).length = b.size by rw [ofBytes, List.length_map]; exact Array.length_toList]; rfl, fun w' n hw hn => ?_⟩
    simp only [Builtin.firstCells, Sem.run_pure]
    congr 1
    apply Array.ext'
    rw [Array.toList_map, ByteArray.data_extract, Array.toList_extract, List.extract_eq_take_drop]
    simp [List.map_take]
  ·cases hr
 | _ => simp [readS] at hr
theorem readS_cells [Glob] (h : Rel none2 base w₀ σ S w) {a : Bool} {sz : Nat} {x : V} {y : Value} {ys : List V} (hr : readS S a sz x = some ys) (hx : VR σ x y) : ∀ v ∈ ys, v.cells.length = sz := by
 cases x with
 | nils => simp [readS] at hr; subst hr; simp
 | mt => simp [readS] at hr; subst hr; simp
 | list t n es' tk =>
  simp only [readS] at hr
  split at hr
  ·rename_i hn
   have hn : n = sz := by simpa using hn
   subst hn
   cases hr
   cases hx with
   | list ht hl hc hk =>
    intro v hv
    obtain ⟨k, hk1⟩ := List.getElem?_of_mem hv
    exact (hl.get hk1).1
  ·cases hr
 | arr id off len cap =>
  simp only [readS] at hr
  split at hr
  ·exact (chunk_flat hr).2.1
  ·cases hr
 | str s =>
  simp only [readS] at hr
  split at hr
  ·rename_i hc
   simp at hc
   obtain ⟨rfl, _⟩ := hc
   cases hr
   intro v hv
   simp [ofBytes] at hv
   obtain ⟨b, _, rfl⟩ := hv
   rfl
  ·cases hr
 | _ => simp [readS] at hr
theorem flat_len {sz : Nat} : ∀ {ys : List V}, (∀ v ∈ ys, v.cells.length = sz) → (ys.flatMap V.cells).length = ys.length * sz
 | [], _ => by simp
 | y :: ys, h => by
  rw [List.flatMap_cons, List.length_append, h y (by simp), flat_len fun v hv => h v (by simp [hv])]
  simp [Nat.add_mul]; omega
theorem flat_one {ys : List V} (h : ∀ v ∈ ys, v.cells.all V.one = true) : (ys.flatMap V.cells).all V.one = true := by
 induction ys with
 | nil => rfl
 | cons y ys ih =>
  rw [List.flatMap_cons, List.all_append, h y (by simp), ih fun v hv => h v (by simp [hv])]
  rfl
theorem append_grow_run {t u e : TypeId} {ud : TypeDesc} {i : TypeInfo} {z : Value} {ty : TypeId} {x y : Value} {base' : Option Addr} {sLen sCap n : Nat} {old new : List Value} (w : World)
 (ht : P.underlying t = some (.slice e)) (hu : P.underlying u = some ud) (hui : ∀ k, ud ≠ .int k) (hi : P.info? e = some i) (hz : i.zero = some z)
 (hx : x = .slice base' sLen sCap) (hlen : ∀ w' : World, (Builtin.lenOf y).run P w' = .ok n w') (hold : ∀ w' : World, w'.heap = w.heap → (Builtin.firstCells i.size sLen x).run P w' = .ok old.toArray w')
 (hnew : ∀ w' : World, w'.heap = w.heap → (Builtin.firstCells i.size n y).run P w' = .ok new.toArray w') (hg : sCap < sLen + n) (hroom : roomOk (sLen + n) i.bytes = true) :
 ∃ c, sLen + n ≤ c ∧ (Builtin.append_ #[t, u] ty #[x, y]).run P w = .ok (.slice (some ⟨w.heap.size, 0, none⟩) (sLen + n) c) (w.drew.alloc (.cells (old ++ new ++ (Builtin.zeroCells z.cells (c - (sLen + n))).toList).toArray e)) := by
 simp only [roomOk, Bool.and_eq_true, Nat.ble_eq] at hroom
 have hfit := growslice_fits hg hroom.1
 subst hx
 have hd : w.drew.heap = w.heap := rfl
 refine ⟨(Question.appendCap (sLen + n) sCap e).cut (w.tape w.drawn (.appendCap (sLen + n) sCap e)), ?_, ?_⟩
 ·simp only [Question.cut]; omega
 ·have hn : ¬ (sLen + n ≤ sCap) := by omega
  have h63' : ¬ (9223372036854775807 < ((sLen : Int) + (n : Int))) := by omega
  have h48' : ¬ (281474976710656 < Builtin.nextslicecap (sLen + n) sCap * i.bytes) := by omega
  have hz' : (match (generalizing := false) ud with | .int _ => true | _ => false) = false := by
   cases ud <;> first | rfl | exact absurd rfl (hui _)
  have h1 := hold w.drew hd
  have h2 := hnew w.drew hd
  simp [Builtin.append_, run_underlying ht, run_underlying hu, hz', sizeOf, typeInfo, zeroValue, hi, hz, hlen, hn, h63', h48', Question.forced, h1, h2, newRow]
  congr 2
  apply Array.ext'
  simp [List.append_assoc]
theorem append_fit_run {t u e : TypeId} {ud : TypeDesc} {i : TypeInfo} {ty : TypeId} {y : Value} {base' : Option Addr} {sLen sCap n : Nat} {new : List Value} (w : World) (w' : World)
 (ht : P.underlying t = some (.slice e)) (hu : P.underlying u = some ud) (hui : ∀ k, ud ≠ .int k) (hi : P.info? e = some i)
 (hlen : ∀ w' : World, (Builtin.lenOf y).run P w' = .ok n w') (hnew : (Builtin.firstCells i.size n y).run P w = .ok new.toArray w) (hg : sLen + n ≤ sCap)
 (hst : match base' with | some a => (storeCells (a.add (sLen * i.size)) new).run P w = .ok () w' | none => w' = w) :
 (Builtin.append_ #[t, u] ty #[.slice base' sLen sCap, y]).run P w = .ok (.slice base' (sLen + n) sCap) w' := by
 have hz' : (match (generalizing := false) ud with | .int _ => true | _ => false) = false := by
  cases ud <;> first | rfl | exact absurd rfl (hui _)
 cases base' with
 | none =>
  simp only at hst
  subst hst
  simp [Builtin.append_, run_underlying ht, run_underlying hu, hz', sizeOf, typeInfo, hi, hlen, hg, hnew]
 | some a =>
  simp only at hst
  simp [Builtin.append_, run_underlying ht, run_underlying hu, hz', sizeOf, typeInfo, hi, hlen, hg, hnew, hst]
theorem Stp.of_less {σ σ' : Sg} {S S₁ S' : St} {w w' : World} (h : Stp σ S₁ w σ' S' w') (hn : S₁.next = S.next) (hs : ∀ id o, S₁.h.find id = some o → S.h.find id = some o) : Stp σ S w σ' S' w' := by
 have ho : ∀ b, Owns σ S₁ b → Owns σ S b := fun b ⟨id, o, x, h1, h2, h3⟩ => ⟨id, o, x, hs id o h1, h2, h3⟩
 refine ⟨h.le, by rw [← hn]; exact h.next, h.size, fun b hb hn' => h.keep b hb (fun e => hn' (ho b e)), fun b hb hn' => h.newI b hb (fun e => hn' (ho b e)), fun id x h1 h2 => ?_, fun id o h1 => ?_⟩
 ·obtain ⟨a, b, c⟩ := h.newK id x h1 h2
  exact ⟨by rw [← hn]; exact a, b, c.imp (fun h => h) (ho _)⟩
 ·rcases h.dom id o h1 with ⟨o', h2⟩ | h2
  ·exact .inl ⟨o', hs id o' h2⟩
  ·exact .inr (by rw [← hn]; exact h2)
theorem zeroCells_length (z : Array Value) (n : Nat) : (Builtin.zeroCells z n).toList.length = n * z.size := by
 simp [Builtin.zeroCells]
theorem newTok_list [Glob] (h : Rel none2 base w₀ σ S w) (hf : σ.ρ S.next = none) (e : TypeId) {sz : Nat} {es : List V} {vs rest : List Value} (hv : VRs σ (es.flatMap V.cells) vs) (hlen : ∀ x ∈ es, x.cells.length = sz) {cap : Nat}
 (hc : es.length ≤ cap) (hr : rest.length = (cap - es.length) * sz) :
 ∃ σ', VR σ' (.list (some e) sz es (.own S.next)) (.slice (some ⟨w.heap.size, 0, none⟩) es.length cap) ∧ Rel none2 base w₀ σ' (S.new .tok) (w.alloc (.cells (vs ++ rest).toArray e)) ∧
  Stp σ S w σ' (S.new .tok) (w.alloc (.cells (vs ++ rest).toArray e)) := by
 obtain ⟨r1, r2⟩ := h.newTok hf e vs rest
 refine ⟨_, ?_, r1, r2⟩
 have hvl : vs.length = es.length * sz := by rw [← hv.length]; exact flat_len hlen
 refine VR.list (fun t' ht' => ?_) (LR.of_flat hlen (CR.of_vals (hv.mono r2.le) fun i v hi => ?_)) hc ?_
 ·cases ht'; simp [Sg.addK, Sg.addT]
 ·have := Sg.addI_get σ w.heap.size 0 vs i v hi
  simpa [Sg.addK, Sg.addT] using this
 ·simp only [tkOk, Sg.addK, if_true]
  rw [hvl, hr, Nat.zero_add, Nat.zero_add, ← Nat.add_mul]
  congr 4
  omega
theorem appendE_sound [Glob] (h : Rel none2 base w₀ σ S w) {t u ty : TypeId} {x y v : V} {X Y : Value} (ha : appendE P t u x y S = some (v, S')) (hf : Free σ S.next S'.next) (hx : VR σ x X) (hy : VR σ y Y) :
 ∃ r w' σ', (Builtin.append_ #[t, u] ty #[X, Y]).run P w = .ok r w' ∧ VR σ' v r ∧ Rel none2 base w₀ σ' S' w' ∧ Stp σ S w σ' S' w' := by
 unfold appendE at ha
 split at ha
 ·cases ha
 ·rename_i e he
  have ht := elemT_some he
  split at ha
  ·rename_i i a ud z hi hagg hu hz
   split at ha
   ·cases ha
   ·rename_i hc
    simp only [Bool.or_eq_true, not_or, Bool.not_eq_true, Bool.not_eq_false'] at hc
    obtain ⟨⟨hui', hsz⟩, hzl⟩ := hc
    have hui : ∀ k, ud ≠ .int k := by rintro k rfl; simp [isIntD] at hui'
    have hsz : 1 ≤ i.size := by simpa using hsz
    have hzl : z.cells.length = i.size := by simpa using hzl
    obtain ⟨i', zv, hi', hzv, hzr⟩ := zeroV_sound σ hz
    rw [hi] at hi'; cases hi'
    have hzs : zv.cells.size = i.size := by rw [← hzl, hzr.cells.length]; simp
    split at ha
    ·cases ha
    ·rename_i ys hys
     obtain ⟨new, n1, n2, n3, n4⟩ := readS_sound h hys hy
     have hnew : ∀ w' : World, w'.heap = w.heap → (Builtin.firstCells i.size ys.length Y).run P w' = .ok new.toArray w' := fun w' hw => by
      have := n4 w' ys.length hw (Nat.le_refl _)
      rwa [List.take_of_length_le (by omega)] at this
     split at ha
     ·cases ha
     ·rename_i hall
      have hall : ys.all (fun v => Nat.beq v.cells.length i.size && v.cells.all V.one) = true := by simpa using hall
      rw [List.all_eq_true] at hall
      have hlen : ∀ v ∈ ys, v.cells.length = i.size := fun v hv => by have := hall v hv; simp at this; exact this.1
      have hone : ∀ v ∈ ys, v.cells.all V.one = true := fun v hv => by have := hall v hv; simp at this; simpa using this.2
      split at ha
      ·cases hx
       split at ha
       ·rename_i hemp
        cases ha
        have hemp : ys = [] := by simpa using hemp
        subst hemp
        refine ⟨.slice none 0 0, w, σ, ?_, .nils, h, Stp.refl _ _ _⟩
        exact append_fit_run w w ht hu hui hi n3 (hnew w rfl) (by simp) rfl
       ·rename_i hemp
        split at ha
        ·rename_i hroom
         cases ha
         have hne : 0 < ys.length := by
          cases ys with
          | nil => simp at hemp
          | cons _ _ => simp
         obtain ⟨c, c1, c2⟩ := append_grow_run (ty := ty) (base' := none) (sCap := 0) (old := []) w ht hu hui hi hzv rfl n3 (fun w' _ => by simp [Builtin.firstCells]) hnew (by omega : 0 < 0 + ys.length) (by simpa using hroom)
         simp only [Nat.zero_add, List.nil_append] at c1 c2
         obtain ⟨σ', v1, v2, v3⟩ := newTok_list (h.drew (w' := w.drew) rfl rfl rfl rfl) (hf S.next (Nat.le_refl _) (by simp [St.new])) e (cap := c) n1 hlen c1 (by rw [zeroCells_length, hzs])
         exact ⟨_, _, σ', c2, v1, v2, (Stp.drew σ S w w.drew rfl).trans v3 hf⟩
        ·cases ha
      ·cases hx with
       | mt a0 =>
        have hfc : ∀ w' : World, (Builtin.firstCells i.size 0 (.slice (some a0) 0 0)).run P w' = .ok #[] w' := fun w' => by
         have := run_loadCells_list (P := P) w' a0 [] (fun j v h => by simp at h)
         simpa [Builtin.firstCells] using this
        split at ha
        ·rename_i hemp
         cases ha
         have hemp : ys = [] := by simpa using hemp
         subst hemp
         have hnil : new = [] := by
          cases new with
          | nil => rfl
          | cons _ _ => simp at n2
         subst hnil
         refine ⟨.slice (some a0) 0 0, w, σ, ?_, .mt a0, h, Stp.refl _ _ _⟩
         exact append_fit_run (base' := some a0) w w ht hu hui hi n3 (hnew w rfl) (by simp) rfl
        ·rename_i hemp
         split at ha
         ·rename_i hroom
          cases ha
          have hne : 0 < ys.length := by
           cases ys with
           | nil => simp at hemp
           | cons _ _ => simp
          obtain ⟨c, c1, c2⟩ := append_grow_run (ty := ty) (base' := some a0) (sCap := 0) (old := []) w ht hu hui hi hzv rfl n3 (fun w' _ => hfc w') hnew (by omega : 0 < 0 + ys.length) (by simpa using hroom)
          simp only [Nat.zero_add, List.nil_append] at c1 c2
          obtain ⟨σ', v1, v2, v3⟩ := newTok_list (h.drew (w' := w.drew) rfl rfl rfl rfl) (hf S.next (Nat.le_refl _) (by simp [St.new])) e (cap := c) n1 hlen c1 (by rw [zeroCells_length, hzs])
          exact ⟨_, _, σ', c2, v1, v2, (Stp.drew σ S w w.drew rfl).trans v3 hf⟩
         ·cases ha
      ·rename_i lt n es tk
       cases hx with
       | list hty hl hcap hk =>
        rename_i b o cap
        split at ha
        ·cases ha
        ·rename_i hn
         have hn : n = i.size := by simpa using hn
         subst hn
         split at ha
         ·rename_i hemp
          cases ha
          have hemp : ys = [] := by simpa using hemp
          subst hemp
          have hnil : new = [] := by
           cases new with
           | nil => rfl
           | cons _ _ => simp at n2
          subst hnil
          refine ⟨.slice (some ⟨b, o, none⟩) es.length cap, w, σ, ?_, .list hty hl hcap hk, h, Stp.refl _ _ _⟩
          exact append_fit_run (base' := some ⟨b, o, none⟩) w w ht hu hui hi n3 (hnew w rfl) (by simpa using hcap) rfl
         ·rename_i hemp
          have hne : 0 < ys.length := by
           cases ys with
           | nil => simp at hemp
           | cons _ _ => simp
          split at ha
          ·cases ha
          ·rename_i hroom
           have hroom : roomOk (es.length + ys.length) i.bytes = true := by simpa using hroom
           obtain ⟨f1, f2⟩ := hl.flat
           obtain ⟨old, o1, o2⟩ := f1.vals
           have hol : old.length = es.length * i.size := by rw [← o1.length]; exact f2
           have hold : ∀ w' : World, w'.heap = w.heap → (Builtin.firstCells i.size es.length (.slice (some ⟨b, o, none⟩) es.length cap)).run P w' = .ok old.toArray w' := fun w' hw => by
            simp only [Builtin.firstCells]
            rw [← hol]
            refine run_loadCells_list (P := P) w' _ old fun j v hj => ?_
            rw [cell_heap hw, addr_add]
            exact h.imm _ _ _ (o2 j v hj) id
           have hboth : VRs σ ((es ++ ys).flatMap V.cells) (old ++ new) := by rw [List.flatMap_append]; exact o1.append n1
           have hlenb : ∀ v ∈ es ++ ys, v.cells.length = i.size := by
            intro v hv
            rcases List.mem_append.1 hv with h1 | h1
            ·obtain ⟨k, hk1⟩ := List.getElem?_of_mem h1
             exact (hl.get hk1).1
            ·exact hlen v h1
           have grow : ∀ (S₁ : St), S₁.next = S.next → (∀ id o, S₁.h.find id = some o → S.h.find id = some o) → Free σ S.next (S.next + 1) → cap < es.length + ys.length →
            ∃ r w' σ', (Builtin.append_ #[t, u] ty #[.slice (some ⟨b, o, none⟩) es.length cap, Y]).run P w = .ok r w' ∧ VR σ' (.list (some e) i.size (es ++ ys) (.own S.next)) r ∧ Rel none2 base w₀ σ' (S₁.new .tok) w' ∧ Stp σ S w σ' (S₁.new .tok) w' := by
            intro S₁ e1 e2 e3 hlt
            obtain ⟨c, c1, c2⟩ := append_grow_run (ty := ty) (old := old) w ht hu hui hi hzv rfl n3 hold hnew hlt hroom
            obtain ⟨σ', v1, v2, v3⟩ := newTok_list ((h.less e2).drew (w' := w.drew) rfl rfl rfl rfl) (by rw [e1]; exact e3 S.next (Nat.le_refl _) (by omega)) e (es := es ++ ys) (cap := c) hboth hlenb (by simpa using c1) (rest := (Builtin.zeroCells zv.cells (c - (es.length + ys.length))).toList) (by rw [zeroCells_length, hzs]; simp)
            rw [e1] at v1
            simp only [List.length_append] at v1
            refine ⟨_, _, σ', c2, v1, v2, ?_⟩
            exact Stp.of_less ((Stp.drew σ S₁ w w.drew rfl).trans v3 (by rw [e1]; simp only [St.new, e1]; exact e3)) e1 e2
           split at ha
           ·cases ha
           ·cases ha
            have hk : cap = es.length := hk
            exact grow S rfl (fun _ _ h => h) (by simpa [St.new] using hf) (by omega)
           ·rename_i id
            split at ha
            ·rename_i lt' hid
             split at ha
             ·rename_i hlt'
              have hlt' : lt' = e := by simpa using hlt'
              subst hlt'
              cases ha
              have hk : σ.ρ id = some (b, o + es.length * i.size, o + cap * i.size) := hk
              have hfree : Free σ S.next (S.next + 1) := by simpa [St.new] using hf
              by_cases hfit : es.length + ys.length ≤ cap
              ·obtain ⟨b', p', e', c, t', lo, hi2, q1, q2, q3, q4, q5, q6, q7, q8⟩ := h.ob id _ hid
               rw [hk] at q1; cases q1
               have hmul : (es.length + ys.length) * i.size ≤ cap * i.size := Nat.mul_le_mul_right _ hfit
               rw [Nat.add_mul] at hmul
               obtain ⟨r1, r2, r3, r4⟩ := h.putTok (fun _ _ h => h) hid hk (hfree S.next (Nat.le_refl _) (by omega)) new (by rw [n2]; omega) q3
               have hst := run_storeCells_fr P b (o + es.length * i.size) t' (lo, hi2) new 0 c w q3 (.inl (by simpa using r3)) (by rw [n2]; omega) (one_all n1 (flat_one hone))
               refine ⟨.slice (some ⟨b, o, none⟩) (es.length + ys.length) cap, _, _, ?_, ?_, r1, r2⟩
               ·refine append_fit_run (base' := some ⟨b, o, none⟩) w _ ht hu hui hi n3 (hnew w rfl) hfit ?_
                simp only [addr_add]
                simpa using hst
               ·have key := VR.list (σ := (σ.addI b (o + es.length * i.size) new).addK S.next (b, o + es.length * i.size + new.length, o + cap * i.size)) (t := some lt') (sz := i.size) (es := es ++ ys) (tk := .own S.next) (b := b) (o := o) (cap := cap)
                 (fun t'' h'' => r2.le.ty _ _ (hty t'' h'')) ((hl.mono r2.le).append (LR.of_flat hlen (CR.of_vals (n1.mono r2.le) fun j v hj => by
                  have := Sg.addI_get σ b (o + es.length * i.size) new j v hj
                  simpa [Sg.addK] using this))) (by simpa using hfit) (by
                  simp only [tkOk, Sg.addK, if_true, List.length_append]
                  rw [n2, Nat.add_mul, Nat.add_assoc])
                simpa using key
              ·exact grow { S with h := S.h.del id } rfl (fun k ok hk => by
                simp only [Tr.find_del] at hk
                split at hk
                ·cases hk
                ·exact hk) hfree (by omega)
             ·cases ha
            ·cases ha
      ·cases ha
  ·cases ha
end
end Go.Ev
namespace Go.Ev
open Go.RowKit
section
variable {P : Program} {base : Nat} {w₀ w : World} {σ : Sg} {S S' : St}
theorem flat_take {sz : Nat} : ∀ (ys : List V) (k : Nat), (∀ v ∈ ys, v.cells.length = sz) → (ys.take k).flatMap V.cells = (ys.flatMap V.cells).take (k * sz)
 | [], k, _ => by simp
 | y :: ys, 0, _ => by simp
 | y :: ys, k + 1, h => by
  rw [List.take_succ_cons, List.flatMap_cons, List.flatMap_cons, flat_take ys k fun v hv => h v (by simp [hv])]
  rw [show (k + 1) * sz = y.cells.length + k * sz by rw [h y (by simp), Nat.add_mul]; omega]
  rw [List.take_length_add_append]
theorem copyE_sound [Glob] (h : Rel none2 base w₀ σ S w) {t u ty : TypeId} {x y v : V} {X Y : Value} (ha : copyE P t x y S = some (v, S')) (hx : VR σ x X) (hy : VR σ y Y) :
 ∃ r w', (Builtin.copy_ #[t, u] ty #[X, Y]).run P w = .ok r w' ∧ VR σ v r ∧ Rel none2 base w₀ σ S' w' ∧ Stp σ S w σ S' w' := by
 unfold copyE at ha
 split at ha
 ·rename_i e lt sz0 tk he
  have ht := elemT_some he
  split at ha
  ·rename_i sz a hs hagg
   split at ha
   ·cases ha
   ·rename_i ys hys
    simp only [Option.some.injEq, Prod.mk.injEq] at ha
    obtain ⟨rfl, rfl⟩ := ha
    obtain ⟨new, n1, n2, n3, n4⟩ := readS_sound (P := P) h hys hy
    cases hx with
    | list hty hl hc hk =>
     have h0 := n4 w 0 rfl (Nat.zero_le _)
     simp only [Nat.zero_mul, List.take_zero] at h0
     refine ⟨.int .i64 (0 : Nat), w, ?_, .int _ _, h, Stp.refl _ _ _⟩
     have hmin : Nat.min ys.length 0 = 0 := Nat.min_zero _
     simp only [Builtin.copy_, List.getElem?_toArray, List.getElem?_cons_zero, List.getElem?_cons_succ, Sem.run_bind, run_underlying ht, Result.andThen_ok, n3 w, List.length_nil, hmin, szOf_run hs, h0]
     simp [storeCells, goInt]
  ·cases ha
 ·rename_i e id off len cap he
  have ht := elemT_some he
  split at ha
  ·rename_i sz a hs hagg
   split at ha
   ·cases ha
   ·rename_i ys hys
    simp only at ha
    obtain ⟨new, n1, n2, n3, n4⟩ := readS_sound (P := P) h hys hy
    have n5 := readS_cells h hys hy
    split at ha
    ·rename_i hc
     simp only [Bool.and_eq_true] at hc
     obtain ⟨hcl, hone⟩ := hc
     split at ha
     ·rename_i bt bs hid
      split at ha
      ·rename_i bs' hsp
       simp only [Option.some.injEq, Prod.mk.injEq] at ha
       obtain ⟨rfl, rfl⟩ := ha
       cases hx with
       | arr hρ =>
        rename_i b p e'
        obtain ⟨b', e'', vs, g1, g2, g3, g4, g5⟩ := h.ob id _ hid
        rw [hρ] at g1; cases g1
        obtain ⟨hs1, hs2⟩ := splice_some hsp
        have hzl : (ys.take len).length = Nat.min ys.length len := by rw [List.length_take, Nat.min_comm]
        have hcs : VRs σ ((ys.take len).flatMap V.cells) (new.take ((ys.take len).length * sz)) := by
         rw [flat_take ys len n5]
         have hm : (ys.flatMap V.cells).take (len * sz) = (ys.flatMap V.cells).take ((ys.take len).length * sz) := by
          rw [List.length_take]
          by_cases hle : len ≤ ys.length
          ·rw [Nat.min_eq_left hle]
          ·rw [Nat.min_eq_right (by omega), List.take_of_length_le (by rw [n1.length, n2]; exact Nat.mul_le_mul_right _ (by omega)), List.take_of_length_le (by rw [n1.length, n2]; exact Nat.le_refl _)]
         rw [hm]
         exact n1.take _
        have hlen := hcs.length
        have hfirst := n4 w (ys.take len).length rfl (by rw [List.length_take]; omega)
        have hst := run_storeCells_fr P b off bt (0, 0) (new.take ((ys.take len).length * sz)) 0 vs.toArray w g3 (.inr rfl) (by rw [← hlen]; have e1 := g4.length; rw [Nat.add_zero, List.size_toArray]; omega) (one_all hcs hone)
        have hbox := h.setBox (cs' := bs') hid hρ (vs' := vs.take off ++ (new.take ((ys.take len).length * sz) ++ vs.drop (off + (new.take ((ys.take len).length * sz)).length))) (by
         rw [hs1, hlen]
         exact (g4.take off).append (hcs.append (g4.drop _)))
        refine ⟨.int .i64 ((ys.take len).length : Nat), _, ?_, .int _ _, hbox.1, hbox.2⟩
        have hst' : (storeCells ⟨b, off, none⟩ (new.take ((ys.take len).length * sz))).run P w = .ok () (w.setRow b (vs.take off ++ (new.take ((ys.take len).length * sz) ++ vs.drop (off + (new.take ((ys.take len).length * sz)).length))).toArray) := by
         simpa [List.append_assoc] using hst
        have hmin : Nat.min ys.length len = (ys.take len).length := hzl.symm
        simp only [Builtin.copy_, Sem.run_bind]
        simp only [List.getElem?_toArray, List.getElem?_cons_zero, List.getElem?_cons_succ, Sem.run_bind, run_underlying ht, Result.andThen_ok, n3, hmin, szOf_run hs, hfirst, hst', Sem.run_pure]
        rfl
      ·cases ha
     ·cases ha
    ·cases ha
  ·cases ha
 ·cases ha
theorem toBytes_sound : ∀ {cs : List V} {s : List UInt8} {vs : List Value}, toBytes cs = some s → VRs σ cs vs → ∃ ns : List Int, vs = ns.map (Value.int .u8) ∧ s = ns.map fun n => UInt8.ofNat n.toNat
 | [], s, vs, h, hv => by
  simp [toBytes] at h; subst h; cases hv; exact ⟨[], rfl, rfl⟩
 | c :: cs, s, vs, h, hv => by
  unfold toBytes at h
  split at h
  ·rename_i e; cases e
  ·rename_i n l e
   cases e
   simp only [Option.map_eq_some_iff] at h
   obtain ⟨s', h1, rfl⟩ := h
   cases hv with
   | cons hv hvs =>
    cases hv
    obtain ⟨ns, e1, e2⟩ := toBytes_sound h1 hvs
    exact ⟨n :: ns, by simp [e1], by simp [e2]⟩
  ·cases h
theorem fold_push : ∀ (ns : List Int) (acc : ByteArray), (ns.foldl (fun (r : ByteArray) n => r.push (UInt8.ofNat n.toNat)) acc).data.toList = acc.data.toList ++ ns.map fun n => UInt8.ofNat n.toNat
 | [], acc => by simp
 | n :: ns, acc => by
  rw [List.foldl_cons, fold_push ns]
  simp [ByteArray.push]
theorem bytes_run {b o len cap : Nat} {ns : List Int} (w : World) (hl : ns.length = len) (hc : ∀ j v, (ns.map (Value.int .u8))[j]? = some v → w.cell? ((⟨b, o, none⟩ : Addr).add j) = some v) :
 ∃ s : ByteArray, s.data.toList = ns.map (fun n => UInt8.ofNat n.toNat) ∧ (Conv.bytesToString (.slice (some ⟨b, o, none⟩) len cap)).run P w = .ok (.string s) w := by
 have hload := run_loadCells_list (P := P) w ⟨b, o, none⟩ _ hc
 rw [List.length_map, hl] at hload
 exact ⟨_, by rw [fold_push]; rfl, run_bytesToString w _ len cap ns hload⟩
theorem run_loadBytes' (w : World) : ∀ (ns : List Int) (a : Addr) (acc : ByteArray), (∀ j v, (ns.map (Value.int .u8))[j]? = some v → w.cell? (a.add j) = some v) →
 ∃ s : ByteArray, s.data.toList = acc.data.toList ++ ns.map (fun n => UInt8.ofNat n.toNat) ∧ (loadBytes a acc ns.length).run P w = .ok s w
 | [], a, acc, _ => ⟨acc, by simp, rfl⟩
 | n :: ns, a, acc, h => by
  have h0 : w.cell? a = some (.int .u8 n) := by
   have := h 0 _ rfl
   simpa [Addr.add] using this
  obtain ⟨s, e1, e2⟩ := run_loadBytes' w ns (a.add 1) (acc.push n.toNat.toUInt8) (fun j v hj => by
   have := h (j + 1) v (by simpa using hj)
   have e : (a.add 1).add j = a.add (j + 1) := by
    unfold Addr.add
    by_cases hj : j = 0
    ·subst hj; simp
    ·simp [hj]; omega
   rw [e]; exact this)
  refine ⟨s, by rw [e1]; simp [ByteArray.push], ?_⟩
  simp only [List.length_cons, loadBytes, Sem.run_bind, run_load, h0, Result.andThen_ok, e2]
theorem liesAt_row {e : TypeId} (hc : P.cellsOf e = 1) (count o n : Nat) (hn : o + n ≤ count) : liesAt P P.depth e count o e n = true := by
 have hd : P.depth = (2 * (P.types.size + Made.depth) + 1) + 1 := rfl
 rw [hd]
 simp only [liesAt, Bool.or_eq_true]
 left
 rw [hd]
 simp [rowAt, hc, hn, sameLayout, Nat.mod_one]
theorem unsafeStrE_sound [Glob] (h : Rel none2 base w₀ σ S w) {pt it ty : TypeId} {x n v : V} {X N : Value} (ha : unsafeStrE P pt x n S = some (v, S')) (hx : VR σ x X) (hn : VR σ n N) :
 ∃ r w', (Builtin.unsafeString_ #[pt, it] ty #[X, N]).run P w = .ok r w' ∧ VR σ v r ∧ Rel none2 base w₀ σ S' w' ∧ Stp σ S w σ S' w' := by
 unfold unsafeStrE at ha
 split at ha
 ·rename_i e k n hu
  cases hn
  split at ha
  ·rename_i h0
   have h0 : n = 0 := by simpa using h0
   subst h0
   split at ha
   ·simp only [Option.some.injEq, Prod.mk.injEq] at ha
    obtain ⟨rfl, rfl⟩ := ha
    cases hx
    refine ⟨.string .empty, w, ?_, .str _ rfl, h, Stp.refl _ _ _⟩
    have := Lib.run_unsafeString_none (P := P) w pt it ty none
    have hk : (Builtin.unsafeString_ #[pt, it] ty #[.pointer none, .int k 0]) = (Builtin.unsafeString_ #[pt, it] ty #[.pointer none, .int .i64 0]) := rfl
    rw [hk]; exact this
   ·simp only [Option.some.injEq, Prod.mk.injEq] at ha
    obtain ⟨rfl, rfl⟩ := ha
    cases hx with
    | cptr ht hc =>
     rename_i off b o
     refine ⟨.string .empty, w, ?_, .str _ rfl, h, Stp.refl _ _ _⟩
     have hk : (Builtin.unsafeString_ #[pt, it] ty #[.pointer (some ⟨b, o + off, none⟩), .int k 0]) = (Builtin.unsafeString_ #[pt, it] ty #[.pointer (some ⟨b, o + off, none⟩), .int .i64 0]) := rfl
     rw [hk]
     exact Lib.run_unsafeString_none (P := P) w pt it ty (some ⟨b, o + off, none⟩)
   ·cases ha
  ·rename_i h0
   have h0 : n ≠ 0 := by simpa using h0
   split at ha
   ·rename_i hr
    simp at hr
    obtain ⟨hr1, hr2⟩ := hr
    split at ha
    ·rename_i lt cs
     split at ha
     ·rename_i hc
      simp only [Bool.and_eq_true] at hc
      obtain ⟨⟨c1, c2⟩, c3⟩ := hc
      have c1 : lt = e := by simpa using c1
      have c2 : P.cellsOf e = 1 := by simpa using c2
      have c3 : n.toNat = cs.length := by simpa using c3
      subst c1
      split at ha
      ·rename_i hue
       simp only [Option.map_eq_some_iff, Prod.mk.injEq] at ha
       obtain ⟨s, hs, rfl, rfl⟩ := ha
       cases hx with
       | cptr ht hc =>
        rename_i b o
        obtain ⟨vs, g1, g2⟩ := hc.vals
        obtain ⟨ns, rfl, rfl⟩ := toBytes_sound hs g1
        have hnl : ns.length = cs.length := by rw [g1.length]; simp
        have hcell : ∀ j v, (ns.map (Value.int .u8))[j]? = some v → w.cell? ((⟨b, o + 0, none⟩ : Addr).add j) = some v := fun j v hj => by
         rw [addr_add, Nat.add_zero]
         exact h.imm _ _ _ (g2 j v hj) id
        obtain ⟨s, s1, s2⟩ := run_loadBytes' (P := P) w ns ⟨b, o + 0, none⟩ .empty hcell
        obtain ⟨c', fr, q1, q2⟩ := h.ty b lt (ht lt rfl)
        obtain ⟨lo, hi⟩ := fr
        have hpos : 0 < ns.length := by omega
        have hlast : ∃ v, σ.I b (o + ns.length - 1) = some v := by
         refine ⟨(ns.map (Value.int .u8))[ns.length - 1]'(by simp; omega), ?_⟩
         have := g2 (ns.length - 1) _ (List.getElem?_eq_getElem (by simp; omega))
         rwa [show o + (ns.length - 1) = o + ns.length - 1 by omega] at this
        have hsz : o + ns.length ≤ c'.size := by
         obtain ⟨v, hv⟩ := hlast
         have := h.imm _ _ _ hv id
         simp only [World.cell?, q1] at this
         have hlt : o + ns.length - 1 < c'.size := by
          rcases Nat.lt_or_ge (o + ns.length - 1) c'.size with h' | h'
          ·exact h'
          ·simp [Array.getElem?_eq_none h'] at this
         omega
        have hsh : w.shape? b = some (lt, c'.size) := by simp [World.shape?, q1]
        have hlies := liesAt_row (P := P) c2 (c'.size / P.cellsOf lt) (o + 0) ns.length (by rw [c2, Nat.div_one]; omega)
        obtain ⟨r1, r2⟩ := h.freezeRow (o := o + 0) (n := ns.length) q2 (by omega) q1 (by rw [Nat.add_zero]; exact hlast)
        refine ⟨.string s, _, ?_, .str _ (by rw [s1]; rfl), r1, r2⟩
        have hmax : IntKind.i64.max = 9223372036854775807 := rfl
        obtain ⟨e1, e2, e3, hdef⟩ : ∃ (e1 e2 : Sem PUnit) (e3 : Sem Value), Builtin.unsafeString_ #[pt, it] ty #[.pointer (some ⟨b, o + 0, none⟩), .int k n] =
         (do
          let n ← asInt (.int k n)
          if n < 0 then e1
          if n > IntKind.i64.max then e2
          if n = 0 then pure (.string .empty)
          else if ← variablesAt ⟨b, o + 0, none⟩ (← elemOf pt) n.toNat then do
           let s ← loadBytes ⟨b, o + 0, none⟩ .empty n.toNat
           freeze ⟨b, o + 0, none⟩ n.toNat
           pure (.string s)
          else e3) := ⟨_, _, _, rfl⟩
        rw [hdef]
        have hneg : ¬ n < 0 := by omega
        have hbig : ¬ (9223372036854775807 : Int) < n := by omega
        have hnn : n.toNat = ns.length := by omega
        simp only [Nat.add_zero] at s2 hlies ⊢
        simp [asInt, asIntOf, hmax, hbig, hneg, h0, variablesAt, hsh, elemOf, run_underlying hu, hnn, hlies, s2]
      ·cases ha
     ·cases ha
    ·cases ha
   ·cases ha
 ·cases ha
theorem makeSliceE_sound [Glob] (h : Rel none2 base w₀ σ S w) {t : TypeId} {l c v : V} {L C : Value} (ha : makeSliceE P t l c S = some (v, S')) (hf : Free σ S.next S'.next) (hl : VR σ l L) (hc : VR σ c C) :
 ∃ r w' σ', (Instr.makeSlice t L C).run P w = .ok r w' ∧ VR σ' v r ∧ Rel none2 base w₀ σ' S' w' ∧ Stp σ S w σ' S' w' := by
 unfold makeSliceE at ha
 split at ha
 ·rename_i e k l j c he
  have ht := elemT_some he
  cases hl; cases hc
  split at ha
  ·rename_i i a z hi hagg hz
   split at ha
   ·rename_i hcnd
    simp only [Bool.and_eq_true, decide_eq_true_eq, Nat.ble_eq] at hcnd
    obtain ⟨⟨⟨⟨⟨c1, c2⟩, c3⟩, c4⟩, c5⟩, c6⟩ := hcnd
    have c6 : z.cells.length = i.size := by simpa using c6
    obtain ⟨i', zv, hi', hzv, hzr⟩ := zeroV_sound σ hz
    rw [hi] at hi'; cases hi'
    have hzlen : zv.cells.toList.length = i.size := by rw [← hzr.cells.length]; exact c6
    have hzs : zv.cells.size = i.size := by rw [← hzlen]; simp
    have hwrap : ∀ m : Int, 0 ≤ m → m ≤ 9223372036854775807 → IntKind.i64.wrap m = m := by
     intro m h1 h2
     exact IntWalk.i64_in m (by omega)
    have hwl := hwrap l c1 (by omega)
    have hwc := hwrap c (by omega) c3
    have hsmall : ∀ m : Int, 0 ≤ m → m ≤ c → (m < 0 || (i.bytes : Int) * m > 2 ^ 48) = false := by
     intro m h1 h2
     have hb : (i.bytes : Int) * m ≤ i.bytes * c := Int.mul_le_mul_of_nonneg_left h2 (by omega)
     have hc' : (i.bytes : Int) * c = ((i.bytes * c.toNat : Nat) : Int) := by rw [Int.natCast_mul]; congr 1; omega
     simp
     omega
    have hrun : (Instr.makeSlice t (.int k l) (.int j c)).run P w = .ok (.slice (some ⟨w.heap.size, 0, none⟩) l.toNat c.toNat) (w.alloc (.cells (repv zv.cells.toList c.toNat).toArray e)) := by
     have hcells : ((Array.range (c.toNat * i.size)).map fun i => zv.cells[i % zv.cells.size]!) = (repv zv.cells.toList c.toNat).toArray := by
      apply Array.ext'
      rw [← repv_range, hzlen, hzs]
      simp only [Array.toList_map, Array.toList_range]
      refine List.map_congr_left fun q _ => ?_
      have hlt : q % i.size < i.size := Nat.mod_lt _ (by omega)
      have h1 : q % i.size < zv.cells.size := by omega
      have h2 : q % i.size < zv.cells.toList.length := by omega
      rw [getElem!_pos zv.cells (q % i.size) h1, getElem!_pos zv.cells.toList (q % i.size) h2, Array.getElem_toList]
     have hs1 := hsmall c (by omega) (Int.le_refl _)
     have hln : ¬ l < 0 := by omega
     have hlc : ¬ c < l := by omega
     simp only [Instr.makeSlice, Sem.run_bind, run_underlying ht, Result.andThen_ok, asInt, asIntOf, Sem.run_pure, typeInfo, run_program, hi, hwl, hwc]
     simp only [hs1, Bool.false_or, decide_eq_true_eq]
     rw [if_neg (by simp; omega)]
     simp only [Sem.run_bind, run_askRoom, Result.andThen_ok, sizeOf, typeInfo, run_program, hi, Sem.run_pure]
     by_cases h0 : c.toNat * i.size = 0
     ·have hc0 : c.toNat = 0 := by
       rcases Nat.mul_eq_zero.1 h0 with h' | h'
       ·exact h'
       ·omega
      rw [if_pos h0]
      have hr0 : (repv zv.cells.toList c.toNat).toArray = #[] := by rw [hc0]; rfl
      rw [hr0, h0]
      simp only [Sem.run_bind, Sem.run_pure, Result.andThen_ok, Array.range_zero', Array.map_empty]
      rfl
     ·rw [if_neg h0]
      simp only [Sem.run_bind, zero_run hi hzv, Result.andThen_ok, Sem.run_pure, hcells]
      rfl
    split at ha
    ·rename_i hc0
     have hc0 : c = 0 := by simpa using hc0
     subst hc0
     have hl0 : l = 0 := by omega
     subst hl0
     simp only [Option.some.injEq, Prod.mk.injEq] at ha
     obtain ⟨rfl, rfl⟩ := ha
     obtain ⟨r1, r2⟩ := h.newRow e [] (repv zv.cells.toList (0 : Int).toNat)
     exact ⟨_, _, _, hrun, .list (b := w.heap.size) (o := 0) (cap := 0) (fun t' ht => by cases ht; simp [Sg.addT]) (.nil _ _ _) (Nat.le_refl _) rfl, r1, r2⟩
    split at ha
    ·rename_i hl0
     have hl0 : l = 0 := by simpa using hl0
     subst hl0
     simp only [Option.some.injEq, Prod.mk.injEq] at ha
     obtain ⟨rfl, rfl⟩ := ha
     obtain ⟨σ', v1, v2, v3⟩ := newTok_list h (hf S.next (Nat.le_refl _) (by simp [St.new])) e (sz := i.size) (es := []) (vs := []) (rest := repv zv.cells.toList c.toNat) .nil (by simp) (cap := c.toNat) (by simp) (by rw [repv_length, hzlen]; simp)
     exact ⟨_, _, σ', hrun, v1, v2, v3⟩
    ·simp only [Option.some.injEq, Prod.mk.injEq] at ha
     obtain ⟨rfl, rfl⟩ := ha
     obtain ⟨r1, r2⟩ := h.newBox (hf S.next (Nat.le_refl _) (by simp [St.new])) e (reps_sound hzr.cells c.toNat)
     exact ⟨_, _, _, hrun, .arr (b := w.heap.size) (p := 0) (e := 0) (by simp [Sg.addK]), r1, r2⟩
   ·cases ha
  ·cases ha
 ·cases ha
end
end Go.Ev
namespace Go.Ev
open Go.RowKit
section
variable {P : Program} {base : Nat} {w₀ w : World} {σ : Sg} {S S' : St}
theorem isKeyD_sound {d : TypeDesc} {k : V} {K : Value} (h : isKeyD d k = true) (hk : VR σ k K) : MapKept.IsKey d K := by
 cases k <;> cases d <;> first | (cases h; done) | skip
 ·cases hk; trivial
 ·cases hk; simp only [isKeyD, decide_eq_true_eq] at h; unfold MapKept.IsKey; exact h
 ·cases hk; trivial
theorem bytes_ext {a b : ByteArray} (h : a.data.toList = b.data.toList) : a = b := by
 cases a; cases b; simp only [ByteArray.mk.injEq]; exact Array.ext' h
theorem sameKey_sound {d : TypeDesc} {k q : V} {K Q : Value} {b : Bool} (hd : isKeyD d k = true) (hk : VR σ k K) (hq : VR σ q Q) (h : sameKey k q = some b) : Instr.sameNow d K Q = some b ∧ (b = true → Q = K) := by
 unfold sameKey at h
 split at h
 ·split at h
  ·rename_i hj
   have hj := of_decide_eq_true hj
   subst hj
   cases hk; cases hq
   cases d <;> first | (cases hd; done) | skip
   cases h
   exact ⟨by simp [Instr.sameNow], fun e => by simp at e; rw [e]⟩
  ·cases h
 ·cases hk with
  | str s hs => cases hq with
   | str t ht =>
    cases d <;> first | (cases hd; done) | skip
    cases h
    refine ⟨?_, fun e => ?_⟩
    ·rename_i a b
     have h2 : (s == t) = decide (a = b) := by
      rw [Bool.eq_iff_iff, MapKept.bytes_beq, decide_eq_true_eq, ← hs, ← ht]
      exact ⟨fun e => by rw [e], bytes_ext⟩
     simp only [Instr.sameNow]
     rw [h2]
    ·have e := of_decide_eq_true e
     rw [bytes_ext (show t.data.toList = s.data.toList by rw [hs, ht, e])]
 ·cases hk; cases hq
  cases d <;> first | (cases hd; done) | skip
  cases h
  exact ⟨by simp [Instr.sameNow], fun e => by simp at e; rw [e]⟩
 ·cases h
theorem findE_sound {d : TypeDesc} {k : V} {K : Value} (hd : isKeyD d k = true) (hk : VR σ k K) : ∀ {es : List (V × V × Nat)} {l : List MapEntry} (i : Nat) {r : Option (Nat × V)}, EsR σ es l → findE k es i = some r →
 (r = none ∧ Instr.findNow d K l i = some none) ∨ ∃ j v e, r = some (i + j, v) ∧ Instr.findNow d K l i = some (some (i + j, e.val)) ∧ VR σ v e.val ∧ l[j]? = some e ∧ e.key = K
 | [], [], i, r, _, h => by cases h; exact .inl ⟨rfl, rfl⟩
 | (q, v, n) :: es, e :: l, i, r, .cons h1 h2 h3 t, h => by
  simp only [findE] at h
  cases hs : sameKey k q with
  | none => rw [hs] at h; cases h
  | some b =>
   rw [hs] at h
   obtain ⟨s1, s2⟩ := sameKey_sound hd hk h1 hs
   cases b with
   | true =>
    cases h
    exact .inr ⟨0, v, e, rfl, by simp [Instr.findNow, s1], h2, rfl, s2 rfl⟩
   | false =>
    rcases findE_sound hd hk (i + 1) t h with ⟨rfl, h4⟩ | ⟨j, v', e', rfl, h4, h5, h6, h7⟩
    ·exact .inl ⟨rfl, by simp [Instr.findNow, s1, h4]⟩
    ·exact .inr ⟨j + 1, v', e', by rw [show i + 1 + j = i + (j + 1) by omega], by simp only [Instr.findNow, s1, h4]; rw [show i + 1 + j = i + (j + 1) by omega], h5, by simpa using h6, h7⟩
theorem EsR.push {es : List (V × V × Nat)} {l : List MapEntry} (h : EsR σ es l) {k v : V} {n : Nat} {e : MapEntry} (h1 : VR σ k e.key) (h2 : VR σ v e.val) (h3 : e.born = n) : EsR σ (es ++ [(k, v, n)]) (l ++ [e]) := by
 induction es generalizing l with
 | nil => cases h; exact .cons h1 h2 h3 .nil
 | cons x es ih => cases h with | cons a b c t => exact .cons a b c (ih t)
theorem EsR.setAt {es : List (V × V × Nat)} {l : List MapEntry} (h : EsR σ es l) {k v : V} {K X : Value} (h1 : VR σ k K) (h2 : VR σ v X) : ∀ (i : Nat), EsR σ (Ev.setAt k v es i) (l.modify i fun e => { e with key := K, val := X }) := by
 induction es generalizing l with
 | nil => intro i; cases h; cases i <;> exact .nil
 | cons x es ih =>
  intro i
  cases h with
  | cons a b c t =>
   cases i with
   | zero => exact .cons h1 h2 c t
   | succ i => exact .cons a b c (ih t i)
theorem EsR.erase {es : List (V × V × Nat)} {l : List MapEntry} (h : EsR σ es l) : ∀ (i : Nat), EsR σ (es.eraseIdx i) (l.eraseIdx i) := by
 induction es generalizing l with
 | nil => intro i; cases h; exact .nil
 | cons x es ih =>
  intro i
  cases h with
  | cons a b c t =>
   cases i with
   | zero => exact t
   | succ i => exact .cons a b c (ih t i)
theorem mapT_some {t e : TypeId} {d : TypeDesc} (h : mapT P t = some (d, e)) : ∃ k, P.underlying t = some (.map k e) ∧ P.underlying k = some d := by
 unfold mapT at h
 split at h
 ·rename_i k e' h1
  split at h
  ·rename_i d' h2; cases h; exact ⟨k, h1, h2⟩
  ·cases h
 ·cases h
theorem Rel.mapAt [Glob] (h : Rel none2 base w₀ σ S w) {id b p e : Nat} {es : List (V × V × Nat)} {clock : Nat} (hid : S.h.find id = some (.oth (.map es clock))) (hρ : σ.ρ id = some (b, p, e)) :
 ∃ l : Array MapEntry, w.heap[b]? = some (.map l clock) ∧ EsR σ es l.toList := by
 obtain ⟨b', e', ob, h1, h2, h3, h4, h5⟩ := h.ob id _ hid
 rw [hρ] at h1; cases h1
 cases ob <;> first | exact h4.elim | skip
 obtain ⟨h6, rfl⟩ := h4
 exact ⟨_, h3, h6⟩
theorem lookupE_sound [Glob] (h : Rel none2 base w₀ σ S w) {t : TypeId} {x k v : V} {ok : Bool} {X K : Value} (ha : lookupE P t x k ok S = some v) (hx : VR σ x X) (hk : VR σ k K) :
 ∃ r, (Instr.lookup t X K ok).run P w = .ok r w ∧ VR σ v r := by
 unfold lookupE at ha
 split at ha
 ·rename_i d e es hT hes
  obtain ⟨kt, hu, hkt⟩ := mapT_some hT
  split at ha
  ·rename_i hkey
   have hK := isKeyD_sound hkey hk
   have hent : (X = .map none ∧ es = []) ∨ ∃ b l c, X = .map (some b) ∧ w.heap[b]? = some (.map l c) ∧ EsR σ es l.toList := by
    unfold entsE at hes
    split at hes
    ·cases hes; cases hx; exact .inl ⟨rfl, rfl⟩
    ·rename_i id
     split at hes
     ·rename_i es' c hid
      cases hes
      cases hx with
      | map hρ =>
       obtain ⟨l, h1, h2⟩ := h.mapAt hid hρ
       exact .inr ⟨_, l, c, rfl, h1, h2⟩
     ·cases hes
    ·cases hes
   have fin : ∀ (l : List MapEntry), EsR σ es l → ∃ (a : Option (Nat × Value)) (r : Value), Instr.findNow d K l 0 = some a ∧ VR σ v r ∧ ∃ i zv, P.info? e = some i ∧ i.zero = some zv ∧
    ((∃ q u, a = some (q, u) ∧ r = (if ok then .tuple #[u, .bool true] else u)) ∨ (a = none ∧ r = (if ok then .tuple #[zv, .bool false] else zv))) := by
    intro l hl
    split at ha
    ·rename_i r v' z hf hz
     obtain ⟨i, zv, hi, hzv, hzr⟩ := zeroV_sound σ hz
     cases ha
     rcases findE_sound hkey hk 0 hl hf with ⟨h1, _⟩ | ⟨j, v2, en, h1, h2, h3, _⟩
     ·cases h1
     ·cases h1
      refine ⟨_, if ok then .tuple #[en.val, .bool true] else en.val, h2, ?_, i, zv, hi, hzv, .inl ⟨_, _, rfl, rfl⟩⟩
      cases ok
      ·exact h3
      ·exact .tup (.cons h3 (.cons (.bool _) .nil))
    ·rename_i z hf hz
     obtain ⟨i, zv, hi, hzv, hzr⟩ := zeroV_sound σ hz
     cases ha
     rcases findE_sound hkey hk 0 hl hf with ⟨_, h2⟩ | ⟨j, v2, en, h1, _⟩
     ·refine ⟨_, if ok then .tuple #[zv, .bool false] else zv, h2, ?_, i, zv, hi, hzv, .inr ⟨rfl, rfl⟩⟩
      cases ok
      ·exact hzr
      ·exact .tup (.cons hzr (.cons (.bool _) .nil))
     ·cases h1
    ·cases ha
   rcases hent with ⟨rfl, rfl⟩ | ⟨b, l, c, rfl, hb, hl⟩
   ·obtain ⟨a, r, h1, h2, i, zv, hi, hzv, h3⟩ := fin [] .nil
    refine ⟨r, ?_, h2⟩
    have h1' : (Instr.findKey kt K (#[] : Array MapEntry).toList).run P w = .ok a w := MapKept.run_findKey hkt h1
    rcases h3 with ⟨q, u, rfl, rfl⟩ | ⟨rfl, rfl⟩
    ·simp only [Instr.lookup, Sem.run_bind, Sem.run_pure, run_underlying hu, Result.andThen_ok, MapKept.run_checkKey hkt hK, h1']
    ·simp only [Instr.lookup, Sem.run_bind, Sem.run_pure, run_underlying hu, Result.andThen_ok, MapKept.run_checkKey hkt hK, h1', zero_run hi hzv]
   ·obtain ⟨a, r, h1, h2, i, zv, hi, hzv, h3⟩ := fin l.toList hl
    refine ⟨r, ?_, h2⟩
    have h1' : (Instr.findKey kt K l.toList).run P w = .ok a w := MapKept.run_findKey hkt h1
    rcases h3 with ⟨q, u, rfl, rfl⟩ | ⟨rfl, rfl⟩
    ·simp only [Instr.lookup, Sem.run_bind, Sem.run_pure, run_underlying hu, Result.andThen_ok, MapKept.run_getObj_map hb, MapKept.run_checkKey hkt hK, h1']
    ·simp only [Instr.lookup, Sem.run_bind, Sem.run_pure, run_underlying hu, Result.andThen_ok, MapKept.run_getObj_map hb, MapKept.run_checkKey hkt hK, h1', zero_run hi hzv]
  ·cases ha
 ·cases ha
theorem updateE_sound [Glob] (h : Rel none2 base w₀ σ S w) {t : TypeId} {x k v : V} {X K U : Value} (ha : updateE P t x k v S = some S') (hx : VR σ x X) (hk : VR σ k K) (hv : VR σ v U) :
 ∃ w', (Instr.mapUpdate t X K U).run P w = .ok () w' ∧ Rel none2 base w₀ σ S' w' ∧ Stp σ S w σ S' w' := by
 unfold updateE at ha
 split at ha
 ·rename_i d e id hT
  obtain ⟨kt, hu, hkt⟩ := mapT_some hT
  split at ha
  ·rename_i es clock hid
   split at ha
   ·rename_i hkey
    have hK := isKeyD_sound hkey hk
    cases hx with
    | map hρ =>
     obtain ⟨l, h1, h2⟩ := h.mapAt hid hρ
     split at ha
     ·rename_i i v' hf
      cases ha
      rcases findE_sound hkey hk 0 h2 hf with ⟨h3, _⟩ | ⟨j, v2, en, h3, h4, h5, h6, h7⟩
      ·cases h3
      ·simp only [Nat.zero_add] at h3 h4
       cases h3
       have h6' : l[i]? = some en := by simpa using h6
       obtain ⟨r1, r2⟩ := h.setOth hid hρ (x' := .map (setAt k v es i) clock) (ob' := .map (l.modify i fun e => { e with key := K, val := U }) clock) ⟨by simpa using h2.setAt hk hv i, rfl⟩
       refine ⟨_, ?_, r1, r2⟩
       simp only [Instr.mapUpdate, Sem.run_bind, run_underlying hu, Result.andThen_ok, MapKept.run_getObj_map h1, MapKept.run_checkKey hkt hK, MapKept.run_findKey hkt h4, h6', Option.map_some, Option.getD_some, h7,
        MapKept.run_keyThatStays hK, MapKept.run_setObj_map _ h1]
       rfl
     ·rename_i hf
      cases ha
      rcases findE_sound hkey hk 0 h2 hf with ⟨_, h4⟩ | ⟨j, v2, en, h3, _⟩
      ·obtain ⟨r1, r2⟩ := h.setOth hid hρ (x' := .map (es ++ [(k, v, clock)]) (clock + 1)) (ob' := .map (l.push { key := K, val := U, born := clock }) (clock + 1)) ⟨by simpa using h2.push (e := { key := K, val := U, born := clock }) hk hv rfl, rfl⟩
       refine ⟨_, ?_, r1, r2⟩
       simp only [Instr.mapUpdate, Sem.run_bind, run_underlying hu, Result.andThen_ok, MapKept.run_getObj_map h1, MapKept.run_checkKey hkt hK, MapKept.run_findKey hkt h4, MapKept.run_setObj_map _ h1]
       rfl
      ·cases h3
     ·cases ha
   ·cases ha
  ·cases ha
 ·cases ha
theorem deleteE_sound [Glob] (h : Rel none2 base w₀ σ S w) {t ty : TypeId} {ts : List TypeId} {x k : V} {X K : Value} (ha : deleteE P t x k S = some S') (hx : VR σ x X) (hk : VR σ k K) :
 ∃ w', (Builtin.delete_ (t :: ts).toArray ty #[X, K]).run P w = .ok (.tuple #[]) w' ∧ Rel none2 base w₀ σ S' w' ∧ Stp σ S w σ S' w' := by
 unfold deleteE at ha
 split at ha
 ·rename_i d e id hT
  obtain ⟨kt, hu, hkt⟩ := mapT_some hT
  split at ha
  ·rename_i es clock hid
   split at ha
   ·rename_i hkey
    have hK := isKeyD_sound hkey hk
    cases hx with
    | map hρ =>
     obtain ⟨l, h1, h2⟩ := h.mapAt hid hρ
     split at ha
     ·rename_i i v' hf
      cases ha
      rcases findE_sound hkey hk 0 h2 hf with ⟨h3, _⟩ | ⟨j, v2, en, h3, h4, h5, h6, h7⟩
      ·cases h3
      ·simp only [Nat.zero_add] at h3 h4
       cases h3
       obtain ⟨r1, r2⟩ := h.setOth hid hρ (x' := .map (es.eraseIdx i) clock) (ob' := .map (l.eraseIdxIfInBounds i) clock) ⟨by
        have := h2.erase i
        rw [Array.eraseIdxIfInBounds_eq]
        split
        ·simpa using this
        ·rename_i hi
         rw [List.eraseIdx_of_length_le (l := l.toList) (by simpa using hi)] at this
         exact this, rfl⟩
       refine ⟨_, ?_, r1, r2⟩
       simp [Builtin.delete_, run_underlying hu, Result.andThen, MapKept.run_getObj_map h1, MapKept.run_checkKey hkt hK, MapKept.run_findKey hkt h4, MapKept.run_setObj_map _ h1]
       rfl
     ·rename_i hf
      cases ha
      rcases findE_sound hkey hk 0 h2 hf with ⟨_, h4⟩ | ⟨j, v2, en, h3, _⟩
      ·obtain ⟨r1, r2⟩ := h.setOth hid hρ (x' := .map es clock) (ob' := .map l clock) ⟨h2, rfl⟩
       refine ⟨_, ?_, r1, r2⟩
       simp [Builtin.delete_, run_underlying hu, Result.andThen, MapKept.run_getObj_map h1, MapKept.run_checkKey hkt hK, MapKept.run_findKey hkt h4, MapKept.run_setObj_map _ h1]
       rfl
      ·cases h3
     ·cases ha
   ·cases ha
  ·cases ha
 ·cases ha
theorem clearE_sound [Glob] (h : Rel none2 base w₀ σ S w) {t ty : TypeId} {ts : List TypeId} {x : V} {X : Value} (ha : clearE P t x S = some S') (hx : VR σ x X) :
 ∃ w', (Builtin.clear_ (t :: ts).toArray ty #[X]).run P w = .ok (.tuple #[]) w' ∧ Rel none2 base w₀ σ S' w' ∧ Stp σ S w σ S' w' := by
 unfold clearE at ha
 split at ha
 ·rename_i k e id hu
  split at ha
  ·rename_i es clock hid
   cases ha
   cases hx with
   | map hρ =>
    obtain ⟨l, h1, h2⟩ := h.mapAt hid hρ
    obtain ⟨r1, r2⟩ := h.setOth hid hρ (x' := .map [] clock) (ob' := .map #[] clock) ⟨.nil, rfl⟩
    refine ⟨_, ?_, r1, r2⟩
    simp [Builtin.clear_, run_underlying hu, Result.andThen, MapKept.run_getObj_map h1, MapKept.run_setObj_map _ h1]
    rfl
  ·cases ha
 ·cases ha
theorem rangeE_sound [Glob] (h : Rel none2 base w₀ σ S w) {t : TypeId} {x v : V} {X : Value} (ha : rangeE P t x S = some (v, S')) (hf : Free σ S.next S'.next) (hx : VR σ x X) :
 ∃ r w' σ', (Instr.range t X).run P w = .ok r w' ∧ VR σ' v r ∧ Rel none2 base w₀ σ' S' w' ∧ Stp σ S w σ' S' w' := by
 unfold rangeE at ha
 split at ha
 ·rename_i s hu
  simp only [Option.some.injEq, Prod.mk.injEq] at ha
  obtain ⟨rfl, rfl⟩ := ha
  cases hx with
  | str b hb =>
   obtain ⟨r1, r2⟩ := h.newOth (hf S.next (Nat.le_refl _) (by simp [St.new])) (x := .sit s 0) (ob := .stringIter b 0) ⟨hb, rfl⟩
   refine ⟨.pointer (some ⟨w.heap.size, 0, none⟩), _, _, ?_, .ptr (b := w.heap.size) (p := 0) (e := 0) (by simp [Sg.addK]), r1, r2⟩
   simp only [Instr.range, Sem.run_bind, run_underlying hu, Result.andThen_ok, Sem.run_pure, run_newObj_alloc]
 ·cases ha
theorem nextE_sound [Glob] (h : Rel none2 base w₀ σ S w) {x v : V} {isS : Bool} {ty : TypeId} {X : Value} (ha : nextE x isS S = some (v, S')) (hx : VR σ x X) :
 ∃ r w', (Instr.next X isS ty).run P w = .ok r w' ∧ VR σ v r ∧ Rel none2 base w₀ σ S' w' ∧ Stp σ S w σ S' w' := by
 unfold nextE at ha
 split at ha
 ·rename_i id
  split at ha
  ·rename_i s pos hid
   cases hx with
   | ptr hρ =>
    rename_i b p e
    obtain ⟨b', e', ob, h1, h2, h3, h4, h5⟩ := h.ob id _ hid
    rw [hρ] at h1; cases h1
    cases ob <;> first | exact h4.elim | skip
    rename_i bs p'
    obtain ⟨h6, rfl⟩ := h4
    have hbs : bs = ⟨s.toArray⟩ := bytes_ext (by simpa using h6)
    have hsz : bs.size = s.length := by rw [hbs]; simp [ByteArray.size]
    have hget : (getObj b).run P w = .ok (.stringIter bs p') w := by simp [getObj, Sem.run, h3]
    split at ha
    ·rename_i hlt
     have hlt : p' < bs.size := by rw [hsz]; simpa using hlt
     simp only [Option.some.injEq, Prod.mk.injEq] at ha
     obtain ⟨rfl, rfl⟩ := ha
     rw [← hbs]
     obtain ⟨r1, r2⟩ := h.setOth hid hρ (x' := .sit s (p' + (Utf8.decode bs p').2)) (ob' := .stringIter bs (p' + (Utf8.decode bs p').2)) ⟨h6, rfl⟩
     have hset : ∀ o, (setObj b o).run P w = .ok () (w.putObj b o) := fun o => by simp [setObj, Sem.run, h3, World.putObj]
     refine ⟨.tuple #[.bool true, goInt p', .int .i32 (Utf8.decode bs p').1], _, ?_, .tup (.cons (.bool _) (.cons (.int _ _) (.cons (.int _ _) .nil))), r1, r2⟩
     simp only [Instr.next, Sem.run_bind, hget, Result.andThen_ok, if_pos hlt, hset, Sem.run_pure]
    ·rename_i hlt
     have hlt : ¬ p' < bs.size := by rw [hsz]; simpa using hlt
     simp only [Option.some.injEq, Prod.mk.injEq] at ha
     obtain ⟨rfl, rfl⟩ := ha
     refine ⟨.tuple #[.bool false], w, ?_, .tup (.cons (.bool _) .nil), h, Stp.refl _ _ _⟩
     simp only [Instr.next, Sem.run_bind, hget, Result.andThen_ok, if_neg hlt, Sem.run_pure]
  ·cases ha
 ·cases ha
end
end Go.Ev
