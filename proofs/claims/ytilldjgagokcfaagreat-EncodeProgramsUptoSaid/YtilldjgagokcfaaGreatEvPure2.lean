/-
  Ev, part 6: the operations that leave memory alone, the second half.
-/
import Derived.Test.YtilldjgagokcfaaGreatEvPure
set_option linter.unusedVariables false
set_option linter.unusedSimpArgs false
namespace Go.Ev
open Go.RowKit

section
variable {P : Program} {σ : Sg}

theorem eqGuard_sound {t : TypeId} {xo yo : Operand} {x y : V} {u v : Value} (h : guardE P t xo yo x y = true) (hx : VR σ x u) (hy : VR σ y v) (op : BinOp) (w : World) : (eqGuard op t xo yo u v).run P w = .ok () w := by
  unfold guardE at h
  split at h
  · cases hx; cases hy
    simp only [Bool.or_eq_true] at h
    rcases h with h | h
    · cases xo <;> simp [isConstO] at h
      cases op <;> rfl
    · cases yo <;> simp [isConstO] at h
      cases op <;> cases xo <;> rfl
  · cases hx; cases hy
    exact run_eqGuard_agg w op t xo yo _ _ (by simpa using h)
  · rename_i h1 h2
    have k1 : ¬ (u = .nilIface ∧ v = .nilIface) := by
      rintro ⟨rfl, rfl⟩
      cases hx; cases hy; exact h1 rfl rfl
    have k2 : ∀ a b, ¬ (u = .agg a ∧ v = .agg b) := by
      rintro a b ⟨rfl, rfl⟩
      cases hx; cases hy; exact h2 _ _ rfl rfl
    cases op <;> try rfl
    all_goals (cases u <;> cases v <;> first | rfl | (exfalso; exact k1 ⟨rfl, rfl⟩) | (exfalso; exact k2 _ _ ⟨rfl, rfl⟩))

theorem binE_sound {op : BinOp} {t : TypeId} {xo yo : Operand} {x y z : V} {u v : Value} (h : binE P op t xo yo x y = some z) (hx : VR σ x u) (hy : VR σ y v) (w : World) :
    ∃ r, (do eqGuard op t xo yo u v; binOp op t u v : Sem Value).run P w = .ok r w ∧ VR σ z r := by
  unfold binE at h
  split at h
  · rename_i j a k b
    cases hx; cases hy
    have hg : (eqGuard op t xo yo (.int j a) (.int k b)).run P w = .ok () w := by rw [eqGuard_at_int]; rfl
    rw [Sem.run_bind, hg, Result.andThen_ok]
    split at h
    · exact shiftE_sound (.inl rfl) h t w
    · exact shiftE_sound (.inr rfl) h t w
    · split at h
      · rename_i hk
        have hk : j = k := by simpa using hk
        subst hk
        exact intOp_sound h t w
      · cases h
  · rename_i a b
    cases hx with
    | str s hs => cases hy with
      | str r hr =>
        have hg : (eqGuard op t xo yo (.string s) (.string r)).run P w = .ok () w := by rw [eqGuard_at_string]; rfl
        rw [Sem.run_bind, hg, Result.andThen_ok]
        exact strOp_sound h hs hr t w
  · rename_i h1 h2
    have hnum : ∀ k a k' b, ¬ (u = .int k a ∧ v = .int k' b) := by
      rintro k a k' b ⟨rfl, rfl⟩
      cases hx; cases hy; exact h1 _ _ _ _ rfl rfl
    have hstr : ∀ a b, ¬ (u = .string a ∧ v = .string b) := by
      rintro a b ⟨rfl, rfl⟩
      cases hx; cases hy; exact h2 _ _ rfl rfl
    have hnf : ∀ k a, u ≠ .float k a := by rintro k a rfl; cases hx
    have hnc : ∀ k a b, u ≠ .complex k a b := by rintro k a b rfl; cases hx
    have he : ∀ w, (binOp .eql t u v).run P w = ((Op.equal t u v).run P w).andThen fun b w' => .ok (.bool b) w' := by
      intro w
      unfold binOp
      split <;> first
        | (exfalso; exact hnum _ _ _ _ ⟨rfl, rfl⟩)
        | (exfalso; exact hstr _ _ ⟨rfl, rfl⟩)
        | (exfalso; exact hnf _ _ rfl)
        | (exfalso; exact hnc _ _ _ rfl)
        | (simp; done)
        | simp_all
    have hne : ∀ w, (binOp .neq t u v).run P w = ((Op.equal t u v).run P w).andThen fun b w' => .ok (.bool (!b)) w' := by
      intro w
      unfold binOp
      split <;> first
        | (exfalso; exact hnum _ _ _ _ ⟨rfl, rfl⟩)
        | (exfalso; exact hstr _ _ ⟨rfl, rfl⟩)
        | (exfalso; exact hnf _ _ rfl)
        | (exfalso; exact hnc _ _ _ rfl)
        | (simp; done)
        | simp_all
    split at h
    · split at h
      · rename_i hg
        simp only [Option.map_eq_some_iff] at h
        obtain ⟨b, hb, rfl⟩ := h
        have := eqE_sound (σ := σ) w 60 10000 t x y u v b (by omega) hb hx hy
        rw [Sem.run_bind, eqGuard_sound hg hx hy, Result.andThen_ok, he]
        exact ⟨.bool b, by rw [show Op.equal t u v = Op.equalIn 10000 t u v from rfl, this]; rfl, .bool b⟩
      · cases h
    · split at h
      · rename_i hg
        simp only [Option.map_eq_some_iff] at h
        obtain ⟨b, hb, rfl⟩ := h
        have := eqE_sound (σ := σ) w 60 10000 t x y u v b (by omega) hb hx hy
        rw [Sem.run_bind, eqGuard_sound hg hx hy, Result.andThen_ok, hne]
        exact ⟨.bool (!b), by rw [show Op.equal t u v = Op.equalIn 10000 t u v from rfl, this]; rfl, .bool _⟩
      · cases h
    · cases h

theorem unE_sound {op : UnOp} {x z : V} {u : Value} (h : unE op x = some z) (hx : VR σ x u) (w : World) : ∃ r, (Op.unary op u).run P w = .ok r w ∧ VR σ z r := by
  unfold unE at h
  split at h
  · cases h; cases hx; exact ⟨_, rfl, .int _ _⟩
  · cases h; cases hx; exact ⟨_, rfl, .int _ _⟩
  · cases h; cases hx; exact ⟨_, rfl, .bool _⟩
  · cases h

/-! ### Places -/

theorem fieldAt_some {t : TypeId} {f : Nat} {fd : Field} (h : fieldAt P t f = some fd) : ∃ fs, P.underlying t = some (.struct fs) ∧ fs[f]? = some fd := by
  unfold fieldAt at h
  split at h
  · rename_i fs hu; exact ⟨fs, hu, h⟩
  · cases h

theorem fieldAddrE_sound {s : TypeId} {p z : V} {f : Nat} {u : Value} (h : fieldAddrE P s p f = some z) (hp : VR σ p u) (w : World) : ∃ r, (Instr.fieldAt s u f).run P w = .ok r w ∧ VR σ z r := by
  unfold fieldAddrE at h
  split at h
  · cases h
  · rename_i fd hf
    obtain ⟨fs, hu, hfd⟩ := fieldAt_some hf
    split at h
    · rename_i n hs
      split at h
      · cases h
        cases hp with
        | ptr hρ =>
          refine ⟨_, ?_, .ptr hρ⟩
          simp [Instr.fieldAt, run_underlying hu, hfd, Instr.sureAddr, fieldPlace, szOf_run hs, addr_add]
      · cases h
        cases hp with
        | cptr ht hc =>
          rename_i off b o
          refine ⟨.pointer (some ⟨b, o + (off + fd.offset), none⟩), ?_, .cptr ht hc⟩
          simp [Instr.fieldAt, run_underlying hu, hfd, Instr.sureAddr, fieldPlace, szOf_run hs, addr_add, Nat.add_assoc]
      · cases h
    · cases h

theorem fieldE_sound {t : TypeId} {x z : V} {f : Nat} {u : Value} (h : fieldE P t x f = some z) (hx : VR σ x u) (w : World) : ∃ r, (Instr.field t u f).run P w = .ok r w ∧ VR σ z r := by
  unfold fieldE at h
  split at h
  · rename_i fd cs hf
    obtain ⟨fs, hu, hfd⟩ := fieldAt_some hf
    cases hx with
    | agg hc =>
      obtain ⟨r, h1, h2⟩ := partE_sound h hc w
      exact ⟨r, by simp [Instr.field, run_underlying hu, hfd, asAgg, h1], h2⟩
  · cases h

theorem indexAddrE_sound {t : TypeId} {x i z : V} {u j : Value} (h : indexAddrE P t x i = some z) (hx : VR σ x u) (hi : VR σ i j) (w : World) : ∃ r, (Instr.indexAt t u j).run P w = .ok r w ∧ VR σ z r := by
  unfold indexAddrE at h
  split at h
  · rename_i k n
    cases hi
    split at h
    · rename_i h0
      have h0 : 0 ≤ n := by simpa using h0
      split at h
      · rename_i e lt m es tk hu
        split at h
        · rename_i sz hs
          split at h
          · rename_i hm
            have hm : m = sz := by simpa using hm
            subst hm
            simp only [Option.map_eq_some_iff] at h
            obtain ⟨v, hv, rfl⟩ := h
            cases hx with
            | list ht hl hc hk =>
              rename_i b o cap
              obtain ⟨h1, h2⟩ := hl.get hv
              have hlt : n.toNat < es.length := by
                rcases Nat.lt_or_ge n.toNat es.length with h' | h'
                · exact h'
                · rw [List.getElem?_eq_none h'] at hv; cases hv
              refine ⟨.pointer (some ⟨b, o + n.toNat * m + 0, none⟩), ?_, .cptr (fun _ h => by cases h) h2⟩
              simp only [Instr.indexAt, asIntOf, Sem.run_bind, Sem.run_pure, Result.andThen_ok, run_underlying hu]
              simp only [Bool.and_false, Sem.run_bind, run_underlying hu, Result.andThen_ok, Sem.run_pure]
              rw [if_pos ⟨h0, by omega⟩]
              simp [szOf_run hs, addr_add]
          · cases h
        · cases h
      · rename_i e id off len cap hu
        split at h
        · rename_i sz hs
          split at h
          · rename_i hlt
            cases h
            have hlt : n < (len : Int) := by simpa using hlt
            cases hx with
            | arr hρ =>
              refine ⟨_, ?_, .ptr hρ⟩
              simp [Instr.indexAt, asIntOf, run_underlying hu, h0, hlt, szOf_run hs, addr_add]
          · cases h
        · cases h
      · rename_i m e id off hu
        split at h
        · rename_i sz hs
          split at h
          · rename_i hlt
            cases h
            have hlt : n < (m : Int) := by simpa using hlt
            cases hx with
            | ptr hρ =>
              refine ⟨_, ?_, .ptr hρ⟩
              simp [Instr.indexAt, asIntOf, Instr.sureAddr, run_underlying hu, h0, hlt, szOf_run hs, addr_add]
          · cases h
        · cases h
      · rename_i m e t' cs off hu
        split at h
        · rename_i sz hs
          split at h
          · rename_i hlt
            cases h
            have hlt : n < (m : Int) := by simpa using hlt
            cases hx with
            | cptr ht hc =>
              rename_i b o
              refine ⟨.pointer (some ⟨b, o + (off + n.toNat * sz), none⟩), ?_, .cptr ht hc⟩
              simp [Instr.indexAt, asIntOf, Instr.sureAddr, run_underlying hu, h0, hlt, szOf_run hs, addr_add, Nat.add_assoc]
          · cases h
        · cases h
      · cases h
    · cases h
  · cases h

theorem indexE_sound {t : TypeId} {x i z : V} {u j : Value} (h : indexE P t x i = some z) (hx : VR σ x u) (hi : VR σ i j) (w : World) : ∃ r, (Instr.index t u j).run P w = .ok r w ∧ VR σ z r := by
  unfold indexE at h
  split at h
  · rename_i k n
    cases hi
    split at h
    · rename_i h0
      have h0 : 0 ≤ n := by simpa using h0
      split at h
      · rename_i s hu
        simp only [Option.map_eq_some_iff] at h
        obtain ⟨b, hb, rfl⟩ := h
        cases hx with
        | str r hr =>
          refine ⟨.int .u8 b.toNat, ?_, .int _ _⟩
          have hb' : r[n.toNat]? = some b := by
            rw [← hr] at hb
            have hlt : n.toNat < r.data.toList.length := by
              rcases Nat.lt_or_ge n.toNat r.data.toList.length with h' | h'
              · exact h'
              · rw [List.getElem?_eq_none h'] at hb; cases hb
            have hlt2 : n.toNat < r.size := by rw [show r.size = r.data.size from rfl, ← Array.length_toList]; exact hlt
            rw [List.getElem?_eq_getElem hlt] at hb
            rw [getElem?_pos r n.toNat hlt2]
            rw [← hb]
            simp [ByteArray.getElem_eq_getElem_data]
          simp only [Instr.index, asIntOf, Sem.run_bind, Sem.run_pure, Result.andThen_ok, run_underlying hu, if_pos h0, hb']
      · rename_i m e cs hu
        split at h
        · rename_i sz hs
          split at h
          · rename_i hlt
            have hlt : n < (m : Int) := by simpa using hlt
            cases hx with
            | agg hc =>
              obtain ⟨r, h1, h2⟩ := partE_sound h hc w
              exact ⟨r, by simp [Instr.index, asIntOf, run_underlying hu, h0, hlt, szOf_run hs, h1], h2⟩
          · cases h
        · cases h
      · cases h
    · cases h
  · cases h

theorem assertE_sound {x z : V} {xt t : TypeId} {ok : Bool} {u : Value} (h : assertE P x t ok = some z) (hx : VR σ x u) (w : World) : ∃ r, (Instr.typeAssert u xt t ok).run P w = .ok r w ∧ VR σ z r := by
  unfold assertE at h
  split at h
  · cases h
  · rename_i d h1 hu
    split at h
    · rename_i hok
      simp only [Option.map_eq_some_iff] at h
      obtain ⟨z', hz, rfl⟩ := h
      obtain ⟨i, zv, hi, hzv, hzr⟩ := zeroV_sound σ hz
      cases hx
      refine ⟨_, ?_, VR.tup (.cons hzr (.cons (.bool false) .nil))⟩
      simp only [Instr.typeAssert, Sem.run_bind, run_underlying hu, Result.andThen_ok]
      cases d <;> first
        | (exfalso; exact h1 _ rfl)
        | simp [hok, zero_run hi hzv]
    · cases h
  · rename_i d t' v h1 hu
    cases hx with
    | iface _ hv =>
      rename_i y
      split at h
      · rename_i ht
        have ht : t' = t := by simpa using ht
        cases h
        refine ⟨if ok then .tuple #[y, .bool true] else y, ?_, ?_⟩
        · simp only [Instr.typeAssert, Sem.run_bind, run_underlying hu, Result.andThen_ok]
          cases d <;> first
            | (exfalso; exact h1 _ rfl)
            | simp [ht]
        · cases ok
          · simpa using hv
          · exact VR.tup (.cons hv (.cons (.bool true) .nil))
      · rename_i ht
        have ht : t' ≠ t := by simpa using ht
        split at h
        · rename_i hok
          simp only [Option.map_eq_some_iff] at h
          obtain ⟨z', hz, rfl⟩ := h
          obtain ⟨i, zv, hi, hzv, hzr⟩ := zeroV_sound σ hz
          refine ⟨_, ?_, VR.tup (.cons hzr (.cons (.bool false) .nil))⟩
          simp only [Instr.typeAssert, Sem.run_bind, run_underlying hu, Result.andThen_ok]
          cases d <;> first
            | (exfalso; exact h1 _ rfl)
            | simp [ht, hok, zero_run hi hzv]
        · cases h
  · cases h

/-! ### Slicing -/

inductive OR (σ : Sg) : Option V → Option Value → Prop
  | none : OR σ none none
  | some {x : V} {y : Value} (h : VR σ x y) : OR σ (some x) (some y)

theorem boundB_some {x : Option V} {y : Option Value} {d m n : Nat} (h : boundB x d m = some n) (hx : OR σ x y) (hd : d ≤ m) (code : BoundsCode) (w : World) :
    n ≤ m ∧ ((y = none ∧ n = d) ∨ ∃ v, y = some v ∧ ∀ M, m ≤ M → (Instr.sliceBound v M code).run P w = .ok n w) := by
  unfold boundB at h
  cases hx with
  | none => simp at h; subst h; exact ⟨hd, .inl ⟨rfl, rfl⟩⟩
  | some hv =>
    split at h
    · rename_i e; cases e
    · rename_i k i e
      cases e
      split at h
      · rename_i hc
        cases h
        simp at hc
        cases hv
        refine ⟨by omega, .inr ⟨_, rfl, fun M hM => ?_⟩⟩
        have : i ≤ (M : Int) := by omega
        simp [Instr.sliceBound, asIntOf, hc.1, this]
      · cases h
    · cases h

theorem sliceB_sound {lo hi : Option V} {rl rh : Option Value} {len cap l h : Nat} (isS : Bool) (hb : sliceB lo hi len cap = some (l, h)) (hlc : len ≤ cap) (hl : OR σ lo rl) (hh : OR σ hi rh) (w : World) {M : Nat} (hM : cap ≤ M) :
    (Instr.sliceBounds isS len M rl rh none).run P w = .ok (l, h, M) w ∧ l ≤ h ∧ h ≤ cap := by
  unfold sliceB at hb
  split at hb
  · cases hb
  · rename_i h' e1
    split at hb
    · cases hb
    · rename_i l' e2
      cases hb
      obtain ⟨g1, g2⟩ := boundB_some (P := P) e1 hh hlc (if isS then .sliceAcap else .sliceAlen) w
      obtain ⟨g3, g4⟩ := boundB_some (P := P) e2 hl (Nat.zero_le _) .sliceB w
      refine ⟨?_, g3, g1⟩
      simp only [Instr.sliceBounds, Sem.run_bind, Sem.run_pure, Result.andThen_ok]
      rcases g2 with ⟨rfl, rfl⟩ | ⟨v, rfl, g2⟩ <;> rcases g4 with ⟨rfl, rfl⟩ | ⟨u, rfl, g4⟩
      · rfl
      · simp [g4 _ (Nat.le_refl _)]
      · rw [Sem.run_bind, g2 M hM]; rfl
      · rw [Sem.run_bind, g2 M hM, Result.andThen_ok]
        simp [g4 _ (Nat.le_refl _)]

theorem sliceE_sound {t : TypeId} {x z : V} {lo hi : Option V} {rl rh : Option Value} {u : Value} (h : sliceE P t x lo hi none = some z) (hx : VR σ x u) (hl : OR σ lo rl) (hh : OR σ hi rh) (w : World) :
    ∃ r, (Instr.sliceAt t u rl rh none).run P w = .ok r w ∧ VR σ z r := by
  unfold sliceE at h
  simp only at h
  split at h
  · rename_i s hu
    simp only [Option.map_eq_some_iff] at h
    obtain ⟨⟨l, h'⟩, hb, rfl⟩ := h
    cases hx with
    | str b hb' =>
      have hlen : b.size = s.length := by rw [← hb']; exact (Array.length_toList).symm
      obtain ⟨g1, g2, g3⟩ := sliceB_sound (P := P) false hb (Nat.le_refl _) hl hh w (Nat.le_refl _)
      refine ⟨.string (b.extract l h'), ?_, .str _ ?_⟩
      · simp [Instr.sliceAt, run_underlying hu, Instr.slice, hlen, g1]
      · rw [ByteArray.data_extract, Array.toList_extract, List.extract_eq_take_drop, hb']
        simp only
        rw [List.drop_take]
  · rename_i e hu
    split at h
    · rename_i n lh hs hb
      cases h
      cases hx
      obtain ⟨l, h'⟩ := lh
      obtain ⟨g1, g2, g3⟩ := sliceB_sound (P := P) true hb (Nat.le_refl _) hl hh w (Nat.le_refl _)
      have : l = 0 ∧ h' = 0 := by omega
      obtain ⟨rfl, rfl⟩ := this
      exact ⟨_, by simp [Instr.sliceAt, run_underlying hu, Instr.slice, g1, szOf_run hs], .nils⟩
    · cases h
  · rename_i e lt n es tk hu
    split at h
    · rename_i sz hs
      split at h
      · rename_i hn
        have hn : n = sz := by simpa using hn
        subst hn
        split at h
        · rename_i l h' hb
          cases hx with
          | list ht hr hc hk =>
            rename_i b o cap
            obtain ⟨g1, g2, g3⟩ := sliceB_sound (P := P) true hb (Nat.le_refl _) hl hh w hc
            have hrun : (Instr.sliceAt t (.slice (some ⟨b, o, none⟩) es.length cap) rl rh none).run P w = .ok (.slice (if cap = l then some ⟨b, o, none⟩ else some ⟨b, o + l * n, none⟩) (h' - l) (cap - l)) w := by
              simp [Instr.sliceAt, run_underlying hu, Instr.slice, g1, szOf_run hs, addr_add]
            rw [hrun]
            by_cases h1 : (Nat.beq l 0 && Nat.beq h' es.length) = true
            · rw [if_pos h1] at h
              simp at h1
              obtain ⟨rfl, rfl⟩ := h1
              cases h
              refine ⟨_, rfl, ?_⟩
              have := VR.list ht hr hc hk
              simpa using this
            · rw [if_neg h1] at h
              by_cases h0 : Nat.blt l es.length = true
              · rw [if_pos h0] at h
                cases h
                have h0 : l < es.length := by simpa using h0
                have hlen : ((es.take h').drop l).length = h' - l := by simp; omega
                refine ⟨_, rfl, ?_⟩
                have hcl : ¬ cap = l := by omega
                rw [if_neg hcl]
                have hk' : tkOk σ n ((es.take h').drop l).length (if Nat.beq h' es.length then tk else .no) b (o + l * n) (cap - l) := by
                  rw [hlen]
                  by_cases he : Nat.beq h' es.length = true
                  · rw [if_pos he]
                    have he : h' = es.length := by simpa using he
                    subst he
                    cases tk with
                    | no => trivial
                    | exact => simp [tkOk] at hk ⊢; omega
                    | own id =>
                      simp only [tkOk] at hk ⊢
                      rw [hk]
                      have e1 : o + l * n + (es.length - l) * n = o + es.length * n := by rw [Nat.add_assoc, ← Nat.add_mul]; congr 2; omega
                      have e2 : o + l * n + (cap - l) * n = o + cap * n := by rw [Nat.add_assoc, ← Nat.add_mul]; congr 2; omega
                      rw [e1, e2]
                  · rw [if_neg he]; trivial
                have key := VR.list (cap := cap - l) ht ((hr.take h').drop l (by simp; omega)) (by rw [hlen]; omega) hk'
                rw [hlen] at key
                exact key
              · rw [if_neg h0] at h; cases h
        · cases h
      · cases h
    · cases h
  · rename_i e id off len cap hu
    split at h
    · rename_i sz l h' hs hb
      split at h
      · rename_i hlt
        cases h
        simp at hlt
        obtain ⟨hlc, hlt⟩ := hlt
        cases hx with
        | arr hρ =>
          obtain ⟨g1, g2, g3⟩ := sliceB_sound (P := P) true hb hlc hl hh w (Nat.le_refl _)
          refine ⟨_, ?_, .arr hρ⟩
          have : ¬ cap = l := by omega
          simp [Instr.sliceAt, run_underlying hu, Instr.slice, g1, szOf_run hs, addr_add, this]
      · cases h
    · cases h
  · rename_i n e id off hu
    split at h
    · rename_i sz l h' hs hb
      split at h
      · rename_i hlt
        cases h
        have hlt : l < n := by simpa using hlt
        cases hx with
        | ptr hρ =>
          rename_i b p e'
          obtain ⟨g1, g2, g3⟩ := sliceB_sound (P := P) false hb (Nat.le_refl _) hl hh w (Nat.le_refl _)
          refine ⟨.slice (some ⟨b, off + l * sz, none⟩) (h' - l) (n - l), ?_, .arr hρ⟩
          have : ¬ n = l := by omega
          simp [Instr.sliceAt, run_underlying hu, Instr.sureAddr, g1, szOf_run hs, addr_add, this]
      · cases h
    · cases h
  · cases h

end
end Go.Ev
