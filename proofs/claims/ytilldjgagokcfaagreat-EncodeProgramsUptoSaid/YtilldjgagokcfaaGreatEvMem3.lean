/-
  Ev, part 8: copy, make, conversions, and all operations together.
-/
import Derived.Test.YtilldjgagokcfaaGreatEvMem2
import Derived.IntWalk
set_option linter.unusedVariables false
set_option linter.unusedSimpArgs false
namespace Go.Ev
open Go.RowKit

section
variable {P : Program} {base : Nat} {w₀ w : World} {σ : Sg} {S S' : St}

theorem flat_take {sz : Nat} : ∀ (ys : List V) (k : Nat), (∀ v ∈ ys, v.cells.length = sz) → (ys.take k).flatMap V.cells = (ys.flatMap V.cells).take (k * sz)
  | [], k, _ => by simp
  | y :: ys, 0, _ => by simp
  | y :: ys, k + 1, h => by
    rw [List.take_succ_cons, List.flatMap_cons, List.flatMap_cons, flat_take ys k fun v hv => h v (by simp [hv])]
    rw [show (k + 1) * sz = y.cells.length + k * sz by rw [h y (by simp), Nat.add_mul]; omega]
    rw [List.take_length_add_append]

theorem copyE_sound (h : Rel none2 base w₀ σ S w) {t u ty : TypeId} {x y v : V} {X Y : Value} (ha : copyE P t x y S = some (v, S')) (hx : VR σ x X) (hy : VR σ y Y) :
    ∃ r w', (Builtin.copy_ #[t, u] ty #[X, Y]).run P w = .ok r w' ∧ VR σ v r ∧ Rel none2 base w₀ σ S' w' ∧ Stp σ S w σ S' w' := by
  unfold copyE at ha
  split at ha
  · rename_i e id off len cap he
    have ht := elemT_some he
    split at ha
    · rename_i sz a hs hagg
      split at ha
      · cases ha
      · rename_i ys hys
        simp only at ha
        obtain ⟨new, n1, n2, n3, n4⟩ := readS_sound (P := P) h hys hy
        have n5 := readS_cells h hys hy
        split at ha
        · rename_i hc
          simp only [Bool.and_eq_true] at hc
          obtain ⟨hcl, hone⟩ := hc
          split at ha
          · rename_i bt bs hid
            split at ha
            · rename_i bs' hsp
              simp only [Option.some.injEq, Prod.mk.injEq] at ha
              obtain ⟨rfl, rfl⟩ := ha
              cases hx with
              | arr hρ =>
                rename_i b p e'
                obtain ⟨b', e'', vs, g1, g2, g3, g4, g5⟩ := h.ob id _ hid
                rw [hρ] at g1; cases g1
                obtain ⟨hs1, hs2⟩ := splice_some hsp
                have hzl : (ys.take len).length = Nat.min ys.length len := by rw [List.length_take, Nat.min_comm]
                have hcs : VRs σ ((ys.take len).flatMap V.cells) (new.take ((ys.take len).length * sz)) := by
                  rw [flat_take ys len n5]
                  have hm : (ys.flatMap V.cells).take (len * sz) = (ys.flatMap V.cells).take ((ys.take len).length * sz) := by
                    rw [List.length_take]
                    by_cases hle : len ≤ ys.length
                    · rw [Nat.min_eq_left hle]
                    · rw [Nat.min_eq_right (by omega), List.take_of_length_le (by rw [n1.length, n2]; exact Nat.mul_le_mul_right _ (by omega)), List.take_of_length_le (by rw [n1.length, n2]; exact Nat.le_refl _)]
                  rw [hm]
                  exact n1.take _
                have hlen := hcs.length
                have hfirst := n4 w (ys.take len).length rfl (by rw [List.length_take]; omega)
                have hst := run_storeCells_fr P b off bt (0, 0) (new.take ((ys.take len).length * sz)) 0 vs.toArray w g3 (.inr rfl) (by rw [← hlen]; have e1 := g4.length; rw [Nat.add_zero, List.size_toArray]; omega) (one_all hcs hone)
                have hbox := h.setBox (cs' := bs') hid hρ (vs' := vs.take off ++ (new.take ((ys.take len).length * sz) ++ vs.drop (off + (new.take ((ys.take len).length * sz)).length))) (by
                  rw [hs1, hlen]
                  exact (g4.take off).append (hcs.append (g4.drop _)))
                refine ⟨.int .i64 ((ys.take len).length : Nat), _, ?_, .int _ _, hbox.1, hbox.2⟩
                have hst' : (storeCells ⟨b, off, none⟩ (new.take ((ys.take len).length * sz))).run P w = .ok () (w.setRow b (vs.take off ++ (new.take ((ys.take len).length * sz) ++ vs.drop (off + (new.take ((ys.take len).length * sz)).length))).toArray) := by
                  simpa [List.append_assoc] using hst
                have hmin : Nat.min ys.length len = (ys.take len).length := hzl.symm
                simp only [Builtin.copy_, Sem.run_bind]
                simp only [List.getElem?_toArray, List.getElem?_cons_zero, List.getElem?_cons_succ, Sem.run_bind, run_underlying ht, Result.andThen_ok, n3, hmin, szOf_run hs, hfirst, hst', Sem.run_pure]
                rfl
            · cases ha
          · cases ha
        · cases ha
    · cases ha
  · cases ha

/-! ### Bytes -/

theorem toBytes_sound : ∀ {cs : List V} {s : List UInt8} {vs : List Value}, toBytes cs = some s → VRs σ cs vs → ∃ ns : List Int, vs = ns.map (Value.int .u8) ∧ s = ns.map fun n => UInt8.ofNat n.toNat
  | [], s, vs, h, hv => by
    simp [toBytes] at h; subst h; cases hv; exact ⟨[], rfl, rfl⟩
  | c :: cs, s, vs, h, hv => by
    unfold toBytes at h
    split at h
    · rename_i e; cases e
    · rename_i n l e
      cases e
      simp only [Option.map_eq_some_iff] at h
      obtain ⟨s', h1, rfl⟩ := h
      cases hv with
      | cons hv hvs =>
        cases hv
        obtain ⟨ns, e1, e2⟩ := toBytes_sound h1 hvs
        exact ⟨n :: ns, by simp [e1], by simp [e2]⟩
    · cases h

theorem fold_push : ∀ (ns : List Int) (acc : ByteArray), (ns.foldl (fun (r : ByteArray) n => r.push (UInt8.ofNat n.toNat)) acc).data.toList = acc.data.toList ++ ns.map fun n => UInt8.ofNat n.toNat
  | [], acc => by simp
  | n :: ns, acc => by
    rw [List.foldl_cons, fold_push ns]
    simp [ByteArray.push]

theorem bytes_run {b o len cap : Nat} {ns : List Int} (w : World) (hl : ns.length = len) (hc : ∀ j v, (ns.map (Value.int .u8))[j]? = some v → w.cell? ((⟨b, o, none⟩ : Addr).add j) = some v) :
    ∃ s : ByteArray, s.data.toList = ns.map (fun n => UInt8.ofNat n.toNat) ∧ (Conv.bytesToString (.slice (some ⟨b, o, none⟩) len cap)).run P w = .ok (.string s) w := by
  have hload := run_loadCells_list (P := P) w ⟨b, o, none⟩ _ hc
  rw [List.length_map, hl] at hload
  exact ⟨_, by rw [fold_push]; rfl, run_bytesToString w _ len cap ns hload⟩

theorem run_loadBytes' (w : World) : ∀ (ns : List Int) (a : Addr) (acc : ByteArray), (∀ j v, (ns.map (Value.int .u8))[j]? = some v → w.cell? (a.add j) = some v) →
    ∃ s : ByteArray, s.data.toList = acc.data.toList ++ ns.map (fun n => UInt8.ofNat n.toNat) ∧ (loadBytes a acc ns.length).run P w = .ok s w
  | [], a, acc, _ => ⟨acc, by simp, rfl⟩
  | n :: ns, a, acc, h => by
    have h0 : w.cell? a = some (.int .u8 n) := by
      have := h 0 _ rfl
      simpa [Addr.add] using this
    obtain ⟨s, e1, e2⟩ := run_loadBytes' w ns (a.add 1) (acc.push n.toNat.toUInt8) (fun j v hj => by
      have := h (j + 1) v (by simpa using hj)
      have e : (a.add 1).add j = a.add (j + 1) := by
        unfold Addr.add
        by_cases hj : j = 0
        · subst hj; simp
        · simp [hj]; omega
      rw [e]; exact this)
    refine ⟨s, by rw [e1]; simp [ByteArray.push], ?_⟩
    simp only [List.length_cons, loadBytes, Sem.run_bind, run_load, h0, Result.andThen_ok, e2]

theorem liesAt_row {e : TypeId} (hc : P.cellsOf e = 1) (count o n : Nat) (hn : o + n ≤ count) : liesAt P P.depth e count o e n = true := by
  have hd : P.depth = (2 * (P.types.size + Made.depth) + 1) + 1 := rfl
  rw [hd]
  simp only [liesAt, Bool.or_eq_true]
  left
  rw [hd]
  simp [rowAt, hc, hn, sameLayout, Nat.mod_one]

theorem unsafeStrE_sound (h : Rel none2 base w₀ σ S w) {pt it ty : TypeId} {x n v : V} {X N : Value} (ha : unsafeStrE P pt x n S = some (v, S')) (hx : VR σ x X) (hn : VR σ n N) :
    ∃ r w', (Builtin.unsafeString_ #[pt, it] ty #[X, N]).run P w = .ok r w' ∧ VR σ v r ∧ Rel none2 base w₀ σ S' w' ∧ Stp σ S w σ S' w' := by
  unfold unsafeStrE at ha
  split at ha
  · rename_i e k n hu
    cases hn
    split at ha
    · rename_i h0
      have h0 : n = 0 := by simpa using h0
      subst h0
      split at ha
      · simp only [Option.some.injEq, Prod.mk.injEq] at ha
        obtain ⟨rfl, rfl⟩ := ha
        cases hx
        refine ⟨.string .empty, w, ?_, .str _ rfl, h, Stp.refl _ _ _⟩
        have := Lib.run_unsafeString_none (P := P) w pt it ty none
        have hk : (Builtin.unsafeString_ #[pt, it] ty #[.pointer none, .int k 0]) = (Builtin.unsafeString_ #[pt, it] ty #[.pointer none, .int .i64 0]) := rfl
        rw [hk]; exact this
      · simp only [Option.some.injEq, Prod.mk.injEq] at ha
        obtain ⟨rfl, rfl⟩ := ha
        cases hx with
        | cptr ht hc =>
          rename_i off b o
          refine ⟨.string .empty, w, ?_, .str _ rfl, h, Stp.refl _ _ _⟩
          have hk : (Builtin.unsafeString_ #[pt, it] ty #[.pointer (some ⟨b, o + off, none⟩), .int k 0]) = (Builtin.unsafeString_ #[pt, it] ty #[.pointer (some ⟨b, o + off, none⟩), .int .i64 0]) := rfl
          rw [hk]
          exact Lib.run_unsafeString_none (P := P) w pt it ty (some ⟨b, o + off, none⟩)
      · cases ha
    · rename_i h0
      have h0 : n ≠ 0 := by simpa using h0
      split at ha
      · rename_i hr
        simp at hr
        obtain ⟨hr1, hr2⟩ := hr
        split at ha
        · rename_i lt cs
          split at ha
          · rename_i hc
            simp only [Bool.and_eq_true] at hc
            obtain ⟨⟨c1, c2⟩, c3⟩ := hc
            have c1 : lt = e := by simpa using c1
            have c2 : P.cellsOf e = 1 := by simpa using c2
            have c3 : n.toNat = cs.length := by simpa using c3
            subst c1
            split at ha
            · rename_i hue
              simp only [Option.map_eq_some_iff, Prod.mk.injEq] at ha
              obtain ⟨s, hs, rfl, rfl⟩ := ha
              cases hx with
              | cptr ht hc =>
                rename_i b o
                obtain ⟨vs, g1, g2⟩ := hc.vals
                obtain ⟨ns, rfl, rfl⟩ := toBytes_sound hs g1
                have hnl : ns.length = cs.length := by rw [g1.length]; simp
                have hcell : ∀ j v, (ns.map (Value.int .u8))[j]? = some v → w.cell? ((⟨b, o + 0, none⟩ : Addr).add j) = some v := fun j v hj => by
                  rw [addr_add, Nat.add_zero]
                  exact h.imm _ _ _ (g2 j v hj) id
                obtain ⟨s, s1, s2⟩ := run_loadBytes' (P := P) w ns ⟨b, o + 0, none⟩ .empty hcell
                obtain ⟨c', fr, q1, q2⟩ := h.ty b lt (ht lt rfl)
                obtain ⟨lo, hi⟩ := fr
                have hpos : 0 < ns.length := by omega
                have hlast : ∃ v, σ.I b (o + ns.length - 1) = some v := by
                  refine ⟨(ns.map (Value.int .u8))[ns.length - 1]'(by simp; omega), ?_⟩
                  have := g2 (ns.length - 1) _ (List.getElem?_eq_getElem (by simp; omega))
                  rwa [show o + (ns.length - 1) = o + ns.length - 1 by omega] at this
                have hsz : o + ns.length ≤ c'.size := by
                  obtain ⟨v, hv⟩ := hlast
                  have := h.imm _ _ _ hv id
                  simp only [World.cell?, q1] at this
                  have hlt : o + ns.length - 1 < c'.size := by
                    rcases Nat.lt_or_ge (o + ns.length - 1) c'.size with h' | h'
                    · exact h'
                    · simp [Array.getElem?_eq_none h'] at this
                  omega
                have hsh : w.shape? b = some (lt, c'.size) := by simp [World.shape?, q1]
                have hlies := liesAt_row (P := P) c2 (c'.size / P.cellsOf lt) (o + 0) ns.length (by rw [c2, Nat.div_one]; omega)
                obtain ⟨r1, r2⟩ := h.freezeRow (o := o + 0) (n := ns.length) q2 (by omega) q1 (by rw [Nat.add_zero]; exact hlast)
                refine ⟨.string s, _, ?_, .str _ (by rw [s1]; rfl), r1, r2⟩
                have hmax : IntKind.i64.max = 9223372036854775807 := rfl
                obtain ⟨e1, e2, e3, hdef⟩ : ∃ (e1 e2 : Sem PUnit) (e3 : Sem Value), Builtin.unsafeString_ #[pt, it] ty #[.pointer (some ⟨b, o + 0, none⟩), .int k n] =
                    (do
                      let n ← asInt (.int k n)
                      if n < 0 then e1
                      if n > IntKind.i64.max then e2
                      if n = 0 then pure (.string .empty)
                      else if ← variablesAt ⟨b, o + 0, none⟩ (← elemOf pt) n.toNat then do
                        let s ← loadBytes ⟨b, o + 0, none⟩ .empty n.toNat
                        freeze ⟨b, o + 0, none⟩ n.toNat
                        pure (.string s)
                      else e3) := ⟨_, _, _, rfl⟩
                rw [hdef]
                have hneg : ¬ n < 0 := by omega
                have hbig : ¬ (9223372036854775807 : Int) < n := by omega
                have hnn : n.toNat = ns.length := by omega
                simp only [Nat.add_zero] at s2 hlies ⊢
                simp [asInt, asIntOf, hmax, hbig, hneg, h0, variablesAt, hsh, elemOf, run_underlying hu, hnn, hlies, s2]
            · cases ha
          · cases ha
        · cases ha
      · cases ha
  · cases ha

/-! ### Make -/

theorem makeSliceE_sound (h : Rel none2 base w₀ σ S w) {t : TypeId} {l c v : V} {L C : Value} (ha : makeSliceE P t l c S = some (v, S')) (hf : Free σ S.next S'.next) (hl : VR σ l L) (hc : VR σ c C) :
    ∃ r w' σ', (Instr.makeSlice t L C).run P w = .ok r w' ∧ VR σ' v r ∧ Rel none2 base w₀ σ' S' w' ∧ Stp σ S w σ' S' w' := by
  unfold makeSliceE at ha
  split at ha
  · rename_i e k l j c he
    have ht := elemT_some he
    cases hl; cases hc
    split at ha
    · rename_i i a z hi hagg hz
      split at ha
      · rename_i hcnd
        simp only [Bool.and_eq_true, decide_eq_true_eq, Nat.ble_eq] at hcnd
        obtain ⟨⟨⟨⟨⟨c1, c2⟩, c3⟩, c4⟩, c5⟩, c6⟩ := hcnd
        have c6 : z.cells.length = i.size := by simpa using c6
        obtain ⟨i', zv, hi', hzv, hzr⟩ := zeroV_sound σ hz
        rw [hi] at hi'; cases hi'
        have hzlen : zv.cells.toList.length = i.size := by rw [← hzr.cells.length]; exact c6
        have hzs : zv.cells.size = i.size := by rw [← hzlen]; simp
        have hwrap : ∀ m : Int, 0 ≤ m → m ≤ 9223372036854775807 → IntKind.i64.wrap m = m := by
          intro m h1 h2
          exact IntWalk.i64_in m (by omega)
        have hwl := hwrap l c1 (by omega)
        have hwc := hwrap c (by omega) c3
        have hsmall : ∀ m : Int, 0 ≤ m → m ≤ c → (m < 0 || (i.bytes : Int) * m > 2 ^ 48) = false := by
          intro m h1 h2
          have hb : (i.bytes : Int) * m ≤ i.bytes * c := Int.mul_le_mul_of_nonneg_left h2 (by omega)
          have hc' : (i.bytes : Int) * c = ((i.bytes * c.toNat : Nat) : Int) := by rw [Int.natCast_mul]; congr 1; omega
          simp
          omega
        -- what the model does
        have hrun : (Instr.makeSlice t (.int k l) (.int j c)).run P w = .ok (.slice (some ⟨w.heap.size, 0, none⟩) l.toNat c.toNat) (w.alloc (.cells (repv zv.cells.toList c.toNat).toArray e)) := by
          have hcells : ((Array.range (c.toNat * i.size)).map fun i => zv.cells[i % zv.cells.size]!) = (repv zv.cells.toList c.toNat).toArray := by
            apply Array.ext'
            rw [← repv_range, hzlen, hzs]
            simp only [Array.toList_map, Array.toList_range]
            refine List.map_congr_left fun q _ => ?_
            have hlt : q % i.size < i.size := Nat.mod_lt _ (by omega)
            have h1 : q % i.size < zv.cells.size := by omega
            have h2 : q % i.size < zv.cells.toList.length := by omega
            rw [getElem!_pos zv.cells (q % i.size) h1, getElem!_pos zv.cells.toList (q % i.size) h2, Array.getElem_toList]
          have hs1 := hsmall c (by omega) (Int.le_refl _)
          have hln : ¬ l < 0 := by omega
          have hlc : ¬ c < l := by omega
          simp only [Instr.makeSlice, Sem.run_bind, run_underlying ht, Result.andThen_ok, asInt, asIntOf, Sem.run_pure, typeInfo, run_program, hi, hwl, hwc]
          simp only [hs1, Bool.false_or, decide_eq_true_eq]
          rw [if_neg (by simp; omega)]
          simp only [Sem.run_bind, run_askRoom, Result.andThen_ok, sizeOf, typeInfo, run_program, hi, Sem.run_pure]
          by_cases h0 : c.toNat * i.size = 0
          · have hc0 : c.toNat = 0 := by
              rcases Nat.mul_eq_zero.1 h0 with h' | h'
              · exact h'
              · omega
            rw [if_pos h0]
            have hr0 : (repv zv.cells.toList c.toNat).toArray = #[] := by rw [hc0]; rfl
            rw [hr0, h0]
            simp only [Sem.run_bind, Sem.run_pure, Result.andThen_ok, Array.range_zero', Array.map_empty]
            rfl
          · rw [if_neg h0]
            simp only [Sem.run_bind, zero_run hi hzv, Result.andThen_ok, Sem.run_pure, hcells]
            rfl
        split at ha
        · rename_i hc0
          have hc0 : c = 0 := by simpa using hc0
          subst hc0
          have hl0 : l = 0 := by omega
          subst hl0
          simp only [Option.some.injEq, Prod.mk.injEq] at ha
          obtain ⟨rfl, rfl⟩ := ha
          obtain ⟨r1, r2⟩ := h.newRow e [] (repv zv.cells.toList (0 : Int).toNat)
          exact ⟨_, _, _, hrun, .list (b := w.heap.size) (o := 0) (cap := 0) (fun t' ht => by cases ht; simp [Sg.addT]) (.nil _ _ _) (Nat.le_refl _) rfl, r1, r2⟩
        split at ha
        · rename_i hl0
          have hl0 : l = 0 := by simpa using hl0
          subst hl0
          simp only [Option.some.injEq, Prod.mk.injEq] at ha
          obtain ⟨rfl, rfl⟩ := ha
          obtain ⟨σ', v1, v2, v3⟩ := newTok_list h (hf S.next (Nat.le_refl _) (by simp [St.new])) e (sz := i.size) (es := []) (vs := []) (rest := repv zv.cells.toList c.toNat) .nil (by simp) (cap := c.toNat) (by simp) (by rw [repv_length, hzlen]; simp)
          exact ⟨_, _, σ', hrun, v1, v2, v3⟩
        · simp only [Option.some.injEq, Prod.mk.injEq] at ha
          obtain ⟨rfl, rfl⟩ := ha
          obtain ⟨r1, r2⟩ := h.newBox (hf S.next (Nat.le_refl _) (by simp [St.new])) e (reps_sound hzr.cells c.toNat)
          exact ⟨_, _, _, hrun, .arr (b := w.heap.size) (p := 0) (e := 0) (by simp [Sg.addK]), r1, r2⟩
      · cases ha
    · cases ha
  · cases ha

end
end Go.Ev
