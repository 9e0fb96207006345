/-
  EncodeTaken: what the law's function comes to.
-/
import Derived.Test.YtilldjgagokcfaaC1
set_option linter.unusedVariables false
set_option linter.unusedSimpArgs false
namespace Go.Ev
open Go.RowKit

theorem RdV.err2 {f : List UInt8} {k : UInt8} {t : Nat} {v : V} (h : RdV f k t v) : ∃ (cs : List V) (i : Nat) (e : Int), v = .tup [.agg cs, .int .i64 i, .int .i64 e] ∧ cs.length = szs t ∧ cs.all V.one = true ∧ ((e = 0 ∧ rdOut f k t = none ∧ Enc (sch t) cs (slc f 8 (f.length - 4))) ∨ (e ≠ 0 ∧ rdOut f k t ≠ none)) := by
  have h0 := h
  obtain ⟨cs, i, e, rfl, h1, h2, h3⟩ := h.err
  refine ⟨cs, i, e, rfl, h1, h2, ?_⟩
  by_cases he : e = 0
  · left
    refine ⟨he, h3.1 he, ?_⟩
    unfold RdV at h0
    rw [h3.1 he] at h0
    obtain ⟨ds, g1, g2, g3⟩ := h0
    cases g1
    exact g3
  · exact .inr ⟨he, fun hn => he (h3.2 hn)⟩

/-- How many of the kinds so far have read the file. -/
def MInv (f : List UInt8) (ks : List UInt8) (m : Nat) : Prop := m = 0 ∨ (m = 1 ∧ ∃ k, k ∈ ks ∧ Framed f k)

theorem MInv.le {f : List UInt8} {ks : List UInt8} {m : Nat} (h : MInv f ks m) : m ≤ 1 := by rcases h with h | h <;> omega
theorem MInv.keep {f : List UInt8} {ks : List UInt8} {m : Nat} (k : UInt8) (h : MInv f ks m) : MInv f (k :: ks) m := by
  rcases h with h | ⟨h, k', hk, hf⟩
  · exact .inl h
  · exact .inr ⟨h, k', by simp [hk], hf⟩
theorem MInv.add {f : List UInt8} {ks : List UInt8} {m : Nat} {k : UInt8} (h : MInv f ks m) (hk : k ∉ ks) (hf : Framed f k) : MInv f (k :: ks) (m + 1) := by
  rcases h with h | ⟨h, k', hk', hf'⟩
  · exact .inr ⟨by omega, k, by simp, hf⟩
  · exact absurd (hf.kind hf' ▸ hk') hk

end Go.Ev

namespace Go.Proofs.Ytilldjgagokcfaa
open Go.RowKit Go.Ev
set_option maxRecDepth 100000
set_option linter.unusedVariables false

theorem bytesL {es : List V} {bs : List UInt8} (h : toBytes es = some bs) (S : St) : CallTo Try.prog 25 [.list (some 5) 1 es .exact] S (fun v S' => v = .str bs ∧ S' = S) (fun _ _ => False) := by
  refine CallTo.of (n := 5) Try.func25 rfl rfl ?_
  repeat' first
   | refine Opl.val (op_conv rfl (conv_bytes h)) rfl ?_
   | refine .std ?_ | refine .nil ?_ | refine .seq ?_ | refine .region ?_ | refine .xs ?_ | refine .kb ?_ | refine .leaf ?_ | refine .block ?_ | refine .gn ?_ | refine .dr ?_ | fail
  exact At.fnr rfl rfl rfl ⟨rfl, rfl⟩

theorem bsl4 (a b c d : Int) : buildSliceE Try.prog 83 4 [(0, .int .u8 a), (1, .int .u8 b), (2, .int .u8 c), (3, .int .u8 d)] = some (.list (some 5) 1 [.int .u8 a, .int .u8 b, .int .u8 c, .int .u8 d] .exact) := by kernel_rfl

theorem sealed (s : List UInt8) (hs : s.length < 2305843009213693952) (S : St) : CallTo Try.prog 14 [.str s] S (fun v S' => (∃ b : List UInt8, b.length = 4 ∧ v = .str (s ++ b)) ∧ S' = S) (fun _ _ => False) := by
  refine CallTo.of (n := 21) Try.func14 rfl rfl ?_
  have hsum : CallTo Try.prog 10 [.str s] S (fun v S' => v = .int .i64 (sumOf s : Nat) ∧ S = S') (fun _ _ => False) := (sum10 s (by omega) S).mono (fun _ _ h => ⟨h.1, h.2.symm⟩) (fun _ _ h => h)
  have hadd : ∀ b : List UInt8, b.length = 4 → strOp .add s b = some (.str (s ++ b)) := fun b hb => str_add (by omega)
  repeat' first
   | (refine Opl.callv rfl (by kernel_rfl) hsum rfl (fun W hW => ?_) (fun _ _ hf => hf.elim); subst hW)
   | refine Opl.val (op_bs4 rfl rfl rfl rfl (bsl4 _ _ _ _)) rfl ?_
   | refine Opl.callv rfl (by kernel_rfl) (bytesL rfl _) rfl (fun W hW => ?_) (fun _ _ hf => hf.elim)
   | refine Opl.val (op_str rfl rfl (hadd _ rfl)) rfl ?_
   | refine .std ?_ | refine .nil ?_ | refine .seq ?_ | refine .region ?_ | refine .xs ?_ | refine .kb ?_ | refine .leaf ?_ | refine .block ?_ | refine .gn ?_ | refine .dr ?_ | fail
  exact At.fnr rfl rfl rfl ⟨⟨_, rfl, rfl⟩, hW⟩

set_option maxHeartbeats 4000000 in
theorem taken (f : List UInt8) (hl : f.length ≤ 1048576) (q : Bool) (S : St) : CallTo Try.prog 8 [.str f, .bool q] S (fun v _ => v = .bool true) (fun _ _ => False) := by
  refine CallTo.of (n := 146) Try.func8 rfl rfl ?_
  have lay : ∀ (T t : TypeId) (n : Nat) (cs : List V) (U : St) (hn : SzN Try.prog T n), cs.length = szs t → szs t = n → cs.all V.one = true → ∃ W : St, storeE Try.prog T (.ptr U.next 0) (.agg cs) (U.new (.box T (zc t))) = some W ∧ W.h.find U.next = some (.box T cs) := by
    intro T t n cs U hn hcl hsz ho
    have hb : (U.new (.box T (zc t))).h.find U.next = some (.box T (zc t)) := by simp [St.new, Tr.find_put]
    have hz := zc_len t
    have hsp : splice (zc t) 0 cs = some cs := by
      unfold splice
      rw [if_pos (Nat.ble_eq_true_of_le (by omega))]
      simp [hcl, hz]
    exact ⟨_, st_agg hb (hcl.trans hsz) ho hsp, by simp [Tr.find_put]⟩
  have file : ∀ (g : List UInt8) (k : UInt8) (t : Nat), rdOut g k t = none → fileV k (slc g 8 (g.length - 4)) = .tup [.str g, .int .i64 0] ∧ Framed g k := by
    intro g k t h
    obtain ⟨h1, h2⟩ := rdOut_none h
    refine ⟨?_, h2⟩
    have h12 := h2.len
    unfold fileV
    rw [if_pos (by rw [slc_len (by omega)]; omega), ← h2.eq]
  repeat' first
   | refine Go.holdS 1 ?_
   | refine .std ?_ | refine .nil ?_ | refine .seq ?_ | refine .region ?_ | refine .xs ?_ | refine .kb ?_ | refine .leaf ?_ | refine .block ?_ | refine .gn ?_ | refine .dr ?_ | fail
  refine ⟨?_⟩
  refine Go.joinS (fun E U => ∃ g : List UInt8, g.length ≤ 1048580 ∧ Sub [(0, .str g)] E) ?_ (fun hj => ?_)
  rotate_left
  · by_cases hq : q = true ∧ 8 ≤ f.length
    · obtain ⟨rfl, h8⟩ := hq
      have e1 : intOp .geq .i64 (f.length : Int) 8 = some (.bool true) := geq_i (decide_eq_true (by omega))
      have e2 : intOp .sub .i64 (f.length : Int) 8 = some (.int .i64 ((f.length - 8 : Nat) : Int)) := by
        simp only [intOp]; rw [wrap_i64_id (by constructor <;> omega)]; congr 2; omega
      have hlo : ∀ {ev : Operand → Option V} {x : Operand} {U : St}, ev x = some (.str f) → ev (.const (.int .i64 4)) = some (.int .i64 (4 : Nat)) → opE Try.prog (.slice 9 x none (some (.const (.int .i64 4))) none) ev U = some (.str (f.take 4), U) := fun h1 h2 => op_slcHi h1 h2 (by omega)
      have hhi : ∀ {ev : Operand → Option V} {x : Operand} {U : St}, ev x = some (.str f) → ev (.const (.int .i64 8)) = some (.int .i64 (8 : Nat)) → opE Try.prog (.slice 9 x (some (.const (.int .i64 8))) none none) ev U = some (.str (slc f 8 f.length), U) := fun h1 h2 => op_slcLo h1 h2 h8
      have hd8 := slc_end f 8
      repeat' first
       | refine op_gyes rfl ?_ rfl
       | refine Opl.val (op_int rfl rfl rfl e1) rfl ?_
       | refine Opl.val (op_int rfl rfl rfl e2) rfl ?_
       | refine Go.condT rfl ?_
       | refine Go.draw [0, 1, 0, 4, 12, 0, 32, 96, 0, 256, 768, 0, 2048, 8188, 16380, 32767, 0, 65536, 262143, 524287, 1048575] [2, 3, 4, 5, 6, 7, 8, 9, 10, 11, 12, 13, 14, 0, 1, 15, 16, 17, 18, 19, 20] (by kernel_rfl) (fun _ => True) ?_
       | refine .std ?_ | refine .nil ?_ | refine .seq ?_ | refine .region ?_ | refine .xs ?_ | refine .kb ?_ | refine .leaf ?_ | refine .block ?_ | refine .gn ?_ | refine .dr ?_ | fail
      repeat' first
        | refine Drw.c0 rfl rfl (op_move rfl) rfl ?_
        | refine Drw.c0 rfl rfl (op_int rfl rfl rfl rfl) rfl ?_
        | refine Drw.c2 rfl rfl trivial trivial (fun _ _ => op_convI rfl) rfl ?_
        | refine Drw.c0 rfl rfl (op_bs4 rfl rfl rfl rfl (bsl4 _ _ _ _)) rfl ?_
        | refine Drw.call rfl rfl (by kernel_rfl) (bytesL rfl _) rfl (fun v U hv => ⟨trivial, ?_⟩)
        | fail
      obtain ⟨rfl, rfl⟩ := hv
      refine Drw.c0 rfl rfl (hlo rfl rfl) rfl ?_
      refine Drw.c0 rfl rfl (op_str rfl rfl (str_add (by simp; omega))) rfl ?_
      refine Drw.c0 rfl rfl (op_move rfl) rfl ?_
      refine Drw.c0 rfl rfl (hhi rfl rfl) rfl ?_
      refine Drw.c0 rfl rfl (op_str rfl rfl (str_add (by rw [hd8]; simp; omega))) rfl ?_
      refine Drw.call rfl rfl (by kernel_rfl) (sealed _ (by rw [hd8]; simp; omega) _) rfl (fun v U hv => ⟨trivial, ?_⟩)
      obtain ⟨⟨b, hb, rfl⟩, _⟩ := hv
      refine Drw.c0 rfl rfl (op_assign rfl) rfl ?_
      refine Drw.nil ?_
      repeat' first
       | exact hj _ _ ⟨_, by rw [hd8]; simp [hb]; omega, rfl, trivial⟩
       | refine .std ?_ | refine .nil ?_ | refine .seq ?_ | refine .region ?_ | refine .xs ?_ | refine .kb ?_ | refine .leaf ?_ | refine .block ?_ | refine .gn ?_ | refine .dr ?_ | fail
    · by_cases hq1 : q = true
      · have e1 : intOp .geq .i64 (f.length : Int) 8 = some (.bool false) := geq_i (decide_eq_false (by have : ¬ 8 ≤ f.length := fun h => hq ⟨hq1, h⟩; omega))
        subst hq1
        repeat' first
         | exact hj _ _ ⟨f, by omega, rfl, trivial⟩
         | refine op_gyes rfl ?_ rfl
         | refine Opl.val (op_int rfl rfl rfl e1) rfl ?_
         | refine Go.condF rfl ?_
         | refine .std ?_ | refine .nil ?_ | refine .seq ?_ | refine .region ?_ | refine .xs ?_ | refine .kb ?_ | refine .leaf ?_ | refine .block ?_ | refine .gn ?_ | refine .dr ?_ | fail
      · have hq2 : q = false := by cases q <;> simp_all
        subst hq2
        repeat' first
         | exact hj _ _ ⟨f, by omega, rfl, trivial⟩
         | refine Go.condF rfl ?_
         | refine .std ?_ | refine .nil ?_ | refine .seq ?_ | refine .region ?_ | refine .xs ?_ | refine .kb ?_ | refine .leaf ?_ | refine .block ?_ | refine .gn ?_ | refine .dr ?_ | fail
  rintro E U0 ⟨g, hg, hE⟩
  clear hl
  refine Go.weaken ?_ hE
  have hgl : g.length < 4611686018427387904 := by omega
  -- Program
  repeat' first
   | refine Opl.call rfl (by kernel_rfl) (ReadProgram g _ hgl) rfl (fun v U hv => ?_) (fun _ _ hf => hf.elim)
   | refine .std ?_ | refine .nil ?_ | refine .seq ?_ | refine .region ?_ | refine .xs ?_ | refine .kb ?_ | refine .leaf ?_ | refine .block ?_ | refine .gn ?_ | refine .dr ?_ | fail
  obtain ⟨hv, _⟩ := hv
  obtain ⟨cs0, i0, e0, rfl, hc0, ho0, he0⟩ := hv.err2
  obtain ⟨W0, hst0, hb0⟩ := lay 63 14 10 cs0 U inferInstance hc0 rfl ho0
  repeat' first
   | refine Opl.val op_alloc rfl ?_
   | refine Opl.eff (op_store rfl rfl hst0) ?_
   | refine Go.holdS 6 ?_
   | refine .std ?_ | refine .nil ?_ | refine .seq ?_ | refine .region ?_ | refine .xs ?_ | refine .kb ?_ | refine .leaf ?_ | refine .block ?_ | refine .gn ?_ | refine .dr ?_ | fail
  refine ⟨?_⟩
  refine Go.joinS (fun E U => ∃ m : Nat, MInv g [112] m ∧ Sub [(0, .str g), (6, .int .i64 m)] E) ?_ (fun hj => ?_)
  rotate_left
  · rcases he0 with ⟨rfl, hn, henc⟩ | ⟨hne, hnn⟩
    · obtain ⟨hfv, hfr⟩ := file _ _ _ hn
      have hld : loadE Try.prog 63 (.ptr U.next 0) W0 = some (.agg cs0) := ld_agg ⟨_, _, hb0, fun i v h => by simpa using h⟩ hc0
      obtain ⟨d, henc⟩ := henc
      have hw : CallTo Try.prog 22 [.agg cs0] W0 (fun v S' => v = .tup [.str g, .int .i64 0] ∧ KeepB W0 S' W0.next) (fun _ _ => False) := by rw [← hfv]; exact progProgram henc W0
      repeat' first
       | exact hj _ _ ⟨_, MInv.add (m := 0) (ks := []) (.inl rfl) (by decide) hfr, rfl, rfl, trivial⟩
       | refine Go.condT rfl ?_
       | refine Go.condF rfl ?_
       | refine op_gyes rfl ?_ rfl
       | refine Opl.val (op_int rfl rfl rfl (inc_ok (i := 0) (by omega))) rfl ?_
       | refine Opl.val (op_load rfl hld) rfl ?_
       | refine Opl.callv rfl (by kernel_rfl) hw rfl (fun _ _ => ?_) (fun _ _ hf => hf.elim)
       | refine Opl.val (op_str rfl rfl (str_neq _)) rfl ?_
       | refine .std ?_ | refine .nil ?_ | refine .seq ?_ | refine .region ?_ | refine .xs ?_ | refine .kb ?_ | refine .leaf ?_ | refine .block ?_ | refine .gn ?_ | refine .dr ?_ | fail
    · have g1 : intOp .eql .i64 e0 0 = some (.bool false) := eql_i (decide_eq_false hne)
      repeat' first
       | exact hj _ _ ⟨_, MInv.keep (m := 0) (ks := []) 112 (.inl rfl), rfl, rfl, trivial⟩
       | refine Opl.val (op_int rfl rfl rfl g1) rfl ?_
       | refine Go.condF rfl ?_
       | refine .std ?_ | refine .nil ?_ | refine .seq ?_ | refine .region ?_ | refine .xs ?_ | refine .kb ?_ | refine .leaf ?_ | refine .block ?_ | refine .gn ?_ | refine .dr ?_ | fail
  rintro E V0 ⟨m, hm, hE⟩
  refine Go.weaken ?_ hE
  -- Code
  repeat' first
   | refine Opl.call rfl (by kernel_rfl) (ReadCode g _ hgl) rfl (fun v U hv => ?_) (fun _ _ hf => hf.elim)
   | refine .std ?_ | refine .nil ?_ | refine .seq ?_ | refine .region ?_ | refine .xs ?_ | refine .kb ?_ | refine .leaf ?_ | refine .block ?_ | refine .gn ?_ | refine .dr ?_ | fail
  obtain ⟨hv, _⟩ := hv
  obtain ⟨cs1, i1, e1, rfl, hc1, ho1, he1⟩ := hv.err2
  obtain ⟨W1, hst1, hb1⟩ := lay 40 15 3 cs1 U inferInstance hc1 rfl ho1
  repeat' first
   | refine Opl.val op_alloc rfl ?_
   | refine Opl.eff (op_store rfl rfl hst1) ?_
   | refine Go.holdS 12 ?_
   | refine .std ?_ | refine .nil ?_ | refine .seq ?_ | refine .region ?_ | refine .xs ?_ | refine .kb ?_ | refine .leaf ?_ | refine .block ?_ | refine .gn ?_ | refine .dr ?_ | fail
  refine ⟨?_⟩
  refine Go.joinS (fun E U => ∃ m : Nat, MInv g [99, 112] m ∧ Sub [(0, .str g), (6, .int .i64 m)] E) ?_ (fun hj => ?_)
  rotate_left
  · rcases he1 with ⟨rfl, hn, henc⟩ | ⟨hne, hnn⟩
    · obtain ⟨hfv, hfr⟩ := file _ _ _ hn
      have hld : loadE Try.prog 40 (.ptr U.next 0) W1 = some (.agg cs1) := ld_agg ⟨_, _, hb1, fun i v h => by simpa using h⟩ hc1
      obtain ⟨d, henc⟩ := henc
      have hw : CallTo Try.prog 27 [.agg cs1] W1 (fun v S' => v = .tup [.str g, .int .i64 0] ∧ KeepB W1 S' W1.next) (fun _ _ => False) := by rw [← hfv]; exact progCode henc W1
      repeat' first
       | exact hj _ _ ⟨_, MInv.add hm (by decide) hfr, rfl, rfl, trivial⟩
       | refine Go.condT rfl ?_
       | refine Go.condF rfl ?_
       | refine op_gyes rfl ?_ rfl
       | refine Opl.val (op_int rfl rfl rfl (inc_ok (i := m) (by have := hm.le; omega))) rfl ?_
       | refine Opl.val (op_load rfl hld) rfl ?_
       | refine Opl.callv rfl (by kernel_rfl) hw rfl (fun _ _ => ?_) (fun _ _ hf => hf.elim)
       | refine Opl.val (op_str rfl rfl (str_neq _)) rfl ?_
       | refine .std ?_ | refine .nil ?_ | refine .seq ?_ | refine .region ?_ | refine .xs ?_ | refine .kb ?_ | refine .leaf ?_ | refine .block ?_ | refine .gn ?_ | refine .dr ?_ | fail
    · have g1 : intOp .eql .i64 e1 0 = some (.bool false) := eql_i (decide_eq_false hne)
      repeat' first
       | exact hj _ _ ⟨_, MInv.keep 99 hm, rfl, rfl, trivial⟩
       | refine Opl.val (op_int rfl rfl rfl g1) rfl ?_
       | refine Go.condF rfl ?_
       | refine .std ?_ | refine .nil ?_ | refine .seq ?_ | refine .region ?_ | refine .xs ?_ | refine .kb ?_ | refine .leaf ?_ | refine .block ?_ | refine .gn ?_ | refine .dr ?_ | fail
  rintro E V1 ⟨m, hm, hE⟩
  refine Go.weaken ?_ hE
  -- State
  repeat' first
   | refine Opl.call rfl (by kernel_rfl) (ReadState g _ hgl) rfl (fun v U hv => ?_) (fun _ _ hf => hf.elim)
   | refine .std ?_ | refine .nil ?_ | refine .seq ?_ | refine .region ?_ | refine .xs ?_ | refine .kb ?_ | refine .leaf ?_ | refine .block ?_ | refine .gn ?_ | refine .dr ?_ | fail
  obtain ⟨hv, _⟩ := hv
  obtain ⟨cs2, i2, e2, rfl, hc2, ho2, he2⟩ := hv.err2
  obtain ⟨W2, hst2, hb2⟩ := lay 50 20 10 cs2 U inferInstance hc2 rfl ho2
  repeat' first
   | refine Opl.val op_alloc rfl ?_
   | refine Opl.eff (op_store rfl rfl hst2) ?_
   | refine Go.holdS 18 ?_
   | refine .std ?_ | refine .nil ?_ | refine .seq ?_ | refine .region ?_ | refine .xs ?_ | refine .kb ?_ | refine .leaf ?_ | refine .block ?_ | refine .gn ?_ | refine .dr ?_ | fail
  refine ⟨?_⟩
  refine Go.joinS (fun E U => ∃ m : Nat, MInv g [115, 99, 112] m ∧ Sub [(0, .str g), (6, .int .i64 m)] E) ?_ (fun hj => ?_)
  rotate_left
  · rcases he2 with ⟨rfl, hn, henc⟩ | ⟨hne, hnn⟩
    · obtain ⟨hfv, hfr⟩ := file _ _ _ hn
      have hld : loadE Try.prog 50 (.ptr U.next 0) W2 = some (.agg cs2) := ld_agg ⟨_, _, hb2, fun i v h => by simpa using h⟩ hc2
      obtain ⟨d, henc⟩ := henc
      have hw : CallTo Try.prog 18 [.agg cs2] W2 (fun v S' => v = .tup [.str g, .int .i64 0] ∧ KeepB W2 S' W2.next) (fun _ _ => False) := by rw [← hfv]; exact progState henc W2
      repeat' first
       | exact hj _ _ ⟨_, MInv.add hm (by decide) hfr, rfl, rfl, trivial⟩
       | refine Go.condT rfl ?_
       | refine Go.condF rfl ?_
       | refine op_gyes rfl ?_ rfl
       | refine Opl.val (op_int rfl rfl rfl (inc_ok (i := m) (by have := hm.le; omega))) rfl ?_
       | refine Opl.val (op_load rfl hld) rfl ?_
       | refine Opl.callv rfl (by kernel_rfl) hw rfl (fun _ _ => ?_) (fun _ _ hf => hf.elim)
       | refine Opl.val (op_str rfl rfl (str_neq _)) rfl ?_
       | refine .std ?_ | refine .nil ?_ | refine .seq ?_ | refine .region ?_ | refine .xs ?_ | refine .kb ?_ | refine .leaf ?_ | refine .block ?_ | refine .gn ?_ | refine .dr ?_ | fail
    · have g1 : intOp .eql .i64 e2 0 = some (.bool false) := eql_i (decide_eq_false hne)
      repeat' first
       | exact hj _ _ ⟨_, MInv.keep 115 hm, rfl, rfl, trivial⟩
       | refine Opl.val (op_int rfl rfl rfl g1) rfl ?_
       | refine Go.condF rfl ?_
       | refine .std ?_ | refine .nil ?_ | refine .seq ?_ | refine .region ?_ | refine .xs ?_ | refine .kb ?_ | refine .leaf ?_ | refine .block ?_ | refine .gn ?_ | refine .dr ?_ | fail
  rintro E V2 ⟨m, hm, hE⟩
  refine Go.weaken ?_ hE
  -- Value
  repeat' first
   | refine Opl.call rfl (by kernel_rfl) (ReadValue g _ hgl) rfl (fun v U hv => ?_) (fun _ _ hf => hf.elim)
   | refine .std ?_ | refine .nil ?_ | refine .seq ?_ | refine .region ?_ | refine .xs ?_ | refine .kb ?_ | refine .leaf ?_ | refine .block ?_ | refine .gn ?_ | refine .dr ?_ | fail
  obtain ⟨hv, _⟩ := hv
  obtain ⟨cs3, i3, e3, rfl, hc3, ho3, he3⟩ := hv.err2
  obtain ⟨W3, hst3, hb3⟩ := lay 29 2 5 cs3 U inferInstance hc3 rfl ho3
  repeat' first
   | refine Opl.val op_alloc rfl ?_
   | refine Opl.eff (op_store rfl rfl hst3) ?_
   | refine Go.holdS 24 ?_
   | refine .std ?_ | refine .nil ?_ | refine .seq ?_ | refine .region ?_ | refine .xs ?_ | refine .kb ?_ | refine .leaf ?_ | refine .block ?_ | refine .gn ?_ | refine .dr ?_ | fail
  refine ⟨?_⟩
  refine Go.joinS (fun E U => ∃ m : Nat, MInv g [118, 115, 99, 112] m ∧ Sub [(0, .str g), (6, .int .i64 m)] E) ?_ (fun hj => ?_)
  rotate_left
  · rcases he3 with ⟨rfl, hn, henc⟩ | ⟨hne, hnn⟩
    · obtain ⟨hfv, hfr⟩ := file _ _ _ hn
      have hld : loadE Try.prog 29 (.ptr U.next 0) W3 = some (.agg cs3) := ld_agg ⟨_, _, hb3, fun i v h => by simpa using h⟩ hc3
      obtain ⟨d, henc⟩ := henc
      have hw : CallTo Try.prog 20 [.agg cs3] W3 (fun v S' => v = .tup [.str g, .int .i64 0] ∧ KeepB W3 S' W3.next) (fun _ _ => False) := by rw [← hfv]; exact progValue henc W3
      repeat' first
       | exact hj _ _ ⟨_, MInv.add hm (by decide) hfr, rfl, rfl, trivial⟩
       | refine Go.condT rfl ?_
       | refine Go.condF rfl ?_
       | refine op_gyes rfl ?_ rfl
       | refine Opl.val (op_int rfl rfl rfl (inc_ok (i := m) (by have := hm.le; omega))) rfl ?_
       | refine Opl.val (op_load rfl hld) rfl ?_
       | refine Opl.callv rfl (by kernel_rfl) hw rfl (fun _ _ => ?_) (fun _ _ hf => hf.elim)
       | refine Opl.val (op_str rfl rfl (str_neq _)) rfl ?_
       | refine .std ?_ | refine .nil ?_ | refine .seq ?_ | refine .region ?_ | refine .xs ?_ | refine .kb ?_ | refine .leaf ?_ | refine .block ?_ | refine .gn ?_ | refine .dr ?_ | fail
    · have g1 : intOp .eql .i64 e3 0 = some (.bool false) := eql_i (decide_eq_false hne)
      repeat' first
       | exact hj _ _ ⟨_, MInv.keep 118 hm, rfl, rfl, trivial⟩
       | refine Opl.val (op_int rfl rfl rfl g1) rfl ?_
       | refine Go.condF rfl ?_
       | refine .std ?_ | refine .nil ?_ | refine .seq ?_ | refine .region ?_ | refine .xs ?_ | refine .kb ?_ | refine .leaf ?_ | refine .block ?_ | refine .gn ?_ | refine .dr ?_ | fail
  rintro E V3 ⟨m, hm, hE⟩
  refine Go.weaken ?_ hE
  have hle := hm.le
  have e1 : intOp .leq .i64 (m : Int) 1 = some (.bool true) := by
    simp only [intOp]; rw [decide_eq_true (by omega)]
  repeat' first
   | refine op_gyes rfl ?_ rfl
   | refine Opl.val (op_int rfl rfl rfl e1) rfl ?_
   | refine Opl.callr rfl (by kernel_rfl) (lim_closed awakeT _) rfl ?_
   | refine .std ?_ | refine .nil ?_ | refine .seq ?_ | refine .region ?_ | refine .xs ?_ | refine .kb ?_ | refine .leaf ?_ | refine .block ?_ | refine .gn ?_ | refine .dr ?_ | fail
  exact At.fnr rfl rfl rfl rfl

end Go.Proofs.Ytilldjgagokcfaa
