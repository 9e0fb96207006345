/-
  How many of the four functions read a file.
-/
import Derived.Test.YtilldjgagokcfaaF1
import Derived.Test.YtilldjgagokcfaaP1
set_option linter.unusedVariables false
set_option linter.unusedSimpArgs false
namespace Go.Ev
open Go.RowKit

theorem RdV.err {f : List UInt8} {k : UInt8} {t : Nat} {v : V} (h : RdV f k t v) : ∃ (cs : List V) (i : Nat) (e : Int), v = .tup [.agg cs, .int .i64 i, .int .i64 e] ∧ cs.length = szs t ∧ cs.all V.one = true ∧ (e = 0 ↔ rdOut f k t = none) := by
  unfold RdV at h
  cases hr : rdOut f k t with
  | some r =>
    rw [hr] at h
    refine ⟨_, _, _, h, zc_len t, zc_ones t, ?_⟩
    constructor
    · intro e0
      exfalso
      unfold rdOut at hr
      split at hr
      · cases hr; cases e0
      · split at hr
        · cases hr; cases e0
        · split at hr
          · cases hr; cases e0
          · split at hr
            · cases hr; cases e0
            · cases hr
    · intro e0; cases e0
  | none =>
    rw [hr] at h
    obtain ⟨cs, h1, h2, h3⟩ := h
    exact ⟨cs, 0, 0, h1, h2, h3.ones, by simp⟩

/-- How many are zero. -/
def zeros (l : List Int) : Nat := (l.filter fun e => decide (e = 0)).length

theorem zeros_snoc (l : List Int) (e : Int) : zeros (l ++ [e]) = zeros l + if e = 0 then 1 else 0 := by
  unfold zeros
  rw [List.filter_append]
  by_cases h : e = 0 <;> simp [h]

theorem zeros_le (l : List Int) : zeros l ≤ l.length := by unfold zeros; exact List.length_filter_le _ _

end Go.Ev

namespace Go.Proofs.Ytilldjgagokcfaa
open Go.RowKit Go.Ev
set_option maxRecDepth 100000
set_option linter.unusedVariables false

theorem bytes1 (x : UInt8) (S : St) : CallTo Try.prog 25 [.list (some 5) 1 [.int .u8 x.toNat] .exact] S (fun v S' => v = .str [x] ∧ S' = S) (fun _ _ => False) := by
  refine CallTo.of (n := 5) Try.func25 rfl rfl ?_
  have hc : toBytes [.int .u8 (x.toNat : Int)] = some [x] := toBytes_of [x]
  repeat' first
   | refine Opl.val (op_conv rfl (conv_bytes hc)) rfl ?_
   | refine .std ?_ | refine .nil ?_ | refine .seq ?_ | refine .region ?_ | refine .xs ?_ | refine .kb ?_ | refine .leaf ?_ | refine .block ?_ | refine .gn ?_ | refine .dr ?_ | fail
  exact At.fnr rfl rfl rfl ⟨rfl, rfl⟩

set_option maxHeartbeats 1000000 in
theorem reads (f : List UInt8) (S : St) (hl : f.length < 4611686018427387904) : CallTo Try.prog 24 [.str f] S (fun v S' => v = .int .i64 (readsOf f : Nat) ∧ Same S S') (fun _ _ => False) := by
  refine CallTo.of (n := 61) Try.func24 rfl rfl ?_
  have lay : ∀ (T t : TypeId) (n : Nat) (cs : List V) (U : St) (hn : SzN Try.prog T n), cs.length = szs t → szs t = n → cs.all V.one = true → ∃ W : St, storeE Try.prog T (.ptr U.next 0) (.agg cs) (U.new (.box T (zc t))) = some W ∧ Same U W := by
    intro T t n cs U hn hcl hsz ho
    have hb : (U.new (.box T (zc t))).h.find U.next = some (.box T (zc t)) := by simp [St.new, Tr.find_put]
    have hz := zc_len t
    have hsp : splice (zc t) 0 cs = some cs := by
      unfold splice
      rw [if_pos (Nat.ble_eq_true_of_le (by omega))]
      simp [hcl, hz]
    exact ⟨_, st_agg hb (hcl.trans hsz) ho hsp, (Same.new _ _).put (Nat.le_refl _) _⟩
  repeat' first
   | refine Opl.call rfl (by kernel_rfl) (ReadProgram f S hl) rfl (fun v S1 ⟨hv1, s1⟩ => ?_) (fun _ _ hf => hf.elim)
   | refine .std ?_ | refine .nil ?_ | refine .seq ?_ | refine .region ?_ | refine .xs ?_ | refine .kb ?_ | refine .leaf ?_ | refine .block ?_ | refine .gn ?_ | refine .dr ?_ | fail
  obtain ⟨c1, i1, e1, rfl, hc1, ho1, he1⟩ := hv1.err
  obtain ⟨W1, hst1, t1⟩ := lay 63 14 10 c1 S1 inferInstance hc1 rfl ho1
  repeat' first
   | refine Opl.val op_alloc rfl ?_
   | refine Opl.eff (op_store rfl rfl hst1) ?_
   | refine Opl.call rfl (by kernel_rfl) (ReadCode f W1 hl) rfl (fun v S2 ⟨hv2, s2⟩ => ?_) (fun _ _ hf => hf.elim)
   | refine .std ?_ | refine .nil ?_ | refine .seq ?_ | refine .region ?_ | refine .xs ?_ | refine .kb ?_ | refine .leaf ?_ | refine .block ?_ | refine .gn ?_ | refine .dr ?_ | fail
  obtain ⟨c2, i2, e2, rfl, hc2, ho2, he2⟩ := hv2.err
  obtain ⟨W2, hst2, t2⟩ := lay 40 15 3 c2 S2 inferInstance hc2 rfl ho2
  repeat' first
   | refine Opl.val op_alloc rfl ?_
   | refine Opl.eff (op_store rfl rfl hst2) ?_
   | refine Opl.call rfl (by kernel_rfl) (ReadState f W2 hl) rfl (fun v S3 ⟨hv3, s3⟩ => ?_) (fun _ _ hf => hf.elim)
   | refine .std ?_ | refine .nil ?_ | refine .seq ?_ | refine .region ?_ | refine .xs ?_ | refine .kb ?_ | refine .leaf ?_ | refine .block ?_ | refine .gn ?_ | refine .dr ?_ | fail
  obtain ⟨c3, i3, e3, rfl, hc3, ho3, he3⟩ := hv3.err
  obtain ⟨W3, hst3, t3⟩ := lay 50 20 10 c3 S3 inferInstance hc3 rfl ho3
  repeat' first
   | refine Opl.val op_alloc rfl ?_
   | refine Opl.eff (op_store rfl rfl hst3) ?_
   | refine Opl.call rfl (by kernel_rfl) (ReadValue f W3 hl) rfl (fun v S4 ⟨hv4, s4⟩ => ?_) (fun _ _ hf => hf.elim)
   | refine .std ?_ | refine .nil ?_ | refine .seq ?_ | refine .region ?_ | refine .xs ?_ | refine .kb ?_ | refine .leaf ?_ | refine .block ?_ | refine .gn ?_ | refine .dr ?_ | fail
  obtain ⟨c4, i4, e4, rfl, hc4, ho4, he4⟩ := hv4.err
  obtain ⟨W4, hst4, t4⟩ := lay 29 2 5 c4 S4 inferInstance hc4 rfl ho4
  have hsame : Same S W4 := s1.trans (t1.trans (s2.trans (t2.trans (s3.trans (t3.trans (s4.trans t4))))))
  obtain ⟨es, hes⟩ : ∃ es : List Int, es = [e1, e2, e3, e4] := ⟨_, rfl⟩
  have hcnt : readsOf f = zeros es := by
    rw [hes]
    unfold readsOf cnt zeros
    have q : ∀ (e : Int) (o : Option (Nat × Int)), (e = 0 ↔ o = none) → o.isNone = decide (e = 0) := by
      intro e o h
      cases o with
      | none => rw [decide_eq_true (h.2 rfl)]; rfl
      | some r => rw [decide_eq_false (fun h0 => by cases h.1 h0)]; rfl
    have q1 := q _ _ he1
    have q2 := q _ _ he2
    have q3 := q _ _ he3
    have q4 := q _ _ he4
    simp only [List.filter_cons, List.filter_nil, q1, q2, q3, q4]
    cases decide (e1 = 0) <;> cases decide (e2 = 0) <;> cases decide (e3 = 0) <;> cases decide (e4 = 0) <;> rfl
  have hb : buildSliceE Try.prog 92 4 [(0, .int .i64 e1), (1, .int .i64 e2), (2, .int .i64 e3), (3, .int .i64 e4)] = some (.list (some 32) 1 [.int .i64 e1, .int .i64 e2, .int .i64 e3, .int .i64 e4] .exact) := by kernel_rfl
  have hlist : V.list (some 32) 1 [.int .i64 e1, .int .i64 e2, .int .i64 e3, .int .i64 e4] .exact = .list (some 32) 1 (es.map (V.int .i64)) .exact := by rw [hes]; rfl
  rw [hlist] at hb
  have hl4 : es.length = 4 := by rw [hes]; rfl
  rw [hcnt]
  clear hes hcnt hlist he1 he2 he3 he4 hv1 hv2 hv3 hv4
  repeat' first
   | refine Opl.val op_alloc rfl ?_
   | refine Opl.eff (op_store rfl rfl hst4) ?_
   | refine Opl.val (op_bs4 rfl rfl rfl rfl hb) rfl ?_
   | refine .std ?_ | refine .nil ?_ | refine .seq ?_ | refine .region ?_ | refine .xs ?_ | refine .kb ?_ | refine .leaf ?_ | refine .block ?_ | refine .gn ?_ | refine .dr ?_ | fail
  refine Go.weaken (E' := [(3, .int .i64 (0 : Nat)), (16, .list (some 32) 1 (es.map (V.int .i64)) .exact), (17, .int .i64 (0 : Nat))]) ?_ ⟨rfl, rfl, rfl, trivial⟩
  refine Go.loop_ind (α := Nat) (fun i => 4 - i) (fun i E S' => S' = W4 ∧ E = [(3, .int .i64 (zeros (es.take i) : Nat)), (16, .list (some 32) 1 (es.map (V.int .i64)) .exact), (17, .int .i64 i)] ∧ i ≤ 4) ?_ 0 _ _ ⟨rfl, rfl, by omega⟩
  rintro i E U ⟨rfl, rfl, hi⟩ IH
  have hlen : ∀ {ev : Operand → Option V} {args : Array Operand} {ats : Array TypeId}, mapO ev args.toList = some [.list (some 32) 1 (es.map (V.int .i64)) .exact] → ats.toList = [92] → opE Try.prog (.call { callee := .builtin .len, args, argTypes := ats }) ev U = some (.int .i64 ((4 : Nat) : Int), U) := fun h1 h2 => by
    rw [op_lenL h1 rfl h2]; simp [elems, hl4]
  by_cases hq : i < 4
  · have hix : (es.map (V.int .i64))[i]? = some (.int .i64 es[i]) := by rw [List.getElem?_map, List.getElem?_eq_getElem (by omega)]; rfl
    have hpc : Pt U (.cptr none (V.int .i64 es[i]).cells 0) [.int .i64 es[i]] := Pt.cptr _ _ _
    have htake : zeros (es.take (i + 1)) = zeros (es.take i) + if es[i] = 0 then 1 else 0 := by
      rw [List.take_succ_eq_append_getElem (by omega), zeros_snoc]
    have hzl := zeros_le (es.take i)
    simp only [List.length_take] at hzl
    by_cases h0 : es[i] = 0
    · have g1 : intOp .eql .i64 es[i] 0 = some (.bool true) := eql_i (decide_eq_true h0)
      rw [if_pos h0] at htake
      repeat' first
       | refine Opl.val (hlen rfl rfl) rfl ?_
       | refine Opl.val (op_int rfl rfl rfl (lss_i (decide_eq_true (by omega)))) rfl ?_
       | refine Go.condT rfl ?_
       | refine Opl.val (op_ixaL rfl rfl hix) rfl ?_
       | refine Opl.val (op_int rfl rfl rfl g1) rfl ?_
       | refine Opl.val (op_int rfl rfl rfl (inc_ok (i := zeros (es.take i)) (by omega))) rfl ?_
       | refine Opl.val (op_int rfl rfl rfl (inc_ok (i := i) (by omega))) rfl ?_
       | refine .std ?_ | refine .nil ?_ | refine .seq ?_ | refine .region ?_ | refine .xs ?_ | refine .kb ?_ | refine .leaf ?_ | refine .block ?_ | refine .gn ?_ | refine .dr ?_ | fail
      exact (IH (i + 1) [(3, .int .i64 (zeros (es.take (i + 1)) : Nat)), (16, .list (some 32) 1 (es.map (V.int .i64)) .exact), (17, .int .i64 (i + 1 : Nat))] U (by omega) ⟨rfl, rfl, by omega⟩).weaken ⟨by rw [htake]; rfl, rfl, rfl, trivial⟩
    · have g1 : intOp .eql .i64 es[i] 0 = some (.bool false) := eql_i (decide_eq_false h0)
      rw [if_neg h0] at htake
      repeat' first
       | refine Opl.val (hlen rfl rfl) rfl ?_
       | refine Opl.val (op_int rfl rfl rfl (lss_i (decide_eq_true (by omega)))) rfl ?_
       | refine Go.condT rfl ?_
       | refine Go.condF rfl ?_
       | refine Opl.val (op_ixaL rfl rfl hix) rfl ?_
       | refine Opl.val (op_int rfl rfl rfl g1) rfl ?_
       | refine Opl.val (op_int rfl rfl rfl (inc_ok (i := i) (by omega))) rfl ?_
       | refine .std ?_ | refine .nil ?_ | refine .seq ?_ | refine .region ?_ | refine .xs ?_ | refine .kb ?_ | refine .leaf ?_ | refine .block ?_ | refine .gn ?_ | refine .dr ?_ | fail
      exact (IH (i + 1) [(3, .int .i64 (zeros (es.take (i + 1)) : Nat)), (16, .list (some 32) 1 (es.map (V.int .i64)) .exact), (17, .int .i64 (i + 1 : Nat))] U (by omega) ⟨rfl, rfl, by omega⟩).weaken ⟨by rw [htake]; rfl, rfl, rfl, trivial⟩
  · have hi4 : i = 4 := by omega
    subst hi4
    rw [List.take_of_length_le (by omega)]
    repeat' first
     | refine Opl.val (hlen rfl rfl) rfl ?_
     | refine Opl.val (op_int rfl rfl rfl (lss_i (decide_eq_false (by omega)))) rfl ?_
     | refine Go.condF rfl ?_
     | refine .std ?_ | refine .nil ?_ | refine .seq ?_ | refine .region ?_ | refine .xs ?_ | refine .kb ?_ | refine .leaf ?_ | refine .block ?_ | refine .gn ?_ | refine .dr ?_ | fail
    exact At.fnr rfl rfl rfl ⟨rfl, hsame⟩

end Go.Proofs.Ytilldjgagokcfaa
