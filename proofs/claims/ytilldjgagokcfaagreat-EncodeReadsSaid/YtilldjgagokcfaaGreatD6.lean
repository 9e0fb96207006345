import Derived.Test.YtilldjgagokcfaaGreatD5
set_option linter.unusedVariables false
set_option linter.unusedSimpArgs false
namespace Go.Ev
open Go.RowKit
theorem Keep2.same {S S0 S' : St} {c x : Nat} (s : Same S S0) (k : Keep2 S0 S' c x) (hc : S.next ≤ c) (hx : S.next ≤ x) : Same S S' :=
  ⟨Nat.le_trans s.next k.next, fun id hi => by rw [k.find id (Nat.lt_of_lt_of_le hi s.next) (by omega) (by omega), s.find id hi]⟩
theorem Same.keep2 {S S' : St} (h : Same S S') (c x : Nat) : Keep2 S S' c x := ⟨h.next, fun id hi _ _ => h.find id hi⟩
theorem op_bd2 {P : Program} {ev : Operand → Option V} {S : St} {x y : Operand} {t : TypeId} {v w r : V} {i j : Nat} (h : ev x = some v) (h2 : ev y = some w) (hb : buildE P t [(i, v), (j, w)] = some r) : opE P (.build t #[(i, x), (j, y)]) ev S = some (r, S) := by
  simp [opE, mapO, h, h2, hb]
theorem RdV.shape {f : List UInt8} {k : UInt8} {t : Nat} {v : V} (h : RdV f k t v) : ∃ (cs : List V) (i : Nat) (e : Int), v = .tup [.agg cs, .int .i64 i, .int .i64 e] ∧ cs.length = szs t ∧ cs.all V.one = true := by
  unfold RdV at h
  split at h
  · exact ⟨_, _, _, h, zc_len t, zc_ones t⟩
  · obtain ⟨cs, h1, h2, h3⟩ := h
    exact ⟨cs, 0, 0, h1, h2, h3.ones⟩
def bodyE (s : List UInt8) (k t : Nat) : Option Nat := match scan s k t 8 with
  | .error b => some b
  | .ok j => if j < s.length then some s.length else none
theorem rdOut_body {f : List UInt8} {k : UInt8} {t : Nat} (h1 : f.length ≤ 100000) (h2 : outP f k = none) : rdOut f k t = (bodyE (f.take (f.length - 4)) (f.length + 1) t).map fun b => (b, 11) := by
  unfold rdOut bodyE
  rw [if_neg (by omega), h2]
  simp only
  have hl : (f.take (f.length - 4)).length = f.length - 4 := by simp
  cases scan (f.take (f.length - 4)) (f.length + 1) t 8 with
  | error b => rfl
  | ok j =>
    simp only [hl]
    split <;> rfl
end Go.Ev
namespace Go.Proofs.YtilldjgagokcfaaGreat
open Go.RowKit Go.Ev
set_option maxRecDepth 100000
set_option linter.unusedVariables false
theorem caughtMal (a b i : Nat) (S : St) {x y : V} (hal : a < S.next) (hbl : b < S.next) (hab : a ≠ b) (ha : S.h.find a = some (.box 3 [y])) (hb : S.h.find b = some (.box 36 [x])) :
    DcallTo Tryz.prog 111 [.ptr a 0, .ptr b 0] (.live (malV i)) S (fun p S' => (∃ w, p = .done w) ∧ S.next ≤ S'.next ∧ S'.h.find a = some (.box 3 [.int .i64 i]) ∧ S'.h.find b = some (.box 36 [.int .i64 11]) ∧ ∀ id, id < S.next → id ≠ a → id ≠ b → S'.h.find id = S.h.find id) := by
  refine DcallTo.of (n := 17) Tryz.func111 rfl rfl ?_
  have as1 : assertE Tryz.prog (malV i) 169 true = some (.tup [.agg [.int .i64 i], .bool true]) := by kernel_rfl
  have hf0 : (S.new (.box 169 (V.agg [.int .i64 0]).cells)).h.find S.next = some (.box 169 [.int .i64 0]) := by simp [St.new, Tr.find_put, V.cells]
  obtain ⟨S2, hS2⟩ : ∃ S2 : St, S2 = { S.new (.box 169 (V.agg [.int .i64 0]).cells) with h := (S.new (.box 169 (V.agg [.int .i64 0]).cells)).h.put S.next (.box 169 [.int .i64 i]) } := ⟨_, rfl⟩
  have hst0 : storeE Tryz.prog 169 (.ptr S.next 0) (.agg [.int .i64 i]) (S.new (.box 169 (V.agg [.int .i64 0]).cells)) = some S2 := by rw [hS2]; exact st_agg (n := 1) hf0 rfl rfl rfl
  have h20 : S2.h.find S.next = some (.box 169 [.int .i64 i]) := by rw [hS2]; simp [Tr.find_put]
  have h2 : ∀ id, id < S.next → S2.h.find id = S.h.find id := fun id hi => by
    rw [hS2]; simp only [St.new, Tr.find_put, if_neg (Nat.ne_of_lt hi)]
  have hpt : Pt S2 (.ptr S.next 0) [.int .i64 i] := ⟨_, _, h20, fun i v h => by simpa using h⟩
  have ha2 : S2.h.find a = some (.box 3 [y]) := by rw [h2 a hal]; exact ha
  obtain ⟨S3, hS3⟩ : ∃ S3 : St, S3 = { S2 with h := S2.h.put a (.box 3 [.int .i64 i]) } := ⟨_, rfl⟩
  have hst1 : storeE Tryz.prog 3 (.ptr a 0) (.int .i64 i) S2 = some S3 := by rw [hS3]; exact st_one ha2 rfl rfl
  have hb3 : S3.h.find b = some (.box 36 [x]) := by rw [hS3]; simp only [Tr.find_put, if_neg (Ne.symm hab)]; rw [h2 b hbl]; exact hb
  repeat' first
   | refine Opl.recover rfl ?_
   | refine Opl.val (op_bin (r := .bool false) rfl rfl (by kernel_rfl)) rfl ?_
   | refine Go.condF rfl ?_
   | refine Go.condT rfl ?_
   | refine Opl.val (op_asT rfl as1) rfl ?_
   | refine Opl.val op_alloc rfl ?_
   | refine Opl.eff (op_store rfl rfl hst0) ?_
   | refine Opl.eff (op_store rfl rfl hst1) ?_
   | refine Opl.eff (op_store rfl rfl (st_one hb3 rfl rfl)) ?_
   | refine .std ?_ | refine .nil ?_ | refine .seq ?_ | refine .region ?_ | refine .xs ?_ | refine .kb ?_ | refine .leaf ?_ | refine .block ?_ | refine .gn ?_ | refine .dr ?_ | fail
  have hn2 : S2.next = S.next + 1 := by rw [hS2]; rfl
  refine At.dn rfl rfl rfl ⟨⟨_, rfl⟩, ?_, ?_, by simp only [Tr.find_put, if_true]; rfl, fun id h1 h3 h4 => ?_⟩
  · show S.next ≤ S3.next
    rw [hS3]; show S.next ≤ S2.next; omega
  · simp only [Tr.find_put, if_neg hab]
    rw [hS3]; simp only [Tr.find_put, if_true]
  · simp only [Tr.find_put, if_neg h4]
    rw [hS3]; simp only [Tr.find_put, if_neg h3]
    exact h2 id h1
theorem caughtR {g : FuncId} (hg : hasBody Tryz.prog g = true) {caps : List V} {S : St} {c x : Nat} {T : TypeId} (hc : c < S.next) (hx : x < S.next) {P : List V → Prop} {B : Nat → Prop}
    (hdo : ∀ S0, Same S S0 → CallTo Tryz.prog g caps S0 (fun _ S' => (∃ cs, S'.h.find x = some (.box T cs) ∧ P cs) ∧ Keep2 S0 S' c x) (fun v S' => ∃ b, B b ∧ v = malV b ∧ Keep2 S0 S' c x)) :
    CallTo Tryz.prog 53 [.func g [] caps] S (fun v S' => Keep2 S S' c x ∧ ((v = .tup [.int .i64 0, .int .i64 0] ∧ ∃ cs, S'.h.find x = some (.box T cs) ∧ P cs) ∨ (∃ b : Nat, B b ∧ v = .tup [.int .i64 b, .int .i64 11]))) (fun _ _ => False) := by
  refine CallTo.ofD (n := 7) Tryz.func53 rfl rfl ?_
  obtain ⟨S0, hS0⟩ : ∃ S0, S0 = (S.new (.box 3 [V.int .i64 0])).new (.box 36 [V.int .i64 0]) := ⟨_, rfl⟩
  have hs0 : Same S S0 := by rw [hS0]; exact (Same.new _ _).trans (Same.new _ _)
  have hn0 : S0.next = S.next + 2 := by rw [hS0]; rfl
  have hca : S0.h.find S.next = some (.box 3 [V.int .i64 0]) := by rw [hS0]; simp [St.new, Tr.find_put]
  have hcb : S0.h.find (S.next + 1) = some (.box 36 [V.int .i64 0]) := by rw [hS0]; simp [St.new, Tr.find_put]
  have hdo0 := hdo S0 hs0
  repeat' first
   | refine Opl.val op_alloc rfl ?_
   | refine Opl.defer rfl ?_
   | (rw [show ((S.new (.box 3 (V.int .i64 0).cells)).new (.box 36 (V.int .i64 0).cells)) = S0 from hS0.symm]; refine Opl.call rfl hg hdo0 rfl (fun v S1 w1 => ?_) (fun v S1 hbig => ?_))
   | refine .std ?_ | refine .nil ?_ | refine .seq ?_ | refine .region ?_ | refine .xs ?_ | refine .kb ?_ | refine .leaf ?_ | refine .block ?_ | refine .gn ?_ | refine .dr ?_ | fail
  · obtain ⟨⟨cs, hx1, hP⟩, k1⟩ := w1
    have ha1 : S1.h.find S.next = some (.box 3 [V.int .i64 0]) := by rw [k1.find S.next (by omega) (by omega) (by omega)]; exact hca
    have hb1 : S1.h.find (S.next + 1) = some (.box 36 [V.int .i64 0]) := by rw [k1.find (S.next + 1) (by omega) (by omega) (by omega)]; exact hcb
    have hb2 : ({ S1 with h := S1.h.put S.next (.box 3 [V.int .i64 0]) } : St).h.find (S.next + 1) = some (.box 36 [V.int .i64 0]) := by
      simp only [Tr.find_put]; rw [if_neg (by omega)]; exact hb1
    repeat' first
     | refine Opl.eff (op_store (S' := { S1 with h := S1.h.put S.next (.box 3 [V.int .i64 0]) }) rfl rfl (st_one ha1 rfl rfl)) ?_
     | refine Opl.eff (op_store rfl rfl (st_one hb2 rfl rfl)) ?_
     | refine .std ?_ | refine .nil ?_ | refine .seq ?_ | refine .region ?_ | refine .xs ?_ | refine .kb ?_ | refine .leaf ?_ | refine .block ?_ | refine .gn ?_ | refine .dr ?_ | fail
    have hq := caughtQuiet S.next (S.next + 1) { S1 with h := (S1.h.put S.next (.box 3 [V.int .i64 0])).put (S.next + 1) (.box 36 [V.int .i64 0]) }
    refine At.lret (rs := [.cell 2 3, .cell 3 36]) rfl rfl hq ?_
    rintro p S' ⟨rfl, rfl⟩
    have hn1 := k1.next
    refine ⟨rfl, [.int .i64 0, .int .i64 0], resV2 (i := S.next) (j := S.next + 1) rfl rfl (ld_box1 (e := 3) (cs := []) (by simp [Tr.find_put])) (ld_box1 (e := 36) (cs := []) (by simp [Tr.find_put])), ⟨by show S.next ≤ S1.next; omega, fun id i1 i2 i3 => ?_⟩, .inl ⟨rfl, cs, ?_, hP⟩⟩
    · simp only [Tr.find_put]
      rw [if_neg (by omega), if_neg (by omega), k1.find id (by omega) i2 i3, hs0.find id i1]
    · simp only [Tr.find_put]
      rw [if_neg (by omega), if_neg (by omega)]
      exact hx1
  · skip
    repeat' first | refine .std ?_ | refine .nil ?_ | refine .seq ?_ | refine .region ?_ | refine .xs ?_ | refine .kb ?_ | refine .leaf ?_ | refine .block ?_ | refine .gn ?_ | refine .dr ?_ | fail
    obtain ⟨b, hB, rfl, k1⟩ := hbig
    have ha1 : S1.h.find S.next = some (.box 3 [V.int .i64 0]) := by rw [k1.find S.next (by omega) (by omega) (by omega)]; exact hca
    have hb1 : S1.h.find (S.next + 1) = some (.box 36 [V.int .i64 0]) := by rw [k1.find (S.next + 1) (by omega) (by omega) (by omega)]; exact hcb
    have hn1 := k1.next
    refine At.lpan (rs := [.cell 2 3, .cell 3 36]) rfl rfl (caughtMal S.next (S.next + 1) b S1 (by omega) (by omega) (by omega) ha1 hb1) ?_
    rintro p S' ⟨hw, hn, hfa, hfb, hk⟩
    refine ⟨hw, [.int .i64 b, .int .i64 11], resV2 rfl rfl (ld_box1 hfa) (ld_box1 hfb), ⟨by omega, fun id i1 i2 i3 => ?_⟩, .inr ⟨b, hB, rfl⟩⟩
    rw [hk id (by omega) (by omega) (by omega), k1.find id (by omega) i2 i3, hs0.find id i1]
theorem doR62 {S : St} {c e q x : Nat} {s : List UInt8} {k : Nat} (h1 : S.h.find e = some (.box 98 [.func 48 [] []])) (h2 : S.h.find q = some (.box 102 [.ptr c 0])) (hqc : q ≠ c) (hqx : q ≠ x) (hq : q < S.next)
    (h : CodR S c s 8) (hxc : x ≠ c) (hx : x < S.next) (hk : s.length ≤ k) (hz : S.h.find x = some (.box 62 (zc 2))) :
    CallTo Tryz.prog 104 [.ptr e 0, .ptr q 0, .ptr x 0] S
      (fun _ S' => (∃ cs, S'.h.find x = some (.box 62 cs) ∧ (bodyE s k 2 = none ∧ cs.length = szs 2 ∧ Enc (sch 2) cs (slc s 8 s.length))) ∧ Keep2 S S' c x)
      (fun v S' => ∃ b, bodyE s k 2 = some b ∧ v = malV b ∧ Keep2 S S' c x) := by
  refine CallTo.of (n := 26) Tryz.func104 rfl rfl ?_
  have hc := (dAll s k 2 (by decide)).h h (off := 0) (L := []) (R := []) rfl hxc hx (by have := h.le; omega) (by simpa using hz)
  repeat' first
   | refine Opl.val (op_load rfl (ld_box1 h1)) rfl ?_
   | refine Opl.val (op_load rfl (ld_box1 h2)) rfl ?_
   | refine Opl.call rfl (by kernel_rfl) hc rfl (fun v S1 w1 => ?_) (fun v S1 w1 => ?_)
   | refine .std ?_ | refine .nil ?_ | refine .seq ?_ | refine .region ?_ | refine .xs ?_ | refine .kb ?_ | refine .leaf ?_ | refine .block ?_ | refine .gn ?_ | refine .dr ?_ | fail
  · obtain ⟨j, cs, hsc, h3, hb3, hcl, henc, hlt, k3⟩ := w1
    rw [scanF_sub] at hsc
    simp only [List.nil_append, List.append_nil] at hb3
    have h23 : S1.h.find q = some (.box 102 [.ptr c 0]) := by rw [k3.find q hq hqc hqx]; exact h2
    have hpt := h3.pt
    have hle := h3.le
    by_cases hj : j < s.length
    · have e1 : intOp .lss .i64 (j : Int) (s.length : Int) = some (.bool true) := lss_i (decide_eq_true (by omega))
      repeat' first
       | refine Opl.val (op_load rfl (ld_box1 h23)) rfl ?_
       | refine Opl.val (op_int rfl rfl rfl e1) rfl ?_
       | refine Go.condT rfl ?_
       | refine Opl.val (op_build1 rfl (bMal _)) rfl ?_
       | refine Opl.panic rfl ?_
       | refine .std ?_ | refine .nil ?_ | refine .seq ?_ | refine .region ?_ | refine .xs ?_ | refine .kb ?_ | refine .leaf ?_ | refine .block ?_ | refine .gn ?_ | refine .dr ?_ | fail
      refine At.fnp rfl ⟨s.length, ?_, rfl, k3⟩
      unfold bodyE; rw [hsc]; exact if_pos hj
    · have e1 : intOp .lss .i64 (j : Int) (s.length : Int) = some (.bool false) := lss_i (decide_eq_false (by omega))
      repeat' first
       | refine Opl.val (op_load rfl (ld_box1 h23)) rfl ?_
       | refine Opl.val (op_int rfl rfl rfl e1) rfl ?_
       | refine Go.condF rfl ?_
       | refine .std ?_ | refine .nil ?_ | refine .seq ?_ | refine .region ?_ | refine .xs ?_ | refine .kb ?_ | refine .leaf ?_ | refine .block ?_ | refine .gn ?_ | refine .dr ?_ | fail
      have hjl : j = s.length := by omega
      subst hjl
      refine At.fn rfl rfl rfl ⟨⟨cs, hb3, ?_, by rw [hcl, zc_len], henc.unsub⟩, k3⟩
      unfold bodyE; rw [hsc]; exact if_neg hj
  · obtain ⟨b, hsc, rfl, k3⟩ := w1
    rw [scanF_sub] at hsc
    exact At.fnp rfl ⟨b, by unfold bodyE; rw [hsc], rfl, k3⟩
set_option maxHeartbeats 1000000 in
theorem read62 (f : List UInt8) (k : UInt8) (S : St) :
    CallTo Tryz.prog 47 [.str f, .int .u8 k.toNat, .func 48 [] []] S (fun v S' => RdV f k 2 v ∧ Same S S') (fun _ _ => False) := by
  refine CallTo.of (n := 42) Tryz.func47 rfl rfl ?_
  obtain ⟨S1, hS1⟩ : ∃ S1, S1 = (S.new (.box 98 [.func 48 [] []])).new (.box 62 (zc 2)) := ⟨_, rfl⟩
  have hs1 : Same S S1 := by rw [hS1]; exact (Same.new _ _).trans (Same.new _ _)
  have hn1 : S1.next = S.next + 2 := by rw [hS1]; rfl
  have g0 : S1.h.find S.next = some (.box 98 [.func 48 [] []]) := by rw [hS1]; simp [St.new, Tr.find_put]
  have g1 : S1.h.find (S.next + 1) = some (.box 62 (zc 2)) := by rw [hS1]; simp [St.new, Tr.find_put]
  have lay : ∀ (U : St) (cs ds : List V), S.next + 1 < U.next → U.h.find (S.next + 1) = some (.box 62 ds) → ds.length = szs 2 → cs.length = szs 2 → cs.all V.one = true → ∃ W : St, storeE Tryz.prog 62 (.ptr (S.next + 1) 0) (.agg cs) U = some W ∧ W.h.find (S.next + 1) = some (.box 62 cs) ∧ W.next = U.next ∧ ∀ id, id ≠ S.next + 1 → W.h.find id = U.h.find id := by
    intro U cs ds hU hb hd hcl ho
    refine ⟨_, st_agg (cs' := cs) hb hcl ho ?_, by simp [Tr.find_put], rfl, fun id hi => by simp only [Tr.find_put, if_neg hi]⟩
    unfold splice
    rw [if_pos (Nat.ble_eq_true_of_le (by omega))]
    simp [hd, hcl]
  have res : ∀ (E : Env) (U : St) (cs : List V) (a b : V), Env.get E 6 = some (.ptr (S.next + 1) 0) → Env.get E 7 = some a → Env.get E 8 = some b → U.h.find (S.next + 1) = some (.box 62 cs) → cs.length = szs 2 → resV Tryz.prog E U [.cell 6 62, .tmp 7, .tmp 8] = some [.agg cs, a, b] := by
    intro E U cs a b e1 e2 e3 hb hcl
    have hld : loadE Tryz.prog 62 (.ptr (S.next + 1) 0) U = some (.agg cs) := ld_agg (cs := cs) ⟨_, _, hb, fun i v h => by simpa using h⟩ hcl
    simp only [resV, e1, e2, e3, hld]
  have hz0 : (zc 2).length = szs 2 := zc_len 2
  have hld : ∀ U : St, U.h.find (S.next + 1) = some (.box 62 (zc 2)) → loadE Tryz.prog 62 (.ptr (S.next + 1) 0) U = some (.agg (zc 2)) := fun U hb => ld_agg (cs := zc 2) ⟨_, _, hb, fun i v h => by simpa using h⟩ rfl
  by_cases hbig : 100000 < f.length
  · have e1 : intOp .gtr .i64 (f.length : Int) 100000 = some (.bool true) := gtr_i (decide_eq_true (by omega))
    obtain ⟨W, hst, hW1, hW2, hW3⟩ := lay S1 (zc 2) (zc 2) (by omega) g1 hz0 hz0 rfl
    repeat' first
     | refine Opl.val (op_box rfl) rfl ?_
     | refine Opl.val op_alloc rfl ?_
     | refine Opl.val (op_int rfl rfl rfl e1) rfl ?_
     | refine Go.condT rfl ?_
     | refine Opl.cast (S' := S1) (Opl.val (op_load rfl (hld S1 g1)) rfl ?_) hS1
     | refine Opl.eff (op_store rfl rfl hst) ?_
     | refine .std ?_ | refine .nil ?_ | refine .seq ?_ | refine .region ?_ | refine .xs ?_ | refine .kb ?_ | refine .leaf ?_ | refine .block ?_ | refine .gn ?_ | refine .dr ?_ | fail
    refine At.fnr rfl rfl (res _ _ _ _ _ rfl rfl rfl hW1 hz0) ⟨?_, ?_⟩
    · unfold RdV rdOut; rw [if_pos hbig]; rfl
    · exact ⟨by omega, fun id hi => by rw [hW3 id (by omega), hs1.find id hi]⟩
  · have e1 : intOp .gtr .i64 (f.length : Int) 100000 = some (.bool false) := gtr_i (decide_eq_false (by omega))
    have hout := outside f k (by omega) S1
    repeat' first
     | refine Opl.val (op_box rfl) rfl ?_
     | refine Opl.val op_alloc rfl ?_
     | refine Opl.val (op_int rfl rfl rfl e1) rfl ?_
     | refine Go.condF rfl ?_
     | refine Opl.cast (S' := S1) (Opl.callv rfl (by kernel_rfl) hout rfl (fun S2 s2 => ?_) (fun _ _ hf => hf.elim)) hS1
     | refine .std ?_ | refine .nil ?_ | refine .seq ?_ | refine .region ?_ | refine .xs ?_ | refine .kb ?_ | refine .leaf ?_ | refine .block ?_ | refine .gn ?_ | refine .dr ?_ | fail
    have hn2 := s2.next
    have q0 : S2.h.find S.next = some (.box 98 [.func 48 [] []]) := by rw [s2.find S.next (by omega)]; exact g0
    have q1 : S2.h.find (S.next + 1) = some (.box 62 (zc 2)) := by rw [s2.find (S.next + 1) (by omega)]; exact g1
    cases ho : outP f k with
    | some i =>
      have e2 : intOp .geq .i64 (i : Int) 0 = some (.bool true) := geq_i (decide_eq_true (by omega))
      obtain ⟨W, hst, hW1, hW2, hW3⟩ := lay S2 (zc 2) (zc 2) (by omega) q1 hz0 hz0 rfl
      simp only [outV]
      repeat' first
       | refine Opl.val (op_int rfl rfl rfl e2) rfl ?_
       | refine Go.condT rfl ?_
       | refine Opl.val (op_load rfl (hld S2 q1)) rfl ?_
       | refine Opl.eff (op_store rfl rfl hst) ?_
       | refine .std ?_ | refine .nil ?_ | refine .seq ?_ | refine .region ?_ | refine .xs ?_ | refine .kb ?_ | refine .leaf ?_ | refine .block ?_ | refine .gn ?_ | refine .dr ?_ | fail
      refine At.fnr rfl rfl (res _ _ _ _ _ rfl rfl rfl hW1 hz0) ⟨?_, ?_⟩
      · unfold RdV rdOut; rw [if_neg hbig, ho]; rfl
      · exact ⟨by omega, fun id hi => by rw [hW3 id (by omega), s2.find id (by omega), hs1.find id hi]⟩
    | none =>
      have h12 := outP_len ho
      have e2 : intOp .geq .i64 (-1 : Int) 0 = some (.bool false) := geq_i rfl
      have e3 : intOp .sub .i64 (f.length : Int) 4 = some (.int .i64 ((f.length - 4 : Nat) : Int)) := by
        simp only [intOp]; rw [wrap_i64_id (by constructor <;> omega)]; congr 2; omega
      obtain ⟨s, hs⟩ : ∃ s, s = f.take (f.length - 4) := ⟨_, rfl⟩
      have hsl : s.length = f.length - 4 := by rw [hs]; simp
      have hb1 : buildE Tryz.prog 107 [(1, .str s), (2, .int .i64 8)] = some (.agg [.nilp, .nils, .str s, .int .i64 8]) := by kernel_rfl
      have hb2 : buildE Tryz.prog 109 [(0, .agg [.nilp, .nils, .str s, .int .i64 8]), (1, .bool true)] = some (.agg [.nilp, .nils, .str s, .int .i64 8, .bool true]) := by kernel_rfl
      obtain ⟨S3, hS3⟩ : ∃ S3, S3 = ((S2.new (.box 62 (zc 2))).new (.box 109 [.nilp, .nils, .str s, .int .i64 8, .bool true])).new (.box 102 [.nilp]) := ⟨_, rfl⟩
      have hf3 : S3.h.find (S2.next + 2) = some (.box 102 [.nilp]) := by rw [hS3]; simp [St.new, Tr.find_put]
      obtain ⟨S4, hS4⟩ : ∃ S4 : St, S4 = { S3 with h := S3.h.put (S2.next + 2) (.box 102 [.ptr (S2.next + 1) 0]) } := ⟨_, rfl⟩
      have hst : storeE Tryz.prog 102 (.ptr (S2.next + 2) 0) (.ptr (S2.next + 1) 0) S3 = some S4 := by rw [hS4]; exact st_one hf3 rfl rfl
      have s4 : Same S2 S4 := by
        rw [hS4, hS3]
        exact (((Same.new _ _).trans (Same.new _ _)).trans (Same.new _ _)).put (by omega) _
      have hn4 : S4.next = S2.next + 3 := by rw [hS4, hS3]; rfl
      have p0 : S4.h.find S2.next = some (.box 62 (zc 2)) := by rw [hS4, hS3]; simp [St.new, Tr.find_put]; omega
      have p1 : S4.h.find (S2.next + 1) = some (.box 109 [.nilp, .nils, .str s, .int .i64 8, .bool true]) := by rw [hS4, hS3]; simp [St.new, Tr.find_put]
      have p2 : S4.h.find (S2.next + 2) = some (.box 102 [.ptr (S2.next + 1) 0]) := by rw [hS4]; simp [Tr.find_put]
      have p3 : S4.h.find S.next = some (.box 98 [.func 48 [] []]) := by rw [s4.find S.next (by omega)]; exact q0
      have p4 : S4.h.find (S.next + 1) = some (.box 62 (zc 2)) := by rw [s4.find (S.next + 1) (by omega)]; exact q1
      have h4 : CodR S4 (S2.next + 1) s 8 := ⟨by omega, by omega, by omega, p1⟩
      have hcau := caughtR (g := 104) (by kernel_rfl) (caps := [.ptr S.next 0, .ptr (S2.next + 2) 0, .ptr S2.next 0]) (S := S4) (c := S2.next + 1) (x := S2.next) (T := 62) (by omega) (by omega)
        (P := fun cs => bodyE s (f.length + 1) 2 = none ∧ cs.length = szs 2 ∧ Enc (sch 2) cs (slc s 8 s.length)) (B := fun b => bodyE s (f.length + 1) 2 = some b) fun S0 k0 =>
        doR62 (c := S2.next + 1) (s := s) (k := f.length + 1) (by rw [k0.find _ (by omega)]; exact p3) (by rw [k0.find _ (by omega)]; exact p2) (by omega) (by omega) (by have := k0.next; omega)
          (h4.ofBox k0.next fun t cs hb => by rw [k0.find _ (by omega)]; exact hb) (by omega) (by have := k0.next; omega) (by omega) (by rw [k0.find _ (by omega)]; exact p0)
      simp only [outV]
      repeat' first
       | refine Opl.val (op_int rfl rfl rfl e2) rfl ?_
       | refine Opl.val (op_int rfl rfl rfl e3) rfl ?_
       | refine Go.condF rfl ?_
       | refine Opl.val op_alloc rfl ?_
       | (refine Opl.val (op_slcHi rfl rfl (Nat.sub_le _ _)) rfl ?_; rw [← hs])
       | refine Opl.val (op_bd2 rfl rfl hb1) rfl ?_
       | refine Opl.val (op_bd2 rfl rfl hb2) rfl ?_
       | refine Opl.val (op_box rfl) rfl ?_
       | refine Opl.cast (S' := S3) (Opl.eff (op_store rfl rfl hst) ?_) hS3
       | refine Opl.call rfl (by kernel_rfl) hcau rfl (fun v S6 ⟨k6, hv⟩ => ?_) (fun _ _ hf => hf.elim)
       | refine .std ?_ | refine .nil ?_ | refine .seq ?_ | refine .region ?_ | refine .xs ?_ | refine .kb ?_ | refine .leaf ?_ | refine .block ?_ | refine .gn ?_ | refine .dr ?_ | fail
      have hn6 := k6.next
      have r4 : S6.h.find (S.next + 1) = some (.box 62 (zc 2)) := by rw [k6.find _ (by omega) (by omega) (by omega)]; exact p4
      have hrd := rdOut_body (t := 2) (by omega) ho
      rw [← hs] at hrd
      rcases hv with ⟨rfl, cs, hx6, hbn, hcl, henc⟩ | ⟨b, hB, rfl⟩
      · obtain ⟨W, hst7, hW1, hW2, hW3⟩ := lay S6 cs (zc 2) (by omega) r4 hz0 hcl henc.ones
        have hldx : loadE Tryz.prog 62 (.ptr S2.next 0) S6 = some (.agg cs) := ld_agg (cs := cs) ⟨_, _, hx6, fun i v h => by simpa using h⟩ hcl
        have e5 : intOp .neq .i64 0 0 = some (.bool false) := rfl
        repeat' first
         | refine Opl.val (op_int rfl rfl rfl e5) rfl ?_
         | refine Go.condF rfl ?_
         | refine Opl.val (op_load rfl hldx) rfl ?_
         | refine Opl.eff (op_store rfl rfl hst7) ?_
         | refine .std ?_ | refine .nil ?_ | refine .seq ?_ | refine .region ?_ | refine .xs ?_ | refine .kb ?_ | refine .leaf ?_ | refine .block ?_ | refine .gn ?_ | refine .dr ?_ | fail
        refine At.fnr rfl rfl (res _ _ _ _ _ rfl rfl rfl hW1 hcl) ⟨?_, ?_⟩
        · unfold RdV; rw [hrd, hbn]
          refine ⟨cs, rfl, hcl, ?_⟩
          rw [hs] at henc
          rw [hs] at hsl
          rw [hsl, slc_take (Nat.le_refl _)] at henc
          exact henc
        · exact ⟨by omega, fun id hi => by rw [hW3 id (by omega), k6.find id (by omega) (by omega) (by omega), s4.find id (by omega), s2.find id (by omega), hs1.find id hi]⟩
      · obtain ⟨W, hst7, hW1, hW2, hW3⟩ := lay S6 (zc 2) (zc 2) (by omega) r4 hz0 hz0 rfl
        have e5 : intOp .neq .i64 11 0 = some (.bool true) := rfl
        repeat' first
         | refine Opl.val (op_int rfl rfl rfl e5) rfl ?_
         | refine Go.condT rfl ?_
         | refine Opl.val (op_load rfl (hld S6 r4)) rfl ?_
         | refine Opl.eff (op_store rfl rfl hst7) ?_
         | refine .std ?_ | refine .nil ?_ | refine .seq ?_ | refine .region ?_ | refine .xs ?_ | refine .kb ?_ | refine .leaf ?_ | refine .block ?_ | refine .gn ?_ | refine .dr ?_ | fail
        refine At.fnr rfl rfl (res _ _ _ _ _ rfl rfl rfl hW1 hz0) ⟨?_, ?_⟩
        · unfold RdV; rw [hrd, hB]; rfl
        · exact ⟨by omega, fun id hi => by rw [hW3 id (by omega), k6.find id (by omega) (by omega) (by omega), s4.find id (by omega), s2.find id (by omega), hs1.find id hi]⟩
theorem doR55 {S : St} {c e q x : Nat} {s : List UInt8} {k : Nat} (h1 : S.h.find e = some (.box 95 [.func 44 [] []])) (h2 : S.h.find q = some (.box 102 [.ptr c 0])) (hqc : q ≠ c) (hqx : q ≠ x) (hq : q < S.next)
    (h : CodR S c s 8) (hxc : x ≠ c) (hx : x < S.next) (hk : s.length ≤ k) (hz : S.h.find x = some (.box 55 (zc 20))) :
    CallTo Tryz.prog 95 [.ptr e 0, .ptr q 0, .ptr x 0] S
      (fun _ S' => (∃ cs, S'.h.find x = some (.box 55 cs) ∧ (bodyE s k 20 = none ∧ cs.length = szs 20 ∧ Enc (sch 20) cs (slc s 8 s.length))) ∧ Keep2 S S' c x)
      (fun v S' => ∃ b, bodyE s k 20 = some b ∧ v = malV b ∧ Keep2 S S' c x) := by
  refine CallTo.of (n := 26) Tryz.func95 rfl rfl ?_
  have hc := (dAll s k 20 (by decide)).h h (off := 0) (L := []) (R := []) rfl hxc hx (by have := h.le; omega) (by simpa using hz)
  repeat' first
   | refine Opl.val (op_load rfl (ld_box1 h1)) rfl ?_
   | refine Opl.val (op_load rfl (ld_box1 h2)) rfl ?_
   | refine Opl.call rfl (by kernel_rfl) hc rfl (fun v S1 w1 => ?_) (fun v S1 w1 => ?_)
   | refine .std ?_ | refine .nil ?_ | refine .seq ?_ | refine .region ?_ | refine .xs ?_ | refine .kb ?_ | refine .leaf ?_ | refine .block ?_ | refine .gn ?_ | refine .dr ?_ | fail
  · obtain ⟨j, cs, hsc, h3, hb3, hcl, henc, hlt, k3⟩ := w1
    rw [scanF_sub] at hsc
    simp only [List.nil_append, List.append_nil] at hb3
    have h23 : S1.h.find q = some (.box 102 [.ptr c 0]) := by rw [k3.find q hq hqc hqx]; exact h2
    have hpt := h3.pt
    have hle := h3.le
    by_cases hj : j < s.length
    · have e1 : intOp .lss .i64 (j : Int) (s.length : Int) = some (.bool true) := lss_i (decide_eq_true (by omega))
      repeat' first
       | refine Opl.val (op_load rfl (ld_box1 h23)) rfl ?_
       | refine Opl.val (op_int rfl rfl rfl e1) rfl ?_
       | refine Go.condT rfl ?_
       | refine Opl.val (op_build1 rfl (bMal _)) rfl ?_
       | refine Opl.panic rfl ?_
       | refine .std ?_ | refine .nil ?_ | refine .seq ?_ | refine .region ?_ | refine .xs ?_ | refine .kb ?_ | refine .leaf ?_ | refine .block ?_ | refine .gn ?_ | refine .dr ?_ | fail
      refine At.fnp rfl ⟨s.length, ?_, rfl, k3⟩
      unfold bodyE; rw [hsc]; exact if_pos hj
    · have e1 : intOp .lss .i64 (j : Int) (s.length : Int) = some (.bool false) := lss_i (decide_eq_false (by omega))
      repeat' first
       | refine Opl.val (op_load rfl (ld_box1 h23)) rfl ?_
       | refine Opl.val (op_int rfl rfl rfl e1) rfl ?_
       | refine Go.condF rfl ?_
       | refine .std ?_ | refine .nil ?_ | refine .seq ?_ | refine .region ?_ | refine .xs ?_ | refine .kb ?_ | refine .leaf ?_ | refine .block ?_ | refine .gn ?_ | refine .dr ?_ | fail
      have hjl : j = s.length := by omega
      subst hjl
      refine At.fn rfl rfl rfl ⟨⟨cs, hb3, ?_, by rw [hcl, zc_len], henc.unsub⟩, k3⟩
      unfold bodyE; rw [hsc]; exact if_neg hj
  · obtain ⟨b, hsc, rfl, k3⟩ := w1
    rw [scanF_sub] at hsc
    exact At.fnp rfl ⟨b, by unfold bodyE; rw [hsc], rfl, k3⟩
set_option maxHeartbeats 1000000 in
theorem read55 (f : List UInt8) (k : UInt8) (S : St) :
    CallTo Tryz.prog 43 [.str f, .int .u8 k.toNat, .func 44 [] []] S (fun v S' => RdV f k 20 v ∧ Same S S') (fun _ _ => False) := by
  refine CallTo.of (n := 42) Tryz.func43 rfl rfl ?_
  obtain ⟨S1, hS1⟩ : ∃ S1, S1 = (S.new (.box 95 [.func 44 [] []])).new (.box 55 (zc 20)) := ⟨_, rfl⟩
  have hs1 : Same S S1 := by rw [hS1]; exact (Same.new _ _).trans (Same.new _ _)
  have hn1 : S1.next = S.next + 2 := by rw [hS1]; rfl
  have g0 : S1.h.find S.next = some (.box 95 [.func 44 [] []]) := by rw [hS1]; simp [St.new, Tr.find_put]
  have g1 : S1.h.find (S.next + 1) = some (.box 55 (zc 20)) := by rw [hS1]; simp [St.new, Tr.find_put]
  have lay : ∀ (U : St) (cs ds : List V), S.next + 1 < U.next → U.h.find (S.next + 1) = some (.box 55 ds) → ds.length = szs 20 → cs.length = szs 20 → cs.all V.one = true → ∃ W : St, storeE Tryz.prog 55 (.ptr (S.next + 1) 0) (.agg cs) U = some W ∧ W.h.find (S.next + 1) = some (.box 55 cs) ∧ W.next = U.next ∧ ∀ id, id ≠ S.next + 1 → W.h.find id = U.h.find id := by
    intro U cs ds hU hb hd hcl ho
    refine ⟨_, st_agg (cs' := cs) hb hcl ho ?_, by simp [Tr.find_put], rfl, fun id hi => by simp only [Tr.find_put, if_neg hi]⟩
    unfold splice
    rw [if_pos (Nat.ble_eq_true_of_le (by omega))]
    simp [hd, hcl]
  have res : ∀ (E : Env) (U : St) (cs : List V) (a b : V), Env.get E 6 = some (.ptr (S.next + 1) 0) → Env.get E 7 = some a → Env.get E 8 = some b → U.h.find (S.next + 1) = some (.box 55 cs) → cs.length = szs 20 → resV Tryz.prog E U [.cell 6 55, .tmp 7, .tmp 8] = some [.agg cs, a, b] := by
    intro E U cs a b e1 e2 e3 hb hcl
    have hld : loadE Tryz.prog 55 (.ptr (S.next + 1) 0) U = some (.agg cs) := ld_agg (cs := cs) ⟨_, _, hb, fun i v h => by simpa using h⟩ hcl
    simp only [resV, e1, e2, e3, hld]
  have hz0 : (zc 20).length = szs 20 := zc_len 20
  have hld : ∀ U : St, U.h.find (S.next + 1) = some (.box 55 (zc 20)) → loadE Tryz.prog 55 (.ptr (S.next + 1) 0) U = some (.agg (zc 20)) := fun U hb => ld_agg (cs := zc 20) ⟨_, _, hb, fun i v h => by simpa using h⟩ rfl
  by_cases hbig : 100000 < f.length
  · have e1 : intOp .gtr .i64 (f.length : Int) 100000 = some (.bool true) := gtr_i (decide_eq_true (by omega))
    obtain ⟨W, hst, hW1, hW2, hW3⟩ := lay S1 (zc 20) (zc 20) (by omega) g1 hz0 hz0 rfl
    repeat' first
     | refine Opl.val (op_box rfl) rfl ?_
     | refine Opl.val op_alloc rfl ?_
     | refine Opl.val (op_int rfl rfl rfl e1) rfl ?_
     | refine Go.condT rfl ?_
     | refine Opl.cast (S' := S1) (Opl.val (op_load rfl (hld S1 g1)) rfl ?_) hS1
     | refine Opl.eff (op_store rfl rfl hst) ?_
     | refine .std ?_ | refine .nil ?_ | refine .seq ?_ | refine .region ?_ | refine .xs ?_ | refine .kb ?_ | refine .leaf ?_ | refine .block ?_ | refine .gn ?_ | refine .dr ?_ | fail
    refine At.fnr rfl rfl (res _ _ _ _ _ rfl rfl rfl hW1 hz0) ⟨?_, ?_⟩
    · unfold RdV rdOut; rw [if_pos hbig]; rfl
    · exact ⟨by omega, fun id hi => by rw [hW3 id (by omega), hs1.find id hi]⟩
  · have e1 : intOp .gtr .i64 (f.length : Int) 100000 = some (.bool false) := gtr_i (decide_eq_false (by omega))
    have hout := outside f k (by omega) S1
    repeat' first
     | refine Opl.val (op_box rfl) rfl ?_
     | refine Opl.val op_alloc rfl ?_
     | refine Opl.val (op_int rfl rfl rfl e1) rfl ?_
     | refine Go.condF rfl ?_
     | refine Opl.cast (S' := S1) (Opl.callv rfl (by kernel_rfl) hout rfl (fun S2 s2 => ?_) (fun _ _ hf => hf.elim)) hS1
     | refine .std ?_ | refine .nil ?_ | refine .seq ?_ | refine .region ?_ | refine .xs ?_ | refine .kb ?_ | refine .leaf ?_ | refine .block ?_ | refine .gn ?_ | refine .dr ?_ | fail
    have hn2 := s2.next
    have q0 : S2.h.find S.next = some (.box 95 [.func 44 [] []]) := by rw [s2.find S.next (by omega)]; exact g0
    have q1 : S2.h.find (S.next + 1) = some (.box 55 (zc 20)) := by rw [s2.find (S.next + 1) (by omega)]; exact g1
    cases ho : outP f k with
    | some i =>
      have e2 : intOp .geq .i64 (i : Int) 0 = some (.bool true) := geq_i (decide_eq_true (by omega))
      obtain ⟨W, hst, hW1, hW2, hW3⟩ := lay S2 (zc 20) (zc 20) (by omega) q1 hz0 hz0 rfl
      simp only [outV]
      repeat' first
       | refine Opl.val (op_int rfl rfl rfl e2) rfl ?_
       | refine Go.condT rfl ?_
       | refine Opl.val (op_load rfl (hld S2 q1)) rfl ?_
       | refine Opl.eff (op_store rfl rfl hst) ?_
       | refine .std ?_ | refine .nil ?_ | refine .seq ?_ | refine .region ?_ | refine .xs ?_ | refine .kb ?_ | refine .leaf ?_ | refine .block ?_ | refine .gn ?_ | refine .dr ?_ | fail
      refine At.fnr rfl rfl (res _ _ _ _ _ rfl rfl rfl hW1 hz0) ⟨?_, ?_⟩
      · unfold RdV rdOut; rw [if_neg hbig, ho]; rfl
      · exact ⟨by omega, fun id hi => by rw [hW3 id (by omega), s2.find id (by omega), hs1.find id hi]⟩
    | none =>
      have h12 := outP_len ho
      have e2 : intOp .geq .i64 (-1 : Int) 0 = some (.bool false) := geq_i rfl
      have e3 : intOp .sub .i64 (f.length : Int) 4 = some (.int .i64 ((f.length - 4 : Nat) : Int)) := by
        simp only [intOp]; rw [wrap_i64_id (by constructor <;> omega)]; congr 2; omega
      obtain ⟨s, hs⟩ : ∃ s, s = f.take (f.length - 4) := ⟨_, rfl⟩
      have hsl : s.length = f.length - 4 := by rw [hs]; simp
      have hb1 : buildE Tryz.prog 107 [(1, .str s), (2, .int .i64 8)] = some (.agg [.nilp, .nils, .str s, .int .i64 8]) := by kernel_rfl
      have hb2 : buildE Tryz.prog 109 [(0, .agg [.nilp, .nils, .str s, .int .i64 8]), (1, .bool true)] = some (.agg [.nilp, .nils, .str s, .int .i64 8, .bool true]) := by kernel_rfl
      obtain ⟨S3, hS3⟩ : ∃ S3, S3 = ((S2.new (.box 55 (zc 20))).new (.box 109 [.nilp, .nils, .str s, .int .i64 8, .bool true])).new (.box 102 [.nilp]) := ⟨_, rfl⟩
      have hf3 : S3.h.find (S2.next + 2) = some (.box 102 [.nilp]) := by rw [hS3]; simp [St.new, Tr.find_put]
      obtain ⟨S4, hS4⟩ : ∃ S4 : St, S4 = { S3 with h := S3.h.put (S2.next + 2) (.box 102 [.ptr (S2.next + 1) 0]) } := ⟨_, rfl⟩
      have hst : storeE Tryz.prog 102 (.ptr (S2.next + 2) 0) (.ptr (S2.next + 1) 0) S3 = some S4 := by rw [hS4]; exact st_one hf3 rfl rfl
      have s4 : Same S2 S4 := by
        rw [hS4, hS3]
        exact (((Same.new _ _).trans (Same.new _ _)).trans (Same.new _ _)).put (by omega) _
      have hn4 : S4.next = S2.next + 3 := by rw [hS4, hS3]; rfl
      have p0 : S4.h.find S2.next = some (.box 55 (zc 20)) := by rw [hS4, hS3]; simp [St.new, Tr.find_put]; omega
      have p1 : S4.h.find (S2.next + 1) = some (.box 109 [.nilp, .nils, .str s, .int .i64 8, .bool true]) := by rw [hS4, hS3]; simp [St.new, Tr.find_put]
      have p2 : S4.h.find (S2.next + 2) = some (.box 102 [.ptr (S2.next + 1) 0]) := by rw [hS4]; simp [Tr.find_put]
      have p3 : S4.h.find S.next = some (.box 95 [.func 44 [] []]) := by rw [s4.find S.next (by omega)]; exact q0
      have p4 : S4.h.find (S.next + 1) = some (.box 55 (zc 20)) := by rw [s4.find (S.next + 1) (by omega)]; exact q1
      have h4 : CodR S4 (S2.next + 1) s 8 := ⟨by omega, by omega, by omega, p1⟩
      have hcau := caughtR (g := 95) (by kernel_rfl) (caps := [.ptr S.next 0, .ptr (S2.next + 2) 0, .ptr S2.next 0]) (S := S4) (c := S2.next + 1) (x := S2.next) (T := 55) (by omega) (by omega)
        (P := fun cs => bodyE s (f.length + 1) 20 = none ∧ cs.length = szs 20 ∧ Enc (sch 20) cs (slc s 8 s.length)) (B := fun b => bodyE s (f.length + 1) 20 = some b) fun S0 k0 =>
        doR55 (c := S2.next + 1) (s := s) (k := f.length + 1) (by rw [k0.find _ (by omega)]; exact p3) (by rw [k0.find _ (by omega)]; exact p2) (by omega) (by omega) (by have := k0.next; omega)
          (h4.ofBox k0.next fun t cs hb => by rw [k0.find _ (by omega)]; exact hb) (by omega) (by have := k0.next; omega) (by omega) (by rw [k0.find _ (by omega)]; exact p0)
      simp only [outV]
      repeat' first
       | refine Opl.val (op_int rfl rfl rfl e2) rfl ?_
       | refine Opl.val (op_int rfl rfl rfl e3) rfl ?_
       | refine Go.condF rfl ?_
       | refine Opl.val op_alloc rfl ?_
       | (refine Opl.val (op_slcHi rfl rfl (Nat.sub_le _ _)) rfl ?_; rw [← hs])
       | refine Opl.val (op_bd2 rfl rfl hb1) rfl ?_
       | refine Opl.val (op_bd2 rfl rfl hb2) rfl ?_
       | refine Opl.val (op_box rfl) rfl ?_
       | refine Opl.cast (S' := S3) (Opl.eff (op_store rfl rfl hst) ?_) hS3
       | refine Opl.call rfl (by kernel_rfl) hcau rfl (fun v S6 ⟨k6, hv⟩ => ?_) (fun _ _ hf => hf.elim)
       | refine .std ?_ | refine .nil ?_ | refine .seq ?_ | refine .region ?_ | refine .xs ?_ | refine .kb ?_ | refine .leaf ?_ | refine .block ?_ | refine .gn ?_ | refine .dr ?_ | fail
      have hn6 := k6.next
      have r4 : S6.h.find (S.next + 1) = some (.box 55 (zc 20)) := by rw [k6.find _ (by omega) (by omega) (by omega)]; exact p4
      have hrd := rdOut_body (t := 20) (by omega) ho
      rw [← hs] at hrd
      rcases hv with ⟨rfl, cs, hx6, hbn, hcl, henc⟩ | ⟨b, hB, rfl⟩
      · obtain ⟨W, hst7, hW1, hW2, hW3⟩ := lay S6 cs (zc 20) (by omega) r4 hz0 hcl henc.ones
        have hldx : loadE Tryz.prog 55 (.ptr S2.next 0) S6 = some (.agg cs) := ld_agg (cs := cs) ⟨_, _, hx6, fun i v h => by simpa using h⟩ hcl
        have e5 : intOp .neq .i64 0 0 = some (.bool false) := rfl
        repeat' first
         | refine Opl.val (op_int rfl rfl rfl e5) rfl ?_
         | refine Go.condF rfl ?_
         | refine Opl.val (op_load rfl hldx) rfl ?_
         | refine Opl.eff (op_store rfl rfl hst7) ?_
         | refine .std ?_ | refine .nil ?_ | refine .seq ?_ | refine .region ?_ | refine .xs ?_ | refine .kb ?_ | refine .leaf ?_ | refine .block ?_ | refine .gn ?_ | refine .dr ?_ | fail
        refine At.fnr rfl rfl (res _ _ _ _ _ rfl rfl rfl hW1 hcl) ⟨?_, ?_⟩
        · unfold RdV; rw [hrd, hbn]
          refine ⟨cs, rfl, hcl, ?_⟩
          rw [hs] at henc
          rw [hs] at hsl
          rw [hsl, slc_take (Nat.le_refl _)] at henc
          exact henc
        · exact ⟨by omega, fun id hi => by rw [hW3 id (by omega), k6.find id (by omega) (by omega) (by omega), s4.find id (by omega), s2.find id (by omega), hs1.find id hi]⟩
      · obtain ⟨W, hst7, hW1, hW2, hW3⟩ := lay S6 (zc 20) (zc 20) (by omega) r4 hz0 hz0 rfl
        have e5 : intOp .neq .i64 11 0 = some (.bool true) := rfl
        repeat' first
         | refine Opl.val (op_int rfl rfl rfl e5) rfl ?_
         | refine Go.condT rfl ?_
         | refine Opl.val (op_load rfl (hld S6 r4)) rfl ?_
         | refine Opl.eff (op_store rfl rfl hst7) ?_
         | refine .std ?_ | refine .nil ?_ | refine .seq ?_ | refine .region ?_ | refine .xs ?_ | refine .kb ?_ | refine .leaf ?_ | refine .block ?_ | refine .gn ?_ | refine .dr ?_ | fail
        refine At.fnr rfl rfl (res _ _ _ _ _ rfl rfl rfl hW1 hz0) ⟨?_, ?_⟩
        · unfold RdV; rw [hrd, hB]; rfl
        · exact ⟨by omega, fun id hi => by rw [hW3 id (by omega), k6.find id (by omega) (by omega) (by omega), s4.find id (by omega), s2.find id (by omega), hs1.find id hi]⟩
theorem doR32 {S : St} {c e q x : Nat} {s : List UInt8} {k : Nat} (h1 : S.h.find e = some (.box 71 [.func 26 [] []])) (h2 : S.h.find q = some (.box 102 [.ptr c 0])) (hqc : q ≠ c) (hqx : q ≠ x) (hq : q < S.next)
    (h : CodR S c s 8) (hxc : x ≠ c) (hx : x < S.next) (hk : s.length ≤ k) (hz : S.h.find x = some (.box 32 (zc 14))) :
    CallTo Tryz.prog 85 [.ptr e 0, .ptr q 0, .ptr x 0] S
      (fun _ S' => (∃ cs, S'.h.find x = some (.box 32 cs) ∧ (bodyE s k 14 = none ∧ cs.length = szs 14 ∧ Enc (sch 14) cs (slc s 8 s.length))) ∧ Keep2 S S' c x)
      (fun v S' => ∃ b, bodyE s k 14 = some b ∧ v = malV b ∧ Keep2 S S' c x) := by
  refine CallTo.of (n := 26) Tryz.func85 rfl rfl ?_
  have hc := (dAll s k 14 (by decide)).h h (off := 0) (L := []) (R := []) rfl hxc hx (by have := h.le; omega) (by simpa using hz)
  repeat' first
   | refine Opl.val (op_load rfl (ld_box1 h1)) rfl ?_
   | refine Opl.val (op_load rfl (ld_box1 h2)) rfl ?_
   | refine Opl.call rfl (by kernel_rfl) hc rfl (fun v S1 w1 => ?_) (fun v S1 w1 => ?_)
   | refine .std ?_ | refine .nil ?_ | refine .seq ?_ | refine .region ?_ | refine .xs ?_ | refine .kb ?_ | refine .leaf ?_ | refine .block ?_ | refine .gn ?_ | refine .dr ?_ | fail
  · obtain ⟨j, cs, hsc, h3, hb3, hcl, henc, hlt, k3⟩ := w1
    rw [scanF_sub] at hsc
    simp only [List.nil_append, List.append_nil] at hb3
    have h23 : S1.h.find q = some (.box 102 [.ptr c 0]) := by rw [k3.find q hq hqc hqx]; exact h2
    have hpt := h3.pt
    have hle := h3.le
    by_cases hj : j < s.length
    · have e1 : intOp .lss .i64 (j : Int) (s.length : Int) = some (.bool true) := lss_i (decide_eq_true (by omega))
      repeat' first
       | refine Opl.val (op_load rfl (ld_box1 h23)) rfl ?_
       | refine Opl.val (op_int rfl rfl rfl e1) rfl ?_
       | refine Go.condT rfl ?_
       | refine Opl.val (op_build1 rfl (bMal _)) rfl ?_
       | refine Opl.panic rfl ?_
       | refine .std ?_ | refine .nil ?_ | refine .seq ?_ | refine .region ?_ | refine .xs ?_ | refine .kb ?_ | refine .leaf ?_ | refine .block ?_ | refine .gn ?_ | refine .dr ?_ | fail
      refine At.fnp rfl ⟨s.length, ?_, rfl, k3⟩
      unfold bodyE; rw [hsc]; exact if_pos hj
    · have e1 : intOp .lss .i64 (j : Int) (s.length : Int) = some (.bool false) := lss_i (decide_eq_false (by omega))
      repeat' first
       | refine Opl.val (op_load rfl (ld_box1 h23)) rfl ?_
       | refine Opl.val (op_int rfl rfl rfl e1) rfl ?_
       | refine Go.condF rfl ?_
       | refine .std ?_ | refine .nil ?_ | refine .seq ?_ | refine .region ?_ | refine .xs ?_ | refine .kb ?_ | refine .leaf ?_ | refine .block ?_ | refine .gn ?_ | refine .dr ?_ | fail
      have hjl : j = s.length := by omega
      subst hjl
      refine At.fn rfl rfl rfl ⟨⟨cs, hb3, ?_, by rw [hcl, zc_len], henc.unsub⟩, k3⟩
      unfold bodyE; rw [hsc]; exact if_neg hj
  · obtain ⟨b, hsc, rfl, k3⟩ := w1
    rw [scanF_sub] at hsc
    exact At.fnp rfl ⟨b, by unfold bodyE; rw [hsc], rfl, k3⟩
set_option maxHeartbeats 1000000 in
theorem read32 (f : List UInt8) (k : UInt8) (S : St) :
    CallTo Tryz.prog 36 [.str f, .int .u8 k.toNat, .func 26 [] []] S (fun v S' => RdV f k 14 v ∧ Same S S') (fun _ _ => False) := by
  refine CallTo.of (n := 42) Tryz.func36 rfl rfl ?_
  obtain ⟨S1, hS1⟩ : ∃ S1, S1 = (S.new (.box 71 [.func 26 [] []])).new (.box 32 (zc 14)) := ⟨_, rfl⟩
  have hs1 : Same S S1 := by rw [hS1]; exact (Same.new _ _).trans (Same.new _ _)
  have hn1 : S1.next = S.next + 2 := by rw [hS1]; rfl
  have g0 : S1.h.find S.next = some (.box 71 [.func 26 [] []]) := by rw [hS1]; simp [St.new, Tr.find_put]
  have g1 : S1.h.find (S.next + 1) = some (.box 32 (zc 14)) := by rw [hS1]; simp [St.new, Tr.find_put]
  have lay : ∀ (U : St) (cs ds : List V), S.next + 1 < U.next → U.h.find (S.next + 1) = some (.box 32 ds) → ds.length = szs 14 → cs.length = szs 14 → cs.all V.one = true → ∃ W : St, storeE Tryz.prog 32 (.ptr (S.next + 1) 0) (.agg cs) U = some W ∧ W.h.find (S.next + 1) = some (.box 32 cs) ∧ W.next = U.next ∧ ∀ id, id ≠ S.next + 1 → W.h.find id = U.h.find id := by
    intro U cs ds hU hb hd hcl ho
    refine ⟨_, st_agg (cs' := cs) hb hcl ho ?_, by simp [Tr.find_put], rfl, fun id hi => by simp only [Tr.find_put, if_neg hi]⟩
    unfold splice
    rw [if_pos (Nat.ble_eq_true_of_le (by omega))]
    simp [hd, hcl]
  have res : ∀ (E : Env) (U : St) (cs : List V) (a b : V), Env.get E 6 = some (.ptr (S.next + 1) 0) → Env.get E 7 = some a → Env.get E 8 = some b → U.h.find (S.next + 1) = some (.box 32 cs) → cs.length = szs 14 → resV Tryz.prog E U [.cell 6 32, .tmp 7, .tmp 8] = some [.agg cs, a, b] := by
    intro E U cs a b e1 e2 e3 hb hcl
    have hld : loadE Tryz.prog 32 (.ptr (S.next + 1) 0) U = some (.agg cs) := ld_agg (cs := cs) ⟨_, _, hb, fun i v h => by simpa using h⟩ hcl
    simp only [resV, e1, e2, e3, hld]
  have hz0 : (zc 14).length = szs 14 := zc_len 14
  have hld : ∀ U : St, U.h.find (S.next + 1) = some (.box 32 (zc 14)) → loadE Tryz.prog 32 (.ptr (S.next + 1) 0) U = some (.agg (zc 14)) := fun U hb => ld_agg (cs := zc 14) ⟨_, _, hb, fun i v h => by simpa using h⟩ rfl
  by_cases hbig : 100000 < f.length
  · have e1 : intOp .gtr .i64 (f.length : Int) 100000 = some (.bool true) := gtr_i (decide_eq_true (by omega))
    obtain ⟨W, hst, hW1, hW2, hW3⟩ := lay S1 (zc 14) (zc 14) (by omega) g1 hz0 hz0 rfl
    repeat' first
     | refine Opl.val (op_box rfl) rfl ?_
     | refine Opl.val op_alloc rfl ?_
     | refine Opl.val (op_int rfl rfl rfl e1) rfl ?_
     | refine Go.condT rfl ?_
     | refine Opl.cast (S' := S1) (Opl.val (op_load rfl (hld S1 g1)) rfl ?_) hS1
     | refine Opl.eff (op_store rfl rfl hst) ?_
     | refine .std ?_ | refine .nil ?_ | refine .seq ?_ | refine .region ?_ | refine .xs ?_ | refine .kb ?_ | refine .leaf ?_ | refine .block ?_ | refine .gn ?_ | refine .dr ?_ | fail
    refine At.fnr rfl rfl (res _ _ _ _ _ rfl rfl rfl hW1 hz0) ⟨?_, ?_⟩
    · unfold RdV rdOut; rw [if_pos hbig]; rfl
    · exact ⟨by omega, fun id hi => by rw [hW3 id (by omega), hs1.find id hi]⟩
  · have e1 : intOp .gtr .i64 (f.length : Int) 100000 = some (.bool false) := gtr_i (decide_eq_false (by omega))
    have hout := outside f k (by omega) S1
    repeat' first
     | refine Opl.val (op_box rfl) rfl ?_
     | refine Opl.val op_alloc rfl ?_
     | refine Opl.val (op_int rfl rfl rfl e1) rfl ?_
     | refine Go.condF rfl ?_
     | refine Opl.cast (S' := S1) (Opl.callv rfl (by kernel_rfl) hout rfl (fun S2 s2 => ?_) (fun _ _ hf => hf.elim)) hS1
     | refine .std ?_ | refine .nil ?_ | refine .seq ?_ | refine .region ?_ | refine .xs ?_ | refine .kb ?_ | refine .leaf ?_ | refine .block ?_ | refine .gn ?_ | refine .dr ?_ | fail
    have hn2 := s2.next
    have q0 : S2.h.find S.next = some (.box 71 [.func 26 [] []]) := by rw [s2.find S.next (by omega)]; exact g0
    have q1 : S2.h.find (S.next + 1) = some (.box 32 (zc 14)) := by rw [s2.find (S.next + 1) (by omega)]; exact g1
    cases ho : outP f k with
    | some i =>
      have e2 : intOp .geq .i64 (i : Int) 0 = some (.bool true) := geq_i (decide_eq_true (by omega))
      obtain ⟨W, hst, hW1, hW2, hW3⟩ := lay S2 (zc 14) (zc 14) (by omega) q1 hz0 hz0 rfl
      simp only [outV]
      repeat' first
       | refine Opl.val (op_int rfl rfl rfl e2) rfl ?_
       | refine Go.condT rfl ?_
       | refine Opl.val (op_load rfl (hld S2 q1)) rfl ?_
       | refine Opl.eff (op_store rfl rfl hst) ?_
       | refine .std ?_ | refine .nil ?_ | refine .seq ?_ | refine .region ?_ | refine .xs ?_ | refine .kb ?_ | refine .leaf ?_ | refine .block ?_ | refine .gn ?_ | refine .dr ?_ | fail
      refine At.fnr rfl rfl (res _ _ _ _ _ rfl rfl rfl hW1 hz0) ⟨?_, ?_⟩
      · unfold RdV rdOut; rw [if_neg hbig, ho]; rfl
      · exact ⟨by omega, fun id hi => by rw [hW3 id (by omega), s2.find id (by omega), hs1.find id hi]⟩
    | none =>
      have h12 := outP_len ho
      have e2 : intOp .geq .i64 (-1 : Int) 0 = some (.bool false) := geq_i rfl
      have e3 : intOp .sub .i64 (f.length : Int) 4 = some (.int .i64 ((f.length - 4 : Nat) : Int)) := by
        simp only [intOp]; rw [wrap_i64_id (by constructor <;> omega)]; congr 2; omega
      obtain ⟨s, hs⟩ : ∃ s, s = f.take (f.length - 4) := ⟨_, rfl⟩
      have hsl : s.length = f.length - 4 := by rw [hs]; simp
      have hb1 : buildE Tryz.prog 107 [(1, .str s), (2, .int .i64 8)] = some (.agg [.nilp, .nils, .str s, .int .i64 8]) := by kernel_rfl
      have hb2 : buildE Tryz.prog 109 [(0, .agg [.nilp, .nils, .str s, .int .i64 8]), (1, .bool true)] = some (.agg [.nilp, .nils, .str s, .int .i64 8, .bool true]) := by kernel_rfl
      obtain ⟨S3, hS3⟩ : ∃ S3, S3 = ((S2.new (.box 32 (zc 14))).new (.box 109 [.nilp, .nils, .str s, .int .i64 8, .bool true])).new (.box 102 [.nilp]) := ⟨_, rfl⟩
      have hf3 : S3.h.find (S2.next + 2) = some (.box 102 [.nilp]) := by rw [hS3]; simp [St.new, Tr.find_put]
      obtain ⟨S4, hS4⟩ : ∃ S4 : St, S4 = { S3 with h := S3.h.put (S2.next + 2) (.box 102 [.ptr (S2.next + 1) 0]) } := ⟨_, rfl⟩
      have hst : storeE Tryz.prog 102 (.ptr (S2.next + 2) 0) (.ptr (S2.next + 1) 0) S3 = some S4 := by rw [hS4]; exact st_one hf3 rfl rfl
      have s4 : Same S2 S4 := by
        rw [hS4, hS3]
        exact (((Same.new _ _).trans (Same.new _ _)).trans (Same.new _ _)).put (by omega) _
      have hn4 : S4.next = S2.next + 3 := by rw [hS4, hS3]; rfl
      have p0 : S4.h.find S2.next = some (.box 32 (zc 14)) := by rw [hS4, hS3]; simp [St.new, Tr.find_put]; omega
      have p1 : S4.h.find (S2.next + 1) = some (.box 109 [.nilp, .nils, .str s, .int .i64 8, .bool true]) := by rw [hS4, hS3]; simp [St.new, Tr.find_put]
      have p2 : S4.h.find (S2.next + 2) = some (.box 102 [.ptr (S2.next + 1) 0]) := by rw [hS4]; simp [Tr.find_put]
      have p3 : S4.h.find S.next = some (.box 71 [.func 26 [] []]) := by rw [s4.find S.next (by omega)]; exact q0
      have p4 : S4.h.find (S.next + 1) = some (.box 32 (zc 14)) := by rw [s4.find (S.next + 1) (by omega)]; exact q1
      have h4 : CodR S4 (S2.next + 1) s 8 := ⟨by omega, by omega, by omega, p1⟩
      have hcau := caughtR (g := 85) (by kernel_rfl) (caps := [.ptr S.next 0, .ptr (S2.next + 2) 0, .ptr S2.next 0]) (S := S4) (c := S2.next + 1) (x := S2.next) (T := 32) (by omega) (by omega)
        (P := fun cs => bodyE s (f.length + 1) 14 = none ∧ cs.length = szs 14 ∧ Enc (sch 14) cs (slc s 8 s.length)) (B := fun b => bodyE s (f.length + 1) 14 = some b) fun S0 k0 =>
        doR32 (c := S2.next + 1) (s := s) (k := f.length + 1) (by rw [k0.find _ (by omega)]; exact p3) (by rw [k0.find _ (by omega)]; exact p2) (by omega) (by omega) (by have := k0.next; omega)
          (h4.ofBox k0.next fun t cs hb => by rw [k0.find _ (by omega)]; exact hb) (by omega) (by have := k0.next; omega) (by omega) (by rw [k0.find _ (by omega)]; exact p0)
      simp only [outV]
      repeat' first
       | refine Opl.val (op_int rfl rfl rfl e2) rfl ?_
       | refine Opl.val (op_int rfl rfl rfl e3) rfl ?_
       | refine Go.condF rfl ?_
       | refine Opl.val op_alloc rfl ?_
       | (refine Opl.val (op_slcHi rfl rfl (Nat.sub_le _ _)) rfl ?_; rw [← hs])
       | refine Opl.val (op_bd2 rfl rfl hb1) rfl ?_
       | refine Opl.val (op_bd2 rfl rfl hb2) rfl ?_
       | refine Opl.val (op_box rfl) rfl ?_
       | refine Opl.cast (S' := S3) (Opl.eff (op_store rfl rfl hst) ?_) hS3
       | refine Opl.call rfl (by kernel_rfl) hcau rfl (fun v S6 ⟨k6, hv⟩ => ?_) (fun _ _ hf => hf.elim)
       | refine .std ?_ | refine .nil ?_ | refine .seq ?_ | refine .region ?_ | refine .xs ?_ | refine .kb ?_ | refine .leaf ?_ | refine .block ?_ | refine .gn ?_ | refine .dr ?_ | fail
      have hn6 := k6.next
      have r4 : S6.h.find (S.next + 1) = some (.box 32 (zc 14)) := by rw [k6.find _ (by omega) (by omega) (by omega)]; exact p4
      have hrd := rdOut_body (t := 14) (by omega) ho
      rw [← hs] at hrd
      rcases hv with ⟨rfl, cs, hx6, hbn, hcl, henc⟩ | ⟨b, hB, rfl⟩
      · obtain ⟨W, hst7, hW1, hW2, hW3⟩ := lay S6 cs (zc 14) (by omega) r4 hz0 hcl henc.ones
        have hldx : loadE Tryz.prog 32 (.ptr S2.next 0) S6 = some (.agg cs) := ld_agg (cs := cs) ⟨_, _, hx6, fun i v h => by simpa using h⟩ hcl
        have e5 : intOp .neq .i64 0 0 = some (.bool false) := rfl
        repeat' first
         | refine Opl.val (op_int rfl rfl rfl e5) rfl ?_
         | refine Go.condF rfl ?_
         | refine Opl.val (op_load rfl hldx) rfl ?_
         | refine Opl.eff (op_store rfl rfl hst7) ?_
         | refine .std ?_ | refine .nil ?_ | refine .seq ?_ | refine .region ?_ | refine .xs ?_ | refine .kb ?_ | refine .leaf ?_ | refine .block ?_ | refine .gn ?_ | refine .dr ?_ | fail
        refine At.fnr rfl rfl (res _ _ _ _ _ rfl rfl rfl hW1 hcl) ⟨?_, ?_⟩
        · unfold RdV; rw [hrd, hbn]
          refine ⟨cs, rfl, hcl, ?_⟩
          rw [hs] at henc
          rw [hs] at hsl
          rw [hsl, slc_take (Nat.le_refl _)] at henc
          exact henc
        · exact ⟨by omega, fun id hi => by rw [hW3 id (by omega), k6.find id (by omega) (by omega) (by omega), s4.find id (by omega), s2.find id (by omega), hs1.find id hi]⟩
      · obtain ⟨W, hst7, hW1, hW2, hW3⟩ := lay S6 (zc 14) (zc 14) (by omega) r4 hz0 hz0 rfl
        have e5 : intOp .neq .i64 11 0 = some (.bool true) := rfl
        repeat' first
         | refine Opl.val (op_int rfl rfl rfl e5) rfl ?_
         | refine Go.condT rfl ?_
         | refine Opl.val (op_load rfl (hld S6 r4)) rfl ?_
         | refine Opl.eff (op_store rfl rfl hst7) ?_
         | refine .std ?_ | refine .nil ?_ | refine .seq ?_ | refine .region ?_ | refine .xs ?_ | refine .kb ?_ | refine .leaf ?_ | refine .block ?_ | refine .gn ?_ | refine .dr ?_ | fail
        refine At.fnr rfl rfl (res _ _ _ _ _ rfl rfl rfl hW1 hz0) ⟨?_, ?_⟩
        · unfold RdV; rw [hrd, hB]; rfl
        · exact ⟨by omega, fun id hi => by rw [hW3 id (by omega), k6.find id (by omega) (by omega) (by omega), s4.find id (by omega), s2.find id (by omega), hs1.find id hi]⟩
theorem doR35 {S : St} {c e q x : Nat} {s : List UInt8} {k : Nat} (h1 : S.h.find e = some (.box 79 [.func 30 [] []])) (h2 : S.h.find q = some (.box 102 [.ptr c 0])) (hqc : q ≠ c) (hqx : q ≠ x) (hq : q < S.next)
    (h : CodR S c s 8) (hxc : x ≠ c) (hx : x < S.next) (hk : s.length ≤ k) (hz : S.h.find x = some (.box 35 (zc 15))) :
    CallTo Tryz.prog 92 [.ptr e 0, .ptr q 0, .ptr x 0] S
      (fun _ S' => (∃ cs, S'.h.find x = some (.box 35 cs) ∧ (bodyE s k 15 = none ∧ cs.length = szs 15 ∧ Enc (sch 15) cs (slc s 8 s.length))) ∧ Keep2 S S' c x)
      (fun v S' => ∃ b, bodyE s k 15 = some b ∧ v = malV b ∧ Keep2 S S' c x) := by
  refine CallTo.of (n := 26) Tryz.func92 rfl rfl ?_
  have hc := (dAll s k 15 (by decide)).h h (off := 0) (L := []) (R := []) rfl hxc hx (by have := h.le; omega) (by simpa using hz)
  repeat' first
   | refine Opl.val (op_load rfl (ld_box1 h1)) rfl ?_
   | refine Opl.val (op_load rfl (ld_box1 h2)) rfl ?_
   | refine Opl.call rfl (by kernel_rfl) hc rfl (fun v S1 w1 => ?_) (fun v S1 w1 => ?_)
   | refine .std ?_ | refine .nil ?_ | refine .seq ?_ | refine .region ?_ | refine .xs ?_ | refine .kb ?_ | refine .leaf ?_ | refine .block ?_ | refine .gn ?_ | refine .dr ?_ | fail
  · obtain ⟨j, cs, hsc, h3, hb3, hcl, henc, hlt, k3⟩ := w1
    rw [scanF_sub] at hsc
    simp only [List.nil_append, List.append_nil] at hb3
    have h23 : S1.h.find q = some (.box 102 [.ptr c 0]) := by rw [k3.find q hq hqc hqx]; exact h2
    have hpt := h3.pt
    have hle := h3.le
    by_cases hj : j < s.length
    · have e1 : intOp .lss .i64 (j : Int) (s.length : Int) = some (.bool true) := lss_i (decide_eq_true (by omega))
      repeat' first
       | refine Opl.val (op_load rfl (ld_box1 h23)) rfl ?_
       | refine Opl.val (op_int rfl rfl rfl e1) rfl ?_
       | refine Go.condT rfl ?_
       | refine Opl.val (op_build1 rfl (bMal _)) rfl ?_
       | refine Opl.panic rfl ?_
       | refine .std ?_ | refine .nil ?_ | refine .seq ?_ | refine .region ?_ | refine .xs ?_ | refine .kb ?_ | refine .leaf ?_ | refine .block ?_ | refine .gn ?_ | refine .dr ?_ | fail
      refine At.fnp rfl ⟨s.length, ?_, rfl, k3⟩
      unfold bodyE; rw [hsc]; exact if_pos hj
    · have e1 : intOp .lss .i64 (j : Int) (s.length : Int) = some (.bool false) := lss_i (decide_eq_false (by omega))
      repeat' first
       | refine Opl.val (op_load rfl (ld_box1 h23)) rfl ?_
       | refine Opl.val (op_int rfl rfl rfl e1) rfl ?_
       | refine Go.condF rfl ?_
       | refine .std ?_ | refine .nil ?_ | refine .seq ?_ | refine .region ?_ | refine .xs ?_ | refine .kb ?_ | refine .leaf ?_ | refine .block ?_ | refine .gn ?_ | refine .dr ?_ | fail
      have hjl : j = s.length := by omega
      subst hjl
      refine At.fn rfl rfl rfl ⟨⟨cs, hb3, ?_, by rw [hcl, zc_len], henc.unsub⟩, k3⟩
      unfold bodyE; rw [hsc]; exact if_neg hj
  · obtain ⟨b, hsc, rfl, k3⟩ := w1
    rw [scanF_sub] at hsc
    exact At.fnp rfl ⟨b, by unfold bodyE; rw [hsc], rfl, k3⟩
set_option maxHeartbeats 1000000 in
theorem read35 (f : List UInt8) (k : UInt8) (S : St) :
    CallTo Tryz.prog 41 [.str f, .int .u8 k.toNat, .func 30 [] []] S (fun v S' => RdV f k 15 v ∧ Same S S') (fun _ _ => False) := by
  refine CallTo.of (n := 42) Tryz.func41 rfl rfl ?_
  obtain ⟨S1, hS1⟩ : ∃ S1, S1 = (S.new (.box 79 [.func 30 [] []])).new (.box 35 (zc 15)) := ⟨_, rfl⟩
  have hs1 : Same S S1 := by rw [hS1]; exact (Same.new _ _).trans (Same.new _ _)
  have hn1 : S1.next = S.next + 2 := by rw [hS1]; rfl
  have g0 : S1.h.find S.next = some (.box 79 [.func 30 [] []]) := by rw [hS1]; simp [St.new, Tr.find_put]
  have g1 : S1.h.find (S.next + 1) = some (.box 35 (zc 15)) := by rw [hS1]; simp [St.new, Tr.find_put]
  have lay : ∀ (U : St) (cs ds : List V), S.next + 1 < U.next → U.h.find (S.next + 1) = some (.box 35 ds) → ds.length = szs 15 → cs.length = szs 15 → cs.all V.one = true → ∃ W : St, storeE Tryz.prog 35 (.ptr (S.next + 1) 0) (.agg cs) U = some W ∧ W.h.find (S.next + 1) = some (.box 35 cs) ∧ W.next = U.next ∧ ∀ id, id ≠ S.next + 1 → W.h.find id = U.h.find id := by
    intro U cs ds hU hb hd hcl ho
    refine ⟨_, st_agg (cs' := cs) hb hcl ho ?_, by simp [Tr.find_put], rfl, fun id hi => by simp only [Tr.find_put, if_neg hi]⟩
    unfold splice
    rw [if_pos (Nat.ble_eq_true_of_le (by omega))]
    simp [hd, hcl]
  have res : ∀ (E : Env) (U : St) (cs : List V) (a b : V), Env.get E 6 = some (.ptr (S.next + 1) 0) → Env.get E 7 = some a → Env.get E 8 = some b → U.h.find (S.next + 1) = some (.box 35 cs) → cs.length = szs 15 → resV Tryz.prog E U [.cell 6 35, .tmp 7, .tmp 8] = some [.agg cs, a, b] := by
    intro E U cs a b e1 e2 e3 hb hcl
    have hld : loadE Tryz.prog 35 (.ptr (S.next + 1) 0) U = some (.agg cs) := ld_agg (cs := cs) ⟨_, _, hb, fun i v h => by simpa using h⟩ hcl
    simp only [resV, e1, e2, e3, hld]
  have hz0 : (zc 15).length = szs 15 := zc_len 15
  have hld : ∀ U : St, U.h.find (S.next + 1) = some (.box 35 (zc 15)) → loadE Tryz.prog 35 (.ptr (S.next + 1) 0) U = some (.agg (zc 15)) := fun U hb => ld_agg (cs := zc 15) ⟨_, _, hb, fun i v h => by simpa using h⟩ rfl
  by_cases hbig : 100000 < f.length
  · have e1 : intOp .gtr .i64 (f.length : Int) 100000 = some (.bool true) := gtr_i (decide_eq_true (by omega))
    obtain ⟨W, hst, hW1, hW2, hW3⟩ := lay S1 (zc 15) (zc 15) (by omega) g1 hz0 hz0 rfl
    repeat' first
     | refine Opl.val (op_box rfl) rfl ?_
     | refine Opl.val op_alloc rfl ?_
     | refine Opl.val (op_int rfl rfl rfl e1) rfl ?_
     | refine Go.condT rfl ?_
     | refine Opl.cast (S' := S1) (Opl.val (op_load rfl (hld S1 g1)) rfl ?_) hS1
     | refine Opl.eff (op_store rfl rfl hst) ?_
     | refine .std ?_ | refine .nil ?_ | refine .seq ?_ | refine .region ?_ | refine .xs ?_ | refine .kb ?_ | refine .leaf ?_ | refine .block ?_ | refine .gn ?_ | refine .dr ?_ | fail
    refine At.fnr rfl rfl (res _ _ _ _ _ rfl rfl rfl hW1 hz0) ⟨?_, ?_⟩
    · unfold RdV rdOut; rw [if_pos hbig]; rfl
    · exact ⟨by omega, fun id hi => by rw [hW3 id (by omega), hs1.find id hi]⟩
  · have e1 : intOp .gtr .i64 (f.length : Int) 100000 = some (.bool false) := gtr_i (decide_eq_false (by omega))
    have hout := outside f k (by omega) S1
    repeat' first
     | refine Opl.val (op_box rfl) rfl ?_
     | refine Opl.val op_alloc rfl ?_
     | refine Opl.val (op_int rfl rfl rfl e1) rfl ?_
     | refine Go.condF rfl ?_
     | refine Opl.cast (S' := S1) (Opl.callv rfl (by kernel_rfl) hout rfl (fun S2 s2 => ?_) (fun _ _ hf => hf.elim)) hS1
     | refine .std ?_ | refine .nil ?_ | refine .seq ?_ | refine .region ?_ | refine .xs ?_ | refine .kb ?_ | refine .leaf ?_ | refine .block ?_ | refine .gn ?_ | refine .dr ?_ | fail
    have hn2 := s2.next
    have q0 : S2.h.find S.next = some (.box 79 [.func 30 [] []]) := by rw [s2.find S.next (by omega)]; exact g0
    have q1 : S2.h.find (S.next + 1) = some (.box 35 (zc 15)) := by rw [s2.find (S.next + 1) (by omega)]; exact g1
    cases ho : outP f k with
    | some i =>
      have e2 : intOp .geq .i64 (i : Int) 0 = some (.bool true) := geq_i (decide_eq_true (by omega))
      obtain ⟨W, hst, hW1, hW2, hW3⟩ := lay S2 (zc 15) (zc 15) (by omega) q1 hz0 hz0 rfl
      simp only [outV]
      repeat' first
       | refine Opl.val (op_int rfl rfl rfl e2) rfl ?_
       | refine Go.condT rfl ?_
       | refine Opl.val (op_load rfl (hld S2 q1)) rfl ?_
       | refine Opl.eff (op_store rfl rfl hst) ?_
       | refine .std ?_ | refine .nil ?_ | refine .seq ?_ | refine .region ?_ | refine .xs ?_ | refine .kb ?_ | refine .leaf ?_ | refine .block ?_ | refine .gn ?_ | refine .dr ?_ | fail
      refine At.fnr rfl rfl (res _ _ _ _ _ rfl rfl rfl hW1 hz0) ⟨?_, ?_⟩
      · unfold RdV rdOut; rw [if_neg hbig, ho]; rfl
      · exact ⟨by omega, fun id hi => by rw [hW3 id (by omega), s2.find id (by omega), hs1.find id hi]⟩
    | none =>
      have h12 := outP_len ho
      have e2 : intOp .geq .i64 (-1 : Int) 0 = some (.bool false) := geq_i rfl
      have e3 : intOp .sub .i64 (f.length : Int) 4 = some (.int .i64 ((f.length - 4 : Nat) : Int)) := by
        simp only [intOp]; rw [wrap_i64_id (by constructor <;> omega)]; congr 2; omega
      obtain ⟨s, hs⟩ : ∃ s, s = f.take (f.length - 4) := ⟨_, rfl⟩
      have hsl : s.length = f.length - 4 := by rw [hs]; simp
      have hb1 : buildE Tryz.prog 107 [(1, .str s), (2, .int .i64 8)] = some (.agg [.nilp, .nils, .str s, .int .i64 8]) := by kernel_rfl
      have hb2 : buildE Tryz.prog 109 [(0, .agg [.nilp, .nils, .str s, .int .i64 8]), (1, .bool true)] = some (.agg [.nilp, .nils, .str s, .int .i64 8, .bool true]) := by kernel_rfl
      obtain ⟨S3, hS3⟩ : ∃ S3, S3 = ((S2.new (.box 35 (zc 15))).new (.box 109 [.nilp, .nils, .str s, .int .i64 8, .bool true])).new (.box 102 [.nilp]) := ⟨_, rfl⟩
      have hf3 : S3.h.find (S2.next + 2) = some (.box 102 [.nilp]) := by rw [hS3]; simp [St.new, Tr.find_put]
      obtain ⟨S4, hS4⟩ : ∃ S4 : St, S4 = { S3 with h := S3.h.put (S2.next + 2) (.box 102 [.ptr (S2.next + 1) 0]) } := ⟨_, rfl⟩
      have hst : storeE Tryz.prog 102 (.ptr (S2.next + 2) 0) (.ptr (S2.next + 1) 0) S3 = some S4 := by rw [hS4]; exact st_one hf3 rfl rfl
      have s4 : Same S2 S4 := by
        rw [hS4, hS3]
        exact (((Same.new _ _).trans (Same.new _ _)).trans (Same.new _ _)).put (by omega) _
      have hn4 : S4.next = S2.next + 3 := by rw [hS4, hS3]; rfl
      have p0 : S4.h.find S2.next = some (.box 35 (zc 15)) := by rw [hS4, hS3]; simp [St.new, Tr.find_put]; omega
      have p1 : S4.h.find (S2.next + 1) = some (.box 109 [.nilp, .nils, .str s, .int .i64 8, .bool true]) := by rw [hS4, hS3]; simp [St.new, Tr.find_put]
      have p2 : S4.h.find (S2.next + 2) = some (.box 102 [.ptr (S2.next + 1) 0]) := by rw [hS4]; simp [Tr.find_put]
      have p3 : S4.h.find S.next = some (.box 79 [.func 30 [] []]) := by rw [s4.find S.next (by omega)]; exact q0
      have p4 : S4.h.find (S.next + 1) = some (.box 35 (zc 15)) := by rw [s4.find (S.next + 1) (by omega)]; exact q1
      have h4 : CodR S4 (S2.next + 1) s 8 := ⟨by omega, by omega, by omega, p1⟩
      have hcau := caughtR (g := 92) (by kernel_rfl) (caps := [.ptr S.next 0, .ptr (S2.next + 2) 0, .ptr S2.next 0]) (S := S4) (c := S2.next + 1) (x := S2.next) (T := 35) (by omega) (by omega)
        (P := fun cs => bodyE s (f.length + 1) 15 = none ∧ cs.length = szs 15 ∧ Enc (sch 15) cs (slc s 8 s.length)) (B := fun b => bodyE s (f.length + 1) 15 = some b) fun S0 k0 =>
        doR35 (c := S2.next + 1) (s := s) (k := f.length + 1) (by rw [k0.find _ (by omega)]; exact p3) (by rw [k0.find _ (by omega)]; exact p2) (by omega) (by omega) (by have := k0.next; omega)
          (h4.ofBox k0.next fun t cs hb => by rw [k0.find _ (by omega)]; exact hb) (by omega) (by have := k0.next; omega) (by omega) (by rw [k0.find _ (by omega)]; exact p0)
      simp only [outV]
      repeat' first
       | refine Opl.val (op_int rfl rfl rfl e2) rfl ?_
       | refine Opl.val (op_int rfl rfl rfl e3) rfl ?_
       | refine Go.condF rfl ?_
       | refine Opl.val op_alloc rfl ?_
       | (refine Opl.val (op_slcHi rfl rfl (Nat.sub_le _ _)) rfl ?_; rw [← hs])
       | refine Opl.val (op_bd2 rfl rfl hb1) rfl ?_
       | refine Opl.val (op_bd2 rfl rfl hb2) rfl ?_
       | refine Opl.val (op_box rfl) rfl ?_
       | refine Opl.cast (S' := S3) (Opl.eff (op_store rfl rfl hst) ?_) hS3
       | refine Opl.call rfl (by kernel_rfl) hcau rfl (fun v S6 ⟨k6, hv⟩ => ?_) (fun _ _ hf => hf.elim)
       | refine .std ?_ | refine .nil ?_ | refine .seq ?_ | refine .region ?_ | refine .xs ?_ | refine .kb ?_ | refine .leaf ?_ | refine .block ?_ | refine .gn ?_ | refine .dr ?_ | fail
      have hn6 := k6.next
      have r4 : S6.h.find (S.next + 1) = some (.box 35 (zc 15)) := by rw [k6.find _ (by omega) (by omega) (by omega)]; exact p4
      have hrd := rdOut_body (t := 15) (by omega) ho
      rw [← hs] at hrd
      rcases hv with ⟨rfl, cs, hx6, hbn, hcl, henc⟩ | ⟨b, hB, rfl⟩
      · obtain ⟨W, hst7, hW1, hW2, hW3⟩ := lay S6 cs (zc 15) (by omega) r4 hz0 hcl henc.ones
        have hldx : loadE Tryz.prog 35 (.ptr S2.next 0) S6 = some (.agg cs) := ld_agg (cs := cs) ⟨_, _, hx6, fun i v h => by simpa using h⟩ hcl
        have e5 : intOp .neq .i64 0 0 = some (.bool false) := rfl
        repeat' first
         | refine Opl.val (op_int rfl rfl rfl e5) rfl ?_
         | refine Go.condF rfl ?_
         | refine Opl.val (op_load rfl hldx) rfl ?_
         | refine Opl.eff (op_store rfl rfl hst7) ?_
         | refine .std ?_ | refine .nil ?_ | refine .seq ?_ | refine .region ?_ | refine .xs ?_ | refine .kb ?_ | refine .leaf ?_ | refine .block ?_ | refine .gn ?_ | refine .dr ?_ | fail
        refine At.fnr rfl rfl (res _ _ _ _ _ rfl rfl rfl hW1 hcl) ⟨?_, ?_⟩
        · unfold RdV; rw [hrd, hbn]
          refine ⟨cs, rfl, hcl, ?_⟩
          rw [hs] at henc
          rw [hs] at hsl
          rw [hsl, slc_take (Nat.le_refl _)] at henc
          exact henc
        · exact ⟨by omega, fun id hi => by rw [hW3 id (by omega), k6.find id (by omega) (by omega) (by omega), s4.find id (by omega), s2.find id (by omega), hs1.find id hi]⟩
      · obtain ⟨W, hst7, hW1, hW2, hW3⟩ := lay S6 (zc 15) (zc 15) (by omega) r4 hz0 hz0 rfl
        have e5 : intOp .neq .i64 11 0 = some (.bool true) := rfl
        repeat' first
         | refine Opl.val (op_int rfl rfl rfl e5) rfl ?_
         | refine Go.condT rfl ?_
         | refine Opl.val (op_load rfl (hld S6 r4)) rfl ?_
         | refine Opl.eff (op_store rfl rfl hst7) ?_
         | refine .std ?_ | refine .nil ?_ | refine .seq ?_ | refine .region ?_ | refine .xs ?_ | refine .kb ?_ | refine .leaf ?_ | refine .block ?_ | refine .gn ?_ | refine .dr ?_ | fail
        refine At.fnr rfl rfl (res _ _ _ _ _ rfl rfl rfl hW1 hz0) ⟨?_, ?_⟩
        · unfold RdV; rw [hrd, hB]; rfl
        · exact ⟨by omega, fun id hi => by rw [hW3 id (by omega), k6.find id (by omega) (by omega) (by omega), s4.find id (by omega), s2.find id (by omega), hs1.find id hi]⟩
theorem ReadValue (f : List UInt8) (S : St) : CallTo Tryz.prog 20 [.str f] S (fun v S' => RdV f 118 2 v ∧ Same S S') (fun _ _ => False) := by
  refine CallTo.of (n := 10) Tryz.func20 rfl rfl ?_
  have hz0 : (zc 2).length = szs 2 := zc_len 2
  obtain ⟨S1, hS1⟩ : ∃ S1, S1 = S.new (.box 62 (zc 2)) := ⟨_, rfl⟩
  have hs1 : Same S S1 := by rw [hS1]; exact Same.new _ _
  have hn1 : S1.next = S.next + 1 := by rw [hS1]; rfl
  have g1 : S1.h.find S.next = some (.box 62 (zc 2)) := by rw [hS1]; simp [St.new, Tr.find_put]
  have hr := read62 f 118 S1
  repeat' first
   | refine Opl.val op_alloc rfl ?_
   | refine Opl.cast (S' := S1) (Opl.call rfl (by kernel_rfl) hr rfl (fun v S2 ⟨hv, s2⟩ => ?_) (fun _ _ hf => hf.elim)) hS1
   | refine .std ?_ | refine .nil ?_ | refine .seq ?_ | refine .region ?_ | refine .xs ?_ | refine .kb ?_ | refine .leaf ?_ | refine .block ?_ | refine .gn ?_ | refine .dr ?_ | fail
  obtain ⟨cs, i, e, rfl, hcl, ho⟩ := hv.shape
  have hn2 := s2.next
  have g2 : S2.h.find S.next = some (.box 62 (zc 2)) := by rw [s2.find _ (by omega)]; exact g1
  have hsp : splice (zc 2) 0 cs = some cs := by
    unfold splice
    rw [if_pos (Nat.ble_eq_true_of_le (by omega))]
    simp [hcl, hz0]
  have hst := st_agg (P := Tryz.prog) (t := 62) g2 hcl ho hsp
  repeat' first
   | refine Opl.eff (op_store rfl rfl hst) ?_
   | refine .std ?_ | refine .nil ?_ | refine .seq ?_ | refine .region ?_ | refine .xs ?_ | refine .kb ?_ | refine .leaf ?_ | refine .block ?_ | refine .gn ?_ | refine .dr ?_ | fail
  have hld : loadE Tryz.prog 62 (.ptr S.next 0) { S2 with h := S2.h.put S.next (.box 62 cs) } = some (.agg cs) := ld_agg (cs := cs) ⟨_, _, by simp only [Tr.find_put, if_true]; rfl, fun i v h => by simpa using h⟩ hcl
  have res : ∀ (E : Env) (a b : V), Env.get E 2 = some (.ptr S.next 0) → Env.get E 3 = some a → Env.get E 4 = some b → resV Tryz.prog E { S2 with h := S2.h.put S.next (.box 62 cs) } [.cell 2 62, .tmp 3, .tmp 4] = some [.agg cs, a, b] := by
    intro E a b e1 e2 e3
    simp only [resV, e1, e2, e3, hld]
  exact At.fnr rfl rfl (res _ _ _ rfl rfl rfl) ⟨hv, (hs1.trans s2).put (Nat.le_refl _) _⟩
theorem ReadState (f : List UInt8) (S : St) : CallTo Tryz.prog 17 [.str f] S (fun v S' => RdV f 115 20 v ∧ Same S S') (fun _ _ => False) := by
  refine CallTo.of (n := 10) Tryz.func17 rfl rfl ?_
  have hz0 : (zc 20).length = szs 20 := zc_len 20
  obtain ⟨S1, hS1⟩ : ∃ S1, S1 = S.new (.box 55 (zc 20)) := ⟨_, rfl⟩
  have hs1 : Same S S1 := by rw [hS1]; exact Same.new _ _
  have hn1 : S1.next = S.next + 1 := by rw [hS1]; rfl
  have g1 : S1.h.find S.next = some (.box 55 (zc 20)) := by rw [hS1]; simp [St.new, Tr.find_put]
  have hr := read55 f 115 S1
  repeat' first
   | refine Opl.val op_alloc rfl ?_
   | refine Opl.cast (S' := S1) (Opl.call rfl (by kernel_rfl) hr rfl (fun v S2 ⟨hv, s2⟩ => ?_) (fun _ _ hf => hf.elim)) hS1
   | refine .std ?_ | refine .nil ?_ | refine .seq ?_ | refine .region ?_ | refine .xs ?_ | refine .kb ?_ | refine .leaf ?_ | refine .block ?_ | refine .gn ?_ | refine .dr ?_ | fail
  obtain ⟨cs, i, e, rfl, hcl, ho⟩ := hv.shape
  have hn2 := s2.next
  have g2 : S2.h.find S.next = some (.box 55 (zc 20)) := by rw [s2.find _ (by omega)]; exact g1
  have hsp : splice (zc 20) 0 cs = some cs := by
    unfold splice
    rw [if_pos (Nat.ble_eq_true_of_le (by omega))]
    simp [hcl, hz0]
  have hst := st_agg (P := Tryz.prog) (t := 55) g2 hcl ho hsp
  repeat' first
   | refine Opl.eff (op_store rfl rfl hst) ?_
   | refine .std ?_ | refine .nil ?_ | refine .seq ?_ | refine .region ?_ | refine .xs ?_ | refine .kb ?_ | refine .leaf ?_ | refine .block ?_ | refine .gn ?_ | refine .dr ?_ | fail
  have hld : loadE Tryz.prog 55 (.ptr S.next 0) { S2 with h := S2.h.put S.next (.box 55 cs) } = some (.agg cs) := ld_agg (cs := cs) ⟨_, _, by simp only [Tr.find_put, if_true]; rfl, fun i v h => by simpa using h⟩ hcl
  have res : ∀ (E : Env) (a b : V), Env.get E 2 = some (.ptr S.next 0) → Env.get E 3 = some a → Env.get E 4 = some b → resV Tryz.prog E { S2 with h := S2.h.put S.next (.box 55 cs) } [.cell 2 55, .tmp 3, .tmp 4] = some [.agg cs, a, b] := by
    intro E a b e1 e2 e3
    simp only [resV, e1, e2, e3, hld]
  exact At.fnr rfl rfl (res _ _ _ rfl rfl rfl) ⟨hv, (hs1.trans s2).put (Nat.le_refl _) _⟩
theorem ReadProgram (f : List UInt8) (S : St) : CallTo Tryz.prog 11 [.str f] S (fun v S' => RdV f 112 14 v ∧ Same S S') (fun _ _ => False) := by
  refine CallTo.of (n := 10) Tryz.func11 rfl rfl ?_
  have hz0 : (zc 14).length = szs 14 := zc_len 14
  obtain ⟨S1, hS1⟩ : ∃ S1, S1 = S.new (.box 32 (zc 14)) := ⟨_, rfl⟩
  have hs1 : Same S S1 := by rw [hS1]; exact Same.new _ _
  have hn1 : S1.next = S.next + 1 := by rw [hS1]; rfl
  have g1 : S1.h.find S.next = some (.box 32 (zc 14)) := by rw [hS1]; simp [St.new, Tr.find_put]
  have hr := read32 f 112 S1
  repeat' first
   | refine Opl.val op_alloc rfl ?_
   | refine Opl.cast (S' := S1) (Opl.call rfl (by kernel_rfl) hr rfl (fun v S2 ⟨hv, s2⟩ => ?_) (fun _ _ hf => hf.elim)) hS1
   | refine .std ?_ | refine .nil ?_ | refine .seq ?_ | refine .region ?_ | refine .xs ?_ | refine .kb ?_ | refine .leaf ?_ | refine .block ?_ | refine .gn ?_ | refine .dr ?_ | fail
  obtain ⟨cs, i, e, rfl, hcl, ho⟩ := hv.shape
  have hn2 := s2.next
  have g2 : S2.h.find S.next = some (.box 32 (zc 14)) := by rw [s2.find _ (by omega)]; exact g1
  have hsp : splice (zc 14) 0 cs = some cs := by
    unfold splice
    rw [if_pos (Nat.ble_eq_true_of_le (by omega))]
    simp [hcl, hz0]
  have hst := st_agg (P := Tryz.prog) (t := 32) g2 hcl ho hsp
  repeat' first
   | refine Opl.eff (op_store rfl rfl hst) ?_
   | refine .std ?_ | refine .nil ?_ | refine .seq ?_ | refine .region ?_ | refine .xs ?_ | refine .kb ?_ | refine .leaf ?_ | refine .block ?_ | refine .gn ?_ | refine .dr ?_ | fail
  have hld : loadE Tryz.prog 32 (.ptr S.next 0) { S2 with h := S2.h.put S.next (.box 32 cs) } = some (.agg cs) := ld_agg (cs := cs) ⟨_, _, by simp only [Tr.find_put, if_true]; rfl, fun i v h => by simpa using h⟩ hcl
  have res : ∀ (E : Env) (a b : V), Env.get E 2 = some (.ptr S.next 0) → Env.get E 3 = some a → Env.get E 4 = some b → resV Tryz.prog E { S2 with h := S2.h.put S.next (.box 32 cs) } [.cell 2 32, .tmp 3, .tmp 4] = some [.agg cs, a, b] := by
    intro E a b e1 e2 e3
    simp only [resV, e1, e2, e3, hld]
  exact At.fnr rfl rfl (res _ _ _ rfl rfl rfl) ⟨hv, (hs1.trans s2).put (Nat.le_refl _) _⟩
theorem ReadCode (f : List UInt8) (S : St) : CallTo Tryz.prog 14 [.str f] S (fun v S' => RdV f 99 15 v ∧ Same S S') (fun _ _ => False) := by
  refine CallTo.of (n := 10) Tryz.func14 rfl rfl ?_
  have hz0 : (zc 15).length = szs 15 := zc_len 15
  obtain ⟨S1, hS1⟩ : ∃ S1, S1 = S.new (.box 35 (zc 15)) := ⟨_, rfl⟩
  have hs1 : Same S S1 := by rw [hS1]; exact Same.new _ _
  have hn1 : S1.next = S.next + 1 := by rw [hS1]; rfl
  have g1 : S1.h.find S.next = some (.box 35 (zc 15)) := by rw [hS1]; simp [St.new, Tr.find_put]
  have hr := read35 f 99 S1
  repeat' first
   | refine Opl.val op_alloc rfl ?_
   | refine Opl.cast (S' := S1) (Opl.call rfl (by kernel_rfl) hr rfl (fun v S2 ⟨hv, s2⟩ => ?_) (fun _ _ hf => hf.elim)) hS1
   | refine .std ?_ | refine .nil ?_ | refine .seq ?_ | refine .region ?_ | refine .xs ?_ | refine .kb ?_ | refine .leaf ?_ | refine .block ?_ | refine .gn ?_ | refine .dr ?_ | fail
  obtain ⟨cs, i, e, rfl, hcl, ho⟩ := hv.shape
  have hn2 := s2.next
  have g2 : S2.h.find S.next = some (.box 35 (zc 15)) := by rw [s2.find _ (by omega)]; exact g1
  have hsp : splice (zc 15) 0 cs = some cs := by
    unfold splice
    rw [if_pos (Nat.ble_eq_true_of_le (by omega))]
    simp [hcl, hz0]
  have hst := st_agg (P := Tryz.prog) (t := 35) g2 hcl ho hsp
  repeat' first
   | refine Opl.eff (op_store rfl rfl hst) ?_
   | refine .std ?_ | refine .nil ?_ | refine .seq ?_ | refine .region ?_ | refine .xs ?_ | refine .kb ?_ | refine .leaf ?_ | refine .block ?_ | refine .gn ?_ | refine .dr ?_ | fail
  have hld : loadE Tryz.prog 35 (.ptr S.next 0) { S2 with h := S2.h.put S.next (.box 35 cs) } = some (.agg cs) := ld_agg (cs := cs) ⟨_, _, by simp only [Tr.find_put, if_true]; rfl, fun i v h => by simpa using h⟩ hcl
  have res : ∀ (E : Env) (a b : V), Env.get E 2 = some (.ptr S.next 0) → Env.get E 3 = some a → Env.get E 4 = some b → resV Tryz.prog E { S2 with h := S2.h.put S.next (.box 35 cs) } [.cell 2 35, .tmp 3, .tmp 4] = some [.agg cs, a, b] := by
    intro E a b e1 e2 e3
    simp only [resV, e1, e2, e3, hld]
  exact At.fnr rfl rfl (res _ _ _ rfl rfl rfl) ⟨hv, (hs1.trans s2).put (Nat.le_refl _) _⟩
end Go.Proofs.YtilldjgagokcfaaGreat
