import Derived.Test.YtilldjgagokcfaaGreatR6
set_option linter.unusedVariables false
set_option linter.unusedSimpArgs false
namespace Go.Proofs.YtilldjgagokcfaaGreat
open Go.RowKit Go.Ev
set_option maxRecDepth 100000
set_option linter.unusedVariables false
theorem _root_.Go.Ev.At.weaken {x : X} {k : K} {F : Sh} {E E' : Env} {S : St} (h : At x k F E' S) (hs : Sub E' E) : At x k F E S := ⟨fun fr hf => h.h fr (hf.sub hs)⟩
theorem _root_.Go.Ev.Go.joinE {P : Program} {F : Sh} {E0 : Env} {S0 : St} {a : Code} {k : K} {n : Nat} (Inv : Env → St → Prop) (hrest : ∀ E S, Inv E S → At .normal k F E S) (h : (∀ E S, Inv E S → At .normal k F E S) → Go P F E0 S0 a (Kb n k)) : Go P F E0 S0 a (Kb n k) := h hrest
structure PAll (d : Nat) : Prop where
  typ : ∀ {S : St} {c : Nat} {cs : List V} {bs : List UInt8}, EncF d (sch 5) cs bs → RC 128 [.ptr c 0, .agg cs] S c bs
  types : ∀ {S : St} {c : Nat} {v : V} {bl : List UInt8}, isLn 6 v → (elems v).length < 4611686018427387904 → EncL d 5 (elems v) bl → RC 127 [.ptr c 0, v] S c (encI ((elems v).length : Nat) ++ bl)
  expr : ∀ {S : St} {c : Nat} {cs : List V} {bs : List UInt8}, EncF d (sch 11) cs bs → RC 71 [.ptr c 0, .agg cs] S c bs
theorem rtypes {d : Nat} (IH : ∀ {S : St} {c : Nat} {cs : List V} {bs : List UInt8}, EncF d (sch 5) cs bs → RC 128 [.ptr c 0, .agg cs] S c bs) {S : St} {c : Nat} {v : V} {bl : List UInt8} (hv : isLn 6 v) (hlen : (elems v).length < 4611686018427387904) (he : EncL d 5 (elems v) bl) :
    RC 127 [.ptr c 0, v] S c (encI ((elems v).length : Nat) ++ bl) := by
  intro buf h hB
  have w0 : RQ S c buf [] S := ⟨KeepB.refl _ _, buf, h, by simp, .inl (by simp)⟩
  have hB0 := hB
  simp only [List.length_append] at hB
  refine CallTo.of (n := 26) Tryz.func127 rfl rfl ?_
  repeat' first
   | refine Opl.val (op_lenL rfl hv.isL rfl) rfl ?_
   | refine Opl.callR w0 rfl (by kernel_rfl) (rnumber ((elems v).length : Nat) (by constructor <;> omega)) (by simp; omega) rfl (fun S1 w1 k1 _ => ?_)
   | refine .std ?_ | refine .nil ?_ | refine .seq ?_ | refine .region ?_ | refine .xs ?_ | refine .kb ?_ | refine .leaf ?_ | refine .block ?_ | refine .gn ?_ | refine .dr ?_ | fail
  refine Go.weaken (E' := [(0, .ptr c 0), (1, v), (4, .int .i64 (0 : Nat))]) ?_ ⟨rfl, rfl, rfl, trivial⟩
  refine Go.loop_ind (α := Nat) (fun i => (elems v).length - i) (fun i E S' => E = [(0, .ptr c 0), (1, v), (4, .int .i64 i)] ∧ i ≤ (elems v).length ∧ ∃ b1 b2, bl = b1 ++ b2 ∧ EncL d 5 ((elems v).drop i) b2 ∧
    RQ S c buf (encI ((elems v).length : Nat) ++ b1) S') ?_ 0 _ _ ⟨rfl, Nat.zero_le _, [], bl, rfl, he, by simpa using w1⟩
  rintro i E S2 ⟨rfl, hi, b1, b2, hb, hd, w2⟩ IHl
  have w2' := w2
  obtain ⟨k2, buf2, h2, hl2, ho2⟩ := w2'
  by_cases hq : i < (elems v).length
  · by_cases hf : 100000 < buf2.length
    · have hfull : lim Tryz.prog (.call 69 [.ptr c 0]) S2 = some (.ret (.bool true) S2) := by rw [h2.full, decide_eq_true hf]
      repeat' first
       | refine Opl.val (op_lenL rfl hv.isL rfl) rfl ?_
       | refine Opl.val (op_int rfl rfl rfl (lss_yes hq)) rfl ?_
       | refine Opl.gon (q := true) rfl rfl (fun _ => ?_) (fun h => by cases h)
       | refine Opl.callr rfl (by kernel_rfl) hfull rfl ?_
       | refine Go.condF rfl ?_
       | refine .std ?_ | refine .nil ?_ | refine .seq ?_ | refine .region ?_ | refine .xs ?_ | refine .kb ?_ | refine .leaf ?_ | refine .block ?_ | refine .gn ?_ | refine .dr ?_ | fail
      refine At.fn rfl rfl rfl ?_
      rw [hb, ← List.append_assoc]
      exact RQ.stop k2 h2 hl2 hf
    · have hfull : lim Tryz.prog (.call 69 [.ptr c 0]) S2 = some (.ret (.bool false) S2) := by rw [h2.full, decide_eq_false hf]
      obtain ⟨be, b3, hb3, hel, hrest⟩ := hd.drop (List.drop_eq_getElem_cons hq)
      have hix : (elems v)[i]? = some (elems v)[i] := List.getElem?_eq_getElem hq
      obtain ⟨lt, tk, hvl⟩ := hv.el hix
      have hel' : loadE Tryz.prog 221 (.cptr none (elems v)[i].cells 0) S2 = some (.agg (elems v)[i].cells) := ld_agg (Pt.cptr _ _ _) (by simpa [sch] using hel.len)
      have hBe : buf.length + (encI ((elems v).length : Nat) ++ b1 ++ be).length ≤ most := by rw [hb, hb3] at hB0; simp at hB0 ⊢; omega
      repeat' first
       | refine Opl.val (op_lenL rfl hv.isL rfl) rfl ?_
       | refine Opl.val (op_int rfl rfl rfl (lss_yes hq)) rfl ?_
       | refine Opl.gon (q := true) rfl rfl (fun _ => ?_) (fun h => by cases h)
       | refine Opl.callr rfl (by kernel_rfl) hfull rfl ?_
       | refine Go.condT rfl ?_
       | refine Opl.val (op_ixaL (by exact (congrArg some hvl)) rfl hix) rfl ?_
       | refine Opl.val (op_load rfl hel') rfl ?_
       | refine Opl.callR w2 rfl (by kernel_rfl) (IH hel) hBe rfl (fun S3 w3 k3 _ => ?_)
       | refine Opl.val (op_int rfl rfl rfl (inc_ok (i := i) (by omega))) rfl ?_
       | refine .std ?_ | refine .nil ?_ | refine .seq ?_ | refine .region ?_ | refine .xs ?_ | refine .kb ?_ | refine .leaf ?_ | refine .block ?_ | refine .gn ?_ | refine .dr ?_ | fail
      exact (IHl (i + 1) _ S3 (by omega) ⟨rfl, by omega, b1 ++ be, b3, by rw [hb, hb3, List.append_assoc], hrest, by rw [← List.append_assoc]; exact w3⟩).weaken ⟨rfl, rfl, rfl, trivial⟩
  · have hq2 : i = (elems v).length := by omega
    rw [List.drop_eq_nil_of_le (by omega)] at hd
    obtain rfl := hd.nil_inv
    repeat' first
     | refine Opl.val (op_lenL rfl hv.isL rfl) rfl ?_
     | refine Opl.val (op_int rfl rfl rfl (lss_no hq)) rfl ?_
     | refine Go.condF rfl ?_
     | refine .std ?_ | refine .nil ?_ | refine .seq ?_ | refine .region ?_ | refine .xs ?_ | refine .kb ?_ | refine .leaf ?_ | refine .block ?_ | refine .gn ?_ | refine .dr ?_ | fail
    refine At.fn rfl rfl rfl ?_
    rw [hb, List.append_nil]; exact w2
theorem rtexts {d : Nat} {S : St} {c : Nat} {v : V} {bl : List UInt8} (hv : isLn 1 v) (hlen : (elems v).length < 4611686018427387904) (he : EncL d 1 (elems v) bl) :
    RC 126 [.ptr c 0, v] S c (encI ((elems v).length : Nat) ++ bl) := by
  intro buf h hB
  have w0 : RQ S c buf [] S := ⟨KeepB.refl _ _, buf, h, by simp, .inl (by simp)⟩
  have hB0 := hB
  simp only [List.length_append] at hB
  refine CallTo.of (n := 26) Tryz.func126 rfl rfl ?_
  repeat' first
   | refine Opl.val (op_lenL rfl hv.isL rfl) rfl ?_
   | refine Opl.callR w0 rfl (by kernel_rfl) (rnumber ((elems v).length : Nat) (by constructor <;> omega)) (by simp; omega) rfl (fun S1 w1 k1 _ => ?_)
   | refine .std ?_ | refine .nil ?_ | refine .seq ?_ | refine .region ?_ | refine .xs ?_ | refine .kb ?_ | refine .leaf ?_ | refine .block ?_ | refine .gn ?_ | refine .dr ?_ | fail
  refine Go.weaken (E' := [(0, .ptr c 0), (1, v), (4, .int .i64 (0 : Nat))]) ?_ ⟨rfl, rfl, rfl, trivial⟩
  refine Go.loop_ind (α := Nat) (fun i => (elems v).length - i) (fun i E S' => E = [(0, .ptr c 0), (1, v), (4, .int .i64 i)] ∧ i ≤ (elems v).length ∧ ∃ b1 b2, bl = b1 ++ b2 ∧ EncL d 1 ((elems v).drop i) b2 ∧
    RQ S c buf (encI ((elems v).length : Nat) ++ b1) S') ?_ 0 _ _ ⟨rfl, Nat.zero_le _, [], bl, rfl, he, by simpa using w1⟩
  rintro i E S2 ⟨rfl, hi, b1, b2, hb, hd, w2⟩ IHl
  have w2' := w2
  obtain ⟨k2, buf2, h2, hl2, ho2⟩ := w2'
  by_cases hq : i < (elems v).length
  · by_cases hf : 100000 < buf2.length
    · have hfull : lim Tryz.prog (.call 69 [.ptr c 0]) S2 = some (.ret (.bool true) S2) := by rw [h2.full, decide_eq_true hf]
      repeat' first
       | refine Opl.val (op_lenL rfl hv.isL rfl) rfl ?_
       | refine Opl.val (op_int rfl rfl rfl (lss_yes hq)) rfl ?_
       | refine Opl.gon (q := true) rfl rfl (fun _ => ?_) (fun h => by cases h)
       | refine Opl.callr rfl (by kernel_rfl) hfull rfl ?_
       | refine Go.condF rfl ?_
       | refine .std ?_ | refine .nil ?_ | refine .seq ?_ | refine .region ?_ | refine .xs ?_ | refine .kb ?_ | refine .leaf ?_ | refine .block ?_ | refine .gn ?_ | refine .dr ?_ | fail
      refine At.fn rfl rfl rfl ?_
      rw [hb, ← List.append_assoc]
      exact RQ.stop k2 h2 hl2 hf
    · have hfull : lim Tryz.prog (.call 69 [.ptr c 0]) S2 = some (.ret (.bool false) S2) := by rw [h2.full, decide_eq_false hf]
      obtain ⟨be, b3, hb3, hel, hrest⟩ := hd.drop (List.drop_eq_getElem_cons hq)
      have hix : (elems v)[i]? = some (elems v)[i] := List.getElem?_eq_getElem hq
      obtain ⟨lt, tk, hvl⟩ := hv.el hix
      obtain ⟨n0, c0, b0, hn0, hce, rfl, he0⟩ := EncF.invS hel
      obtain ⟨rfl, rfl⟩ := EncF.invN he0
      have hel' : loadE Tryz.prog 9 (.cptr none (elems v)[i].cells 0) S2 = some (.str n0) := by rw [hce]; exact ld_one (Pt.cptr _ _ _)
      have hBe : buf.length + (encI ((elems v).length : Nat) ++ b1 ++ encS n0).length ≤ most := by rw [hb, hb3] at hB0; simp at hB0 ⊢; omega
      repeat' first
       | refine Opl.val (op_lenL rfl hv.isL rfl) rfl ?_
       | refine Opl.val (op_int rfl rfl rfl (lss_yes hq)) rfl ?_
       | refine Opl.gon (q := true) rfl rfl (fun _ => ?_) (fun h => by cases h)
       | refine Opl.callr rfl (by kernel_rfl) hfull rfl ?_
       | refine Go.condT rfl ?_
       | refine Opl.val (op_ixaL (by exact (congrArg some hvl)) rfl hix) rfl ?_
       | refine Opl.val (op_load rfl hel') rfl ?_
       | refine Opl.callR w2 rfl (by kernel_rfl) (rtext n0 hn0) hBe rfl (fun S3 w3 k3 _ => ?_)
       | refine Opl.val (op_int rfl rfl rfl (inc_ok (i := i) (by omega))) rfl ?_
       | refine .std ?_ | refine .nil ?_ | refine .seq ?_ | refine .region ?_ | refine .xs ?_ | refine .kb ?_ | refine .leaf ?_ | refine .block ?_ | refine .gn ?_ | refine .dr ?_ | fail
      exact (IHl (i + 1) _ S3 (by omega) ⟨rfl, by omega, b1 ++ encS n0, b3, by rw [hb, hb3]; simp, hrest, by rw [← List.append_assoc]; exact w3⟩).weaken ⟨rfl, rfl, rfl, trivial⟩
  · have hq2 : i = (elems v).length := by omega
    rw [List.drop_eq_nil_of_le (by omega)] at hd
    obtain rfl := hd.nil_inv
    repeat' first
     | refine Opl.val (op_lenL rfl hv.isL rfl) rfl ?_
     | refine Opl.val (op_int rfl rfl rfl (lss_no hq)) rfl ?_
     | refine Go.condF rfl ?_
     | refine .std ?_ | refine .nil ?_ | refine .seq ?_ | refine .region ?_ | refine .xs ?_ | refine .kb ?_ | refine .leaf ?_ | refine .block ?_ | refine .gn ?_ | refine .dr ?_ | fail
    refine At.fn rfl rfl rfl ?_
    rw [hb, List.append_nil]; exact w2
set_option maxHeartbeats 8000000 in
theorem rtyp {d : Nat} (IH : ∀ d', d' < d → PAll d') {S : St} {c : Nat} {cs : List V} {bs : List UInt8} (he : EncF d (sch 5) cs bs) : RC 128 [.ptr c 0, .agg cs] S c bs := by
  intro buf h hB
  obtain ⟨nt0, ct0, et0, hnt0, rfl, rfl, the0⟩ := EncF.invI he
  obtain ⟨nt1, ct1, et1, hnt1, rfl, rfl, the1⟩ := EncF.invI the0
  obtain ⟨st2, ct2, et2, hst2, rfl, rfl, the2⟩ := EncF.invS the1
  obtain ⟨dt3, vt3, lt3, ct3, et3, hdt3, hvt3, hlt3, helt3, rfl, rfl, the3⟩ := EncF.invL the2
  obtain ⟨dt4, vt4, lt4, ct4, et4, hdt4, hvt4, hlt4, helt4, rfl, rfl, the4⟩ := EncF.invL the3
  obtain ⟨nt5, ct5, et5, hnt5, rfl, rfl, the5⟩ := EncF.invI the4
  obtain ⟨rfl, rfl⟩ := EncF.invN the5
  have hlt := h.lt
  obtain ⟨S0, hS0⟩ : ∃ S0, S0 = S.new (.box 221 (.int .i64 nt0 :: .int .i64 nt1 :: .str st2 :: vt3 :: vt4 :: .int .i64 nt5 :: [])) := ⟨_, rfl⟩
  have hs0 : Same S S0 := by rw [hS0]; exact Same.new _ _
  have hx : S0.h.find S.next = some (.box 221 (.int .i64 nt0 :: .int .i64 nt1 :: .str st2 :: vt3 :: vt4 :: .int .i64 nt5 :: [])) := by rw [hS0]; simp [St.new, Tr.find_put]
  have hn0' : S.next < S0.next := by rw [hS0]; simp [St.new]
  have hp : Src S0 c (.ptr S.next 0) (.int .i64 nt0 :: .int .i64 nt1 :: .str st2 :: vt3 :: vt4 :: .int .i64 nt5 :: []) := ⟨⟨_, _, hx, fun i v h => by simpa using h⟩, by omega, hn0'⟩
  have f0 : Src S0 c (padd (.ptr S.next 0) 0) [.int .i64 nt0] := hp.at 0 rfl
  have f1 : Src S0 c (padd (.ptr S.next 0) 1) [.int .i64 nt1] := hp.at 1 rfl
  have f2 : Src S0 c (padd (.ptr S.next 0) 2) [.str st2] := hp.at 2 rfl
  have f3 : Src S0 c (padd (.ptr S.next 0) 3) [vt3] := hp.at 3 rfl
  have f4 : Src S0 c (padd (.ptr S.next 0) 4) [vt4] := hp.at 4 rfl
  have f5 : Src S0 c (padd (.ptr S.next 0) 5) [.int .i64 nt5] := hp.at 5 rfl
  have w0 : RQ S0 c buf [] S0 := ⟨KeepB.refl _ _, buf, h.same hs0, by simp, .inl (by simp)⟩
  have hBB := hB
  simp only [List.length_append, List.length_nil] at hB
  refine CallTo.of (n := 63) Tryz.func128 rfl rfl ?_
  repeat' first
   | refine Opl.val (op_box rfl) rfl (Opl.cast (S' := S0) ?_ hS0)
   | refine Opl.val (op_load rfl (ld_one (w0.1.src f0).pt)) rfl ?_
   | refine Opl.callR w0 rfl (by kernel_rfl) (rnumber nt0 hnt0) (by simp; omega) rfl (fun S101 w1 k1 _ => ?_)
   | refine Opl.val (op_load rfl (ld_one (w1.1.src f1).pt)) rfl ?_
   | refine Opl.callR w1 rfl (by kernel_rfl) (rnumber nt1 hnt1) (by simp; omega) rfl (fun S102 w2 k1 _ => ?_)
   | refine Opl.val (op_load rfl (ld_one (w2.1.src f2).pt)) rfl ?_
   | refine Opl.callR w2 rfl (by kernel_rfl) (rtext st2 hst2) (by simp; omega) rfl (fun S103 w3 k1 _ => ?_)
   | refine Opl.val (op_load rfl (ld_one (w3.1.src f3).pt)) rfl ?_
   | refine Opl.callR w3 rfl (by kernel_rfl) ((IH dt3 (by omega)).types hvt3 hlt3 helt3) (by simp; omega) rfl (fun S104 w4 k1 _ => ?_)
   | refine Opl.val (op_load rfl (ld_one (w4.1.src f4).pt)) rfl ?_
   | refine Opl.val (op_lenL rfl hvt4.isL rfl) rfl ?_
   | refine Opl.callR w4 rfl (by kernel_rfl) (rnumber ((elems vt4).length : Nat) (by constructor <;> omega)) (by simp; omega) rfl (fun S105 w5 k1 _ => ?_)
   | refine .std ?_ | refine .nil ?_ | refine .seq ?_ | refine .region ?_ | refine .xs ?_ | refine .kb ?_ | refine .leaf ?_ | refine .block ?_ | refine .gn ?_ | refine .dr ?_ | fail
  obtain ⟨pre6, hpre6⟩ : ∃ pre6, pre6 = [] ++ encI nt0 ++ encI nt1 ++ encS st2 ++ (encI ((elems vt3).length : Nat) ++ lt3) ++ encI ((elems vt4).length : Nat) := ⟨_, rfl⟩
  rw [← hpre6] at w5
  have hlpre6 := congrArg List.length hpre6
  simp only [List.length_append, List.length_nil] at hlpre6
  refine Go.joinB (fun E S' => Sub [(0, .ptr c 0), (3, .ptr S.next 0)] E ∧ RQ S0 c buf (pre6 ++ lt4) S') ?_ (fun hj6 => ?_)
  · rintro E S107 ⟨hE, w8⟩
    refine Go.weaken ?_ hE
    repeat' first
     | refine Opl.val (op_box rfl) rfl (Opl.cast (S' := S0) ?_ hS0)
     | refine Opl.val (op_load rfl (ld_one (w8.1.src f5).pt)) rfl ?_
     | refine Opl.callR w8 rfl (by kernel_rfl) (rnumber nt5 hnt5) (by simp; omega) rfl (fun S109 w9 k1 _ => ?_)
     | refine .std ?_ | refine .nil ?_ | refine .seq ?_ | refine .region ?_ | refine .xs ?_ | refine .kb ?_ | refine .leaf ?_ | refine .block ?_ | refine .gn ?_ | refine .dr ?_ | fail
    refine At.fn rfl rfl rfl ?_
    obtain ⟨q1, q2⟩ := w9
    rw [hpre6] at q2
    exact ⟨(hs0.keepB c).trans q1, by simpa using q2⟩
  · refine Go.weaken (E' := [(0, .ptr c 0), (3, .ptr S.next 0), (4, .int .i64 (0 : Nat))]) ?_ ⟨rfl, rfl, rfl, trivial⟩
    refine Go.loop_ind (α := Nat) (fun j => (elems vt4).length - j) (fun j E S' => E = [(0, .ptr c 0), (3, .ptr S.next 0), (4, .int .i64 j)] ∧ j ≤ (elems vt4).length ∧ ∃ g1 g2, lt4 = g1 ++ g2 ∧ EncL dt4 6 ((elems vt4).drop j) g2 ∧ RQ S0 c buf (pre6 ++ g1) S') ?_ 0 _ _ ⟨rfl, Nat.zero_le _, [], lt4, rfl, helt4, by simpa using w5⟩
    rintro j_6 E T_6 ⟨rfl, hjl_6, g1_6, g2_6, hg_6, hdr_6, z_6⟩ IHl_6
    obtain ⟨k_6, buf_6, h_6, hll_6, ho_6⟩ := z_6
    by_cases hq_6 : j_6 < (elems vt4).length
    · by_cases hf_6 : 100000 < buf_6.length
      · have hfull_6 : lim Tryz.prog (.call 69 [.ptr c 0]) T_6 = some (.ret (.bool true) T_6) := by rw [h_6.full, decide_eq_true hf_6]
        have hend_6 : RQ S0 c buf (pre6 ++ lt4) T_6 := by rw [hg_6, ← List.append_assoc]; exact RQ.stop k_6 h_6 hll_6 hf_6
        repeat' first
         | exact hj6 _ _ ⟨⟨rfl, rfl, trivial⟩, hend_6⟩
         | refine Opl.val (op_box rfl) rfl (Opl.cast (S' := S0) ?_ hS0)
         | refine Opl.val (op_load rfl (ld_one (k_6.src f4).pt)) rfl ?_
         | refine Opl.val (op_lenL rfl hvt4.isL rfl) rfl ?_
         | refine Opl.val (op_int rfl rfl rfl (lss_yes hq_6)) rfl ?_
         | refine Opl.gon (q := true) rfl rfl (fun _ => ?_) (fun h => by cases h)
         | refine Opl.callr rfl (by kernel_rfl) hfull_6 rfl ?_
         | refine Go.condF rfl ?_
         | refine .std ?_ | refine .nil ?_ | refine .seq ?_ | refine .region ?_ | refine .xs ?_ | refine .kb ?_ | refine .leaf ?_ | refine .block ?_ | refine .gn ?_ | refine .dr ?_ | fail
      · have hfull_6 : lim Tryz.prog (.call 69 [.ptr c 0]) T_6 = some (.ret (.bool false) T_6) := by rw [h_6.full, decide_eq_false hf_6]
        obtain ⟨ge_6, g3_6, hg3_6, hge_6, hr_6⟩ := hdr_6.drop (List.drop_eq_getElem_cons hq_6)
        have hix_6 : (elems vt4)[j_6]? = some (elems vt4)[j_6] := List.getElem?_eq_getElem hq_6
        obtain ⟨lt_6, tk_6, hvl_6⟩ := hvt4.el hix_6
        have hB_6 : buf_6.length + ge_6.length ≤ most := by rw [hg_6, hg3_6] at hBB; simp at hBB hll_6; omega
        have hll_6' := hll_6
        simp only [List.length_append] at hll_6
        obtain ⟨gs_6, hgs_6⟩ : ∃ gs_6, gs_6 = (elems vt4)[j_6].cells := ⟨_, rfl⟩
        rw [← hgs_6] at hge_6
        obtain ⟨sgx0, cgx0, egx0, hsgx0, rfl, rfl, gxhe0⟩ := EncF.invS hge_6
        obtain ⟨ngx1, cgx1, egx1, hngx1, rfl, rfl, gxhe1⟩ := EncF.invI gxhe0
        obtain ⟨rfl, rfl⟩ := EncF.invN gxhe1
        simp only [List.length_append, List.length_nil] at hB_6
        have hp_6 : ∀ W, Pt W (.cptr none (.str sgx0 :: .int .i64 ngx1 :: []) 0) (.str sgx0 :: .int .i64 ngx1 :: []) := fun W => Pt.cptr _ _ _
        have a_6_0 : ∀ W, Pt W (padd (.cptr none (.str sgx0 :: .int .i64 ngx1 :: []) 0) 0) [.str sgx0] := fun W => (hp_6 W).at 0 rfl
        have a_6_1 : ∀ W, Pt W (padd (.cptr none (.str sgx0 :: .int .i64 ngx1 :: []) 0) 1) [.int .i64 ngx1] := fun W => (hp_6 W).at 1 rfl
        have x_6 : RQ T_6 c buf_6 [] T_6 := ⟨KeepB.refl _ _, buf_6, h_6, by simp, .inl (by simp)⟩
        repeat' first
         | refine Opl.val (op_box rfl) rfl (Opl.cast (S' := S0) ?_ hS0)
         | refine Opl.val (op_load rfl (ld_one (k_6.src f4).pt)) rfl ?_
         | refine Opl.val (op_lenL rfl hvt4.isL rfl) rfl ?_
         | refine Opl.val (op_int rfl rfl rfl (lss_yes hq_6)) rfl ?_
         | refine Opl.gon (q := true) rfl rfl (fun _ => ?_) (fun h => by cases h)
         | refine Opl.callr rfl (by kernel_rfl) hfull_6 rfl ?_
         | refine Go.condT rfl ?_
         | (refine Opl.val (op_ixaL (by exact (congrArg some hvl_6)) rfl hix_6) rfl ?_; rw [← hgs_6])
         | refine Opl.val (op_int rfl rfl rfl (inc_ok (i := j_6) (by omega))) rfl ?_
         | refine Opl.val (op_load rfl (ld_one (a_6_0 _))) rfl ?_
         | refine Opl.callR x_6 rfl (by kernel_rfl) (rtext sgx0 hsgx0) (by simp; omega) rfl (fun S110 w10 k1 _ => ?_)
         | refine Opl.val (op_load rfl (ld_one ((k_6.trans w10.1).src f4).pt)) rfl ?_
         | refine Opl.val (op_load rfl (ld_one (a_6_1 _))) rfl ?_
         | refine Opl.callR w10 rfl (by kernel_rfl) (rnumber ngx1 hngx1) (by simp; omega) rfl (fun S111 w11 k1 _ => ?_)
         | refine Opl.val (op_load rfl (ld_one ((k_6.trans w11.1).src f4).pt)) rfl ?_
         | refine .std ?_ | refine .nil ?_ | refine .seq ?_ | refine .region ?_ | refine .xs ?_ | refine .kb ?_ | refine .leaf ?_ | refine .block ?_ | refine .gn ?_ | refine .dr ?_ | fail
        refine (IHl_6 (j_6 + 1) _ S111 (by omega) ⟨rfl, by omega, g1_6 ++ (encS sgx0 ++ (encI ngx1 ++ [])), g3_6, by rw [hg_6, hg3_6]; simp only [List.append_assoc], hr_6, ?_⟩).weaken ⟨rfl, rfl, rfl, trivial⟩
        have hz := RQ.cat k_6 hll_6' ho_6 w11
        simpa using hz
    · have hq2 : j_6 = (elems vt4).length := by omega
      rw [List.drop_eq_nil_of_le (by omega)] at hdr_6
      obtain rfl := hdr_6.nil_inv
      have hend_6 : RQ S0 c buf (pre6 ++ lt4) T_6 := by rw [hg_6, List.append_nil]; exact ⟨k_6, buf_6, h_6, hll_6, ho_6⟩
      repeat' first
       | exact hj6 _ _ ⟨⟨rfl, rfl, trivial⟩, hend_6⟩
       | refine Opl.val (op_box rfl) rfl (Opl.cast (S' := S0) ?_ hS0)
       | refine Opl.val (op_load rfl (ld_one (k_6.src f4).pt)) rfl ?_
       | refine Opl.val (op_lenL rfl hvt4.isL rfl) rfl ?_
       | refine Opl.val (op_int rfl rfl rfl (lss_no hq_6)) rfl ?_
       | refine Go.condF rfl ?_
       | refine .std ?_ | refine .nil ?_ | refine .seq ?_ | refine .region ?_ | refine .xs ?_ | refine .kb ?_ | refine .leaf ?_ | refine .block ?_ | refine .gn ?_ | refine .dr ?_ | fail
set_option maxHeartbeats 8000000 in
theorem rexpr {d : Nat} (IH : ∀ d', d' < d → PAll d') {S : St} {c : Nat} {cs : List V} {bs : List UInt8} (he : EncF d (sch 11) cs bs) : RC 71 [.ptr c 0, .agg cs] S c bs := by
  intro buf h hB
  obtain ⟨nt0, ct0, et0, hnt0, rfl, rfl, the0⟩ := EncF.invI he
  obtain ⟨nt1, ct1, et1, hnt1, rfl, rfl, the1⟩ := EncF.invI the0
  obtain ⟨st2, ct2, et2, hst2, rfl, rfl, the2⟩ := EncF.invS the1
  obtain ⟨st3, ct3, et3, hst3, rfl, rfl, the3⟩ := EncF.invS the2
  obtain ⟨dt4, vt4, lt4, ct4, et4, hdt4, hvt4, hlt4, helt4, rfl, rfl, the4⟩ := EncF.invL the3
  obtain ⟨dt5, vt5, lt5, ct5, et5, hdt5, hvt5, hlt5, helt5, rfl, rfl, the5⟩ := EncF.invL the4
  obtain ⟨dt6, vt6, lt6, ct6, et6, hdt6, hvt6, hlt6, helt6, rfl, rfl, the6⟩ := EncF.invL the5
  obtain ⟨rfl, rfl⟩ := EncF.invN the6
  have hlt := h.lt
  obtain ⟨S0, hS0⟩ : ∃ S0, S0 = S.new (.box 30 (.int .i64 nt0 :: .int .i64 nt1 :: .str st2 :: .str st3 :: vt4 :: vt5 :: vt6 :: [])) := ⟨_, rfl⟩
  have hs0 : Same S S0 := by rw [hS0]; exact Same.new _ _
  have hx : S0.h.find S.next = some (.box 30 (.int .i64 nt0 :: .int .i64 nt1 :: .str st2 :: .str st3 :: vt4 :: vt5 :: vt6 :: [])) := by rw [hS0]; simp [St.new, Tr.find_put]
  have hn0' : S.next < S0.next := by rw [hS0]; simp [St.new]
  have hp : Src S0 c (.ptr S.next 0) (.int .i64 nt0 :: .int .i64 nt1 :: .str st2 :: .str st3 :: vt4 :: vt5 :: vt6 :: []) := ⟨⟨_, _, hx, fun i v h => by simpa using h⟩, by omega, hn0'⟩
  have f0 : Src S0 c (padd (.ptr S.next 0) 0) [.int .i64 nt0] := hp.at 0 rfl
  have f1 : Src S0 c (padd (.ptr S.next 0) 1) [.int .i64 nt1] := hp.at 1 rfl
  have f2 : Src S0 c (padd (.ptr S.next 0) 2) [.str st2] := hp.at 2 rfl
  have f3 : Src S0 c (padd (.ptr S.next 0) 3) [.str st3] := hp.at 3 rfl
  have f4 : Src S0 c (padd (.ptr S.next 0) 4) [vt4] := hp.at 4 rfl
  have f5 : Src S0 c (padd (.ptr S.next 0) 5) [vt5] := hp.at 5 rfl
  have f6 : Src S0 c (padd (.ptr S.next 0) 6) [vt6] := hp.at 6 rfl
  have w0 : RQ S0 c buf [] S0 := ⟨KeepB.refl _ _, buf, h.same hs0, by simp, .inl (by simp)⟩
  have hBB := hB
  simp only [List.length_append, List.length_nil] at hB
  refine CallTo.of (n := 91) Tryz.func71 rfl rfl ?_
  repeat' first
   | refine Opl.val (op_box rfl) rfl (Opl.cast (S' := S0) ?_ hS0)
   | refine Opl.val (op_load rfl (ld_one (w0.1.src f0).pt)) rfl ?_
   | refine Opl.callR w0 rfl (by kernel_rfl) (rnumber nt0 hnt0) (by simp; omega) rfl (fun S101 w1 k1 _ => ?_)
   | refine Opl.val (op_load rfl (ld_one (w1.1.src f1).pt)) rfl ?_
   | refine Opl.callR w1 rfl (by kernel_rfl) (rnumber nt1 hnt1) (by simp; omega) rfl (fun S102 w2 k1 _ => ?_)
   | refine Opl.val (op_load rfl (ld_one (w2.1.src f2).pt)) rfl ?_
   | refine Opl.callR w2 rfl (by kernel_rfl) (rtext st2 hst2) (by simp; omega) rfl (fun S103 w3 k1 _ => ?_)
   | refine Opl.val (op_load rfl (ld_one (w3.1.src f3).pt)) rfl ?_
   | refine Opl.callR w3 rfl (by kernel_rfl) (rtext st3 hst3) (by simp; omega) rfl (fun S104 w4 k1 _ => ?_)
   | refine Opl.val (op_load rfl (ld_one (w4.1.src f4).pt)) rfl ?_
   | refine Opl.callR w4 rfl (by kernel_rfl) (rtexts hvt4 hlt4 helt4) (by simp; omega) rfl (fun S105 w5 k1 _ => ?_)
   | refine Opl.val (op_load rfl (ld_one (w5.1.src f5).pt)) rfl ?_
   | refine Opl.val (op_lenL rfl hvt5.isL rfl) rfl ?_
   | refine Opl.callR w5 rfl (by kernel_rfl) (rnumber ((elems vt5).length : Nat) (by constructor <;> omega)) (by simp; omega) rfl (fun S106 w6 k1 _ => ?_)
   | refine .std ?_ | refine .nil ?_ | refine .seq ?_ | refine .region ?_ | refine .xs ?_ | refine .kb ?_ | refine .leaf ?_ | refine .block ?_ | refine .gn ?_ | refine .dr ?_ | fail
  obtain ⟨pre7, hpre7⟩ : ∃ pre7, pre7 = [] ++ encI nt0 ++ encI nt1 ++ encS st2 ++ encS st3 ++ (encI ((elems vt4).length : Nat) ++ lt4) ++ encI ((elems vt5).length : Nat) := ⟨_, rfl⟩
  rw [← hpre7] at w6
  have hlpre7 := congrArg List.length hpre7
  simp only [List.length_append, List.length_nil] at hlpre7
  refine Go.joinB (fun E S' => Sub [(0, .ptr c 0), (3, .ptr S.next 0)] E ∧ RQ S0 c buf (pre7 ++ lt5) S') ?_ (fun hj7 => ?_)
  · rintro E S108 ⟨hE, w9⟩
    refine Go.weaken ?_ hE
    repeat' first
     | refine Opl.val (op_box rfl) rfl (Opl.cast (S' := S0) ?_ hS0)
     | refine Opl.val (op_load rfl (ld_one (w9.1.src f6).pt)) rfl ?_
     | refine Opl.val (op_lenL rfl hvt6.isL rfl) rfl ?_
     | refine Opl.callR w9 rfl (by kernel_rfl) (rnumber ((elems vt6).length : Nat) (by constructor <;> omega)) (by simp; omega) rfl (fun S110 w10 k1 _ => ?_)
     | refine .std ?_ | refine .nil ?_ | refine .seq ?_ | refine .region ?_ | refine .xs ?_ | refine .kb ?_ | refine .leaf ?_ | refine .block ?_ | refine .gn ?_ | refine .dr ?_ | fail
    obtain ⟨pre11, hpre11⟩ : ∃ pre11, pre11 = pre7 ++ lt5 ++ encI ((elems vt6).length : Nat) := ⟨_, rfl⟩
    rw [← hpre11] at w10
    have hlpre11 := congrArg List.length hpre11
    simp only [List.length_append, List.length_nil] at hlpre11
    refine Go.joinE (fun E S' => Sub [(0, .ptr c 0), (3, .ptr S.next 0)] E ∧ RQ S0 c buf (pre11 ++ lt6) S') ?_ (fun hj11 => ?_)
    · rintro E S112 ⟨hE, w13⟩
      refine At.weaken ?_ hE
      repeat' first
       | refine Opl.val (op_box rfl) rfl (Opl.cast (S' := S0) ?_ hS0)
       | refine .std ?_ | refine .nil ?_ | refine .seq ?_ | refine .region ?_ | refine .xs ?_ | refine .kb ?_ | refine .leaf ?_ | refine .block ?_ | refine .gn ?_ | refine .dr ?_ | fail
      refine At.fn rfl rfl rfl ?_
      obtain ⟨q1, q2⟩ := w13
      rw [hpre11, hpre7] at q2
      exact ⟨(hs0.keepB c).trans q1, by simpa using q2⟩
    · refine Go.weaken (E' := [(0, .ptr c 0), (3, .ptr S.next 0), (5, .int .i64 (0 : Nat))]) ?_ ⟨rfl, rfl, rfl, trivial⟩
      refine Go.loop_ind (α := Nat) (fun j => (elems vt6).length - j) (fun j E S' => E = [(0, .ptr c 0), (3, .ptr S.next 0), (5, .int .i64 j)] ∧ j ≤ (elems vt6).length ∧ ∃ g1 g2, lt6 = g1 ++ g2 ∧ EncL dt6 12 ((elems vt6).drop j) g2 ∧ RQ S0 c buf (pre11 ++ g1) S') ?_ 0 _ _ ⟨rfl, Nat.zero_le _, [], lt6, rfl, helt6, by simpa using w10⟩
      rintro j_11 E T_11 ⟨rfl, hjl_11, g1_11, g2_11, hg_11, hdr_11, z_11⟩ IHl_11
      obtain ⟨k_11, buf_11, h_11, hll_11, ho_11⟩ := z_11
      by_cases hq_11 : j_11 < (elems vt6).length
      · by_cases hf_11 : 100000 < buf_11.length
        · have hfull_11 : lim Tryz.prog (.call 69 [.ptr c 0]) T_11 = some (.ret (.bool true) T_11) := by rw [h_11.full, decide_eq_true hf_11]
          have hend_11 : RQ S0 c buf (pre11 ++ lt6) T_11 := by rw [hg_11, ← List.append_assoc]; exact RQ.stop k_11 h_11 hll_11 hf_11
          repeat' first
           | exact hj11 _ _ ⟨⟨rfl, rfl, trivial⟩, hend_11⟩
           | refine Opl.val (op_box rfl) rfl (Opl.cast (S' := S0) ?_ hS0)
           | refine Opl.val (op_load rfl (ld_one (k_11.src f6).pt)) rfl ?_
           | refine Opl.val (op_lenL rfl hvt6.isL rfl) rfl ?_
           | refine Opl.val (op_int rfl rfl rfl (lss_yes hq_11)) rfl ?_
           | refine Opl.gon (q := true) rfl rfl (fun _ => ?_) (fun h => by cases h)
           | refine Opl.callr rfl (by kernel_rfl) hfull_11 rfl ?_
           | refine Go.condF rfl ?_
           | refine .std ?_ | refine .nil ?_ | refine .seq ?_ | refine .region ?_ | refine .xs ?_ | refine .kb ?_ | refine .leaf ?_ | refine .block ?_ | refine .gn ?_ | refine .dr ?_ | fail
        · have hfull_11 : lim Tryz.prog (.call 69 [.ptr c 0]) T_11 = some (.ret (.bool false) T_11) := by rw [h_11.full, decide_eq_false hf_11]
          obtain ⟨ge_11, g3_11, hg3_11, hge_11, hr_11⟩ := hdr_11.drop (List.drop_eq_getElem_cons hq_11)
          have hix_11 : (elems vt6)[j_11]? = some (elems vt6)[j_11] := List.getElem?_eq_getElem hq_11
          obtain ⟨lt_11, tk_11, hvl_11⟩ := hvt6.el hix_11
          have hB_11 : buf_11.length + ge_11.length ≤ most := by rw [hg_11, hg3_11] at hBB; simp at hBB hll_11; omega
          have hll_11' := hll_11
          simp only [List.length_append] at hll_11
          obtain ⟨gs_11, hgs_11⟩ : ∃ gs_11, gs_11 = (elems vt6)[j_11].cells := ⟨_, rfl⟩
          rw [← hgs_11] at hge_11
          obtain ⟨slx0, clx0, elx0, hslx0, rfl, rfl, lxhe0⟩ := EncF.invS hge_11
          obtain ⟨dlx1, vlx1, llx1, clx1, elx1, hdlx1, hvlx1, hllx1, hellx1, rfl, rfl, lxhe1⟩ := EncF.invL lxhe0
          obtain ⟨dlx2, xlx2, llx2, clx2, elx2, hdlx2, hxlx2, hxllx2, rfl, rfl, lxhe2⟩ := EncF.invT lxhe1
          obtain ⟨rfl, rfl⟩ := EncF.invN lxhe2
          simp only [List.length_append, List.length_nil] at hB_11
          have hp_11 : ∀ W, Pt W (.cptr none (.str slx0 :: vlx1 :: (xlx2 ++ [])) 0) (.str slx0 :: vlx1 :: (xlx2 ++ [])) := fun W => Pt.cptr _ _ _
          have a_11_0 : ∀ W, Pt W (padd (.cptr none (.str slx0 :: vlx1 :: (xlx2 ++ [])) 0) 0) [.str slx0] := fun W => (hp_11 W).at 0 rfl
          have a_11_1 : ∀ W, Pt W (padd (.cptr none (.str slx0 :: vlx1 :: (xlx2 ++ [])) 0) 1) [vlx1] := fun W => (hp_11 W).at 1 rfl
          have a_11_2 : ∀ W, Pt W (padd (.cptr none (.str slx0 :: vlx1 :: (xlx2 ++ [])) 0) 2) xlx2 := fun W => (hp_11 W).sub 2 fun i v hi => by
            have hlt := (List.getElem?_eq_some_iff.1 hi).1
            simp only [szs] at hxllx2
            simp [List.getElem?_append, List.getElem?_cons, hxllx2]
            try (first | exact hi | (rw [if_pos (by omega)]; exact hi) | (split <;> first | omega | exact hi | (split <;> first | omega | exact hi)))
          have x_11 : RQ T_11 c buf_11 [] T_11 := ⟨KeepB.refl _ _, buf_11, h_11, by simp, .inl (by simp)⟩
          repeat' first
           | refine Opl.val (op_box rfl) rfl (Opl.cast (S' := S0) ?_ hS0)
           | refine Opl.val (op_load rfl (ld_one (k_11.src f6).pt)) rfl ?_
           | refine Opl.val (op_lenL rfl hvt6.isL rfl) rfl ?_
           | refine Opl.val (op_int rfl rfl rfl (lss_yes hq_11)) rfl ?_
           | refine Opl.gon (q := true) rfl rfl (fun _ => ?_) (fun h => by cases h)
           | refine Opl.callr rfl (by kernel_rfl) hfull_11 rfl ?_
           | refine Go.condT rfl ?_
           | (refine Opl.val (op_ixaL (by exact (congrArg some hvl_11)) rfl hix_11) rfl ?_; rw [← hgs_11])
           | refine Opl.val (op_int rfl rfl rfl (inc_ok (i := j_11) (by omega))) rfl ?_
           | refine Opl.val (op_load rfl (ld_one (a_11_0 _))) rfl ?_
           | refine Opl.callR x_11 rfl (by kernel_rfl) (rtext slx0 hslx0) (by simp; omega) rfl (fun S114 w14 k1 _ => ?_)
           | refine Opl.val (op_load rfl (ld_one ((k_11.trans w14.1).src f6).pt)) rfl ?_
           | refine Opl.val (op_load rfl (ld_one (a_11_1 _))) rfl ?_
           | refine Opl.callR w14 rfl (by kernel_rfl) (rtexts hvlx1 hllx1 hellx1) (by simp; omega) rfl (fun S115 w15 k1 _ => ?_)
           | refine Opl.val (op_load rfl (ld_one ((k_11.trans w15.1).src f6).pt)) rfl ?_
           | refine Opl.val (op_load rfl (ld_agg (a_11_2 _) (by rw [hxllx2]; rfl))) rfl ?_
           | refine Opl.callR w15 rfl (by kernel_rfl) ((IH dlx2 (by omega)).expr hxlx2) (by simp; omega) rfl (fun S116 w16 k1 _ => ?_)
           | refine Opl.val (op_load rfl (ld_one ((k_11.trans w16.1).src f6).pt)) rfl ?_
           | refine .std ?_ | refine .nil ?_ | refine .seq ?_ | refine .region ?_ | refine .xs ?_ | refine .kb ?_ | refine .leaf ?_ | refine .block ?_ | refine .gn ?_ | refine .dr ?_ | fail
          refine (IHl_11 (j_11 + 1) _ S116 (by omega) ⟨rfl, by omega, g1_11 ++ (encS slx0 ++ (encI ((elems vlx1).length : Nat) ++ llx1 ++ (llx2 ++ []))), g3_11, by rw [hg_11, hg3_11]; simp only [List.append_assoc], hr_11, ?_⟩).weaken ⟨rfl, rfl, rfl, trivial⟩
          have hz := RQ.cat k_11 hll_11' ho_11 w16
          simpa using hz
      · have hq2 : j_11 = (elems vt6).length := by omega
        rw [List.drop_eq_nil_of_le (by omega)] at hdr_11
        obtain rfl := hdr_11.nil_inv
        have hend_11 : RQ S0 c buf (pre11 ++ lt6) T_11 := by rw [hg_11, List.append_nil]; exact ⟨k_11, buf_11, h_11, hll_11, ho_11⟩
        repeat' first
         | exact hj11 _ _ ⟨⟨rfl, rfl, trivial⟩, hend_11⟩
         | refine Opl.val (op_box rfl) rfl (Opl.cast (S' := S0) ?_ hS0)
         | refine Opl.val (op_load rfl (ld_one (k_11.src f6).pt)) rfl ?_
         | refine Opl.val (op_lenL rfl hvt6.isL rfl) rfl ?_
         | refine Opl.val (op_int rfl rfl rfl (lss_no hq_11)) rfl ?_
         | refine Go.condF rfl ?_
         | refine .std ?_ | refine .nil ?_ | refine .seq ?_ | refine .region ?_ | refine .xs ?_ | refine .kb ?_ | refine .leaf ?_ | refine .block ?_ | refine .gn ?_ | refine .dr ?_ | fail
  · refine Go.weaken (E' := [(0, .ptr c 0), (3, .ptr S.next 0), (4, .int .i64 (0 : Nat))]) ?_ ⟨rfl, rfl, rfl, trivial⟩
    refine Go.loop_ind (α := Nat) (fun j => (elems vt5).length - j) (fun j E S' => E = [(0, .ptr c 0), (3, .ptr S.next 0), (4, .int .i64 j)] ∧ j ≤ (elems vt5).length ∧ ∃ g1 g2, lt5 = g1 ++ g2 ∧ EncL dt5 11 ((elems vt5).drop j) g2 ∧ RQ S0 c buf (pre7 ++ g1) S') ?_ 0 _ _ ⟨rfl, Nat.zero_le _, [], lt5, rfl, helt5, by simpa using w6⟩
    rintro j_7 E T_7 ⟨rfl, hjl_7, g1_7, g2_7, hg_7, hdr_7, z_7⟩ IHl_7
    obtain ⟨k_7, buf_7, h_7, hll_7, ho_7⟩ := z_7
    by_cases hq_7 : j_7 < (elems vt5).length
    · by_cases hf_7 : 100000 < buf_7.length
      · have hfull_7 : lim Tryz.prog (.call 69 [.ptr c 0]) T_7 = some (.ret (.bool true) T_7) := by rw [h_7.full, decide_eq_true hf_7]
        have hend_7 : RQ S0 c buf (pre7 ++ lt5) T_7 := by rw [hg_7, ← List.append_assoc]; exact RQ.stop k_7 h_7 hll_7 hf_7
        repeat' first
         | exact hj7 _ _ ⟨⟨rfl, rfl, trivial⟩, hend_7⟩
         | refine Opl.val (op_box rfl) rfl (Opl.cast (S' := S0) ?_ hS0)
         | refine Opl.val (op_load rfl (ld_one (k_7.src f5).pt)) rfl ?_
         | refine Opl.val (op_lenL rfl hvt5.isL rfl) rfl ?_
         | refine Opl.val (op_int rfl rfl rfl (lss_yes hq_7)) rfl ?_
         | refine Opl.gon (q := true) rfl rfl (fun _ => ?_) (fun h => by cases h)
         | refine Opl.callr rfl (by kernel_rfl) hfull_7 rfl ?_
         | refine Go.condF rfl ?_
         | refine .std ?_ | refine .nil ?_ | refine .seq ?_ | refine .region ?_ | refine .xs ?_ | refine .kb ?_ | refine .leaf ?_ | refine .block ?_ | refine .gn ?_ | refine .dr ?_ | fail
      · have hfull_7 : lim Tryz.prog (.call 69 [.ptr c 0]) T_7 = some (.ret (.bool false) T_7) := by rw [h_7.full, decide_eq_false hf_7]
        obtain ⟨ge_7, g3_7, hg3_7, hge_7, hr_7⟩ := hdr_7.drop (List.drop_eq_getElem_cons hq_7)
        have hix_7 : (elems vt5)[j_7]? = some (elems vt5)[j_7] := List.getElem?_eq_getElem hq_7
        obtain ⟨lt_7, tk_7, hvl_7⟩ := hvt5.el hix_7
        have hB_7 : buf_7.length + ge_7.length ≤ most := by rw [hg_7, hg3_7] at hBB; simp at hBB hll_7; omega
        have hll_7' := hll_7
        simp only [List.length_append] at hll_7
        obtain ⟨gs_7, hgs_7⟩ : ∃ gs_7, gs_7 = (elems vt5)[j_7].cells := ⟨_, rfl⟩
        rw [← hgs_7] at hge_7
        have hel_j_7 : loadE Tryz.prog 30 (.cptr none gs_7 0) T_7 = some (.agg gs_7) := ld_agg (Pt.cptr _ _ _) (by simpa [sch] using hge_7.len)
        have x0 : RQ T_7 c buf_7 [] T_7 := ⟨KeepB.refl _ _, buf_7, h_7, by simp, .inl (by simp)⟩
        repeat' first
         | refine Opl.val (op_box rfl) rfl (Opl.cast (S' := S0) ?_ hS0)
         | refine Opl.val (op_load rfl (ld_one (k_7.src f5).pt)) rfl ?_
         | refine Opl.val (op_lenL rfl hvt5.isL rfl) rfl ?_
         | refine Opl.val (op_int rfl rfl rfl (lss_yes hq_7)) rfl ?_
         | refine Opl.gon (q := true) rfl rfl (fun _ => ?_) (fun h => by cases h)
         | refine Opl.callr rfl (by kernel_rfl) hfull_7 rfl ?_
         | refine Go.condT rfl ?_
         | (refine Opl.val (op_ixaL (by exact (congrArg some hvl_7)) rfl hix_7) rfl ?_; rw [← hgs_7])
         | refine Opl.val (op_int rfl rfl rfl (inc_ok (i := j_7) (by omega))) rfl ?_
         | refine Opl.val (op_load rfl hel_j_7) rfl ?_
         | refine Opl.callR x0 rfl (by kernel_rfl) ((IH _ hdt5).expr hge_7) (by simp; omega) rfl (fun S118 w17 k1 _ => ?_)
         | refine .std ?_ | refine .nil ?_ | refine .seq ?_ | refine .region ?_ | refine .xs ?_ | refine .kb ?_ | refine .leaf ?_ | refine .block ?_ | refine .gn ?_ | refine .dr ?_ | fail
        refine (IHl_7 (j_7 + 1) _ S118 (by omega) ⟨rfl, by omega, g1_7 ++ ge_7, g3_7, by rw [hg_7, hg3_7]; simp only [List.append_assoc], hr_7, ?_⟩).weaken ⟨rfl, rfl, rfl, trivial⟩
        have hz := RQ.cat k_7 hll_7' ho_7 w17
        simpa using hz
    · have hq2 : j_7 = (elems vt5).length := by omega
      rw [List.drop_eq_nil_of_le (by omega)] at hdr_7
      obtain rfl := hdr_7.nil_inv
      have hend_7 : RQ S0 c buf (pre7 ++ lt5) T_7 := by rw [hg_7, List.append_nil]; exact ⟨k_7, buf_7, h_7, hll_7, ho_7⟩
      repeat' first
       | exact hj7 _ _ ⟨⟨rfl, rfl, trivial⟩, hend_7⟩
       | refine Opl.val (op_box rfl) rfl (Opl.cast (S' := S0) ?_ hS0)
       | refine Opl.val (op_load rfl (ld_one (k_7.src f5).pt)) rfl ?_
       | refine Opl.val (op_lenL rfl hvt5.isL rfl) rfl ?_
       | refine Opl.val (op_int rfl rfl rfl (lss_no hq_7)) rfl ?_
       | refine Go.condF rfl ?_
       | refine .std ?_ | refine .nil ?_ | refine .seq ?_ | refine .region ?_ | refine .xs ?_ | refine .kb ?_ | refine .leaf ?_ | refine .block ?_ | refine .gn ?_ | refine .dr ?_ | fail
theorem pAll : ∀ d, PAll d := by
  intro d
  induction d using Nat.strongRecOn with
  | _ d IH => exact ⟨rtyp IH, fun hv hl he => rtypes (rtyp IH) hv hl he, rexpr IH⟩
end Go.Proofs.YtilldjgagokcfaaGreat
