import Derived.Test.YtilldjgagokcfaaGreatR4
set_option linter.unusedVariables false
set_option linter.unusedSimpArgs false
namespace Go.Proofs.YtilldjgagokcfaaGreat
open Go.RowKit Go.Ev
set_option maxRecDepth 100000
set_option linter.unusedVariables false
set_option maxHeartbeats 4000000 in
theorem rsegments {d : Nat} (IH : ∀ d', d' < d → RAll d') {S : St} {c : Nat} {v : V} {bl : List UInt8} (hv : isLn 5 v) (hlen : (elems v).length < 4611686018427387904) (he : EncL d 3 (elems v) bl) :
    RC 141 [.ptr c 0, v] S c (encI ((elems v).length : Nat) ++ bl) := by
  intro buf h hB
  have w0 : RQ S c buf [] S := ⟨KeepB.refl _ _, buf, h, by simp, .inl (by simp)⟩
  have hB0 := hB
  simp only [List.length_append] at hB
  refine CallTo.of (n := 81) Tryz.func141 rfl rfl ?_
  repeat' first
   | refine Opl.val (op_lenL rfl hv.isL rfl) rfl ?_
   | refine Opl.callR w0 rfl (by kernel_rfl) (rnumber ((elems v).length : Nat) (by constructor <;> omega)) (by simp; omega) rfl (fun S1 w1 k1 _ => ?_)
   | refine .std ?_ | refine .nil ?_ | refine .seq ?_ | refine .region ?_ | refine .xs ?_ | refine .kb ?_ | refine .leaf ?_ | refine .block ?_ | refine .gn ?_ | refine .dr ?_ | fail
  refine Go.weaken (E' := [(0, .ptr c 0), (1, v), (4, .int .i64 (0 : Nat))]) ?_ ⟨rfl, rfl, rfl, trivial⟩
  refine Go.loop_ind (α := Nat) (fun i => (elems v).length - i) (fun i E S' => E = [(0, .ptr c 0), (1, v), (4, .int .i64 i)] ∧ i ≤ (elems v).length ∧ ∃ b1 b2, bl = b1 ++ b2 ∧ EncL d 3 ((elems v).drop i) b2 ∧
    RQ S c buf (encI ((elems v).length : Nat) ++ b1) S') ?_ 0 _ _ ⟨rfl, Nat.zero_le _, [], bl, rfl, he, by simpa using w1⟩
  rintro i E S2 ⟨rfl, hi, b1, b2, hb, hd, w2⟩ IHl
  obtain ⟨k2, buf2, h2, hl2, ho2⟩ := w2
  by_cases hq : i < (elems v).length
  · by_cases hf : 100000 < buf2.length
    · have hfull : lim Tryz.prog (.call 69 [.ptr c 0]) S2 = some (.ret (.bool true) S2) := by rw [h2.full, decide_eq_true hf]
      repeat' first
       | refine Opl.val (op_lenL rfl hv.isL rfl) rfl ?_
       | refine Opl.val (op_int rfl rfl rfl (lss_yes hq)) rfl ?_
       | refine Opl.gon (q := true) rfl rfl (fun _ => ?_) (fun h => by cases h)
       | refine Opl.callr rfl (by kernel_rfl) hfull rfl ?_
       | refine Go.condF rfl ?_
       | refine .std ?_ | refine .nil ?_ | refine .seq ?_ | refine .region ?_ | refine .xs ?_ | refine .kb ?_ | refine .leaf ?_ | refine .block ?_ | refine .gn ?_ | refine .dr ?_ | fail
      refine At.fn rfl rfl rfl ?_
      rw [hb, ← List.append_assoc]
      exact RQ.stop k2 h2 hl2 hf
    · have hfull : lim Tryz.prog (.call 69 [.ptr c 0]) S2 = some (.ret (.bool false) S2) := by rw [h2.full, decide_eq_false hf]
      obtain ⟨be, b3, hb3, hel, hrest⟩ := hd.drop (List.drop_eq_getElem_cons hq)
      have hix : (elems v)[i]? = some (elems v)[i] := List.getElem?_eq_getElem hq
      obtain ⟨lt, tk, hvl⟩ := hv.el hix
      have hel' : loadE Tryz.prog 181 (.cptr none (elems v)[i].cells 0) S2 = some (.agg (elems v)[i].cells) := ld_agg (Pt.cptr _ _ _) (by simpa [sch] using hel.len)
      obtain ⟨S3, hst3, hs3, hx3, hxl⟩ := lay (S := S2) (T := 181) (z := [.int .i64 0, .str [], .int .i64 0, .nils, .nils]) rfl (by simpa [sch] using hel.len) hel.ones
      have hBe : buf2.length + be.length ≤ most := by rw [hb, hb3] at hB0; simp at hB0 hl2; omega
      obtain ⟨cs, hcs⟩ : ∃ cs, cs = (elems v)[i].cells := ⟨_, rfl⟩
      rw [← hcs] at hel hel' hst3 hx3
      obtain ⟨n0, c0, e0, hn0, rfl, rfl, he0⟩ := EncF.invI hel
      obtain ⟨s1, c1, e1, hs1, rfl, rfl, he1⟩ := EncF.invS he0
      obtain ⟨n2, c2, e2, hn2, rfl, rfl, he2⟩ := EncF.invI he1
      obtain ⟨d3, v3, l3, c3, e3, hd3, hv3, hl3, hel3, rfl, rfl, he3⟩ := EncF.invL he2
      obtain ⟨d4, v4, l4, c4, e4, hd4, hv4, hl4, hel4, rfl, rfl, he4⟩ := EncF.invL he3
      obtain ⟨rfl, rfl⟩ := EncF.invN he4
      have hc2 := h2.lt
      have hp : Src S3 c (.ptr S2.next 0) [.int .i64 n0, .str s1, .int .i64 n2, v3, v4] := ⟨⟨_, _, hx3, fun i v h => by simpa using h⟩, by omega, hxl⟩
      have f0 := hp.at 0 rfl
      have f1 := hp.at 1 rfl
      have f2 := hp.at 2 rfl
      have f3 := hp.at 3 rfl
      have f4 := hp.at 4 rfl
      have z0 : RQ S3 c buf2 [] S3 := ⟨KeepB.refl _ _, buf2, h2.same hs3, by simp, .inl (by simp)⟩
      simp only [List.length_append, List.length_nil] at hBe
      repeat' first
       | refine Opl.val (op_lenL rfl hv.isL rfl) rfl ?_
       | refine Opl.val (op_int rfl rfl rfl (lss_yes hq)) rfl ?_
       | refine Opl.gon (q := true) rfl rfl (fun _ => ?_) (fun h => by cases h)
       | refine Opl.callr rfl (by kernel_rfl) hfull rfl ?_
       | refine Go.condT rfl ?_
       | refine Opl.val (op_ixaL (by exact (congrArg some hvl)) rfl hix) rfl ?_
       | (rw [← hcs]; refine Opl.val (op_load rfl hel') rfl ?_)
       | refine Opl.val op_alloc rfl ?_
       | refine Opl.eff (op_store rfl rfl hst3) ?_
       | refine Opl.val (op_load rfl (ld_one (z0.1.src f0).pt)) rfl ?_
       | refine Opl.val (op_load rfl (ld_one (z1.1.src f1).pt)) rfl ?_
       | refine Opl.val (op_load rfl (ld_one (z2.1.src f2).pt)) rfl ?_
       | refine Opl.val (op_load rfl (ld_one (z3.1.src f3).pt)) rfl ?_
       | refine Opl.val (op_load rfl (ld_one (z4.1.src f4).pt)) rfl ?_
       | refine Opl.val (op_lenL rfl hv4.isL rfl) rfl ?_
       | refine Opl.callR z0 rfl (by kernel_rfl) (rnumber n0 hn0) (by simp; omega) rfl (fun S4 z1 k1 _ => ?_)
       | refine Opl.callR z1 rfl (by kernel_rfl) (rtext s1 hs1) (by simp; omega) rfl (fun S5 z2 k1 _ => ?_)
       | refine Opl.callR z2 rfl (by kernel_rfl) (rnumber n2 hn2) (by simp; omega) rfl (fun S6 z3 k1 _ => ?_)
       | refine Opl.callR z3 rfl (by kernel_rfl) ((IH d3 hd3).values hv3 hl3 hel3) (by simp; omega) rfl (fun S7 z4 k1 _ => ?_)
       | refine Opl.callR z4 rfl (by kernel_rfl) (rnumber ((elems v4).length : Nat) (by constructor <;> omega)) (by simp; omega) rfl (fun S8 z5 k1 _ => ?_)
       | refine .std ?_ | refine .nil ?_ | refine .seq ?_ | refine .region ?_ | refine .xs ?_ | refine .kb ?_ | refine .leaf ?_ | refine .block ?_ | refine .gn ?_ | refine .dr ?_ | fail
      refine Go.weaken (E' := [(0, .ptr c 0), (1, v), (4, .int .i64 i), (5, .ptr S2.next 0), (6, .int .i64 (0 : Nat))]) ?_ ⟨rfl, rfl, rfl, rfl, rfl, trivial⟩
      obtain ⟨pre, hpre⟩ : ∃ pre, pre = encI n0 ++ encS s1 ++ encI n2 ++ (encI ((elems v3).length : Nat) ++ l3) ++ encI ((elems v4).length : Nat) := ⟨_, rfl⟩
      have z5' : RQ S3 c buf2 (pre ++ []) S8 := by rw [hpre]; simpa using z5
      have hpl : pre.length = (encI n0).length + ((encS s1).length + ((encI n2).length + ((encI ((elems v3).length : Nat)).length + l3.length + (encI ((elems v4).length : Nat)).length))) := by rw [hpre]; simp; omega
      have hbe : encI n0 ++ (encS s1 ++ (encI n2 ++ (encI ((elems v3).length : Nat) ++ l3 ++ (encI ((elems v4).length : Nat) ++ l4 ++ [])))) = pre ++ l4 := by rw [hpre]; simp
      rw [hbe] at hb3
      refine Go.loop_ind (α := Nat) (fun j => (elems v4).length - j) (fun j E S' => E = [(0, .ptr c 0), (1, v), (4, .int .i64 i), (5, .ptr S2.next 0), (6, .int .i64 j)] ∧ j ≤ (elems v4).length ∧ ∃ g1 g2, l4 = g1 ++ g2 ∧ EncL d4 4 ((elems v4).drop j) g2 ∧
        RQ S3 c buf2 (pre ++ g1) S') ?_ 0 _ _ ⟨rfl, Nat.zero_le _, [], l4, rfl, hel4, z5'⟩
      rintro j E S9 ⟨rfl, hj, g1, g2, hg, hd9, z9⟩ IHj
      obtain ⟨k9, buf9, h9, hl9, ho9⟩ := z9
      have hld := (k9.src f4).pt
      have hend : ∀ S9, RQ S3 c buf2 (pre ++ l4) S9 → RQ S c buf (encI ((elems v).length : Nat) ++ (b1 ++ (pre ++ l4))) S9 := fun S9 z => by
        rw [← List.append_assoc]; exact RQ.cat (k2.trans (hs3.keepB c)) hl2 ho2 z
      by_cases hjq : j < (elems v4).length
      · by_cases hjf : 100000 < buf9.length
        · have hfull9 : lim Tryz.prog (.call 69 [.ptr c 0]) S9 = some (.ret (.bool true) S9) := by rw [h9.full, decide_eq_true hjf]
          repeat' first
           | refine Opl.val (op_load rfl (ld_one hld)) rfl ?_
           | refine Opl.val (op_lenL rfl hv4.isL rfl) rfl ?_
           | refine Opl.val (op_int rfl rfl rfl (lss_yes hjq)) rfl ?_
           | refine Opl.gon (q := true) rfl rfl (fun _ => ?_) (fun h => by cases h)
           | refine Opl.callr rfl (by kernel_rfl) hfull9 rfl ?_
           | refine Go.condF rfl ?_
           | refine Opl.val (op_int rfl rfl rfl (inc_ok (i := i) (by omega))) rfl ?_
           | refine .std ?_ | refine .nil ?_ | refine .seq ?_ | refine .region ?_ | refine .xs ?_ | refine .kb ?_ | refine .leaf ?_ | refine .block ?_ | refine .gn ?_ | refine .dr ?_ | fail
          refine (IHl (i + 1) _ S9 (by omega) ⟨rfl, by omega, b1 ++ (pre ++ l4), b3, by rw [hb, hb3]; simp only [List.append_assoc], hrest, hend S9 ?_⟩).weaken ⟨rfl, rfl, rfl, trivial⟩
          rw [hg, ← List.append_assoc]
          exact RQ.stop k9 h9 hl9 hjf
        · have hfull9 : lim Tryz.prog (.call 69 [.ptr c 0]) S9 = some (.ret (.bool false) S9) := by rw [h9.full, decide_eq_false hjf]
          obtain ⟨ge, g3, hg3, hge, hgrest⟩ := hd9.drop (List.drop_eq_getElem_cons hjq)
          have hjx : (elems v4)[j]? = some (elems v4)[j] := List.getElem?_eq_getElem hjq
          obtain ⟨lt4, tk4, hvl4⟩ := hv4.el hjx
          have hge' : loadE Tryz.prog 259 (.cptr none (elems v4)[j].cells 0) S9 = some (.agg (elems v4)[j].cells) := ld_agg (Pt.cptr _ _ _) (by simpa [sch] using hge.len)
          obtain ⟨S10, hst10, hs10, hx10, hxl10⟩ := lay (S := S9) (T := 259) (z := [.int .i64 0, .int .i64 0, .nils, .nils]) rfl (by simpa [sch] using hge.len) hge.ones
          have hBg : buf9.length + ge.length ≤ most := by rw [hg, hg3] at hBe; simp at hBe hl9; omega
          obtain ⟨gs, hgs⟩ : ∃ gs, gs = (elems v4)[j].cells := ⟨_, rfl⟩
          rw [← hgs] at hge hge' hst10 hx10
          obtain ⟨m0, y0, o0, hm0, rfl, rfl, hz0⟩ := EncF.invI hge
          obtain ⟨m1, y1, o1, hm1, rfl, rfl, hz1⟩ := EncF.invI hz0
          obtain ⟨p2, u2, r2, y2, o2, hp2, hu2, hr2, her2, rfl, rfl, hz2⟩ := EncF.invL hz1
          obtain ⟨p3, u3, r3, y3, o3, hp3, hu3, hr3, her3, rfl, rfl, hz3⟩ := EncF.invL hz2
          obtain ⟨rfl, rfl⟩ := EncF.invN hz3
          have hc9 := h9.lt
          have hp10 : Src S10 c (.ptr S9.next 0) [.int .i64 m0, .int .i64 m1, u2, u3] := ⟨⟨_, _, hx10, fun i v h => by simpa using h⟩, by omega, hxl10⟩
          have a0 := hp10.at 0 rfl
          have a1 := hp10.at 1 rfl
          have a2 := hp10.at 2 rfl
          have a3 := hp10.at 3 rfl
          have x0 : RQ S10 c buf9 [] S10 := ⟨KeepB.refl _ _, buf9, h9.same hs10, by simp, .inl (by simp)⟩
          simp only [List.length_append, List.length_nil] at hBg
          repeat' first
           | refine Opl.val (op_load rfl (ld_one hld)) rfl ?_
           | refine Opl.val (op_lenL rfl hv4.isL rfl) rfl ?_
           | refine Opl.val (op_int rfl rfl rfl (lss_yes hjq)) rfl ?_
           | refine Opl.gon (q := true) rfl rfl (fun _ => ?_) (fun h => by cases h)
           | refine Opl.callr rfl (by kernel_rfl) hfull9 rfl ?_
           | refine Go.condT rfl ?_
           | refine Opl.val (op_ixaL (by exact (congrArg some hvl4)) rfl hjx) rfl ?_
           | (rw [← hgs]; refine Opl.val (op_load rfl hge') rfl ?_)
           | refine Opl.val op_alloc rfl ?_
           | refine Opl.eff (op_store rfl rfl hst10) ?_
           | refine Opl.val (op_load rfl (ld_one (x0.1.src a0).pt)) rfl ?_
           | refine Opl.val (op_load rfl (ld_one (x1.1.src a1).pt)) rfl ?_
           | refine Opl.val (op_load rfl (ld_one (x2.1.src a2).pt)) rfl ?_
           | refine Opl.val (op_load rfl (ld_one (x3.1.src a3).pt)) rfl ?_
           | refine Opl.callR x0 rfl (by kernel_rfl) (rnumber m0 hm0) (by simp; omega) rfl (fun S11 x1 k1 _ => ?_)
           | refine Opl.callR x1 rfl (by kernel_rfl) (rnumber m1 hm1) (by simp; omega) rfl (fun S12 x2 k1 _ => ?_)
           | refine Opl.callR x2 rfl (by kernel_rfl) ((IH p2 (by omega)).values hu2 hr2 her2) (by simp; omega) rfl (fun S13 x3 k1 _ => ?_)
           | refine Opl.callR x3 rfl (by kernel_rfl) ((IH p3 (by omega)).values hu3 hr3 her3) (by simp; omega) rfl (fun S14 x4 k1 _ => ?_)
           | refine Opl.val (op_int rfl rfl rfl (inc_ok (i := j) (by omega))) rfl ?_
           | refine .std ?_ | refine .nil ?_ | refine .seq ?_ | refine .region ?_ | refine .xs ?_ | refine .kb ?_ | refine .leaf ?_ | refine .block ?_ | refine .gn ?_ | refine .dr ?_ | fail
          refine (IHj (j + 1) _ S14 (by omega) ⟨rfl, by omega, g1 ++ (encI m0 ++ (encI m1 ++ (encI ((elems u2).length : Nat) ++ r2 ++ (encI ((elems u3).length : Nat) ++ r3 ++ [])))), g3, by rw [hg, hg3]; simp only [List.append_assoc], hgrest, ?_⟩).weaken ⟨rfl, rfl, rfl, rfl, rfl, trivial⟩
          have := RQ.cat (k9.trans (hs10.keepB c)) hl9 ho9 x4
          simpa using this
      · have hjq2 : j = (elems v4).length := by omega
        rw [List.drop_eq_nil_of_le (by omega)] at hd9
        obtain rfl := hd9.nil_inv
        repeat' first
         | refine Opl.val (op_load rfl (ld_one hld)) rfl ?_
         | refine Opl.val (op_lenL rfl hv4.isL rfl) rfl ?_
         | refine Opl.val (op_int rfl rfl rfl (lss_no hjq)) rfl ?_
         | refine Go.condF rfl ?_
         | refine Opl.val (op_int rfl rfl rfl (inc_ok (i := i) (by omega))) rfl ?_
         | refine .std ?_ | refine .nil ?_ | refine .seq ?_ | refine .region ?_ | refine .xs ?_ | refine .kb ?_ | refine .leaf ?_ | refine .block ?_ | refine .gn ?_ | refine .dr ?_ | fail
        refine (IHl (i + 1) _ S9 (by omega) ⟨rfl, by omega, b1 ++ (pre ++ l4), b3, by rw [hb, hb3]; simp only [List.append_assoc], hrest, hend S9 ?_⟩).weaken ⟨rfl, rfl, rfl, trivial⟩
        rw [hg, List.append_nil]
        exact ⟨k9, buf9, h9, hl9, ho9⟩
  · have hq2 : i = (elems v).length := by omega
    rw [List.drop_eq_nil_of_le (by omega)] at hd
    obtain rfl := hd.nil_inv
    have w2 : RQ S c buf (encI ((elems v).length : Nat) ++ b1) S2 := ⟨k2, buf2, h2, hl2, ho2⟩
    repeat' first
     | refine Opl.val (op_lenL rfl hv.isL rfl) rfl ?_
     | refine Opl.val (op_int rfl rfl rfl (lss_no hq)) rfl ?_
     | refine Go.condF rfl ?_
     | refine .std ?_ | refine .nil ?_ | refine .seq ?_ | refine .region ?_ | refine .xs ?_ | refine .kb ?_ | refine .leaf ?_ | refine .block ?_ | refine .gn ?_ | refine .dr ?_ | fail
    refine At.fn rfl rfl rfl ?_
    rw [hb, List.append_nil]; exact w2
end Go.Proofs.YtilldjgagokcfaaGreat
