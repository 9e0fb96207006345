import Derived.Test.YtilldjgagokcfaaGreatR5
set_option linter.unusedVariables false
set_option linter.unusedSimpArgs false
namespace Go.Ev
open Go.RowKit
theorem Go.joinB {P : Program} {F : Sh} {E0 : Env} {S0 : St} {a b : Code} {k : K} {n : Nat} (Inv : Env → St → Prop) (hrest : ∀ E S, Inv E S → Go P F E S b k) (h : (∀ E S, Inv E S → Go P F E S b k) → Go P F E0 S0 a (Kb n (Ks P b k))) : Go P F E0 S0 a (Kb n (Ks P b k)) := h hrest
end Go.Ev
namespace Go.Proofs.YtilldjgagokcfaaGreat
open Go.RowKit Go.Ev
set_option maxRecDepth 100000
set_option linter.unusedVariables false
theorem rAll : ∀ d, RAll d := by
  intro d
  induction d using Nat.strongRecOn with
  | _ d IH => exact ⟨rvalue IH, fun hv hl he => rvalues (rvalue IH) hv hl he, fun hv hl he => rsegments IH hv hl he⟩
set_option maxHeartbeats 4000000 in
theorem rstate {d : Nat} {S : St} {c : Nat} {cs : List V} {bs : List UInt8} (he : EncF d (sch 20) cs bs) : RC 103 [.ptr c 0, .agg cs] S c bs := by
  intro buf h hB
  obtain ⟨d0, v0, l0, c0, b0, hd0, hv0, hl0, hel0, rfl, rfl, he0⟩ := EncF.invL he
  obtain ⟨d1, v1, l1, c1, b1, hd1, hv1, hl1, hel1, rfl, rfl, he1⟩ := EncF.invL he0
  obtain ⟨n2, c2, b2, hn2, rfl, rfl, he2⟩ := EncF.invI he1
  obtain ⟨d3, x3, l3, c3, b3, hd3, hx3, hxl3, rfl, rfl, he3⟩ := EncF.invT he2
  obtain ⟨q4, c4, b4, rfl, rfl, he4⟩ := EncF.invB he3
  obtain ⟨rfl, rfl⟩ := EncF.invN he4
  obtain ⟨m0, y0, o0, hm0, rfl, rfl, hz0⟩ := EncF.invI hx3
  obtain ⟨t1, y1, o1, ht1, rfl, rfl, hz1⟩ := EncF.invS hz0
  obtain ⟨p2, u2, r2, y2, o2, hp2, hu2, hr2, her2, rfl, rfl, hz2⟩ := EncF.invL hz1
  obtain ⟨m3, y3, o3, hm3, rfl, rfl, hz3⟩ := EncF.invI hz2
  obtain ⟨m4, y4, o4, hm4, rfl, rfl, hz4⟩ := EncF.invI hz3
  obtain ⟨m5, y5, o5, hm5, rfl, rfl, hz5⟩ := EncF.invI hz4
  obtain ⟨rfl, rfl⟩ := EncF.invN hz5
  simp only [List.cons_append, List.nil_append] at *
  have hlt := h.lt
  obtain ⟨S0, hS0⟩ : ∃ S0, S0 = S.new (.box 55 [v0, v1, .int .i64 n2, .int .i64 m0, .str t1, u2, .int .i64 m3, .int .i64 m4, .int .i64 m5, .bool q4]) := ⟨_, rfl⟩
  have hs0 : Same S S0 := by rw [hS0]; exact Same.new _ _
  have hx : S0.h.find S.next = some (.box 55 [v0, v1, .int .i64 n2, .int .i64 m0, .str t1, u2, .int .i64 m3, .int .i64 m4, .int .i64 m5, .bool q4]) := by rw [hS0]; simp [St.new, Tr.find_put]
  have hn0' : S.next < S0.next := by rw [hS0]; simp [St.new]
  have hp : Src S0 c (.ptr S.next 0) [v0, v1, .int .i64 n2, .int .i64 m0, .str t1, u2, .int .i64 m3, .int .i64 m4, .int .i64 m5, .bool q4] := ⟨⟨_, _, hx, fun i v h => by simpa using h⟩, by omega, hn0'⟩
  have w0 : RQ S0 c buf [] S0 := ⟨KeepB.refl _ _, buf, h.same hs0, by simp, .inl (by simp)⟩
  have f0 := hp.at 0 rfl
  have f1 := hp.at 1 rfl
  have f2 := hp.at 2 rfl
  have f3 := hp.at 3 rfl
  have f4 := hp.at 4 rfl
  have f5 := hp.at 5 rfl
  have f6 := hp.at 6 rfl
  have f7 := hp.at 7 rfl
  have f8 := hp.at 8 rfl
  have f9 := hp.at 9 rfl
  simp only [List.length_append, List.length_nil] at hB
  refine CallTo.of (n := 84) Tryz.func103 rfl rfl ?_
  repeat' first
   | refine Opl.val (op_box rfl) rfl (Opl.cast (S' := S0) ?_ hS0)
   | refine Opl.val (op_load rfl (ld_one (w0.1.src f0).pt)) rfl ?_
   | refine Opl.val (op_load rfl (ld_one (w1.1.src f1).pt)) rfl ?_
   | refine Opl.val (op_load rfl (ld_one (w2.1.src f2).pt)) rfl ?_
   | refine Opl.val (op_load rfl (ld_one (w3.1.src f3).pt)) rfl ?_
   | refine Opl.val (op_load rfl (ld_one (w4.1.src f4).pt)) rfl ?_
   | refine Opl.val (op_load rfl (ld_one (w5.1.src f5).pt)) rfl ?_
   | refine Opl.val (op_lenL rfl hu2.isL rfl) rfl ?_
   | refine Opl.callR w0 rfl (by kernel_rfl) ((rAll d0).segments hv0 hl0 hel0) (by simp; omega) rfl (fun S1 w1 k1 _ => ?_)
   | refine Opl.callR w1 rfl (by kernel_rfl) (rnumbers hv1 hl1 hel1) (by simp; omega) rfl (fun S2 w2 k1 _ => ?_)
   | refine Opl.callR w2 rfl (by kernel_rfl) (rnumber n2 hn2) (by simp; omega) rfl (fun S3 w3 k1 _ => ?_)
   | refine Opl.callR w3 rfl (by kernel_rfl) (rnumber m0 hm0) (by simp; omega) rfl (fun S4 w4 k1 _ => ?_)
   | refine Opl.callR w4 rfl (by kernel_rfl) (rtext t1 ht1) (by simp; omega) rfl (fun S5 w5 k1 _ => ?_)
   | refine Opl.callR w5 rfl (by kernel_rfl) (rnumber ((elems u2).length : Nat) (by constructor <;> omega)) (by simp; omega) rfl (fun S6 w6 k1 _ => ?_)
   | refine .std ?_ | refine .nil ?_ | refine .seq ?_ | refine .region ?_ | refine .xs ?_ | refine .kb ?_ | refine .leaf ?_ | refine .block ?_ | refine .gn ?_ | refine .dr ?_ | fail
  obtain ⟨pre, hpre⟩ : ∃ pre, pre = [] ++ (encI ((elems v0).length : Nat) ++ l0) ++ (encI ((elems v1).length : Nat) ++ l1) ++ encI n2 ++ encI m0 ++ encS t1 ++ encI ((elems u2).length : Nat) := ⟨_, rfl⟩
  rw [← hpre] at w6
  have hpl : pre.length = (encI ((elems v0).length : Nat)).length + l0.length + ((encI ((elems v1).length : Nat)).length + l1.length) + (encI n2).length + (encI m0).length + (encS t1).length + (encI ((elems u2).length : Nat)).length := by rw [hpre]; simp; omega
  refine Go.joinB (fun E S' => Sub [(0, .ptr c 0), (3, .ptr S.next 0)] E ∧ RQ S0 c buf (pre ++ r2) S') ?_ (fun hj => ?_)
  · rintro E S7 ⟨hE, w7⟩
    refine Go.weaken ?_ hE
    repeat' first
     | refine Opl.val (op_load rfl (ld_one (w7.1.src f6).pt)) rfl ?_
     | refine Opl.val (op_load rfl (ld_one (w8.1.src f7).pt)) rfl ?_
     | refine Opl.val (op_load rfl (ld_one (w9.1.src f8).pt)) rfl ?_
     | refine Opl.val (op_load rfl (ld_one (w10.1.src f9).pt)) rfl ?_
     | refine Opl.callR w7 rfl (by kernel_rfl) (rnumber m3 hm3) (by simp; omega) rfl (fun S8 w8 k1 _ => ?_)
     | refine Opl.callR w8 rfl (by kernel_rfl) (rnumber m4 hm4) (by simp; omega) rfl (fun S9 w9 k1 _ => ?_)
     | refine Opl.callR w9 rfl (by kernel_rfl) (rnumber m5 hm5) (by simp; omega) rfl (fun S10 w10 k1 _ => ?_)
     | refine Opl.callR w10 rfl (by kernel_rfl) (rtruth q4) (by simp; omega) rfl (fun S11 w11 k1 _ => ?_)
     | refine .std ?_ | refine .nil ?_ | refine .seq ?_ | refine .region ?_ | refine .xs ?_ | refine .kb ?_ | refine .leaf ?_ | refine .block ?_ | refine .gn ?_ | refine .dr ?_ | fail
    refine At.fn rfl rfl rfl ?_
    obtain ⟨z1, z2⟩ := w11
    exact ⟨(hs0.keepB c).trans z1, by rw [hpre] at z2; simpa using z2⟩
  · refine Go.weaken (E' := [(0, .ptr c 0), (3, .ptr S.next 0), (4, .int .i64 (0 : Nat))]) ?_ ⟨rfl, rfl, rfl, trivial⟩
    refine Go.loop_ind (α := Nat) (fun j => (elems u2).length - j) (fun j E S' => E = [(0, .ptr c 0), (3, .ptr S.next 0), (4, .int .i64 j)] ∧ j ≤ (elems u2).length ∧ ∃ g1 g2, r2 = g1 ++ g2 ∧ EncL p2 18 ((elems u2).drop j) g2 ∧
      RQ S0 c buf (pre ++ g1) S') ?_ 0 _ _ ⟨rfl, Nat.zero_le _, [], r2, rfl, her2, by simpa using w6⟩
    rintro j E S9 ⟨rfl, hjl, g1, g2, hg, hd9, z9⟩ IHj
    obtain ⟨k9, buf9, h9, hl9, ho9⟩ := z9
    have hld := (k9.src f5).pt
    by_cases hjq : j < (elems u2).length
    · by_cases hjf : 100000 < buf9.length
      · have hfull9 : lim Tryz.prog (.call 69 [.ptr c 0]) S9 = some (.ret (.bool true) S9) := by rw [h9.full, decide_eq_true hjf]
        have hend : RQ S0 c buf (pre ++ r2) S9 := by rw [hg, ← List.append_assoc]; exact RQ.stop k9 h9 hl9 hjf
        repeat' first
         | exact hj _ _ ⟨⟨rfl, rfl, trivial⟩, hend⟩
         | refine Opl.val (op_load rfl (ld_one hld)) rfl ?_
         | refine Opl.val (op_lenL rfl hu2.isL rfl) rfl ?_
         | refine Opl.val (op_int rfl rfl rfl (lss_yes hjq)) rfl ?_
         | refine Opl.gon (q := true) rfl rfl (fun _ => ?_) (fun h => by cases h)
         | refine Opl.callr rfl (by kernel_rfl) hfull9 rfl ?_
         | refine Go.condF rfl ?_
         | refine .std ?_ | refine .nil ?_ | refine .seq ?_ | refine .region ?_ | refine .xs ?_ | refine .kb ?_ | refine .leaf ?_ | refine .block ?_ | refine .gn ?_ | refine .dr ?_ | fail
      · have hfull9 : lim Tryz.prog (.call 69 [.ptr c 0]) S9 = some (.ret (.bool false) S9) := by rw [h9.full, decide_eq_false hjf]
        obtain ⟨ge, g3, hg3, hge, hgrest⟩ := hd9.drop (List.drop_eq_getElem_cons hjq)
        have hjx : (elems u2)[j]? = some (elems u2)[j] := List.getElem?_eq_getElem hjq
        obtain ⟨lt4, tk4, hvl4⟩ := hu2.el hjx
        have hge' : loadE Tryz.prog 192 (.cptr none (elems u2)[j].cells 0) S9 = some (.agg (elems u2)[j].cells) := ld_agg (Pt.cptr _ _ _) (by simpa [sch] using hge.len)
        obtain ⟨S10, hst10, hs10, hx10, hxl10⟩ := lay (S := S9) (T := 192) (z := [.str [], .int .i64 0, .int .i64 0]) rfl (by simpa [sch] using hge.len) hge.ones
        have hBg : buf9.length + ge.length ≤ most := by rw [hg, hg3] at hB; simp at hB hl9; omega
        obtain ⟨gs, hgs⟩ : ∃ gs, gs = (elems u2)[j].cells := ⟨_, rfl⟩
        rw [← hgs] at hge hge' hst10 hx10
        obtain ⟨s0, e0, i0, hs0', rfl, rfl, hw0⟩ := EncF.invS hge
        obtain ⟨a1, e1, i1, ha1, rfl, rfl, hw1⟩ := EncF.invI hw0
        obtain ⟨a2, e2, i2, ha2, rfl, rfl, hw2⟩ := EncF.invI hw1
        obtain ⟨rfl, rfl⟩ := EncF.invN hw2
        have hc9 := h9.lt
        have hp10 : Src S10 c (.ptr S9.next 0) [.str s0, .int .i64 a1, .int .i64 a2] := ⟨⟨_, _, hx10, fun i v h => by simpa using h⟩, by omega, hxl10⟩
        have g0' := hp10.at 0 rfl
        have g1' := hp10.at 1 rfl
        have g2' := hp10.at 2 rfl
        have x0 : RQ S10 c buf9 [] S10 := ⟨KeepB.refl _ _, buf9, h9.same hs10, by simp, .inl (by simp)⟩
        simp only [List.length_append, List.length_nil] at hBg
        repeat' first
         | refine Opl.val (op_load rfl (ld_one hld)) rfl ?_
         | refine Opl.val (op_lenL rfl hu2.isL rfl) rfl ?_
         | refine Opl.val (op_int rfl rfl rfl (lss_yes hjq)) rfl ?_
         | refine Opl.gon (q := true) rfl rfl (fun _ => ?_) (fun h => by cases h)
         | refine Opl.callr rfl (by kernel_rfl) hfull9 rfl ?_
         | refine Go.condT rfl ?_
         | refine Opl.val (op_ixaL (by exact (congrArg some hvl4)) rfl hjx) rfl ?_
         | (rw [← hgs]; refine Opl.val (op_load rfl hge') rfl ?_)
         | refine Opl.val op_alloc rfl ?_
         | refine Opl.eff (op_store rfl rfl hst10) ?_
         | refine Opl.val (op_load rfl (ld_one (x0.1.src g0').pt)) rfl ?_
         | refine Opl.val (op_load rfl (ld_one (x1.1.src g1').pt)) rfl ?_
         | refine Opl.val (op_load rfl (ld_one (x2.1.src g2').pt)) rfl ?_
         | refine Opl.callR x0 rfl (by kernel_rfl) (rtext s0 hs0') (by simp; omega) rfl (fun S11 x1 k1 _ => ?_)
         | refine Opl.callR x1 rfl (by kernel_rfl) (rnumber a1 ha1) (by simp; omega) rfl (fun S12 x2 k1 _ => ?_)
         | refine Opl.callR x2 rfl (by kernel_rfl) (rnumber a2 ha2) (by simp; omega) rfl (fun S13 x3 k1 _ => ?_)
         | refine Opl.val (op_int rfl rfl rfl (inc_ok (i := j) (by omega))) rfl ?_
         | refine .std ?_ | refine .nil ?_ | refine .seq ?_ | refine .region ?_ | refine .xs ?_ | refine .kb ?_ | refine .leaf ?_ | refine .block ?_ | refine .gn ?_ | refine .dr ?_ | fail
        refine (IHj (j + 1) _ S13 (by omega) ⟨rfl, by omega, g1 ++ (encS s0 ++ (encI a1 ++ (encI a2 ++ []))), g3, by rw [hg, hg3]; simp only [List.append_assoc], hgrest, ?_⟩).weaken ⟨rfl, rfl, rfl, trivial⟩
        have := RQ.cat (k9.trans (hs10.keepB c)) hl9 ho9 x3
        simpa using this
    · have hjq2 : j = (elems u2).length := by omega
      rw [List.drop_eq_nil_of_le (by omega)] at hd9
      obtain rfl := hd9.nil_inv
      have hend : RQ S0 c buf (pre ++ r2) S9 := by rw [hg, List.append_nil]; exact ⟨k9, buf9, h9, hl9, ho9⟩
      repeat' first
       | exact hj _ _ ⟨⟨rfl, rfl, trivial⟩, hend⟩
       | refine Opl.val (op_load rfl (ld_one hld)) rfl ?_
       | refine Opl.val (op_lenL rfl hu2.isL rfl) rfl ?_
       | refine Opl.val (op_int rfl rfl rfl (lss_no hjq)) rfl ?_
       | refine Go.condF rfl ?_
       | refine .std ?_ | refine .nil ?_ | refine .seq ?_ | refine .region ?_ | refine .xs ?_ | refine .kb ?_ | refine .leaf ?_ | refine .block ?_ | refine .gn ?_ | refine .dr ?_ | fail
end Go.Proofs.YtilldjgagokcfaaGreat
