import Derived.Test.YtilldjgagokcfaaGreatR8
set_option linter.unusedVariables false
set_option linter.unusedSimpArgs false
namespace Go.Proofs.YtilldjgagokcfaaGreat
open Go.RowKit Go.Ev
set_option maxRecDepth 100000
set_option linter.unusedVariables false
set_option maxHeartbeats 8000000 in
theorem rdecl {dt0 dt1 : Nat} {S : St} {c : Nat} {vt0 vt1 : V} {lt0 lt1 : List UInt8} (hvt0 : isLn 3 vt0) (hlt0 : (elems vt0).length < 4611686018427387904) (helt0 : EncL dt0 7 (elems vt0) lt0) (hvt1 : isLn 2 vt1) (hlt1 : (elems vt1).length < 4611686018427387904) (helt1 : EncL dt1 9 (elems vt1) lt1) :
    RC 67 [.ptr c 0, vt0, vt1] S c (encI ((elems vt0).length : Nat) ++ lt0 ++ (encI ((elems vt1).length : Nat) ++ lt1)) := by
  intro buf h hB
  have hlt := h.lt
  have w0 : RQ S c buf [] S := ⟨KeepB.refl _ _, buf, h, by simp, .inl (by simp)⟩
  have hBB := hB
  simp only [List.length_append, List.length_nil] at hB
  refine CallTo.of (n := 154) Tryz.func67 rfl rfl ?_
  repeat' first
   | refine Opl.val (op_lenL rfl hvt0.isL rfl) rfl ?_
   | refine Opl.callR w0 rfl (by kernel_rfl) (rnumber ((elems vt0).length : Nat) (by constructor <;> omega)) (by simp; omega) rfl (fun S101 w1 k1 _ => ?_)
   | refine .std ?_ | refine .nil ?_ | refine .seq ?_ | refine .region ?_ | refine .xs ?_ | refine .kb ?_ | refine .leaf ?_ | refine .block ?_ | refine .gn ?_ | refine .dr ?_ | fail
  obtain ⟨pre2, hpre2⟩ : ∃ pre2, pre2 = [] ++ encI ((elems vt0).length : Nat) := ⟨_, rfl⟩
  rw [← hpre2] at w1
  have hlpre2 := congrArg List.length hpre2
  simp only [List.length_append, List.length_nil] at hlpre2
  refine Go.joinB (fun E S' => Sub [(0, .ptr c 0), (1, vt0), (2, vt1)] E ∧ RQ S c buf (pre2 ++ lt0) S') ?_ (fun hj2 => ?_)
  · rintro E S103 ⟨hE, w4⟩
    refine Go.weaken ?_ hE
    repeat' first
     | refine Opl.val (op_lenL rfl hvt1.isL rfl) rfl ?_
     | refine Opl.callR w4 rfl (by kernel_rfl) (rnumber ((elems vt1).length : Nat) (by constructor <;> omega)) (by simp; omega) rfl (fun S105 w5 k1 _ => ?_)
     | refine .std ?_ | refine .nil ?_ | refine .seq ?_ | refine .region ?_ | refine .xs ?_ | refine .kb ?_ | refine .leaf ?_ | refine .block ?_ | refine .gn ?_ | refine .dr ?_ | fail
    obtain ⟨pre6, hpre6⟩ : ∃ pre6, pre6 = pre2 ++ lt0 ++ encI ((elems vt1).length : Nat) := ⟨_, rfl⟩
    rw [← hpre6] at w5
    have hlpre6 := congrArg List.length hpre6
    simp only [List.length_append, List.length_nil] at hlpre6
    refine Go.joinE (fun E S' => Sub [(0, .ptr c 0), (1, vt0), (2, vt1)] E ∧ RQ S c buf (pre6 ++ lt1) S') ?_ (fun hj6 => ?_)
    · rintro E S107 ⟨hE, w8⟩
      refine At.weaken ?_ hE
      repeat' first | refine .std ?_ | refine .nil ?_ | refine .seq ?_ | refine .region ?_ | refine .xs ?_ | refine .kb ?_ | refine .leaf ?_ | refine .block ?_ | refine .gn ?_ | refine .dr ?_ | fail
      refine At.fn rfl rfl rfl ?_
      have q2 := w8
      rw [hpre6, hpre2] at q2
      simpa using q2
    · refine Go.weaken (E' := [(0, .ptr c 0), (1, vt0), (2, vt1), (8, .int .i64 (0 : Nat))]) ?_ ⟨rfl, rfl, rfl, rfl, trivial⟩
      refine Go.loop_ind (α := Nat) (fun j => (elems vt1).length - j) (fun j E S' => E = [(0, .ptr c 0), (1, vt0), (2, vt1), (8, .int .i64 j)] ∧ j ≤ (elems vt1).length ∧ ∃ g1 g2, lt1 = g1 ++ g2 ∧ EncL dt1 9 ((elems vt1).drop j) g2 ∧ RQ S c buf (pre6 ++ g1) S') ?_ 0 _ _ ⟨rfl, Nat.zero_le _, [], lt1, rfl, helt1, by simpa using w5⟩
      rintro j_6 E T_6 ⟨rfl, hjl_6, g1_6, g2_6, hg_6, hdr_6, z_6⟩ IHl_6
      obtain ⟨k_6, buf_6, h_6, hll_6, ho_6⟩ := z_6
      by_cases hq_6 : j_6 < (elems vt1).length
      · by_cases hf_6 : 100000 < buf_6.length
        · have hfull_6 : lim Tryz.prog (.call 69 [.ptr c 0]) T_6 = some (.ret (.bool true) T_6) := by rw [h_6.full, decide_eq_true hf_6]
          have hend_6 : RQ S c buf (pre6 ++ lt1) T_6 := by rw [hg_6, ← List.append_assoc]; exact RQ.stop k_6 h_6 hll_6 hf_6
          repeat' first
           | exact hj6 _ _ ⟨⟨rfl, rfl, rfl, trivial⟩, hend_6⟩
           | refine Opl.val (op_lenL rfl hvt1.isL rfl) rfl ?_
           | refine Opl.val (op_int rfl rfl rfl (lss_yes hq_6)) rfl ?_
           | refine Opl.gon (q := true) rfl rfl (fun _ => ?_) (fun h => by cases h)
           | refine Opl.callr rfl (by kernel_rfl) hfull_6 rfl ?_
           | refine Go.condF rfl ?_
           | refine .std ?_ | refine .nil ?_ | refine .seq ?_ | refine .region ?_ | refine .xs ?_ | refine .kb ?_ | refine .leaf ?_ | refine .block ?_ | refine .gn ?_ | refine .dr ?_ | fail
        · have hfull_6 : lim Tryz.prog (.call 69 [.ptr c 0]) T_6 = some (.ret (.bool false) T_6) := by rw [h_6.full, decide_eq_false hf_6]
          obtain ⟨ge_6, g3_6, hg3_6, hge_6, hr_6⟩ := hdr_6.drop (List.drop_eq_getElem_cons hq_6)
          have hix_6 : (elems vt1)[j_6]? = some (elems vt1)[j_6] := List.getElem?_eq_getElem hq_6
          obtain ⟨lt_6, tk_6, hvl_6⟩ := hvt1.el hix_6
          have hB_6 : buf_6.length + ge_6.length ≤ most := by rw [hg_6, hg3_6] at hBB; simp at hBB hll_6; omega
          have hll_6' := hll_6
          simp only [List.length_append] at hll_6
          obtain ⟨gs_6, hgs_6⟩ : ∃ gs_6, gs_6 = (elems vt1)[j_6].cells := ⟨_, rfl⟩
          rw [← hgs_6] at hge_6
          obtain ⟨sgx0, cgx0, egx0, hsgx0, rfl, rfl, gxhe0⟩ := EncF.invS hge_6
          obtain ⟨dgx1, vgx1, lgx1, cgx1, egx1, hdgx1, hvgx1, hlgx1, helgx1, rfl, rfl, gxhe1⟩ := EncF.invL gxhe0
          obtain ⟨rfl, rfl⟩ := EncF.invN gxhe1
          simp only [List.length_append, List.length_nil] at hB_6
          have hp_6 : ∀ W, Pt W (.cptr none (.str sgx0 :: vgx1 :: []) 0) (.str sgx0 :: vgx1 :: []) := fun W => Pt.cptr _ _ _
          have a_6_0 : ∀ W, Pt W (padd (.cptr none (.str sgx0 :: vgx1 :: []) 0) 0) [.str sgx0] := fun W => (hp_6 W).at 0 rfl
          have a_6_1 : ∀ W, Pt W (padd (.cptr none (.str sgx0 :: vgx1 :: []) 0) 1) [vgx1] := fun W => (hp_6 W).at 1 rfl
          have x_6 : RQ T_6 c buf_6 [] T_6 := ⟨KeepB.refl _ _, buf_6, h_6, by simp, .inl (by simp)⟩
          repeat' first
           | refine Opl.val (op_lenL rfl hvt1.isL rfl) rfl ?_
           | refine Opl.val (op_int rfl rfl rfl (lss_yes hq_6)) rfl ?_
           | refine Opl.gon (q := true) rfl rfl (fun _ => ?_) (fun h => by cases h)
           | refine Opl.callr rfl (by kernel_rfl) hfull_6 rfl ?_
           | refine Go.condT rfl ?_
           | (refine Opl.val (op_ixaL (by exact (congrArg some hvl_6)) rfl hix_6) rfl ?_; rw [← hgs_6])
           | refine Opl.val (op_int rfl rfl rfl (inc_ok (i := j_6) (by omega))) rfl ?_
           | refine Opl.val (op_load rfl (ld_one (a_6_0 _))) rfl ?_
           | refine Opl.callR x_6 rfl (by kernel_rfl) (rtext sgx0 hsgx0) (by simp; omega) rfl (fun S109 w9 k1 _ => ?_)
           | refine Opl.val (op_load rfl (ld_one (a_6_1 _))) rfl ?_
           | refine Opl.val (op_lenL rfl hvgx1.isL rfl) rfl ?_
           | refine Opl.callR w9 rfl (by kernel_rfl) (rnumber ((elems vgx1).length : Nat) (by constructor <;> omega)) (by simp; omega) rfl (fun S110 w10 k1 _ => ?_)
           | refine .std ?_ | refine .nil ?_ | refine .seq ?_ | refine .region ?_ | refine .xs ?_ | refine .kb ?_ | refine .leaf ?_ | refine .block ?_ | refine .gn ?_ | refine .dr ?_ | fail
          obtain ⟨pre11, hpre11⟩ : ∃ pre11, pre11 = [] ++ encS sgx0 ++ encI ((elems vgx1).length : Nat) := ⟨_, rfl⟩
          rw [← hpre11] at w10
          have hlpre11 := congrArg List.length hpre11
          simp only [List.length_append, List.length_nil] at hlpre11
          refine Go.joinE (fun E S' => Sub [(0, .ptr c 0), (1, vt0), (2, vt1), (8, .int .i64 j_6)] E ∧ RQ T_6 c buf_6 (pre11 ++ lgx1) S') ?_ (fun hj11 => ?_)
          · rintro E S112 ⟨hE, w13⟩
            refine At.weaken ?_ hE
            repeat' first
             | refine Opl.val (op_lenL rfl hvt1.isL rfl) rfl ?_
             | refine Opl.val (op_int rfl rfl rfl (lss_yes hq_6)) rfl ?_
             | refine Opl.gon (q := true) rfl rfl (fun _ => ?_) (fun h => by cases h)
             | refine Opl.callr rfl (by kernel_rfl) hfull_6 rfl ?_
             | refine Go.condT rfl ?_
             | (refine Opl.val (op_ixaL (by exact (congrArg some hvl_6)) rfl hix_6) rfl ?_; rw [← hgs_6])
             | refine Opl.val (op_int rfl rfl rfl (inc_ok (i := j_6) (by omega))) rfl ?_
             | refine .std ?_ | refine .nil ?_ | refine .seq ?_ | refine .region ?_ | refine .xs ?_ | refine .kb ?_ | refine .leaf ?_ | refine .block ?_ | refine .gn ?_ | refine .dr ?_ | fail
            refine (IHl_6 (j_6 + 1) _ S112 (by omega) ⟨rfl, by omega, g1_6 ++ (encS sgx0 ++ (encI ((elems vgx1).length : Nat) ++ lgx1 ++ [])), g3_6, by rw [hg_6, hg3_6]; simp only [List.append_assoc], hr_6, ?_⟩).weaken ⟨rfl, rfl, rfl, rfl, trivial⟩
            have hz := RQ.cat k_6 hll_6' ho_6 w13
            rw [hpre11] at hz
            simpa using hz
          · refine Go.weaken (E' := [(0, .ptr c 0), (1, vt0), (2, vt1), (8, .int .i64 j_6), (9, .int .i64 (0 : Nat))]) ?_ ⟨rfl, rfl, rfl, rfl, rfl, trivial⟩
            refine Go.loop_ind (α := Nat) (fun j => (elems vgx1).length - j) (fun j E S' => E = [(0, .ptr c 0), (1, vt0), (2, vt1), (8, .int .i64 j_6), (9, .int .i64 j)] ∧ j ≤ (elems vgx1).length ∧ ∃ g1 g2, lgx1 = g1 ++ g2 ∧ EncL dgx1 10 ((elems vgx1).drop j) g2 ∧ RQ T_6 c buf_6 (pre11 ++ g1) S') ?_ 0 _ _ ⟨rfl, Nat.zero_le _, [], lgx1, rfl, helgx1, by simpa using w10⟩
            rintro j_11 E T_11 ⟨rfl, hjl_11, g1_11, g2_11, hg_11, hdr_11, z_11⟩ IHl_11
            obtain ⟨k_11, buf_11, h_11, hll_11, ho_11⟩ := z_11
            by_cases hq_11 : j_11 < (elems vgx1).length
            · by_cases hf_11 : 100000 < buf_11.length
              · have hfull_11 : lim Tryz.prog (.call 69 [.ptr c 0]) T_11 = some (.ret (.bool true) T_11) := by rw [h_11.full, decide_eq_true hf_11]
                have hend_11 : RQ T_6 c buf_6 (pre11 ++ lgx1) T_11 := by rw [hg_11, ← List.append_assoc]; exact RQ.stop k_11 h_11 hll_11 hf_11
                repeat' first
                 | exact hj11 _ _ ⟨⟨rfl, rfl, rfl, rfl, trivial⟩, hend_11⟩
                 | refine Opl.val (op_lenL rfl hvt1.isL rfl) rfl ?_
                 | refine Opl.val (op_int rfl rfl rfl (lss_yes hq_6)) rfl ?_
                 | refine Opl.gon (q := true) rfl rfl (fun _ => ?_) (fun h => by cases h)
                 | refine Opl.callr rfl (by kernel_rfl) hfull_6 rfl ?_
                 | refine Go.condT rfl ?_
                 | (refine Opl.val (op_ixaL (by exact (congrArg some hvl_6)) rfl hix_6) rfl ?_; rw [← hgs_6])
                 | refine Opl.val (op_int rfl rfl rfl (inc_ok (i := j_6) (by omega))) rfl ?_
                 | refine Opl.val (op_load rfl (ld_one (a_6_1 _))) rfl ?_
                 | refine Opl.val (op_lenL rfl hvgx1.isL rfl) rfl ?_
                 | refine Opl.val (op_int rfl rfl rfl (lss_yes hq_11)) rfl ?_
                 | refine Opl.gon (q := true) rfl rfl (fun _ => ?_) (fun h => by cases h)
                 | refine Opl.callr rfl (by kernel_rfl) hfull_11 rfl ?_
                 | refine Go.condF rfl ?_
                 | refine .std ?_ | refine .nil ?_ | refine .seq ?_ | refine .region ?_ | refine .xs ?_ | refine .kb ?_ | refine .leaf ?_ | refine .block ?_ | refine .gn ?_ | refine .dr ?_ | fail
              · have hfull_11 : lim Tryz.prog (.call 69 [.ptr c 0]) T_11 = some (.ret (.bool false) T_11) := by rw [h_11.full, decide_eq_false hf_11]
                obtain ⟨ge_11, g3_11, hg3_11, hge_11, hr_11⟩ := hdr_11.drop (List.drop_eq_getElem_cons hq_11)
                have hix_11 : (elems vgx1)[j_11]? = some (elems vgx1)[j_11] := List.getElem?_eq_getElem hq_11
                obtain ⟨lt_11, tk_11, hvl_11⟩ := hvgx1.el hix_11
                have hB_11 : buf_11.length + ge_11.length ≤ most := by rw [hg_11, hg3_11] at hB_6; simp at hB_6 hll_11; omega
                have hll_11' := hll_11
                simp only [List.length_append] at hll_11
                obtain ⟨gs_11, hgs_11⟩ : ∃ gs_11, gs_11 = (elems vgx1)[j_11].cells := ⟨_, rfl⟩
                rw [← hgs_11] at hge_11
                obtain ⟨U_11, hst_11, hs_11, hx_11, hxl_11⟩ := lay (S := T_11) (T := 228) (z := [.str [], .int .i64 0, .int .i64 0, .str [], .nils, .nils, .int .i64 0, .int .i64 0, .int .i64 0, .str [], .nils, .nils, .int .i64 0, .bool false]) rfl (by simpa [sch, szs] using hge_11.len) hge_11.ones
                have hel_11 : loadE Tryz.prog 228 (.cptr none gs_11 0) T_11 = some (.agg gs_11) := ld_agg (Pt.cptr _ _ _) (by simpa [sch, szs] using hge_11.len)
                obtain ⟨slx0, clx0, elx0, hslx0, rfl, rfl, lxhe0⟩ := EncF.invS hge_11
                obtain ⟨dlx1, xlx1, llx1, clx1, elx1, hdlx1, hxlx1, hxllx1, rfl, rfl, lxhe1⟩ := EncF.invT lxhe0
                obtain ⟨dlx2, xlx2, llx2, clx2, elx2, hdlx2, hxlx2, hxllx2, rfl, rfl, lxhe2⟩ := EncF.invT lxhe1
                obtain ⟨qlx3, clx3, elx3, rfl, rfl, lxhe3⟩ := EncF.invB lxhe2
                obtain ⟨rfl, rfl⟩ := EncF.invN lxhe3
                simp only [List.length_append, List.length_nil] at hB_11
                have hc_11 := h_11.lt
                have hp_11 : Src U_11 c (.ptr T_11.next 0) (.str slx0 :: (xlx1 ++ (xlx2 ++ .bool qlx3 :: []))) := ⟨⟨_, _, hx_11, fun i v h => by simpa using h⟩, by omega, hxl_11⟩
                have a_11_0 : Src U_11 c (padd (.ptr T_11.next 0) 0) [.str slx0] := hp_11.at 0 rfl
                have a_11_1 : Src U_11 c (padd (.ptr T_11.next 0) 1) xlx1 := hp_11.sub 1 fun i v hi => by
                  have hlt := (List.getElem?_eq_some_iff.1 hi).1
                  simp only [szs] at hxllx1 hxllx2
                  simp [List.getElem?_append, List.getElem?_cons, hxllx1, hxllx2]
                  try (first | exact hi | (rw [if_pos (by omega)]; exact hi) | (split <;> first | omega | exact hi | (split <;> first | omega | exact hi)))
                have a_11_7 : Src U_11 c (padd (.ptr T_11.next 0) 7) xlx2 := hp_11.sub 7 fun i v hi => by
                  have hlt := (List.getElem?_eq_some_iff.1 hi).1
                  simp only [szs] at hxllx1 hxllx2
                  simp [List.getElem?_append, List.getElem?_cons, hxllx1, hxllx2]
                  try (first | exact hi | (rw [if_pos (by omega)]; exact hi) | (split <;> first | omega | exact hi | (split <;> first | omega | exact hi)))
                have a_11_13 : Src U_11 c (padd (.ptr T_11.next 0) 13) [.bool qlx3] := hp_11.at 13 (by simp only [szs] at hxllx1 hxllx2; simp [List.getElem?_append, List.getElem?_cons, hxllx1, hxllx2])
                have x_11 : RQ U_11 c buf_11 [] U_11 := ⟨KeepB.refl _ _, buf_11, h_11.same hs_11, by simp, .inl (by simp)⟩
                repeat' first
                 | refine Opl.val (op_lenL rfl hvt1.isL rfl) rfl ?_
                 | refine Opl.val (op_int rfl rfl rfl (lss_yes hq_6)) rfl ?_
                 | refine Opl.gon (q := true) rfl rfl (fun _ => ?_) (fun h => by cases h)
                 | refine Opl.callr rfl (by kernel_rfl) hfull_6 rfl ?_
                 | refine Go.condT rfl ?_
                 | (refine Opl.val (op_ixaL (by exact (congrArg some hvl_6)) rfl hix_6) rfl ?_; rw [← hgs_6])
                 | refine Opl.val (op_int rfl rfl rfl (inc_ok (i := j_6) (by omega))) rfl ?_
                 | refine Opl.val (op_load rfl (ld_one (a_6_1 _))) rfl ?_
                 | refine Opl.val (op_lenL rfl hvgx1.isL rfl) rfl ?_
                 | refine Opl.val (op_int rfl rfl rfl (lss_yes hq_11)) rfl ?_
                 | refine Opl.gon (q := true) rfl rfl (fun _ => ?_) (fun h => by cases h)
                 | refine Opl.callr rfl (by kernel_rfl) hfull_11 rfl ?_
                 | refine Go.condT rfl ?_
                 | (refine Opl.val (op_ixaL (by exact (congrArg some hvl_11)) rfl hix_11) rfl ?_; rw [← hgs_11])
                 | refine Opl.val (op_int rfl rfl rfl (inc_ok (i := j_11) (by omega))) rfl ?_
                 | refine Opl.val (op_load rfl hel_11) rfl ?_
                 | refine Opl.val op_alloc rfl ?_
                 | refine Opl.eff (op_store rfl rfl hst_11) ?_
                 | refine Opl.val (op_load rfl (ld_one (x_11.1.src a_11_0).pt)) rfl ?_
                 | refine Opl.callR x_11 rfl (by kernel_rfl) (rtext slx0 hslx0) (by simp; omega) rfl (fun S114 w14 k1 _ => ?_)
                 | refine Opl.val (op_load rfl (ld_one (a_6_1 _))) rfl ?_
                 | refine Opl.val (op_load rfl (ld_agg (w14.1.src a_11_1).pt (by rw [hxllx1]; rfl))) rfl ?_
                 | refine Opl.callR w14 rfl (by kernel_rfl) ((pAll dlx1).typ hxlx1) (by simp; omega) rfl (fun S115 w15 k1 _ => ?_)
                 | refine Opl.val (op_load rfl (ld_one (a_6_1 _))) rfl ?_
                 | refine Opl.val (op_load rfl (ld_agg (w15.1.src a_11_7).pt (by rw [hxllx2]; rfl))) rfl ?_
                 | refine Opl.callR w15 rfl (by kernel_rfl) ((pAll dlx2).typ hxlx2) (by simp; omega) rfl (fun S116 w16 k1 _ => ?_)
                 | refine Opl.val (op_load rfl (ld_one (a_6_1 _))) rfl ?_
                 | refine Opl.val (op_load rfl (ld_one (w16.1.src a_11_13).pt)) rfl ?_
                 | refine Opl.callR w16 rfl (by kernel_rfl) (rtruth qlx3) (by simp; omega) rfl (fun S117 w17 k1 _ => ?_)
                 | refine Opl.val (op_load rfl (ld_one (a_6_1 _))) rfl ?_
                 | refine .std ?_ | refine .nil ?_ | refine .seq ?_ | refine .region ?_ | refine .xs ?_ | refine .kb ?_ | refine .leaf ?_ | refine .block ?_ | refine .gn ?_ | refine .dr ?_ | fail
                refine (IHl_11 (j_11 + 1) _ S117 (by omega) ⟨rfl, by omega, g1_11 ++ (encS slx0 ++ (llx1 ++ (llx2 ++ (encB qlx3 ++ [])))), g3_11, by rw [hg_11, hg3_11]; simp only [List.append_assoc], hr_11, ?_⟩).weaken ⟨rfl, rfl, rfl, rfl, rfl, trivial⟩
                have hz := RQ.cat (k_11.trans (hs_11.keepB c)) hll_11' ho_11 w17
                simpa using hz
            · have hq2 : j_11 = (elems vgx1).length := by omega
              rw [List.drop_eq_nil_of_le (by omega)] at hdr_11
              obtain rfl := hdr_11.nil_inv
              have hend_11 : RQ T_6 c buf_6 (pre11 ++ lgx1) T_11 := by rw [hg_11, List.append_nil]; exact ⟨k_11, buf_11, h_11, hll_11, ho_11⟩
              repeat' first
               | exact hj11 _ _ ⟨⟨rfl, rfl, rfl, rfl, trivial⟩, hend_11⟩
               | refine Opl.val (op_lenL rfl hvt1.isL rfl) rfl ?_
               | refine Opl.val (op_int rfl rfl rfl (lss_yes hq_6)) rfl ?_
               | refine Opl.gon (q := true) rfl rfl (fun _ => ?_) (fun h => by cases h)
               | refine Opl.callr rfl (by kernel_rfl) hfull_6 rfl ?_
               | refine Go.condT rfl ?_
               | (refine Opl.val (op_ixaL (by exact (congrArg some hvl_6)) rfl hix_6) rfl ?_; rw [← hgs_6])
               | refine Opl.val (op_int rfl rfl rfl (inc_ok (i := j_6) (by omega))) rfl ?_
               | refine Opl.val (op_load rfl (ld_one (a_6_1 _))) rfl ?_
               | refine Opl.val (op_lenL rfl hvgx1.isL rfl) rfl ?_
               | refine Opl.val (op_int rfl rfl rfl (lss_no hq_11)) rfl ?_
               | refine Go.condF rfl ?_
               | refine .std ?_ | refine .nil ?_ | refine .seq ?_ | refine .region ?_ | refine .xs ?_ | refine .kb ?_ | refine .leaf ?_ | refine .block ?_ | refine .gn ?_ | refine .dr ?_ | fail
      · have hq2 : j_6 = (elems vt1).length := by omega
        rw [List.drop_eq_nil_of_le (by omega)] at hdr_6
        obtain rfl := hdr_6.nil_inv
        have hend_6 : RQ S c buf (pre6 ++ lt1) T_6 := by rw [hg_6, List.append_nil]; exact ⟨k_6, buf_6, h_6, hll_6, ho_6⟩
        repeat' first
         | exact hj6 _ _ ⟨⟨rfl, rfl, rfl, trivial⟩, hend_6⟩
         | refine Opl.val (op_lenL rfl hvt1.isL rfl) rfl ?_
         | refine Opl.val (op_int rfl rfl rfl (lss_no hq_6)) rfl ?_
         | refine Go.condF rfl ?_
         | refine .std ?_ | refine .nil ?_ | refine .seq ?_ | refine .region ?_ | refine .xs ?_ | refine .kb ?_ | refine .leaf ?_ | refine .block ?_ | refine .gn ?_ | refine .dr ?_ | fail
  · refine Go.weaken (E' := [(0, .ptr c 0), (1, vt0), (2, vt1), (6, .int .i64 (0 : Nat))]) ?_ ⟨rfl, rfl, rfl, rfl, trivial⟩
    refine Go.loop_ind (α := Nat) (fun j => (elems vt0).length - j) (fun j E S' => E = [(0, .ptr c 0), (1, vt0), (2, vt1), (6, .int .i64 j)] ∧ j ≤ (elems vt0).length ∧ ∃ g1 g2, lt0 = g1 ++ g2 ∧ EncL dt0 7 ((elems vt0).drop j) g2 ∧ RQ S c buf (pre2 ++ g1) S') ?_ 0 _ _ ⟨rfl, Nat.zero_le _, [], lt0, rfl, helt0, by simpa using w1⟩
    rintro j_2 E T_2 ⟨rfl, hjl_2, g1_2, g2_2, hg_2, hdr_2, z_2⟩ IHl_2
    obtain ⟨k_2, buf_2, h_2, hll_2, ho_2⟩ := z_2
    by_cases hq_2 : j_2 < (elems vt0).length
    · by_cases hf_2 : 100000 < buf_2.length
      · have hfull_2 : lim Tryz.prog (.call 69 [.ptr c 0]) T_2 = some (.ret (.bool true) T_2) := by rw [h_2.full, decide_eq_true hf_2]
        have hend_2 : RQ S c buf (pre2 ++ lt0) T_2 := by rw [hg_2, ← List.append_assoc]; exact RQ.stop k_2 h_2 hll_2 hf_2
        repeat' first
         | exact hj2 _ _ ⟨⟨rfl, rfl, rfl, trivial⟩, hend_2⟩
         | refine Opl.val (op_lenL rfl hvt0.isL rfl) rfl ?_
         | refine Opl.val (op_int rfl rfl rfl (lss_yes hq_2)) rfl ?_
         | refine Opl.gon (q := true) rfl rfl (fun _ => ?_) (fun h => by cases h)
         | refine Opl.callr rfl (by kernel_rfl) hfull_2 rfl ?_
         | refine Go.condF rfl ?_
         | refine .std ?_ | refine .nil ?_ | refine .seq ?_ | refine .region ?_ | refine .xs ?_ | refine .kb ?_ | refine .leaf ?_ | refine .block ?_ | refine .gn ?_ | refine .dr ?_ | fail
      · have hfull_2 : lim Tryz.prog (.call 69 [.ptr c 0]) T_2 = some (.ret (.bool false) T_2) := by rw [h_2.full, decide_eq_false hf_2]
        obtain ⟨ge_2, g3_2, hg3_2, hge_2, hr_2⟩ := hdr_2.drop (List.drop_eq_getElem_cons hq_2)
        have hix_2 : (elems vt0)[j_2]? = some (elems vt0)[j_2] := List.getElem?_eq_getElem hq_2
        obtain ⟨lt_2, tk_2, hvl_2⟩ := hvt0.el hix_2
        have hB_2 : buf_2.length + ge_2.length ≤ most := by rw [hg_2, hg3_2] at hBB; simp at hBB hll_2; omega
        have hll_2' := hll_2
        simp only [List.length_append] at hll_2
        obtain ⟨gs_2, hgs_2⟩ : ∃ gs_2, gs_2 = (elems vt0)[j_2].cells := ⟨_, rfl⟩
        rw [← hgs_2] at hge_2
        obtain ⟨scx0, ccx0, ecx0, hscx0, rfl, rfl, cxhe0⟩ := EncF.invS hge_2
        obtain ⟨dcx1, vcx1, lcx1, ccx1, ecx1, hdcx1, hvcx1, hlcx1, helcx1, rfl, rfl, cxhe1⟩ := EncF.invL cxhe0
        obtain ⟨dcx2, vcx2, lcx2, ccx2, ecx2, hdcx2, hvcx2, hlcx2, helcx2, rfl, rfl, cxhe2⟩ := EncF.invL cxhe1
        obtain ⟨rfl, rfl⟩ := EncF.invN cxhe2
        simp only [List.length_append, List.length_nil] at hB_2
        have hp_2 : ∀ W, Pt W (.cptr none (.str scx0 :: vcx1 :: vcx2 :: []) 0) (.str scx0 :: vcx1 :: vcx2 :: []) := fun W => Pt.cptr _ _ _
        have a_2_0 : ∀ W, Pt W (padd (.cptr none (.str scx0 :: vcx1 :: vcx2 :: []) 0) 0) [.str scx0] := fun W => (hp_2 W).at 0 rfl
        have a_2_1 : ∀ W, Pt W (padd (.cptr none (.str scx0 :: vcx1 :: vcx2 :: []) 0) 1) [vcx1] := fun W => (hp_2 W).at 1 rfl
        have a_2_2 : ∀ W, Pt W (padd (.cptr none (.str scx0 :: vcx1 :: vcx2 :: []) 0) 2) [vcx2] := fun W => (hp_2 W).at 2 rfl
        have x_2 : RQ T_2 c buf_2 [] T_2 := ⟨KeepB.refl _ _, buf_2, h_2, by simp, .inl (by simp)⟩
        repeat' first
         | refine Opl.val (op_lenL rfl hvt0.isL rfl) rfl ?_
         | refine Opl.val (op_int rfl rfl rfl (lss_yes hq_2)) rfl ?_
         | refine Opl.gon (q := true) rfl rfl (fun _ => ?_) (fun h => by cases h)
         | refine Opl.callr rfl (by kernel_rfl) hfull_2 rfl ?_
         | refine Go.condT rfl ?_
         | (refine Opl.val (op_ixaL (by exact (congrArg some hvl_2)) rfl hix_2) rfl ?_; rw [← hgs_2])
         | refine Opl.val (op_int rfl rfl rfl (inc_ok (i := j_2) (by omega))) rfl ?_
         | refine Opl.val (op_load rfl (ld_one (a_2_0 _))) rfl ?_
         | refine Opl.callR x_2 rfl (by kernel_rfl) (rtext scx0 hscx0) (by simp; omega) rfl (fun S118 w18 k1 _ => ?_)
         | refine Opl.val (op_load rfl (ld_one (a_2_1 _))) rfl ?_
         | refine Opl.callR w18 rfl (by kernel_rfl) (rtexts hvcx1 hlcx1 helcx1) (by simp; omega) rfl (fun S119 w19 k1 _ => ?_)
         | refine Opl.val (op_load rfl (ld_one (a_2_2 _))) rfl ?_
         | refine Opl.val (op_lenL rfl hvcx2.isL rfl) rfl ?_
         | refine Opl.callR w19 rfl (by kernel_rfl) (rnumber ((elems vcx2).length : Nat) (by constructor <;> omega)) (by simp; omega) rfl (fun S120 w20 k1 _ => ?_)
         | refine .std ?_ | refine .nil ?_ | refine .seq ?_ | refine .region ?_ | refine .xs ?_ | refine .kb ?_ | refine .leaf ?_ | refine .block ?_ | refine .gn ?_ | refine .dr ?_ | fail
        obtain ⟨pre21, hpre21⟩ : ∃ pre21, pre21 = [] ++ encS scx0 ++ (encI ((elems vcx1).length : Nat) ++ lcx1) ++ encI ((elems vcx2).length : Nat) := ⟨_, rfl⟩
        rw [← hpre21] at w20
        have hlpre21 := congrArg List.length hpre21
        simp only [List.length_append, List.length_nil] at hlpre21
        refine Go.joinE (fun E S' => Sub [(0, .ptr c 0), (1, vt0), (2, vt1), (6, .int .i64 j_2)] E ∧ RQ T_2 c buf_2 (pre21 ++ lcx2) S') ?_ (fun hj21 => ?_)
        · rintro E S122 ⟨hE, w23⟩
          refine At.weaken ?_ hE
          repeat' first
           | refine Opl.val (op_lenL rfl hvt0.isL rfl) rfl ?_
           | refine Opl.val (op_int rfl rfl rfl (lss_yes hq_2)) rfl ?_
           | refine Opl.gon (q := true) rfl rfl (fun _ => ?_) (fun h => by cases h)
           | refine Opl.callr rfl (by kernel_rfl) hfull_2 rfl ?_
           | refine Go.condT rfl ?_
           | (refine Opl.val (op_ixaL (by exact (congrArg some hvl_2)) rfl hix_2) rfl ?_; rw [← hgs_2])
           | refine Opl.val (op_int rfl rfl rfl (inc_ok (i := j_2) (by omega))) rfl ?_
           | refine .std ?_ | refine .nil ?_ | refine .seq ?_ | refine .region ?_ | refine .xs ?_ | refine .kb ?_ | refine .leaf ?_ | refine .block ?_ | refine .gn ?_ | refine .dr ?_ | fail
          refine (IHl_2 (j_2 + 1) _ S122 (by omega) ⟨rfl, by omega, g1_2 ++ (encS scx0 ++ (encI ((elems vcx1).length : Nat) ++ lcx1 ++ (encI ((elems vcx2).length : Nat) ++ lcx2 ++ []))), g3_2, by rw [hg_2, hg3_2]; simp only [List.append_assoc], hr_2, ?_⟩).weaken ⟨rfl, rfl, rfl, rfl, trivial⟩
          have hz := RQ.cat k_2 hll_2' ho_2 w23
          rw [hpre21] at hz
          simpa using hz
        · refine Go.weaken (E' := [(0, .ptr c 0), (1, vt0), (2, vt1), (6, .int .i64 j_2), (7, .int .i64 (0 : Nat))]) ?_ ⟨rfl, rfl, rfl, rfl, rfl, trivial⟩
          refine Go.loop_ind (α := Nat) (fun j => (elems vcx2).length - j) (fun j E S' => E = [(0, .ptr c 0), (1, vt0), (2, vt1), (6, .int .i64 j_2), (7, .int .i64 j)] ∧ j ≤ (elems vcx2).length ∧ ∃ g1 g2, lcx2 = g1 ++ g2 ∧ EncL dcx2 8 ((elems vcx2).drop j) g2 ∧ RQ T_2 c buf_2 (pre21 ++ g1) S') ?_ 0 _ _ ⟨rfl, Nat.zero_le _, [], lcx2, rfl, helcx2, by simpa using w20⟩
          rintro j_21 E T_21 ⟨rfl, hjl_21, g1_21, g2_21, hg_21, hdr_21, z_21⟩ IHl_21
          obtain ⟨k_21, buf_21, h_21, hll_21, ho_21⟩ := z_21
          by_cases hq_21 : j_21 < (elems vcx2).length
          · by_cases hf_21 : 100000 < buf_21.length
            · have hfull_21 : lim Tryz.prog (.call 69 [.ptr c 0]) T_21 = some (.ret (.bool true) T_21) := by rw [h_21.full, decide_eq_true hf_21]
              have hend_21 : RQ T_2 c buf_2 (pre21 ++ lcx2) T_21 := by rw [hg_21, ← List.append_assoc]; exact RQ.stop k_21 h_21 hll_21 hf_21
              repeat' first
               | exact hj21 _ _ ⟨⟨rfl, rfl, rfl, rfl, trivial⟩, hend_21⟩
               | refine Opl.val (op_lenL rfl hvt0.isL rfl) rfl ?_
               | refine Opl.val (op_int rfl rfl rfl (lss_yes hq_2)) rfl ?_
               | refine Opl.gon (q := true) rfl rfl (fun _ => ?_) (fun h => by cases h)
               | refine Opl.callr rfl (by kernel_rfl) hfull_2 rfl ?_
               | refine Go.condT rfl ?_
               | (refine Opl.val (op_ixaL (by exact (congrArg some hvl_2)) rfl hix_2) rfl ?_; rw [← hgs_2])
               | refine Opl.val (op_int rfl rfl rfl (inc_ok (i := j_2) (by omega))) rfl ?_
               | refine Opl.val (op_load rfl (ld_one (a_2_2 _))) rfl ?_
               | refine Opl.val (op_lenL rfl hvcx2.isL rfl) rfl ?_
               | refine Opl.val (op_int rfl rfl rfl (lss_yes hq_21)) rfl ?_
               | refine Opl.gon (q := true) rfl rfl (fun _ => ?_) (fun h => by cases h)
               | refine Opl.callr rfl (by kernel_rfl) hfull_21 rfl ?_
               | refine Go.condF rfl ?_
               | refine .std ?_ | refine .nil ?_ | refine .seq ?_ | refine .region ?_ | refine .xs ?_ | refine .kb ?_ | refine .leaf ?_ | refine .block ?_ | refine .gn ?_ | refine .dr ?_ | fail
            · have hfull_21 : lim Tryz.prog (.call 69 [.ptr c 0]) T_21 = some (.ret (.bool false) T_21) := by rw [h_21.full, decide_eq_false hf_21]
              obtain ⟨ge_21, g3_21, hg3_21, hge_21, hr_21⟩ := hdr_21.drop (List.drop_eq_getElem_cons hq_21)
              have hix_21 : (elems vcx2)[j_21]? = some (elems vcx2)[j_21] := List.getElem?_eq_getElem hq_21
              obtain ⟨lt_21, tk_21, hvl_21⟩ := hvcx2.el hix_21
              have hB_21 : buf_21.length + ge_21.length ≤ most := by rw [hg_21, hg3_21] at hB_2; simp at hB_2 hll_21; omega
              have hll_21' := hll_21
              simp only [List.length_append] at hll_21
              obtain ⟨gs_21, hgs_21⟩ : ∃ gs_21, gs_21 = (elems vcx2)[j_21].cells := ⟨_, rfl⟩
              rw [← hgs_21] at hge_21
              obtain ⟨svx0, cvx0, evx0, hsvx0, rfl, rfl, vxhe0⟩ := EncF.invS hge_21
              obtain ⟨dvx1, vvx1, lvx1, cvx1, evx1, hdvx1, hvvx1, hlvx1, helvx1, rfl, rfl, vxhe1⟩ := EncF.invL vxhe0
              obtain ⟨rfl, rfl⟩ := EncF.invN vxhe1
              simp only [List.length_append, List.length_nil] at hB_21
              have hp_21 : ∀ W, Pt W (.cptr none (.str svx0 :: vvx1 :: []) 0) (.str svx0 :: vvx1 :: []) := fun W => Pt.cptr _ _ _
              have a_21_0 : ∀ W, Pt W (padd (.cptr none (.str svx0 :: vvx1 :: []) 0) 0) [.str svx0] := fun W => (hp_21 W).at 0 rfl
              have a_21_1 : ∀ W, Pt W (padd (.cptr none (.str svx0 :: vvx1 :: []) 0) 1) [vvx1] := fun W => (hp_21 W).at 1 rfl
              have x_21 : RQ T_21 c buf_21 [] T_21 := ⟨KeepB.refl _ _, buf_21, h_21, by simp, .inl (by simp)⟩
              repeat' first
               | refine Opl.val (op_lenL rfl hvt0.isL rfl) rfl ?_
               | refine Opl.val (op_int rfl rfl rfl (lss_yes hq_2)) rfl ?_
               | refine Opl.gon (q := true) rfl rfl (fun _ => ?_) (fun h => by cases h)
               | refine Opl.callr rfl (by kernel_rfl) hfull_2 rfl ?_
               | refine Go.condT rfl ?_
               | (refine Opl.val (op_ixaL (by exact (congrArg some hvl_2)) rfl hix_2) rfl ?_; rw [← hgs_2])
               | refine Opl.val (op_int rfl rfl rfl (inc_ok (i := j_2) (by omega))) rfl ?_
               | refine Opl.val (op_load rfl (ld_one (a_2_2 _))) rfl ?_
               | refine Opl.val (op_lenL rfl hvcx2.isL rfl) rfl ?_
               | refine Opl.val (op_int rfl rfl rfl (lss_yes hq_21)) rfl ?_
               | refine Opl.gon (q := true) rfl rfl (fun _ => ?_) (fun h => by cases h)
               | refine Opl.callr rfl (by kernel_rfl) hfull_21 rfl ?_
               | refine Go.condT rfl ?_
               | (refine Opl.val (op_ixaL (by exact (congrArg some hvl_21)) rfl hix_21) rfl ?_; rw [← hgs_21])
               | refine Opl.val (op_int rfl rfl rfl (inc_ok (i := j_21) (by omega))) rfl ?_
               | refine Opl.val (op_load rfl (ld_one (a_21_0 _))) rfl ?_
               | refine Opl.callR x_21 rfl (by kernel_rfl) (rtext svx0 hsvx0) (by simp; omega) rfl (fun S124 w24 k1 _ => ?_)
               | refine Opl.val (op_load rfl (ld_one (a_2_2 _))) rfl ?_
               | refine Opl.val (op_load rfl (ld_one (a_21_1 _))) rfl ?_
               | refine Opl.callR w24 rfl (by kernel_rfl) ((pAll dvx1).types hvvx1 hlvx1 helvx1) (by simp; omega) rfl (fun S125 w25 k1 _ => ?_)
               | refine Opl.val (op_load rfl (ld_one (a_2_2 _))) rfl ?_
               | refine .std ?_ | refine .nil ?_ | refine .seq ?_ | refine .region ?_ | refine .xs ?_ | refine .kb ?_ | refine .leaf ?_ | refine .block ?_ | refine .gn ?_ | refine .dr ?_ | fail
              refine (IHl_21 (j_21 + 1) _ S125 (by omega) ⟨rfl, by omega, g1_21 ++ (encS svx0 ++ (encI ((elems vvx1).length : Nat) ++ lvx1 ++ [])), g3_21, by rw [hg_21, hg3_21]; simp only [List.append_assoc], hr_21, ?_⟩).weaken ⟨rfl, rfl, rfl, rfl, rfl, trivial⟩
              have hz := RQ.cat k_21 hll_21' ho_21 w25
              simpa using hz
          · have hq2 : j_21 = (elems vcx2).length := by omega
            rw [List.drop_eq_nil_of_le (by omega)] at hdr_21
            obtain rfl := hdr_21.nil_inv
            have hend_21 : RQ T_2 c buf_2 (pre21 ++ lcx2) T_21 := by rw [hg_21, List.append_nil]; exact ⟨k_21, buf_21, h_21, hll_21, ho_21⟩
            repeat' first
             | exact hj21 _ _ ⟨⟨rfl, rfl, rfl, rfl, trivial⟩, hend_21⟩
             | refine Opl.val (op_lenL rfl hvt0.isL rfl) rfl ?_
             | refine Opl.val (op_int rfl rfl rfl (lss_yes hq_2)) rfl ?_
             | refine Opl.gon (q := true) rfl rfl (fun _ => ?_) (fun h => by cases h)
             | refine Opl.callr rfl (by kernel_rfl) hfull_2 rfl ?_
             | refine Go.condT rfl ?_
             | (refine Opl.val (op_ixaL (by exact (congrArg some hvl_2)) rfl hix_2) rfl ?_; rw [← hgs_2])
             | refine Opl.val (op_int rfl rfl rfl (inc_ok (i := j_2) (by omega))) rfl ?_
             | refine Opl.val (op_load rfl (ld_one (a_2_2 _))) rfl ?_
             | refine Opl.val (op_lenL rfl hvcx2.isL rfl) rfl ?_
             | refine Opl.val (op_int rfl rfl rfl (lss_no hq_21)) rfl ?_
             | refine Go.condF rfl ?_
             | refine .std ?_ | refine .nil ?_ | refine .seq ?_ | refine .region ?_ | refine .xs ?_ | refine .kb ?_ | refine .leaf ?_ | refine .block ?_ | refine .gn ?_ | refine .dr ?_ | fail
    · have hq2 : j_2 = (elems vt0).length := by omega
      rw [List.drop_eq_nil_of_le (by omega)] at hdr_2
      obtain rfl := hdr_2.nil_inv
      have hend_2 : RQ S c buf (pre2 ++ lt0) T_2 := by rw [hg_2, List.append_nil]; exact ⟨k_2, buf_2, h_2, hll_2, ho_2⟩
      repeat' first
       | exact hj2 _ _ ⟨⟨rfl, rfl, rfl, trivial⟩, hend_2⟩
       | refine Opl.val (op_lenL rfl hvt0.isL rfl) rfl ?_
       | refine Opl.val (op_int rfl rfl rfl (lss_no hq_2)) rfl ?_
       | refine Go.condF rfl ?_
       | refine .std ?_ | refine .nil ?_ | refine .seq ?_ | refine .region ?_ | refine .xs ?_ | refine .kb ?_ | refine .leaf ?_ | refine .block ?_ | refine .gn ?_ | refine .dr ?_ | fail
set_option maxHeartbeats 8000000 in
theorem rprogram {d : Nat} {S : St} {c : Nat} {cs : List V} {bs : List UInt8} (he : EncF d (sch 14) cs bs) : RC 27 [.ptr c 0, .agg cs] S c bs := by
  intro buf h hB
  obtain ⟨dt0, vt0, lt0, ct0, et0, hdt0, hvt0, hlt0, helt0, rfl, rfl, the0⟩ := EncF.invL he
  obtain ⟨dt1, vt1, lt1, ct1, et1, hdt1, hvt1, hlt1, helt1, rfl, rfl, the1⟩ := EncF.invL the0
  obtain ⟨dt2, vt2, lt2, ct2, et2, hdt2, hvt2, hlt2, helt2, rfl, rfl, the2⟩ := EncF.invL the1
  obtain ⟨dt3, xt3, lt3, ct3, et3, hdt3, hxt3, hxlt3, rfl, rfl, the3⟩ := EncF.invT the2
  obtain ⟨rfl, rfl⟩ := EncF.invN the3
  have hlt := h.lt
  obtain ⟨S0, hS0⟩ : ∃ S0, S0 = S.new (.box 32 (vt0 :: vt1 :: vt2 :: (xt3 ++ []))) := ⟨_, rfl⟩
  have hs0 : Same S S0 := by rw [hS0]; exact Same.new _ _
  have hx : S0.h.find S.next = some (.box 32 (vt0 :: vt1 :: vt2 :: (xt3 ++ []))) := by rw [hS0]; simp [St.new, Tr.find_put]
  have hn0' : S.next < S0.next := by rw [hS0]; simp [St.new]
  have hp : Src S0 c (.ptr S.next 0) (vt0 :: vt1 :: vt2 :: (xt3 ++ [])) := ⟨⟨_, _, hx, fun i v h => by simpa using h⟩, by omega, hn0'⟩
  have f0 : Src S0 c (padd (.ptr S.next 0) 0) [vt0] := hp.at 0 rfl
  have f1 : Src S0 c (padd (.ptr S.next 0) 1) [vt1] := hp.at 1 rfl
  have f2 : Src S0 c (padd (.ptr S.next 0) 2) [vt2] := hp.at 2 rfl
  have f3 : Src S0 c (padd (.ptr S.next 0) 3) xt3 := hp.sub 3 fun i v hi => by
    have hlt := (List.getElem?_eq_some_iff.1 hi).1
    simp only [szs] at hxlt3
    simp [List.getElem?_append, List.getElem?_cons, hxlt3]
    try (first | exact hi | (rw [if_pos (by omega)]; exact hi) | (split <;> first | omega | exact hi | (split <;> first | omega | exact hi)))
  have w0 : RQ S0 c buf [] S0 := ⟨KeepB.refl _ _, buf, h.same hs0, by simp, .inl (by simp)⟩
  have hBB := hB
  simp only [List.length_append, List.length_nil] at hB
  refine CallTo.of (n := 48) Tryz.func27 rfl rfl ?_
  repeat' first
   | refine Opl.val (op_box rfl) rfl (Opl.cast (S' := S0) ?_ hS0)
   | refine Opl.val (op_load rfl (ld_one (w0.1.src f0).pt)) rfl ?_
   | refine Opl.val (op_load rfl (ld_one (w0.1.src f1).pt)) rfl ?_
   | refine Opl.callR w0 rfl (by kernel_rfl) (rdecl hvt0 hlt0 helt0 hvt1 hlt1 helt1) (by simp; omega) rfl (fun S101 w1 k1 _ => ?_)
   | refine Opl.val (op_load rfl (ld_one (w1.1.src f2).pt)) rfl ?_
   | refine Opl.val (op_lenL rfl hvt2.isL rfl) rfl ?_
   | refine Opl.callR w1 rfl (by kernel_rfl) (rnumber ((elems vt2).length : Nat) (by constructor <;> omega)) (by simp; omega) rfl (fun S102 w2 k1 _ => ?_)
   | refine .std ?_ | refine .nil ?_ | refine .seq ?_ | refine .region ?_ | refine .xs ?_ | refine .kb ?_ | refine .leaf ?_ | refine .block ?_ | refine .gn ?_ | refine .dr ?_ | fail
  obtain ⟨pre3, hpre3⟩ : ∃ pre3, pre3 = [] ++ (encI ((elems vt0).length : Nat) ++ lt0 ++ (encI ((elems vt1).length : Nat) ++ lt1)) ++ encI ((elems vt2).length : Nat) := ⟨_, rfl⟩
  rw [← hpre3] at w2
  have hlpre3 := congrArg List.length hpre3
  simp only [List.length_append, List.length_nil] at hlpre3
  refine Go.joinB (fun E S' => Sub [(0, .ptr c 0), (3, .ptr S.next 0)] E ∧ RQ S0 c buf (pre3 ++ lt2) S') ?_ (fun hj3 => ?_)
  · rintro E S104 ⟨hE, w5⟩
    refine Go.weaken ?_ hE
    repeat' first
     | refine Opl.val (op_box rfl) rfl (Opl.cast (S' := S0) ?_ hS0)
     | refine Opl.val (op_load rfl (ld_agg (w5.1.src f3).pt (by rw [hxlt3]; rfl))) rfl ?_
     | refine Opl.callR w5 rfl (by kernel_rfl) ((pAll dt3).expr hxt3) (by simp; omega) rfl (fun S106 w6 k1 _ => ?_)
     | refine .std ?_ | refine .nil ?_ | refine .seq ?_ | refine .region ?_ | refine .xs ?_ | refine .kb ?_ | refine .leaf ?_ | refine .block ?_ | refine .gn ?_ | refine .dr ?_ | fail
    refine At.fn rfl rfl rfl ?_
    obtain ⟨q1, q2⟩ := w6
    rw [hpre3] at q2
    exact ⟨(hs0.keepB c).trans q1, by simpa using q2⟩
  · refine Go.weaken (E' := [(0, .ptr c 0), (3, .ptr S.next 0), (4, .int .i64 (0 : Nat))]) ?_ ⟨rfl, rfl, rfl, trivial⟩
    refine Go.loop_ind (α := Nat) (fun j => (elems vt2).length - j) (fun j E S' => E = [(0, .ptr c 0), (3, .ptr S.next 0), (4, .int .i64 j)] ∧ j ≤ (elems vt2).length ∧ ∃ g1 g2, lt2 = g1 ++ g2 ∧ EncL dt2 13 ((elems vt2).drop j) g2 ∧ RQ S0 c buf (pre3 ++ g1) S') ?_ 0 _ _ ⟨rfl, Nat.zero_le _, [], lt2, rfl, helt2, by simpa using w2⟩
    rintro j_3 E T_3 ⟨rfl, hjl_3, g1_3, g2_3, hg_3, hdr_3, z_3⟩ IHl_3
    obtain ⟨k_3, buf_3, h_3, hll_3, ho_3⟩ := z_3
    by_cases hq_3 : j_3 < (elems vt2).length
    · by_cases hf_3 : 100000 < buf_3.length
      · have hfull_3 : lim Tryz.prog (.call 69 [.ptr c 0]) T_3 = some (.ret (.bool true) T_3) := by rw [h_3.full, decide_eq_true hf_3]
        have hend_3 : RQ S0 c buf (pre3 ++ lt2) T_3 := by rw [hg_3, ← List.append_assoc]; exact RQ.stop k_3 h_3 hll_3 hf_3
        repeat' first
         | exact hj3 _ _ ⟨⟨rfl, rfl, trivial⟩, hend_3⟩
         | refine Opl.val (op_box rfl) rfl (Opl.cast (S' := S0) ?_ hS0)
         | refine Opl.val (op_load rfl (ld_one (k_3.src f2).pt)) rfl ?_
         | refine Opl.val (op_lenL rfl hvt2.isL rfl) rfl ?_
         | refine Opl.val (op_int rfl rfl rfl (lss_yes hq_3)) rfl ?_
         | refine Opl.gon (q := true) rfl rfl (fun _ => ?_) (fun h => by cases h)
         | refine Opl.callr rfl (by kernel_rfl) hfull_3 rfl ?_
         | refine Go.condF rfl ?_
         | refine .std ?_ | refine .nil ?_ | refine .seq ?_ | refine .region ?_ | refine .xs ?_ | refine .kb ?_ | refine .leaf ?_ | refine .block ?_ | refine .gn ?_ | refine .dr ?_ | fail
      · have hfull_3 : lim Tryz.prog (.call 69 [.ptr c 0]) T_3 = some (.ret (.bool false) T_3) := by rw [h_3.full, decide_eq_false hf_3]
        obtain ⟨ge_3, g3_3, hg3_3, hge_3, hr_3⟩ := hdr_3.drop (List.drop_eq_getElem_cons hq_3)
        have hix_3 : (elems vt2)[j_3]? = some (elems vt2)[j_3] := List.getElem?_eq_getElem hq_3
        obtain ⟨lt_3, tk_3, hvl_3⟩ := hvt2.el hix_3
        have hB_3 : buf_3.length + ge_3.length ≤ most := by rw [hg_3, hg3_3] at hBB; simp at hBB hll_3; omega
        have hll_3' := hll_3
        simp only [List.length_append] at hll_3
        obtain ⟨gs_3, hgs_3⟩ : ∃ gs_3, gs_3 = (elems vt2)[j_3].cells := ⟨_, rfl⟩
        rw [← hgs_3] at hge_3
        obtain ⟨sdx0, cdx0, edx0, hsdx0, rfl, rfl, dxhe0⟩ := EncF.invS hge_3
        obtain ⟨ddx1, xdx1, ldx1, cdx1, edx1, hddx1, hxdx1, hxldx1, rfl, rfl, dxhe1⟩ := EncF.invT dxhe0
        obtain ⟨rfl, rfl⟩ := EncF.invN dxhe1
        simp only [List.length_append, List.length_nil] at hB_3
        have hp_3 : ∀ W, Pt W (.cptr none (.str sdx0 :: (xdx1 ++ [])) 0) (.str sdx0 :: (xdx1 ++ [])) := fun W => Pt.cptr _ _ _
        have a_3_0 : ∀ W, Pt W (padd (.cptr none (.str sdx0 :: (xdx1 ++ [])) 0) 0) [.str sdx0] := fun W => (hp_3 W).at 0 rfl
        have a_3_1 : ∀ W, Pt W (padd (.cptr none (.str sdx0 :: (xdx1 ++ [])) 0) 1) xdx1 := fun W => (hp_3 W).sub 1 fun i v hi => by
          have hlt := (List.getElem?_eq_some_iff.1 hi).1
          simp only [szs] at hxldx1
          simp [List.getElem?_append, List.getElem?_cons, hxldx1]
          try (first | exact hi | (rw [if_pos (by omega)]; exact hi) | (split <;> first | omega | exact hi | (split <;> first | omega | exact hi)))
        have x_3 : RQ T_3 c buf_3 [] T_3 := ⟨KeepB.refl _ _, buf_3, h_3, by simp, .inl (by simp)⟩
        repeat' first
         | refine Opl.val (op_box rfl) rfl (Opl.cast (S' := S0) ?_ hS0)
         | refine Opl.val (op_load rfl (ld_one (k_3.src f2).pt)) rfl ?_
         | refine Opl.val (op_lenL rfl hvt2.isL rfl) rfl ?_
         | refine Opl.val (op_int rfl rfl rfl (lss_yes hq_3)) rfl ?_
         | refine Opl.gon (q := true) rfl rfl (fun _ => ?_) (fun h => by cases h)
         | refine Opl.callr rfl (by kernel_rfl) hfull_3 rfl ?_
         | refine Go.condT rfl ?_
         | (refine Opl.val (op_ixaL (by exact (congrArg some hvl_3)) rfl hix_3) rfl ?_; rw [← hgs_3])
         | refine Opl.val (op_int rfl rfl rfl (inc_ok (i := j_3) (by omega))) rfl ?_
         | refine Opl.val (op_load rfl (ld_one (a_3_0 _))) rfl ?_
         | refine Opl.callR x_3 rfl (by kernel_rfl) (rtext sdx0 hsdx0) (by simp; omega) rfl (fun S107 w7 k1 _ => ?_)
         | refine Opl.val (op_load rfl (ld_one ((k_3.trans w7.1).src f2).pt)) rfl ?_
         | refine Opl.val (op_load rfl (ld_agg (a_3_1 _) (by rw [hxldx1]; rfl))) rfl ?_
         | refine Opl.callR w7 rfl (by kernel_rfl) ((pAll ddx1).expr hxdx1) (by simp; omega) rfl (fun S108 w8 k1 _ => ?_)
         | refine Opl.val (op_load rfl (ld_one ((k_3.trans w8.1).src f2).pt)) rfl ?_
         | refine .std ?_ | refine .nil ?_ | refine .seq ?_ | refine .region ?_ | refine .xs ?_ | refine .kb ?_ | refine .leaf ?_ | refine .block ?_ | refine .gn ?_ | refine .dr ?_ | fail
        refine (IHl_3 (j_3 + 1) _ S108 (by omega) ⟨rfl, by omega, g1_3 ++ (encS sdx0 ++ (ldx1 ++ [])), g3_3, by rw [hg_3, hg3_3]; simp only [List.append_assoc], hr_3, ?_⟩).weaken ⟨rfl, rfl, rfl, trivial⟩
        have hz := RQ.cat k_3 hll_3' ho_3 w8
        simpa using hz
    · have hq2 : j_3 = (elems vt2).length := by omega
      rw [List.drop_eq_nil_of_le (by omega)] at hdr_3
      obtain rfl := hdr_3.nil_inv
      have hend_3 : RQ S0 c buf (pre3 ++ lt2) T_3 := by rw [hg_3, List.append_nil]; exact ⟨k_3, buf_3, h_3, hll_3, ho_3⟩
      repeat' first
       | exact hj3 _ _ ⟨⟨rfl, rfl, trivial⟩, hend_3⟩
       | refine Opl.val (op_box rfl) rfl (Opl.cast (S' := S0) ?_ hS0)
       | refine Opl.val (op_load rfl (ld_one (k_3.src f2).pt)) rfl ?_
       | refine Opl.val (op_lenL rfl hvt2.isL rfl) rfl ?_
       | refine Opl.val (op_int rfl rfl rfl (lss_no hq_3)) rfl ?_
       | refine Go.condF rfl ?_
       | refine .std ?_ | refine .nil ?_ | refine .seq ?_ | refine .region ?_ | refine .xs ?_ | refine .kb ?_ | refine .leaf ?_ | refine .block ?_ | refine .gn ?_ | refine .dr ?_ | fail
set_option maxHeartbeats 8000000 in
theorem rcode {d : Nat} {S : St} {c : Nat} {cs : List V} {bs : List UInt8} (he : EncF d (sch 15) cs bs) : RC 31 [.ptr c 0, .agg cs] S c bs := by
  intro buf h hB
  obtain ⟨dt0, vt0, lt0, ct0, et0, hdt0, hvt0, hlt0, helt0, rfl, rfl, the0⟩ := EncF.invL he
  obtain ⟨dt1, vt1, lt1, ct1, et1, hdt1, hvt1, hlt1, helt1, rfl, rfl, the1⟩ := EncF.invL the0
  obtain ⟨dt2, vt2, lt2, ct2, et2, hdt2, hvt2, hlt2, helt2, rfl, rfl, the2⟩ := EncF.invL the1
  obtain ⟨rfl, rfl⟩ := EncF.invN the2
  have hlt := h.lt
  obtain ⟨S0, hS0⟩ : ∃ S0, S0 = S.new (.box 35 (vt0 :: vt1 :: vt2 :: [])) := ⟨_, rfl⟩
  have hs0 : Same S S0 := by rw [hS0]; exact Same.new _ _
  have hx : S0.h.find S.next = some (.box 35 (vt0 :: vt1 :: vt2 :: [])) := by rw [hS0]; simp [St.new, Tr.find_put]
  have hn0' : S.next < S0.next := by rw [hS0]; simp [St.new]
  have hp : Src S0 c (.ptr S.next 0) (vt0 :: vt1 :: vt2 :: []) := ⟨⟨_, _, hx, fun i v h => by simpa using h⟩, by omega, hn0'⟩
  have f0 : Src S0 c (padd (.ptr S.next 0) 0) [vt0] := hp.at 0 rfl
  have f1 : Src S0 c (padd (.ptr S.next 0) 1) [vt1] := hp.at 1 rfl
  have f2 : Src S0 c (padd (.ptr S.next 0) 2) [vt2] := hp.at 2 rfl
  have w0 : RQ S0 c buf [] S0 := ⟨KeepB.refl _ _, buf, h.same hs0, by simp, .inl (by simp)⟩
  have hBB := hB
  simp only [List.length_append, List.length_nil] at hB
  refine CallTo.of (n := 100) Tryz.func31 rfl rfl ?_
  repeat' first
   | refine Opl.val (op_box rfl) rfl (Opl.cast (S' := S0) ?_ hS0)
   | refine Opl.val (op_load rfl (ld_one (w0.1.src f0).pt)) rfl ?_
   | refine Opl.val (op_load rfl (ld_one (w0.1.src f1).pt)) rfl ?_
   | refine Opl.callR w0 rfl (by kernel_rfl) (rdecl hvt0 hlt0 helt0 hvt1 hlt1 helt1) (by simp; omega) rfl (fun S101 w1 k1 _ => ?_)
   | refine Opl.val (op_load rfl (ld_one (w1.1.src f2).pt)) rfl ?_
   | refine Opl.val (op_lenL rfl hvt2.isL rfl) rfl ?_
   | refine Opl.callR w1 rfl (by kernel_rfl) (rnumber ((elems vt2).length : Nat) (by constructor <;> omega)) (by simp; omega) rfl (fun S102 w2 k1 _ => ?_)
   | refine .std ?_ | refine .nil ?_ | refine .seq ?_ | refine .region ?_ | refine .xs ?_ | refine .kb ?_ | refine .leaf ?_ | refine .block ?_ | refine .gn ?_ | refine .dr ?_ | fail
  obtain ⟨pre3, hpre3⟩ : ∃ pre3, pre3 = [] ++ (encI ((elems vt0).length : Nat) ++ lt0 ++ (encI ((elems vt1).length : Nat) ++ lt1)) ++ encI ((elems vt2).length : Nat) := ⟨_, rfl⟩
  rw [← hpre3] at w2
  have hlpre3 := congrArg List.length hpre3
  simp only [List.length_append, List.length_nil] at hlpre3
  refine Go.joinE (fun E S' => Sub [(0, .ptr c 0), (3, .ptr S.next 0)] E ∧ RQ S0 c buf (pre3 ++ lt2) S') ?_ (fun hj3 => ?_)
  · rintro E S104 ⟨hE, w5⟩
    refine At.weaken ?_ hE
    repeat' first
     | refine Opl.val (op_box rfl) rfl (Opl.cast (S' := S0) ?_ hS0)
     | refine .std ?_ | refine .nil ?_ | refine .seq ?_ | refine .region ?_ | refine .xs ?_ | refine .kb ?_ | refine .leaf ?_ | refine .block ?_ | refine .gn ?_ | refine .dr ?_ | fail
    refine At.fn rfl rfl rfl ?_
    obtain ⟨q1, q2⟩ := w5
    rw [hpre3] at q2
    exact ⟨(hs0.keepB c).trans q1, by simpa using q2⟩
  · refine Go.weaken (E' := [(0, .ptr c 0), (3, .ptr S.next 0), (4, .int .i64 (0 : Nat))]) ?_ ⟨rfl, rfl, rfl, trivial⟩
    refine Go.loop_ind (α := Nat) (fun j => (elems vt2).length - j) (fun j E S' => E = [(0, .ptr c 0), (3, .ptr S.next 0), (4, .int .i64 j)] ∧ j ≤ (elems vt2).length ∧ ∃ g1 g2, lt2 = g1 ++ g2 ∧ EncL dt2 16 ((elems vt2).drop j) g2 ∧ RQ S0 c buf (pre3 ++ g1) S') ?_ 0 _ _ ⟨rfl, Nat.zero_le _, [], lt2, rfl, helt2, by simpa using w2⟩
    rintro j_3 E T_3 ⟨rfl, hjl_3, g1_3, g2_3, hg_3, hdr_3, z_3⟩ IHl_3
    obtain ⟨k_3, buf_3, h_3, hll_3, ho_3⟩ := z_3
    by_cases hq_3 : j_3 < (elems vt2).length
    · by_cases hf_3 : 100000 < buf_3.length
      · have hfull_3 : lim Tryz.prog (.call 69 [.ptr c 0]) T_3 = some (.ret (.bool true) T_3) := by rw [h_3.full, decide_eq_true hf_3]
        have hend_3 : RQ S0 c buf (pre3 ++ lt2) T_3 := by rw [hg_3, ← List.append_assoc]; exact RQ.stop k_3 h_3 hll_3 hf_3
        repeat' first
         | exact hj3 _ _ ⟨⟨rfl, rfl, trivial⟩, hend_3⟩
         | refine Opl.val (op_box rfl) rfl (Opl.cast (S' := S0) ?_ hS0)
         | refine Opl.val (op_load rfl (ld_one (k_3.src f2).pt)) rfl ?_
         | refine Opl.val (op_lenL rfl hvt2.isL rfl) rfl ?_
         | refine Opl.val (op_int rfl rfl rfl (lss_yes hq_3)) rfl ?_
         | refine Opl.gon (q := true) rfl rfl (fun _ => ?_) (fun h => by cases h)
         | refine Opl.callr rfl (by kernel_rfl) hfull_3 rfl ?_
         | refine Go.condF rfl ?_
         | refine .std ?_ | refine .nil ?_ | refine .seq ?_ | refine .region ?_ | refine .xs ?_ | refine .kb ?_ | refine .leaf ?_ | refine .block ?_ | refine .gn ?_ | refine .dr ?_ | fail
      · have hfull_3 : lim Tryz.prog (.call 69 [.ptr c 0]) T_3 = some (.ret (.bool false) T_3) := by rw [h_3.full, decide_eq_false hf_3]
        obtain ⟨ge_3, g3_3, hg3_3, hge_3, hr_3⟩ := hdr_3.drop (List.drop_eq_getElem_cons hq_3)
        have hix_3 : (elems vt2)[j_3]? = some (elems vt2)[j_3] := List.getElem?_eq_getElem hq_3
        obtain ⟨lt_3, tk_3, hvl_3⟩ := hvt2.el hix_3
        have hB_3 : buf_3.length + ge_3.length ≤ most := by rw [hg_3, hg3_3] at hBB; simp at hBB hll_3; omega
        have hll_3' := hll_3
        simp only [List.length_append] at hll_3
        obtain ⟨gs_3, hgs_3⟩ : ∃ gs_3, gs_3 = (elems vt2)[j_3].cells := ⟨_, rfl⟩
        rw [← hgs_3] at hge_3
        obtain ⟨U_3, hst_3, hs_3, hx_3, hxl_3⟩ := lay (S := T_3) (T := 148) (z := [.int .i64 0, .int .i64 0, .int .i64 0, .bool false, .nils]) rfl (by simpa [sch, szs] using hge_3.len) hge_3.ones
        have hel_3 : loadE Tryz.prog 148 (.cptr none gs_3 0) T_3 = some (.agg gs_3) := ld_agg (Pt.cptr _ _ _) (by simpa [sch, szs] using hge_3.len)
        obtain ⟨ndx0, cdx0, edx0, hndx0, rfl, rfl, dxhe0⟩ := EncF.invI hge_3
        obtain ⟨ndx1, cdx1, edx1, hndx1, rfl, rfl, dxhe1⟩ := EncF.invI dxhe0
        obtain ⟨ndx2, cdx2, edx2, hndx2, rfl, rfl, dxhe2⟩ := EncF.invI dxhe1
        obtain ⟨qdx3, cdx3, edx3, rfl, rfl, dxhe3⟩ := EncF.invB dxhe2
        obtain ⟨ddx4, vdx4, ldx4, cdx4, edx4, hddx4, hvdx4, hldx4, heldx4, rfl, rfl, dxhe4⟩ := EncF.invL dxhe3
        obtain ⟨rfl, rfl⟩ := EncF.invN dxhe4
        simp only [List.length_append, List.length_nil] at hB_3
        have hc_3 := h_3.lt
        have hp_3 : Src U_3 c (.ptr T_3.next 0) (.int .i64 ndx0 :: .int .i64 ndx1 :: .int .i64 ndx2 :: .bool qdx3 :: vdx4 :: []) := ⟨⟨_, _, hx_3, fun i v h => by simpa using h⟩, by omega, hxl_3⟩
        have a_3_0 : Src U_3 c (padd (.ptr T_3.next 0) 0) [.int .i64 ndx0] := hp_3.at 0 rfl
        have a_3_1 : Src U_3 c (padd (.ptr T_3.next 0) 1) [.int .i64 ndx1] := hp_3.at 1 rfl
        have a_3_2 : Src U_3 c (padd (.ptr T_3.next 0) 2) [.int .i64 ndx2] := hp_3.at 2 rfl
        have a_3_3 : Src U_3 c (padd (.ptr T_3.next 0) 3) [.bool qdx3] := hp_3.at 3 rfl
        have a_3_4 : Src U_3 c (padd (.ptr T_3.next 0) 4) [vdx4] := hp_3.at 4 rfl
        have x_3 : RQ U_3 c buf_3 [] U_3 := ⟨KeepB.refl _ _, buf_3, h_3.same hs_3, by simp, .inl (by simp)⟩
        repeat' first
         | refine Opl.val (op_box rfl) rfl (Opl.cast (S' := S0) ?_ hS0)
         | refine Opl.val (op_load rfl (ld_one (k_3.src f2).pt)) rfl ?_
         | refine Opl.val (op_lenL rfl hvt2.isL rfl) rfl ?_
         | refine Opl.val (op_int rfl rfl rfl (lss_yes hq_3)) rfl ?_
         | refine Opl.gon (q := true) rfl rfl (fun _ => ?_) (fun h => by cases h)
         | refine Opl.callr rfl (by kernel_rfl) hfull_3 rfl ?_
         | refine Go.condT rfl ?_
         | (refine Opl.val (op_ixaL (by exact (congrArg some hvl_3)) rfl hix_3) rfl ?_; rw [← hgs_3])
         | refine Opl.val (op_int rfl rfl rfl (inc_ok (i := j_3) (by omega))) rfl ?_
         | refine Opl.val (op_load rfl hel_3) rfl ?_
         | refine Opl.val op_alloc rfl ?_
         | refine Opl.eff (op_store rfl rfl hst_3) ?_
         | refine Opl.val (op_load rfl (ld_one (x_3.1.src a_3_0).pt)) rfl ?_
         | refine Opl.callR x_3 rfl (by kernel_rfl) (rnumber ndx0 hndx0) (by simp; omega) rfl (fun S106 w6 k1 _ => ?_)
         | refine Opl.val (op_load rfl (ld_one ((k_3.trans ((hs_3.keepB c).trans w6.1)).src f2).pt)) rfl ?_
         | refine Opl.val (op_load rfl (ld_one (w6.1.src a_3_1).pt)) rfl ?_
         | refine Opl.callR w6 rfl (by kernel_rfl) (rnumber ndx1 hndx1) (by simp; omega) rfl (fun S107 w7 k1 _ => ?_)
         | refine Opl.val (op_load rfl (ld_one ((k_3.trans ((hs_3.keepB c).trans w7.1)).src f2).pt)) rfl ?_
         | refine Opl.val (op_load rfl (ld_one (w7.1.src a_3_2).pt)) rfl ?_
         | refine Opl.callR w7 rfl (by kernel_rfl) (rnumber ndx2 hndx2) (by simp; omega) rfl (fun S108 w8 k1 _ => ?_)
         | refine Opl.val (op_load rfl (ld_one ((k_3.trans ((hs_3.keepB c).trans w8.1)).src f2).pt)) rfl ?_
         | refine Opl.val (op_load rfl (ld_one (w8.1.src a_3_3).pt)) rfl ?_
         | refine Opl.callR w8 rfl (by kernel_rfl) (rtruth qdx3) (by simp; omega) rfl (fun S109 w9 k1 _ => ?_)
         | refine Opl.val (op_load rfl (ld_one ((k_3.trans ((hs_3.keepB c).trans w9.1)).src f2).pt)) rfl ?_
         | refine Opl.val (op_load rfl (ld_one (w9.1.src a_3_4).pt)) rfl ?_
         | refine Opl.val (op_lenL rfl hvdx4.isL rfl) rfl ?_
         | refine Opl.callR w9 rfl (by kernel_rfl) (rnumber ((elems vdx4).length : Nat) (by constructor <;> omega)) (by simp; omega) rfl (fun S110 w10 k1 _ => ?_)
         | refine Opl.val (op_load rfl (ld_one ((k_3.trans ((hs_3.keepB c).trans w10.1)).src f2).pt)) rfl ?_
         | refine .std ?_ | refine .nil ?_ | refine .seq ?_ | refine .region ?_ | refine .xs ?_ | refine .kb ?_ | refine .leaf ?_ | refine .block ?_ | refine .gn ?_ | refine .dr ?_ | fail
        obtain ⟨pre11, hpre11⟩ : ∃ pre11, pre11 = [] ++ encI ndx0 ++ encI ndx1 ++ encI ndx2 ++ encB qdx3 ++ encI ((elems vdx4).length : Nat) := ⟨_, rfl⟩
        rw [← hpre11] at w10
        have hlpre11 := congrArg List.length hpre11
        simp only [List.length_append, List.length_nil] at hlpre11
        refine Go.joinE (fun E S' => Sub [(0, .ptr c 0), (3, .ptr S.next 0), (4, .int .i64 j_3), (5, .ptr T_3.next 0)] E ∧ RQ U_3 c buf_3 (pre11 ++ ldx4) S') ?_ (fun hj11 => ?_)
        · rintro E S112 ⟨hE, w13⟩
          refine At.weaken ?_ hE
          repeat' first
           | refine Opl.val (op_box rfl) rfl (Opl.cast (S' := S0) ?_ hS0)
           | refine Opl.val (op_load rfl (ld_one (k_3.src f2).pt)) rfl ?_
           | refine Opl.val (op_lenL rfl hvt2.isL rfl) rfl ?_
           | refine Opl.val (op_int rfl rfl rfl (lss_yes hq_3)) rfl ?_
           | refine Opl.gon (q := true) rfl rfl (fun _ => ?_) (fun h => by cases h)
           | refine Opl.callr rfl (by kernel_rfl) hfull_3 rfl ?_
           | refine Go.condT rfl ?_
           | (refine Opl.val (op_ixaL (by exact (congrArg some hvl_3)) rfl hix_3) rfl ?_; rw [← hgs_3])
           | refine Opl.val (op_int rfl rfl rfl (inc_ok (i := j_3) (by omega))) rfl ?_
           | refine Opl.val (op_load rfl hel_3) rfl ?_
           | refine Opl.val op_alloc rfl ?_
           | refine Opl.eff (op_store rfl rfl hst_3) ?_
           | refine Opl.val (op_load rfl (ld_one ((k_3.trans ((hs_3.keepB c).trans w13.1)).src f2).pt)) rfl ?_
           | refine .std ?_ | refine .nil ?_ | refine .seq ?_ | refine .region ?_ | refine .xs ?_ | refine .kb ?_ | refine .leaf ?_ | refine .block ?_ | refine .gn ?_ | refine .dr ?_ | fail
          refine (IHl_3 (j_3 + 1) _ S112 (by omega) ⟨rfl, by omega, g1_3 ++ (encI ndx0 ++ (encI ndx1 ++ (encI ndx2 ++ (encB qdx3 ++ (encI ((elems vdx4).length : Nat) ++ ldx4 ++ []))))), g3_3, by rw [hg_3, hg3_3]; simp only [List.append_assoc], hr_3, ?_⟩).weaken ⟨rfl, rfl, rfl, trivial⟩
          have hz := RQ.cat (k_3.trans (hs_3.keepB c)) hll_3' ho_3 w13
          rw [hpre11] at hz
          simpa using hz
        · refine Go.weaken (E' := [(0, .ptr c 0), (3, .ptr S.next 0), (4, .int .i64 j_3), (5, .ptr T_3.next 0), (6, .int .i64 (0 : Nat))]) ?_ ⟨rfl, rfl, rfl, rfl, rfl, trivial⟩
          refine Go.loop_ind (α := Nat) (fun j => (elems vdx4).length - j) (fun j E S' => E = [(0, .ptr c 0), (3, .ptr S.next 0), (4, .int .i64 j_3), (5, .ptr T_3.next 0), (6, .int .i64 j)] ∧ j ≤ (elems vdx4).length ∧ ∃ g1 g2, ldx4 = g1 ++ g2 ∧ EncL ddx4 17 ((elems vdx4).drop j) g2 ∧ RQ U_3 c buf_3 (pre11 ++ g1) S') ?_ 0 _ _ ⟨rfl, Nat.zero_le _, [], ldx4, rfl, heldx4, by simpa using w10⟩
          rintro j_11 E T_11 ⟨rfl, hjl_11, g1_11, g2_11, hg_11, hdr_11, z_11⟩ IHl_11
          obtain ⟨k_11, buf_11, h_11, hll_11, ho_11⟩ := z_11
          by_cases hq_11 : j_11 < (elems vdx4).length
          · by_cases hf_11 : 100000 < buf_11.length
            · have hfull_11 : lim Tryz.prog (.call 69 [.ptr c 0]) T_11 = some (.ret (.bool true) T_11) := by rw [h_11.full, decide_eq_true hf_11]
              have hend_11 : RQ U_3 c buf_3 (pre11 ++ ldx4) T_11 := by rw [hg_11, ← List.append_assoc]; exact RQ.stop k_11 h_11 hll_11 hf_11
              repeat' first
               | exact hj11 _ _ ⟨⟨rfl, rfl, rfl, rfl, trivial⟩, hend_11⟩
               | refine Opl.val (op_box rfl) rfl (Opl.cast (S' := S0) ?_ hS0)
               | refine Opl.val (op_load rfl (ld_one (k_3.src f2).pt)) rfl ?_
               | refine Opl.val (op_lenL rfl hvt2.isL rfl) rfl ?_
               | refine Opl.val (op_int rfl rfl rfl (lss_yes hq_3)) rfl ?_
               | refine Opl.gon (q := true) rfl rfl (fun _ => ?_) (fun h => by cases h)
               | refine Opl.callr rfl (by kernel_rfl) hfull_3 rfl ?_
               | refine Go.condT rfl ?_
               | (refine Opl.val (op_ixaL (by exact (congrArg some hvl_3)) rfl hix_3) rfl ?_; rw [← hgs_3])
               | refine Opl.val (op_int rfl rfl rfl (inc_ok (i := j_3) (by omega))) rfl ?_
               | refine Opl.val (op_load rfl hel_3) rfl ?_
               | refine Opl.val op_alloc rfl ?_
               | refine Opl.eff (op_store rfl rfl hst_3) ?_
               | refine Opl.val (op_load rfl (ld_one (k_11.src a_3_4).pt)) rfl ?_
               | refine Opl.val (op_load rfl (ld_one ((k_3.trans ((hs_3.keepB c).trans k_11)).src f2).pt)) rfl ?_
               | refine Opl.val (op_lenL rfl hvdx4.isL rfl) rfl ?_
               | refine Opl.val (op_int rfl rfl rfl (lss_yes hq_11)) rfl ?_
               | refine Opl.gon (q := true) rfl rfl (fun _ => ?_) (fun h => by cases h)
               | refine Opl.callr rfl (by kernel_rfl) hfull_11 rfl ?_
               | refine Go.condF rfl ?_
               | refine .std ?_ | refine .nil ?_ | refine .seq ?_ | refine .region ?_ | refine .xs ?_ | refine .kb ?_ | refine .leaf ?_ | refine .block ?_ | refine .gn ?_ | refine .dr ?_ | fail
            · have hfull_11 : lim Tryz.prog (.call 69 [.ptr c 0]) T_11 = some (.ret (.bool false) T_11) := by rw [h_11.full, decide_eq_false hf_11]
              obtain ⟨ge_11, g3_11, hg3_11, hge_11, hr_11⟩ := hdr_11.drop (List.drop_eq_getElem_cons hq_11)
              have hix_11 : (elems vdx4)[j_11]? = some (elems vdx4)[j_11] := List.getElem?_eq_getElem hq_11
              obtain ⟨lt_11, tk_11, hvl_11⟩ := hvdx4.el hix_11
              have hB_11 : buf_11.length + ge_11.length ≤ most := by rw [hg_11, hg3_11] at hB_3; simp at hB_3 hll_11; omega
              have hll_11' := hll_11
              simp only [List.length_append] at hll_11
              obtain ⟨gs_11, hgs_11⟩ : ∃ gs_11, gs_11 = (elems vdx4)[j_11].cells := ⟨_, rfl⟩
              rw [← hgs_11] at hge_11
              obtain ⟨nlx0, clx0, elx0, hnlx0, rfl, rfl, lxhe0⟩ := EncF.invI hge_11
              obtain ⟨nlx1, clx1, elx1, hnlx1, rfl, rfl, lxhe1⟩ := EncF.invI lxhe0
              obtain ⟨nlx2, clx2, elx2, hnlx2, rfl, rfl, lxhe2⟩ := EncF.invI lxhe1
              obtain ⟨slx3, clx3, elx3, hslx3, rfl, rfl, lxhe3⟩ := EncF.invS lxhe2
              obtain ⟨rfl, rfl⟩ := EncF.invN lxhe3
              simp only [List.length_append, List.length_nil] at hB_11
              have hp_11 : ∀ W, Pt W (.cptr none (.int .i64 nlx0 :: .int .i64 nlx1 :: .int .i64 nlx2 :: .str slx3 :: []) 0) (.int .i64 nlx0 :: .int .i64 nlx1 :: .int .i64 nlx2 :: .str slx3 :: []) := fun W => Pt.cptr _ _ _
              have a_11_0 : ∀ W, Pt W (padd (.cptr none (.int .i64 nlx0 :: .int .i64 nlx1 :: .int .i64 nlx2 :: .str slx3 :: []) 0) 0) [.int .i64 nlx0] := fun W => (hp_11 W).at 0 rfl
              have a_11_1 : ∀ W, Pt W (padd (.cptr none (.int .i64 nlx0 :: .int .i64 nlx1 :: .int .i64 nlx2 :: .str slx3 :: []) 0) 1) [.int .i64 nlx1] := fun W => (hp_11 W).at 1 rfl
              have a_11_2 : ∀ W, Pt W (padd (.cptr none (.int .i64 nlx0 :: .int .i64 nlx1 :: .int .i64 nlx2 :: .str slx3 :: []) 0) 2) [.int .i64 nlx2] := fun W => (hp_11 W).at 2 rfl
              have a_11_3 : ∀ W, Pt W (padd (.cptr none (.int .i64 nlx0 :: .int .i64 nlx1 :: .int .i64 nlx2 :: .str slx3 :: []) 0) 3) [.str slx3] := fun W => (hp_11 W).at 3 rfl
              have x_11 : RQ T_11 c buf_11 [] T_11 := ⟨KeepB.refl _ _, buf_11, h_11, by simp, .inl (by simp)⟩
              repeat' first
               | refine Opl.val (op_box rfl) rfl (Opl.cast (S' := S0) ?_ hS0)
               | refine Opl.val (op_load rfl (ld_one (k_3.src f2).pt)) rfl ?_
               | refine Opl.val (op_lenL rfl hvt2.isL rfl) rfl ?_
               | refine Opl.val (op_int rfl rfl rfl (lss_yes hq_3)) rfl ?_
               | refine Opl.gon (q := true) rfl rfl (fun _ => ?_) (fun h => by cases h)
               | refine Opl.callr rfl (by kernel_rfl) hfull_3 rfl ?_
               | refine Go.condT rfl ?_
               | (refine Opl.val (op_ixaL (by exact (congrArg some hvl_3)) rfl hix_3) rfl ?_; rw [← hgs_3])
               | refine Opl.val (op_int rfl rfl rfl (inc_ok (i := j_3) (by omega))) rfl ?_
               | refine Opl.val (op_load rfl hel_3) rfl ?_
               | refine Opl.val op_alloc rfl ?_
               | refine Opl.eff (op_store rfl rfl hst_3) ?_
               | refine Opl.val (op_load rfl (ld_one (k_11.src a_3_4).pt)) rfl ?_
               | refine Opl.val (op_load rfl (ld_one ((k_3.trans ((hs_3.keepB c).trans k_11)).src f2).pt)) rfl ?_
               | refine Opl.val (op_lenL rfl hvdx4.isL rfl) rfl ?_
               | refine Opl.val (op_int rfl rfl rfl (lss_yes hq_11)) rfl ?_
               | refine Opl.gon (q := true) rfl rfl (fun _ => ?_) (fun h => by cases h)
               | refine Opl.callr rfl (by kernel_rfl) hfull_11 rfl ?_
               | refine Go.condT rfl ?_
               | (refine Opl.val (op_ixaL (by exact (congrArg some hvl_11)) rfl hix_11) rfl ?_; rw [← hgs_11])
               | refine Opl.val (op_int rfl rfl rfl (inc_ok (i := j_11) (by omega))) rfl ?_
               | refine Opl.val (op_load rfl (ld_one (a_11_0 _))) rfl ?_
               | refine Opl.callR x_11 rfl (by kernel_rfl) (rnumber nlx0 hnlx0) (by simp; omega) rfl (fun S114 w14 k1 _ => ?_)
               | refine Opl.val (op_load rfl (ld_one ((k_3.trans ((hs_3.keepB c).trans (k_11.trans w14.1))).src f2).pt)) rfl ?_
               | refine Opl.val (op_load rfl (ld_one ((k_11.trans w14.1).src a_3_4).pt)) rfl ?_
               | refine Opl.val (op_load rfl (ld_one (a_11_1 _))) rfl ?_
               | refine Opl.callR w14 rfl (by kernel_rfl) (rnumber nlx1 hnlx1) (by simp; omega) rfl (fun S115 w15 k1 _ => ?_)
               | refine Opl.val (op_load rfl (ld_one ((k_3.trans ((hs_3.keepB c).trans (k_11.trans w15.1))).src f2).pt)) rfl ?_
               | refine Opl.val (op_load rfl (ld_one ((k_11.trans w15.1).src a_3_4).pt)) rfl ?_
               | refine Opl.val (op_load rfl (ld_one (a_11_2 _))) rfl ?_
               | refine Opl.callR w15 rfl (by kernel_rfl) (rnumber nlx2 hnlx2) (by simp; omega) rfl (fun S116 w16 k1 _ => ?_)
               | refine Opl.val (op_load rfl (ld_one ((k_3.trans ((hs_3.keepB c).trans (k_11.trans w16.1))).src f2).pt)) rfl ?_
               | refine Opl.val (op_load rfl (ld_one ((k_11.trans w16.1).src a_3_4).pt)) rfl ?_
               | refine Opl.val (op_load rfl (ld_one (a_11_3 _))) rfl ?_
               | refine Opl.callR w16 rfl (by kernel_rfl) (rtext slx3 hslx3) (by simp; omega) rfl (fun S117 w17 k1 _ => ?_)
               | refine Opl.val (op_load rfl (ld_one ((k_3.trans ((hs_3.keepB c).trans (k_11.trans w17.1))).src f2).pt)) rfl ?_
               | refine Opl.val (op_load rfl (ld_one ((k_11.trans w17.1).src a_3_4).pt)) rfl ?_
               | refine .std ?_ | refine .nil ?_ | refine .seq ?_ | refine .region ?_ | refine .xs ?_ | refine .kb ?_ | refine .leaf ?_ | refine .block ?_ | refine .gn ?_ | refine .dr ?_ | fail
              refine (IHl_11 (j_11 + 1) _ S117 (by omega) ⟨rfl, by omega, g1_11 ++ (encI nlx0 ++ (encI nlx1 ++ (encI nlx2 ++ (encS slx3 ++ [])))), g3_11, by rw [hg_11, hg3_11]; simp only [List.append_assoc], hr_11, ?_⟩).weaken ⟨rfl, rfl, rfl, rfl, rfl, trivial⟩
              have hz := RQ.cat k_11 hll_11' ho_11 w17
              simpa using hz
          · have hq2 : j_11 = (elems vdx4).length := by omega
            rw [List.drop_eq_nil_of_le (by omega)] at hdr_11
            obtain rfl := hdr_11.nil_inv
            have hend_11 : RQ U_3 c buf_3 (pre11 ++ ldx4) T_11 := by rw [hg_11, List.append_nil]; exact ⟨k_11, buf_11, h_11, hll_11, ho_11⟩
            repeat' first
             | exact hj11 _ _ ⟨⟨rfl, rfl, rfl, rfl, trivial⟩, hend_11⟩
             | refine Opl.val (op_box rfl) rfl (Opl.cast (S' := S0) ?_ hS0)
             | refine Opl.val (op_load rfl (ld_one (k_3.src f2).pt)) rfl ?_
             | refine Opl.val (op_lenL rfl hvt2.isL rfl) rfl ?_
             | refine Opl.val (op_int rfl rfl rfl (lss_yes hq_3)) rfl ?_
             | refine Opl.gon (q := true) rfl rfl (fun _ => ?_) (fun h => by cases h)
             | refine Opl.callr rfl (by kernel_rfl) hfull_3 rfl ?_
             | refine Go.condT rfl ?_
             | (refine Opl.val (op_ixaL (by exact (congrArg some hvl_3)) rfl hix_3) rfl ?_; rw [← hgs_3])
             | refine Opl.val (op_int rfl rfl rfl (inc_ok (i := j_3) (by omega))) rfl ?_
             | refine Opl.val (op_load rfl hel_3) rfl ?_
             | refine Opl.val op_alloc rfl ?_
             | refine Opl.eff (op_store rfl rfl hst_3) ?_
             | refine Opl.val (op_load rfl (ld_one (k_11.src a_3_4).pt)) rfl ?_
             | refine Opl.val (op_load rfl (ld_one ((k_3.trans ((hs_3.keepB c).trans k_11)).src f2).pt)) rfl ?_
             | refine Opl.val (op_lenL rfl hvdx4.isL rfl) rfl ?_
             | refine Opl.val (op_int rfl rfl rfl (lss_no hq_11)) rfl ?_
             | refine Go.condF rfl ?_
             | refine .std ?_ | refine .nil ?_ | refine .seq ?_ | refine .region ?_ | refine .xs ?_ | refine .kb ?_ | refine .leaf ?_ | refine .block ?_ | refine .gn ?_ | refine .dr ?_ | fail
    · have hq2 : j_3 = (elems vt2).length := by omega
      rw [List.drop_eq_nil_of_le (by omega)] at hdr_3
      obtain rfl := hdr_3.nil_inv
      have hend_3 : RQ S0 c buf (pre3 ++ lt2) T_3 := by rw [hg_3, List.append_nil]; exact ⟨k_3, buf_3, h_3, hll_3, ho_3⟩
      repeat' first
       | exact hj3 _ _ ⟨⟨rfl, rfl, trivial⟩, hend_3⟩
       | refine Opl.val (op_box rfl) rfl (Opl.cast (S' := S0) ?_ hS0)
       | refine Opl.val (op_load rfl (ld_one (k_3.src f2).pt)) rfl ?_
       | refine Opl.val (op_lenL rfl hvt2.isL rfl) rfl ?_
       | refine Opl.val (op_int rfl rfl rfl (lss_no hq_3)) rfl ?_
       | refine Go.condF rfl ?_
       | refine .std ?_ | refine .nil ?_ | refine .seq ?_ | refine .region ?_ | refine .xs ?_ | refine .kb ?_ | refine .leaf ?_ | refine .block ?_ | refine .gn ?_ | refine .dr ?_ | fail
end Go.Proofs.YtilldjgagokcfaaGreat
