import Derived.Test.YtilldjgagokcfaaGreatX7
set_option linter.unusedVariables false
set_option linter.unusedSimpArgs false
namespace Go.Proofs.YtilldjgagokcfaaGreat
open Go.RowKit Go.Ev
set_option maxRecDepth 100000
set_option linter.unusedVariables false
set_option maxHeartbeats 4000000 in
theorem xstate (k : Nat) (s : List UInt8) : RGC 45 (k + 1) s (sch 20) 10 true 0 := .mk fun {S c r} h hfu => by
  refine CallTo.of (n := 65) Tryz.func45 rfl rfl ?_
  have hsm := h.small
  have p0 := RProg.alloc (k := k + 1) (z := zc 20) (h.newE (.box 55 (zc 20))) 55
  repeat' first
   | refine Opl.rf [.list 3] 1 (z := [.nils]) (rest := [.nils, .int .i64 0, .int .i64 0, .str [], .nils, .int .i64 0, .int .i64 0, .int .i64 0, .bool false]) p0 rfl (by kernel_rfl) (xsegments (k + 1) s (fun j _ => xvalue j s)) (p0.fuel hfu) rfl rfl rfl rfl rfl rfl rfl rfl (fun _ r2 _ p1 => ?_)
   | refine Opl.rf [.list 3, .list 0] 2 (z := [.nils]) (rest := [.int .i64 0, .int .i64 0, .str [], .nils, .int .i64 0, .int .i64 0, .int .i64 0, .bool false]) p1 rfl (by kernel_rfl) (xnumbersK (k + 1) s) (p1.fuel hfu) rfl rfl rfl rfl rfl rfl rfl rfl (fun _ r4 _ p3 => ?_)
   | refine Opl.val op_alloc rfl ?_
   | refine .std ?_ | refine .nil ?_ | refine .seq ?_ | refine .region ?_ | refine .xs ?_ | refine .kb ?_ | refine .leaf ?_ | refine .block ?_ | refine .gn ?_ | refine .dr ?_ | fail
  refine Opl.rf [.list 3, .list 0, .int] 3 (z := [.int .i64 0]) (rest := [.int .i64 0, .str [], .nils, .int .i64 0, .int .i64 0, .int .i64 0, .bool false]) p3 rfl (by kernel_rfl) (xnumber (k + 1) s) (p3.fuel hfu) rfl rfl rfl rfl rfl rfl rfl rfl (fun U3 rO _ pO => ?_)
  have him : mu s rO ≤ k + 1 := by have := pO.fuel1 hfu rfl; omega
  obtain ⟨ci, hci, i0⟩ := RProg.inner (z := []) (rest := [.int .i64 0, .str [], .nils, .int .i64 0, .int .i64 0, .int .i64 0, .bool false]) pO
  repeat' first
   | refine Opl.rf2 (off := 3) (off2 := 0) [.int] 1 (z := [.int .i64 0]) (rest := [.str [], .nils, .int .i64 0, .int .i64 0, .int .i64 0, .bool false]) i0 rfl (by kernel_rfl) (xnumber k s) (i0.fuel him) rfl rfl rfl rfl rfl rfl rfl rfl rfl (fun _ r7 _ p6 => ?_)
   | refine Opl.rf2 (off := 3) (off2 := 1) [.int, .str] 2 (z := [.str []]) (rest := [.nils, .int .i64 0, .int .i64 0, .int .i64 0, .bool false]) p6 rfl (by kernel_rfl) (xtext k s) (p6.fuel him) rfl rfl rfl rfl rfl rfl rfl rfl rfl (fun _ r9 _ p8 => ?_)
   | refine Opl.callv rfl (by kernel_rfl) p8.st.long rfl (fun _ h5 => ?_) (fun _ _ hf => hf.elim)
   | refine Go.holdB ?_
   | refine .std ?_ | refine .nil ?_ | refine .seq ?_ | refine .region ?_ | refine .xs ?_ | refine .kb ?_ | refine .leaf ?_ | refine .block ?_ | refine .gn ?_ | refine .dr ?_ | fail
  refine ⟨?_⟩
  obtain ⟨cs11, hc12, hl13⟩ := RLc.start (k := k) (t := 18) (te := 192) (sz := 3) (rest := [.int .i64 0, .int .i64 0, .int .i64 0, .bool false]) p8 h5 (p8.fuel (m := 0) him)
  have le14 := rL_le (s := s) (r := r9)
  refine Go.rloop c (rL s r9).1 s (fun qq r' S' Fx => ∃ vv, Fx = [(0, .ptr c 0), (2, .ptr S.next 0), (3, .ptr (S.new (.box 55 (zc 20))).next 0), (4, .int .i64 ((rL s r9).1 : Nat))] ∧ RLc k U3 S' c (S.new (.box 55 (zc 20))).next s r9 r' 18 192 3 qq 55 (ci ++ cs11) [.int .i64 0, .int .i64 0, .int .i64 0, .bool false] vv) ?_ (by omega) (by rfl) (by rfl) ?_ ?_ ?_
  · rintro q r' S' Fx ⟨v, rfl, hl⟩
    exact ⟨rfl, rfl, hl.lp.st, rfl, rfl⟩
  · exact ⟨_, _, ⟨.nils, rfl, hl13⟩, rfl, rfl, rfl, rfl, rfl, trivial⟩
  · rintro q15 j16 S17 Fx E1 kx hq20 ⟨v18, rfl, hl19⟩ hsub hK21
    refine Go.weaken ?_ hsub
    obtain ⟨hmu, hk24, _⟩ := hl19.lp.pos rfl
    obtain ⟨k22, rfl⟩ : ∃ k', k = k' + 1 := ⟨k - 1, by omega⟩
    have hm23 : mu s (.ok j16) ≤ k22 + 1 := by omega
    have ct25 := hl19.lp.cnt (Nat.le_of_lt hq20)
    have p26 := RProg.alloc (k := k22) (z := zc 18) hl19.lp.st 192
    repeat' first
     | refine Opl.rf [.str] 1 (z := [.str []]) (rest := [.int .i64 0, .int .i64 0]) p26 rfl (by kernel_rfl) (xtext k22 s) (p26.fuel hm23) rfl rfl rfl rfl rfl rfl rfl rfl (fun _ r28 _ p27 => ?_)
     | refine Opl.rf [.str, .int] 2 (z := [.int .i64 0]) (rest := [.int .i64 0]) p27 rfl (by kernel_rfl) (xnumber k22 s) (p27.fuel hm23) rfl rfl rfl rfl rfl rfl rfl rfl (fun _ r30 _ p29 => ?_)
     | refine Opl.rf [.str, .int, .int] 3 (z := [.int .i64 0]) (rest := []) p29 rfl (by kernel_rfl) (xnumber k22 s) (p29.fuel hm23) rfl rfl rfl rfl rfl rfl rfl rfl (fun _ r32 _ p31 => ?_)
     | refine Opl.val op_alloc rfl ?_
     | refine Go.holdF ?_
     | refine .std ?_ | refine .nil ?_ | refine .seq ?_ | refine .region ?_ | refine .xs ?_ | refine .kb ?_ | refine .leaf ?_ | refine .block ?_ | refine .gn ?_ | refine .dr ?_ | fail
    refine ⟨?_⟩
    obtain ⟨cs33, v34, S35, S36, a37, a38, a39, a40, a41, a42, a43, a44⟩ := RLc.step (off := 5) (TL := 51) hl19 p31 rfl rfl (App.of (P := Tryz.prog) (t := 51) (u := 51) (e := 192) (n := 3) (ag := true) (bytes := 32) (by kernel_rfl)) inferInstance (by decide) (by decide) (by omega) (by simp [hc12.1, hci.1])
    repeat' first
     | refine Opl.val (op_load rfl (ld_agg a38 a37)) rfl ?_
     | refine Opl.val (op_load rfl (ld_one a39)) rfl ?_
     | refine Opl.val (op_buildSlice1 rfl a41) rfl ?_
     | refine Opl.val (op_app rfl rfl a42) rfl ?_
     | refine Opl.eff (op_store rfl rfl a43) ?_
     | exact hK21 _ _ _ _ ⟨v34, rfl, a44⟩ ⟨rfl, rfl, rfl, rfl, rfl, trivial⟩
     | refine .std ?_ | refine .nil ?_ | refine .seq ?_ | refine .region ?_ | refine .xs ?_ | refine .kb ?_ | refine .leaf ?_ | refine .block ?_ | refine .gn ?_ | refine .dr ?_ | fail
  · rintro q r45 S2 Fx ⟨v46, rfl, hl47⟩ hqn hend
    have p48 := RLc.done p8 hc12 hl47 hqn hend
    repeat' first
     | refine Opl.rf2 (off := 3) (off2 := 3) [.int, .str, .list 18, .int] 4 (z := [.int .i64 0]) (rest := [.int .i64 0, .int .i64 0, .bool false]) p48 rfl (by kernel_rfl) (xnumber k s) (p48.fuel him) rfl rfl rfl rfl rfl rfl rfl rfl rfl (fun _ r50 _ p49 => ?_)
     | refine Opl.rf2 (off := 3) (off2 := 4) [.int, .str, .list 18, .int, .int] 5 (z := [.int .i64 0]) (rest := [.int .i64 0, .bool false]) p49 rfl (by kernel_rfl) (xnumber k s) (p49.fuel him) rfl rfl rfl rfl rfl rfl rfl rfl rfl (fun _ r52 _ p51 => ?_)
     | refine Opl.rf2 (off := 3) (off2 := 5) [.int, .str, .list 18, .int, .int, .int] 6 (z := [.int .i64 0]) (rest := [.bool false]) p51 rfl (by kernel_rfl) (xnumber k s) (p51.fuel him) rfl rfl rfl rfl rfl rfl rfl rfl rfl (fun _ r54 _ p53 => ?_)
     | refine .std ?_ | refine .nil ?_ | refine .seq ?_ | refine .region ?_ | refine .xs ?_ | refine .kb ?_ | refine .leaf ?_ | refine .block ?_ | refine .gn ?_ | refine .dr ?_ | fail
    have pQ := RProg.outer (t := 19) [.int .i64 0, .str [], .nils, .int .i64 0, .int .i64 0, .int .i64 0] pO hci p53 rfl rfl
    refine Opl.rf [.list 3, .list 0, .int, .sub 19, .bool] 10 (z := [.bool false]) (rest := []) pQ rfl (by kernel_rfl) (xtruth (k + 1) s) (pQ.fuel hfu) rfl rfl rfl rfl rfl rfl rfl rfl (fun _ rZ _ pZ => ?_)
    repeat' first
     | refine Go.holdL ?_
     | refine .std ?_ | refine .nil ?_ | refine .seq ?_ | refine .region ?_ | refine .xs ?_ | refine .kb ?_ | refine .leaf ?_ | refine .block ?_ | refine .gn ?_ | refine .dr ?_ | fail
    refine ⟨?_⟩
    obtain ⟨cs, W, a1, a2, a3, a4, a5, a6, a7, a8⟩ := RProg.ret pZ h rfl rfl
    repeat' first
     | refine Opl.val (op_load rfl (ld_agg a2 a1)) rfl ?_
     | refine Opl.eff (op_store rfl rfl a3) ?_
     | refine .std ?_ | refine .nil ?_ | refine .seq ?_ | refine .region ?_ | refine .xs ?_ | refine .kb ?_ | refine .leaf ?_ | refine .block ?_ | refine .gn ?_ | refine .dr ?_ | fail
    refine At.fnr rfl rfl (resV1 (i := S.next) rfl (ld_agg a4 a1)) ?_
    have hsc := pZ.sc
    exact ⟨hsc ▸ a5, a6, fun i j hi hj => a7 i j hi (hsc.trans hj), a8⟩
end Go.Proofs.YtilldjgagokcfaaGreat
