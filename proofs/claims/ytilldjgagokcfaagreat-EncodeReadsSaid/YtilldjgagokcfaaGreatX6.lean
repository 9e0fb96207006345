import Derived.Test.YtilldjgagokcfaaGreatX5
set_option linter.unusedVariables false
set_option linter.unusedSimpArgs false
namespace Go.Proofs.YtilldjgagokcfaaGreat
open Go.RowKit Go.Ev
set_option maxRecDepth 100000
set_option linter.unusedVariables false
set_option maxHeartbeats 4000000 in
theorem xtyp_of (k : Nat) (s : List UInt8) (hT : ∀ j, j < k → RGC 133 j s (sch 5) 6 true 0) : RGC 133 k s (sch 5) 6 true 0 := .mk fun {S c r} h hfu => by
  refine CallTo.of (n := 46) Tryz.func133 rfl rfl ?_
  have hsm := h.small
  have p0 := RProg.alloc (k := k) (z := zc 5) (h.newE (.box 221 (zc 5))) 221
  repeat' first
   | refine Opl.rf [.int] 1 (z := [.int .i64 0]) (rest := [.int .i64 0, .str [], .nils, .nils, .int .i64 0]) p0 rfl (by kernel_rfl) (xnumber k s) (p0.fuel hfu) rfl rfl rfl rfl rfl rfl rfl rfl (fun _ r3 _ p2 => ?_)
   | refine Opl.rf [.int, .int] 2 (z := [.int .i64 0]) (rest := [.str [], .nils, .nils, .int .i64 0]) p2 rfl (by kernel_rfl) (xnumber k s) (p2.fuel hfu) rfl rfl rfl rfl rfl rfl rfl rfl (fun _ r5 _ p4 => ?_)
   | refine Opl.rf [.int, .int, .str] 3 (z := [.str []]) (rest := [.nils, .nils, .int .i64 0]) p4 rfl (by kernel_rfl) (xtext k s) (p4.fuel hfu) rfl rfl rfl rfl rfl rfl rfl rfl (fun _ r7 _ p6 => ?_)
   | refine Opl.rf [.int, .int, .str, .list 5] 4 (z := [.nils]) (rest := [.nils, .int .i64 0]) p6 rfl (by kernel_rfl) (xtypesK k s (fun j hj => hT j (by omega))) (p6.fuel hfu) rfl rfl rfl rfl rfl rfl rfl rfl (fun _ r9 _ p8 => ?_)
   | refine Opl.callv rfl (by kernel_rfl) p8.st.long rfl (fun _ h1 => ?_) (fun _ _ hf => hf.elim)
   | refine Go.holdB ?_
   | refine Opl.val op_alloc rfl ?_
   | refine .std ?_ | refine .nil ?_ | refine .seq ?_ | refine .region ?_ | refine .xs ?_ | refine .kb ?_ | refine .leaf ?_ | refine .block ?_ | refine .gn ?_ | refine .dr ?_ | fail
  refine ⟨?_⟩
  obtain ⟨cs11, hc12, hl13⟩ := RLc.start (k := k) (t := 6) (te := 276) (sz := 2) (rest := [.int .i64 0]) p8 h1 (p8.fuel (m := 0) hfu)
  have le14 := rL_le (s := s) (r := r9)
  refine Go.rloop c (rL s r9).1 s (fun qq r' S' Fx => ∃ vv, Fx = [(0, .ptr c 0), (2, .ptr S.next 0), (3, .ptr (S.new (.box 221 (zc 5))).next 0), (4, .int .i64 ((rL s r9).1 : Nat))] ∧ RLc k ((S.new (.box 221 (zc 5))).new (.box 221 (zc 5))) S' c (S.new (.box 221 (zc 5))).next s r9 r' 6 276 2 qq 221 ([] ++ cs11) [.int .i64 0] vv) ?_ (by omega) (by rfl) (by rfl) ?_ ?_ ?_
  · rintro q r' S' Fx ⟨v, rfl, hl⟩
    exact ⟨rfl, rfl, hl.lp.st, rfl, rfl⟩
  · exact ⟨_, _, ⟨.nils, rfl, hl13⟩, rfl, rfl, rfl, rfl, rfl, trivial⟩
  · rintro q15 j16 S17 Fx E1 kx hq20 ⟨v18, rfl, hl19⟩ hsub hK21
    refine Go.weaken ?_ hsub
    obtain ⟨hmu, hk24, _⟩ := hl19.lp.pos rfl
    obtain ⟨k22, rfl⟩ : ∃ k', k = k' + 1 := ⟨k - 1, by omega⟩
    have hm23 : mu s (.ok j16) ≤ k22 + 1 := by omega
    have ct25 := hl19.lp.cnt (Nat.le_of_lt hq20)
    have p26 := RProg.alloc (k := k22) (z := zc 6) hl19.lp.st 276
    repeat' first
     | refine Opl.rf [.str] 1 (z := [.str []]) (rest := [.int .i64 0]) p26 rfl (by kernel_rfl) (xtext k22 s) (p26.fuel hm23) rfl rfl rfl rfl rfl rfl rfl rfl (fun _ r28 _ p27 => ?_)
     | refine Opl.rf [.str, .int] 2 (z := [.int .i64 0]) (rest := []) p27 rfl (by kernel_rfl) (xnumber k22 s) (p27.fuel hm23) rfl rfl rfl rfl rfl rfl rfl rfl (fun _ r30 _ p29 => ?_)
     | refine Opl.val op_alloc rfl ?_
     | refine Go.holdF ?_
     | refine .std ?_ | refine .nil ?_ | refine .seq ?_ | refine .region ?_ | refine .xs ?_ | refine .kb ?_ | refine .leaf ?_ | refine .block ?_ | refine .gn ?_ | refine .dr ?_ | fail
    refine ⟨?_⟩
    obtain ⟨cs31, v32, S33, S34, a35, a36, a37, a38, a39, a40, a41, a42⟩ := RLc.step (off := 4) (TL := 217) hl19 p29 rfl rfl (App.of (P := Tryz.prog) (t := 217) (u := 217) (e := 276) (n := 2) (ag := true) (bytes := 24) (by kernel_rfl)) inferInstance (by decide) (by decide) (by omega) (by simp [hc12.1])
    repeat' first
     | refine Opl.val (op_load rfl (ld_agg a36 a35)) rfl ?_
     | refine Opl.val (op_load rfl (ld_one a37)) rfl ?_
     | refine Opl.val (op_buildSlice1 rfl a39) rfl ?_
     | refine Opl.val (op_app rfl rfl a40) rfl ?_
     | refine Opl.eff (op_store rfl rfl a41) ?_
     | exact hK21 _ _ _ _ ⟨v32, rfl, a42⟩ ⟨rfl, rfl, rfl, rfl, rfl, trivial⟩
     | refine .std ?_ | refine .nil ?_ | refine .seq ?_ | refine .region ?_ | refine .xs ?_ | refine .kb ?_ | refine .leaf ?_ | refine .block ?_ | refine .gn ?_ | refine .dr ?_ | fail
  · rintro q r43 S2 Fx ⟨v44, rfl, hl45⟩ hqn hend
    have p46 := RLc.done p8 hc12 hl45 hqn hend
    repeat' first
     | refine Opl.rf2 (off := 4) (off2 := 1) [.int, .int, .str, .list 5, .list 6, .int] 6 (z := [.int .i64 0]) (rest := []) p46 rfl (by kernel_rfl) (xnumber k s) (p46.fuel hfu) rfl rfl rfl rfl rfl rfl rfl rfl rfl (fun _ r48 _ p47 => ?_)
     | refine Go.holdL ?_
     | refine .std ?_ | refine .nil ?_ | refine .seq ?_ | refine .region ?_ | refine .xs ?_ | refine .kb ?_ | refine .leaf ?_ | refine .block ?_ | refine .gn ?_ | refine .dr ?_ | fail
    refine ⟨?_⟩
    obtain ⟨cs, W, a1, a2, a3, a4, a5, a6, a7, a8⟩ := RProg.ret p47 h rfl rfl
    repeat' first
     | refine Opl.val (op_load rfl (ld_agg a2 a1)) rfl ?_
     | refine Opl.eff (op_store rfl rfl a3) ?_
     | refine .std ?_ | refine .nil ?_ | refine .seq ?_ | refine .region ?_ | refine .xs ?_ | refine .kb ?_ | refine .leaf ?_ | refine .block ?_ | refine .gn ?_ | refine .dr ?_ | fail
    refine At.fnr rfl rfl (resV1 (i := S.next) rfl (ld_agg a4 a1)) ?_
    have hsc := p47.sc
    exact ⟨hsc ▸ a5, a6, fun i j hi hj => a7 i j hi (hsc.trans hj), a8⟩
theorem xtyp (k : Nat) (s : List UInt8) : RGC 133 k s (sch 5) 6 true 0 := by
  induction k using Nat.strongRecOn with
  | ind k ih => exact xtyp_of k s ih
set_option maxHeartbeats 4000000 in
theorem xdata (k : Nat) (s : List UInt8) : RGC 86 k s [.list 7] 1 false 0 := .mk fun {S c r} h hfu => by
  refine CallTo.of (n := 49) Tryz.func86 rfl rfl ?_
  have hsm := h.small
  have hle := rL_le (s := s) (r := r)
  repeat' first
   | refine Opl.callv rfl (by kernel_rfl) h.long rfl (fun S1 h1 => ?_) (fun _ _ hf => hf.elim)
   | refine Go.rloop c (rL s r).1 s (fun q r' S' Fx => ∃ v, Fx = [(0, .ptr c 0), (3, v), (4, .int .i64 ((rL s r).1 : Nat))] ∧ RLp k S.next S' c s r 7 121 3 q r' v ∧ Keep2 S S' c c) ?_ (by omega) (by rfl) (by rfl) ?_ ?_ ?_
   | refine .std ?_ | refine .nil ?_ | refine .seq ?_ | refine .region ?_ | refine .xs ?_ | refine .kb ?_ | refine .leaf ?_ | refine .block ?_ | refine .gn ?_ | refine .dr ?_ | fail
  · rintro q r' S' Fx ⟨v, rfl, hp, hk⟩
    exact ⟨rfl, rfl, hp.st, rfl, rfl⟩
  · exact ⟨_, _, ⟨.nils, rfl, RLp.start h1.1 hfu, h1.2⟩, rfl, rfl, rfl, rfl, trivial⟩
  · rintro q j S2 Fx E1 kx hq ⟨v, rfl, hp, hk⟩ hsub hK
    refine Go.weaken ?_ hsub
    obtain ⟨hmu, hk0, _⟩ := hp.pos rfl
    obtain ⟨k0, rfl⟩ : ∃ k', k = k' + 1 := ⟨k - 1, by omega⟩
    have hm0 : mu s (.ok j) ≤ k0 + 1 := by omega
    have hcnt := hp.cnt (Nat.le_of_lt hq)
    have p0 := RProg.alloc (k := k0) (z := zc 7) hp.st 121
    repeat' first
     | refine Opl.rf [.str] 1 (z := [.str []]) (rest := [.nils, .nils]) p0 rfl (by kernel_rfl) (xtext k0 s) (p0.fuel hm0) rfl rfl rfl rfl rfl rfl rfl rfl (fun _ r51 _ p50 => ?_)
     | refine Opl.rf [.str, .list 1] 2 (z := [.nils]) (rest := [.nils]) p50 rfl (by kernel_rfl) (xtextsK k0 s) (p50.fuel hm0) rfl rfl rfl rfl rfl rfl rfl rfl (fun _ r53 _ p52 => ?_)
     | refine Opl.callv rfl (by kernel_rfl) p52.st.long rfl (fun _ h49 => ?_) (fun _ _ hf => hf.elim)
     | refine Go.holdB ?_
     | refine Opl.val op_alloc rfl ?_
     | refine .std ?_ | refine .nil ?_ | refine .seq ?_ | refine .region ?_ | refine .xs ?_ | refine .kb ?_ | refine .leaf ?_ | refine .block ?_ | refine .gn ?_ | refine .dr ?_ | fail
    refine ⟨?_⟩
    obtain ⟨cs55, hc56, hl57⟩ := RLc.start (k := k0) (t := 8) (te := 212) (sz := 2) (rest := []) p52 h49 (p52.fuel (m := 0) hm0)
    have le58 := rL_le (s := s) (r := r53)
    refine Go.rloop c (rL s r53).1 s (fun qq r' S' Fx => ∃ vv, Fx = [(0, .ptr c 0), (3, v), (4, .int .i64 ((rL s r).1 : Nat)), (5, .int .i64 (q : Nat)), (6, .ptr S2.next 0), (7, .int .i64 ((rL s r53).1 : Nat))] ∧ RLc k0 (S2.new (.box 121 (zc 7))) S' c S2.next s r53 r' 8 212 2 qq 121 ([] ++ cs55) [] vv) ?_ (by omega) (by rfl) (by rfl) ?_ ?_ ?_
    · rintro q r' S' Fx ⟨v, rfl, hl⟩
      exact ⟨rfl, rfl, hl.lp.st, rfl, rfl⟩
    · exact ⟨_, _, ⟨.nils, rfl, hl57⟩, rfl, rfl, rfl, rfl, rfl, rfl, rfl, trivial⟩
    · rintro q59 j60 S61 Fx E1 kx hq64 ⟨v62, rfl, hl63⟩ hsub hK65
      refine Go.weaken ?_ hsub
      obtain ⟨hmu, hk68, _⟩ := hl63.lp.pos rfl
      obtain ⟨k66, rfl⟩ : ∃ k', k0 = k' + 1 := ⟨k0 - 1, by omega⟩
      have hm67 : mu s (.ok j60) ≤ k66 + 1 := by omega
      have ct69 := hl63.lp.cnt (Nat.le_of_lt hq64)
      have p70 := RProg.alloc (k := k66) (z := zc 8) hl63.lp.st 212
      repeat' first
       | refine Opl.rf [.str] 1 (z := [.str []]) (rest := [.nils]) p70 rfl (by kernel_rfl) (xtext k66 s) (p70.fuel hm67) rfl rfl rfl rfl rfl rfl rfl rfl (fun _ r72 _ p71 => ?_)
       | refine Opl.rf [.str, .list 5] 2 (z := [.nils]) (rest := []) p71 rfl (by kernel_rfl) (xtypesK k66 s (fun j _ => xtyp j s)) (p71.fuel hm67) rfl rfl rfl rfl rfl rfl rfl rfl (fun _ r74 _ p73 => ?_)
       | refine Opl.val op_alloc rfl ?_
       | refine Go.holdF ?_
       | refine .std ?_ | refine .nil ?_ | refine .seq ?_ | refine .region ?_ | refine .xs ?_ | refine .kb ?_ | refine .leaf ?_ | refine .block ?_ | refine .gn ?_ | refine .dr ?_ | fail
      refine ⟨?_⟩
      obtain ⟨cs75, v76, S77, S78, a79, a80, a81, a82, a83, a84, a85, a86⟩ := RLc.step (off := 2) (TL := 119) hl63 p73 rfl rfl (App.of (P := Tryz.prog) (t := 119) (u := 119) (e := 212) (n := 2) (ag := true) (bytes := 40) (by kernel_rfl)) inferInstance (by decide) (by decide) (by omega) (by simp [hc56.1])
      repeat' first
       | refine Opl.val (op_load rfl (ld_agg a80 a79)) rfl ?_
       | refine Opl.val (op_load rfl (ld_one a81)) rfl ?_
       | refine Opl.val (op_buildSlice1 rfl a83) rfl ?_
       | refine Opl.val (op_app rfl rfl a84) rfl ?_
       | refine Opl.eff (op_store rfl rfl a85) ?_
       | exact hK65 _ _ _ _ ⟨v76, rfl, a86⟩ ⟨rfl, rfl, rfl, rfl, rfl, rfl, rfl, trivial⟩
       | refine .std ?_ | refine .nil ?_ | refine .seq ?_ | refine .region ?_ | refine .xs ?_ | refine .kb ?_ | refine .leaf ?_ | refine .block ?_ | refine .gn ?_ | refine .dr ?_ | fail
    · rintro q r87 S2 Fx ⟨v88, rfl, hl89⟩ hqn hend
      have p90 := RLc.done p52 hc56 hl89 hqn hend
      obtain ⟨cs, v', S4, a1, a2, a3, a4, a5, a6⟩ := RLp.step (TL := 22) hp hk p90 rfl rfl (App.of (P := Tryz.prog) (t := 22) (u := 22) (e := 121) (n := 3) (ag := true) (bytes := 64) (by kernel_rfl)) (by decide) (by decide) (by omega)
      repeat' first
       | refine Opl.val (op_load rfl (ld_agg a2 a1)) rfl ?_
       | refine Opl.val (op_buildSlice1 rfl a3) rfl ?_
       | refine Opl.val (op_app rfl rfl a4) rfl ?_
       | exact hK _ _ _ _ ⟨v', rfl, a5, a6⟩ ⟨rfl, rfl, rfl, rfl, trivial⟩
       | refine .std ?_ | refine .nil ?_ | refine .seq ?_ | refine .region ?_ | refine .xs ?_ | refine .kb ?_ | refine .leaf ?_ | refine .block ?_ | refine .gn ?_ | refine .dr ?_ | fail
  · rintro q r' S2 Fx ⟨v, rfl, hp, hk⟩ hqn hend
    obtain ⟨d1, d2, d3⟩ := hp.done hqn hend
    repeat' first | refine .std ?_ | refine .nil ?_ | refine .seq ?_ | refine .region ?_ | refine .xs ?_ | refine .kb ?_ | refine .leaf ?_ | refine .block ?_ | refine .gn ?_ | refine .dr ?_ | fail
    refine At.fnr rfl rfl rfl ?_
    rw [d1]
    exact ⟨hp.st, d2, d3, hk⟩
set_option maxHeartbeats 4000000 in
theorem xeffects (k : Nat) (s : List UInt8) : RGC 87 k s [.list 9] 1 false 0 := .mk fun {S c r} h hfu => by
  refine CallTo.of (n := 52) Tryz.func87 rfl rfl ?_
  have hsm := h.small
  have hle := rL_le (s := s) (r := r)
  repeat' first
   | refine Opl.callv rfl (by kernel_rfl) h.long rfl (fun S1 h1 => ?_) (fun _ _ hf => hf.elim)
   | refine Go.rloop c (rL s r).1 s (fun q r' S' Fx => ∃ v, Fx = [(0, .ptr c 0), (3, v), (4, .int .i64 ((rL s r).1 : Nat))] ∧ RLp k S.next S' c s r 9 127 2 q r' v ∧ Keep2 S S' c c) ?_ (by omega) (by rfl) (by rfl) ?_ ?_ ?_
   | refine .std ?_ | refine .nil ?_ | refine .seq ?_ | refine .region ?_ | refine .xs ?_ | refine .kb ?_ | refine .leaf ?_ | refine .block ?_ | refine .gn ?_ | refine .dr ?_ | fail
  · rintro q r' S' Fx ⟨v, rfl, hp, hk⟩
    exact ⟨rfl, rfl, hp.st, rfl, rfl⟩
  · exact ⟨_, _, ⟨.nils, rfl, RLp.start h1.1 hfu, h1.2⟩, rfl, rfl, rfl, rfl, trivial⟩
  · rintro q j S2 Fx E1 kx hq ⟨v, rfl, hp, hk⟩ hsub hK
    refine Go.weaken ?_ hsub
    obtain ⟨hmu, hk0, _⟩ := hp.pos rfl
    obtain ⟨k0, rfl⟩ : ∃ k', k = k' + 1 := ⟨k - 1, by omega⟩
    have hm0 : mu s (.ok j) ≤ k0 + 1 := by omega
    have hcnt := hp.cnt (Nat.le_of_lt hq)
    have p0 := RProg.alloc (k := k0) (z := zc 9) hp.st 127
    repeat' first
     | refine Opl.rf [.str] 1 (z := [.str []]) (rest := [.nils]) p0 rfl (by kernel_rfl) (xtext k0 s) (p0.fuel hm0) rfl rfl rfl rfl rfl rfl rfl rfl (fun _ r93 _ p92 => ?_)
     | refine Opl.callv rfl (by kernel_rfl) p92.st.long rfl (fun _ h91 => ?_) (fun _ _ hf => hf.elim)
     | refine Go.holdB ?_
     | refine Opl.val op_alloc rfl ?_
     | refine .std ?_ | refine .nil ?_ | refine .seq ?_ | refine .region ?_ | refine .xs ?_ | refine .kb ?_ | refine .leaf ?_ | refine .block ?_ | refine .gn ?_ | refine .dr ?_ | fail
    refine ⟨?_⟩
    obtain ⟨cs95, hc96, hl97⟩ := RLc.start (k := k0) (t := 10) (te := 228) (sz := 14) (rest := []) p92 h91 (p92.fuel (m := 0) hm0)
    have le98 := rL_le (s := s) (r := r93)
    refine Go.rloop c (rL s r93).1 s (fun qq r' S' Fx => ∃ vv, Fx = [(0, .ptr c 0), (3, v), (4, .int .i64 ((rL s r).1 : Nat)), (5, .int .i64 (q : Nat)), (6, .ptr S2.next 0), (7, .int .i64 ((rL s r93).1 : Nat))] ∧ RLc k0 (S2.new (.box 127 (zc 9))) S' c S2.next s r93 r' 10 228 14 qq 127 ([] ++ cs95) [] vv) ?_ (by omega) (by rfl) (by rfl) ?_ ?_ ?_
    · rintro q r' S' Fx ⟨v, rfl, hl⟩
      exact ⟨rfl, rfl, hl.lp.st, rfl, rfl⟩
    · exact ⟨_, _, ⟨.nils, rfl, hl97⟩, rfl, rfl, rfl, rfl, rfl, rfl, rfl, trivial⟩
    · rintro q99 j100 S101 Fx E1 kx hq104 ⟨v102, rfl, hl103⟩ hsub hK105
      refine Go.weaken ?_ hsub
      obtain ⟨hmu, hk108, _⟩ := hl103.lp.pos rfl
      obtain ⟨k106, rfl⟩ : ∃ k', k0 = k' + 1 := ⟨k0 - 1, by omega⟩
      have hm107 : mu s (.ok j100) ≤ k106 + 1 := by omega
      have ct109 := hl103.lp.cnt (Nat.le_of_lt hq104)
      have p110 := RProg.alloc (k := k106) (z := zc 10) hl103.lp.st 228
      repeat' first
       | refine Opl.rf [.str] 1 (z := [.str []]) (rest := [.int .i64 0, .int .i64 0, .str [], .nils, .nils, .int .i64 0, .int .i64 0, .int .i64 0, .str [], .nils, .nils, .int .i64 0, .bool false]) p110 rfl (by kernel_rfl) (xtext k106 s) (p110.fuel hm107) rfl rfl rfl rfl rfl rfl rfl rfl (fun _ r112 _ p111 => ?_)
       | refine Opl.rf [.str, .sub 5] 7 (z := [.int .i64 0, .int .i64 0, .str [], .nils, .nils, .int .i64 0]) (rest := [.int .i64 0, .int .i64 0, .str [], .nils, .nils, .int .i64 0, .bool false]) p111 rfl (by kernel_rfl) (RGC.subAny (t := 5) rfl (xtyp (k106 - 1) s)) (p111.fuel1 hm107 rfl) rfl rfl rfl rfl rfl rfl rfl rfl (fun _ r114 _ p113 => ?_)
       | refine Opl.rf [.str, .sub 5, .sub 5] 13 (z := [.int .i64 0, .int .i64 0, .str [], .nils, .nils, .int .i64 0]) (rest := [.bool false]) p113 rfl (by kernel_rfl) (RGC.subAny (t := 5) rfl (xtyp (k106 - 1) s)) (p113.fuel1 hm107 rfl) rfl rfl rfl rfl rfl rfl rfl rfl (fun _ r116 _ p115 => ?_)
       | refine Opl.rf [.str, .sub 5, .sub 5, .bool] 14 (z := [.bool false]) (rest := []) p115 rfl (by kernel_rfl) (xtruth k106 s) (p115.fuel hm107) rfl rfl rfl rfl rfl rfl rfl rfl (fun _ r118 _ p117 => ?_)
       | refine Opl.val op_alloc rfl ?_
       | refine Go.holdF ?_
       | refine .std ?_ | refine .nil ?_ | refine .seq ?_ | refine .region ?_ | refine .xs ?_ | refine .kb ?_ | refine .leaf ?_ | refine .block ?_ | refine .gn ?_ | refine .dr ?_ | fail
      refine ⟨?_⟩
      obtain ⟨cs119, v120, S121, S122, a123, a124, a125, a126, a127, a128, a129, a130⟩ := RLc.step (off := 1) (TL := 125) hl103 p117 rfl rfl (App.of (P := Tryz.prog) (t := 125) (u := 125) (e := 228) (n := 14) (ag := true) (bytes := 200) (by kernel_rfl)) inferInstance (by decide) (by decide) (by omega) (by simp [hc96.1])
      repeat' first
       | refine Opl.val (op_load rfl (ld_agg a124 a123)) rfl ?_
       | refine Opl.val (op_load rfl (ld_one a125)) rfl ?_
       | refine Opl.val (op_buildSlice1 rfl a127) rfl ?_
       | refine Opl.val (op_app rfl rfl a128) rfl ?_
       | refine Opl.eff (op_store rfl rfl a129) ?_
       | exact hK105 _ _ _ _ ⟨v120, rfl, a130⟩ ⟨rfl, rfl, rfl, rfl, rfl, rfl, rfl, trivial⟩
       | refine .std ?_ | refine .nil ?_ | refine .seq ?_ | refine .region ?_ | refine .xs ?_ | refine .kb ?_ | refine .leaf ?_ | refine .block ?_ | refine .gn ?_ | refine .dr ?_ | fail
    · rintro q r131 S2 Fx ⟨v132, rfl, hl133⟩ hqn hend
      have p134 := RLc.done p92 hc96 hl133 hqn hend
      obtain ⟨cs, v', S4, a1, a2, a3, a4, a5, a6⟩ := RLp.step (TL := 23) hp hk p134 rfl rfl (App.of (P := Tryz.prog) (t := 23) (u := 23) (e := 127) (n := 2) (ag := true) (bytes := 40) (by kernel_rfl)) (by decide) (by decide) (by omega)
      repeat' first
       | refine Opl.val (op_load rfl (ld_agg a2 a1)) rfl ?_
       | refine Opl.val (op_buildSlice1 rfl a3) rfl ?_
       | refine Opl.val (op_app rfl rfl a4) rfl ?_
       | exact hK _ _ _ _ ⟨v', rfl, a5, a6⟩ ⟨rfl, rfl, rfl, rfl, trivial⟩
       | refine .std ?_ | refine .nil ?_ | refine .seq ?_ | refine .region ?_ | refine .xs ?_ | refine .kb ?_ | refine .leaf ?_ | refine .block ?_ | refine .gn ?_ | refine .dr ?_ | fail
  · rintro q r' S2 Fx ⟨v, rfl, hp, hk⟩ hqn hend
    obtain ⟨d1, d2, d3⟩ := hp.done hqn hend
    repeat' first | refine .std ?_ | refine .nil ?_ | refine .seq ?_ | refine .region ?_ | refine .xs ?_ | refine .kb ?_ | refine .leaf ?_ | refine .block ?_ | refine .gn ?_ | refine .dr ?_ | fail
    refine At.fnr rfl rfl rfl ?_
    rw [d1]
    exact ⟨hp.st, d2, d3, hk⟩
end Go.Proofs.YtilldjgagokcfaaGreat
