import Derived.Test.YtilldjgagokcfaaGreatX4
set_option linter.unusedVariables false
set_option linter.unusedSimpArgs false
namespace Go.Proofs.YtilldjgagokcfaaGreat
open Go.RowKit Go.Ev
set_option maxRecDepth 100000
set_option linter.unusedVariables false
set_option maxHeartbeats 4000000 in
theorem xsegments (k : Nat) (s : List UInt8) (hV : ∀ j, j < k → RGC 49 j s (sch 2) 5 true 0) : RGC 101 k s [.list 3] 1 false 0 := .mk fun {S c r} h hfu => by
  refine CallTo.of (n := 61) Tryz.func101 rfl rfl ?_
  have hsm := h.small
  have hle := rL_le (s := s) (r := r)
  repeat' first
   | refine Opl.callv rfl (by kernel_rfl) h.long rfl (fun S1 h1 => ?_) (fun _ _ hf => hf.elim)
   | refine Go.rloop c (rL s r).1 s (fun q r' S' Fx => ∃ v, Fx = [(0, .ptr c 0), (3, v), (4, .int .i64 ((rL s r).1 : Nat))] ∧ RLp k S.next S' c s r 3 181 5 q r' v ∧ Keep2 S S' c c) ?_ (by omega) (by rfl) (by rfl) ?_ ?_ ?_
   | refine .std ?_ | refine .nil ?_ | refine .seq ?_ | refine .region ?_ | refine .xs ?_ | refine .kb ?_ | refine .leaf ?_ | refine .block ?_ | refine .gn ?_ | refine .dr ?_ | fail
  · rintro q r' S' Fx ⟨v, rfl, hp, hk⟩
    exact ⟨rfl, rfl, hp.st, rfl, rfl⟩
  · exact ⟨_, _, ⟨.nils, rfl, RLp.start h1.1 hfu, h1.2⟩, rfl, rfl, rfl, rfl, trivial⟩
  · rintro q j S2 Fx E1 kx hq ⟨v, rfl, hp, hk⟩ hsub hK
    refine Go.weaken ?_ hsub
    obtain ⟨hmu, hk0, _⟩ := hp.pos rfl
    obtain ⟨k0, rfl⟩ : ∃ k', k = k' + 1 := ⟨k - 1, by omega⟩
    have hm0 : mu s (.ok j) ≤ k0 + 1 := by omega
    have hcnt := hp.cnt (Nat.le_of_lt hq)
    have p0 := RProg.alloc (k := k0) (z := zc 3) hp.st 181
    repeat' first
     | refine Opl.rf [.int] 1 (z := [.int .i64 0]) (rest := [.str [], .int .i64 0, .nils, .nils]) p0 rfl (by kernel_rfl) (xnumber k0 s) (p0.fuel hm0) rfl rfl rfl rfl rfl rfl rfl rfl (fun _ r3 _ p2 => ?_)
     | refine Opl.rf [.int, .str] 2 (z := [.str []]) (rest := [.int .i64 0, .nils, .nils]) p2 rfl (by kernel_rfl) (xtext k0 s) (p2.fuel hm0) rfl rfl rfl rfl rfl rfl rfl rfl (fun _ r5 _ p4 => ?_)
     | refine Opl.rf [.int, .str, .int] 3 (z := [.int .i64 0]) (rest := [.nils, .nils]) p4 rfl (by kernel_rfl) (xnumber k0 s) (p4.fuel hm0) rfl rfl rfl rfl rfl rfl rfl rfl (fun _ r7 _ p6 => ?_)
     | refine Opl.rf [.int, .str, .int, .list 2] 4 (z := [.nils]) (rest := [.nils]) p6 rfl (by kernel_rfl) (xvaluesK k0 s (fun j hj => hV j (by omega))) (p6.fuel hm0) rfl rfl rfl rfl rfl rfl rfl rfl (fun _ r9 _ p8 => ?_)
     | refine Opl.callv rfl (by kernel_rfl) p8.st.long rfl (fun _ h1 => ?_) (fun _ _ hf => hf.elim)
     | refine Go.holdB ?_
     | refine Opl.val op_alloc rfl ?_
     | refine .std ?_ | refine .nil ?_ | refine .seq ?_ | refine .region ?_ | refine .xs ?_ | refine .kb ?_ | refine .leaf ?_ | refine .block ?_ | refine .gn ?_ | refine .dr ?_ | fail
    refine ⟨?_⟩
    obtain ⟨cs11, hc12, hl13⟩ := RLc.start (k := k0) (t := 4) (te := 259) (sz := 4) (rest := []) p8 h1 (p8.fuel (m := 0) hm0)
    have le14 := rL_le (s := s) (r := r9)
    refine Go.rloop c (rL s r9).1 s (fun qq r' S' Fx => ∃ vv, Fx = [(0, .ptr c 0), (3, v), (4, .int .i64 ((rL s r).1 : Nat)), (5, .int .i64 (q : Nat)), (6, .ptr S2.next 0), (7, .int .i64 ((rL s r9).1 : Nat))] ∧ RLc k0 (S2.new (.box 181 (zc 3))) S' c S2.next s r9 r' 4 259 4 qq 181 ([] ++ cs11) [] vv) ?_ (by omega) (by rfl) (by rfl) ?_ ?_ ?_
    · rintro q r' S' Fx ⟨v, rfl, hl⟩
      exact ⟨rfl, rfl, hl.lp.st, rfl, rfl⟩
    · exact ⟨_, _, ⟨.nils, rfl, hl13⟩, rfl, rfl, rfl, rfl, rfl, rfl, rfl, trivial⟩
    · rintro q15 j16 S17 Fx E1 kx hq20 ⟨v18, rfl, hl19⟩ hsub hK21
      refine Go.weaken ?_ hsub
      obtain ⟨hmu, hk24, _⟩ := hl19.lp.pos rfl
      obtain ⟨k22, rfl⟩ : ∃ k', k0 = k' + 1 := ⟨k0 - 1, by omega⟩
      have hm23 : mu s (.ok j16) ≤ k22 + 1 := by omega
      have ct25 := hl19.lp.cnt (Nat.le_of_lt hq20)
      have p26 := RProg.alloc (k := k22) (z := zc 4) hl19.lp.st 259
      repeat' first
       | refine Opl.rf [.int] 1 (z := [.int .i64 0]) (rest := [.int .i64 0, .nils, .nils]) p26 rfl (by kernel_rfl) (xnumber k22 s) (p26.fuel hm23) rfl rfl rfl rfl rfl rfl rfl rfl (fun _ r28 _ p27 => ?_)
       | refine Opl.rf [.int, .int] 2 (z := [.int .i64 0]) (rest := [.nils, .nils]) p27 rfl (by kernel_rfl) (xnumber k22 s) (p27.fuel hm23) rfl rfl rfl rfl rfl rfl rfl rfl (fun _ r30 _ p29 => ?_)
       | refine Opl.rf [.int, .int, .list 2] 3 (z := [.nils]) (rest := [.nils]) p29 rfl (by kernel_rfl) (xvaluesK k22 s (fun j hj => hV j (by omega))) (p29.fuel hm23) rfl rfl rfl rfl rfl rfl rfl rfl (fun _ r32 _ p31 => ?_)
       | refine Opl.rf [.int, .int, .list 2, .list 2] 4 (z := [.nils]) (rest := []) p31 rfl (by kernel_rfl) (xvaluesK k22 s (fun j hj => hV j (by omega))) (p31.fuel hm23) rfl rfl rfl rfl rfl rfl rfl rfl (fun _ r34 _ p33 => ?_)
       | refine Opl.val op_alloc rfl ?_
       | refine Go.holdF ?_
       | refine .std ?_ | refine .nil ?_ | refine .seq ?_ | refine .region ?_ | refine .xs ?_ | refine .kb ?_ | refine .leaf ?_ | refine .block ?_ | refine .gn ?_ | refine .dr ?_ | fail
      refine ⟨?_⟩
      obtain ⟨cs35, v36, S37, S38, a39, a40, a41, a42, a43, a44, a45, a46⟩ := RLc.step (off := 4) (TL := 179) hl19 p33 rfl rfl (App.of (P := Tryz.prog) (t := 179) (u := 179) (e := 259) (n := 4) (ag := true) (bytes := 64) (by kernel_rfl)) inferInstance (by decide) (by decide) (by omega) (by simp [hc12.1])
      repeat' first
       | refine Opl.val (op_load rfl (ld_agg a40 a39)) rfl ?_
       | refine Opl.val (op_load rfl (ld_one a41)) rfl ?_
       | refine Opl.val (op_buildSlice1 rfl a43) rfl ?_
       | refine Opl.val (op_app rfl rfl a44) rfl ?_
       | refine Opl.eff (op_store rfl rfl a45) ?_
       | exact hK21 _ _ _ _ ⟨v36, rfl, a46⟩ ⟨rfl, rfl, rfl, rfl, rfl, rfl, rfl, trivial⟩
       | refine .std ?_ | refine .nil ?_ | refine .seq ?_ | refine .region ?_ | refine .xs ?_ | refine .kb ?_ | refine .leaf ?_ | refine .block ?_ | refine .gn ?_ | refine .dr ?_ | fail
    · rintro q r47 S2 Fx ⟨v48, rfl, hl49⟩ hqn hend
      have p50 := RLc.done p8 hc12 hl49 hqn hend
      obtain ⟨cs, v', S4, a1, a2, a3, a4, a5, a6⟩ := RLp.step (TL := 48) hp hk p50 rfl rfl (App.of (P := Tryz.prog) (t := 48) (u := 48) (e := 181) (n := 5) (ag := true) (bytes := 80) (by kernel_rfl)) (by decide) (by decide) (by omega)
      repeat' first
       | refine Opl.val (op_load rfl (ld_agg a2 a1)) rfl ?_
       | refine Opl.val (op_buildSlice1 rfl a3) rfl ?_
       | refine Opl.val (op_app rfl rfl a4) rfl ?_
       | exact hK _ _ _ _ ⟨v', rfl, a5, a6⟩ ⟨rfl, rfl, rfl, rfl, trivial⟩
       | refine .std ?_ | refine .nil ?_ | refine .seq ?_ | refine .region ?_ | refine .xs ?_ | refine .kb ?_ | refine .leaf ?_ | refine .block ?_ | refine .gn ?_ | refine .dr ?_ | fail
  · rintro q r' S2 Fx ⟨v, rfl, hp, hk⟩ hqn hend
    obtain ⟨d1, d2, d3⟩ := hp.done hqn hend
    repeat' first | refine .std ?_ | refine .nil ?_ | refine .seq ?_ | refine .region ?_ | refine .xs ?_ | refine .kb ?_ | refine .leaf ?_ | refine .block ?_ | refine .gn ?_ | refine .dr ?_ | fail
    refine At.fnr rfl rfl rfl ?_
    rw [d1]
    exact ⟨hp.st, d2, d3, hk⟩
set_option maxHeartbeats 4000000 in
theorem xvalue_of (k : Nat) (s : List UInt8) (hV : ∀ j, j < k → RGC 49 j s (sch 2) 5 true 0) : RGC 49 k s (sch 2) 5 true 0 := .mk fun {S c r} h hfu => by
  refine CallTo.of (n := 20) Tryz.func49 rfl rfl ?_
  have hsm := h.small
  have p0 := RProg.alloc (k := k) (z := zc 2) (h.newE (.box 62 (zc 2))) 62
  repeat' first
   | refine Opl.rf [.int] 1 (z := [.int .i64 0]) (rest := [.int .i64 0, .str [], .nils, .nils]) p0 rfl (by kernel_rfl) (xnumber k s) (p0.fuel hfu) rfl rfl rfl rfl rfl rfl rfl rfl (fun _ r52 _ p51 => ?_)
   | refine Opl.rf [.int, .int] 2 (z := [.int .i64 0]) (rest := [.str [], .nils, .nils]) p51 rfl (by kernel_rfl) (xnumber k s) (p51.fuel hfu) rfl rfl rfl rfl rfl rfl rfl rfl (fun _ r54 _ p53 => ?_)
   | refine Opl.rf [.int, .int, .str] 3 (z := [.str []]) (rest := [.nils, .nils]) p53 rfl (by kernel_rfl) (xtext k s) (p53.fuel hfu) rfl rfl rfl rfl rfl rfl rfl rfl (fun _ r56 _ p55 => ?_)
   | refine Opl.rf [.int, .int, .str, .list 2] 4 (z := [.nils]) (rest := [.nils]) p55 rfl (by kernel_rfl) (xvaluesK k s (fun j hj => hV j (by omega))) (p55.fuel hfu) rfl rfl rfl rfl rfl rfl rfl rfl (fun _ r58 _ p57 => ?_)
   | refine Opl.rf [.int, .int, .str, .list 2, .list 3] 5 (z := [.nils]) (rest := []) p57 rfl (by kernel_rfl) (xsegments k s (fun j hj => hV j (by omega))) (p57.fuel hfu) rfl rfl rfl rfl rfl rfl rfl rfl (fun _ r60 _ p59 => ?_)
   | refine Opl.val op_alloc rfl ?_
   | refine Go.holdL ?_
   | refine .std ?_ | refine .nil ?_ | refine .seq ?_ | refine .region ?_ | refine .xs ?_ | refine .kb ?_ | refine .leaf ?_ | refine .block ?_ | refine .gn ?_ | refine .dr ?_ | fail
  refine ⟨?_⟩
  obtain ⟨cs, W, a1, a2, a3, a4, a5, a6, a7, a8⟩ := RProg.ret p59 h rfl rfl
  repeat' first
   | refine Opl.val (op_load rfl (ld_agg a2 a1)) rfl ?_
   | refine Opl.eff (op_store rfl rfl a3) ?_
   | refine .std ?_ | refine .nil ?_ | refine .seq ?_ | refine .region ?_ | refine .xs ?_ | refine .kb ?_ | refine .leaf ?_ | refine .block ?_ | refine .gn ?_ | refine .dr ?_ | fail
  refine At.fnr rfl rfl (resV1 (i := S.next) rfl (ld_agg a4 a1)) ?_
  have hsc := p59.sc
  exact ⟨hsc ▸ a5, a6, fun i j hi hj => a7 i j hi (hsc.trans hj), a8⟩
theorem xvalue (k : Nat) (s : List UInt8) : RGC 49 k s (sch 2) 5 true 0 := by
  induction k using Nat.strongRecOn with
  | ind k ih => exact xvalue_of k s ih
end Go.Proofs.YtilldjgagokcfaaGreat
