import Derived.Test.YtilldjgagokcfaaGreatX6
set_option linter.unusedVariables false
set_option linter.unusedSimpArgs false
namespace Go.Proofs.YtilldjgagokcfaaGreat
open Go.RowKit Go.Ev
set_option maxRecDepth 100000
set_option linter.unusedVariables false
theorem RLc.stepD {k : Nat} {S0 S S3 : St} {c x q j : Nat} {s : List UInt8} {r r' : RS} {t te sz : Nat} {T TL : TypeId} {A rest : List V} {v xv : V} {bytes off : Nat} {ag : Bool} (h : RLc k S0 S c x s r (.ok j) t te sz q T A rest v)
    (hr' : lift (scanF (scan s k) s [.sub t]) (.ok j) = r') (h1 : RSt S3 c s r') (h2 : Shape xv sz ag) (h3 : ∀ i j', (.ok j : RS) = .ok i → r' = .ok j' → Enc [.sub t] xv.cells (slc s i j') ∧ i < j') (h4 : Keep2 S S3 c c)
    (ha : App Tryz.prog TL TL te sz ag bytes) (hz : SzN Tryz.prog TL 1) (hby : bytes ≤ 1000) (hs1 : sz ≤ 1000) (hq : q ≤ 200000) (ho : off = A.length) :
    ∃ v' S4 S5, S3.h.find x = some (.box T (A ++ v :: rest)) ∧ buildSliceE Tryz.prog TL 1 [(0, xv)] = some (.list (some te) sz [xv] .exact) ∧ appendE Tryz.prog TL TL v (.list (some te) sz [xv] .exact) S3 = some (v', S4) ∧ S4.h.find x = some (.box T (A ++ v :: rest)) ∧
      storeE Tryz.prog TL (.ptr x off) v' S4 = some S5 ∧ RLc k S0 S5 c x s r r' t te sz (q + 1) T A rest v' := by
  have hn0 := h.keep.next
  have hn3 := h4.next
  have hxl := h.xlt
  have hx3 : S3.h.find x = some (.box T (A ++ v :: rest)) := by rw [h4.find x h.xlt h.xc h.xc]; exact h.box
  obtain ⟨v', S4, S5, happ, hk4, hst, hb5, hg5, hel, hn5, hold, hbx5⟩ := grow_app (P := Tryz.prog) (xv := xv) ha hz hby hq (grow_up h.lp.grow h4 h.lp.st) (by omega) ho (by omega) hx3 h2.len h2.ones
  refine ⟨v', S4, S5, hx3, bsl_one (P := Tryz.prog) ha hs1 h2.len h2.one, happ, hk4 x _ _ (by omega) hx3, hst, ?_⟩
  refine ⟨RLp.next h.lp rfl hr' (h1.ofBox (by omega) fun t cs hb => hbx5 c t cs h1.lt h.xc.symm hb) h3 hg5 hel, hb5, ⟨by omega, fun id i4 i5 i6 => ?_⟩, h.xc, by omega⟩
  rw [hold id (by omega) i4 i6, h4.find id (by omega) i5 i5, ← h.keep.find id i4 i5 i6]
set_option maxHeartbeats 4000000 in
theorem xexpr_of (k : Nat) (s : List UInt8) (hE : ∀ j, j < k → RGC 91 j s (sch 11) 7 true 0) : RGC 91 k s (sch 11) 7 true 0 := .mk fun {S c r} h hfu => by
  refine CallTo.of (n := 62) Tryz.func91 rfl rfl ?_
  have hsm := h.small
  have p0 := RProg.alloc (k := k) (z := zc 11) (h.newE (.box 30 (zc 11))) 30
  repeat' first
   | refine Opl.rf [.int] 1 (z := [.int .i64 0]) (rest := [.int .i64 0, .str [], .str [], .nils, .nils, .nils]) p0 rfl (by kernel_rfl) (xnumber k s) (p0.fuel hfu) rfl rfl rfl rfl rfl rfl rfl rfl (fun _ r3 _ p2 => ?_)
   | refine Opl.rf [.int, .int] 2 (z := [.int .i64 0]) (rest := [.str [], .str [], .nils, .nils, .nils]) p2 rfl (by kernel_rfl) (xnumber k s) (p2.fuel hfu) rfl rfl rfl rfl rfl rfl rfl rfl (fun _ r5 _ p4 => ?_)
   | refine Opl.rf [.int, .int, .str] 3 (z := [.str []]) (rest := [.str [], .nils, .nils, .nils]) p4 rfl (by kernel_rfl) (xtext k s) (p4.fuel hfu) rfl rfl rfl rfl rfl rfl rfl rfl (fun _ r7 _ p6 => ?_)
   | refine Opl.rf [.int, .int, .str, .str] 4 (z := [.str []]) (rest := [.nils, .nils, .nils]) p6 rfl (by kernel_rfl) (xtext k s) (p6.fuel hfu) rfl rfl rfl rfl rfl rfl rfl rfl (fun _ r9 _ p8 => ?_)
   | refine Opl.rf [.int, .int, .str, .str, .list 1] 5 (z := [.nils]) (rest := [.nils, .nils]) p8 rfl (by kernel_rfl) (xtextsK k s) (p8.fuel hfu) rfl rfl rfl rfl rfl rfl rfl rfl (fun _ r11 _ p10 => ?_)
   | refine Opl.callv rfl (by kernel_rfl) p10.st.long rfl (fun _ h1 => ?_) (fun _ _ hf => hf.elim)
   | refine Go.holdB ?_
   | refine Opl.val op_alloc rfl ?_
   | refine .std ?_ | refine .nil ?_ | refine .seq ?_ | refine .region ?_ | refine .xs ?_ | refine .kb ?_ | refine .leaf ?_ | refine .block ?_ | refine .gn ?_ | refine .dr ?_ | fail
  refine ⟨?_⟩
  obtain ⟨cs0, hc0, hl0⟩ := RLc.start (k := k) (t := 11) (te := 30) (sz := 7) (rest := [.nils]) p10 h1 (p10.fuel (m := 0) hfu)
  have le0 := rL_le (s := s) (r := r11)
  refine Go.rloop c (rL s r11).1 s (fun qq r' S' Fx => ∃ vv, Fx = [(0, .ptr c 0), (2, .ptr S.next 0), (3, .ptr (S.new (.box 30 (zc 11))).next 0), (4, .int .i64 ((rL s r11).1 : Nat))] ∧ RLc k ((S.new (.box 30 (zc 11))).new (.box 30 (zc 11))) S' c (S.new (.box 30 (zc 11))).next s r11 r' 11 30 7 qq 30 ([] ++ cs0) [.nils] vv) ?_ (by omega) (by rfl) (by rfl) ?_ ?_ ?_
  · rintro q r' S' Fx ⟨v, rfl, hl⟩
    exact ⟨rfl, rfl, hl.lp.st, rfl, rfl⟩
  · exact ⟨_, _, ⟨.nils, rfl, hl0⟩, rfl, rfl, rfl, rfl, rfl, trivial⟩
  · rintro q j S2 Fx E1 kx hq ⟨v, rfl, hl⟩ hsub hK
    refine Go.weaken ?_ hsub
    obtain ⟨hmu, hk0, _⟩ := hl.lp.pos rfl
    have hcnt := hl.lp.cnt (Nat.le_of_lt hq)
    have hcall := (RGC.subAny (t := 11) rfl (hE (k - 1) (by omega))).h hl.lp.st hmu
    repeat' first
     | refine Go.draw [0, 1, 0, 4, 12, 31, 63, 127] [2, 3, 0, 1, 4, 5, 6, 7] (by kernel_rfl) (fun W => W.h.find (S.new (.box 30 (zc 11))).next = some (.box 30 (([] ++ cs0) ++ v :: [.nils]))) ?_
     | refine .std ?_ | refine .nil ?_ | refine .seq ?_ | refine .region ?_ | refine .xs ?_ | refine .kb ?_ | refine .leaf ?_ | refine .block ?_ | refine .gn ?_ | refine .dr ?_ | fail
    refine Drw.c0 rfl rfl (op_move rfl) rfl ?_
    refine Drw.call rfl rfl (by kernel_rfl) hcall rfl (fun xv S3 hx => ?_)
    obtain ⟨q1, q2, q3, q4⟩ := hx
    obtain ⟨v', S4, S5, g1, g2, g3, g4, g5, g6⟩ := RLc.stepD (off := 5) (TL := 27) hl rfl q1 q2 q3 q4 (App.of (P := Tryz.prog) (t := 27) (u := 27) (e := 30) (n := 7) (ag := true) (bytes := 120) (by kernel_rfl)) inferInstance (by decide) (by decide) (by omega) (by simp [hc0.1])
    have lenA : 5 = ([] ++ cs0).length := by simp [hc0.1]
    refine ⟨g1, ?_⟩
    refine Drw.c0 rfl rfl (op_fld rfl rfl) rfl ?_
    refine Drw.c2 rfl rfl hl.box g1 (fun W hW => op_load rfl (ld_one (pt_mid lenA hW))) rfl ?_
    refine Drw.c0 rfl rfl (op_buildSlice1 rfl g2) rfl ?_
    refine Drw.c3 rfl rfl (op_app rfl rfl g3) g4 rfl ?_
    refine Drw.c0 rfl rfl (op_fld rfl rfl) rfl ?_
    refine Drw.last rfl rfl (op_store rfl rfl g5) ?_
    exact hK _ _ _ _ ⟨v', rfl, g6⟩ ⟨rfl, rfl, rfl, rfl, rfl, trivial⟩
  · rintro q rE S2 Fx ⟨vE, rfl, hlE⟩ hqn hend
    have pE := RLc.done p10 hc0 hlE hqn hend
    repeat' first
     | refine Opl.callv rfl (by kernel_rfl) pE.st.long rfl (fun _ h12 => ?_) (fun _ _ hf => hf.elim)
     | refine Go.holdB ?_
     | refine .std ?_ | refine .nil ?_ | refine .seq ?_ | refine .region ?_ | refine .xs ?_ | refine .kb ?_ | refine .leaf ?_ | refine .block ?_ | refine .gn ?_ | refine .dr ?_ | fail
    refine ⟨?_⟩
    obtain ⟨cs14, hc15, hl16⟩ := RLc.start (k := k) (t := 12) (te := 241) (sz := 9) (rest := []) pE h12 (pE.fuel (m := 0) hfu)
    have le17 := rL_le (s := s) (r := rE)
    refine Go.rloop c (rL s rE).1 s (fun qq r' S' Fx => ∃ vv, Fx = [(0, .ptr c 0), (2, .ptr S.next 0), (3, .ptr (S.new (.box 30 (zc 11))).next 0), (4, .int .i64 ((rL s rE).1 : Nat))] ∧ RLc k ((S.new (.box 30 (zc 11))).new (.box 30 (zc 11))) S' c (S.new (.box 30 (zc 11))).next s rE r' 12 241 9 qq 30 ([] ++ cs14) [] vv) ?_ (by omega) (by rfl) (by rfl) ?_ ?_ ?_
    · rintro q r' S' Fx ⟨v, rfl, hl⟩
      exact ⟨rfl, rfl, hl.lp.st, rfl, rfl⟩
    · exact ⟨_, _, ⟨.nils, rfl, hl16⟩, rfl, rfl, rfl, rfl, rfl, trivial⟩
    · rintro q18 j19 S20 Fx E1 kx hq23 ⟨v21, rfl, hl22⟩ hsub hK24
      refine Go.weaken ?_ hsub
      obtain ⟨hmu, hk27, _⟩ := hl22.lp.pos rfl
      obtain ⟨k25, rfl⟩ : ∃ k', k = k' + 1 := ⟨k - 1, by omega⟩
      have hm26 : mu s (.ok j19) ≤ k25 + 1 := by omega
      have ct28 := hl22.lp.cnt (Nat.le_of_lt hq23)
      have p29 := RProg.alloc (k := k25) (z := zc 12) hl22.lp.st 241
      repeat' first
       | refine Opl.rf [.str] 1 (z := [.str []]) (rest := [.nils, .int .i64 0, .int .i64 0, .str [], .str [], .nils, .nils, .nils]) p29 rfl (by kernel_rfl) (xtext k25 s) (p29.fuel hm26) rfl rfl rfl rfl rfl rfl rfl rfl (fun _ r31 _ p30 => ?_)
       | refine Opl.rf [.str, .list 1] 2 (z := [.nils]) (rest := [.int .i64 0, .int .i64 0, .str [], .str [], .nils, .nils, .nils]) p30 rfl (by kernel_rfl) (xtextsK k25 s) (p30.fuel hm26) rfl rfl rfl rfl rfl rfl rfl rfl (fun _ r33 _ p32 => ?_)
       | refine Opl.rf [.str, .list 1, .sub 11] 9 (z := [.int .i64 0, .int .i64 0, .str [], .str [], .nils, .nils, .nils]) (rest := []) p32 rfl (by kernel_rfl) (RGC.subAny (t := 11) rfl (hE (k25 - 1) (by omega))) (p32.fuel1 hm26 rfl) rfl rfl rfl rfl rfl rfl rfl rfl (fun _ r35 _ p34 => ?_)
       | refine Opl.val op_alloc rfl ?_
       | refine Go.holdF ?_
       | refine .std ?_ | refine .nil ?_ | refine .seq ?_ | refine .region ?_ | refine .xs ?_ | refine .kb ?_ | refine .leaf ?_ | refine .block ?_ | refine .gn ?_ | refine .dr ?_ | fail
      refine ⟨?_⟩
      obtain ⟨cs36, v37, S38, S39, a40, a41, a42, a43, a44, a45, a46, a47⟩ := RLc.step (off := 6) (TL := 28) hl22 p34 rfl rfl (App.of (P := Tryz.prog) (t := 28) (u := 28) (e := 241) (n := 9) (ag := true) (bytes := 160) (by kernel_rfl)) inferInstance (by decide) (by decide) (by omega) (by simp [hc15.1])
      repeat' first
       | refine Opl.val (op_load rfl (ld_agg a41 a40)) rfl ?_
       | refine Opl.val (op_load rfl (ld_one a42)) rfl ?_
       | refine Opl.val (op_buildSlice1 rfl a44) rfl ?_
       | refine Opl.val (op_app rfl rfl a45) rfl ?_
       | refine Opl.eff (op_store rfl rfl a46) ?_
       | exact hK24 _ _ _ _ ⟨v37, rfl, a47⟩ ⟨rfl, rfl, rfl, rfl, rfl, trivial⟩
       | refine .std ?_ | refine .nil ?_ | refine .seq ?_ | refine .region ?_ | refine .xs ?_ | refine .kb ?_ | refine .leaf ?_ | refine .block ?_ | refine .gn ?_ | refine .dr ?_ | fail
    · rintro q r48 S2 Fx ⟨v49, rfl, hl50⟩ hqn hend
      have p51 := RLc.done pE hc15 hl50 hqn hend
      repeat' first
       | refine Go.holdL ?_
       | refine .std ?_ | refine .nil ?_ | refine .seq ?_ | refine .region ?_ | refine .xs ?_ | refine .kb ?_ | refine .leaf ?_ | refine .block ?_ | refine .gn ?_ | refine .dr ?_ | fail
      refine ⟨?_⟩
      obtain ⟨cs, W, a1, a2, a3, a4, a5, a6, a7, a8⟩ := RProg.ret p51 h rfl rfl
      repeat' first
       | refine Opl.val (op_load rfl (ld_agg a2 a1)) rfl ?_
       | refine Opl.eff (op_store rfl rfl a3) ?_
       | refine .std ?_ | refine .nil ?_ | refine .seq ?_ | refine .region ?_ | refine .xs ?_ | refine .kb ?_ | refine .leaf ?_ | refine .block ?_ | refine .gn ?_ | refine .dr ?_ | fail
      refine At.fnr rfl rfl (resV1 (i := S.next) rfl (ld_agg a4 a1)) ?_
      have hsc := p51.sc
      exact ⟨hsc ▸ a5, a6, fun i j hi hj => a7 i j hi (hsc.trans hj), a8⟩
theorem xexpr (k : Nat) (s : List UInt8) : RGC 91 k s (sch 11) 7 true 0 := by
  induction k using Nat.strongRecOn with
  | ind k ih => exact xexpr_of k s ih
set_option maxHeartbeats 4000000 in
theorem xprogram (k : Nat) (s : List UInt8) : RGC 39 k s (sch 14) 10 true 0 := .mk fun {S c r} h hfu => by
  refine CallTo.of (n := 37) Tryz.func39 rfl rfl ?_
  have hsm := h.small
  have p0 := RProg.alloc (k := k) (z := zc 14) (h.newE (.box 32 (zc 14))) 32
  repeat' first
   | refine Opl.rf [.list 7] 1 (z := [.nils]) (rest := [.nils, .nils, .int .i64 0, .int .i64 0, .str [], .str [], .nils, .nils, .nils]) p0 rfl (by kernel_rfl) (xdata k s) (p0.fuel hfu) rfl rfl rfl rfl rfl rfl rfl rfl (fun _ r54 _ p53 => ?_)
   | refine Opl.rf [.list 7, .list 9] 2 (z := [.nils]) (rest := [.nils, .int .i64 0, .int .i64 0, .str [], .str [], .nils, .nils, .nils]) p53 rfl (by kernel_rfl) (xeffects k s) (p53.fuel hfu) rfl rfl rfl rfl rfl rfl rfl rfl (fun _ r56 _ p55 => ?_)
   | refine Opl.callv rfl (by kernel_rfl) p55.st.long rfl (fun _ h52 => ?_) (fun _ _ hf => hf.elim)
   | refine Go.holdB ?_
   | refine Opl.val op_alloc rfl ?_
   | refine .std ?_ | refine .nil ?_ | refine .seq ?_ | refine .region ?_ | refine .xs ?_ | refine .kb ?_ | refine .leaf ?_ | refine .block ?_ | refine .gn ?_ | refine .dr ?_ | fail
  refine ⟨?_⟩
  obtain ⟨cs58, hc59, hl60⟩ := RLc.start (k := k) (t := 13) (te := 132) (sz := 8) (rest := [.int .i64 0, .int .i64 0, .str [], .str [], .nils, .nils, .nils]) p55 h52 (p55.fuel (m := 0) hfu)
  have le61 := rL_le (s := s) (r := r56)
  refine Go.rloop c (rL s r56).1 s (fun qq r' S' Fx => ∃ vv, Fx = [(0, .ptr c 0), (2, .ptr S.next 0), (3, .ptr (S.new (.box 32 (zc 14))).next 0), (4, .int .i64 ((rL s r56).1 : Nat))] ∧ RLc k ((S.new (.box 32 (zc 14))).new (.box 32 (zc 14))) S' c (S.new (.box 32 (zc 14))).next s r56 r' 13 132 8 qq 32 ([] ++ cs58) [.int .i64 0, .int .i64 0, .str [], .str [], .nils, .nils, .nils] vv) ?_ (by omega) (by rfl) (by rfl) ?_ ?_ ?_
  · rintro q r' S' Fx ⟨v, rfl, hl⟩
    exact ⟨rfl, rfl, hl.lp.st, rfl, rfl⟩
  · exact ⟨_, _, ⟨.nils, rfl, hl60⟩, rfl, rfl, rfl, rfl, rfl, trivial⟩
  · rintro q62 j63 S64 Fx E1 kx hq67 ⟨v65, rfl, hl66⟩ hsub hK68
    refine Go.weaken ?_ hsub
    obtain ⟨hmu, hk71, _⟩ := hl66.lp.pos rfl
    obtain ⟨k69, rfl⟩ : ∃ k', k = k' + 1 := ⟨k - 1, by omega⟩
    have hm70 : mu s (.ok j63) ≤ k69 + 1 := by omega
    have ct72 := hl66.lp.cnt (Nat.le_of_lt hq67)
    have p73 := RProg.alloc (k := k69) (z := zc 13) hl66.lp.st 132
    repeat' first
     | refine Opl.rf [.str] 1 (z := [.str []]) (rest := [.int .i64 0, .int .i64 0, .str [], .str [], .nils, .nils, .nils]) p73 rfl (by kernel_rfl) (xtext k69 s) (p73.fuel hm70) rfl rfl rfl rfl rfl rfl rfl rfl (fun _ r75 _ p74 => ?_)
     | refine Opl.rf [.str, .sub 11] 8 (z := [.int .i64 0, .int .i64 0, .str [], .str [], .nils, .nils, .nils]) (rest := []) p74 rfl (by kernel_rfl) (RGC.subAny (t := 11) rfl (xexpr (k69 - 1) s)) (p74.fuel1 hm70 rfl) rfl rfl rfl rfl rfl rfl rfl rfl (fun _ r77 _ p76 => ?_)
     | refine Opl.val op_alloc rfl ?_
     | refine Go.holdF ?_
     | refine .std ?_ | refine .nil ?_ | refine .seq ?_ | refine .region ?_ | refine .xs ?_ | refine .kb ?_ | refine .leaf ?_ | refine .block ?_ | refine .gn ?_ | refine .dr ?_ | fail
    refine ⟨?_⟩
    obtain ⟨cs78, v79, S80, S81, a82, a83, a84, a85, a86, a87, a88, a89⟩ := RLc.step (off := 2) (TL := 24) hl66 p76 rfl rfl (App.of (P := Tryz.prog) (t := 24) (u := 24) (e := 132) (n := 8) (ag := true) (bytes := 136) (by kernel_rfl)) inferInstance (by decide) (by decide) (by omega) (by simp [hc59.1])
    repeat' first
     | refine Opl.val (op_load rfl (ld_agg a83 a82)) rfl ?_
     | refine Opl.val (op_load rfl (ld_one a84)) rfl ?_
     | refine Opl.val (op_buildSlice1 rfl a86) rfl ?_
     | refine Opl.val (op_app rfl rfl a87) rfl ?_
     | refine Opl.eff (op_store rfl rfl a88) ?_
     | exact hK68 _ _ _ _ ⟨v79, rfl, a89⟩ ⟨rfl, rfl, rfl, rfl, rfl, trivial⟩
     | refine .std ?_ | refine .nil ?_ | refine .seq ?_ | refine .region ?_ | refine .xs ?_ | refine .kb ?_ | refine .leaf ?_ | refine .block ?_ | refine .gn ?_ | refine .dr ?_ | fail
  · rintro q r90 S2 Fx ⟨v91, rfl, hl92⟩ hqn hend
    have p93 := RLc.done p55 hc59 hl92 hqn hend
    repeat' first
     | refine Opl.rf [.list 7, .list 9, .list 13, .sub 11] 10 (z := [.int .i64 0, .int .i64 0, .str [], .str [], .nils, .nils, .nils]) (rest := []) p93 rfl (by kernel_rfl) (RGC.subAny (t := 11) rfl (xexpr (k - 1) s)) (p93.fuel1 hfu rfl) rfl rfl rfl rfl rfl rfl rfl rfl (fun _ r95 _ p94 => ?_)
     | refine Go.holdL ?_
     | refine .std ?_ | refine .nil ?_ | refine .seq ?_ | refine .region ?_ | refine .xs ?_ | refine .kb ?_ | refine .leaf ?_ | refine .block ?_ | refine .gn ?_ | refine .dr ?_ | fail
    refine ⟨?_⟩
    obtain ⟨cs, W, a1, a2, a3, a4, a5, a6, a7, a8⟩ := RProg.ret p94 h rfl rfl
    repeat' first
     | refine Opl.val (op_load rfl (ld_agg a2 a1)) rfl ?_
     | refine Opl.eff (op_store rfl rfl a3) ?_
     | refine .std ?_ | refine .nil ?_ | refine .seq ?_ | refine .region ?_ | refine .xs ?_ | refine .kb ?_ | refine .leaf ?_ | refine .block ?_ | refine .gn ?_ | refine .dr ?_ | fail
    refine At.fnr rfl rfl (resV1 (i := S.next) rfl (ld_agg a4 a1)) ?_
    have hsc := p94.sc
    exact ⟨hsc ▸ a5, a6, fun i j hi hj => a7 i j hi (hsc.trans hj), a8⟩
set_option maxHeartbeats 4000000 in
theorem xcode (k : Nat) (s : List UInt8) : RGC 42 k s (sch 15) 3 true 0 := .mk fun {S c r} h hfu => by
  refine CallTo.of (n := 69) Tryz.func42 rfl rfl ?_
  have hsm := h.small
  have p0 := RProg.alloc (k := k) (z := zc 15) (h.newE (.box 35 (zc 15))) 35
  repeat' first
   | refine Opl.rf [.list 7] 1 (z := [.nils]) (rest := [.nils, .nils]) p0 rfl (by kernel_rfl) (xdata k s) (p0.fuel hfu) rfl rfl rfl rfl rfl rfl rfl rfl (fun _ r98 _ p97 => ?_)
   | refine Opl.rf [.list 7, .list 9] 2 (z := [.nils]) (rest := [.nils]) p97 rfl (by kernel_rfl) (xeffects k s) (p97.fuel hfu) rfl rfl rfl rfl rfl rfl rfl rfl (fun _ r100 _ p99 => ?_)
   | refine Opl.callv rfl (by kernel_rfl) p99.st.long rfl (fun _ h96 => ?_) (fun _ _ hf => hf.elim)
   | refine Go.holdB ?_
   | refine Opl.val op_alloc rfl ?_
   | refine .std ?_ | refine .nil ?_ | refine .seq ?_ | refine .region ?_ | refine .xs ?_ | refine .kb ?_ | refine .leaf ?_ | refine .block ?_ | refine .gn ?_ | refine .dr ?_ | fail
  refine ⟨?_⟩
  obtain ⟨cs102, hc103, hl104⟩ := RLc.start (k := k) (t := 16) (te := 148) (sz := 5) (rest := []) p99 h96 (p99.fuel (m := 0) hfu)
  have le105 := rL_le (s := s) (r := r100)
  refine Go.rloop c (rL s r100).1 s (fun qq r' S' Fx => ∃ vv, Fx = [(0, .ptr c 0), (2, .ptr S.next 0), (3, .ptr (S.new (.box 35 (zc 15))).next 0), (4, .int .i64 ((rL s r100).1 : Nat))] ∧ RLc k ((S.new (.box 35 (zc 15))).new (.box 35 (zc 15))) S' c (S.new (.box 35 (zc 15))).next s r100 r' 16 148 5 qq 35 ([] ++ cs102) [] vv) ?_ (by omega) (by rfl) (by rfl) ?_ ?_ ?_
  · rintro q r' S' Fx ⟨v, rfl, hl⟩
    exact ⟨rfl, rfl, hl.lp.st, rfl, rfl⟩
  · exact ⟨_, _, ⟨.nils, rfl, hl104⟩, rfl, rfl, rfl, rfl, rfl, trivial⟩
  · rintro q106 j107 S108 Fx E1 kx hq111 ⟨v109, rfl, hl110⟩ hsub hK112
    refine Go.weaken ?_ hsub
    obtain ⟨hmu, hk115, _⟩ := hl110.lp.pos rfl
    obtain ⟨k113, rfl⟩ : ∃ k', k = k' + 1 := ⟨k - 1, by omega⟩
    have hm114 : mu s (.ok j107) ≤ k113 + 1 := by omega
    have ct116 := hl110.lp.cnt (Nat.le_of_lt hq111)
    have p117 := RProg.alloc (k := k113) (z := zc 16) hl110.lp.st 148
    repeat' first
     | refine Opl.rf [.int] 1 (z := [.int .i64 0]) (rest := [.int .i64 0, .int .i64 0, .bool false, .nils]) p117 rfl (by kernel_rfl) (xnumber k113 s) (p117.fuel hm114) rfl rfl rfl rfl rfl rfl rfl rfl (fun _ r120 _ p119 => ?_)
     | refine Opl.rf [.int, .int] 2 (z := [.int .i64 0]) (rest := [.int .i64 0, .bool false, .nils]) p119 rfl (by kernel_rfl) (xnumber k113 s) (p119.fuel hm114) rfl rfl rfl rfl rfl rfl rfl rfl (fun _ r122 _ p121 => ?_)
     | refine Opl.rf [.int, .int, .int] 3 (z := [.int .i64 0]) (rest := [.bool false, .nils]) p121 rfl (by kernel_rfl) (xnumber k113 s) (p121.fuel hm114) rfl rfl rfl rfl rfl rfl rfl rfl (fun _ r124 _ p123 => ?_)
     | refine Opl.rf [.int, .int, .int, .bool] 4 (z := [.bool false]) (rest := [.nils]) p123 rfl (by kernel_rfl) (xtruth k113 s) (p123.fuel hm114) rfl rfl rfl rfl rfl rfl rfl rfl (fun _ r126 _ p125 => ?_)
     | refine Opl.callv rfl (by kernel_rfl) p125.st.long rfl (fun _ h118 => ?_) (fun _ _ hf => hf.elim)
     | refine Go.holdB ?_
     | refine Opl.val op_alloc rfl ?_
     | refine .std ?_ | refine .nil ?_ | refine .seq ?_ | refine .region ?_ | refine .xs ?_ | refine .kb ?_ | refine .leaf ?_ | refine .block ?_ | refine .gn ?_ | refine .dr ?_ | fail
    refine ⟨?_⟩
    obtain ⟨cs128, hc129, hl130⟩ := RLc.start (k := k113) (t := 17) (te := 158) (sz := 4) (rest := []) p125 h118 (p125.fuel (m := 0) hm114)
    have le131 := rL_le (s := s) (r := r126)
    refine Go.rloop c (rL s r126).1 s (fun qq r' S' Fx => ∃ vv, Fx = [(0, .ptr c 0), (2, .ptr S.next 0), (3, .ptr (S.new (.box 35 (zc 15))).next 0), (4, .int .i64 ((rL s r100).1 : Nat)), (5, .int .i64 (q106 : Nat)), (6, .ptr S108.next 0), (7, .int .i64 ((rL s r126).1 : Nat))] ∧ RLc k113 (S108.new (.box 148 (zc 16))) S' c S108.next s r126 r' 17 158 4 qq 148 ([] ++ cs128) [] vv) ?_ (by omega) (by rfl) (by rfl) ?_ ?_ ?_
    · rintro q r' S' Fx ⟨v, rfl, hl⟩
      exact ⟨rfl, rfl, hl.lp.st, rfl, rfl⟩
    · exact ⟨_, _, ⟨.nils, rfl, hl130⟩, rfl, rfl, rfl, rfl, rfl, rfl, rfl, rfl, trivial⟩
    · rintro q132 j133 S134 Fx E1 kx hq137 ⟨v135, rfl, hl136⟩ hsub hK138
      refine Go.weaken ?_ hsub
      obtain ⟨hmu, hk141, _⟩ := hl136.lp.pos rfl
      obtain ⟨k139, rfl⟩ : ∃ k', k113 = k' + 1 := ⟨k113 - 1, by omega⟩
      have hm140 : mu s (.ok j133) ≤ k139 + 1 := by omega
      have ct142 := hl136.lp.cnt (Nat.le_of_lt hq137)
      have p143 := RProg.alloc (k := k139) (z := zc 17) hl136.lp.st 158
      repeat' first
       | refine Opl.rf [.int] 1 (z := [.int .i64 0]) (rest := [.int .i64 0, .int .i64 0, .str []]) p143 rfl (by kernel_rfl) (xnumber k139 s) (p143.fuel hm140) rfl rfl rfl rfl rfl rfl rfl rfl (fun _ r145 _ p144 => ?_)
       | refine Opl.rf [.int, .int] 2 (z := [.int .i64 0]) (rest := [.int .i64 0, .str []]) p144 rfl (by kernel_rfl) (xnumber k139 s) (p144.fuel hm140) rfl rfl rfl rfl rfl rfl rfl rfl (fun _ r147 _ p146 => ?_)
       | refine Opl.rf [.int, .int, .int] 3 (z := [.int .i64 0]) (rest := [.str []]) p146 rfl (by kernel_rfl) (xnumber k139 s) (p146.fuel hm140) rfl rfl rfl rfl rfl rfl rfl rfl (fun _ r149 _ p148 => ?_)
       | refine Opl.rf [.int, .int, .int, .str] 4 (z := [.str []]) (rest := []) p148 rfl (by kernel_rfl) (xtext k139 s) (p148.fuel hm140) rfl rfl rfl rfl rfl rfl rfl rfl (fun _ r151 _ p150 => ?_)
       | refine Opl.val op_alloc rfl ?_
       | refine Go.holdF ?_
       | refine .std ?_ | refine .nil ?_ | refine .seq ?_ | refine .region ?_ | refine .xs ?_ | refine .kb ?_ | refine .leaf ?_ | refine .block ?_ | refine .gn ?_ | refine .dr ?_ | fail
      refine ⟨?_⟩
      obtain ⟨cs152, v153, S154, S155, a156, a157, a158, a159, a160, a161, a162, a163⟩ := RLc.step (off := 4) (TL := 146) hl136 p150 rfl rfl (App.of (P := Tryz.prog) (t := 146) (u := 146) (e := 158) (n := 4) (ag := true) (bytes := 40) (by kernel_rfl)) inferInstance (by decide) (by decide) (by omega) (by simp [hc129.1])
      repeat' first
       | refine Opl.val (op_load rfl (ld_agg a157 a156)) rfl ?_
       | refine Opl.val (op_load rfl (ld_one a158)) rfl ?_
       | refine Opl.val (op_buildSlice1 rfl a160) rfl ?_
       | refine Opl.val (op_app rfl rfl a161) rfl ?_
       | refine Opl.eff (op_store rfl rfl a162) ?_
       | exact hK138 _ _ _ _ ⟨v153, rfl, a163⟩ ⟨rfl, rfl, rfl, rfl, rfl, rfl, rfl, rfl, trivial⟩
       | refine .std ?_ | refine .nil ?_ | refine .seq ?_ | refine .region ?_ | refine .xs ?_ | refine .kb ?_ | refine .leaf ?_ | refine .block ?_ | refine .gn ?_ | refine .dr ?_ | fail
    · rintro q r164 S2 Fx ⟨v165, rfl, hl166⟩ hqn hend
      have p167 := RLc.done p125 hc129 hl166 hqn hend
      obtain ⟨cs168, v169, S170, S171, a172, a173, a174, a175, a176, a177, a178, a179⟩ := RLc.step (off := 2) (TL := 33) hl110 p167 rfl rfl (App.of (P := Tryz.prog) (t := 33) (u := 33) (e := 148) (n := 5) (ag := true) (bytes := 56) (by kernel_rfl)) inferInstance (by decide) (by decide) (by omega) (by simp [hc103.1])
      repeat' first
       | refine Opl.val (op_load rfl (ld_agg a173 a172)) rfl ?_
       | refine Opl.val (op_load rfl (ld_one a174)) rfl ?_
       | refine Opl.val (op_buildSlice1 rfl a176) rfl ?_
       | refine Opl.val (op_app rfl rfl a177) rfl ?_
       | refine Opl.eff (op_store rfl rfl a178) ?_
       | exact hK112 _ _ _ _ ⟨v169, rfl, a179⟩ ⟨rfl, rfl, rfl, rfl, rfl, trivial⟩
       | refine .std ?_ | refine .nil ?_ | refine .seq ?_ | refine .region ?_ | refine .xs ?_ | refine .kb ?_ | refine .leaf ?_ | refine .block ?_ | refine .gn ?_ | refine .dr ?_ | fail
  · rintro q r180 S2 Fx ⟨v181, rfl, hl182⟩ hqn hend
    have p183 := RLc.done p99 hc103 hl182 hqn hend
    repeat' first
     | refine Go.holdL ?_
     | refine .std ?_ | refine .nil ?_ | refine .seq ?_ | refine .region ?_ | refine .xs ?_ | refine .kb ?_ | refine .leaf ?_ | refine .block ?_ | refine .gn ?_ | refine .dr ?_ | fail
    refine ⟨?_⟩
    obtain ⟨cs, W, a1, a2, a3, a4, a5, a6, a7, a8⟩ := RProg.ret p183 h rfl rfl
    repeat' first
     | refine Opl.val (op_load rfl (ld_agg a2 a1)) rfl ?_
     | refine Opl.eff (op_store rfl rfl a3) ?_
     | refine .std ?_ | refine .nil ?_ | refine .seq ?_ | refine .region ?_ | refine .xs ?_ | refine .kb ?_ | refine .leaf ?_ | refine .block ?_ | refine .gn ?_ | refine .dr ?_ | fail
    refine At.fnr rfl rfl (resV1 (i := S.next) rfl (ld_agg a4 a1)) ?_
    have hsc := p183.sc
    exact ⟨hsc ▸ a5, a6, fun i j hi hj => a7 i j hi (hsc.trans hj), a8⟩
end Go.Proofs.YtilldjgagokcfaaGreat
