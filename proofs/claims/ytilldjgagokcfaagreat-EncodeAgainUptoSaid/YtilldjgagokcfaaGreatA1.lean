/-
  EncodeAgain: what the law's function comes to.
-/
import Derived.Test.YtilldjgagokcfaaGreatF1
import Derived.Test.YtilldjgagokcfaaGreatM2
set_option linter.unusedVariables false
set_option linter.unusedSimpArgs false
namespace Go.Proofs.YtilldjgagokcfaaGreat
open Go.RowKit Go.Ev
set_option maxRecDepth 100000
set_option linter.unusedVariables false

set_option maxHeartbeats 4000000 in
theorem twice {d1 d2 d3 : Nat} {c1 c2 c3 : List V} {b1 b2 b3 : List UInt8} (h1 : EncF d1 (sch 14) c1 b1) (h2 : EncF d2 (sch 20) c2 b2) (h3 : EncF d3 (sch 2) c3 b3) (S : St) :
    CallTo Tryz.prog 5 [.agg c1, .agg c2, .agg c3] S (fun v _ => v = .bool true) (fun _ _ => False) := by
  have hl1 : c1.length = 10 := Enc.len 14 ⟨d1, h1⟩
  have hl2 : c2.length = 10 := Enc.len 20 ⟨d2, h2⟩
  have hl3 : c3.length = 5 := Enc.len 2 ⟨d3, h3⟩
  obtain ⟨U, hU⟩ : ∃ U, U = ((S.new (.box 32 c1)).new (.box 55 c2)).new (.box 62 c3) := ⟨_, rfl⟩
  obtain ⟨B, hBdef⟩ : ∃ B : St → Prop, B = fun W => W.h.find S.next = some (.box 32 c1) ∧ W.h.find (S.next + 1) = some (.box 55 c2) ∧ W.h.find (S.next + 2) = some (.box 62 c3) ∧ S.next + 3 ≤ W.next := ⟨_, rfl⟩
  have hBU : B U := by
    rw [hBdef, hU]
    refine ⟨?_, ?_, by simp [St.new, Tr.find_put], by simp [St.new]⟩
    · simp only [St.new, Tr.find_put]
      simp only [if_neg (show ¬ S.next = S.next + 1 + 1 by omega), if_neg (show ¬ S.next = S.next + 1 by omega), if_true]
    · simp only [St.new, Tr.find_put]
      simp only [if_neg (show ¬ S.next + 1 = S.next + 1 + 1 by omega), if_true]
  have hBk : ∀ {W W' : St}, B W → KeepB W W' W.next → B W' := by
    rw [hBdef]
    rintro W W' ⟨x1, x2, x3, x4⟩ k
    exact ⟨k.box _ _ _ (by omega) (by omega) x1, k.box _ _ _ (by omega) (by omega) x2, k.box _ _ _ (by omega) (by omega) x3, Nat.le_trans x4 k.next⟩
  have hBs : ∀ {W W' : St}, B W → Same W W' → B W' := fun h k => hBk h (k.keepB _)
  have ld1 : ∀ W, B W → loadE Tryz.prog 32 (.ptr S.next 0) W = some (.agg c1) := by
    rw [hBdef]; exact fun W hW => ld_agg ⟨_, _, hW.1, fun i v h => by simpa using h⟩ hl1
  have ld2 : ∀ W, B W → loadE Tryz.prog 55 (.ptr (S.next + 1) 0) W = some (.agg c2) := by
    rw [hBdef]; exact fun W hW => ld_agg ⟨_, _, hW.2.1, fun i v h => by simpa using h⟩ hl2
  have ld3 : ∀ W, B W → loadE Tryz.prog 62 (.ptr (S.next + 2) 0) W = some (.agg c3) := by
    rw [hBdef]; exact fun W hW => ld_agg ⟨_, _, hW.2.2.1, fun i v h => by simpa using h⟩ hl3
  have lay : ∀ (T t : TypeId) (n : Nat) (cs : List V) (U : St) (hn : SzN Tryz.prog T n), cs.length = szs t → szs t = n → cs.all V.one = true → ∃ W : St, storeE Tryz.prog T (.ptr U.next 0) (.agg cs) (U.new (.box T (zc t))) = some W ∧ W.h.find U.next = some (.box T cs) ∧ Same U W ∧ U.next < W.next := by
    intro T t n cs U hn hcl hsz ho
    have hb : (U.new (.box T (zc t))).h.find U.next = some (.box T (zc t)) := by simp [St.new, Tr.find_put]
    have hz := zc_len t
    have hsp : splice (zc t) 0 cs = some cs := by
      unfold splice
      rw [if_pos (Nat.ble_eq_true_of_le (by omega))]
      simp [hcl, hz]
    exact ⟨_, st_agg hb (hcl.trans hsz) ho hsp, by simp [Tr.find_put], (Same.new _ _).put (Nat.le_refl _) _, by simp [St.new]⟩
  have back : ∀ (k : UInt8) (t : Nat) (cs : List V) (bs : List UInt8) (v : V), Enc (sch t) cs bs → sch t ≠ [] → bs.length ≤ 99988 → RdV (fileOf k bs) k t v → ∃ ds, v = .tup [.agg ds, .int .i64 0, .int .i64 0] ∧ ds.length = szs t ∧ ds.all V.one = true ∧ ∃ d, EncF d (sch t) ds bs := by
    intro k t cs bs v he ht hle hv
    unfold RdV at hv
    rw [rdOut_file he ht hle, fileOf_body] at hv
    obtain ⟨ds, g1, g2, g3⟩ := hv
    exact ⟨ds, g1, g2, g3.ones, g3⟩
  have tup : ∀ (k : UInt8) (bs : List UInt8), bs.length ≤ 99988 → fileV k bs = .tup [.str (fileOf k bs), .int .i64 0] := fun k bs h => by unfold fileV; rw [if_pos h]
  have tupN : ∀ (k : UInt8) (bs : List UInt8), ¬ bs.length ≤ 99988 → fileV k bs = .tup [.str [], .int .i64 3] := fun k bs h => by unfold fileV; rw [if_neg h]
  have flen : ∀ (k : UInt8) (bs : List UInt8), bs.length ≤ 99988 → (fileOf k bs).length < 4611686018427387904 := fun k bs h => by rw [fileOf_len]; omega
  refine CallTo.of (n := 152) Tryz.func5 rfl rfl ?_
  -- Program
  obtain ⟨s14, e14, hse14⟩ := fileV_tup 112 b1
  have w14 : ∀ W, B W → CallTo Tryz.prog 6 [.agg c1] W (fun v S' => v = .tup [.str s14, .int .i64 e14] ∧ B S') (fun _ _ => False) := fun W hW => (progProgram h1 W).mono (fun v S' h => ⟨by rw [h.1, hse14], hBk hW h.2⟩) (fun _ _ h => h)
  repeat' first
   | refine Opl.val (op_box rfl) rfl (Opl.cast (S' := U) ?_ hU)
   | refine Opl.val (op_box rfl) rfl ?_
   | refine Opl.val (op_load rfl (ld1 _ (by assumption))) rfl ?_
   | refine Opl.callv rfl (by kernel_rfl) (w14 _ (by assumption)) rfl (fun V14 hV14 => ?_) (fun _ _ hf => hf.elim)
   | refine Go.holdS 2 ?_
   | refine .std ?_ | refine .nil ?_ | refine .seq ?_ | refine .region ?_ | refine .xs ?_ | refine .kb ?_ | refine .leaf ?_ | refine .block ?_ | refine .gn ?_ | refine .dr ?_ | fail
  refine ⟨?_⟩
  refine Go.joinS (fun E W => B W ∧ Sub [(3, .ptr S.next 0), (4, .ptr (S.next + 1) 0), (5, .ptr (S.next + 2) 0)] E) ?_ (fun hj => ?_)
  rotate_left
  · by_cases hle : b1.length ≤ 99988
    · skip
      have hvv := tup 112 b1 hle
      rw [hse14] at hvv
      simp only [V.tup.injEq, List.cons.injEq, V.str.injEq, V.int.injEq, true_and, and_true] at hvv
      obtain ⟨hs, he⟩ := hvv
      subst hs he
      repeat' first
       | refine Go.condT rfl ?_
       | refine Go.condF rfl ?_
       | refine Opl.call rfl (by kernel_rfl) (ReadProgram (fileOf 112 b1) _ (flen _ _ hle)) rfl (fun v U1 hv => ?_) (fun _ _ hf => hf.elim)
       | refine .std ?_ | refine .nil ?_ | refine .seq ?_ | refine .region ?_ | refine .xs ?_ | refine .kb ?_ | refine .leaf ?_ | refine .block ?_ | refine .gn ?_ | refine .dr ?_ | fail
      obtain ⟨hv, u1⟩ := hv
      have hBu := hBs hV14 u1
      obtain ⟨ds, rfl, hdl, hdo, d', hde⟩ := back 112 14 _ _ v ⟨_, h1⟩ (by simp [sch]) hle hv
      obtain ⟨W2, hst, hb2, t2, n2⟩ := lay 32 14 10 ds U1 inferInstance hdl rfl hdo
      have hB2 := hBs hBu t2
      have hldq : loadE Tryz.prog 32 (.ptr U1.next 0) W2 = some (.agg ds) := ld_agg ⟨_, _, hb2, fun i v h => by simpa using h⟩ hdl
      have wq : CallTo Tryz.prog 6 [.agg ds] W2 (fun v S' => v = .tup [.str (fileOf 112 b1), .int .i64 0] ∧ KeepB W2 S' W2.next) (fun _ _ => False) := by rw [← tup 112 b1 hle]; exact progProgram hde W2
      repeat' first
       | refine Opl.val op_alloc rfl ?_
       | refine Opl.eff (op_store rfl rfl hst) ?_
       | refine Opl.val (op_load rfl hldq) rfl ?_
       | refine Opl.callv rfl (by kernel_rfl) wq rfl (fun W3 k3 => ?_) (fun _ _ hf => hf.elim)
       | refine .std ?_ | refine .nil ?_ | refine .seq ?_ | refine .region ?_ | refine .xs ?_ | refine .kb ?_ | refine .leaf ?_ | refine .block ?_ | refine .gn ?_ | refine .dr ?_ | fail
      have hB3 := hBk hB2 k3
      have hldq3 : loadE Tryz.prog 32 (.ptr U1.next 0) W3 = some (.agg ds) := ld_agg ⟨_, _, k3.box _ _ _ (by omega) (by omega) hb2, fun i v h => by simpa using h⟩ hdl
      have wsame : CallTo Tryz.prog 13 [.agg c1, .agg ds] W3 (fun v S' => v = .bool true ∧ B S') (fun _ _ => False) := (sameProgram h1 hde (by unfold most; omega) W3).mono (fun v S' h => ⟨h.1, hBk hB3 h.2⟩) (fun _ _ h => h)
      repeat' first
       | exact hj _ _ ⟨by assumption, rfl, rfl, rfl, trivial⟩
       | refine op_gyes rfl ?_ rfl
       | refine Go.condF rfl ?_
       | refine Opl.val (op_str rfl rfl (str_neq _)) rfl ?_
       | refine Opl.val (op_str rfl rfl (str_eql _)) rfl ?_
       | refine Opl.val (op_load rfl (ld1 _ (by assumption))) rfl ?_
       | refine Opl.val (op_load rfl hldq3) rfl ?_
       | refine Opl.callv rfl (by kernel_rfl) wsame rfl (fun W4 h4 => ?_) (fun _ _ hf => hf.elim)
       | refine Opl.callr rfl (by kernel_rfl) (lim_closed awakeT _) rfl ?_
       | refine .std ?_ | refine .nil ?_ | refine .seq ?_ | refine .region ?_ | refine .xs ?_ | refine .kb ?_ | refine .leaf ?_ | refine .block ?_ | refine .gn ?_ | refine .dr ?_ | fail
    · have hvv := tupN 112 b1 hle
      rw [hse14] at hvv
      simp only [V.tup.injEq, List.cons.injEq, V.str.injEq, V.int.injEq, true_and, and_true] at hvv
      obtain ⟨hs, he⟩ := hvv
      subst hs he
      repeat' first
       | exact hj _ _ ⟨by assumption, rfl, rfl, rfl, trivial⟩
       | refine Go.condF rfl ?_
       | refine .std ?_ | refine .nil ?_ | refine .seq ?_ | refine .region ?_ | refine .xs ?_ | refine .kb ?_ | refine .leaf ?_ | refine .block ?_ | refine .gn ?_ | refine .dr ?_ | fail
  rintro E W14 ⟨hW14, hE⟩
  refine Go.weaken ?_ hE
  -- State
  obtain ⟨s20, e20, hse20⟩ := fileV_tup 115 b2
  have w20 : ∀ W, B W → CallTo Tryz.prog 23 [.agg c2] W (fun v S' => v = .tup [.str s20, .int .i64 e20] ∧ B S') (fun _ _ => False) := fun W hW => (progState h2 W).mono (fun v S' h => ⟨by rw [h.1, hse20], hBk hW h.2⟩) (fun _ _ h => h)
  repeat' first
   | refine Opl.val (op_load rfl (ld2 _ (by assumption))) rfl ?_
   | refine Opl.callv rfl (by kernel_rfl) (w20 _ (by assumption)) rfl (fun V20 hV20 => ?_) (fun _ _ hf => hf.elim)
   | refine Go.holdS 8 ?_
   | refine .std ?_ | refine .nil ?_ | refine .seq ?_ | refine .region ?_ | refine .xs ?_ | refine .kb ?_ | refine .leaf ?_ | refine .block ?_ | refine .gn ?_ | refine .dr ?_ | fail
  refine ⟨?_⟩
  refine Go.joinS (fun E W => B W ∧ Sub [(3, .ptr S.next 0), (4, .ptr (S.next + 1) 0), (5, .ptr (S.next + 2) 0)] E) ?_ (fun hj => ?_)
  rotate_left
  · by_cases hle : b2.length ≤ 99988
    · skip
      have hvv := tup 115 b2 hle
      rw [hse20] at hvv
      simp only [V.tup.injEq, List.cons.injEq, V.str.injEq, V.int.injEq, true_and, and_true] at hvv
      obtain ⟨hs, he⟩ := hvv
      subst hs he
      repeat' first
       | refine Go.condT rfl ?_
       | refine Go.condF rfl ?_
       | refine Opl.call rfl (by kernel_rfl) (ReadState (fileOf 115 b2) _ (flen _ _ hle)) rfl (fun v U1 hv => ?_) (fun _ _ hf => hf.elim)
       | refine .std ?_ | refine .nil ?_ | refine .seq ?_ | refine .region ?_ | refine .xs ?_ | refine .kb ?_ | refine .leaf ?_ | refine .block ?_ | refine .gn ?_ | refine .dr ?_ | fail
      obtain ⟨hv, u1⟩ := hv
      have hBu := hBs hV20 u1
      obtain ⟨ds, rfl, hdl, hdo, d', hde⟩ := back 115 20 _ _ v ⟨_, h2⟩ (by simp [sch]) hle hv
      obtain ⟨W2, hst, hb2, t2, n2⟩ := lay 55 20 10 ds U1 inferInstance hdl rfl hdo
      have hB2 := hBs hBu t2
      have hldq : loadE Tryz.prog 55 (.ptr U1.next 0) W2 = some (.agg ds) := ld_agg ⟨_, _, hb2, fun i v h => by simpa using h⟩ hdl
      have wq : CallTo Tryz.prog 23 [.agg ds] W2 (fun v S' => v = .tup [.str (fileOf 115 b2), .int .i64 0] ∧ KeepB W2 S' W2.next) (fun _ _ => False) := by rw [← tup 115 b2 hle]; exact progState hde W2
      repeat' first
       | refine Opl.val op_alloc rfl ?_
       | refine Opl.eff (op_store rfl rfl hst) ?_
       | refine Opl.val (op_load rfl hldq) rfl ?_
       | refine Opl.callv rfl (by kernel_rfl) wq rfl (fun W3 k3 => ?_) (fun _ _ hf => hf.elim)
       | refine .std ?_ | refine .nil ?_ | refine .seq ?_ | refine .region ?_ | refine .xs ?_ | refine .kb ?_ | refine .leaf ?_ | refine .block ?_ | refine .gn ?_ | refine .dr ?_ | fail
      have hB3 := hBk hB2 k3
      have hldq3 : loadE Tryz.prog 55 (.ptr U1.next 0) W3 = some (.agg ds) := ld_agg ⟨_, _, k3.box _ _ _ (by omega) (by omega) hb2, fun i v h => by simpa using h⟩ hdl
      have wsame : CallTo Tryz.prog 19 [.agg c2, .agg ds] W3 (fun v S' => v = .bool true ∧ B S') (fun _ _ => False) := (sameState h2 hde (by unfold most; omega) W3).mono (fun v S' h => ⟨h.1, hBk hB3 h.2⟩) (fun _ _ h => h)
      repeat' first
       | exact hj _ _ ⟨by assumption, rfl, rfl, rfl, trivial⟩
       | refine op_gyes rfl ?_ rfl
       | refine Go.condF rfl ?_
       | refine Opl.val (op_str rfl rfl (str_neq _)) rfl ?_
       | refine Opl.val (op_str rfl rfl (str_eql _)) rfl ?_
       | refine Opl.val (op_load rfl (ld2 _ (by assumption))) rfl ?_
       | refine Opl.val (op_load rfl hldq3) rfl ?_
       | refine Opl.callv rfl (by kernel_rfl) wsame rfl (fun W4 h4 => ?_) (fun _ _ hf => hf.elim)
       | refine Opl.callr rfl (by kernel_rfl) (lim_closed awakeT _) rfl ?_
       | refine .std ?_ | refine .nil ?_ | refine .seq ?_ | refine .region ?_ | refine .xs ?_ | refine .kb ?_ | refine .leaf ?_ | refine .block ?_ | refine .gn ?_ | refine .dr ?_ | fail
    · have hvv := tupN 115 b2 hle
      rw [hse20] at hvv
      simp only [V.tup.injEq, List.cons.injEq, V.str.injEq, V.int.injEq, true_and, and_true] at hvv
      obtain ⟨hs, he⟩ := hvv
      subst hs he
      repeat' first
       | exact hj _ _ ⟨by assumption, rfl, rfl, rfl, trivial⟩
       | refine Go.condF rfl ?_
       | refine .std ?_ | refine .nil ?_ | refine .seq ?_ | refine .region ?_ | refine .xs ?_ | refine .kb ?_ | refine .leaf ?_ | refine .block ?_ | refine .gn ?_ | refine .dr ?_ | fail
  rintro E W20 ⟨hW20, hE⟩
  refine Go.weaken ?_ hE
  -- Value
  obtain ⟨s2, e2, hse2⟩ := fileV_tup 118 b3
  have w2 : ∀ W, B W → CallTo Tryz.prog 24 [.agg c3] W (fun v S' => v = .tup [.str s2, .int .i64 e2] ∧ B S') (fun _ _ => False) := fun W hW => (progValue h3 W).mono (fun v S' h => ⟨by rw [h.1, hse2], hBk hW h.2⟩) (fun _ _ h => h)
  repeat' first
   | refine Opl.val (op_load rfl (ld3 _ (by assumption))) rfl ?_
   | refine Opl.callv rfl (by kernel_rfl) (w2 _ (by assumption)) rfl (fun V2 hV2 => ?_) (fun _ _ hf => hf.elim)
   | refine Go.holdS 14 ?_
   | refine .std ?_ | refine .nil ?_ | refine .seq ?_ | refine .region ?_ | refine .xs ?_ | refine .kb ?_ | refine .leaf ?_ | refine .block ?_ | refine .gn ?_ | refine .dr ?_ | fail
  refine ⟨?_⟩
  by_cases hle : b3.length ≤ 99988
  · skip
    skip
    have hvv := tup 118 b3 hle
    rw [hse2] at hvv
    simp only [V.tup.injEq, List.cons.injEq, V.str.injEq, V.int.injEq, true_and, and_true] at hvv
    obtain ⟨hs, he⟩ := hvv
    subst hs he
    repeat' first
     | refine Go.condT rfl ?_
     | refine Go.condF rfl ?_
     | refine Opl.call rfl (by kernel_rfl) (ReadValue (fileOf 118 b3) _ (flen _ _ hle)) rfl (fun v U1 hv => ?_) (fun _ _ hf => hf.elim)
     | refine .std ?_ | refine .nil ?_ | refine .seq ?_ | refine .region ?_ | refine .xs ?_ | refine .kb ?_ | refine .leaf ?_ | refine .block ?_ | refine .gn ?_ | refine .dr ?_ | fail
    obtain ⟨hv, u1⟩ := hv
    have hBu := hBs hV2 u1
    obtain ⟨ds, rfl, hdl, hdo, d', hde⟩ := back 118 2 _ _ v ⟨_, h3⟩ (by simp [sch]) hle hv
    obtain ⟨W2, hst, hb2, t2, n2⟩ := lay 62 2 5 ds U1 inferInstance hdl rfl hdo
    have hB2 := hBs hBu t2
    have hldq : loadE Tryz.prog 62 (.ptr U1.next 0) W2 = some (.agg ds) := ld_agg ⟨_, _, hb2, fun i v h => by simpa using h⟩ hdl
    have wq : CallTo Tryz.prog 24 [.agg ds] W2 (fun v S' => v = .tup [.str (fileOf 118 b3), .int .i64 0] ∧ KeepB W2 S' W2.next) (fun _ _ => False) := by rw [← tup 118 b3 hle]; exact progValue hde W2
    repeat' first
     | refine Opl.val op_alloc rfl ?_
     | refine Opl.eff (op_store rfl rfl hst) ?_
     | refine Opl.val (op_load rfl hldq) rfl ?_
     | refine Opl.callv rfl (by kernel_rfl) wq rfl (fun W3 k3 => ?_) (fun _ _ hf => hf.elim)
     | refine .std ?_ | refine .nil ?_ | refine .seq ?_ | refine .region ?_ | refine .xs ?_ | refine .kb ?_ | refine .leaf ?_ | refine .block ?_ | refine .gn ?_ | refine .dr ?_ | fail
    have hB3 := hBk hB2 k3
    have hldq3 : loadE Tryz.prog 62 (.ptr U1.next 0) W3 = some (.agg ds) := ld_agg ⟨_, _, k3.box _ _ _ (by omega) (by omega) hb2, fun i v h => by simpa using h⟩ hdl
    have wsame : CallTo Tryz.prog 22 [.agg c3, .agg ds] W3 (fun v S' => v = .bool true ∧ B S') (fun _ _ => False) := (sameValue h3 hde (by unfold most; omega) W3).mono (fun v S' h => ⟨h.1, hBk hB3 h.2⟩) (fun _ _ h => h)
    repeat' first
     | refine op_gyes rfl ?_ rfl
     | refine Go.condF rfl ?_
     | refine Opl.val (op_str rfl rfl (str_neq _)) rfl ?_
     | refine Opl.val (op_str rfl rfl (str_eql _)) rfl ?_
     | refine Opl.val (op_load rfl (ld3 _ (by assumption))) rfl ?_
     | refine Opl.val (op_load rfl hldq3) rfl ?_
     | refine Opl.callv rfl (by kernel_rfl) wsame rfl (fun W4 h4 => ?_) (fun _ _ hf => hf.elim)
     | refine Opl.callr rfl (by kernel_rfl) (lim_closed awakeT _) rfl ?_
     | refine .std ?_ | refine .nil ?_ | refine .seq ?_ | refine .region ?_ | refine .xs ?_ | refine .kb ?_ | refine .leaf ?_ | refine .block ?_ | refine .gn ?_ | refine .dr ?_ | fail
    exact At.fnr rfl rfl rfl rfl
  · have hvv := tupN 118 b3 hle
    rw [hse2] at hvv
    simp only [V.tup.injEq, List.cons.injEq, V.str.injEq, V.int.injEq, true_and, and_true] at hvv
    obtain ⟨hs, he⟩ := hvv
    subst hs he
    repeat' first
     | refine op_gyes rfl ?_ rfl
     | refine Opl.val (op_str rfl rfl (str_eql _)) rfl ?_
     | refine Go.condT rfl ?_
     | refine Opl.callr rfl (by kernel_rfl) (lim_closed awakeT _) rfl ?_
     | refine .std ?_ | refine .nil ?_ | refine .seq ?_ | refine .region ?_ | refine .xs ?_ | refine .kb ?_ | refine .leaf ?_ | refine .block ?_ | refine .gn ?_ | refine .dr ?_ | fail
    exact At.fnr rfl rfl rfl rfl

end Go.Proofs.YtilldjgagokcfaaGreat
