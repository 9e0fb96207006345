import Derived.Test.YtilldjgagokcfaaGreatX9
set_option linter.unusedVariables false
set_option linter.unusedSimpArgs false
namespace Go.Proofs.YtilldjgagokcfaaGreat
open Go.RowKit Go.Ev
set_option maxRecDepth 100000
set_option linter.unusedVariables false
theorem endV_tup (s : List UInt8) (r : RS) : ∃ (a : Nat) (e : Int), endV s r = .tup [.int .i64 a, .int .i64 e] ∧ (e = 0 ∨ e = 11) ∧ (e = 0 → a = 0) := by
  cases r with
  | error b => exact ⟨b, 11, rfl, .inr rfl, fun h => by omega⟩
  | ok j =>
    simp only [endV]
    split
    · exact ⟨_, 11, rfl, .inr rfl, fun h => by omega⟩
    · exact ⟨0, 0, rfl, .inl rfl, fun _ => rfl⟩
theorem lay0 {S1 : St} {y : Nat} {T : TypeId} {z cs : List V} {n : Nat} (hb : S1.h.find y = some (.box T z)) (hz : z.length = n) (hl : cs.length = n) (ho : cs.all V.one = true) [hs : SzN Tryz.prog T n] :
    ∃ W, storeE Tryz.prog T (.ptr y 0) (.agg cs) S1 = some W ∧ Pt W (.ptr y 0) cs ∧ Keep2 S1 W y y := by
  obtain ⟨W, h1, h2, h3⟩ := storeE_mid (P := Tryz.prog) (U := T) (o := 0) (v := .agg cs) (A := []) (B := []) hs rfl hz hl ho (by simpa using hb)
  exact ⟨W, h1, ⟨_, _, h2, fun i v h => by simpa [V.cells] using h⟩, h3⟩
theorem resV3 {W : St} {E : Env} {a b d i : Nat} {u : TypeId} {v x y : V} (ha : Env.get E a = some (.ptr i 0)) (h1 : loadE Tryz.prog u (.ptr i 0) W = some v) (hb : Env.get E b = some x) (hd : Env.get E d = some y) : resV Tryz.prog E W [.cell a u, .tmp b, .tmp d] = some [v, x, y] := by
  simp only [resV, ha, h1, hb, hd]
set_option maxHeartbeats 4000000 in
theorem xReadValue (f : List UInt8) (S : St) : CallTo Tryz.prog 21 [.str f] S (fun v S' => RdV f 118 2 v ∧ Same S S') (fun _ _ => False) := by
  refine CallTo.of (n := 34) Tryz.func21 rfl rfl ?_
  obtain ⟨U, hU⟩ : ∃ U, U = S.new (.box 62 (zc 2)) := ⟨_, rfl⟩
  have hbU : U.h.find S.next = some (.box 62 (zc 2)) := by rw [hU]; simp [St.new, Tr.find_put]
  have hnU : U.next = S.next + 1 := by rw [hU]; rfl
  have sU : Same S U := by rw [hU]; exact Same.new _ _
  have hhd := xhead f 118 U
  have hbz : buildE Tryz.prog 62 [] = some (.agg (zc 2)) := by kernel_rfl
  obtain ⟨W0, hst0, hpt0, k0⟩ := lay0 (cs := zc 2) (n := 5) hbU rfl rfl rfl
  have bad : ∀ (i : Nat) (e : Int), headV f 118 = .tup [.int .i64 i, .int .i64 e] → e ≠ 0 → rdOut f 118 2 = some (i, e) := by
    intro i e he h0
    unfold headV at he
    unfold rdOut
    split at he
    · rename_i hb
      rw [if_pos hb]
      simp only [V.tup.injEq, List.cons.injEq, V.int.injEq, true_and, and_true] at he
      obtain ⟨h1, h2⟩ := he
      congr 2 <;> omega
    · rename_i hb
      rw [if_neg hb]
      cases ho : outP f 118 with
      | none =>
        rw [ho] at he
        simp only [V.tup.injEq, List.cons.injEq, V.int.injEq, true_and, and_true] at he
        omega
      | some j =>
        rw [ho] at he
        simp only [V.tup.injEq, List.cons.injEq, V.int.injEq, true_and, and_true] at he ⊢
        obtain ⟨h1, h2⟩ := he
        congr 2 <;> omega
  have good : headV f 118 = .tup [.int .i64 0, .int .i64 0] → f.length ≤ 100000 ∧ outP f 118 = none := by
    intro he
    unfold headV at he
    split at he
    · simp only [V.tup.injEq, List.cons.injEq, V.int.injEq, true_and, and_true] at he
      omega
    · rename_i hb
      refine ⟨by omega, ?_⟩
      cases ho : outP f 118 with
      | none => rfl
      | some j =>
        rw [ho] at he
        simp only [V.tup.injEq, List.cons.injEq, V.int.injEq, true_and, and_true] at he
        omega
  obtain ⟨a, e, hhv, hcase⟩ : ∃ (a : Nat) (e : Int), headV f 118 = .tup [.int .i64 a, .int .i64 e] ∧ (e ≠ 0 ∨ (a = 0 ∧ e = 0)) := by
    unfold headV
    split
    · exact ⟨0, 3, rfl, .inl (by omega)⟩
    · cases outP f 118 with
      | none => exact ⟨0, 0, rfl, .inr ⟨rfl, rfl⟩⟩
      | some i => exact ⟨i, 11, rfl, .inl (by omega)⟩
  rw [hhv] at hhd
  rcases hcase with he0 | ⟨rfl, rfl⟩
  · have e1 : intOp .neq .i64 e 0 = some (.bool true) := neq_i (by rw [decide_eq_false he0]; rfl)
    have hout := bad a e hhv he0
    repeat' first
     | refine Opl.val op_alloc rfl (Opl.cast (S' := U) ?_ hU)
     | (refine Opl.callv rfl (by kernel_rfl) hhd rfl (fun W hW => ?_) (fun _ _ hf => hf.elim); subst hW)
     | refine Opl.val (op_int rfl rfl rfl e1) rfl ?_
     | refine Opl.val (op_build0 hbz) rfl ?_
     | refine Opl.eff (op_store rfl rfl hst0) ?_
     | refine Go.condT rfl ?_
     | refine .std ?_ | refine .nil ?_ | refine .seq ?_ | refine .region ?_ | refine .xs ?_ | refine .kb ?_ | refine .leaf ?_ | refine .block ?_ | refine .gn ?_ | refine .dr ?_ | fail
    refine At.fnr rfl rfl (resV3 (i := S.next) rfl (ld_agg hpt0 rfl) rfl rfl) ⟨?_, ?_⟩
    · unfold RdV; rw [hout]; rfl
    · exact Keep2.same sU k0 (Nat.le_refl _) (Nat.le_refl _)
  · obtain ⟨hl5, hout⟩ := good hhv
    have h12 := outP_len hout
    obtain ⟨s, hs⟩ : ∃ s, s = f.take (f.length - 4) := ⟨_, rfl⟩
    have hsl : s.length = f.length - 4 := by rw [hs]; simp
    have hbd := xbody f h12 hl5 U
    rw [← hs] at hbd
    have hG : RGC 49 f.length s (sch 2) 5 true 0 := xvalue f.length _
    have hbody := rdOut_body (t := 2) hl5 hout
    rw [← hs] at hbody
    have hsc : lift (scanF (scan s f.length) s (sch 2)) (.ok 8) = scan s (f.length + 1) 2 8 := rfl
    obtain ⟨U1, hU1⟩ : ∃ U1, U1 = U.new (.box 171 (rCells s (.ok 8))) := ⟨_, rfl⟩
    rw [← hU1] at hbd
    have e0 : intOp .neq .i64 0 0 = some (.bool false) := rfl
    have hbd' : CallTo Tryz.prog 38 [.str f] U (fun v S' => v = .ptr U.next 0 ∧ U1 = S') (fun _ _ => False) := hbd.mono (fun v S' h => ⟨h.1, h.2.2.symm⟩) (fun _ _ h => h)
    have hR1 : RSt U1 U.next s (.ok 8) := by
      refine ⟨by rw [hU1]; simp [St.new], by omega, fun i hi => by cases hi; omega, by rw [hU1]; simp [St.new, Tr.find_put]⟩
    repeat' first
     | refine Opl.val op_alloc rfl (Opl.cast (S' := U) ?_ hU)
     | (refine Opl.callv rfl (by kernel_rfl) hhd rfl (fun W hW => ?_) (fun _ _ hf => hf.elim); subst hW)
     | (refine Opl.callv rfl (by kernel_rfl) hbd' rfl (fun W hW => ?_) (fun _ _ hf => hf.elim); subst hW)
     | refine Opl.call rfl (by kernel_rfl) (hG.h hR1 (by simp only [mu]; omega)) rfl (fun v S2 hv => ?_) (fun _ _ hf => hf.elim)
     | refine Opl.val (op_int rfl rfl rfl e0) rfl ?_
     | refine Go.condF rfl ?_
     | refine .std ?_ | refine .nil ?_ | refine .seq ?_ | refine .region ?_ | refine .xs ?_ | refine .kb ?_ | refine .leaf ?_ | refine .block ?_ | refine .gn ?_ | refine .dr ?_ | fail
    obtain ⟨q1, q2, q3, k1⟩ := hv
    rw [hsc] at q1 q3
    obtain ⟨r, hr⟩ : ∃ r, r = scan s (f.length + 1) 2 8 := ⟨_, rfl⟩
    rw [← hr] at q1 q3
    have hvc : V.agg v.cells = v := q2.one
    obtain ⟨cs, hcs⟩ : ∃ cs, cs = v.cells := ⟨_, rfl⟩
    rw [← hcs] at hvc
    subst hvc
    have hcl : cs.length = 5 := q2.len
    have hco : cs.all V.one = true := q2.ones
    obtain ⟨S3, hS3⟩ : ∃ S3, S3 = S2.new (.box 62 (zc 2)) := ⟨_, rfl⟩
    have hb3 : S3.h.find S2.next = some (.box 62 (zc 2)) := by rw [hS3]; simp [St.new, Tr.find_put]
    obtain ⟨S4, hst4, hpt4, k4⟩ := lay0 (cs := cs) (n := 5) hb3 rfl hcl hco
    have n2 := k1.next
    have n1 : U1.next = U.next + 1 := by rw [hU1]; rfl
    have n3 : S3.next = S2.next + 1 := by rw [hS3]; rfl
    have n4 := k4.next
    have hR4 : RSt S4 U.next s r := by
      refine RSt.keep (S := S3) ?_ k4 (by omega)
      rw [hS3]; exact q1.newE _
    obtain ⟨a, e, hend, hcase⟩ : ∃ (a : Nat) (e : Int), endV s r = .tup [.int .i64 a, .int .i64 e] ∧ ((e = 11 ∧ bodyE s (f.length + 1) 2 = some a) ∨ (a = 0 ∧ e = 0 ∧ bodyE s (f.length + 1) 2 = none ∧ r = .ok s.length)) := by
      unfold bodyE
      rw [← hr]
      cases hrr : r with
      | error b => exact ⟨b, 11, rfl, .inl ⟨rfl, rfl⟩⟩
      | ok j =>
        have := hR4.le j hrr
        simp only [endV]
        by_cases hj : j < s.length
        · exact ⟨s.length, 11, by rw [if_pos hj], .inl ⟨rfl, by simp [hj]⟩⟩
        · exact ⟨0, 0, by rw [if_neg hj]; rfl, .inr ⟨rfl, rfl, by simp [hj], by congr 1; omega⟩⟩
    have he5 := xend hR4
    rw [hend] at he5
    have fy : ∀ W, Keep2 S4 W U.next U.next → W.h.find S.next = some (.box 62 (zc 2)) := by
      intro W k
      rw [k.find S.next (by omega) (by omega) (by omega), k4.find S.next (by omega) (by omega) (by omega), hS3]
      simp only [St.new, Tr.find_put, if_neg (show ¬ S.next = S2.next by omega)]
      rw [k1.find S.next (by omega) (by omega) (by omega), hU1]
      simp only [St.new, Tr.find_put, if_neg (show ¬ S.next = U.next by omega)]
      exact hbU
    have same : ∀ W W', Keep2 S4 W U.next U.next → Keep2 W W' S.next S.next → Same S W' := by
      intro W W' k k'
      refine ⟨by have := k.next; have := k'.next; omega, fun id hi => ?_⟩
      have := k.next
      rw [k'.find id (by omega) (by omega) (by omega), k.find id (by omega) (by omega) (by omega), k4.find id (by omega) (by omega) (by omega), hS3]
      simp only [St.new, Tr.find_put, if_neg (show ¬ id = S2.next by omega)]
      rw [k1.find id (by omega) (by omega) (by omega), hU1]
      simp only [St.new, Tr.find_put, if_neg (show ¬ id = U.next by omega)]
      exact sU.find id hi
    repeat' first
     | refine Opl.val op_alloc rfl (Opl.cast (S' := S3) ?_ hS3)
     | refine Opl.eff (op_store rfl rfl hst4) ?_
     | refine Opl.callv rfl (by kernel_rfl) he5 rfl (fun S5 k5 => ?_) (fun _ _ hf => hf.elim)
     | refine Go.holdS 7 ?_
     | refine .std ?_ | refine .nil ?_ | refine .seq ?_ | refine .region ?_ | refine .xs ?_ | refine .kb ?_ | refine .leaf ?_ | refine .block ?_ | refine .gn ?_ | refine .dr ?_ | fail
    refine ⟨?_⟩
    rcases hcase with ⟨rfl, hbe⟩ | ⟨rfl, rfl, hbe, hrj⟩
    · have e1 : intOp .neq .i64 11 0 = some (.bool true) := rfl
      obtain ⟨W6, hst6, hpt6, k6⟩ := lay0 (cs := zc 2) (n := 5) (fy _ k5) rfl rfl rfl
      repeat' first
       | refine Opl.val (op_int rfl rfl rfl e1) rfl ?_
       | refine Opl.val (op_build0 hbz) rfl ?_
       | refine Opl.eff (op_store rfl rfl hst6) ?_
       | refine Go.condT rfl ?_
       | refine .std ?_ | refine .nil ?_ | refine .seq ?_ | refine .region ?_ | refine .xs ?_ | refine .kb ?_ | refine .leaf ?_ | refine .block ?_ | refine .gn ?_ | refine .dr ?_ | fail
      refine At.fnr rfl rfl (resV3 (i := S.next) rfl (ld_agg hpt6 rfl) rfl rfl) ⟨?_, same _ _ k5 k6⟩
      unfold RdV; rw [hbody, hbe]; rfl
    · obtain ⟨W6, hst6, hpt6, k6⟩ := lay0 (cs := cs) (n := 5) (fy _ k5) rfl hcl hco
      have hpt5 : Pt S5 (.ptr S2.next 0) cs := by
        obtain ⟨T, cs', hb', hc'⟩ := hpt4
        exact ⟨T, cs', by rw [k5.find S2.next (by omega) (by omega) (by omega)]; exact hb', hc'⟩
      repeat' first
       | refine Opl.val (op_int rfl rfl rfl e0) rfl ?_
       | refine Opl.val (op_load rfl (ld_agg hpt5 hcl)) rfl ?_
       | refine Opl.eff (op_store rfl rfl hst6) ?_
       | refine Go.condF rfl ?_
       | refine .std ?_ | refine .nil ?_ | refine .seq ?_ | refine .region ?_ | refine .xs ?_ | refine .kb ?_ | refine .leaf ?_ | refine .block ?_ | refine .gn ?_ | refine .dr ?_ | fail
      refine At.fnr rfl rfl (resV3 (i := S.next) rfl (ld_agg hpt6 hcl) rfl rfl) ⟨?_, same _ _ k5 k6⟩
      unfold RdV; rw [hbody, hbe]
      refine ⟨cs, rfl, hcl, ?_⟩
      have := (q3 8 s.length rfl hrj).1
      have hln : (f.take (f.length - 4)).length = f.length - 4 := by simp
      rw [hs, slc_take (by simp), hln] at this
      exact this
set_option maxHeartbeats 4000000 in
theorem xReadProgram (f : List UInt8) (S : St) : CallTo Tryz.prog 12 [.str f] S (fun v S' => RdV f 112 14 v ∧ Same S S') (fun _ _ => False) := by
  refine CallTo.of (n := 34) Tryz.func12 rfl rfl ?_
  obtain ⟨U, hU⟩ : ∃ U, U = S.new (.box 32 (zc 14)) := ⟨_, rfl⟩
  have hbU : U.h.find S.next = some (.box 32 (zc 14)) := by rw [hU]; simp [St.new, Tr.find_put]
  have hnU : U.next = S.next + 1 := by rw [hU]; rfl
  have sU : Same S U := by rw [hU]; exact Same.new _ _
  have hhd := xhead f 112 U
  have hbz : buildE Tryz.prog 32 [] = some (.agg (zc 14)) := by kernel_rfl
  obtain ⟨W0, hst0, hpt0, k0⟩ := lay0 (cs := zc 14) (n := 10) hbU rfl rfl rfl
  have bad : ∀ (i : Nat) (e : Int), headV f 112 = .tup [.int .i64 i, .int .i64 e] → e ≠ 0 → rdOut f 112 14 = some (i, e) := by
    intro i e he h0
    unfold headV at he
    unfold rdOut
    split at he
    · rename_i hb
      rw [if_pos hb]
      simp only [V.tup.injEq, List.cons.injEq, V.int.injEq, true_and, and_true] at he
      obtain ⟨h1, h2⟩ := he
      congr 2 <;> omega
    · rename_i hb
      rw [if_neg hb]
      cases ho : outP f 112 with
      | none =>
        rw [ho] at he
        simp only [V.tup.injEq, List.cons.injEq, V.int.injEq, true_and, and_true] at he
        omega
      | some j =>
        rw [ho] at he
        simp only [V.tup.injEq, List.cons.injEq, V.int.injEq, true_and, and_true] at he ⊢
        obtain ⟨h1, h2⟩ := he
        congr 2 <;> omega
  have good : headV f 112 = .tup [.int .i64 0, .int .i64 0] → f.length ≤ 100000 ∧ outP f 112 = none := by
    intro he
    unfold headV at he
    split at he
    · simp only [V.tup.injEq, List.cons.injEq, V.int.injEq, true_and, and_true] at he
      omega
    · rename_i hb
      refine ⟨by omega, ?_⟩
      cases ho : outP f 112 with
      | none => rfl
      | some j =>
        rw [ho] at he
        simp only [V.tup.injEq, List.cons.injEq, V.int.injEq, true_and, and_true] at he
        omega
  obtain ⟨a, e, hhv, hcase⟩ : ∃ (a : Nat) (e : Int), headV f 112 = .tup [.int .i64 a, .int .i64 e] ∧ (e ≠ 0 ∨ (a = 0 ∧ e = 0)) := by
    unfold headV
    split
    · exact ⟨0, 3, rfl, .inl (by omega)⟩
    · cases outP f 112 with
      | none => exact ⟨0, 0, rfl, .inr ⟨rfl, rfl⟩⟩
      | some i => exact ⟨i, 11, rfl, .inl (by omega)⟩
  rw [hhv] at hhd
  rcases hcase with he0 | ⟨rfl, rfl⟩
  · have e1 : intOp .neq .i64 e 0 = some (.bool true) := neq_i (by rw [decide_eq_false he0]; rfl)
    have hout := bad a e hhv he0
    repeat' first
     | refine Opl.val op_alloc rfl (Opl.cast (S' := U) ?_ hU)
     | (refine Opl.callv rfl (by kernel_rfl) hhd rfl (fun W hW => ?_) (fun _ _ hf => hf.elim); subst hW)
     | refine Opl.val (op_int rfl rfl rfl e1) rfl ?_
     | refine Opl.val (op_build0 hbz) rfl ?_
     | refine Opl.eff (op_store rfl rfl hst0) ?_
     | refine Go.condT rfl ?_
     | refine .std ?_ | refine .nil ?_ | refine .seq ?_ | refine .region ?_ | refine .xs ?_ | refine .kb ?_ | refine .leaf ?_ | refine .block ?_ | refine .gn ?_ | refine .dr ?_ | fail
    refine At.fnr rfl rfl (resV3 (i := S.next) rfl (ld_agg hpt0 rfl) rfl rfl) ⟨?_, ?_⟩
    · unfold RdV; rw [hout]; rfl
    · exact Keep2.same sU k0 (Nat.le_refl _) (Nat.le_refl _)
  · obtain ⟨hl5, hout⟩ := good hhv
    have h12 := outP_len hout
    obtain ⟨s, hs⟩ : ∃ s, s = f.take (f.length - 4) := ⟨_, rfl⟩
    have hsl : s.length = f.length - 4 := by rw [hs]; simp
    have hbd := xbody f h12 hl5 U
    rw [← hs] at hbd
    have hG : RGC 39 f.length s (sch 14) 10 true 0 := xprogram f.length _
    have hbody := rdOut_body (t := 14) hl5 hout
    rw [← hs] at hbody
    have hsc : lift (scanF (scan s f.length) s (sch 14)) (.ok 8) = scan s (f.length + 1) 14 8 := rfl
    obtain ⟨U1, hU1⟩ : ∃ U1, U1 = U.new (.box 171 (rCells s (.ok 8))) := ⟨_, rfl⟩
    rw [← hU1] at hbd
    have e0 : intOp .neq .i64 0 0 = some (.bool false) := rfl
    have hbd' : CallTo Tryz.prog 38 [.str f] U (fun v S' => v = .ptr U.next 0 ∧ U1 = S') (fun _ _ => False) := hbd.mono (fun v S' h => ⟨h.1, h.2.2.symm⟩) (fun _ _ h => h)
    have hR1 : RSt U1 U.next s (.ok 8) := by
      refine ⟨by rw [hU1]; simp [St.new], by omega, fun i hi => by cases hi; omega, by rw [hU1]; simp [St.new, Tr.find_put]⟩
    repeat' first
     | refine Opl.val op_alloc rfl (Opl.cast (S' := U) ?_ hU)
     | (refine Opl.callv rfl (by kernel_rfl) hhd rfl (fun W hW => ?_) (fun _ _ hf => hf.elim); subst hW)
     | (refine Opl.callv rfl (by kernel_rfl) hbd' rfl (fun W hW => ?_) (fun _ _ hf => hf.elim); subst hW)
     | refine Opl.call rfl (by kernel_rfl) (hG.h hR1 (by simp only [mu]; omega)) rfl (fun v S2 hv => ?_) (fun _ _ hf => hf.elim)
     | refine Opl.val (op_int rfl rfl rfl e0) rfl ?_
     | refine Go.condF rfl ?_
     | refine .std ?_ | refine .nil ?_ | refine .seq ?_ | refine .region ?_ | refine .xs ?_ | refine .kb ?_ | refine .leaf ?_ | refine .block ?_ | refine .gn ?_ | refine .dr ?_ | fail
    obtain ⟨q1, q2, q3, k1⟩ := hv
    rw [hsc] at q1 q3
    obtain ⟨r, hr⟩ : ∃ r, r = scan s (f.length + 1) 14 8 := ⟨_, rfl⟩
    rw [← hr] at q1 q3
    have hvc : V.agg v.cells = v := q2.one
    obtain ⟨cs, hcs⟩ : ∃ cs, cs = v.cells := ⟨_, rfl⟩
    rw [← hcs] at hvc
    subst hvc
    have hcl : cs.length = 10 := q2.len
    have hco : cs.all V.one = true := q2.ones
    obtain ⟨S3, hS3⟩ : ∃ S3, S3 = S2.new (.box 32 (zc 14)) := ⟨_, rfl⟩
    have hb3 : S3.h.find S2.next = some (.box 32 (zc 14)) := by rw [hS3]; simp [St.new, Tr.find_put]
    obtain ⟨S4, hst4, hpt4, k4⟩ := lay0 (cs := cs) (n := 10) hb3 rfl hcl hco
    have n2 := k1.next
    have n1 : U1.next = U.next + 1 := by rw [hU1]; rfl
    have n3 : S3.next = S2.next + 1 := by rw [hS3]; rfl
    have n4 := k4.next
    have hR4 : RSt S4 U.next s r := by
      refine RSt.keep (S := S3) ?_ k4 (by omega)
      rw [hS3]; exact q1.newE _
    obtain ⟨a, e, hend, hcase⟩ : ∃ (a : Nat) (e : Int), endV s r = .tup [.int .i64 a, .int .i64 e] ∧ ((e = 11 ∧ bodyE s (f.length + 1) 14 = some a) ∨ (a = 0 ∧ e = 0 ∧ bodyE s (f.length + 1) 14 = none ∧ r = .ok s.length)) := by
      unfold bodyE
      rw [← hr]
      cases hrr : r with
      | error b => exact ⟨b, 11, rfl, .inl ⟨rfl, rfl⟩⟩
      | ok j =>
        have := hR4.le j hrr
        simp only [endV]
        by_cases hj : j < s.length
        · exact ⟨s.length, 11, by rw [if_pos hj], .inl ⟨rfl, by simp [hj]⟩⟩
        · exact ⟨0, 0, by rw [if_neg hj]; rfl, .inr ⟨rfl, rfl, by simp [hj], by congr 1; omega⟩⟩
    have he5 := xend hR4
    rw [hend] at he5
    have fy : ∀ W, Keep2 S4 W U.next U.next → W.h.find S.next = some (.box 32 (zc 14)) := by
      intro W k
      rw [k.find S.next (by omega) (by omega) (by omega), k4.find S.next (by omega) (by omega) (by omega), hS3]
      simp only [St.new, Tr.find_put, if_neg (show ¬ S.next = S2.next by omega)]
      rw [k1.find S.next (by omega) (by omega) (by omega), hU1]
      simp only [St.new, Tr.find_put, if_neg (show ¬ S.next = U.next by omega)]
      exact hbU
    have same : ∀ W W', Keep2 S4 W U.next U.next → Keep2 W W' S.next S.next → Same S W' := by
      intro W W' k k'
      refine ⟨by have := k.next; have := k'.next; omega, fun id hi => ?_⟩
      have := k.next
      rw [k'.find id (by omega) (by omega) (by omega), k.find id (by omega) (by omega) (by omega), k4.find id (by omega) (by omega) (by omega), hS3]
      simp only [St.new, Tr.find_put, if_neg (show ¬ id = S2.next by omega)]
      rw [k1.find id (by omega) (by omega) (by omega), hU1]
      simp only [St.new, Tr.find_put, if_neg (show ¬ id = U.next by omega)]
      exact sU.find id hi
    repeat' first
     | refine Opl.val op_alloc rfl (Opl.cast (S' := S3) ?_ hS3)
     | refine Opl.eff (op_store rfl rfl hst4) ?_
     | refine Opl.callv rfl (by kernel_rfl) he5 rfl (fun S5 k5 => ?_) (fun _ _ hf => hf.elim)
     | refine Go.holdS 7 ?_
     | refine .std ?_ | refine .nil ?_ | refine .seq ?_ | refine .region ?_ | refine .xs ?_ | refine .kb ?_ | refine .leaf ?_ | refine .block ?_ | refine .gn ?_ | refine .dr ?_ | fail
    refine ⟨?_⟩
    rcases hcase with ⟨rfl, hbe⟩ | ⟨rfl, rfl, hbe, hrj⟩
    · have e1 : intOp .neq .i64 11 0 = some (.bool true) := rfl
      obtain ⟨W6, hst6, hpt6, k6⟩ := lay0 (cs := zc 14) (n := 10) (fy _ k5) rfl rfl rfl
      repeat' first
       | refine Opl.val (op_int rfl rfl rfl e1) rfl ?_
       | refine Opl.val (op_build0 hbz) rfl ?_
       | refine Opl.eff (op_store rfl rfl hst6) ?_
       | refine Go.condT rfl ?_
       | refine .std ?_ | refine .nil ?_ | refine .seq ?_ | refine .region ?_ | refine .xs ?_ | refine .kb ?_ | refine .leaf ?_ | refine .block ?_ | refine .gn ?_ | refine .dr ?_ | fail
      refine At.fnr rfl rfl (resV3 (i := S.next) rfl (ld_agg hpt6 rfl) rfl rfl) ⟨?_, same _ _ k5 k6⟩
      unfold RdV; rw [hbody, hbe]; rfl
    · obtain ⟨W6, hst6, hpt6, k6⟩ := lay0 (cs := cs) (n := 10) (fy _ k5) rfl hcl hco
      have hpt5 : Pt S5 (.ptr S2.next 0) cs := by
        obtain ⟨T, cs', hb', hc'⟩ := hpt4
        exact ⟨T, cs', by rw [k5.find S2.next (by omega) (by omega) (by omega)]; exact hb', hc'⟩
      repeat' first
       | refine Opl.val (op_int rfl rfl rfl e0) rfl ?_
       | refine Opl.val (op_load rfl (ld_agg hpt5 hcl)) rfl ?_
       | refine Opl.eff (op_store rfl rfl hst6) ?_
       | refine Go.condF rfl ?_
       | refine .std ?_ | refine .nil ?_ | refine .seq ?_ | refine .region ?_ | refine .xs ?_ | refine .kb ?_ | refine .leaf ?_ | refine .block ?_ | refine .gn ?_ | refine .dr ?_ | fail
      refine At.fnr rfl rfl (resV3 (i := S.next) rfl (ld_agg hpt6 hcl) rfl rfl) ⟨?_, same _ _ k5 k6⟩
      unfold RdV; rw [hbody, hbe]
      refine ⟨cs, rfl, hcl, ?_⟩
      have := (q3 8 s.length rfl hrj).1
      have hln : (f.take (f.length - 4)).length = f.length - 4 := by simp
      rw [hs, slc_take (by simp), hln] at this
      exact this
set_option maxHeartbeats 4000000 in
theorem xReadCode (f : List UInt8) (S : St) : CallTo Tryz.prog 15 [.str f] S (fun v S' => RdV f 99 15 v ∧ Same S S') (fun _ _ => False) := by
  refine CallTo.of (n := 34) Tryz.func15 rfl rfl ?_
  obtain ⟨U, hU⟩ : ∃ U, U = S.new (.box 35 (zc 15)) := ⟨_, rfl⟩
  have hbU : U.h.find S.next = some (.box 35 (zc 15)) := by rw [hU]; simp [St.new, Tr.find_put]
  have hnU : U.next = S.next + 1 := by rw [hU]; rfl
  have sU : Same S U := by rw [hU]; exact Same.new _ _
  have hhd := xhead f 99 U
  have hbz : buildE Tryz.prog 35 [] = some (.agg (zc 15)) := by kernel_rfl
  obtain ⟨W0, hst0, hpt0, k0⟩ := lay0 (cs := zc 15) (n := 3) hbU rfl rfl rfl
  have bad : ∀ (i : Nat) (e : Int), headV f 99 = .tup [.int .i64 i, .int .i64 e] → e ≠ 0 → rdOut f 99 15 = some (i, e) := by
    intro i e he h0
    unfold headV at he
    unfold rdOut
    split at he
    · rename_i hb
      rw [if_pos hb]
      simp only [V.tup.injEq, List.cons.injEq, V.int.injEq, true_and, and_true] at he
      obtain ⟨h1, h2⟩ := he
      congr 2 <;> omega
    · rename_i hb
      rw [if_neg hb]
      cases ho : outP f 99 with
      | none =>
        rw [ho] at he
        simp only [V.tup.injEq, List.cons.injEq, V.int.injEq, true_and, and_true] at he
        omega
      | some j =>
        rw [ho] at he
        simp only [V.tup.injEq, List.cons.injEq, V.int.injEq, true_and, and_true] at he ⊢
        obtain ⟨h1, h2⟩ := he
        congr 2 <;> omega
  have good : headV f 99 = .tup [.int .i64 0, .int .i64 0] → f.length ≤ 100000 ∧ outP f 99 = none := by
    intro he
    unfold headV at he
    split at he
    · simp only [V.tup.injEq, List.cons.injEq, V.int.injEq, true_and, and_true] at he
      omega
    · rename_i hb
      refine ⟨by omega, ?_⟩
      cases ho : outP f 99 with
      | none => rfl
      | some j =>
        rw [ho] at he
        simp only [V.tup.injEq, List.cons.injEq, V.int.injEq, true_and, and_true] at he
        omega
  obtain ⟨a, e, hhv, hcase⟩ : ∃ (a : Nat) (e : Int), headV f 99 = .tup [.int .i64 a, .int .i64 e] ∧ (e ≠ 0 ∨ (a = 0 ∧ e = 0)) := by
    unfold headV
    split
    · exact ⟨0, 3, rfl, .inl (by omega)⟩
    · cases outP f 99 with
      | none => exact ⟨0, 0, rfl, .inr ⟨rfl, rfl⟩⟩
      | some i => exact ⟨i, 11, rfl, .inl (by omega)⟩
  rw [hhv] at hhd
  rcases hcase with he0 | ⟨rfl, rfl⟩
  · have e1 : intOp .neq .i64 e 0 = some (.bool true) := neq_i (by rw [decide_eq_false he0]; rfl)
    have hout := bad a e hhv he0
    repeat' first
     | refine Opl.val op_alloc rfl (Opl.cast (S' := U) ?_ hU)
     | (refine Opl.callv rfl (by kernel_rfl) hhd rfl (fun W hW => ?_) (fun _ _ hf => hf.elim); subst hW)
     | refine Opl.val (op_int rfl rfl rfl e1) rfl ?_
     | refine Opl.val (op_build0 hbz) rfl ?_
     | refine Opl.eff (op_store rfl rfl hst0) ?_
     | refine Go.condT rfl ?_
     | refine .std ?_ | refine .nil ?_ | refine .seq ?_ | refine .region ?_ | refine .xs ?_ | refine .kb ?_ | refine .leaf ?_ | refine .block ?_ | refine .gn ?_ | refine .dr ?_ | fail
    refine At.fnr rfl rfl (resV3 (i := S.next) rfl (ld_agg hpt0 rfl) rfl rfl) ⟨?_, ?_⟩
    · unfold RdV; rw [hout]; rfl
    · exact Keep2.same sU k0 (Nat.le_refl _) (Nat.le_refl _)
  · obtain ⟨hl5, hout⟩ := good hhv
    have h12 := outP_len hout
    obtain ⟨s, hs⟩ : ∃ s, s = f.take (f.length - 4) := ⟨_, rfl⟩
    have hsl : s.length = f.length - 4 := by rw [hs]; simp
    have hbd := xbody f h12 hl5 U
    rw [← hs] at hbd
    have hG : RGC 42 f.length s (sch 15) 3 true 0 := xcode f.length _
    have hbody := rdOut_body (t := 15) hl5 hout
    rw [← hs] at hbody
    have hsc : lift (scanF (scan s f.length) s (sch 15)) (.ok 8) = scan s (f.length + 1) 15 8 := rfl
    obtain ⟨U1, hU1⟩ : ∃ U1, U1 = U.new (.box 171 (rCells s (.ok 8))) := ⟨_, rfl⟩
    rw [← hU1] at hbd
    have e0 : intOp .neq .i64 0 0 = some (.bool false) := rfl
    have hbd' : CallTo Tryz.prog 38 [.str f] U (fun v S' => v = .ptr U.next 0 ∧ U1 = S') (fun _ _ => False) := hbd.mono (fun v S' h => ⟨h.1, h.2.2.symm⟩) (fun _ _ h => h)
    have hR1 : RSt U1 U.next s (.ok 8) := by
      refine ⟨by rw [hU1]; simp [St.new], by omega, fun i hi => by cases hi; omega, by rw [hU1]; simp [St.new, Tr.find_put]⟩
    repeat' first
     | refine Opl.val op_alloc rfl (Opl.cast (S' := U) ?_ hU)
     | (refine Opl.callv rfl (by kernel_rfl) hhd rfl (fun W hW => ?_) (fun _ _ hf => hf.elim); subst hW)
     | (refine Opl.callv rfl (by kernel_rfl) hbd' rfl (fun W hW => ?_) (fun _ _ hf => hf.elim); subst hW)
     | refine Opl.call rfl (by kernel_rfl) (hG.h hR1 (by simp only [mu]; omega)) rfl (fun v S2 hv => ?_) (fun _ _ hf => hf.elim)
     | refine Opl.val (op_int rfl rfl rfl e0) rfl ?_
     | refine Go.condF rfl ?_
     | refine .std ?_ | refine .nil ?_ | refine .seq ?_ | refine .region ?_ | refine .xs ?_ | refine .kb ?_ | refine .leaf ?_ | refine .block ?_ | refine .gn ?_ | refine .dr ?_ | fail
    obtain ⟨q1, q2, q3, k1⟩ := hv
    rw [hsc] at q1 q3
    obtain ⟨r, hr⟩ : ∃ r, r = scan s (f.length + 1) 15 8 := ⟨_, rfl⟩
    rw [← hr] at q1 q3
    have hvc : V.agg v.cells = v := q2.one
    obtain ⟨cs, hcs⟩ : ∃ cs, cs = v.cells := ⟨_, rfl⟩
    rw [← hcs] at hvc
    subst hvc
    have hcl : cs.length = 3 := q2.len
    have hco : cs.all V.one = true := q2.ones
    obtain ⟨S3, hS3⟩ : ∃ S3, S3 = S2.new (.box 35 (zc 15)) := ⟨_, rfl⟩
    have hb3 : S3.h.find S2.next = some (.box 35 (zc 15)) := by rw [hS3]; simp [St.new, Tr.find_put]
    obtain ⟨S4, hst4, hpt4, k4⟩ := lay0 (cs := cs) (n := 3) hb3 rfl hcl hco
    have n2 := k1.next
    have n1 : U1.next = U.next + 1 := by rw [hU1]; rfl
    have n3 : S3.next = S2.next + 1 := by rw [hS3]; rfl
    have n4 := k4.next
    have hR4 : RSt S4 U.next s r := by
      refine RSt.keep (S := S3) ?_ k4 (by omega)
      rw [hS3]; exact q1.newE _
    obtain ⟨a, e, hend, hcase⟩ : ∃ (a : Nat) (e : Int), endV s r = .tup [.int .i64 a, .int .i64 e] ∧ ((e = 11 ∧ bodyE s (f.length + 1) 15 = some a) ∨ (a = 0 ∧ e = 0 ∧ bodyE s (f.length + 1) 15 = none ∧ r = .ok s.length)) := by
      unfold bodyE
      rw [← hr]
      cases hrr : r with
      | error b => exact ⟨b, 11, rfl, .inl ⟨rfl, rfl⟩⟩
      | ok j =>
        have := hR4.le j hrr
        simp only [endV]
        by_cases hj : j < s.length
        · exact ⟨s.length, 11, by rw [if_pos hj], .inl ⟨rfl, by simp [hj]⟩⟩
        · exact ⟨0, 0, by rw [if_neg hj]; rfl, .inr ⟨rfl, rfl, by simp [hj], by congr 1; omega⟩⟩
    have he5 := xend hR4
    rw [hend] at he5
    have fy : ∀ W, Keep2 S4 W U.next U.next → W.h.find S.next = some (.box 35 (zc 15)) := by
      intro W k
      rw [k.find S.next (by omega) (by omega) (by omega), k4.find S.next (by omega) (by omega) (by omega), hS3]
      simp only [St.new, Tr.find_put, if_neg (show ¬ S.next = S2.next by omega)]
      rw [k1.find S.next (by omega) (by omega) (by omega), hU1]
      simp only [St.new, Tr.find_put, if_neg (show ¬ S.next = U.next by omega)]
      exact hbU
    have same : ∀ W W', Keep2 S4 W U.next U.next → Keep2 W W' S.next S.next → Same S W' := by
      intro W W' k k'
      refine ⟨by have := k.next; have := k'.next; omega, fun id hi => ?_⟩
      have := k.next
      rw [k'.find id (by omega) (by omega) (by omega), k.find id (by omega) (by omega) (by omega), k4.find id (by omega) (by omega) (by omega), hS3]
      simp only [St.new, Tr.find_put, if_neg (show ¬ id = S2.next by omega)]
      rw [k1.find id (by omega) (by omega) (by omega), hU1]
      simp only [St.new, Tr.find_put, if_neg (show ¬ id = U.next by omega)]
      exact sU.find id hi
    repeat' first
     | refine Opl.val op_alloc rfl (Opl.cast (S' := S3) ?_ hS3)
     | refine Opl.eff (op_store rfl rfl hst4) ?_
     | refine Opl.callv rfl (by kernel_rfl) he5 rfl (fun S5 k5 => ?_) (fun _ _ hf => hf.elim)
     | refine Go.holdS 7 ?_
     | refine .std ?_ | refine .nil ?_ | refine .seq ?_ | refine .region ?_ | refine .xs ?_ | refine .kb ?_ | refine .leaf ?_ | refine .block ?_ | refine .gn ?_ | refine .dr ?_ | fail
    refine ⟨?_⟩
    rcases hcase with ⟨rfl, hbe⟩ | ⟨rfl, rfl, hbe, hrj⟩
    · have e1 : intOp .neq .i64 11 0 = some (.bool true) := rfl
      obtain ⟨W6, hst6, hpt6, k6⟩ := lay0 (cs := zc 15) (n := 3) (fy _ k5) rfl rfl rfl
      repeat' first
       | refine Opl.val (op_int rfl rfl rfl e1) rfl ?_
       | refine Opl.val (op_build0 hbz) rfl ?_
       | refine Opl.eff (op_store rfl rfl hst6) ?_
       | refine Go.condT rfl ?_
       | refine .std ?_ | refine .nil ?_ | refine .seq ?_ | refine .region ?_ | refine .xs ?_ | refine .kb ?_ | refine .leaf ?_ | refine .block ?_ | refine .gn ?_ | refine .dr ?_ | fail
      refine At.fnr rfl rfl (resV3 (i := S.next) rfl (ld_agg hpt6 rfl) rfl rfl) ⟨?_, same _ _ k5 k6⟩
      unfold RdV; rw [hbody, hbe]; rfl
    · obtain ⟨W6, hst6, hpt6, k6⟩ := lay0 (cs := cs) (n := 3) (fy _ k5) rfl hcl hco
      have hpt5 : Pt S5 (.ptr S2.next 0) cs := by
        obtain ⟨T, cs', hb', hc'⟩ := hpt4
        exact ⟨T, cs', by rw [k5.find S2.next (by omega) (by omega) (by omega)]; exact hb', hc'⟩
      repeat' first
       | refine Opl.val (op_int rfl rfl rfl e0) rfl ?_
       | refine Opl.val (op_load rfl (ld_agg hpt5 hcl)) rfl ?_
       | refine Opl.eff (op_store rfl rfl hst6) ?_
       | refine Go.condF rfl ?_
       | refine .std ?_ | refine .nil ?_ | refine .seq ?_ | refine .region ?_ | refine .xs ?_ | refine .kb ?_ | refine .leaf ?_ | refine .block ?_ | refine .gn ?_ | refine .dr ?_ | fail
      refine At.fnr rfl rfl (resV3 (i := S.next) rfl (ld_agg hpt6 hcl) rfl rfl) ⟨?_, same _ _ k5 k6⟩
      unfold RdV; rw [hbody, hbe]
      refine ⟨cs, rfl, hcl, ?_⟩
      have := (q3 8 s.length rfl hrj).1
      have hln : (f.take (f.length - 4)).length = f.length - 4 := by simp
      rw [hs, slc_take (by simp), hln] at this
      exact this
set_option maxHeartbeats 4000000 in
theorem xReadState (f : List UInt8) (S : St) : CallTo Tryz.prog 18 [.str f] S (fun v S' => RdV f 115 20 v ∧ Same S S') (fun _ _ => False) := by
  refine CallTo.of (n := 34) Tryz.func18 rfl rfl ?_
  obtain ⟨U, hU⟩ : ∃ U, U = S.new (.box 55 (zc 20)) := ⟨_, rfl⟩
  have hbU : U.h.find S.next = some (.box 55 (zc 20)) := by rw [hU]; simp [St.new, Tr.find_put]
  have hnU : U.next = S.next + 1 := by rw [hU]; rfl
  have sU : Same S U := by rw [hU]; exact Same.new _ _
  have hhd := xhead f 115 U
  have hbz : buildE Tryz.prog 55 [] = some (.agg (zc 20)) := by kernel_rfl
  obtain ⟨W0, hst0, hpt0, k0⟩ := lay0 (cs := zc 20) (n := 10) hbU rfl rfl rfl
  have bad : ∀ (i : Nat) (e : Int), headV f 115 = .tup [.int .i64 i, .int .i64 e] → e ≠ 0 → rdOut f 115 20 = some (i, e) := by
    intro i e he h0
    unfold headV at he
    unfold rdOut
    split at he
    · rename_i hb
      rw [if_pos hb]
      simp only [V.tup.injEq, List.cons.injEq, V.int.injEq, true_and, and_true] at he
      obtain ⟨h1, h2⟩ := he
      congr 2 <;> omega
    · rename_i hb
      rw [if_neg hb]
      cases ho : outP f 115 with
      | none =>
        rw [ho] at he
        simp only [V.tup.injEq, List.cons.injEq, V.int.injEq, true_and, and_true] at he
        omega
      | some j =>
        rw [ho] at he
        simp only [V.tup.injEq, List.cons.injEq, V.int.injEq, true_and, and_true] at he ⊢
        obtain ⟨h1, h2⟩ := he
        congr 2 <;> omega
  have good : headV f 115 = .tup [.int .i64 0, .int .i64 0] → f.length ≤ 100000 ∧ outP f 115 = none := by
    intro he
    unfold headV at he
    split at he
    · simp only [V.tup.injEq, List.cons.injEq, V.int.injEq, true_and, and_true] at he
      omega
    · rename_i hb
      refine ⟨by omega, ?_⟩
      cases ho : outP f 115 with
      | none => rfl
      | some j =>
        rw [ho] at he
        simp only [V.tup.injEq, List.cons.injEq, V.int.injEq, true_and, and_true] at he
        omega
  obtain ⟨a, e, hhv, hcase⟩ : ∃ (a : Nat) (e : Int), headV f 115 = .tup [.int .i64 a, .int .i64 e] ∧ (e ≠ 0 ∨ (a = 0 ∧ e = 0)) := by
    unfold headV
    split
    · exact ⟨0, 3, rfl, .inl (by omega)⟩
    · cases outP f 115 with
      | none => exact ⟨0, 0, rfl, .inr ⟨rfl, rfl⟩⟩
      | some i => exact ⟨i, 11, rfl, .inl (by omega)⟩
  rw [hhv] at hhd
  rcases hcase with he0 | ⟨rfl, rfl⟩
  · have e1 : intOp .neq .i64 e 0 = some (.bool true) := neq_i (by rw [decide_eq_false he0]; rfl)
    have hout := bad a e hhv he0
    repeat' first
     | refine Opl.val op_alloc rfl (Opl.cast (S' := U) ?_ hU)
     | (refine Opl.callv rfl (by kernel_rfl) hhd rfl (fun W hW => ?_) (fun _ _ hf => hf.elim); subst hW)
     | refine Opl.val (op_int rfl rfl rfl e1) rfl ?_
     | refine Opl.val (op_build0 hbz) rfl ?_
     | refine Opl.eff (op_store rfl rfl hst0) ?_
     | refine Go.condT rfl ?_
     | refine .std ?_ | refine .nil ?_ | refine .seq ?_ | refine .region ?_ | refine .xs ?_ | refine .kb ?_ | refine .leaf ?_ | refine .block ?_ | refine .gn ?_ | refine .dr ?_ | fail
    refine At.fnr rfl rfl (resV3 (i := S.next) rfl (ld_agg hpt0 rfl) rfl rfl) ⟨?_, ?_⟩
    · unfold RdV; rw [hout]; rfl
    · exact Keep2.same sU k0 (Nat.le_refl _) (Nat.le_refl _)
  · obtain ⟨hl5, hout⟩ := good hhv
    have h12 := outP_len hout
    obtain ⟨s, hs⟩ : ∃ s, s = f.take (f.length - 4) := ⟨_, rfl⟩
    have hsl : s.length = f.length - 4 := by rw [hs]; simp
    have hbd := xbody f h12 hl5 U
    rw [← hs] at hbd
    have hG : RGC 45 f.length s (sch 20) 10 true 0 := (show f.length - 1 + 1 = f.length by omega) ▸ xstate (f.length - 1) _
    have hbody := rdOut_body (t := 20) hl5 hout
    rw [← hs] at hbody
    have hsc : lift (scanF (scan s f.length) s (sch 20)) (.ok 8) = scan s (f.length + 1) 20 8 := rfl
    obtain ⟨U1, hU1⟩ : ∃ U1, U1 = U.new (.box 171 (rCells s (.ok 8))) := ⟨_, rfl⟩
    rw [← hU1] at hbd
    have e0 : intOp .neq .i64 0 0 = some (.bool false) := rfl
    have hbd' : CallTo Tryz.prog 38 [.str f] U (fun v S' => v = .ptr U.next 0 ∧ U1 = S') (fun _ _ => False) := hbd.mono (fun v S' h => ⟨h.1, h.2.2.symm⟩) (fun _ _ h => h)
    have hR1 : RSt U1 U.next s (.ok 8) := by
      refine ⟨by rw [hU1]; simp [St.new], by omega, fun i hi => by cases hi; omega, by rw [hU1]; simp [St.new, Tr.find_put]⟩
    repeat' first
     | refine Opl.val op_alloc rfl (Opl.cast (S' := U) ?_ hU)
     | (refine Opl.callv rfl (by kernel_rfl) hhd rfl (fun W hW => ?_) (fun _ _ hf => hf.elim); subst hW)
     | (refine Opl.callv rfl (by kernel_rfl) hbd' rfl (fun W hW => ?_) (fun _ _ hf => hf.elim); subst hW)
     | refine Opl.call rfl (by kernel_rfl) (hG.h hR1 (by simp only [mu]; omega)) rfl (fun v S2 hv => ?_) (fun _ _ hf => hf.elim)
     | refine Opl.val (op_int rfl rfl rfl e0) rfl ?_
     | refine Go.condF rfl ?_
     | refine .std ?_ | refine .nil ?_ | refine .seq ?_ | refine .region ?_ | refine .xs ?_ | refine .kb ?_ | refine .leaf ?_ | refine .block ?_ | refine .gn ?_ | refine .dr ?_ | fail
    obtain ⟨q1, q2, q3, k1⟩ := hv
    rw [hsc] at q1 q3
    obtain ⟨r, hr⟩ : ∃ r, r = scan s (f.length + 1) 20 8 := ⟨_, rfl⟩
    rw [← hr] at q1 q3
    have hvc : V.agg v.cells = v := q2.one
    obtain ⟨cs, hcs⟩ : ∃ cs, cs = v.cells := ⟨_, rfl⟩
    rw [← hcs] at hvc
    subst hvc
    have hcl : cs.length = 10 := q2.len
    have hco : cs.all V.one = true := q2.ones
    obtain ⟨S3, hS3⟩ : ∃ S3, S3 = S2.new (.box 55 (zc 20)) := ⟨_, rfl⟩
    have hb3 : S3.h.find S2.next = some (.box 55 (zc 20)) := by rw [hS3]; simp [St.new, Tr.find_put]
    obtain ⟨S4, hst4, hpt4, k4⟩ := lay0 (cs := cs) (n := 10) hb3 rfl hcl hco
    have n2 := k1.next
    have n1 : U1.next = U.next + 1 := by rw [hU1]; rfl
    have n3 : S3.next = S2.next + 1 := by rw [hS3]; rfl
    have n4 := k4.next
    have hR4 : RSt S4 U.next s r := by
      refine RSt.keep (S := S3) ?_ k4 (by omega)
      rw [hS3]; exact q1.newE _
    obtain ⟨a, e, hend, hcase⟩ : ∃ (a : Nat) (e : Int), endV s r = .tup [.int .i64 a, .int .i64 e] ∧ ((e = 11 ∧ bodyE s (f.length + 1) 20 = some a) ∨ (a = 0 ∧ e = 0 ∧ bodyE s (f.length + 1) 20 = none ∧ r = .ok s.length)) := by
      unfold bodyE
      rw [← hr]
      cases hrr : r with
      | error b => exact ⟨b, 11, rfl, .inl ⟨rfl, rfl⟩⟩
      | ok j =>
        have := hR4.le j hrr
        simp only [endV]
        by_cases hj : j < s.length
        · exact ⟨s.length, 11, by rw [if_pos hj], .inl ⟨rfl, by simp [hj]⟩⟩
        · exact ⟨0, 0, by rw [if_neg hj]; rfl, .inr ⟨rfl, rfl, by simp [hj], by congr 1; omega⟩⟩
    have he5 := xend hR4
    rw [hend] at he5
    have fy : ∀ W, Keep2 S4 W U.next U.next → W.h.find S.next = some (.box 55 (zc 20)) := by
      intro W k
      rw [k.find S.next (by omega) (by omega) (by omega), k4.find S.next (by omega) (by omega) (by omega), hS3]
      simp only [St.new, Tr.find_put, if_neg (show ¬ S.next = S2.next by omega)]
      rw [k1.find S.next (by omega) (by omega) (by omega), hU1]
      simp only [St.new, Tr.find_put, if_neg (show ¬ S.next = U.next by omega)]
      exact hbU
    have same : ∀ W W', Keep2 S4 W U.next U.next → Keep2 W W' S.next S.next → Same S W' := by
      intro W W' k k'
      refine ⟨by have := k.next; have := k'.next; omega, fun id hi => ?_⟩
      have := k.next
      rw [k'.find id (by omega) (by omega) (by omega), k.find id (by omega) (by omega) (by omega), k4.find id (by omega) (by omega) (by omega), hS3]
      simp only [St.new, Tr.find_put, if_neg (show ¬ id = S2.next by omega)]
      rw [k1.find id (by omega) (by omega) (by omega), hU1]
      simp only [St.new, Tr.find_put, if_neg (show ¬ id = U.next by omega)]
      exact sU.find id hi
    repeat' first
     | refine Opl.val op_alloc rfl (Opl.cast (S' := S3) ?_ hS3)
     | refine Opl.eff (op_store rfl rfl hst4) ?_
     | refine Opl.callv rfl (by kernel_rfl) he5 rfl (fun S5 k5 => ?_) (fun _ _ hf => hf.elim)
     | refine Go.holdS 7 ?_
     | refine .std ?_ | refine .nil ?_ | refine .seq ?_ | refine .region ?_ | refine .xs ?_ | refine .kb ?_ | refine .leaf ?_ | refine .block ?_ | refine .gn ?_ | refine .dr ?_ | fail
    refine ⟨?_⟩
    rcases hcase with ⟨rfl, hbe⟩ | ⟨rfl, rfl, hbe, hrj⟩
    · have e1 : intOp .neq .i64 11 0 = some (.bool true) := rfl
      obtain ⟨W6, hst6, hpt6, k6⟩ := lay0 (cs := zc 20) (n := 10) (fy _ k5) rfl rfl rfl
      repeat' first
       | refine Opl.val (op_int rfl rfl rfl e1) rfl ?_
       | refine Opl.val (op_build0 hbz) rfl ?_
       | refine Opl.eff (op_store rfl rfl hst6) ?_
       | refine Go.condT rfl ?_
       | refine .std ?_ | refine .nil ?_ | refine .seq ?_ | refine .region ?_ | refine .xs ?_ | refine .kb ?_ | refine .leaf ?_ | refine .block ?_ | refine .gn ?_ | refine .dr ?_ | fail
      refine At.fnr rfl rfl (resV3 (i := S.next) rfl (ld_agg hpt6 rfl) rfl rfl) ⟨?_, same _ _ k5 k6⟩
      unfold RdV; rw [hbody, hbe]; rfl
    · obtain ⟨W6, hst6, hpt6, k6⟩ := lay0 (cs := cs) (n := 10) (fy _ k5) rfl hcl hco
      have hpt5 : Pt S5 (.ptr S2.next 0) cs := by
        obtain ⟨T, cs', hb', hc'⟩ := hpt4
        exact ⟨T, cs', by rw [k5.find S2.next (by omega) (by omega) (by omega)]; exact hb', hc'⟩
      repeat' first
       | refine Opl.val (op_int rfl rfl rfl e0) rfl ?_
       | refine Opl.val (op_load rfl (ld_agg hpt5 hcl)) rfl ?_
       | refine Opl.eff (op_store rfl rfl hst6) ?_
       | refine Go.condF rfl ?_
       | refine .std ?_ | refine .nil ?_ | refine .seq ?_ | refine .region ?_ | refine .xs ?_ | refine .kb ?_ | refine .leaf ?_ | refine .block ?_ | refine .gn ?_ | refine .dr ?_ | fail
      refine At.fnr rfl rfl (resV3 (i := S.next) rfl (ld_agg hpt6 hcl) rfl rfl) ⟨?_, same _ _ k5 k6⟩
      unfold RdV; rw [hbody, hbe]
      refine ⟨cs, rfl, hcl, ?_⟩
      have := (q3 8 s.length rfl hrj).1
      have hln : (f.take (f.length - 4)).length = f.length - 4 := by simp
      rw [hs, slc_take (by simp), hln] at this
      exact this
end Go.Proofs.YtilldjgagokcfaaGreat
