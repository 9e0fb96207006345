import Derived.Test.YtilldjgagokcfaaGreatXA
import Derived.Test.YtilldjgagokcfaaGreatM3
set_option linter.unusedVariables false
set_option linter.unusedSimpArgs false
namespace Go.Proofs.YtilldjgagokcfaaGreat
open Go.RowKit Go.Ev
set_option maxRecDepth 100000
set_option linter.unusedVariables false
theorem zI : Enc [.int] [.int .i64 0] (encI 0) := Enc.int (by constructor <;> omega)
theorem zS : Enc [.str] [.str []] (encS []) := Enc.str (by simp)
theorem zB : Enc [.bool] [.bool false] (encB false) := Enc.bool false
theorem zL (t : Nat) : Enc [.list t] [.nils] (encI ((0 : Nat) : Nat) ++ []) := Enc.list (t := t) (v := .nils) (.inl rfl) (by simp [elems]) (EncE.nil t)
theorem zE : ∃ bs, Enc (sch 11) (zc 11) bs ∧ bs.length ≤ 100 := ⟨_, (((((zI.app zI).app zS).app zS).app (zL 1)).app (zL 11)).app (zL 12), of_decide_eq_true (by kernel_rfl)⟩
theorem zO : ∃ bs, Enc (sch 19) (zc 19) bs ∧ bs.length ≤ 100 := ⟨_, ((((zI.app zS).app (zL 18)).app zI).app zI).app zI, of_decide_eq_true (by kernel_rfl)⟩
theorem z14 : ∃ bs, Enc (sch 14) (zc 14) bs ∧ bs.length ≤ most := by
  obtain ⟨b, hb, hl⟩ := zE
  obtain ⟨a, ha, hk⟩ : ∃ bs, Enc ([.list 7] ++ [.list 9] ++ [.list 13]) ([.nils] ++ [.nils] ++ [.nils]) bs ∧ bs.length ≤ 100 := ⟨_, ((zL 7).app (zL 9)).app (zL 13), of_decide_eq_true (by kernel_rfl)⟩
  exact ⟨a ++ b, ha.app (Enc.sub (t := 11) hb rfl), by rw [List.length_append]; unfold most; omega⟩
theorem z15 : ∃ bs, Enc (sch 15) (zc 15) bs ∧ bs.length ≤ most := ⟨_, ((zL 7).app (zL 9)).app (zL 16), of_decide_eq_true (by kernel_rfl)⟩
theorem z20 : ∃ bs, Enc (sch 20) (zc 20) bs ∧ bs.length ≤ most := by
  obtain ⟨b, hb, hl⟩ := zO
  obtain ⟨a, ha, hk⟩ : ∃ bs, Enc ([.list 3] ++ [.list 0] ++ [.int]) ([.nils] ++ [.nils] ++ [.int .i64 0]) bs ∧ bs.length ≤ 100 := ⟨_, ((zL 3).app (zL 0)).app zI, of_decide_eq_true (by kernel_rfl)⟩
  obtain ⟨c, hc, hm⟩ : ∃ bs, Enc [.bool] [.bool false] bs ∧ bs.length ≤ 100 := ⟨_, zB, of_decide_eq_true (by kernel_rfl)⟩
  exact ⟨(a ++ b) ++ c, (ha.app (Enc.sub (t := 19) hb rfl)).app hc, by rw [List.length_append, List.length_append]; unfold most; omega⟩
theorem z2 : ∃ bs, Enc (sch 2) (zc 2) bs ∧ bs.length ≤ most := ⟨_, (((zI.app zI).app zS).app (zL 2)).app (zL 3), of_decide_eq_true (by kernel_rfl)⟩
theorem pair {f : List UInt8} {k : UInt8} {t i1 i2 : Nat} {e1 e2 : Int} {cs1 cs2 : List V} (hz : ∃ bs, Enc (sch t) (zc t) bs ∧ bs.length ≤ most) (h1 : RdV f k t (.tup [.agg cs1, .int .i64 i1, .int .i64 e1])) (h2 : RdV f k t (.tup [.agg cs2, .int .i64 i2, .int .i64 e2])) :
    i1 = i2 ∧ e1 = e2 ∧ ∃ bs d1 d2, EncF d1 (sch t) cs1 bs ∧ EncF d2 (sch t) cs2 bs ∧ bs.length ≤ most := by
  unfold RdV at h1 h2
  cases hr : rdOut f k t with
  | some r =>
    rw [hr] at h1 h2
    simp only [V.tup.injEq, List.cons.injEq, V.agg.injEq, V.int.injEq, true_and, and_true] at h1 h2
    obtain ⟨rfl, a1, a2⟩ := h1
    obtain ⟨rfl, b1, b2⟩ := h2
    obtain ⟨bs, ⟨d, hd⟩, hb⟩ := hz
    exact ⟨by omega, by omega, bs, d, d, hd, hd, hb⟩
  | none =>
    rw [hr] at h1 h2
    obtain ⟨c1, a1, _, d1, a2⟩ := h1
    obtain ⟨c2, b1, _, d2, b2⟩ := h2
    simp only [V.tup.injEq, List.cons.injEq, V.agg.injEq, V.int.injEq, true_and, and_true] at a1 b1
    obtain ⟨rfl, x1, x2⟩ := a1
    obtain ⟨rfl, y1, y2⟩ := b1
    have hl : f.length ≤ 100000 := by
      unfold rdOut at hr
      split at hr
      · cases hr
      · omega
    refine ⟨by omega, by omega, _, d1, d2, a2, b2, ?_⟩
    have : (slc f 8 (f.length - 4)).length ≤ f.length := by simp [slc]; omega
    unfold most; omega
theorem layR {T : TypeId} {n : Nat} {z cs : List V} (U : St) (hz : z.length = n) (hl : cs.length = n) (ho : cs.all V.one = true) [hs : SzN Tryz.prog T n] : ∃ W : St, storeE Tryz.prog T (.ptr U.next 0) (.agg cs) (U.new (.box T z)) = some W ∧ Pt W (.ptr U.next 0) cs ∧ Same U W ∧ U.next < W.next := by
  obtain ⟨W, h1, h2, h3⟩ := lay0 (S1 := U.new (.box T z)) (y := U.next) (T := T) (z := z) (cs := cs) (by simp [St.new, Tr.find_put]) hz hl ho
  have hn := h3.next
  simp only [St.new] at hn
  exact ⟨W, h1, h2, Keep2.same (Same.new _ _) h3 (Nat.le_refl _) (Nat.le_refl _), by omega⟩
theorem Pt.same {W W' : St} {i : Nat} {cs : List V} (h : Pt W (.ptr i 0) cs) (hi : i < W.next) (s : Same W W') : Pt W' (.ptr i 0) cs := by
  obtain ⟨T, cs', hb, hc⟩ := h
  exact ⟨T, cs', by rw [s.find i hi]; exact hb, hc⟩
set_option maxHeartbeats 8000000 in
theorem reads (f : List UInt8) (S : St) : CallTo Tryz.prog 4 [.str f] S (fun v _ => v = .bool true) (fun _ _ => False) := by
  refine CallTo.of (n := 121) Tryz.func4 rfl rfl ?_
  repeat' first
   | refine Opl.call rfl (by kernel_rfl) (ReadProgram f _) rfl (fun v1 U1 h1 => ?_) (fun _ _ hf => hf.elim)
   | refine .std ?_ | refine .nil ?_ | refine .seq ?_ | refine .region ?_ | refine .xs ?_ | refine .kb ?_ | refine .leaf ?_ | refine .block ?_ | refine .gn ?_ | refine .dr ?_ | fail
  obtain ⟨hv1, s1⟩ := h1
  obtain ⟨cs1, i1, e1, rfl, hcl1, hco1⟩ := hv1.shape
  obtain ⟨W1, hst1, hb1, t1, n1⟩ := layR (T := 32) (n := 10) (z := zc 14) U1 rfl hcl1 hco1
  repeat' first
   | refine Opl.val op_alloc rfl ?_
   | refine Opl.eff (op_store rfl rfl hst1) ?_
   | refine Opl.call rfl (by kernel_rfl) (xReadProgram f _) rfl (fun v2 U2 h2 => ?_) (fun _ _ hf => hf.elim)
   | refine .std ?_ | refine .nil ?_ | refine .seq ?_ | refine .region ?_ | refine .xs ?_ | refine .kb ?_ | refine .leaf ?_ | refine .block ?_ | refine .gn ?_ | refine .dr ?_ | fail
  obtain ⟨hv2, s2⟩ := h2
  obtain ⟨cs2, i2, e2, rfl, hcl2, hco2⟩ := hv2.shape
  obtain ⟨rfl, rfl, bs, d1, d2, he1, he2, hbl⟩ := pair z14 hv1 hv2
  obtain ⟨W2, hst2, hb2, t2, n2⟩ := layR (T := 32) (n := 10) (z := zc 14) U2 rfl hcl2 hco2
  have ldA : loadE Tryz.prog 32 (.ptr U1.next 0) W2 = some (.agg cs1) := ld_agg (Pt.same (Pt.same hb1 n1 s2) (Nat.lt_of_lt_of_le n1 s2.next) t2) hcl1
  have ldB : loadE Tryz.prog 32 (.ptr U2.next 0) W2 = some (.agg cs2) := ld_agg hb2 hcl2
  repeat' first
   | refine Opl.val op_alloc rfl ?_
   | refine Opl.eff (op_store rfl rfl hst2) ?_
   | refine op_gyes rfl ?_ rfl
   | refine Opl.val (op_int rfl rfl rfl (int_neq _)) rfl ?_
   | refine Opl.val (op_load rfl ldA) rfl ?_
   | refine Opl.val (op_load rfl ldB) rfl ?_
   | refine Opl.callv rfl (by kernel_rfl) (sameProgram he1 he2 hbl W2) rfl (fun W3 h3 => ?_) (fun _ _ hf => hf.elim)
   | refine Go.condF rfl ?_
   | refine Opl.call rfl (by kernel_rfl) (ReadCode f _) rfl (fun v1 U1 h1 => ?_) (fun _ _ hf => hf.elim)
   | refine .std ?_ | refine .nil ?_ | refine .seq ?_ | refine .region ?_ | refine .xs ?_ | refine .kb ?_ | refine .leaf ?_ | refine .block ?_ | refine .gn ?_ | refine .dr ?_ | fail
  clear hv1 hv2 he1 he2 hb1 hb2 hst1 hst2 ldA ldB s1 s2 t1 t2 n1 n2 hcl1 hcl2 hco1 hco2 hbl h3
  obtain ⟨hv1, s1⟩ := h1
  obtain ⟨cs1, i1, e1, rfl, hcl1, hco1⟩ := hv1.shape
  obtain ⟨W1, hst1, hb1, t1, n1⟩ := layR (T := 35) (n := 3) (z := zc 15) U1 rfl hcl1 hco1
  repeat' first
   | refine Opl.val op_alloc rfl ?_
   | refine Opl.eff (op_store rfl rfl hst1) ?_
   | refine Opl.call rfl (by kernel_rfl) (xReadCode f _) rfl (fun v2 U2 h2 => ?_) (fun _ _ hf => hf.elim)
   | refine .std ?_ | refine .nil ?_ | refine .seq ?_ | refine .region ?_ | refine .xs ?_ | refine .kb ?_ | refine .leaf ?_ | refine .block ?_ | refine .gn ?_ | refine .dr ?_ | fail
  obtain ⟨hv2, s2⟩ := h2
  obtain ⟨cs2, i2, e2, rfl, hcl2, hco2⟩ := hv2.shape
  obtain ⟨rfl, rfl, bs, d1, d2, he1, he2, hbl⟩ := pair z15 hv1 hv2
  obtain ⟨W2, hst2, hb2, t2, n2⟩ := layR (T := 35) (n := 3) (z := zc 15) U2 rfl hcl2 hco2
  have ldA : loadE Tryz.prog 35 (.ptr U1.next 0) W2 = some (.agg cs1) := ld_agg (Pt.same (Pt.same hb1 n1 s2) (Nat.lt_of_lt_of_le n1 s2.next) t2) hcl1
  have ldB : loadE Tryz.prog 35 (.ptr U2.next 0) W2 = some (.agg cs2) := ld_agg hb2 hcl2
  repeat' first
   | refine Opl.val op_alloc rfl ?_
   | refine Opl.eff (op_store rfl rfl hst2) ?_
   | refine op_gyes rfl ?_ rfl
   | refine Opl.val (op_int rfl rfl rfl (int_neq _)) rfl ?_
   | refine Opl.val (op_load rfl ldA) rfl ?_
   | refine Opl.val (op_load rfl ldB) rfl ?_
   | refine Opl.callv rfl (by kernel_rfl) (sameCode he1 he2 hbl W2) rfl (fun W3 h3 => ?_) (fun _ _ hf => hf.elim)
   | refine Go.condF rfl ?_
   | refine Opl.call rfl (by kernel_rfl) (ReadState f _) rfl (fun v1 U1 h1 => ?_) (fun _ _ hf => hf.elim)
   | refine .std ?_ | refine .nil ?_ | refine .seq ?_ | refine .region ?_ | refine .xs ?_ | refine .kb ?_ | refine .leaf ?_ | refine .block ?_ | refine .gn ?_ | refine .dr ?_ | fail
  clear hv1 hv2 he1 he2 hb1 hb2 hst1 hst2 ldA ldB s1 s2 t1 t2 n1 n2 hcl1 hcl2 hco1 hco2 hbl h3
  obtain ⟨hv1, s1⟩ := h1
  obtain ⟨cs1, i1, e1, rfl, hcl1, hco1⟩ := hv1.shape
  obtain ⟨W1, hst1, hb1, t1, n1⟩ := layR (T := 55) (n := 10) (z := zc 20) U1 rfl hcl1 hco1
  repeat' first
   | refine Opl.val op_alloc rfl ?_
   | refine Opl.eff (op_store rfl rfl hst1) ?_
   | refine Opl.call rfl (by kernel_rfl) (xReadState f _) rfl (fun v2 U2 h2 => ?_) (fun _ _ hf => hf.elim)
   | refine .std ?_ | refine .nil ?_ | refine .seq ?_ | refine .region ?_ | refine .xs ?_ | refine .kb ?_ | refine .leaf ?_ | refine .block ?_ | refine .gn ?_ | refine .dr ?_ | fail
  obtain ⟨hv2, s2⟩ := h2
  obtain ⟨cs2, i2, e2, rfl, hcl2, hco2⟩ := hv2.shape
  obtain ⟨rfl, rfl, bs, d1, d2, he1, he2, hbl⟩ := pair z20 hv1 hv2
  obtain ⟨W2, hst2, hb2, t2, n2⟩ := layR (T := 55) (n := 10) (z := zc 20) U2 rfl hcl2 hco2
  have ldA : loadE Tryz.prog 55 (.ptr U1.next 0) W2 = some (.agg cs1) := ld_agg (Pt.same (Pt.same hb1 n1 s2) (Nat.lt_of_lt_of_le n1 s2.next) t2) hcl1
  have ldB : loadE Tryz.prog 55 (.ptr U2.next 0) W2 = some (.agg cs2) := ld_agg hb2 hcl2
  repeat' first
   | refine Opl.val op_alloc rfl ?_
   | refine Opl.eff (op_store rfl rfl hst2) ?_
   | refine op_gyes rfl ?_ rfl
   | refine Opl.val (op_int rfl rfl rfl (int_neq _)) rfl ?_
   | refine Opl.val (op_load rfl ldA) rfl ?_
   | refine Opl.val (op_load rfl ldB) rfl ?_
   | refine Opl.callv rfl (by kernel_rfl) (sameState he1 he2 hbl W2) rfl (fun W3 h3 => ?_) (fun _ _ hf => hf.elim)
   | refine Go.condF rfl ?_
   | refine Opl.call rfl (by kernel_rfl) (ReadValue f _) rfl (fun v1 U1 h1 => ?_) (fun _ _ hf => hf.elim)
   | refine .std ?_ | refine .nil ?_ | refine .seq ?_ | refine .region ?_ | refine .xs ?_ | refine .kb ?_ | refine .leaf ?_ | refine .block ?_ | refine .gn ?_ | refine .dr ?_ | fail
  clear hv1 hv2 he1 he2 hb1 hb2 hst1 hst2 ldA ldB s1 s2 t1 t2 n1 n2 hcl1 hcl2 hco1 hco2 hbl h3
  obtain ⟨hv1, s1⟩ := h1
  obtain ⟨cs1, i1, e1, rfl, hcl1, hco1⟩ := hv1.shape
  obtain ⟨W1, hst1, hb1, t1, n1⟩ := layR (T := 62) (n := 5) (z := zc 2) U1 rfl hcl1 hco1
  repeat' first
   | refine Opl.val op_alloc rfl ?_
   | refine Opl.eff (op_store rfl rfl hst1) ?_
   | refine Opl.call rfl (by kernel_rfl) (xReadValue f _) rfl (fun v2 U2 h2 => ?_) (fun _ _ hf => hf.elim)
   | refine .std ?_ | refine .nil ?_ | refine .seq ?_ | refine .region ?_ | refine .xs ?_ | refine .kb ?_ | refine .leaf ?_ | refine .block ?_ | refine .gn ?_ | refine .dr ?_ | fail
  obtain ⟨hv2, s2⟩ := h2
  obtain ⟨cs2, i2, e2, rfl, hcl2, hco2⟩ := hv2.shape
  obtain ⟨rfl, rfl, bs, d1, d2, he1, he2, hbl⟩ := pair z2 hv1 hv2
  obtain ⟨W2, hst2, hb2, t2, n2⟩ := layR (T := 62) (n := 5) (z := zc 2) U2 rfl hcl2 hco2
  have ldA : loadE Tryz.prog 62 (.ptr U1.next 0) W2 = some (.agg cs1) := ld_agg (Pt.same (Pt.same hb1 n1 s2) (Nat.lt_of_lt_of_le n1 s2.next) t2) hcl1
  have ldB : loadE Tryz.prog 62 (.ptr U2.next 0) W2 = some (.agg cs2) := ld_agg hb2 hcl2
  repeat' first
   | refine Opl.val op_alloc rfl ?_
   | refine Opl.eff (op_store rfl rfl hst2) ?_
   | refine op_gyes rfl ?_ rfl
   | refine Opl.val (op_int rfl rfl rfl (int_eql _)) rfl ?_
   | refine Opl.val (op_load rfl ldA) rfl ?_
   | refine Opl.val (op_load rfl ldB) rfl ?_
   | refine Opl.callv rfl (by kernel_rfl) (sameValue he1 he2 hbl W2) rfl (fun W3 h3 => ?_) (fun _ _ hf => hf.elim)
   | refine Go.condF rfl ?_
   | refine Opl.callr rfl (by kernel_rfl) (lim_closed awakeT _) rfl ?_
   | refine .std ?_ | refine .nil ?_ | refine .seq ?_ | refine .region ?_ | refine .xs ?_ | refine .kb ?_ | refine .leaf ?_ | refine .block ?_ | refine .gn ?_ | refine .dr ?_ | fail
  exact At.fnr rfl rfl rfl rfl
end Go.Proofs.YtilldjgagokcfaaGreat
