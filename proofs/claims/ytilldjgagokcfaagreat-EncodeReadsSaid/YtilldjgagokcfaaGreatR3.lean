import Derived.Test.YtilldjgagokcfaaGreatR2
import Derived.Test.YtilldjgagokcfaaGreatE9
set_option linter.unusedVariables false
set_option linter.unusedSimpArgs false
namespace Go.Ev
open Go.RowKit
theorem one_ok {i : Nat} (h : i < 9223372036854775807) : intOp .add .i64 (i : Int) 1 = some (.int .i64 ((i + 1 : Nat) : Int)) := inc_ok h
end Go.Ev
namespace Go.Proofs.YtilldjgagokcfaaGreat
open Go.RowKit Go.Ev
set_option maxRecDepth 100000
set_option linter.unusedVariables false
theorem RQ.stop {S S' : St} {c : Nat} {buf b1 b2 buf1 : List UInt8} (k : KeepB S S' c) (h : RefW S' c buf1) (hl : buf1.length ≤ buf.length + b1.length) (hf : 100000 < buf1.length) : RQ S c buf (b1 ++ b2) S' :=
  ⟨k, buf1, h, by simp; omega, .inr hf⟩
structure RAll (d : Nat) : Prop where
  value : ∀ {S : St} {c : Nat} {cs : List V} {bs : List UInt8}, EncF d (sch 2) cs bs → RC 108 [.ptr c 0, .agg cs] S c bs
  values : ∀ {S : St} {c : Nat} {v : V} {bl : List UInt8}, isLn 5 v → (elems v).length < 4611686018427387904 → EncL d 2 (elems v) bl → RC 143 [.ptr c 0, v] S c (encI ((elems v).length : Nat) ++ bl)
  segments : ∀ {S : St} {c : Nat} {v : V} {bl : List UInt8}, isLn 5 v → (elems v).length < 4611686018427387904 → EncL d 3 (elems v) bl → RC 141 [.ptr c 0, v] S c (encI ((elems v).length : Nat) ++ bl)
theorem rvalues {d : Nat} (IH : ∀ {S : St} {c : Nat} {cs : List V} {bs : List UInt8}, EncF d (sch 2) cs bs → RC 108 [.ptr c 0, .agg cs] S c bs) {S : St} {c : Nat} {v : V} {bl : List UInt8} (hv : isLn 5 v) (hlen : (elems v).length < 4611686018427387904) (he : EncL d 2 (elems v) bl) :
    RC 143 [.ptr c 0, v] S c (encI ((elems v).length : Nat) ++ bl) := by
  intro buf h hB
  have w0 : RQ S c buf [] S := ⟨KeepB.refl _ _, buf, h, by simp, .inl (by simp)⟩
  have hB0 := hB
  simp only [List.length_append] at hB
  refine CallTo.of (n := 26) Tryz.func143 rfl rfl ?_
  repeat' first
   | refine Opl.val (op_lenL rfl hv.isL rfl) rfl ?_
   | refine Opl.callR w0 rfl (by kernel_rfl) (rnumber ((elems v).length : Nat) (by constructor <;> omega)) (by simp; omega) rfl (fun S1 w1 k1 _ => ?_)
   | refine .std ?_ | refine .nil ?_ | refine .seq ?_ | refine .region ?_ | refine .xs ?_ | refine .kb ?_ | refine .leaf ?_ | refine .block ?_ | refine .gn ?_ | refine .dr ?_ | fail
  refine Go.weaken (E' := [(0, .ptr c 0), (1, v), (4, .int .i64 (0 : Nat))]) ?_ ⟨rfl, rfl, rfl, trivial⟩
  refine Go.loop_ind (α := Nat) (fun i => (elems v).length - i) (fun i E S' => E = [(0, .ptr c 0), (1, v), (4, .int .i64 i)] ∧ i ≤ (elems v).length ∧ ∃ b1 b2, bl = b1 ++ b2 ∧ EncL d 2 ((elems v).drop i) b2 ∧
    RQ S c buf (encI ((elems v).length : Nat) ++ b1) S') ?_ 0 _ _ ⟨rfl, Nat.zero_le _, [], bl, rfl, he, by simpa using w1⟩
  rintro i E S2 ⟨rfl, hi, b1, b2, hb, hd, w2⟩ IHl
  have w2' := w2
  obtain ⟨k2, buf2, h2, hl2, ho2⟩ := w2'
  by_cases hq : i < (elems v).length
  · by_cases hf : 100000 < buf2.length
    · have hfull : lim Tryz.prog (.call 69 [.ptr c 0]) S2 = some (.ret (.bool true) S2) := by rw [h2.full, decide_eq_true hf]
      repeat' first
       | refine Opl.val (op_lenL rfl hv.isL rfl) rfl ?_
       | refine Opl.val (op_int rfl rfl rfl (lss_yes hq)) rfl ?_
       | refine Opl.gon (q := true) rfl rfl (fun _ => ?_) (fun h => by cases h)
       | refine Opl.callr rfl (by kernel_rfl) hfull rfl ?_
       | refine Go.condF rfl ?_
       | refine .std ?_ | refine .nil ?_ | refine .seq ?_ | refine .region ?_ | refine .xs ?_ | refine .kb ?_ | refine .leaf ?_ | refine .block ?_ | refine .gn ?_ | refine .dr ?_ | fail
      refine At.fn rfl rfl rfl ?_
      rw [hb, ← List.append_assoc]
      exact RQ.stop k2 h2 hl2 hf
    · have hfull : lim Tryz.prog (.call 69 [.ptr c 0]) S2 = some (.ret (.bool false) S2) := by rw [h2.full, decide_eq_false hf]
      obtain ⟨be, b3, hb3, hel, hrest⟩ := hd.drop (List.drop_eq_getElem_cons hq)
      have hix : (elems v)[i]? = some (elems v)[i] := List.getElem?_eq_getElem hq
      obtain ⟨lt, tk, hvl⟩ := hv.el hix
      have hel' : loadE Tryz.prog 62 (.cptr none (elems v)[i].cells 0) S2 = some (.agg (elems v)[i].cells) := ld_agg (Pt.cptr _ _ _) (by simpa [sch] using hel.len)
      have hBe : buf.length + (encI ((elems v).length : Nat) ++ b1 ++ be).length ≤ most := by rw [hb, hb3] at hB0; simp at hB0 ⊢; omega
      repeat' first
       | refine Opl.val (op_lenL rfl hv.isL rfl) rfl ?_
       | refine Opl.val (op_int rfl rfl rfl (lss_yes hq)) rfl ?_
       | refine Opl.gon (q := true) rfl rfl (fun _ => ?_) (fun h => by cases h)
       | refine Opl.callr rfl (by kernel_rfl) hfull rfl ?_
       | refine Go.condT rfl ?_
       | refine Opl.val (op_ixaL (by exact (congrArg some hvl)) rfl hix) rfl ?_
       | refine Opl.val (op_load rfl hel') rfl ?_
       | refine Opl.callR w2 rfl (by kernel_rfl) (IH hel) hBe rfl (fun S3 w3 k3 _ => ?_)
       | refine Opl.val (op_int rfl rfl rfl (inc_ok (i := i) (by omega))) rfl ?_
       | refine .std ?_ | refine .nil ?_ | refine .seq ?_ | refine .region ?_ | refine .xs ?_ | refine .kb ?_ | refine .leaf ?_ | refine .block ?_ | refine .gn ?_ | refine .dr ?_ | fail
      exact (IHl (i + 1) _ S3 (by omega) ⟨rfl, by omega, b1 ++ be, b3, by rw [hb, hb3, List.append_assoc], hrest, by rw [← List.append_assoc]; exact w3⟩).weaken ⟨rfl, rfl, rfl, trivial⟩
  · have hq2 : i = (elems v).length := by omega
    rw [List.drop_eq_nil_of_le (by omega)] at hd
    obtain rfl := hd.nil_inv
    repeat' first
     | refine Opl.val (op_lenL rfl hv.isL rfl) rfl ?_
     | refine Opl.val (op_int rfl rfl rfl (lss_no hq)) rfl ?_
     | refine Go.condF rfl ?_
     | refine .std ?_ | refine .nil ?_ | refine .seq ?_ | refine .region ?_ | refine .xs ?_ | refine .kb ?_ | refine .leaf ?_ | refine .block ?_ | refine .gn ?_ | refine .dr ?_ | fail
    refine At.fn rfl rfl rfl ?_
    rw [hb, List.append_nil]; exact w2
theorem rnumbers {d : Nat} {S : St} {c : Nat} {v : V} {bl : List UInt8} (hv : isLn 1 v) (hlen : (elems v).length < 4611686018427387904) (he : EncL d 0 (elems v) bl) :
    RC 142 [.ptr c 0, v] S c (encI ((elems v).length : Nat) ++ bl) := by
  intro buf h hB
  have w0 : RQ S c buf [] S := ⟨KeepB.refl _ _, buf, h, by simp, .inl (by simp)⟩
  have hB0 := hB
  simp only [List.length_append] at hB
  refine CallTo.of (n := 26) Tryz.func142 rfl rfl ?_
  repeat' first
   | refine Opl.val (op_lenL rfl hv.isL rfl) rfl ?_
   | refine Opl.callR w0 rfl (by kernel_rfl) (rnumber ((elems v).length : Nat) (by constructor <;> omega)) (by simp; omega) rfl (fun S1 w1 k1 _ => ?_)
   | refine .std ?_ | refine .nil ?_ | refine .seq ?_ | refine .region ?_ | refine .xs ?_ | refine .kb ?_ | refine .leaf ?_ | refine .block ?_ | refine .gn ?_ | refine .dr ?_ | fail
  refine Go.weaken (E' := [(0, .ptr c 0), (1, v), (4, .int .i64 (0 : Nat))]) ?_ ⟨rfl, rfl, rfl, trivial⟩
  refine Go.loop_ind (α := Nat) (fun i => (elems v).length - i) (fun i E S' => E = [(0, .ptr c 0), (1, v), (4, .int .i64 i)] ∧ i ≤ (elems v).length ∧ ∃ b1 b2, bl = b1 ++ b2 ∧ EncL d 0 ((elems v).drop i) b2 ∧
    RQ S c buf (encI ((elems v).length : Nat) ++ b1) S') ?_ 0 _ _ ⟨rfl, Nat.zero_le _, [], bl, rfl, he, by simpa using w1⟩
  rintro i E S2 ⟨rfl, hi, b1, b2, hb, hd, w2⟩ IHl
  have w2' := w2
  obtain ⟨k2, buf2, h2, hl2, ho2⟩ := w2'
  by_cases hq : i < (elems v).length
  · by_cases hf : 100000 < buf2.length
    · have hfull : lim Tryz.prog (.call 69 [.ptr c 0]) S2 = some (.ret (.bool true) S2) := by rw [h2.full, decide_eq_true hf]
      repeat' first
       | refine Opl.val (op_lenL rfl hv.isL rfl) rfl ?_
       | refine Opl.val (op_int rfl rfl rfl (lss_yes hq)) rfl ?_
       | refine Opl.gon (q := true) rfl rfl (fun _ => ?_) (fun h => by cases h)
       | refine Opl.callr rfl (by kernel_rfl) hfull rfl ?_
       | refine Go.condF rfl ?_
       | refine .std ?_ | refine .nil ?_ | refine .seq ?_ | refine .region ?_ | refine .xs ?_ | refine .kb ?_ | refine .leaf ?_ | refine .block ?_ | refine .gn ?_ | refine .dr ?_ | fail
      refine At.fn rfl rfl rfl ?_
      rw [hb, ← List.append_assoc]
      exact RQ.stop k2 h2 hl2 hf
    · have hfull : lim Tryz.prog (.call 69 [.ptr c 0]) S2 = some (.ret (.bool false) S2) := by rw [h2.full, decide_eq_false hf]
      obtain ⟨be, b3, hb3, hel, hrest⟩ := hd.drop (List.drop_eq_getElem_cons hq)
      have hix : (elems v)[i]? = some (elems v)[i] := List.getElem?_eq_getElem hq
      obtain ⟨lt, tk, hvl⟩ := hv.el hix
      obtain ⟨n0, c0, b0, hn0, hce, rfl, he0⟩ := EncF.invI hel
      obtain ⟨rfl, rfl⟩ := EncF.invN he0
      have hel' : loadE Tryz.prog 3 (.cptr none (elems v)[i].cells 0) S2 = some (.int .i64 n0) := by rw [hce]; exact ld_one (Pt.cptr _ _ _)
      have hBe : buf.length + (encI ((elems v).length : Nat) ++ b1 ++ encI n0).length ≤ most := by rw [hb, hb3] at hB0; simp at hB0 ⊢; omega
      repeat' first
       | refine Opl.val (op_lenL rfl hv.isL rfl) rfl ?_
       | refine Opl.val (op_int rfl rfl rfl (lss_yes hq)) rfl ?_
       | refine Opl.gon (q := true) rfl rfl (fun _ => ?_) (fun h => by cases h)
       | refine Opl.callr rfl (by kernel_rfl) hfull rfl ?_
       | refine Go.condT rfl ?_
       | refine Opl.val (op_ixaL (by exact (congrArg some hvl)) rfl hix) rfl ?_
       | refine Opl.val (op_load rfl hel') rfl ?_
       | refine Opl.callR w2 rfl (by kernel_rfl) (rnumber n0 hn0) hBe rfl (fun S3 w3 k3 _ => ?_)
       | refine Opl.val (op_int rfl rfl rfl (inc_ok (i := i) (by omega))) rfl ?_
       | refine .std ?_ | refine .nil ?_ | refine .seq ?_ | refine .region ?_ | refine .xs ?_ | refine .kb ?_ | refine .leaf ?_ | refine .block ?_ | refine .gn ?_ | refine .dr ?_ | fail
      exact (IHl (i + 1) _ S3 (by omega) ⟨rfl, by omega, b1 ++ encI n0, b3, by rw [hb, hb3]; simp, hrest, by rw [← List.append_assoc]; exact w3⟩).weaken ⟨rfl, rfl, rfl, trivial⟩
  · have hq2 : i = (elems v).length := by omega
    rw [List.drop_eq_nil_of_le (by omega)] at hd
    obtain rfl := hd.nil_inv
    repeat' first
     | refine Opl.val (op_lenL rfl hv.isL rfl) rfl ?_
     | refine Opl.val (op_int rfl rfl rfl (lss_no hq)) rfl ?_
     | refine Go.condF rfl ?_
     | refine .std ?_ | refine .nil ?_ | refine .seq ?_ | refine .region ?_ | refine .xs ?_ | refine .kb ?_ | refine .leaf ?_ | refine .block ?_ | refine .gn ?_ | refine .dr ?_ | fail
    refine At.fn rfl rfl rfl ?_
    rw [hb, List.append_nil]; exact w2
end Go.Proofs.YtilldjgagokcfaaGreat
