import Derived.Test.YtilldjgagokcfaaGreatR3
set_option linter.unusedVariables false
set_option linter.unusedSimpArgs false
namespace Go.Proofs.YtilldjgagokcfaaGreat
open Go.RowKit Go.Ev
set_option maxRecDepth 100000
set_option linter.unusedVariables false
theorem RefW.same {S S' : St} {c : Nat} {buf : List UInt8} (h : RefW S c buf) (k : Same S S') : RefW S' c buf := by
  obtain ⟨h1, l, h3, h5⟩ := h
  exact ⟨Nat.lt_of_lt_of_le h1 k.next, l, by rw [k.find c h1]; exact h3, h5.keep k.next fun id hi ht => by rw [k.find id hi]; exact ht⟩
theorem RQ.cat {A B C : St} {c : Nat} {buf b1 b2 buf1 : List UInt8} (h1 : KeepB A B c) (h3 : buf1.length ≤ buf.length + b1.length) (h4 : buf1 = buf ++ b1 ∨ 100000 < buf1.length) (k : RQ B c buf1 b2 C) : RQ A c buf (b1 ++ b2) C := by
  obtain ⟨k1, buf2, k2, k3, k4⟩ := k
  refine ⟨h1.trans k1, buf2, k2, by simp; omega, ?_⟩
  rcases h4 with rfl | h4
  · rcases k4 with rfl | k4
    · exact .inl (List.append_assoc _ _ _)
    · exact .inr k4
  · rcases k4 with rfl | k4
    · exact .inr (by simp; omega)
    · exact .inr k4
theorem lay {S : St} {T : TypeId} {n : Nat} [SzN Tryz.prog T n] {z cs : List V} (hz : z.length = n) (hc : cs.length = n) (ho : cs.all V.one = true) :
    ∃ S', storeE Tryz.prog T (.ptr S.next 0) (.agg cs) (S.new (.box T z)) = some S' ∧ Same S S' ∧ S'.h.find S.next = some (.box T cs) ∧ S.next < S'.next := by
  have hf : (S.new (.box T z)).h.find S.next = some (.box T z) := by simp [St.new, Tr.find_put]
  have hs : splice z 0 cs = some cs := by
    have : Nat.ble (0 + cs.length) z.length = true := Nat.ble_eq_true_of_le (by omega)
    unfold splice
    rw [if_pos this]
    simp [hc, ← hz]
  exact ⟨{ S.new (.box T z) with h := (S.new (.box T z)).h.put S.next (.box T cs) }, st_agg hf hc ho hs, (Same.new _ _).put (Nat.le_refl _) _, by simp [Tr.find_put], by simp [St.new]⟩
theorem rvalue {d : Nat} (IH : ∀ d', d' < d → RAll d') {S : St} {c : Nat} {cs : List V} {bs : List UInt8} (he : EncF d (sch 2) cs bs) : RC 108 [.ptr c 0, .agg cs] S c bs := by
  intro buf h hB
  obtain ⟨n0, c0, b0, hn0, rfl, rfl, he0⟩ := EncF.invI he
  obtain ⟨n1, c1, b1, hn1, rfl, rfl, he1⟩ := EncF.invI he0
  obtain ⟨s2, c2, b2, hs2, rfl, rfl, he2⟩ := EncF.invS he1
  obtain ⟨d3, v3, l3, c3, b3, hd3, hv3, hl3, hel3, rfl, rfl, he3⟩ := EncF.invL he2
  obtain ⟨d4, v4, l4, c4, b4, hd4, hv4, hl4, hel4, rfl, rfl, he4⟩ := EncF.invL he3
  obtain ⟨rfl, rfl⟩ := EncF.invN he4
  have hlt := h.lt
  obtain ⟨S0, hS0⟩ : ∃ S0, S0 = S.new (.box 62 [.int .i64 n0, .int .i64 n1, .str s2, v3, v4]) := ⟨_, rfl⟩
  have hs0 : Same S S0 := by rw [hS0]; exact Same.new _ _
  have hx : S0.h.find S.next = some (.box 62 [.int .i64 n0, .int .i64 n1, .str s2, v3, v4]) := by rw [hS0]; simp [St.new, Tr.find_put]
  have hn0' : S.next < S0.next := by rw [hS0]; simp [St.new]
  have hp : Src S0 c (.ptr S.next 0) [.int .i64 n0, .int .i64 n1, .str s2, v3, v4] := ⟨⟨_, _, hx, fun i v h => by simpa using h⟩, by omega, hn0'⟩
  have w0 : RQ S0 c buf [] S0 := ⟨KeepB.refl _ _, buf, h.same hs0, by simp, .inl (by simp)⟩
  have f0 := hp.at 0 rfl
  have f1 := hp.at 1 rfl
  have f2 := hp.at 2 rfl
  have f3 := hp.at 3 rfl
  have f4 := hp.at 4 rfl
  simp only [List.length_append, List.length_nil] at hB
  refine CallTo.of (n := 24) Tryz.func108 rfl rfl ?_
  repeat' first
   | refine Opl.val (op_box rfl) rfl (Opl.cast (S' := S0) ?_ hS0)
   | refine Opl.val (op_load rfl (ld_one (w0.1.src f0).pt)) rfl ?_
   | refine Opl.val (op_load rfl (ld_one (w1.1.src f1).pt)) rfl ?_
   | refine Opl.val (op_load rfl (ld_one (w2.1.src f2).pt)) rfl ?_
   | refine Opl.val (op_load rfl (ld_one (w3.1.src f3).pt)) rfl ?_
   | refine Opl.val (op_load rfl (ld_one (w4.1.src f4).pt)) rfl ?_
   | refine Opl.callR w0 rfl (by kernel_rfl) (rnumber n0 hn0) (by simp; omega) rfl (fun S1 w1 k1 _ => ?_)
   | refine Opl.callR w1 rfl (by kernel_rfl) (rnumber n1 hn1) (by simp; omega) rfl (fun S2 w2 k1 _ => ?_)
   | refine Opl.callR w2 rfl (by kernel_rfl) (rtext s2 hs2) (by simp; omega) rfl (fun S3 w3 k1 _ => ?_)
   | refine Opl.callR w3 rfl (by kernel_rfl) ((IH d3 hd3).values hv3 hl3 hel3) (by simp; omega) rfl (fun S4 w4 k1 _ => ?_)
   | refine Opl.callR w4 rfl (by kernel_rfl) ((IH d4 hd4).segments hv4 hl4 hel4) (by simp; omega) rfl (fun S5 w5 k1 _ => ?_)
   | refine .std ?_ | refine .nil ?_ | refine .seq ?_ | refine .region ?_ | refine .xs ?_ | refine .kb ?_ | refine .leaf ?_ | refine .block ?_ | refine .gn ?_ | refine .dr ?_ | fail
  refine At.fn rfl rfl rfl ?_
  obtain ⟨q1, q2⟩ := w5
  exact ⟨(hs0.keepB c).trans q1, by simpa using q2⟩
end Go.Proofs.YtilldjgagokcfaaGreat
