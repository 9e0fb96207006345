import Derived.Test.YtilldjgagokcfaaGreatP1
import Derived.Test.YtilldjgagokcfaaGreatR7
import Derived.Test.YtilldjgagokcfaaGreatR9
set_option linter.unusedVariables false
set_option linter.unusedSimpArgs false
namespace Go.Proofs.YtilldjgagokcfaaGreat
open Go.RowKit Go.Ev
set_option maxRecDepth 100000
set_option linter.unusedVariables false
theorem refProgram {d : Nat} {cs : List V} {bs : List UInt8} (he : EncF d (sch 14) cs bs) (hB : bs.length ≤ most) (S : St) : CallTo Tryz.prog 7 [.agg cs] S (fun v S' => v = fileV 112 bs ∧ KeepB S S' S.next) (fun _ _ => False) := by
  have hl : cs.length = 10 := by simpa [sch, szs] using he.len
  obtain ⟨s, e, hse⟩ := fileV_tup 112 bs
  obtain ⟨S1, hS1⟩ : ∃ S1, S1 = S.new (.box 32 cs) := ⟨_, rfl⟩
  have hs1 : Same S S1 := by rw [hS1]; exact Same.new _ _
  have hx : S1.h.find S.next = some (.box 32 cs) := by rw [hS1]; simp [St.new, Tr.find_put]
  have hn1 : S1.next = S.next + 1 := by rw [hS1]; rfl
  obtain ⟨S2, hS2⟩ : ∃ S2, S2 = S1.new (.box 75 [.nils]) := ⟨_, rfl⟩
  have hs2 : Same S1 S2 := by rw [hS2]; exact Same.new _ _
  have hx2 : S2.h.find S.next = some (.box 32 cs) := by rw [hs2.find _ (by omega)]; exact hx
  have hc2 : S2.h.find (S.next + 1) = some (.box 75 [.nils]) := by rw [hS2, ← hn1]; simp [St.new, Tr.find_put]
  have hn2 : S2.next = S.next + 2 := by rw [hS2]; show S1.next + 1 = _; omega
  have hr : RefW S2 (S.next + 1) [] := ⟨by omega, .nils, hc2, .inl ⟨rfl, rfl⟩⟩
  have hld : loadE Tryz.prog 32 (.ptr S.next 0) S2 = some (.agg cs) := ld_agg ⟨_, _, hx2, fun i v h => by simpa using h⟩ hl
  have hb0 : buildE Tryz.prog 75 [] = some (.agg [.nils]) := by kernel_rfl
  have hw := (rprogram he) [] hr (by simpa using hB)
  have hp1 : V.ptr S1.next 0 = .ptr (S.next + 1) 0 := by rw [hn1]
  refine CallTo.of (n := 14) Tryz.func7 rfl rfl ?_
  repeat' first
   | refine Opl.val (op_box rfl) rfl (Opl.cast (S' := S1) ?_ hS1)
   | refine Opl.val (op_build0 hb0) rfl ?_
   | (refine Opl.val (op_box rfl) rfl (Opl.cast (S' := S2) ?_ hS2); rw [hp1])
   | refine Opl.val (op_load rfl hld) rfl ?_
   | refine Opl.call rfl (by kernel_rfl) hw rfl (fun v S3 w3 => ?_) (fun _ _ hf => hf.elim)
   | refine .std ?_ | refine .nil ?_ | refine .seq ?_ | refine .region ?_ | refine .xs ?_ | refine .kb ?_ | refine .leaf ?_ | refine .block ?_ | refine .gn ?_ | refine .dr ?_ | fail
  obtain ⟨k3, buf3, h3, hl3, ho3⟩ := w3
  simp only [List.length_nil, Nat.zero_add, List.nil_append] at hl3 ho3
  have hf : CallTo Tryz.prog 28 [.ptr (S.next + 1) 0, .int .u8 112] S3 (fun v S' => v = .tup [.str s, .int .i64 e] ∧ S3 = S') (fun _ _ => False) := by
    rw [← hse, ← fileR_eq hl3 ho3]
    exact (rfile 112 h3 (by omega)).mono (fun _ _ h => ⟨h.1, h.2.symm⟩) (fun _ _ h => h)
  repeat' first
   | (refine Opl.callv rfl (by kernel_rfl) hf rfl (fun S4 k4 => ?_) (fun _ _ hf => hf.elim); subst k4)
   | refine .std ?_ | refine .nil ?_ | refine .seq ?_ | refine .region ?_ | refine .xs ?_ | refine .kb ?_ | refine .leaf ?_ | refine .block ?_ | refine .gn ?_ | refine .dr ?_ | fail
  refine At.fnr rfl rfl rfl ⟨hse.symm, ?_⟩
  exact (((hs1.trans hs2).keepB (S.next + 1)).trans k3).any (by omega) _
theorem refCode {d : Nat} {cs : List V} {bs : List UInt8} (he : EncF d (sch 15) cs bs) (hB : bs.length ≤ most) (S : St) : CallTo Tryz.prog 9 [.agg cs] S (fun v S' => v = fileV 99 bs ∧ KeepB S S' S.next) (fun _ _ => False) := by
  have hl : cs.length = 3 := by simpa [sch, szs] using he.len
  obtain ⟨s, e, hse⟩ := fileV_tup 99 bs
  obtain ⟨S1, hS1⟩ : ∃ S1, S1 = S.new (.box 35 cs) := ⟨_, rfl⟩
  have hs1 : Same S S1 := by rw [hS1]; exact Same.new _ _
  have hx : S1.h.find S.next = some (.box 35 cs) := by rw [hS1]; simp [St.new, Tr.find_put]
  have hn1 : S1.next = S.next + 1 := by rw [hS1]; rfl
  obtain ⟨S2, hS2⟩ : ∃ S2, S2 = S1.new (.box 75 [.nils]) := ⟨_, rfl⟩
  have hs2 : Same S1 S2 := by rw [hS2]; exact Same.new _ _
  have hx2 : S2.h.find S.next = some (.box 35 cs) := by rw [hs2.find _ (by omega)]; exact hx
  have hc2 : S2.h.find (S.next + 1) = some (.box 75 [.nils]) := by rw [hS2, ← hn1]; simp [St.new, Tr.find_put]
  have hn2 : S2.next = S.next + 2 := by rw [hS2]; show S1.next + 1 = _; omega
  have hr : RefW S2 (S.next + 1) [] := ⟨by omega, .nils, hc2, .inl ⟨rfl, rfl⟩⟩
  have hld : loadE Tryz.prog 35 (.ptr S.next 0) S2 = some (.agg cs) := ld_agg ⟨_, _, hx2, fun i v h => by simpa using h⟩ hl
  have hb0 : buildE Tryz.prog 75 [] = some (.agg [.nils]) := by kernel_rfl
  have hw := (rcode he) [] hr (by simpa using hB)
  have hp1 : V.ptr S1.next 0 = .ptr (S.next + 1) 0 := by rw [hn1]
  refine CallTo.of (n := 14) Tryz.func9 rfl rfl ?_
  repeat' first
   | refine Opl.val (op_box rfl) rfl (Opl.cast (S' := S1) ?_ hS1)
   | refine Opl.val (op_build0 hb0) rfl ?_
   | (refine Opl.val (op_box rfl) rfl (Opl.cast (S' := S2) ?_ hS2); rw [hp1])
   | refine Opl.val (op_load rfl hld) rfl ?_
   | refine Opl.call rfl (by kernel_rfl) hw rfl (fun v S3 w3 => ?_) (fun _ _ hf => hf.elim)
   | refine .std ?_ | refine .nil ?_ | refine .seq ?_ | refine .region ?_ | refine .xs ?_ | refine .kb ?_ | refine .leaf ?_ | refine .block ?_ | refine .gn ?_ | refine .dr ?_ | fail
  obtain ⟨k3, buf3, h3, hl3, ho3⟩ := w3
  simp only [List.length_nil, Nat.zero_add, List.nil_append] at hl3 ho3
  have hf : CallTo Tryz.prog 28 [.ptr (S.next + 1) 0, .int .u8 99] S3 (fun v S' => v = .tup [.str s, .int .i64 e] ∧ S3 = S') (fun _ _ => False) := by
    rw [← hse, ← fileR_eq hl3 ho3]
    exact (rfile 99 h3 (by omega)).mono (fun _ _ h => ⟨h.1, h.2.symm⟩) (fun _ _ h => h)
  repeat' first
   | (refine Opl.callv rfl (by kernel_rfl) hf rfl (fun S4 k4 => ?_) (fun _ _ hf => hf.elim); subst k4)
   | refine .std ?_ | refine .nil ?_ | refine .seq ?_ | refine .region ?_ | refine .xs ?_ | refine .kb ?_ | refine .leaf ?_ | refine .block ?_ | refine .gn ?_ | refine .dr ?_ | fail
  refine At.fnr rfl rfl rfl ⟨hse.symm, ?_⟩
  exact (((hs1.trans hs2).keepB (S.next + 1)).trans k3).any (by omega) _
end Go.Proofs.YtilldjgagokcfaaGreat
