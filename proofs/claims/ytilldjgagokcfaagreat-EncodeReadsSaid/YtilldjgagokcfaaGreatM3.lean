import Derived.Test.YtilldjgagokcfaaGreatM2
import Derived.Test.YtilldjgagokcfaaGreatQ2
set_option linter.unusedVariables false
set_option linter.unusedSimpArgs false
namespace Go.Proofs.YtilldjgagokcfaaGreat
open Go.RowKit Go.Ev
set_option maxRecDepth 100000
set_option linter.unusedVariables false
theorem sameCode {d1 d2 : Nat} {c1 c2 : List V} {bs : List UInt8} (h1 : EncF d1 (sch 15) c1 bs) (h2 : EncF d2 (sch 15) c2 bs) (hB : bs.length ≤ most) (S : St) :
    CallTo Tryz.prog 16 [.agg c1, .agg c2] S (fun v S' => v = .bool true ∧ KeepB S S' S.next) (fun _ _ => False) := by
  have hl1 : c1.length = 3 := Enc.len 15 ⟨d1, h1⟩
  have hl2 : c2.length = 3 := Enc.len 15 ⟨d2, h2⟩
  obtain ⟨s, e, hse⟩ := fileV_tup 99 bs
  obtain ⟨U, hU⟩ : ∃ U, U = (S.new (.box 35 c1)).new (.box 35 c2) := ⟨_, rfl⟩
  have hn : U.next = S.next + 2 := by rw [hU]; rfl
  have hs : Same S U := by rw [hU]; exact (Same.new _ _).trans (Same.new _ _)
  have f1 : U.h.find S.next = some (.box 35 c1) := by
    rw [hU]; simp only [St.new, Tr.find_put]; simp only [if_neg (show ¬ S.next = S.next + 1 by omega), if_true]
  have f2 : U.h.find (S.next + 1) = some (.box 35 c2) := by rw [hU]; simp [St.new, Tr.find_put]
  have ld1 : loadE Tryz.prog 35 (.ptr S.next 0) U = some (.agg c1) := ld_agg ⟨_, _, f1, fun i v h => by simpa using h⟩ hl1
  have q1 : CallTo Tryz.prog 9 [.agg c1] U (fun v S' => v = .tup [.str s, .int .i64 e] ∧ KeepB U S' U.next) (fun _ _ => False) := (refCode h1 hB U).mono (fun v S' h => ⟨by rw [h.1, hse], h.2⟩) (fun _ _ h => h)
  have q2 : ∀ W, CallTo Tryz.prog 9 [.agg c2] W (fun v S' => v = .tup [.str s, .int .i64 e] ∧ KeepB W S' W.next) (fun _ _ => False) := fun W => (refCode h2 hB W).mono (fun v S' h => ⟨by rw [h.1, hse], h.2⟩) (fun _ _ h => h)
  refine CallTo.of (n := 27) Tryz.func16 rfl rfl ?_
  repeat' first
   | refine Opl.val (op_box rfl) rfl (Opl.cast (S' := U) ?_ hU)
   | refine Opl.val (op_box rfl) rfl ?_
   | refine Opl.val (op_load rfl ld1) rfl ?_
   | refine Opl.callv rfl (by kernel_rfl) q1 rfl (fun S3 k3 => ?_) (fun _ _ hf => hf.elim)
   | refine .std ?_ | refine .nil ?_ | refine .seq ?_ | refine .region ?_ | refine .xs ?_ | refine .kb ?_ | refine .leaf ?_ | refine .block ?_ | refine .gn ?_ | refine .dr ?_ | fail
  have ld2 : loadE Tryz.prog 35 (.ptr (S.next + 1) 0) S3 = some (.agg c2) := ld_agg ⟨_, _, k3.box _ _ _ (by omega) (by omega) f2, fun i v h => by simpa using h⟩ hl2
  have hp : V.ptr (S.new (.box 35 c1)).next 0 = .ptr (S.next + 1) 0 := rfl
  repeat' first
   | refine Opl.val (op_load rfl ld2) rfl ?_
   | refine Opl.callv rfl (by kernel_rfl) (q2 _) rfl (fun S4 k4 => ?_) (fun _ _ hf => hf.elim)
   | refine op_gyes rfl ?_ rfl
   | refine Opl.val (op_str rfl rfl (str_eql _)) rfl ?_
   | refine Opl.val (op_int rfl rfl rfl (int_eql _)) rfl ?_
   | refine .std ?_ | refine .nil ?_ | refine .seq ?_ | refine .region ?_ | refine .xs ?_ | refine .kb ?_ | refine .leaf ?_ | refine .block ?_ | refine .gn ?_ | refine .dr ?_ | fail
  exact At.fnr rfl rfl rfl ⟨rfl, ((hs.keepB S.next).trans (k3.any (Nat.le_refl _) _)).trans (k4.any (Nat.le_refl _) _)⟩
end Go.Proofs.YtilldjgagokcfaaGreat
