import Derived.Test.YtilldjgagokcfaaGreatR6
set_option linter.unusedVariables false
set_option linter.unusedSimpArgs false
namespace Go.Ev
open Go.RowKit
theorem gtr_of {a b : Nat} {q : Bool} (h : decide (b < a) = q) : intOp .gtr .i64 (a : Int) (b : Int) = some (.bool q) := by
  simp only [intOp]
  rw [← h]
  congr 2
  by_cases hh : b < a
  · rw [decide_eq_true hh, decide_eq_true (by omega)]
  · rw [decide_eq_false hh, decide_eq_false (by omega)]
end Go.Ev
namespace Go.Proofs.YtilldjgagokcfaaGreat
open Go.RowKit Go.Ev
set_option maxRecDepth 100000
set_option linter.unusedVariables false
def fileR (k : UInt8) (buf : List UInt8) : V := if buf.length + 12 ≤ 100000 then .tup [.str (fileOf k buf), .int .i64 0] else .tup [.str [], .int .i64 3]
theorem toB_list {S : St} {l : V} {buf : List UInt8} (h : BufOk S l buf) (U : St) : convertE Tryz.prog 73 9 l U = some (.str buf, U) := by
  rcases h with ⟨rfl, rfl⟩ | ⟨id, rfl, _⟩
  · exact conv_bytesN
  · exact conv_bytes (toBytes_of buf)
theorem rfile {S : St} {c : Nat} {buf : List UInt8} (k : UInt8) (h : RefW S c buf) (hB : buf.length ≤ most) : CallTo Tryz.prog 28 [.ptr c 0, .int .u8 k.toNat] S (fun v S' => v = fileR k buf ∧ S' = S) (fun _ _ => False) := by
  obtain ⟨l, hp, hb, hl⟩ := h.pt
  have hil := hl.isL
  refine CallTo.of (n := 36) Tryz.func28 rfl rfl ?_
  have hadd : intOp .add .i64 ((elems l).length : Int) 12 = some (.int .i64 ((buf.length + 12 : Nat) : Int)) := by
    rw [hil.2]
    have : IntKind.wrap .i64 ((buf.length : Int) + 12) = ((buf.length + 12 : Nat) : Int) := by rw [wrap_i64_id (by constructor <;> (unfold most at hB; omega))]; rfl
    simp only [intOp, this]
  have hcell := toB_list hl
  by_cases hq : buf.length + 12 ≤ 100000
  · have hgt : intOp .gtr .i64 ((buf.length + 12 : Nat) : Int) 100000 = some (.bool false) := gtr_of (b := 100000) (decide_eq_false (by omega))
    have hbs : buildSliceE Tryz.prog 73 2 [(0, .int .u8 k.toNat), (1, .int .u8 1)] = some (.list (some 5) 1 (ofBytes [k, 1]) .exact) := by kernel_rfl
    have hconv : ∀ U, convertE Tryz.prog 73 9 (.list (some 5) 1 (ofBytes [k, 1]) .exact) U = some (.str [k, 1], U) := fun U => conv_bytes (toBytes_of [k, 1])
    have hfour : CallTo Tryz.prog 72 [.int .i64 buf.length] S (fun v S' => v = .str (be4 buf.length) ∧ S = S') (fun _ _ => False) := (four72 buf.length (by omega) S).mono (fun _ _ h => ⟨h.1, h.2.symm⟩) (fun _ _ h => h)
    have a0 : strOp .add [82, 69] [k, 1] = some (.str [82, 69, k, 1]) := str_add (by simp)
    have a1 : strOp .add [82, 69, k, 1] (be4 buf.length) = some (.str ([82, 69, k, 1] ++ be4 buf.length)) := str_add (by simp [be4])
    have a2 : strOp .add ([82, 69, k, 1] ++ be4 buf.length) buf = some (.str ([82, 69, k, 1] ++ be4 buf.length ++ buf)) := str_add (by simp [be4]; omega)
    have hlen : ∀ {ev : Operand → Option V} {args : Array Operand} {ats : Array TypeId}, mapO ev args.toList = some [l] → ats.toList = [73] → opE Tryz.prog (.call { callee := .builtin .len, args, argTypes := ats }) ev S = some (.int .i64 buf.length, S) := fun h1 h2 => by
      rw [op_lenL h1 hil.1 h2, hil.2]
    repeat' first
     | refine Opl.val (op_lenL rfl hil.1 rfl) rfl ?_
     | refine Opl.val (op_int rfl rfl rfl hadd) rfl ?_
     | refine Opl.val (op_int rfl rfl rfl hgt) rfl ?_
     | refine Go.condF rfl ?_
     | refine Go.draw [0, 1, 3, 7, 0, 16, 48, 112, 240, 496, 1023, 0, 2048, 6144, 14336, 30720, 65535, 131071] [4, 5, 6, 7, 8, 9, 0, 1, 2, 3, 10, 11, 12, 13, 14, 15, 16, 17] (by kernel_rfl) (fun U => S = U) ?_
     | refine .std ?_ | refine .nil ?_ | refine .seq ?_ | refine .region ?_ | refine .xs ?_ | refine .kb ?_ | refine .leaf ?_ | refine .block ?_ | refine .gn ?_ | refine .dr ?_ | fail
    repeat' first
      | refine Drw.c2 rfl rfl rfl rfl (fun U hU => by subst hU; exact op_load rfl (ld_one (Pt.at hp 0 rfl))) rfl ?_
      | refine Drw.c0 rfl rfl (op_move rfl) rfl ?_
      | refine Drw.c0 rfl rfl (op_nilP rfl rfl) rfl ?_
      | refine Drw.c0 rfl rfl (op_fld rfl rfl) rfl ?_
      | refine Drw.c0 rfl rfl (hlen rfl rfl) rfl ?_
      | refine Drw.call rfl rfl (by kernel_rfl) hfour rfl (fun v U ⟨hv, hU⟩ => ⟨hU, ?_⟩)
    subst hv hU
    refine Drw.c0 rfl rfl (op_bs2 rfl rfl hbs) rfl ?_
    refine Drw.c2 rfl rfl rfl rfl (fun U hU => op_conv rfl (hconv U)) rfl ?_
    refine Drw.c0 rfl rfl (op_str rfl rfl a0) rfl ?_
    refine Drw.c0 rfl rfl (op_str rfl rfl a1) rfl ?_
    repeat' first
      | refine Drw.c2 rfl rfl rfl rfl (fun U hU => by subst hU; exact op_load rfl (ld_one (Pt.at hp 0 rfl))) rfl ?_
      | refine Drw.c0 rfl rfl (op_move rfl) rfl ?_
      | refine Drw.c0 rfl rfl (op_nilP rfl rfl) rfl ?_
      | refine Drw.c0 rfl rfl (op_fld rfl rfl) rfl ?_
    refine Drw.c2 rfl rfl rfl rfl (fun U hU => op_conv rfl (hcell U)) rfl ?_
    refine Drw.c0 rfl rfl (op_str rfl rfl a2) rfl ?_
    refine Drw.c0 rfl rfl (op_assign rfl) rfl ?_
    refine Drw.nil (At.seq ?_)
    obtain ⟨fl, hfl⟩ : ∃ fl, fl = [82, 69, k, 1] ++ be4 buf.length ++ buf := ⟨_, rfl⟩
    have hfll : fl.length ≤ 100000 := by rw [hfl]; simp [be4]; omega
    rw [← hfl]
    have hsum : CallTo Tryz.prog 73 [.str fl] S (fun v S' => v = .int .i64 (sumOf fl : Nat) ∧ S = S') (fun _ _ => False) := (sum73 fl (by omega) S).mono (fun _ _ h => ⟨h.1, h.2.symm⟩) (fun _ _ h => h)
    have hfour2 : CallTo Tryz.prog 72 [.int .i64 (sumOf fl)] S (fun v S' => v = .str (be4 (sumOf fl)) ∧ S = S') (fun _ _ => False) := (four72 (sumOf fl) (sumOf_lt fl) S).mono (fun _ _ h => ⟨h.1, h.2.symm⟩) (fun _ _ h => h)
    have a3 : strOp .add fl (be4 (sumOf fl)) = some (.str (fl ++ be4 (sumOf fl))) := str_add (by simp [be4]; omega)
    repeat' first
     | (refine Opl.callv rfl (by kernel_rfl) hsum rfl (fun W hW => ?_) (fun _ _ hf => hf.elim); subst hW)
     | (refine Opl.callv rfl (by kernel_rfl) hfour2 rfl (fun W2 hW2 => ?_) (fun _ _ hf => hf.elim); subst hW2)
     | refine Opl.val (op_str rfl rfl a3) rfl ?_
     | refine .std ?_ | refine .nil ?_ | refine .seq ?_ | refine .region ?_ | refine .xs ?_ | refine .kb ?_ | refine .leaf ?_ | refine .block ?_ | refine .gn ?_ | refine .dr ?_ | fail
    refine At.fnr rfl rfl rfl ⟨?_, rfl⟩
    unfold fileR fileOf; rw [if_pos hq, ← hfl]; rfl
  · have hgt : intOp .gtr .i64 ((buf.length + 12 : Nat) : Int) 100000 = some (.bool true) := gtr_of (b := 100000) (decide_eq_true (by omega))
    repeat' first
     | refine Opl.val (op_lenL rfl hil.1 rfl) rfl ?_
     | refine Opl.val (op_int rfl rfl rfl hadd) rfl ?_
     | refine Opl.val (op_int rfl rfl rfl hgt) rfl ?_
     | refine Go.condT rfl ?_
     | refine .std ?_ | refine .nil ?_ | refine .seq ?_ | refine .region ?_ | refine .xs ?_ | refine .kb ?_ | refine .leaf ?_ | refine .block ?_ | refine .gn ?_ | refine .dr ?_ | fail
    refine At.fnr rfl rfl rfl ⟨?_, rfl⟩
    unfold fileR; rw [if_neg hq]; rfl
theorem fileR_eq {k : UInt8} {bs buf : List UInt8} (hl : buf.length ≤ bs.length) (ho : buf = bs ∨ 100000 < buf.length) : fileR k buf = fileV k bs := by
  unfold fileR fileV
  rcases ho with rfl | ho
  · by_cases h : buf.length ≤ 99988
    · rw [if_pos h, if_pos (by omega)]
    · rw [if_neg h, if_neg (by omega)]
  · rw [if_neg (by omega), if_neg (by omega)]
end Go.Proofs.YtilldjgagokcfaaGreat
