/-
  EncodeChanged: what the law's function comes to.
-/
import Derived.Test.YtilldjgagokcfaaC1
set_option linter.unusedVariables false
set_option linter.unusedSimpArgs false
namespace Go.Proofs.Ytilldjgagokcfaa
open Go.RowKit Go.Ev
set_option maxRecDepth 100000
set_option linter.unusedVariables false

theorem rem_nat (a n : Nat) (hn : 0 < n) (ha : a < 65536) : intOp .rem .i64 (IntKind.wrap .i64 (a : Int)) (n : Int) = some (.int .i64 ((a % n : Nat) : Int)) := by
  rw [wrap_i64_id (by constructor <;> omega)]
  simp only [intOp]
  rw [if_neg (by simp; omega), Int.tmod_eq_emod_of_nonneg (by omega)]
  simp

set_option maxHeartbeats 2000000 in
theorem changedF {d : Nat} {c1 : List V} {b1 : List UInt8} (h1 : EncF d (sch 2) c1 b1) (a : Nat) (ha : a < 65536) (x : UInt8) (S : St) :
    CallTo Try.prog 7 [.agg c1, .int .u16 a, .int .u8 x.toNat] S (fun v _ => v = .bool true) (fun _ _ => False) := by
  have hl : c1.length = 5 := Enc.len 2 ⟨d, h1⟩
  obtain ⟨S1, hS1⟩ : ∃ S1, S1 = S.new (.box 29 c1) := ⟨_, rfl⟩
  have hx : S1.h.find S.next = some (.box 29 c1) := by rw [hS1]; simp [St.new, Tr.find_put]
  have hld : loadE Try.prog 29 (.ptr S.next 0) S1 = some (.agg c1) := ld_agg ⟨_, _, hx, fun i v h => by simpa using h⟩ hl
  have hbsl := bslG x.toNat
  refine CallTo.of (n := 75) Try.func7 rfl rfl ?_
  by_cases hle : b1.length ≤ 99988
  · obtain ⟨f, hf⟩ : ∃ f, f = fileOf 118 b1 := ⟨_, rfl⟩
    have hv : fileV 118 b1 = .tup [.str f, .int .i64 0] := by unfold fileV; rw [if_pos hle, hf]
    have hw : CallTo Try.prog 20 [.agg c1] S1 (fun v S' => v = .tup [.str f, .int .i64 0] ∧ KeepB S1 S' S1.next) (fun _ _ => False) := by rw [← hv]; exact progValue h1 S1
    have hpos := h1.pos (sch_guarded 2) (by simp [sch])
    have hfl : f.length = b1.length + 12 := by rw [hf, fileOf_len]
    have hfr : Framed f 118 := by rw [hf]; exact fileOf_framed _ _
    have hr1 : readsOf f = 1 := by rw [hf]; exact readsOf_value ⟨d, h1⟩ hle
    obtain ⟨i, hi⟩ : ∃ i, i = a % f.length := ⟨_, rfl⟩
    have hil : i < f.length := by rw [hi]; exact Nat.mod_lt _ (by omega)
    have hrem := rem_nat a f.length (by omega) ha
    rw [← hi] at hrem
    have hch : f[i]? = some f[i] := List.getElem?_eq_getElem hil
    have e1 : intOp .lss .i64 (f.length : Int) 13 = some (.bool false) := lss_i (decide_eq_false (by omega))
    obtain ⟨q, hq⟩ : ∃ q, (!decide ((f[i].toNat : Int) = (x.toNat : Int))) = q := ⟨_, rfl⟩
    have e2 : intOp .neq .u8 (f[i].toNat : Int) (x.toNat : Int) = some (.bool q) := neq_i hq
    have hinc : intOp .add .i64 (i : Int) 1 = some (.int .i64 ((i + 1 : Nat) : Int)) := inc_ok (by omega)
    have hr2 := readsOf_none (f := f.take i) fun k => lacking (k' := k) (by omega) hfr hil
    have hr3 := readsOf_none (f := f ++ [x]) fun k => more (k' := k) (by omega) hfr
    have a1 : strOp .add f [x] = some (.str (f ++ [x])) := str_add (by simp; omega)
    have a2 : strOp .add (f.take i) [x] = some (.str (f.take i ++ [x])) := str_add (by simp; omega)
    have a3 : strOp .add (f.take i ++ [x]) (f.drop (i + 1)) = some (.str (f.take i ++ [x] ++ f.drop (i + 1))) := str_add (by simp; omega)
    have hslo : slc f (i + 1) f.length = f.drop (i + 1) := slc_end _ _
    have hreads : ∀ (g : List UInt8) (n : Nat) (U : St), g.length < 4611686018427387904 → readsOf g = n → CallTo Try.prog 24 [.str g] U (fun v S' => v = .int .i64 (n : Nat) ∧ Same U S') (fun _ _ => False) := fun g n U hg hn => by
      rw [← hn]; exact reads g U hg
    repeat' first
     | refine Opl.val (op_box rfl) rfl (Opl.cast (S' := S1) ?_ hS1)
     | refine Opl.val (op_load rfl hld) rfl ?_
     | refine Opl.callv rfl (by kernel_rfl) hw rfl (fun S2 k2 => ?_) (fun _ _ hf => hf.elim)
     | refine op_gyes rfl ?_ rfl
     | refine Opl.val (op_int rfl rfl rfl e1) rfl ?_
     | refine Go.condF rfl ?_
     | refine Opl.val (op_int rfl rfl rfl hrem) rfl ?_
     | refine Go.holdS 5 ?_
     | refine Go.hold 5 ?_
     | refine .std ?_ | refine .nil ?_ | refine .seq ?_ | refine .region ?_ | refine .xs ?_ | refine .kb ?_ | refine .leaf ?_ | refine .block ?_ | refine .gn ?_ | refine .dr ?_ | fail
    refine ⟨?_⟩
    refine Go.joinS (fun E U => Sub [(7, .str f), (9, .int .i64 i), (2, .int .u8 x.toNat)] E) ?_ (fun hj => ?_)
    · intro E U hE
      refine Go.weaken ?_ hE
      repeat' first
       | refine Go.condF rfl ?_
       | refine op_gyes rfl ?_ rfl
       | refine Opl.val (op_slcHi rfl rfl (Nat.le_of_lt hil)) rfl ?_
       | refine Opl.val (op_buildSlice1 rfl hbsl) rfl ?_
       | refine Opl.callv rfl (by kernel_rfl) (hreads f 1 _ (by omega) hr1) rfl (fun _ _ => ?_) (fun _ _ hf => hf.elim)
       | refine Opl.callv rfl (by kernel_rfl) (hreads (f.take i) 0 _ (by simp; omega) hr2) rfl (fun _ _ => ?_) (fun _ _ hf => hf.elim)
       | refine Opl.callv rfl (by kernel_rfl) (hreads (f ++ [x]) 0 _ (by simp; omega) hr3) rfl (fun _ _ => ?_) (fun _ _ hf => hf.elim)
       | refine Opl.callv rfl (by kernel_rfl) (bytes1 x _) rfl (fun _ _ => ?_) (fun _ _ hf => hf.elim)
       | refine Opl.val (op_str rfl rfl a1) rfl ?_
       | refine Opl.callr rfl (by kernel_rfl) (lim_closed awakeT _) rfl ?_
       | refine .std ?_ | refine .nil ?_ | refine .seq ?_ | refine .region ?_ | refine .xs ?_ | refine .kb ?_ | refine .leaf ?_ | refine .block ?_ | refine .gn ?_ | refine .dr ?_ | fail
      exact At.fnr rfl rfl rfl rfl
    · refine Go.seq ?_
      refine Go.draw [0, 0, 3, 0, 15, 31, 63, 63, 255, 63, 575, 1599, 4095, 63, 63, 16447, 57407, 131071, 262143, 524287, 1048575] [0, 1, 2, 3, 4, 5, 9, 10, 11, 6, 7, 8, 12, 13, 14, 15, 16, 17, 18, 19, 20] (by kernel_rfl) (fun _ => True) ?_
      refine Drw.c0 rfl rfl (op_move rfl) rfl ?_
      refine Drw.c0 rfl rfl (op_move rfl) rfl ?_
      refine Drw.c0 rfl rfl (op_idxS rfl rfl hch) rfl ?_
      refine Drw.c0 rfl rfl (op_move rfl) rfl ?_
      refine Drw.c0 rfl rfl (op_int rfl rfl rfl e2) rfl ?_
      refine Drw.c0 rfl rfl (op_move rfl) rfl ?_
      cases q
      · repeat' first
          | refine Drw.gn rfl rfl ?_
          | refine Drw.c0 rfl rfl (op_pickF rfl rfl) rfl ?_
          | refine Drw.nil ?_
          | fail
        repeat' first
         | exact hj _ _ ⟨rfl, rfl, rfl, trivial⟩
         | refine Go.condF rfl ?_
         | refine .std ?_ | refine .nil ?_ | refine .seq ?_ | refine .region ?_ | refine .xs ?_ | refine .kb ?_ | refine .leaf ?_ | refine .block ?_ | refine .gn ?_ | refine .dr ?_ | fail
      · have hne : f[i] ≠ x := by
          intro e
          rw [e] at hq
          simp at hq
        have hr4 := readsOf_none (f := f.take i ++ [x] ++ f.drop (i + 1)) fun k => changed (k' := k) (by omega) hfr hil hne
        refine Drw.c0 rfl rfl (op_move rfl) rfl ?_
        refine Drw.c0 rfl rfl (op_buildSlice1 rfl hbsl) rfl ?_
        refine Drw.call rfl rfl (by kernel_rfl) (bytes1 x _) rfl (fun v U ⟨hv, hU⟩ => ⟨trivial, ?_⟩)
        subst hv
        refine Drw.c0 rfl rfl (op_move rfl) rfl ?_
        refine Drw.c0 rfl rfl (op_move rfl) rfl ?_
        refine Drw.c0 rfl rfl (op_slcHi rfl rfl (Nat.le_of_lt hil)) rfl ?_
        refine Drw.c0 rfl rfl (op_str rfl rfl a2) rfl ?_
        refine Drw.c0 rfl rfl (op_move rfl) rfl ?_
        refine Drw.c0 rfl rfl (op_move rfl) rfl ?_
        refine Drw.c0 rfl rfl (op_int rfl rfl rfl hinc) rfl ?_
        refine Drw.c0 rfl rfl (op_slcLo rfl rfl hil) rfl ?_
        rw [hslo]
        refine Drw.c0 rfl rfl (op_str rfl rfl a3) rfl ?_
        refine Drw.call rfl rfl (by kernel_rfl) (hreads _ 0 _ (by simp; omega) hr4) rfl (fun v U ⟨hv, hU⟩ => ⟨trivial, ?_⟩)
        subst hv
        refine Drw.c0 rfl rfl (op_int rfl rfl rfl rfl) rfl ?_
        refine Drw.c0 rfl rfl (op_pickT rfl rfl) rfl ?_
        refine Drw.nil (At.seq ?_)
        repeat' first
         | exact hj _ _ ⟨rfl, rfl, rfl, trivial⟩
         | refine Go.condF rfl ?_
         | refine .std ?_ | refine .nil ?_ | refine .seq ?_ | refine .region ?_ | refine .xs ?_ | refine .kb ?_ | refine .leaf ?_ | refine .block ?_ | refine .gn ?_ | refine .dr ?_ | fail
  · have hv : fileV 118 b1 = .tup [.str [], .int .i64 3] := by unfold fileV; rw [if_neg hle]
    have hw : CallTo Try.prog 20 [.agg c1] S1 (fun v S' => v = .tup [.str [], .int .i64 3] ∧ KeepB S1 S' S1.next) (fun _ _ => False) := by rw [← hv]; exact progValue h1 S1
    repeat' first
     | refine Opl.val (op_box rfl) rfl (Opl.cast (S' := S1) ?_ hS1)
     | refine Opl.val (op_load rfl hld) rfl ?_
     | refine Opl.callv rfl (by kernel_rfl) hw rfl (fun S2 k2 => ?_) (fun _ _ hf => hf.elim)
     | refine op_gyes rfl ?_ rfl
     | refine Go.condT rfl ?_
     | refine Opl.callr rfl (by kernel_rfl) (lim_closed awakeT _) rfl ?_
     | refine .std ?_ | refine .nil ?_ | refine .seq ?_ | refine .region ?_ | refine .xs ?_ | refine .kb ?_ | refine .leaf ?_ | refine .block ?_ | refine .gn ?_ | refine .dr ?_ | fail
    exact At.fnr rfl rfl rfl rfl

end Go.Proofs.Ytilldjgagokcfaa
