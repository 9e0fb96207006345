import Derived.Test.YtilldjgagokcfaaGreatX8
import Derived.Test.YtilldjgagokcfaaGreatD6
import Derived.Test.YtilldjgagokcfaaGreatW9
set_option linter.unusedVariables false
set_option linter.unusedSimpArgs false
namespace Go.Ev
open Go.RowKit
def headV (f : List UInt8) (k : UInt8) : V := if 100000 < f.length then .tup [.int .i64 0, .int .i64 3] else match outP f k with
  | some i => .tup [.int .i64 (i : Nat), .int .i64 11]
  | none => .tup [.int .i64 0, .int .i64 0]
theorem op_bd3 {P : Program} {ev : Operand → Option V} {S : St} {x y z : Operand} {t : TypeId} {v w u r : V} {i j k : Nat} (h : ev x = some v) (h2 : ev y = some w) (h3 : ev z = some u) (hb : buildE P t [(i, v), (j, w), (k, u)] = some r) : opE P (.build t #[(i, x), (j, y), (k, z)]) ev S = some (r, S) := by
  simp [opE, mapO, h, h2, h3, hb]
theorem str_neqD {s t : List UInt8} {q : Bool} (h : decide (s ≠ t) = q) : strOp .neq s t = some (.bool q) := by
  rw [← h]; simp [strOp]
end Go.Ev
namespace Go.Proofs.YtilldjgagokcfaaGreat
open Go.RowKit Go.Ev
set_option maxRecDepth 100000
set_option linter.unusedVariables false
set_option maxHeartbeats 4000000 in
theorem xhead (f : List UInt8) (k : UInt8) (S : St) : CallTo Tryz.prog 37 [.str f, .int .u8 k.toNat] S (fun v S' => v = headV f k ∧ S = S') (fun _ _ => False) := by
  refine CallTo.of (n := 59) Tryz.func37 rfl rfl ?_
  by_cases hbig : 100000 < f.length
  · have e1 : intOp .gtr .i64 (f.length : Int) 100000 = some (.bool true) := gtr_i (decide_eq_true (by omega))
    repeat' first
     | refine Opl.val (op_int rfl rfl rfl e1) rfl ?_
     | refine Go.condT rfl ?_
     | refine .std ?_ | refine .nil ?_ | refine .seq ?_ | refine .region ?_ | refine .xs ?_ | refine .kb ?_ | refine .leaf ?_ | refine .block ?_ | refine .gn ?_ | refine .dr ?_ | fail
    refine At.fnr rfl rfl rfl ⟨?_, rfl⟩
    unfold headV; rw [if_pos hbig]; rfl
  have e1 : intOp .gtr .i64 (f.length : Int) 100000 = some (.bool false) := gtr_i (decide_eq_false (by omega))
  have hbs : buildSliceE Tryz.prog 73 2 [(0, .int .u8 k.toNat), (1, .int .u8 1)] = some (.list (some 5) 1 (ofBytes [k, 1]) .exact) := by kernel_rfl
  have hconv : ∀ U, convertE Tryz.prog 73 9 (.list (some 5) 1 (ofBytes [k, 1]) .exact) U = some (.str [k, 1], U) := fun U => conv_bytes (toBytes_of [k, 1])
  have a0 : strOp .add [82, 69] [k, 1] = some (.str (hdr k)) := str_add (by simp)
  have hh : headV f k = match outP f k with
    | some i => .tup [.int .i64 (i : Nat), .int .i64 11]
    | none => .tup [.int .i64 0, .int .i64 0] := by unfold headV; rw [if_neg hbig]
  rw [hh]
  repeat' first
   | refine Opl.val (op_int rfl rfl rfl e1) rfl ?_
   | refine Go.condF rfl ?_
   | refine Opl.val (op_bs2 rfl rfl hbs) rfl ?_
   | refine Opl.val (op_conv rfl (hconv _)) rfl ?_
   | refine Opl.val (op_str rfl rfl a0) rfl ?_
   | refine Go.holdB ?_
   | refine .std ?_ | refine .nil ?_ | refine .seq ?_ | refine .region ?_ | refine .xs ?_ | refine .kb ?_ | refine .leaf ?_ | refine .block ?_ | refine .gn ?_ | refine .dr ?_ | fail
  refine ⟨?_⟩
  refine Go.block ?_
  refine Go.joinK (fun E S' => S = S' ∧ Sub [(0, .str f)] E ∧ ∀ j, j < 4 → f[j]? = (hdr k)[j]?) ?_ (fun hj => ?_)
  · rintro E S' ⟨rfl, hE, hok⟩
    refine Go.weaken ?_ hE
    have hfn := find_none hok
    by_cases h12 : f.length < 12
    · have f1 : intOp .lss .i64 (f.length : Int) 12 = some (.bool true) := lss_i (decide_eq_true (by omega))
      have hout : outP f k = some 4 := by
        unfold outP
        rw [hfn]
        simp only
        rw [if_pos (.inl h12)]
      repeat' first
       | refine Go.draw [0, 1, 3, 7, 15, 31, 15, 79, 207, 463, 1023, 2047] [0, 1, 2, 3, 6, 7, 8, 9, 4, 5, 10, 11] (by kernel_rfl) (fun _ => True) ?_
       | refine .std ?_ | refine .nil ?_ | refine .seq ?_ | refine .region ?_ | refine .xs ?_ | refine .kb ?_ | refine .leaf ?_ | refine .block ?_ | refine .gn ?_ | refine .dr ?_ | fail
      refine Drw.c0 rfl rfl (op_move rfl) rfl ?_
      refine Drw.c0 rfl rfl (op_lenS rfl rfl) rfl ?_
      refine Drw.c0 rfl rfl (op_int rfl rfl rfl f1) rfl ?_
      refine Drw.c0 rfl rfl (op_move rfl) rfl ?_
      refine Drw.gn rfl rfl ?_
      refine Drw.gn rfl rfl ?_
      refine Drw.gn rfl rfl ?_
      refine Drw.gn rfl rfl ?_
      refine Drw.gn rfl rfl ?_
      refine Drw.gn rfl rfl ?_
      refine Drw.gn rfl rfl ?_
      refine Drw.c0 rfl rfl (op_pickT rfl rfl) rfl ?_
      refine Drw.nil (At.seq ?_)
      repeat' first
       | refine Go.condT rfl ?_
       | refine .std ?_ | refine .nil ?_ | refine .seq ?_ | refine .region ?_ | refine .xs ?_ | refine .kb ?_ | refine .leaf ?_ | refine .block ?_ | refine .gn ?_ | refine .dr ?_ | fail
      refine At.fnr rfl rfl rfl ⟨?_, rfl⟩
      rw [hout]; rfl
    · have f1 : intOp .lss .i64 (f.length : Int) 12 = some (.bool false) := lss_i (decide_eq_false (by omega))
      have f2 : intOp .sub .i64 (f.length : Int) 12 = some (.int .i64 ((f.length - 12 : Nat) : Int)) := by
        simp only [intOp]; rw [wrap_i64_id (by constructor <;> omega)]; congr 2; omega
      have f5 : intOp .sub .i64 (f.length : Int) 4 = some (.int .i64 ((f.length - 4 : Nat) : Int)) := by
        simp only [intOp]; rw [wrap_i64_id (by constructor <;> omega)]; congr 2; omega
      have hs48 : ∀ {ev : Operand → Option V} {x : Operand}, ev x = some (.str f) → ev (.const (.int .i64 4)) = some (.int .i64 (4 : Nat)) → ev (.const (.int .i64 8)) = some (.int .i64 (8 : Nat)) → opE Tryz.prog (.slice 9 x (some (.const (.int .i64 4))) (some (.const (.int .i64 8))) none) ev S = some (.str (slc f 4 8), S) := fun h1 h2 h3 => op_slcS h1 h2 h3 (by omega) (by omega)
      have hfour : CallTo Tryz.prog 72 [.int .i64 ((f.length - 12 : Nat) : Int)] S (fun v S' => v = .str (be4 (f.length - 12)) ∧ S = S') (fun _ _ => False) := (four72 (f.length - 12) (by omega) S).mono (fun _ _ h => ⟨h.1, h.2.symm⟩) (fun _ _ h => h)
      obtain ⟨q1, hq1⟩ : ∃ q, decide (slc f 4 8 ≠ be4 (f.length - 12)) = q := ⟨_, rfl⟩
      have f3 := str_neqD hq1
      repeat' first
       | refine Go.draw [0, 1, 3, 7, 15, 31, 15, 79, 207, 463, 1023, 2047] [0, 1, 2, 3, 6, 7, 8, 9, 4, 5, 10, 11] (by kernel_rfl) (fun U => S = U) ?_
       | refine .std ?_ | refine .nil ?_ | refine .seq ?_ | refine .region ?_ | refine .xs ?_ | refine .kb ?_ | refine .leaf ?_ | refine .block ?_ | refine .gn ?_ | refine .dr ?_ | fail
      refine Drw.c0 rfl rfl (op_move rfl) rfl ?_
      refine Drw.c0 rfl rfl (op_lenS rfl rfl) rfl ?_
      refine Drw.c0 rfl rfl (op_int rfl rfl rfl f1) rfl ?_
      refine Drw.c0 rfl rfl (op_move rfl) rfl ?_
      refine Drw.c0 rfl rfl (op_move rfl) rfl ?_
      refine Drw.c0 rfl rfl (op_lenS rfl rfl) rfl ?_
      refine Drw.c0 rfl rfl (op_int rfl rfl rfl f2) rfl ?_
      refine Drw.call rfl rfl (by kernel_rfl) hfour rfl (fun v U ⟨hv, hU⟩ => ⟨hU, ?_⟩)
      subst hv hU
      refine Drw.c0 rfl rfl (op_move rfl) rfl ?_
      refine Drw.c0 rfl rfl (hs48 rfl rfl rfl) rfl ?_
      refine Drw.c0 rfl rfl (op_str rfl rfl f3) rfl ?_
      refine Drw.c0 rfl rfl (op_pickF rfl rfl) rfl ?_
      refine Drw.nil (At.seq ?_)
      cases q1
      · have hh := of_decide_eq_false hq1
        have hh : slc f 4 8 = be4 (f.length - 12) := Classical.not_not.mp hh
        have hsum : CallTo Tryz.prog 73 [.str (f.take (f.length - 4))] S (fun v S' => v = .int .i64 (sumOf (f.take (f.length - 4)) : Nat) ∧ S = S') (fun _ _ => False) := (sum73 _ (by simp; omega) S).mono (fun _ _ h => ⟨h.1, h.2.symm⟩) (fun _ _ h => h)
        have hfour2 : CallTo Tryz.prog 72 [.int .i64 (sumOf (f.take (f.length - 4)) : Nat)] S (fun v S' => v = .str (be4 (sumOf (f.take (f.length - 4)))) ∧ S = S') (fun _ _ => False) := (four72 (sumOf _) (sumOf_lt _) S).mono (fun _ _ h => ⟨h.1, h.2.symm⟩) (fun _ _ h => h)
        obtain ⟨q2, hq2⟩ : ∃ q, decide (slc f (f.length - 4) f.length ≠ be4 (sumOf (f.take (f.length - 4)))) = q := ⟨_, rfl⟩
        have f4 := str_neqD hq2
        repeat' first
         | refine Go.condF rfl ?_
         | refine Opl.val (op_int rfl rfl rfl f5) rfl ?_
         | refine Go.draw [0, 0, 3, 0, 0, 24, 56, 120, 255] [3, 4, 5, 6, 7, 0, 1, 2, 8] (by kernel_rfl) (fun U => S = U) ?_
         | refine .std ?_ | refine .nil ?_ | refine .seq ?_ | refine .region ?_ | refine .xs ?_ | refine .kb ?_ | refine .leaf ?_ | refine .block ?_ | refine .gn ?_ | refine .dr ?_ | fail
        refine Drw.c0 rfl rfl (op_move rfl) rfl ?_
        refine Drw.c0 rfl rfl (op_move rfl) rfl ?_
        refine Drw.c0 rfl rfl (op_slcHi rfl rfl (by omega)) rfl ?_
        refine Drw.call rfl rfl (by kernel_rfl) hsum rfl (fun v U ⟨hv, hU⟩ => ⟨hU, ?_⟩)
        subst hv hU
        refine Drw.call rfl rfl (by kernel_rfl) hfour2 rfl (fun v U ⟨hv, hU⟩ => ⟨hU, ?_⟩)
        subst hv hU
        refine Drw.c0 rfl rfl (op_move rfl) rfl ?_
        refine Drw.c0 rfl rfl (op_move rfl) rfl ?_
        refine Drw.c0 rfl rfl (op_slcLo rfl rfl (by omega)) rfl ?_
        refine Drw.c0 rfl rfl (op_str rfl rfl f4) rfl ?_
        refine Drw.nil (At.seq ?_)
        have hout : outP f k = if q2 = true then some (f.length - 4) else none := by
          unfold outP
          rw [hfn]
          simp only
          rw [if_neg (by intro h; rcases h with h | h; exact h12 h; exact h hh)]
          by_cases h : slc f (f.length - 4) f.length ≠ be4 (sumOf (f.take (f.length - 4)))
          · rw [if_pos h, if_pos (by rw [← hq2, decide_eq_true h])]
          · rw [if_neg h, if_neg (by rw [← hq2, decide_eq_false h]; simp)]
        rw [hout]
        cases q2
        · skip
          repeat' first
           | refine Go.condF rfl ?_
           | refine .std ?_ | refine .nil ?_ | refine .seq ?_ | refine .region ?_ | refine .xs ?_ | refine .kb ?_ | refine .leaf ?_ | refine .block ?_ | refine .gn ?_ | refine .dr ?_ | fail
          exact At.fnr rfl rfl rfl ⟨rfl, rfl⟩
        · skip
          repeat' first
           | refine Go.condT rfl ?_
           | refine .std ?_ | refine .nil ?_ | refine .seq ?_ | refine .region ?_ | refine .xs ?_ | refine .kb ?_ | refine .leaf ?_ | refine .block ?_ | refine .gn ?_ | refine .dr ?_ | fail
          exact At.fnr rfl rfl rfl ⟨rfl, rfl⟩
      · have hh := of_decide_eq_true hq1
        have hout : outP f k = some 4 := by
          unfold outP
          rw [hfn]
          simp only
          rw [if_pos (.inr hh)]
        repeat' first
         | refine Go.condT rfl ?_
         | refine .std ?_ | refine .nil ?_ | refine .seq ?_ | refine .region ?_ | refine .xs ?_ | refine .kb ?_ | refine .leaf ?_ | refine .block ?_ | refine .gn ?_ | refine .dr ?_ | fail
        refine At.fnr rfl rfl rfl ⟨?_, rfl⟩
        rw [hout]; rfl
  · refine Go.weaken (E' := [(0, .str f), (6, .str (hdr k)), (7, .int .i64 (0 : Nat))]) ?_ ⟨rfl, rfl, rfl, trivial⟩
    refine Go.loop_ind (α := Nat) (fun i => 4 - i) (fun i E S' => S = S' ∧ E = [(0, .str f), (6, .str (hdr k)), (7, .int .i64 (i : Nat))] ∧ i ≤ 4 ∧ ∀ j, j < i → f[j]? = (hdr k)[j]?) ?_ 0 _ _ ⟨rfl, rfl, by omega, fun j h => by omega⟩
    rintro i E S1 ⟨rfl, rfl, hi, hok⟩ IH
    by_cases h4 : i < 4
    · have f1 : intOp .lss .i64 (i : Int) 4 = some (.bool true) := lss_i (decide_eq_true (by omega))
      obtain ⟨w, hw, _⟩ := hdr_at k i h4
      by_cases hend : f.length ≤ i
      · have f2 : intOp .geq .i64 (i : Int) (f.length : Int) = some (.bool true) := geq_i (decide_eq_true (by omega))
        have hout : outP f k = some i := find_hdr h4 hok (by rw [hw, List.getElem?_eq_none hend]; simp)
        repeat' first
         | refine Opl.val (op_int rfl rfl rfl f1) rfl ?_
         | refine Opl.val (op_int rfl rfl rfl f2) rfl ?_
         | refine Go.condT rfl ?_
         | refine .std ?_ | refine .nil ?_ | refine .seq ?_ | refine .region ?_ | refine .xs ?_ | refine .kb ?_ | refine .leaf ?_ | refine .block ?_ | refine .gn ?_ | refine .dr ?_ | fail
        refine At.fnr rfl rfl rfl ⟨?_, rfl⟩
        rw [hout]; rfl
      · have f2 : intOp .geq .i64 (i : Int) (f.length : Int) = some (.bool false) := geq_i (decide_eq_false (by omega))
        obtain ⟨b, hb⟩ : ∃ b, f[i]? = some b := ⟨f[i], List.getElem?_eq_getElem (by omega)⟩
        by_cases hbw : b = w
        · subst hbw
          have f3 : intOp .neq .u8 (b.toNat : Int) (b.toNat : Int) = some (.bool false) := neq_i (by simp)
          repeat' first
           | refine op_gyes rfl ?_ rfl
           | refine Opl.val (op_int rfl rfl rfl f1) rfl ?_
           | refine Opl.val (op_int rfl rfl rfl f2) rfl ?_
           | refine Opl.val (op_idxS rfl rfl hb) rfl ?_
           | refine Opl.val (op_idxS rfl rfl hw) rfl ?_
           | refine Opl.val (op_int rfl rfl rfl f3) rfl ?_
           | refine Go.condT rfl ?_
           | refine Go.condF rfl ?_
           | refine Opl.val (op_int rfl rfl rfl (inc_ok (i := i) (by omega))) rfl ?_
           | refine .std ?_ | refine .nil ?_ | refine .seq ?_ | refine .region ?_ | refine .xs ?_ | refine .kb ?_ | refine .leaf ?_ | refine .block ?_ | refine .gn ?_ | refine .dr ?_ | fail
          refine (IH (i + 1) _ S (by omega) ⟨rfl, rfl, by omega, fun j hj => ?_⟩).weaken ⟨rfl, rfl, rfl, trivial⟩
          rcases Nat.lt_or_eq_of_le (Nat.lt_succ_iff.mp hj) with h | h
          · exact hok j h
          · subst h; rw [hb, hw]
        · have f3 : intOp .neq .u8 (b.toNat : Int) (w.toNat : Int) = some (.bool true) := neq_i (by
            rw [decide_eq_false]; rfl
            intro e; exact hbw (UInt8.toNat_inj.mp (by omega)))
          have hout : outP f k = some i := find_hdr h4 hok (by rw [hw, hb]; simpa using hbw)
          repeat' first
           | refine op_gyes rfl ?_ rfl
           | refine Opl.val (op_int rfl rfl rfl f1) rfl ?_
           | refine Opl.val (op_int rfl rfl rfl f2) rfl ?_
           | refine Opl.val (op_idxS rfl rfl hb) rfl ?_
           | refine Opl.val (op_idxS rfl rfl hw) rfl ?_
           | refine Opl.val (op_int rfl rfl rfl f3) rfl ?_
           | refine Go.condT rfl ?_
           | refine .std ?_ | refine .nil ?_ | refine .seq ?_ | refine .region ?_ | refine .xs ?_ | refine .kb ?_ | refine .leaf ?_ | refine .block ?_ | refine .gn ?_ | refine .dr ?_ | fail
          refine At.fnr rfl rfl rfl ⟨?_, rfl⟩
          rw [hout]; rfl
    · have hi4 : i = 4 := by omega
      subst hi4
      have f1 : intOp .lss .i64 ((4 : Nat) : Int) 4 = some (.bool false) := lss_i (decide_eq_false (by omega))
      repeat' first
       | refine Opl.val (op_int rfl rfl rfl f1) rfl ?_
       | refine Go.condF rfl ?_
       | exact hj _ _ ⟨rfl, ⟨rfl, trivial⟩, hok⟩
       | refine .std ?_ | refine .nil ?_ | refine .seq ?_ | refine .region ?_ | refine .xs ?_ | refine .kb ?_ | refine .leaf ?_ | refine .block ?_ | refine .gn ?_ | refine .dr ?_ | fail
theorem xbody (f : List UInt8) (h12 : 12 ≤ f.length) (hl : f.length ≤ 100000) (S : St) : CallTo Tryz.prog 38 [.str f] S (fun v S' => v = .ptr S.next 0 ∧ RSt S' S.next (f.take (f.length - 4)) (.ok 8) ∧ S' = S.new (.box 171 (rCells (f.take (f.length - 4)) (.ok 8)))) (fun _ _ => False) := by
  refine CallTo.of (n := 10) Tryz.func38 rfl rfl ?_
  have f5 : intOp .sub .i64 (f.length : Int) 4 = some (.int .i64 ((f.length - 4 : Nat) : Int)) := by
    simp only [intOp]; rw [wrap_i64_id (by constructor <;> omega)]; congr 2; omega
  have hbd : buildE Tryz.prog 171 [(0, .str (f.take (f.length - 4))), (1, .int .i64 8), (2, .int .i64 (-1))] = some (.agg (rCells (f.take (f.length - 4)) (.ok 8))) := by kernel_rfl
  repeat' first
   | refine Opl.val (op_int rfl rfl rfl f5) rfl ?_
   | refine Opl.val (op_slcHi rfl rfl (by omega)) rfl ?_
   | refine Opl.val (op_bd3 rfl rfl rfl hbd) rfl ?_
   | refine Opl.val (op_box rfl) rfl ?_
   | refine .std ?_ | refine .nil ?_ | refine .seq ?_ | refine .region ?_ | refine .xs ?_ | refine .kb ?_ | refine .leaf ?_ | refine .block ?_ | refine .gn ?_ | refine .dr ?_ | fail
  refine At.fnr rfl rfl rfl ⟨rfl, ⟨by simp [St.new], by simp; omega, fun i hi => by cases hi; simp; omega, by simp [St.new, Tr.find_put, V.cells]⟩, rfl⟩
def endV (s : List UInt8) : RS → V
  | .error b => .tup [.int .i64 (b : Nat), .int .i64 11]
  | .ok j => if j < s.length then .tup [.int .i64 (s.length : Nat), .int .i64 11] else .tup [.int .i64 0, .int .i64 0]
theorem xend {S : St} {c : Nat} {s : List UInt8} {r : RS} (h : RSt S c s r) : CallTo Tryz.prog 40 [.ptr c 0] S (fun v S' => v = endV s r ∧ Keep2 S S' c c) (fun _ _ => False) := by
  refine CallTo.of (n := 38) Tryz.func40 rfl rfl ?_
  have hpt := h.pt
  have hsm := h.small
  have hb := h.box
  cases r with
  | error b =>
    simp only [rCells] at hpt
    have e1 : intOp .lss .i64 (b : Int) 0 = some (.bool false) := lss_i (decide_eq_false (by omega))
    have e2 : intOp .geq .i64 (b : Int) 0 = some (.bool true) := geq_i (decide_eq_true (by omega))
    repeat' first
     | refine Opl.val (op_int rfl rfl rfl e1) rfl ?_
     | refine Opl.val (op_int rfl rfl rfl e2) rfl ?_
     | refine Go.condF rfl ?_
     | refine Go.condT rfl ?_
     | refine .std ?_ | refine .nil ?_ | refine .seq ?_ | refine .region ?_ | refine .xs ?_ | refine .kb ?_ | refine .leaf ?_ | refine .block ?_ | refine .gn ?_ | refine .dr ?_ | fail
    exact At.fnr rfl rfl rfl ⟨rfl, Keep2.refl _ _ _⟩
  | ok j =>
    simp only [rCells] at hpt
    by_cases hj : j < s.length
    · have e3 : intOp .lss .i64 (j : Int) (s.length : Int) = some (.bool true) := lss_i (decide_eq_true (by omega))
      have e2 : intOp .geq .i64 (s.length : Int) 0 = some (.bool true) := geq_i (decide_eq_true (by omega))
      obtain ⟨S1, hS1⟩ : ∃ S1 : St, S1 = { S with h := S.h.put c (.box 171 [.str s, .int .i64 (j : Nat), .int .i64 (s.length : Nat)]) } := ⟨_, rfl⟩
      have hst : storeE Tryz.prog 3 (.ptr c 2) (.int .i64 (s.length : Nat)) S = some S1 := by rw [hS1]; exact st_one hb rfl rfl
      have hpt1 : Pt S1 (.ptr c 0) [.str s, .int .i64 (j : Nat), .int .i64 (s.length : Nat)] := ⟨171, _, by rw [hS1]; simp only [Tr.find_put, if_true]; rfl, fun i v h => by simpa using h⟩
      repeat' first
       | refine op_gyes rfl ?_ rfl
       | refine Opl.val (op_int rfl rfl rfl e3) rfl ?_
       | refine Opl.val (op_int rfl rfl rfl e2) rfl ?_
       | refine Opl.eff (op_store rfl rfl hst) ?_
       | refine Go.condT rfl ?_
       | refine .std ?_ | refine .nil ?_ | refine .seq ?_ | refine .region ?_ | refine .xs ?_ | refine .kb ?_ | refine .leaf ?_ | refine .block ?_ | refine .gn ?_ | refine .dr ?_ | fail
      refine At.fnr rfl rfl rfl ⟨?_, by rw [hS1]; exact Keep2.put _ _ _ _⟩
      simp only [endV]; rw [if_pos hj]; rfl
    · have e3 : intOp .lss .i64 (j : Int) (s.length : Int) = some (.bool false) := lss_i (decide_eq_false (by omega))
      repeat' first
       | refine op_gyes rfl ?_ rfl
       | refine Opl.val (op_int rfl rfl rfl e3) rfl ?_
       | refine Go.condF rfl ?_
       | refine .std ?_ | refine .nil ?_ | refine .seq ?_ | refine .region ?_ | refine .xs ?_ | refine .kb ?_ | refine .leaf ?_ | refine .block ?_ | refine .gn ?_ | refine .dr ?_ | fail
      refine At.fnr rfl rfl rfl ⟨?_, Keep2.refl _ _ _⟩
      simp only [endV]; rw [if_neg hj]; rfl
end Go.Proofs.YtilldjgagokcfaaGreat
