import Derived.Test.YtilldjgagokcfaaGreatW2
set_option linter.unusedVariables false
set_option linter.unusedSimpArgs false
namespace Go.Ev
open Go.RowKit
theorem inc_ok {i : Nat} (h : i < 9223372036854775807) : intOp .add .i64 (i : Int) 1 = some (.int .i64 ((i + 1 : Nat) : Int)) := by
  have : IntKind.wrap .i64 ((i : Int) + 1) = ((i + 1 : Nat) : Int) := by rw [wrap_i64_id (by constructor <;> omega)]; rfl
  simp only [intOp, this]
theorem cells_isP {p : V} (h : isP p = true) : p.cells = [p] := by cases p <;> first | rfl | cases h
theorem Pt.cptr (S : St) (t : Option TypeId) (cs : List V) : Pt S (.cptr t cs 0) cs := fun i v h => by simpa using h
theorem encI_le {n : Int} (h : in64 n) : (encI n).length ≤ 10 := vb_ten (zig_lt h.1 h.2)
end Go.Ev
namespace Go.Proofs.YtilldjgagokcfaaGreat
open Go.RowKit Go.Ev
set_option maxRecDepth 100000
set_option linter.unusedVariables false
theorem CodW.ldReads {S : St} {c : Nat} {buf : List UInt8} (h : CodW S c buf) : loadE Tryz.prog 4 (padd (.ptr c 0) 4) S = some (.bool false) := by
  obtain ⟨a, l, hp, _⟩ := h.pt
  exact ld_one (hp.at 4 rfl)
theorem CodW.ldAt {S : St} {c : Nat} {buf : List UInt8} (h : CodW S c buf) : loadE Tryz.prog 3 (padd (.ptr c 0) 3) S = some (.int .i64 0) := by
  obtain ⟨a, l, hp, _⟩ := h.pt
  exact ld_one (hp.at 3 rfl)
theorem CodW.room {S : St} {c : Nat} {buf : List UInt8} (h : CodW S c buf) : buf.length ≤ 99988 := h.le
theorem Wrote.trans {A B C : St} {c : Nat} {buf b1 b2 : List UInt8} (h : Wrote A c buf b1 B) (k : Wrote B c (buf ++ b1) b2 C) : Wrote A c buf (b1 ++ b2) C :=
  ⟨by rw [← List.append_assoc]; exact k.1, h.2.trans k.2⟩
theorem Big.trans {A B C : St} {c : Nat} {buf b1 b2 : List UInt8} {v : V} (h : Wrote A c buf b1 B) (k : Big B c (buf ++ b1) b2 v C) : Big A c buf (b1 ++ b2) v C :=
  ⟨k.1, by have := k.2.1; simp at this ⊢; omega, h.2.trans k.2.2⟩
theorem Big.more {A B : St} {c : Nat} {buf b1 b2 : List UInt8} {v : V} (h : Big A c buf b1 v B) : Big A c buf (b1 ++ b2) v B :=
  ⟨h.1, by have := h.2.1; simp; omega, h.2.2⟩
theorem CodW.ints {S : St} {c : Nat} {buf : List UInt8} (h : CodW S c buf) (lt : Option TypeId) (tk : Tk) (ws : List (V × Int)) (hws : ∀ w ∈ ws, Src S c w.1 [.int .i64 w.2] ∧ in64 w.2) (hl : ws.length < 1000) :
    WrTo 77 [.ptr c 0, .list lt 1 (ws.map Prod.fst) tk] S c buf (ws.flatMap fun w => encI w.2) (fun _ => True) := by
  refine CallTo.of (n := 26) Tryz.func77 rfl rfl ?_
  repeat' first
   | refine Opl.val (op_lenL rfl rfl rfl) rfl ?_
   | refine .std ?_ | refine .nil ?_ | refine .seq ?_ | refine .region ?_ | refine .xs ?_ | refine .kb ?_ | refine .leaf ?_ | refine .block ?_ | refine .gn ?_ | refine .dr ?_ | fail
  have hE : Sub [(0, .ptr c 0), (7, .list lt 1 (ws.map Prod.fst) tk), (8, .int .i64 ws.length), (9, .int .i64 (0 : Nat))] ((9, V.int .i64 0) :: (8, V.int .i64 ↑(elems (.list lt 1 (ws.map Prod.fst) tk)).length) :: (7, .list lt 1 (ws.map Prod.fst) tk) :: envOf 0 [.ptr c 0, .list lt 1 (ws.map Prod.fst) tk]) :=
    ⟨rfl, rfl, by simp [Env.get, elems], rfl, trivial⟩
  refine Go.weaken ?_ hE
  refine Go.loop_ind (α := Nat) (fun i => ws.length - i) (fun i E S' => E = [(0, .ptr c 0), (7, .list lt 1 (ws.map Prod.fst) tk), (8, .int .i64 ws.length), (9, .int .i64 i)] ∧ i ≤ ws.length ∧ Wrote S c buf ((ws.take i).flatMap fun w => encI w.2) S') ?_ 0 _ _ ⟨rfl, Nat.zero_le _, by simpa using h, by simpa using KeepB.refl _ _⟩
  rintro i E S1 ⟨rfl, hi, w1⟩ IH
  obtain ⟨h1, k1⟩ := w1
  repeat' first | refine .std ?_ | refine .nil ?_ | refine .seq ?_ | refine .region ?_ | refine .xs ?_ | refine .kb ?_ | refine .leaf ?_ | refine .block ?_ | refine .gn ?_ | refine .dr ?_ | fail
  refine Go.cond rfl (fun hq => ?_) (fun hq => ?_)
  · have hq : i < ws.length := by have := of_decide_eq_true hq; omega
    obtain ⟨hsrc, hin⟩ := hws ws[i] (List.getElem_mem hq)
    have hsrc1 := k1.src hsrc
    have hpt := hsrc1.pt
    have hisp := hpt.isP
    have hix : (ws.map Prod.fst)[i]? = some ws[i].1 := by simp [hq]
    have hpc : Pt S1 (.cptr none ws[i].1.cells 0) [ws[i].1] := by rw [cells_isP hisp]; exact Pt.cptr _ _ _
    have htake : (ws.take (i + 1)).flatMap (fun w => encI w.2) = (ws.take i).flatMap (fun w => encI w.2) ++ encI ws[i].2 := by
      rw [List.take_succ_eq_append_getElem hq, List.flatMap_append]; simp
    have hall : (ws.flatMap fun w => encI w.2) = (ws.take (i + 1)).flatMap (fun w => encI w.2) ++ (ws.drop (i + 1)).flatMap (fun w => encI w.2) := by
      rw [← List.flatMap_append, List.take_append_drop]
    repeat' first
     | refine Opl.val (op_ixaL rfl rfl hix) rfl ?_
     | refine Opl.callv rfl (by kernel_rfl) (h1.int ws[i].2 hin) rfl (fun S2 w2 => ?_) (fun v S2 hbig => ?_)
     | refine Opl.val (op_load rfl (CodW.ldReads (And.left (by assumption)))) rfl ?_
     | refine Opl.val (op_int rfl rfl rfl (inc_ok (i := i) (by omega))) rfl ?_
     | refine Go.condF rfl ?_
     | refine Go.condT hq' ?_
     | refine At.fnp rfl ?_
     | refine At.fn rfl rfl rfl ?_
     | refine .std ?_ | refine .nil ?_ | refine .seq ?_ | refine .region ?_ | refine .xs ?_ | refine .kb ?_ | refine .leaf ?_ | refine .block ?_ | refine .gn ?_ | refine .dr ?_ | fail
    · exact (IH (i + 1) _ S2 (by omega) ⟨rfl, by omega, by rw [htake]; exact Wrote.trans ⟨h1, k1⟩ w2⟩).weaken ⟨rfl, rfl, rfl, rfl, trivial⟩
    · rw [hall, htake]; exact (Big.trans ⟨h1, k1⟩ hbig).more
  · have hq : i = ws.length := by have := of_decide_eq_false hq; omega
    subst hq
    rw [List.take_length] at h1
    repeat' first
     | refine At.fn rfl rfl rfl ?_
     | refine .std ?_ | refine .nil ?_ | refine .seq ?_ | refine .region ?_ | refine .xs ?_ | refine .kb ?_ | refine .leaf ?_ | refine .block ?_ | refine .gn ?_ | refine .dr ?_ | fail
    exact ⟨trivial, h1, k1⟩
theorem CodW.length {S : St} {c : Nat} {buf : List UInt8} (h : CodW S c buf) (n : Int) (hn : in64 n) :
    WrTo 112 [.ptr c 0, .int .i64 n] S c buf (encI n) (fun v => v = .int .i64 n) := by
  refine CallTo.of (n := 42) Tryz.func112 rfl rfl ?_
  repeat' first
   | refine Opl.val (op_load rfl (CodW.ldReads (And.left (by assumption)))) rfl ?_
   | refine Opl.val (op_load rfl h.ldAt) rfl ?_
   | refine Opl.callv rfl (by kernel_rfl) (h.int n hn) rfl (fun S2 w2 => ?_) (fun v S2 hbig => ?_)
   | refine Go.condF rfl ?_
   | refine At.fnp rfl ?_
   | refine At.fnr rfl rfl rfl ?_
   | refine .std ?_ | refine .nil ?_ | refine .seq ?_ | refine .region ?_ | refine .xs ?_ | refine .kb ?_ | refine .leaf ?_ | refine .block ?_ | refine .gn ?_ | refine .dr ?_ | fail
  · exact ⟨rfl, w2⟩
  · exact hbig
theorem CodW.strings {S : St} {c : Nat} {buf : List UInt8} (h : CodW S c buf) (lt : Option TypeId) (tk : Tk) (ws : List (V × List UInt8)) (hws : ∀ w ∈ ws, Src S c w.1 [.str w.2] ∧ w.2.length < 4611686018427387904) (hl : ws.length < 1000) :
    WrTo 65 [.ptr c 0, .list lt 1 (ws.map Prod.fst) tk] S c buf (ws.flatMap fun w => encS w.2) (fun _ => True) := by
  refine CallTo.of (n := 67) Tryz.func65 rfl rfl ?_
  repeat' first
   | refine Opl.val (op_lenL rfl rfl rfl) rfl ?_
   | refine .std ?_ | refine .nil ?_ | refine .seq ?_ | refine .region ?_ | refine .xs ?_ | refine .kb ?_ | refine .leaf ?_ | refine .block ?_ | refine .gn ?_ | refine .dr ?_ | fail
  have hE : Sub [(0, .ptr c 0), (8, .list lt 1 (ws.map Prod.fst) tk), (9, .int .i64 ws.length), (10, .int .i64 (0 : Nat))] ((10, V.int .i64 0) :: (9, V.int .i64 ↑(elems (.list lt 1 (ws.map Prod.fst) tk)).length) :: (8, .list lt 1 (ws.map Prod.fst) tk) :: envOf 0 [.ptr c 0, .list lt 1 (ws.map Prod.fst) tk]) :=
    ⟨rfl, rfl, by simp [Env.get, elems], rfl, trivial⟩
  refine Go.weaken ?_ hE
  refine Go.loop_ind (α := Nat) (fun i => ws.length - i) (fun i E S' => E = [(0, .ptr c 0), (8, .list lt 1 (ws.map Prod.fst) tk), (9, .int .i64 ws.length), (10, .int .i64 i)] ∧ i ≤ ws.length ∧ Wrote S c buf ((ws.take i).flatMap fun w => encS w.2) S') ?_ 0 _ _ ⟨rfl, Nat.zero_le _, by simpa using h, by simpa using KeepB.refl _ _⟩
  rintro i E S1 ⟨rfl, hi, w1⟩ IH
  obtain ⟨h1, k1⟩ := w1
  repeat' first | refine .std ?_ | refine .nil ?_ | refine .seq ?_ | refine .region ?_ | refine .xs ?_ | refine .kb ?_ | refine .leaf ?_ | refine .block ?_ | refine .gn ?_ | refine .dr ?_ | fail
  refine Go.cond rfl (fun hq => ?_) (fun hq => ?_)
  · have hq : i < ws.length := by have := of_decide_eq_true hq; omega
    obtain ⟨w, hw⟩ : ∃ w, ws[i] = w := ⟨_, rfl⟩
    obtain ⟨hsrc, hin⟩ := hws w (hw ▸ List.getElem_mem hq)
    have hsrc1 := k1.src hsrc
    have hpt := hsrc1.pt
    have hisp := hpt.isP
    have hix : (ws.map Prod.fst)[i]? = some w.1 := by simp [hq, hw]
    have hpc : Pt S1 (.cptr none w.1.cells 0) [w.1] := by rw [cells_isP hisp]; exact Pt.cptr _ _ _
    have htake : (ws.take (i + 1)).flatMap (fun w => encS w.2) = (ws.take i).flatMap (fun w => encS w.2) ++ encS w.2 := by
      rw [List.take_succ_eq_append_getElem hq, hw, List.flatMap_append]; simp
    have hall : (ws.flatMap fun w => encS w.2) = (ws.take (i + 1)).flatMap (fun w => encS w.2) ++ (ws.drop (i + 1)).flatMap (fun w => encS w.2) := by
      rw [← List.flatMap_append, List.take_append_drop]
    repeat' first
     | refine Opl.val (op_ixaL rfl rfl hix) rfl ?_
     | refine Opl.callv rfl (by kernel_rfl) (h1.length (w.2.length : Nat) (by constructor <;> omega)) rfl (fun S2 w2 => ?_) (fun v S2 hbig => ?_)
     | refine Opl.val (op_load rfl (CodW.ldReads (And.left (by assumption)))) rfl ?_
     | refine Go.condF rfl ?_
     | refine At.fnp rfl ?_
     | refine .std ?_ | refine .nil ?_ | refine .seq ?_ | refine .region ?_ | refine .xs ?_ | refine .kb ?_ | refine .leaf ?_ | refine .block ?_ | refine .gn ?_ | refine .dr ?_ | fail
    · refine Go.weaken (E' := [(0, .ptr c 0), (8, .list lt 1 (ws.map Prod.fst) tk), (9, .int .i64 ws.length), (10, .int .i64 i), (5, w.1), (54, .int .i64 w.2.length), (55, .int .i64 (0 : Nat))]) ?_ ⟨rfl, rfl, rfl, rfl, rfl, rfl, rfl, trivial⟩
      refine Go.loop_ind (α := Nat) (fun j => w.2.length - j) (fun j E S' => E = [(0, .ptr c 0), (8, .list lt 1 (ws.map Prod.fst) tk), (9, .int .i64 ws.length), (10, .int .i64 i), (5, w.1), (54, .int .i64 w.2.length), (55, .int .i64 j)] ∧ j ≤ w.2.length ∧
        Wrote S1 c (buf ++ (ws.take i).flatMap fun w => encS w.2) (encI (w.2.length : Nat) ++ w.2.take j) S') ?_ 0 _ _ ⟨rfl, Nat.zero_le _, by simpa using w2.1, w2.2⟩
      rintro j E S3 ⟨rfl, hj, w3⟩ IH2
      obtain ⟨h3, k3⟩ := w3
      have hpt3 := (k3.src hsrc1).pt
      repeat' first | refine .std ?_ | refine .nil ?_ | refine .seq ?_ | refine .region ?_ | refine .xs ?_ | refine .kb ?_ | refine .leaf ?_ | refine .block ?_ | refine .gn ?_ | refine .dr ?_ | fail
      refine Go.cond rfl (fun hq2 => ?_) (fun hq2 => ?_)
      · have hq2 : j < w.2.length := by have := of_decide_eq_true hq2; omega
        have hch : w.2[j]? = some w.2[j] := List.getElem?_eq_getElem hq2
        have ht2 : w.2.take (j + 1) = w.2.take j ++ [w.2[j]] := List.take_succ_eq_append_getElem hq2
        repeat' first
         | refine Opl.val (op_idxS rfl rfl hch) rfl ?_
         | refine Opl.call rfl (by kernel_rfl) (h3.put w.2[j]) rfl (fun v S4 w4 => ?_) (fun v S4 hbig => ?_)
         | refine Opl.val (op_int rfl rfl rfl (inc_ok (i := j) (by omega))) rfl ?_
         | refine At.fnp rfl ?_
         | refine .std ?_ | refine .nil ?_ | refine .seq ?_ | refine .region ?_ | refine .xs ?_ | refine .kb ?_ | refine .leaf ?_ | refine .block ?_ | refine .gn ?_ | refine .dr ?_ | fail
        · exact (IH2 (j + 1) _ S4 (by omega) ⟨rfl, by omega, by rw [ht2, ← List.append_assoc]; exact Wrote.trans ⟨h3, k3⟩ w4.2⟩).weaken ⟨rfl, rfl, rfl, rfl, rfl, rfl, rfl, trivial⟩
        · rw [hall, htake]
          refine (Big.trans ⟨h1, k1⟩ ?_).more
          have : encS w.2 = (encI (w.2.length : Nat) ++ w.2.take j) ++ ([w.2[j]] ++ w.2.drop (j + 1)) := by
            unfold encS
            rw [List.append_assoc]
            congr 1
            rw [← List.append_assoc, ← ht2, List.take_append_drop]
          rw [this]
          exact Big.trans ⟨h3, k3⟩ hbig.more
      · have hq2 : j = w.2.length := by have := of_decide_eq_false hq2; omega
        subst hq2
        rw [List.take_length] at h3
        repeat' first
         | refine Opl.val (op_int rfl rfl rfl (inc_ok (i := i) (by omega))) rfl ?_
         | refine .std ?_ | refine .nil ?_ | refine .seq ?_ | refine .region ?_ | refine .xs ?_ | refine .kb ?_ | refine .leaf ?_ | refine .block ?_ | refine .gn ?_ | refine .dr ?_ | fail
        exact (IH (i + 1) _ S3 (by omega) ⟨rfl, by omega, by rw [htake]; exact Wrote.trans ⟨h1, k1⟩ ⟨h3, k3⟩⟩).weaken ⟨rfl, rfl, rfl, rfl, trivial⟩
    · rw [hall, htake]; exact (Big.trans ⟨h1, k1⟩ hbig.more).more
  · have hq : i = ws.length := by have := of_decide_eq_false hq; omega
    subst hq
    rw [List.take_length] at h1
    repeat' first
     | refine At.fn rfl rfl rfl ?_
     | refine .std ?_ | refine .nil ?_ | refine .seq ?_ | refine .region ?_ | refine .xs ?_ | refine .kb ?_ | refine .leaf ?_ | refine .block ?_ | refine .gn ?_ | refine .dr ?_ | fail
    exact ⟨trivial, h1, k1⟩
end Go.Proofs.YtilldjgagokcfaaGreat
