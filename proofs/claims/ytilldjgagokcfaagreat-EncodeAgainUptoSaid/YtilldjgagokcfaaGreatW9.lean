/-
  The writer: a struct's file.
-/
import Derived.Test.YtilldjgagokcfaaGreatW8
set_option linter.unusedVariables false
set_option linter.unusedSimpArgs false
namespace Go.Ev
open Go.RowKit

/-- The file of these bytes. -/
def fileOf (k : UInt8) (bs : List UInt8) : List UInt8 := ([82, 69, k, 1] ++ be4 bs.length ++ bs) ++ be4 (sumOf ([82, 69, k, 1] ++ be4 bs.length ++ bs))

/-- What writing returns: the file, or nothing and an error. -/
def fileV (k : UInt8) (bs : List UInt8) : V := if bs.length ≤ 99988 then .tup [.str (fileOf k bs), .int .i64 0] else .tup [.str [], .int .i64 3]

theorem KeepB.any {S S' : St} {c : Nat} (h : KeepB S S' c) (hc : S.next ≤ c) (c' : Nat) : KeepB S S' c' :=
  ⟨h.next, fun id t cs h1 _ h3 => h.box id t cs h1 (by omega) h3⟩

theorem str_add {a b : List UInt8} (h : a.length + b.length < 9223372036854775808) : strOp .add a b = some (.str (a ++ b)) := by
  simp only [strOp]
  rw [if_pos (Nat.ble_eq_true_of_le (by omega))]

end Go.Ev

namespace Go.Proofs.YtilldjgagokcfaaGreat
open Go.RowKit Go.Ev
set_option maxRecDepth 100000
set_option linter.unusedVariables false

theorem do55 {S : St} {c e q x d : Nat} {cs : List V} {bs : List UInt8} (h1 : S.h.find e = some (.box 95 [.func 44 [] []])) (h2 : S.h.find q = some (.box 102 [.ptr c 0]))
    (hs : Src S c (.ptr x 0) cs) (h : CodW S c []) (he : EncF d (sch 20) cs bs) : CallTo Tryz.prog 109 [.ptr e 0, .ptr q 0, .ptr x 0] S (fun _ S' => Wrote S c [] bs S') (Big S c [] bs) := by
  refine CallTo.of (n := 6) Tryz.func109 rfl rfl ?_
  repeat' first
   | refine Opl.val (op_load rfl (ld_box1 h1)) rfl ?_
   | refine Opl.val (op_load rfl (ld_box1 h2)) rfl ?_
   | refine Opl.call rfl (by kernel_rfl) (wAll d 20 (by decide) h he hs) rfl (fun v S1 w1 => ?_) (fun v S1 hbig => ?_)
   | refine At.fn rfl rfl rfl ?_
   | refine At.fnp rfl ?_
   | refine .std ?_ | refine .nil ?_ | refine .seq ?_ | refine .region ?_ | refine .xs ?_ | refine .kb ?_ | refine .leaf ?_ | refine .block ?_ | refine .gn ?_ | refine .dr ?_ | fail
  · exact w1.2
  · exact hbig

theorem write55 {d : Nat} {cs : List V} {bs : List UInt8} (he : EncF d (sch 20) cs bs) (k : UInt8) (S : St) :
    CallTo Tryz.prog 51 [.agg cs, .int .u8 k.toNat, .func 44 [] []] S (fun v S' => v = fileV k bs ∧ KeepB S S' S.next) (fun _ _ => False) := by
  refine CallTo.of (n := 45) Tryz.func51 rfl rfl ?_
  have hb0 : buildE Tryz.prog 109 [] = some (.agg [.nilp, .nils, .str [], .int .i64 0, .bool false]) := by kernel_rfl
  obtain ⟨S4, hS4⟩ : ∃ S4, S4 = (((S.new (.box 55 cs)).new (.box 95 [.func 44 [] []])).new (.box 109 [.nilp, .nils, .str [], .int .i64 0, .bool false])).new (.box 102 [.nilp]) := ⟨_, rfl⟩
  have hf3 : S4.h.find (S.next + 3) = some (.box 102 [.nilp]) := by rw [hS4]; simp [St.new, Tr.find_put]
  obtain ⟨S5, hS5⟩ : ∃ S5 : St, S5 = { S4 with h := S4.h.put (S.next + 3) (.box 102 [.ptr (S.next + 2) 0]) } := ⟨_, rfl⟩
  have hst : storeE Tryz.prog 102 (.ptr (S.next + 3) 0) (.ptr (S.next + 2) 0) S4 = some S5 := by rw [hS5]; exact st_one hf3 rfl rfl
  have hsame : Same S S5 := by
    rw [hS5, hS4]
    exact ((((Same.new _ _).trans (Same.new _ _)).trans (Same.new _ _)).trans (Same.new _ _)).put (by omega) _
  have hn5 : S5.next = S.next + 4 := by rw [hS5, hS4]; rfl
  have g0 : S5.h.find S.next = some (.box 55 cs) := by
    rw [hS5, hS4]; simp only [St.new, Tr.find_put]
    simp only [if_neg (show ¬ S.next = S.next + 3 by omega), if_neg (show ¬ S.next = S.next + 1 + 1 + 1 by omega), if_neg (show ¬ S.next = S.next + 1 + 1 by omega), if_neg (show ¬ S.next = S.next + 1 by omega), if_true]
  have g1 : S5.h.find (S.next + 1) = some (.box 95 [.func 44 [] []]) := by rw [hS5, hS4]; simp [St.new, Tr.find_put]
  have g2 : S5.h.find (S.next + 2) = some (.box 109 [.nilp, .nils, .str [], .int .i64 0, .bool false]) := by rw [hS5, hS4]; simp [St.new, Tr.find_put]
  have g3 : S5.h.find (S.next + 3) = some (.box 102 [.ptr (S.next + 2) 0]) := by rw [hS5]; simp [Tr.find_put]
  have h5 : CodW S5 (S.next + 2) [] := ⟨by omega, by simp, _, _, g2, .inl rfl, .inl ⟨rfl, rfl⟩⟩
  have hcau := caughtW (g := 109) (by kernel_rfl) (caps := [.ptr (S.next + 1) 0, .ptr (S.next + 3) 0, .ptr S.next 0]) (bs := bs) h5 fun S0 k0 h0 =>
    do55 (k0.box _ _ _ (by omega) (by omega) g1) (k0.box _ _ _ (by omega) (by omega) g3) (k0.src ⟨⟨_, _, g0, fun i v h => by simpa using h⟩, by omega, by omega⟩) h0 he
  repeat' first
   | refine Opl.val (op_box rfl) rfl ?_
   | refine Opl.val (op_build0 hb0) rfl ?_
   | refine Opl.val op_alloc rfl ?_
   | refine Opl.cast (S' := S4) (Opl.eff (op_store rfl rfl hst) ?_) hS4
   | refine Opl.call rfl (by kernel_rfl) hcau rfl (fun v S6 ⟨k6, hv⟩ => ?_) (fun _ _ hf => hf.elim)
   | refine .std ?_ | refine .nil ?_ | refine .seq ?_ | refine .region ?_ | refine .xs ?_ | refine .kb ?_ | refine .leaf ?_ | refine .block ?_ | refine .gn ?_ | refine .dr ?_ | fail
  have kall : KeepB S S6 S.next := ((hsame.keepB _).trans k6).any (by omega) _
  rcases hv with ⟨rfl, h6⟩ | ⟨rfl, hbig⟩
  · have hle : bs.length ≤ 99988 := h6.le
    have g36 := k6.box _ _ _ (by omega) (by omega) g3
    have hn6 := k6.next
    have hhead := heading k S6
    repeat' first
     | refine Opl.val (op_int (v := .bool false) rfl rfl rfl rfl) rfl ?_
     | refine Go.condF rfl ?_
     | refine Opl.call rfl (by kernel_rfl) hhead rfl (fun v S7 ⟨hv, s7⟩ => ?_) (fun _ _ hf => hf.elim)
     | refine .std ?_ | refine .nil ?_ | refine .seq ?_ | refine .region ?_ | refine .xs ?_ | refine .kb ?_ | refine .leaf ?_ | refine .block ?_ | refine .gn ?_ | refine .dr ?_ | fail
    subst hv
    obtain ⟨S8, hS8⟩ : ∃ S8, S8 = S7.new (.box 113 [V.int .u8 0, V.int .u8 0, V.int .u8 0, V.int .u8 0]) := ⟨_, rfl⟩
    have hf8 : S8.h.find S7.next = some (.box 113 [V.int .u8 0, V.int .u8 0, V.int .u8 0, V.int .u8 0]) := by rw [hS8]; simp [St.new, Tr.find_put]
    obtain ⟨S9, hS9⟩ : ∃ S9 : St, S9 = { S8 with h := S8.h.put S7.next (.box 113 (ofBytes [82, 69, k, 1])) } := ⟨_, rfl⟩
    have hst9 : storeE Tryz.prog 113 (.ptr S7.next 0) (.agg (ofBytes [82, 69, k, 1])) S8 = some S9 := by rw [hS9]; exact st_agg hf8 rfl rfl rfl
    have s9 : Same S6 S9 := by rw [hS9, hS8]; exact (s7.trans (Same.new _ _)).put s7.next _
    have hf9 : S9.h.find S7.next = some (.box 113 (ofBytes [82, 69, k, 1])) := by rw [hS9]; simp [Tr.find_put]
    have h9 : CodW S9 (S.next + 2) bs := h6.same s9
    have g39 : S9.h.find (S.next + 3) = some (.box 102 [.ptr (S.next + 2) 0]) := by rw [s9.find _ (by omega)]; exact g36
    have hn7 := s7.next
    have hn9 : S7.next < S9.next := by rw [hS9, hS8]; simp [St.new]
    have hpl : ∀ id, sliceE Tryz.prog 113 (.ptr id 0) none none none = some (.arr id 0 4 4) := by intro id; kernel_rfl
    repeat' first
     | refine Opl.val op_alloc rfl ?_
     | refine Opl.cast (S' := S8) (Opl.eff (op_store rfl rfl hst9) ?_) hS8
     | refine Go.draw [0, 1, 0, 4, 12, 28, 60, 124, 255, 0, 512, 1536, 3584, 7932, 16383, 32767] [2, 3, 4, 5, 6, 7, 9, 10, 11, 12, 13, 0, 1, 8, 14, 15] (by kernel_rfl) (fun U => CodW U (S.next + 2) bs ∧ Same S9 U) ?_
     | refine .std ?_ | refine .nil ?_ | refine .seq ?_ | refine .region ?_ | refine .xs ?_ | refine .kb ?_ | refine .leaf ?_ | refine .block ?_ | refine .gn ?_ | refine .dr ?_ | fail
    have hI9 : CodW S9 (S.next + 2) bs ∧ Same S9 S9 := ⟨h9, Same.refl _⟩
    have hlen : CallTo Tryz.prog 57 [.ptr (S.next + 2) 0] S9 (fun v S' => v = .int .i64 bs.length ∧ S9 = S') (fun _ _ => False) := h9.len.mono (fun _ _ h => ⟨h.1, h.2.symm⟩) (fun _ _ h => h)
    have hfour := four56 bs.length S9
    repeat' first
      | refine Drw.c2 rfl rfl hI9 (by assumption) (fun U hU => op_load rfl (ld_box1 ((hU.2.find (S.next + 3) (by omega)).trans g39))) rfl ?_
      | refine Drw.c0 rfl rfl (op_nilP rfl rfl) rfl ?_
      | refine Drw.c0 rfl rfl (op_fld2 rfl rfl) rfl ?_
      | refine Drw.c0 rfl rfl (op_fld rfl rfl) rfl ?_
      | refine Drw.call rfl rfl (by kernel_rfl) hlen rfl (fun v U ⟨hv, hU⟩ => ⟨by rw [← hU]; exact hI9, ?_⟩)
    subst hv hU
    refine Drw.call rfl rfl (by kernel_rfl) hfour rfl (fun v U ⟨hv, hU⟩ => ⟨⟨h9.same hU, hU⟩, ?_⟩)
    subst hv
    have hIU : CodW U (S.next + 2) bs ∧ Same S9 U := ⟨h9.same hU, hU⟩
    have hstr : CallTo Tryz.prog 58 [.ptr (S.next + 2) 0] U (fun v S' => v = .str bs ∧ U = S') (fun _ _ => False) := (h9.same hU).str.mono (fun _ _ h => ⟨h.1, h.2.symm⟩) (fun _ _ h => h)
    repeat' first
      | refine Drw.c2 rfl rfl hI9 hIU (fun U hU => op_load rfl (ld_box1 ((hU.2.find (S.next + 3) (by omega)).trans g39))) rfl ?_
      | refine Drw.c0 rfl rfl (op_nilP rfl rfl) rfl ?_
      | refine Drw.c0 rfl rfl (op_fld2 rfl rfl) rfl ?_
      | refine Drw.c0 rfl rfl (op_fld rfl rfl) rfl ?_
    refine Drw.call rfl rfl (by kernel_rfl) hstr rfl (fun v U2 ⟨hv, hU2⟩ => ⟨by rw [← hU2]; exact hIU, ?_⟩)
    subst hv hU2
    have hrd : ∀ W, Same S9 W → rd W (.ptr S7.next 0) 4 = some (ofBytes [82, 69, k, 1]) := fun W hW => by
      simp only [rd, hW.find _ hn9, hf9]; rfl
    have a1 : strOp .add [82, 69, k, 1] (be4 bs.length) = some (.str ([82, 69, k, 1] ++ be4 bs.length)) := str_add (by simp [be4])
    have a2 : strOp .add ([82, 69, k, 1] ++ be4 bs.length) bs = some (.str ([82, 69, k, 1] ++ be4 bs.length ++ bs)) := str_add (by simp [be4]; omega)
    refine Drw.c0 rfl rfl (op_slc rfl (hpl _)) rfl ?_
    refine Drw.c2 rfl rfl hI9 hIU (fun W hW => op_conv rfl (conv_bytesA (hrd W hW.2) (toBytes_of [82, 69, k, 1]))) rfl ?_
    refine Drw.c0 rfl rfl (op_str rfl rfl a1) rfl ?_
    refine Drw.c0 rfl rfl (op_str rfl rfl a2) rfl ?_
    refine Drw.c0 rfl rfl (op_assign rfl) rfl ?_
    refine Drw.nil (At.seq ?_)
    obtain ⟨fl, hfl⟩ : ∃ fl, fl = [82, 69, k, 1] ++ be4 bs.length ++ bs := ⟨_, rfl⟩
    have hfll : fl.length ≤ 100000 := by rw [hfl]; simp [be4]; omega
    rw [← hfl]
    have hsum : CallTo Tryz.prog 35 [.str fl] U (fun v S' => v = .int .i64 (sumOf fl : Nat) ∧ U = S') (fun _ _ => False) := (sum35 fl (by omega) U).mono (fun _ _ h => ⟨h.1, h.2.symm⟩) (fun _ _ h => h)
    have a3 : strOp .add fl (be4 (sumOf fl)) = some (.str (fl ++ be4 (sumOf fl))) := str_add (by simp [be4]; omega)
    repeat' first
     | refine Opl.callv rfl (by kernel_rfl) hsum rfl (fun W hW => ?_) (fun _ _ hf => hf.elim)
     | refine Opl.callv rfl (by kernel_rfl) (four56 (sumOf fl) _) rfl (fun W2 hW2 => ?_) (fun _ _ hf => hf.elim)
     | refine Opl.val (op_str rfl rfl a3) rfl ?_
     | refine .std ?_ | refine .nil ?_ | refine .seq ?_ | refine .region ?_ | refine .xs ?_ | refine .kb ?_ | refine .leaf ?_ | refine .block ?_ | refine .gn ?_ | refine .dr ?_ | fail
    subst hW
    refine At.fnr rfl rfl rfl ⟨?_, ?_⟩
    · unfold fileV fileOf; rw [if_pos hle, ← hfl]; rfl
    · exact kall.trans (((s9.trans hU).trans hW2).keepB _)
  · skip
    repeat' first
     | refine Opl.val (op_int (v := .bool true) rfl rfl rfl rfl) rfl ?_
     | refine Go.condT rfl ?_
     | refine .std ?_ | refine .nil ?_ | refine .seq ?_ | refine .region ?_ | refine .xs ?_ | refine .kb ?_ | refine .leaf ?_ | refine .block ?_ | refine .gn ?_ | refine .dr ?_ | fail
    refine At.fnr rfl rfl rfl ⟨?_, kall⟩
    unfold fileV; rw [if_neg (by omega)]; rfl

theorem do62 {S : St} {c e q x d : Nat} {cs : List V} {bs : List UInt8} (h1 : S.h.find e = some (.box 98 [.func 48 [] []])) (h2 : S.h.find q = some (.box 102 [.ptr c 0]))
    (hs : Src S c (.ptr x 0) cs) (h : CodW S c []) (he : EncF d (sch 2) cs bs) : CallTo Tryz.prog 110 [.ptr e 0, .ptr q 0, .ptr x 0] S (fun _ S' => Wrote S c [] bs S') (Big S c [] bs) := by
  refine CallTo.of (n := 6) Tryz.func110 rfl rfl ?_
  repeat' first
   | refine Opl.val (op_load rfl (ld_box1 h1)) rfl ?_
   | refine Opl.val (op_load rfl (ld_box1 h2)) rfl ?_
   | refine Opl.call rfl (by kernel_rfl) (wAll d 2 (by decide) h he hs) rfl (fun v S1 w1 => ?_) (fun v S1 hbig => ?_)
   | refine At.fn rfl rfl rfl ?_
   | refine At.fnp rfl ?_
   | refine .std ?_ | refine .nil ?_ | refine .seq ?_ | refine .region ?_ | refine .xs ?_ | refine .kb ?_ | refine .leaf ?_ | refine .block ?_ | refine .gn ?_ | refine .dr ?_ | fail
  · exact w1.2
  · exact hbig

theorem write62 {d : Nat} {cs : List V} {bs : List UInt8} (he : EncF d (sch 2) cs bs) (k : UInt8) (S : St) :
    CallTo Tryz.prog 52 [.agg cs, .int .u8 k.toNat, .func 48 [] []] S (fun v S' => v = fileV k bs ∧ KeepB S S' S.next) (fun _ _ => False) := by
  refine CallTo.of (n := 45) Tryz.func52 rfl rfl ?_
  have hb0 : buildE Tryz.prog 109 [] = some (.agg [.nilp, .nils, .str [], .int .i64 0, .bool false]) := by kernel_rfl
  obtain ⟨S4, hS4⟩ : ∃ S4, S4 = (((S.new (.box 62 cs)).new (.box 98 [.func 48 [] []])).new (.box 109 [.nilp, .nils, .str [], .int .i64 0, .bool false])).new (.box 102 [.nilp]) := ⟨_, rfl⟩
  have hf3 : S4.h.find (S.next + 3) = some (.box 102 [.nilp]) := by rw [hS4]; simp [St.new, Tr.find_put]
  obtain ⟨S5, hS5⟩ : ∃ S5 : St, S5 = { S4 with h := S4.h.put (S.next + 3) (.box 102 [.ptr (S.next + 2) 0]) } := ⟨_, rfl⟩
  have hst : storeE Tryz.prog 102 (.ptr (S.next + 3) 0) (.ptr (S.next + 2) 0) S4 = some S5 := by rw [hS5]; exact st_one hf3 rfl rfl
  have hsame : Same S S5 := by
    rw [hS5, hS4]
    exact ((((Same.new _ _).trans (Same.new _ _)).trans (Same.new _ _)).trans (Same.new _ _)).put (by omega) _
  have hn5 : S5.next = S.next + 4 := by rw [hS5, hS4]; rfl
  have g0 : S5.h.find S.next = some (.box 62 cs) := by
    rw [hS5, hS4]; simp only [St.new, Tr.find_put]
    simp only [if_neg (show ¬ S.next = S.next + 3 by omega), if_neg (show ¬ S.next = S.next + 1 + 1 + 1 by omega), if_neg (show ¬ S.next = S.next + 1 + 1 by omega), if_neg (show ¬ S.next = S.next + 1 by omega), if_true]
  have g1 : S5.h.find (S.next + 1) = some (.box 98 [.func 48 [] []]) := by rw [hS5, hS4]; simp [St.new, Tr.find_put]
  have g2 : S5.h.find (S.next + 2) = some (.box 109 [.nilp, .nils, .str [], .int .i64 0, .bool false]) := by rw [hS5, hS4]; simp [St.new, Tr.find_put]
  have g3 : S5.h.find (S.next + 3) = some (.box 102 [.ptr (S.next + 2) 0]) := by rw [hS5]; simp [Tr.find_put]
  have h5 : CodW S5 (S.next + 2) [] := ⟨by omega, by simp, _, _, g2, .inl rfl, .inl ⟨rfl, rfl⟩⟩
  have hcau := caughtW (g := 110) (by kernel_rfl) (caps := [.ptr (S.next + 1) 0, .ptr (S.next + 3) 0, .ptr S.next 0]) (bs := bs) h5 fun S0 k0 h0 =>
    do62 (k0.box _ _ _ (by omega) (by omega) g1) (k0.box _ _ _ (by omega) (by omega) g3) (k0.src ⟨⟨_, _, g0, fun i v h => by simpa using h⟩, by omega, by omega⟩) h0 he
  repeat' first
   | refine Opl.val (op_box rfl) rfl ?_
   | refine Opl.val (op_build0 hb0) rfl ?_
   | refine Opl.val op_alloc rfl ?_
   | refine Opl.cast (S' := S4) (Opl.eff (op_store rfl rfl hst) ?_) hS4
   | refine Opl.call rfl (by kernel_rfl) hcau rfl (fun v S6 ⟨k6, hv⟩ => ?_) (fun _ _ hf => hf.elim)
   | refine .std ?_ | refine .nil ?_ | refine .seq ?_ | refine .region ?_ | refine .xs ?_ | refine .kb ?_ | refine .leaf ?_ | refine .block ?_ | refine .gn ?_ | refine .dr ?_ | fail
  have kall : KeepB S S6 S.next := ((hsame.keepB _).trans k6).any (by omega) _
  rcases hv with ⟨rfl, h6⟩ | ⟨rfl, hbig⟩
  · have hle : bs.length ≤ 99988 := h6.le
    have g36 := k6.box _ _ _ (by omega) (by omega) g3
    have hn6 := k6.next
    have hhead := heading k S6
    repeat' first
     | refine Opl.val (op_int (v := .bool false) rfl rfl rfl rfl) rfl ?_
     | refine Go.condF rfl ?_
     | refine Opl.call rfl (by kernel_rfl) hhead rfl (fun v S7 ⟨hv, s7⟩ => ?_) (fun _ _ hf => hf.elim)
     | refine .std ?_ | refine .nil ?_ | refine .seq ?_ | refine .region ?_ | refine .xs ?_ | refine .kb ?_ | refine .leaf ?_ | refine .block ?_ | refine .gn ?_ | refine .dr ?_ | fail
    subst hv
    obtain ⟨S8, hS8⟩ : ∃ S8, S8 = S7.new (.box 113 [V.int .u8 0, V.int .u8 0, V.int .u8 0, V.int .u8 0]) := ⟨_, rfl⟩
    have hf8 : S8.h.find S7.next = some (.box 113 [V.int .u8 0, V.int .u8 0, V.int .u8 0, V.int .u8 0]) := by rw [hS8]; simp [St.new, Tr.find_put]
    obtain ⟨S9, hS9⟩ : ∃ S9 : St, S9 = { S8 with h := S8.h.put S7.next (.box 113 (ofBytes [82, 69, k, 1])) } := ⟨_, rfl⟩
    have hst9 : storeE Tryz.prog 113 (.ptr S7.next 0) (.agg (ofBytes [82, 69, k, 1])) S8 = some S9 := by rw [hS9]; exact st_agg hf8 rfl rfl rfl
    have s9 : Same S6 S9 := by rw [hS9, hS8]; exact (s7.trans (Same.new _ _)).put s7.next _
    have hf9 : S9.h.find S7.next = some (.box 113 (ofBytes [82, 69, k, 1])) := by rw [hS9]; simp [Tr.find_put]
    have h9 : CodW S9 (S.next + 2) bs := h6.same s9
    have g39 : S9.h.find (S.next + 3) = some (.box 102 [.ptr (S.next + 2) 0]) := by rw [s9.find _ (by omega)]; exact g36
    have hn7 := s7.next
    have hn9 : S7.next < S9.next := by rw [hS9, hS8]; simp [St.new]
    have hpl : ∀ id, sliceE Tryz.prog 113 (.ptr id 0) none none none = some (.arr id 0 4 4) := by intro id; kernel_rfl
    repeat' first
     | refine Opl.val op_alloc rfl ?_
     | refine Opl.cast (S' := S8) (Opl.eff (op_store rfl rfl hst9) ?_) hS8
     | refine Go.draw [0, 1, 0, 4, 12, 28, 60, 124, 255, 0, 512, 1536, 3584, 7932, 16383, 32767] [2, 3, 4, 5, 6, 7, 9, 10, 11, 12, 13, 0, 1, 8, 14, 15] (by kernel_rfl) (fun U => CodW U (S.next + 2) bs ∧ Same S9 U) ?_
     | refine .std ?_ | refine .nil ?_ | refine .seq ?_ | refine .region ?_ | refine .xs ?_ | refine .kb ?_ | refine .leaf ?_ | refine .block ?_ | refine .gn ?_ | refine .dr ?_ | fail
    have hI9 : CodW S9 (S.next + 2) bs ∧ Same S9 S9 := ⟨h9, Same.refl _⟩
    have hlen : CallTo Tryz.prog 57 [.ptr (S.next + 2) 0] S9 (fun v S' => v = .int .i64 bs.length ∧ S9 = S') (fun _ _ => False) := h9.len.mono (fun _ _ h => ⟨h.1, h.2.symm⟩) (fun _ _ h => h)
    have hfour := four56 bs.length S9
    repeat' first
      | refine Drw.c2 rfl rfl hI9 (by assumption) (fun U hU => op_load rfl (ld_box1 ((hU.2.find (S.next + 3) (by omega)).trans g39))) rfl ?_
      | refine Drw.c0 rfl rfl (op_nilP rfl rfl) rfl ?_
      | refine Drw.c0 rfl rfl (op_fld2 rfl rfl) rfl ?_
      | refine Drw.c0 rfl rfl (op_fld rfl rfl) rfl ?_
      | refine Drw.call rfl rfl (by kernel_rfl) hlen rfl (fun v U ⟨hv, hU⟩ => ⟨by rw [← hU]; exact hI9, ?_⟩)
    subst hv hU
    refine Drw.call rfl rfl (by kernel_rfl) hfour rfl (fun v U ⟨hv, hU⟩ => ⟨⟨h9.same hU, hU⟩, ?_⟩)
    subst hv
    have hIU : CodW U (S.next + 2) bs ∧ Same S9 U := ⟨h9.same hU, hU⟩
    have hstr : CallTo Tryz.prog 58 [.ptr (S.next + 2) 0] U (fun v S' => v = .str bs ∧ U = S') (fun _ _ => False) := (h9.same hU).str.mono (fun _ _ h => ⟨h.1, h.2.symm⟩) (fun _ _ h => h)
    repeat' first
      | refine Drw.c2 rfl rfl hI9 hIU (fun U hU => op_load rfl (ld_box1 ((hU.2.find (S.next + 3) (by omega)).trans g39))) rfl ?_
      | refine Drw.c0 rfl rfl (op_nilP rfl rfl) rfl ?_
      | refine Drw.c0 rfl rfl (op_fld2 rfl rfl) rfl ?_
      | refine Drw.c0 rfl rfl (op_fld rfl rfl) rfl ?_
    refine Drw.call rfl rfl (by kernel_rfl) hstr rfl (fun v U2 ⟨hv, hU2⟩ => ⟨by rw [← hU2]; exact hIU, ?_⟩)
    subst hv hU2
    have hrd : ∀ W, Same S9 W → rd W (.ptr S7.next 0) 4 = some (ofBytes [82, 69, k, 1]) := fun W hW => by
      simp only [rd, hW.find _ hn9, hf9]; rfl
    have a1 : strOp .add [82, 69, k, 1] (be4 bs.length) = some (.str ([82, 69, k, 1] ++ be4 bs.length)) := str_add (by simp [be4])
    have a2 : strOp .add ([82, 69, k, 1] ++ be4 bs.length) bs = some (.str ([82, 69, k, 1] ++ be4 bs.length ++ bs)) := str_add (by simp [be4]; omega)
    refine Drw.c0 rfl rfl (op_slc rfl (hpl _)) rfl ?_
    refine Drw.c2 rfl rfl hI9 hIU (fun W hW => op_conv rfl (conv_bytesA (hrd W hW.2) (toBytes_of [82, 69, k, 1]))) rfl ?_
    refine Drw.c0 rfl rfl (op_str rfl rfl a1) rfl ?_
    refine Drw.c0 rfl rfl (op_str rfl rfl a2) rfl ?_
    refine Drw.c0 rfl rfl (op_assign rfl) rfl ?_
    refine Drw.nil (At.seq ?_)
    obtain ⟨fl, hfl⟩ : ∃ fl, fl = [82, 69, k, 1] ++ be4 bs.length ++ bs := ⟨_, rfl⟩
    have hfll : fl.length ≤ 100000 := by rw [hfl]; simp [be4]; omega
    rw [← hfl]
    have hsum : CallTo Tryz.prog 35 [.str fl] U (fun v S' => v = .int .i64 (sumOf fl : Nat) ∧ U = S') (fun _ _ => False) := (sum35 fl (by omega) U).mono (fun _ _ h => ⟨h.1, h.2.symm⟩) (fun _ _ h => h)
    have a3 : strOp .add fl (be4 (sumOf fl)) = some (.str (fl ++ be4 (sumOf fl))) := str_add (by simp [be4]; omega)
    repeat' first
     | refine Opl.callv rfl (by kernel_rfl) hsum rfl (fun W hW => ?_) (fun _ _ hf => hf.elim)
     | refine Opl.callv rfl (by kernel_rfl) (four56 (sumOf fl) _) rfl (fun W2 hW2 => ?_) (fun _ _ hf => hf.elim)
     | refine Opl.val (op_str rfl rfl a3) rfl ?_
     | refine .std ?_ | refine .nil ?_ | refine .seq ?_ | refine .region ?_ | refine .xs ?_ | refine .kb ?_ | refine .leaf ?_ | refine .block ?_ | refine .gn ?_ | refine .dr ?_ | fail
    subst hW
    refine At.fnr rfl rfl rfl ⟨?_, ?_⟩
    · unfold fileV fileOf; rw [if_pos hle, ← hfl]; rfl
    · exact kall.trans (((s9.trans hU).trans hW2).keepB _)
  · skip
    repeat' first
     | refine Opl.val (op_int (v := .bool true) rfl rfl rfl rfl) rfl ?_
     | refine Go.condT rfl ?_
     | refine .std ?_ | refine .nil ?_ | refine .seq ?_ | refine .region ?_ | refine .xs ?_ | refine .kb ?_ | refine .leaf ?_ | refine .block ?_ | refine .gn ?_ | refine .dr ?_ | fail
    refine At.fnr rfl rfl rfl ⟨?_, kall⟩
    unfold fileV; rw [if_neg (by omega)]; rfl

theorem do32 {S : St} {c e q x d : Nat} {cs : List V} {bs : List UInt8} (h1 : S.h.find e = some (.box 71 [.func 26 [] []])) (h2 : S.h.find q = some (.box 102 [.ptr c 0]))
    (hs : Src S c (.ptr x 0) cs) (h : CodW S c []) (he : EncF d (sch 14) cs bs) : CallTo Tryz.prog 54 [.ptr e 0, .ptr q 0, .ptr x 0] S (fun _ S' => Wrote S c [] bs S') (Big S c [] bs) := by
  refine CallTo.of (n := 6) Tryz.func54 rfl rfl ?_
  repeat' first
   | refine Opl.val (op_load rfl (ld_box1 h1)) rfl ?_
   | refine Opl.val (op_load rfl (ld_box1 h2)) rfl ?_
   | refine Opl.call rfl (by kernel_rfl) (wAll d 14 (by decide) h he hs) rfl (fun v S1 w1 => ?_) (fun v S1 hbig => ?_)
   | refine At.fn rfl rfl rfl ?_
   | refine At.fnp rfl ?_
   | refine .std ?_ | refine .nil ?_ | refine .seq ?_ | refine .region ?_ | refine .xs ?_ | refine .kb ?_ | refine .leaf ?_ | refine .block ?_ | refine .gn ?_ | refine .dr ?_ | fail
  · exact w1.2
  · exact hbig

theorem write32 {d : Nat} {cs : List V} {bs : List UInt8} (he : EncF d (sch 14) cs bs) (k : UInt8) (S : St) :
    CallTo Tryz.prog 25 [.agg cs, .int .u8 k.toNat, .func 26 [] []] S (fun v S' => v = fileV k bs ∧ KeepB S S' S.next) (fun _ _ => False) := by
  refine CallTo.of (n := 45) Tryz.func25 rfl rfl ?_
  have hb0 : buildE Tryz.prog 109 [] = some (.agg [.nilp, .nils, .str [], .int .i64 0, .bool false]) := by kernel_rfl
  obtain ⟨S4, hS4⟩ : ∃ S4, S4 = (((S.new (.box 32 cs)).new (.box 71 [.func 26 [] []])).new (.box 109 [.nilp, .nils, .str [], .int .i64 0, .bool false])).new (.box 102 [.nilp]) := ⟨_, rfl⟩
  have hf3 : S4.h.find (S.next + 3) = some (.box 102 [.nilp]) := by rw [hS4]; simp [St.new, Tr.find_put]
  obtain ⟨S5, hS5⟩ : ∃ S5 : St, S5 = { S4 with h := S4.h.put (S.next + 3) (.box 102 [.ptr (S.next + 2) 0]) } := ⟨_, rfl⟩
  have hst : storeE Tryz.prog 102 (.ptr (S.next + 3) 0) (.ptr (S.next + 2) 0) S4 = some S5 := by rw [hS5]; exact st_one hf3 rfl rfl
  have hsame : Same S S5 := by
    rw [hS5, hS4]
    exact ((((Same.new _ _).trans (Same.new _ _)).trans (Same.new _ _)).trans (Same.new _ _)).put (by omega) _
  have hn5 : S5.next = S.next + 4 := by rw [hS5, hS4]; rfl
  have g0 : S5.h.find S.next = some (.box 32 cs) := by
    rw [hS5, hS4]; simp only [St.new, Tr.find_put]
    simp only [if_neg (show ¬ S.next = S.next + 3 by omega), if_neg (show ¬ S.next = S.next + 1 + 1 + 1 by omega), if_neg (show ¬ S.next = S.next + 1 + 1 by omega), if_neg (show ¬ S.next = S.next + 1 by omega), if_true]
  have g1 : S5.h.find (S.next + 1) = some (.box 71 [.func 26 [] []]) := by rw [hS5, hS4]; simp [St.new, Tr.find_put]
  have g2 : S5.h.find (S.next + 2) = some (.box 109 [.nilp, .nils, .str [], .int .i64 0, .bool false]) := by rw [hS5, hS4]; simp [St.new, Tr.find_put]
  have g3 : S5.h.find (S.next + 3) = some (.box 102 [.ptr (S.next + 2) 0]) := by rw [hS5]; simp [Tr.find_put]
  have h5 : CodW S5 (S.next + 2) [] := ⟨by omega, by simp, _, _, g2, .inl rfl, .inl ⟨rfl, rfl⟩⟩
  have hcau := caughtW (g := 54) (by kernel_rfl) (caps := [.ptr (S.next + 1) 0, .ptr (S.next + 3) 0, .ptr S.next 0]) (bs := bs) h5 fun S0 k0 h0 =>
    do32 (k0.box _ _ _ (by omega) (by omega) g1) (k0.box _ _ _ (by omega) (by omega) g3) (k0.src ⟨⟨_, _, g0, fun i v h => by simpa using h⟩, by omega, by omega⟩) h0 he
  repeat' first
   | refine Opl.val (op_box rfl) rfl ?_
   | refine Opl.val (op_build0 hb0) rfl ?_
   | refine Opl.val op_alloc rfl ?_
   | refine Opl.cast (S' := S4) (Opl.eff (op_store rfl rfl hst) ?_) hS4
   | refine Opl.call rfl (by kernel_rfl) hcau rfl (fun v S6 ⟨k6, hv⟩ => ?_) (fun _ _ hf => hf.elim)
   | refine .std ?_ | refine .nil ?_ | refine .seq ?_ | refine .region ?_ | refine .xs ?_ | refine .kb ?_ | refine .leaf ?_ | refine .block ?_ | refine .gn ?_ | refine .dr ?_ | fail
  have kall : KeepB S S6 S.next := ((hsame.keepB _).trans k6).any (by omega) _
  rcases hv with ⟨rfl, h6⟩ | ⟨rfl, hbig⟩
  · have hle : bs.length ≤ 99988 := h6.le
    have g36 := k6.box _ _ _ (by omega) (by omega) g3
    have hn6 := k6.next
    have hhead := heading k S6
    repeat' first
     | refine Opl.val (op_int (v := .bool false) rfl rfl rfl rfl) rfl ?_
     | refine Go.condF rfl ?_
     | refine Opl.call rfl (by kernel_rfl) hhead rfl (fun v S7 ⟨hv, s7⟩ => ?_) (fun _ _ hf => hf.elim)
     | refine .std ?_ | refine .nil ?_ | refine .seq ?_ | refine .region ?_ | refine .xs ?_ | refine .kb ?_ | refine .leaf ?_ | refine .block ?_ | refine .gn ?_ | refine .dr ?_ | fail
    subst hv
    obtain ⟨S8, hS8⟩ : ∃ S8, S8 = S7.new (.box 113 [V.int .u8 0, V.int .u8 0, V.int .u8 0, V.int .u8 0]) := ⟨_, rfl⟩
    have hf8 : S8.h.find S7.next = some (.box 113 [V.int .u8 0, V.int .u8 0, V.int .u8 0, V.int .u8 0]) := by rw [hS8]; simp [St.new, Tr.find_put]
    obtain ⟨S9, hS9⟩ : ∃ S9 : St, S9 = { S8 with h := S8.h.put S7.next (.box 113 (ofBytes [82, 69, k, 1])) } := ⟨_, rfl⟩
    have hst9 : storeE Tryz.prog 113 (.ptr S7.next 0) (.agg (ofBytes [82, 69, k, 1])) S8 = some S9 := by rw [hS9]; exact st_agg hf8 rfl rfl rfl
    have s9 : Same S6 S9 := by rw [hS9, hS8]; exact (s7.trans (Same.new _ _)).put s7.next _
    have hf9 : S9.h.find S7.next = some (.box 113 (ofBytes [82, 69, k, 1])) := by rw [hS9]; simp [Tr.find_put]
    have h9 : CodW S9 (S.next + 2) bs := h6.same s9
    have g39 : S9.h.find (S.next + 3) = some (.box 102 [.ptr (S.next + 2) 0]) := by rw [s9.find _ (by omega)]; exact g36
    have hn7 := s7.next
    have hn9 : S7.next < S9.next := by rw [hS9, hS8]; simp [St.new]
    have hpl : ∀ id, sliceE Tryz.prog 113 (.ptr id 0) none none none = some (.arr id 0 4 4) := by intro id; kernel_rfl
    repeat' first
     | refine Opl.val op_alloc rfl ?_
     | refine Opl.cast (S' := S8) (Opl.eff (op_store rfl rfl hst9) ?_) hS8
     | refine Go.draw [0, 1, 0, 4, 12, 28, 60, 124, 255, 0, 512, 1536, 3584, 7932, 16383, 32767] [2, 3, 4, 5, 6, 7, 9, 10, 11, 12, 13, 0, 1, 8, 14, 15] (by kernel_rfl) (fun U => CodW U (S.next + 2) bs ∧ Same S9 U) ?_
     | refine .std ?_ | refine .nil ?_ | refine .seq ?_ | refine .region ?_ | refine .xs ?_ | refine .kb ?_ | refine .leaf ?_ | refine .block ?_ | refine .gn ?_ | refine .dr ?_ | fail
    have hI9 : CodW S9 (S.next + 2) bs ∧ Same S9 S9 := ⟨h9, Same.refl _⟩
    have hlen : CallTo Tryz.prog 57 [.ptr (S.next + 2) 0] S9 (fun v S' => v = .int .i64 bs.length ∧ S9 = S') (fun _ _ => False) := h9.len.mono (fun _ _ h => ⟨h.1, h.2.symm⟩) (fun _ _ h => h)
    have hfour := four56 bs.length S9
    repeat' first
      | refine Drw.c2 rfl rfl hI9 (by assumption) (fun U hU => op_load rfl (ld_box1 ((hU.2.find (S.next + 3) (by omega)).trans g39))) rfl ?_
      | refine Drw.c0 rfl rfl (op_nilP rfl rfl) rfl ?_
      | refine Drw.c0 rfl rfl (op_fld2 rfl rfl) rfl ?_
      | refine Drw.c0 rfl rfl (op_fld rfl rfl) rfl ?_
      | refine Drw.call rfl rfl (by kernel_rfl) hlen rfl (fun v U ⟨hv, hU⟩ => ⟨by rw [← hU]; exact hI9, ?_⟩)
    subst hv hU
    refine Drw.call rfl rfl (by kernel_rfl) hfour rfl (fun v U ⟨hv, hU⟩ => ⟨⟨h9.same hU, hU⟩, ?_⟩)
    subst hv
    have hIU : CodW U (S.next + 2) bs ∧ Same S9 U := ⟨h9.same hU, hU⟩
    have hstr : CallTo Tryz.prog 58 [.ptr (S.next + 2) 0] U (fun v S' => v = .str bs ∧ U = S') (fun _ _ => False) := (h9.same hU).str.mono (fun _ _ h => ⟨h.1, h.2.symm⟩) (fun _ _ h => h)
    repeat' first
      | refine Drw.c2 rfl rfl hI9 hIU (fun U hU => op_load rfl (ld_box1 ((hU.2.find (S.next + 3) (by omega)).trans g39))) rfl ?_
      | refine Drw.c0 rfl rfl (op_nilP rfl rfl) rfl ?_
      | refine Drw.c0 rfl rfl (op_fld2 rfl rfl) rfl ?_
      | refine Drw.c0 rfl rfl (op_fld rfl rfl) rfl ?_
    refine Drw.call rfl rfl (by kernel_rfl) hstr rfl (fun v U2 ⟨hv, hU2⟩ => ⟨by rw [← hU2]; exact hIU, ?_⟩)
    subst hv hU2
    have hrd : ∀ W, Same S9 W → rd W (.ptr S7.next 0) 4 = some (ofBytes [82, 69, k, 1]) := fun W hW => by
      simp only [rd, hW.find _ hn9, hf9]; rfl
    have a1 : strOp .add [82, 69, k, 1] (be4 bs.length) = some (.str ([82, 69, k, 1] ++ be4 bs.length)) := str_add (by simp [be4])
    have a2 : strOp .add ([82, 69, k, 1] ++ be4 bs.length) bs = some (.str ([82, 69, k, 1] ++ be4 bs.length ++ bs)) := str_add (by simp [be4]; omega)
    refine Drw.c0 rfl rfl (op_slc rfl (hpl _)) rfl ?_
    refine Drw.c2 rfl rfl hI9 hIU (fun W hW => op_conv rfl (conv_bytesA (hrd W hW.2) (toBytes_of [82, 69, k, 1]))) rfl ?_
    refine Drw.c0 rfl rfl (op_str rfl rfl a1) rfl ?_
    refine Drw.c0 rfl rfl (op_str rfl rfl a2) rfl ?_
    refine Drw.c0 rfl rfl (op_assign rfl) rfl ?_
    refine Drw.nil (At.seq ?_)
    obtain ⟨fl, hfl⟩ : ∃ fl, fl = [82, 69, k, 1] ++ be4 bs.length ++ bs := ⟨_, rfl⟩
    have hfll : fl.length ≤ 100000 := by rw [hfl]; simp [be4]; omega
    rw [← hfl]
    have hsum : CallTo Tryz.prog 35 [.str fl] U (fun v S' => v = .int .i64 (sumOf fl : Nat) ∧ U = S') (fun _ _ => False) := (sum35 fl (by omega) U).mono (fun _ _ h => ⟨h.1, h.2.symm⟩) (fun _ _ h => h)
    have a3 : strOp .add fl (be4 (sumOf fl)) = some (.str (fl ++ be4 (sumOf fl))) := str_add (by simp [be4]; omega)
    repeat' first
     | refine Opl.callv rfl (by kernel_rfl) hsum rfl (fun W hW => ?_) (fun _ _ hf => hf.elim)
     | refine Opl.callv rfl (by kernel_rfl) (four56 (sumOf fl) _) rfl (fun W2 hW2 => ?_) (fun _ _ hf => hf.elim)
     | refine Opl.val (op_str rfl rfl a3) rfl ?_
     | refine .std ?_ | refine .nil ?_ | refine .seq ?_ | refine .region ?_ | refine .xs ?_ | refine .kb ?_ | refine .leaf ?_ | refine .block ?_ | refine .gn ?_ | refine .dr ?_ | fail
    subst hW
    refine At.fnr rfl rfl rfl ⟨?_, ?_⟩
    · unfold fileV fileOf; rw [if_pos hle, ← hfl]; rfl
    · exact kall.trans (((s9.trans hU).trans hW2).keepB _)
  · skip
    repeat' first
     | refine Opl.val (op_int (v := .bool true) rfl rfl rfl rfl) rfl ?_
     | refine Go.condT rfl ?_
     | refine .std ?_ | refine .nil ?_ | refine .seq ?_ | refine .region ?_ | refine .xs ?_ | refine .kb ?_ | refine .leaf ?_ | refine .block ?_ | refine .gn ?_ | refine .dr ?_ | fail
    refine At.fnr rfl rfl rfl ⟨?_, kall⟩
    unfold fileV; rw [if_neg (by omega)]; rfl

theorem do35 {S : St} {c e q x d : Nat} {cs : List V} {bs : List UInt8} (h1 : S.h.find e = some (.box 79 [.func 30 [] []])) (h2 : S.h.find q = some (.box 102 [.ptr c 0]))
    (hs : Src S c (.ptr x 0) cs) (h : CodW S c []) (he : EncF d (sch 15) cs bs) : CallTo Tryz.prog 74 [.ptr e 0, .ptr q 0, .ptr x 0] S (fun _ S' => Wrote S c [] bs S') (Big S c [] bs) := by
  refine CallTo.of (n := 6) Tryz.func74 rfl rfl ?_
  repeat' first
   | refine Opl.val (op_load rfl (ld_box1 h1)) rfl ?_
   | refine Opl.val (op_load rfl (ld_box1 h2)) rfl ?_
   | refine Opl.call rfl (by kernel_rfl) (wAll d 15 (by decide) h he hs) rfl (fun v S1 w1 => ?_) (fun v S1 hbig => ?_)
   | refine At.fn rfl rfl rfl ?_
   | refine At.fnp rfl ?_
   | refine .std ?_ | refine .nil ?_ | refine .seq ?_ | refine .region ?_ | refine .xs ?_ | refine .kb ?_ | refine .leaf ?_ | refine .block ?_ | refine .gn ?_ | refine .dr ?_ | fail
  · exact w1.2
  · exact hbig

theorem write35 {d : Nat} {cs : List V} {bs : List UInt8} (he : EncF d (sch 15) cs bs) (k : UInt8) (S : St) :
    CallTo Tryz.prog 29 [.agg cs, .int .u8 k.toNat, .func 30 [] []] S (fun v S' => v = fileV k bs ∧ KeepB S S' S.next) (fun _ _ => False) := by
  refine CallTo.of (n := 45) Tryz.func29 rfl rfl ?_
  have hb0 : buildE Tryz.prog 109 [] = some (.agg [.nilp, .nils, .str [], .int .i64 0, .bool false]) := by kernel_rfl
  obtain ⟨S4, hS4⟩ : ∃ S4, S4 = (((S.new (.box 35 cs)).new (.box 79 [.func 30 [] []])).new (.box 109 [.nilp, .nils, .str [], .int .i64 0, .bool false])).new (.box 102 [.nilp]) := ⟨_, rfl⟩
  have hf3 : S4.h.find (S.next + 3) = some (.box 102 [.nilp]) := by rw [hS4]; simp [St.new, Tr.find_put]
  obtain ⟨S5, hS5⟩ : ∃ S5 : St, S5 = { S4 with h := S4.h.put (S.next + 3) (.box 102 [.ptr (S.next + 2) 0]) } := ⟨_, rfl⟩
  have hst : storeE Tryz.prog 102 (.ptr (S.next + 3) 0) (.ptr (S.next + 2) 0) S4 = some S5 := by rw [hS5]; exact st_one hf3 rfl rfl
  have hsame : Same S S5 := by
    rw [hS5, hS4]
    exact ((((Same.new _ _).trans (Same.new _ _)).trans (Same.new _ _)).trans (Same.new _ _)).put (by omega) _
  have hn5 : S5.next = S.next + 4 := by rw [hS5, hS4]; rfl
  have g0 : S5.h.find S.next = some (.box 35 cs) := by
    rw [hS5, hS4]; simp only [St.new, Tr.find_put]
    simp only [if_neg (show ¬ S.next = S.next + 3 by omega), if_neg (show ¬ S.next = S.next + 1 + 1 + 1 by omega), if_neg (show ¬ S.next = S.next + 1 + 1 by omega), if_neg (show ¬ S.next = S.next + 1 by omega), if_true]
  have g1 : S5.h.find (S.next + 1) = some (.box 79 [.func 30 [] []]) := by rw [hS5, hS4]; simp [St.new, Tr.find_put]
  have g2 : S5.h.find (S.next + 2) = some (.box 109 [.nilp, .nils, .str [], .int .i64 0, .bool false]) := by rw [hS5, hS4]; simp [St.new, Tr.find_put]
  have g3 : S5.h.find (S.next + 3) = some (.box 102 [.ptr (S.next + 2) 0]) := by rw [hS5]; simp [Tr.find_put]
  have h5 : CodW S5 (S.next + 2) [] := ⟨by omega, by simp, _, _, g2, .inl rfl, .inl ⟨rfl, rfl⟩⟩
  have hcau := caughtW (g := 74) (by kernel_rfl) (caps := [.ptr (S.next + 1) 0, .ptr (S.next + 3) 0, .ptr S.next 0]) (bs := bs) h5 fun S0 k0 h0 =>
    do35 (k0.box _ _ _ (by omega) (by omega) g1) (k0.box _ _ _ (by omega) (by omega) g3) (k0.src ⟨⟨_, _, g0, fun i v h => by simpa using h⟩, by omega, by omega⟩) h0 he
  repeat' first
   | refine Opl.val (op_box rfl) rfl ?_
   | refine Opl.val (op_build0 hb0) rfl ?_
   | refine Opl.val op_alloc rfl ?_
   | refine Opl.cast (S' := S4) (Opl.eff (op_store rfl rfl hst) ?_) hS4
   | refine Opl.call rfl (by kernel_rfl) hcau rfl (fun v S6 ⟨k6, hv⟩ => ?_) (fun _ _ hf => hf.elim)
   | refine .std ?_ | refine .nil ?_ | refine .seq ?_ | refine .region ?_ | refine .xs ?_ | refine .kb ?_ | refine .leaf ?_ | refine .block ?_ | refine .gn ?_ | refine .dr ?_ | fail
  have kall : KeepB S S6 S.next := ((hsame.keepB _).trans k6).any (by omega) _
  rcases hv with ⟨rfl, h6⟩ | ⟨rfl, hbig⟩
  · have hle : bs.length ≤ 99988 := h6.le
    have g36 := k6.box _ _ _ (by omega) (by omega) g3
    have hn6 := k6.next
    have hhead := heading k S6
    repeat' first
     | refine Opl.val (op_int (v := .bool false) rfl rfl rfl rfl) rfl ?_
     | refine Go.condF rfl ?_
     | refine Opl.call rfl (by kernel_rfl) hhead rfl (fun v S7 ⟨hv, s7⟩ => ?_) (fun _ _ hf => hf.elim)
     | refine .std ?_ | refine .nil ?_ | refine .seq ?_ | refine .region ?_ | refine .xs ?_ | refine .kb ?_ | refine .leaf ?_ | refine .block ?_ | refine .gn ?_ | refine .dr ?_ | fail
    subst hv
    obtain ⟨S8, hS8⟩ : ∃ S8, S8 = S7.new (.box 113 [V.int .u8 0, V.int .u8 0, V.int .u8 0, V.int .u8 0]) := ⟨_, rfl⟩
    have hf8 : S8.h.find S7.next = some (.box 113 [V.int .u8 0, V.int .u8 0, V.int .u8 0, V.int .u8 0]) := by rw [hS8]; simp [St.new, Tr.find_put]
    obtain ⟨S9, hS9⟩ : ∃ S9 : St, S9 = { S8 with h := S8.h.put S7.next (.box 113 (ofBytes [82, 69, k, 1])) } := ⟨_, rfl⟩
    have hst9 : storeE Tryz.prog 113 (.ptr S7.next 0) (.agg (ofBytes [82, 69, k, 1])) S8 = some S9 := by rw [hS9]; exact st_agg hf8 rfl rfl rfl
    have s9 : Same S6 S9 := by rw [hS9, hS8]; exact (s7.trans (Same.new _ _)).put s7.next _
    have hf9 : S9.h.find S7.next = some (.box 113 (ofBytes [82, 69, k, 1])) := by rw [hS9]; simp [Tr.find_put]
    have h9 : CodW S9 (S.next + 2) bs := h6.same s9
    have g39 : S9.h.find (S.next + 3) = some (.box 102 [.ptr (S.next + 2) 0]) := by rw [s9.find _ (by omega)]; exact g36
    have hn7 := s7.next
    have hn9 : S7.next < S9.next := by rw [hS9, hS8]; simp [St.new]
    have hpl : ∀ id, sliceE Tryz.prog 113 (.ptr id 0) none none none = some (.arr id 0 4 4) := by intro id; kernel_rfl
    repeat' first
     | refine Opl.val op_alloc rfl ?_
     | refine Opl.cast (S' := S8) (Opl.eff (op_store rfl rfl hst9) ?_) hS8
     | refine Go.draw [0, 1, 0, 4, 12, 28, 60, 124, 255, 0, 512, 1536, 3584, 7932, 16383, 32767] [2, 3, 4, 5, 6, 7, 9, 10, 11, 12, 13, 0, 1, 8, 14, 15] (by kernel_rfl) (fun U => CodW U (S.next + 2) bs ∧ Same S9 U) ?_
     | refine .std ?_ | refine .nil ?_ | refine .seq ?_ | refine .region ?_ | refine .xs ?_ | refine .kb ?_ | refine .leaf ?_ | refine .block ?_ | refine .gn ?_ | refine .dr ?_ | fail
    have hI9 : CodW S9 (S.next + 2) bs ∧ Same S9 S9 := ⟨h9, Same.refl _⟩
    have hlen : CallTo Tryz.prog 57 [.ptr (S.next + 2) 0] S9 (fun v S' => v = .int .i64 bs.length ∧ S9 = S') (fun _ _ => False) := h9.len.mono (fun _ _ h => ⟨h.1, h.2.symm⟩) (fun _ _ h => h)
    have hfour := four56 bs.length S9
    repeat' first
      | refine Drw.c2 rfl rfl hI9 (by assumption) (fun U hU => op_load rfl (ld_box1 ((hU.2.find (S.next + 3) (by omega)).trans g39))) rfl ?_
      | refine Drw.c0 rfl rfl (op_nilP rfl rfl) rfl ?_
      | refine Drw.c0 rfl rfl (op_fld2 rfl rfl) rfl ?_
      | refine Drw.c0 rfl rfl (op_fld rfl rfl) rfl ?_
      | refine Drw.call rfl rfl (by kernel_rfl) hlen rfl (fun v U ⟨hv, hU⟩ => ⟨by rw [← hU]; exact hI9, ?_⟩)
    subst hv hU
    refine Drw.call rfl rfl (by kernel_rfl) hfour rfl (fun v U ⟨hv, hU⟩ => ⟨⟨h9.same hU, hU⟩, ?_⟩)
    subst hv
    have hIU : CodW U (S.next + 2) bs ∧ Same S9 U := ⟨h9.same hU, hU⟩
    have hstr : CallTo Tryz.prog 58 [.ptr (S.next + 2) 0] U (fun v S' => v = .str bs ∧ U = S') (fun _ _ => False) := (h9.same hU).str.mono (fun _ _ h => ⟨h.1, h.2.symm⟩) (fun _ _ h => h)
    repeat' first
      | refine Drw.c2 rfl rfl hI9 hIU (fun U hU => op_load rfl (ld_box1 ((hU.2.find (S.next + 3) (by omega)).trans g39))) rfl ?_
      | refine Drw.c0 rfl rfl (op_nilP rfl rfl) rfl ?_
      | refine Drw.c0 rfl rfl (op_fld2 rfl rfl) rfl ?_
      | refine Drw.c0 rfl rfl (op_fld rfl rfl) rfl ?_
    refine Drw.call rfl rfl (by kernel_rfl) hstr rfl (fun v U2 ⟨hv, hU2⟩ => ⟨by rw [← hU2]; exact hIU, ?_⟩)
    subst hv hU2
    have hrd : ∀ W, Same S9 W → rd W (.ptr S7.next 0) 4 = some (ofBytes [82, 69, k, 1]) := fun W hW => by
      simp only [rd, hW.find _ hn9, hf9]; rfl
    have a1 : strOp .add [82, 69, k, 1] (be4 bs.length) = some (.str ([82, 69, k, 1] ++ be4 bs.length)) := str_add (by simp [be4])
    have a2 : strOp .add ([82, 69, k, 1] ++ be4 bs.length) bs = some (.str ([82, 69, k, 1] ++ be4 bs.length ++ bs)) := str_add (by simp [be4]; omega)
    refine Drw.c0 rfl rfl (op_slc rfl (hpl _)) rfl ?_
    refine Drw.c2 rfl rfl hI9 hIU (fun W hW => op_conv rfl (conv_bytesA (hrd W hW.2) (toBytes_of [82, 69, k, 1]))) rfl ?_
    refine Drw.c0 rfl rfl (op_str rfl rfl a1) rfl ?_
    refine Drw.c0 rfl rfl (op_str rfl rfl a2) rfl ?_
    refine Drw.c0 rfl rfl (op_assign rfl) rfl ?_
    refine Drw.nil (At.seq ?_)
    obtain ⟨fl, hfl⟩ : ∃ fl, fl = [82, 69, k, 1] ++ be4 bs.length ++ bs := ⟨_, rfl⟩
    have hfll : fl.length ≤ 100000 := by rw [hfl]; simp [be4]; omega
    rw [← hfl]
    have hsum : CallTo Tryz.prog 35 [.str fl] U (fun v S' => v = .int .i64 (sumOf fl : Nat) ∧ U = S') (fun _ _ => False) := (sum35 fl (by omega) U).mono (fun _ _ h => ⟨h.1, h.2.symm⟩) (fun _ _ h => h)
    have a3 : strOp .add fl (be4 (sumOf fl)) = some (.str (fl ++ be4 (sumOf fl))) := str_add (by simp [be4]; omega)
    repeat' first
     | refine Opl.callv rfl (by kernel_rfl) hsum rfl (fun W hW => ?_) (fun _ _ hf => hf.elim)
     | refine Opl.callv rfl (by kernel_rfl) (four56 (sumOf fl) _) rfl (fun W2 hW2 => ?_) (fun _ _ hf => hf.elim)
     | refine Opl.val (op_str rfl rfl a3) rfl ?_
     | refine .std ?_ | refine .nil ?_ | refine .seq ?_ | refine .region ?_ | refine .xs ?_ | refine .kb ?_ | refine .leaf ?_ | refine .block ?_ | refine .gn ?_ | refine .dr ?_ | fail
    subst hW
    refine At.fnr rfl rfl rfl ⟨?_, ?_⟩
    · unfold fileV fileOf; rw [if_pos hle, ← hfl]; rfl
    · exact kall.trans (((s9.trans hU).trans hW2).keepB _)
  · skip
    repeat' first
     | refine Opl.val (op_int (v := .bool true) rfl rfl rfl rfl) rfl ?_
     | refine Go.condT rfl ?_
     | refine .std ?_ | refine .nil ?_ | refine .seq ?_ | refine .region ?_ | refine .xs ?_ | refine .kb ?_ | refine .leaf ?_ | refine .block ?_ | refine .gn ?_ | refine .dr ?_ | fail
    refine At.fnr rfl rfl rfl ⟨?_, kall⟩
    unfold fileV; rw [if_neg (by omega)]; rfl

end Go.Proofs.YtilldjgagokcfaaGreat
