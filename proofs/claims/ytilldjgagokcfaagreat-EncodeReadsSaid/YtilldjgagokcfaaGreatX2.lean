import Derived.Test.YtilldjgagokcfaaGreatX1
import Derived.Test.YtilldjgagokcfaaGreatD3
set_option linter.unusedVariables false
set_option linter.unusedSimpArgs false
namespace Go.Ev
open Go.RowKit
def okR : RS → Bool
  | .ok _ => true
  | .error _ => false
structure Shape (v : V) (n : Nat) (ag : Bool) : Prop where
  len : v.cells.length = n
  ones : v.cells.all V.one = true
  one : if ag = true then V.agg v.cells = v else v.one = true
theorem Shape.agg {cs : List V} {n : Nat} (h : cs.length = n) (h1 : cs.all V.one = true) : Shape (.agg cs) n true := ⟨h, h1, rfl⟩
theorem Shape.cell {v : V} (h : v.one = true) : Shape v 1 false := by
  have hc : v.cells = [v] := by cases v <;> first | rfl | (cases h; done)
  exact ⟨by rw [hc]; rfl, by rw [hc]; simp [h], h⟩
theorem splice_run {A B z vs : List V} {o : Nat} (ho : o = A.length) (hz : z.length = vs.length) : splice (A ++ (z ++ B)) o vs = some (A ++ (vs ++ B)) := by
  subst ho
  unfold splice
  rw [if_pos (Nat.ble_eq_true_of_le (by simp; omega))]
  congr 1
  rw [List.take_left', List.drop_append, List.drop_of_length_le (by omega)]
  · congr 1
    congr 1
    rw [show A.length + vs.length - A.length = vs.length by omega, List.drop_append, List.drop_of_length_le (by omega), ← hz, Nat.sub_self]
    simp
  · rfl
theorem storeE_mid {P : Program} {S : St} {x o m : Nat} {T U : TypeId} {A B z : List V} {v : V} (hs : SzN P U m) (ho : o = A.length) (hz : z.length = m) (hl : v.cells.length = m) (h1 : v.cells.all V.one = true) (hb : S.h.find x = some (.box T (A ++ (z ++ B)))) :
    ∃ S', storeE P U (.ptr x o) v S = some S' ∧ S'.h.find x = some (.box T (A ++ (v.cells ++ B))) ∧ Keep2 S S' x x :=
  ⟨{ S with h := S.h.put x (.box T (A ++ (v.cells ++ B))) }, by simp only [storeE, hb, hs.h, hl, Nat.beq_refl, h1, Bool.and_self, if_true, splice_run ho (hz.trans hl.symm)], by simp [Tr.find_put], Keep2.put _ _ _ _⟩
theorem lift_list {s : List UInt8} {k t q : Nat} {r rq : RS} (hq : q ≤ (rL s r).1) (hr : rq = lift (scanL (scan s k t) q) (rL s r).2) (he : q = (rL s r).1 ∨ ∃ b, rq = .error b) : lift (scanF (scan s k) s [.list t]) r = rq := by
  cases r with
  | error b =>
    simp only [rL, lift] at hr ⊢
    exact hr.symm
  | ok i =>
    cases hl : rdLen s i with
    | none =>
      simp only [rL, hl, lift] at hr
      simp only [lift, scanF, hl]
      exact hr.symm
    | some p =>
      simp only [rL, hl, lift] at hr hq he
      simp only [lift, scanF, hl]
      rcases he with he | ⟨b, he⟩
      · rw [← he, ← hr]
        cases rq <;> rfl
      · rw [he] at hr
        have := scanL_err (scan s k t) (p.1 - q) q p.2 b hr.symm
        rw [show q + (p.1 - q) = p.1 by omega] at this
        rw [this, he]
theorem grow_tmp {P : Program} {S : St} {lo q : Nat} {te TL : TypeId} {n bytes : Nat} {a : Bool} (ha : App P TL TL te n a bytes) (hby : bytes ≤ 1000) (hq : q ≤ 200000) {v xv : V} (hv : Grow S lo te n q v) (hlo : lo ≤ S.next)
    (hc : xv.cells.length = n) (h1 : xv.cells.all V.one = true) :
    ∃ v' S3, appendE P TL TL v (.list (some te) n [xv] .exact) S = some (v', S3) ∧ Grow S3 lo te n (q + 1) v' ∧ elems v' = elems v ++ [xv] ∧ S.next ≤ S3.next ∧ (∀ id, id < S.next → id < lo → S3.h.find id = S.h.find id) ∧ (∀ id t cs, id < S.next → S.h.find id = some (.box t cs) → S3.h.find id = some (.box t cs)) := by
  have hrd : readS S a n (.list (some te) n [xv] .exact) = some [xv] := by simp only [readS, Nat.beq_refl, if_true]
  have hall : ∀ z ∈ [xv], z.cells.length = n ∧ z.cells.all V.one = true := by
    intro z hz; simp only [List.mem_cons, List.not_mem_nil, or_false] at hz; subst hz; exact ⟨hc, h1⟩
  have hroom : ∀ m, m ≤ 1000000 → roomOk m bytes = true := fun m hm => by
    unfold roomOk
    have : m * bytes ≤ 1000000 * 1000 := Nat.mul_le_mul hm hby
    simp only [Bool.and_eq_true]
    exact ⟨Nat.ble_eq_true_of_le (by omega), Nat.ble_eq_true_of_le (by omega)⟩
  rcases hv with ⟨rfl, rfl⟩ | ⟨es, tid, rfl, htok, hid1, hid2, hlen, hq0⟩
  · have happ := app_nil (P := P) (t := TL) (u := TL) (S := S) hrd hall rfl (hroom 1 (by omega))
    refine ⟨_, _, happ, .inr ⟨[xv], S.next, rfl, by simp [St.new, Tr.find_put], hlo, by simp [St.new], rfl, by omega⟩, rfl, by simp [St.new], fun id h2 h3 => ?_, fun id t cs h2 h3 => ?_⟩
    · simp only [St.new, Tr.find_put, if_neg (Nat.ne_of_lt h2)]
    · simp only [St.new, Tr.find_put, if_neg (Nat.ne_of_lt h2)]; exact h3
  · have happ := app_own (P := P) (t := TL) (u := TL) (es := es) htok hrd hall rfl (hroom (es.length + 1) (by omega))
    have hbt : ∀ id t cs, S.h.find id = some (.box t cs) → id ≠ tid := fun id t cs h => by rintro rfl; rw [h] at htok; cases htok
    refine ⟨_, _, happ, .inr ⟨es ++ [xv], S.next, rfl, by simp [St.new, Tr.find_put], hlo, by simp [St.new], by simp [hlen], by omega⟩, rfl, by simp [St.new], fun id h2 h3 => ?_, fun id t cs h2 h3 => ?_⟩
    · have : id ≠ tid := by omega
      simp only [St.new, Tr.find_put, if_neg (Nat.ne_of_lt h2), Tr.find_del, if_neg this]
    · simp only [St.new, Tr.find_put, if_neg (Nat.ne_of_lt h2), Tr.find_del, if_neg (hbt id t cs h3)]; exact h3
end Go.Ev
namespace Go.Proofs.YtilldjgagokcfaaGreat
open Go.RowKit Go.Ev
set_option maxRecDepth 100000
set_option linter.unusedVariables false
theorem RSt.long {S : St} {c : Nat} {s : List UInt8} {r : RS} (h : RSt S c s r) :
    CallTo Tryz.prog 88 [.ptr c 0] S (fun v S' => v = .int .i64 ((rL s r).1 : Nat) ∧ RSt S' c s (rL s r).2 ∧ Keep2 S S' c c) (fun _ _ => False) := by
  refine CallTo.of (n := 31) Tryz.func88 rfl rfl ?_
  have hpt := h.pt
  have hsm := h.small
  cases r with
  | error b =>
    simp only [rCells] at hpt
    have e1 : intOp .sub .i64 (s.length : Int) (s.length : Int) = some (.int .i64 0) := by
      simp only [intOp]; rw [wrap_i64_id (by constructor <;> omega)]; congr 2; omega
    repeat' first
     | refine Opl.call rfl (by kernel_rfl) h.number rfl (fun v S1 ⟨hv, h1, k1⟩ => ?_) (fun _ _ hf => hf.elim)
     | refine .std ?_ | refine .nil ?_ | refine .seq ?_ | refine .region ?_ | refine .xs ?_ | refine .kb ?_ | refine .leaf ?_ | refine .block ?_ | refine .gn ?_ | refine .dr ?_ | fail
    subst hv
    have hpt1 := h1.pt
    simp only [rI, rCells] at hpt1
    repeat' first
     | refine op_gyes rfl ?_ rfl
     | refine Opl.val (op_int rfl rfl rfl e1) rfl ?_
     | refine Go.condF rfl ?_
     | refine .std ?_ | refine .nil ?_ | refine .seq ?_ | refine .region ?_ | refine .xs ?_ | refine .kb ?_ | refine .leaf ?_ | refine .block ?_ | refine .gn ?_ | refine .dr ?_ | fail
    exact At.fnr rfl rfl rfl ⟨rfl, h1, k1⟩
  | ok i =>
    simp only [rCells] at hpt
    repeat' first
     | refine Opl.call rfl (by kernel_rfl) h.number rfl (fun v S1 ⟨hv, h1, k1⟩ => ?_) (fun _ _ hf => hf.elim)
     | refine .std ?_ | refine .nil ?_ | refine .seq ?_ | refine .region ?_ | refine .xs ?_ | refine .kb ?_ | refine .leaf ?_ | refine .block ?_ | refine .gn ?_ | refine .dr ?_ | fail
    subst hv
    cases hr : rdI s i with
    | none =>
      have hI : rI s (.ok i) = (0, .error i) := by simp only [rI, hr]
      have hL : rL s (.ok i) = (0, .error i) := by simp only [rL, rdLen, hr]
      rw [hI] at h1 ⊢
      rw [hL]
      have hpt1 := h1.pt
      simp only [rCells] at hpt1
      have e1 : intOp .sub .i64 (s.length : Int) (s.length : Int) = some (.int .i64 0) := by
        simp only [intOp]; rw [wrap_i64_id (by constructor <;> omega)]; congr 2; omega
      repeat' first
       | refine op_gyes rfl ?_ rfl
       | refine Opl.val (op_int rfl rfl rfl e1) rfl ?_
       | refine Go.condF rfl ?_
       | refine .std ?_ | refine .nil ?_ | refine .seq ?_ | refine .region ?_ | refine .xs ?_ | refine .kb ?_ | refine .leaf ?_ | refine .block ?_ | refine .gn ?_ | refine .dr ?_ | fail
      exact At.fnr rfl rfl rfl ⟨rfl, h1, k1⟩
    | some p =>
      obtain ⟨m, j⟩ := p
      have hI : rI s (.ok i) = (m, .ok j) := by simp only [rI, hr]
      rw [hI] at h1 ⊢
      have hR := rdI_some hr
      simp only at hR h1
      have hin := hR.n
      have hle := hR.le
      have hpt1 := h1.pt
      simp only [rCells] at hpt1
      have hrl : rdLen s i = if m < 0 ∨ (s.length : Int) - j < m then none else some (m.toNat, j) := by unfold rdLen; rw [hr]
      have hsub : intOp .sub .i64 (s.length : Int) (j : Int) = some (.int .i64 ((s.length : Int) - (j : Int))) := by
        simp only [intOp]; rw [wrap_i64_id (by constructor <;> omega)]
      by_cases hbad : m < 0 ∨ (s.length : Int) - j < m
      · have hL : rL s (.ok i) = (0, .error i) := by simp only [rL, hrl, if_pos hbad]
        rw [hL]
        have fin : ∀ {W : St}, RSt W c s (lift (fun _ => .error i) (.ok j)) → Keep2 S1 W c c → (V.int .i64 0 = .int .i64 ((0 : Nat) : Int) ∧ RSt W c s (.error i) ∧ Keep2 S W c c) := fun hw kw => ⟨rfl, hw, k1.trans kw⟩
        by_cases h0 : m < 0
        · have e1 : intOp .lss .i64 m 0 = some (.bool true) := lss_i (decide_eq_true h0)
          repeat' first
           | refine Opl.val (op_int rfl rfl rfl e1) rfl ?_
           | refine Go.condT rfl ?_
           | refine Opl.call rfl (by kernel_rfl) (h1.fail i) rfl (fun v S3 h3 => ?_) (fun _ _ hf => hf.elim)
           | refine .std ?_ | refine .nil ?_ | refine .seq ?_ | refine .region ?_ | refine .xs ?_ | refine .kb ?_ | refine .leaf ?_ | refine .block ?_ | refine .gn ?_ | refine .dr ?_ | fail
          exact At.fnr rfl rfl rfl (fin h3.1 h3.2)
        · have e1 : intOp .lss .i64 m 0 = some (.bool false) := lss_i (decide_eq_false h0)
          have e2 : intOp .gtr .i64 m ((s.length : Int) - (j : Int)) = some (.bool true) := gtr_i (decide_eq_true (by omega))
          repeat' first
           | refine op_gyes rfl ?_ rfl
           | refine Opl.val (op_int rfl rfl rfl e1) rfl ?_
           | refine Opl.val (op_int rfl rfl rfl e2) rfl ?_
           | refine Opl.val (op_int rfl rfl rfl hsub) rfl ?_
           | refine Go.condT rfl ?_
           | refine Opl.call rfl (by kernel_rfl) (h1.fail i) rfl (fun v S3 h3 => ?_) (fun _ _ hf => hf.elim)
           | refine .std ?_ | refine .nil ?_ | refine .seq ?_ | refine .region ?_ | refine .xs ?_ | refine .kb ?_ | refine .leaf ?_ | refine .block ?_ | refine .gn ?_ | refine .dr ?_ | fail
          exact At.fnr rfl rfl rfl (fin h3.1 h3.2)
      · have hL : rL s (.ok i) = (m.toNat, .ok j) := by simp only [rL, hrl, if_neg hbad]
        rw [hL]
        have e1 : intOp .lss .i64 m 0 = some (.bool false) := lss_i (decide_eq_false (by omega))
        have e2 : intOp .gtr .i64 m ((s.length : Int) - (j : Int)) = some (.bool false) := gtr_i (decide_eq_false (by omega))
        repeat' first
         | refine op_gyes rfl ?_ rfl
         | refine Opl.val (op_int rfl rfl rfl e1) rfl ?_
         | refine Opl.val (op_int rfl rfl rfl e2) rfl ?_
         | refine Opl.val (op_int rfl rfl rfl hsub) rfl ?_
         | refine Go.condF rfl ?_
         | refine .std ?_ | refine .nil ?_ | refine .seq ?_ | refine .region ?_ | refine .xs ?_ | refine .kb ?_ | refine .leaf ?_ | refine .block ?_ | refine .gn ?_ | refine .dr ?_ | fail
        refine At.fnr rfl rfl rfl ⟨?_, h1, k1⟩
        simp only [packV]
        congr 1; omega
theorem RSt.more {S : St} {c : Nat} {s : List UInt8} {r : RS} (h : RSt S c s r) (i n : Nat) {q : Bool} (hq : q = (decide (i < n) && okR r)) :
    CallTo Tryz.prog 89 [.ptr c 0, .int .i64 i, .int .i64 n] S (fun v S' => v = .bool q ∧ S = S') (fun _ _ => False) := by
  refine CallTo.of (n := 17) Tryz.func89 rfl rfl ?_
  have hpt := h.pt
  subst hq
  by_cases hlt : i < n
  · have e1 : intOp .lss .i64 (i : Int) (n : Int) = some (.bool true) := lss_i (decide_eq_true (by omega))
    cases r with
    | error b =>
      simp only [rCells] at hpt
      have e2 : intOp .lss .i64 (b : Int) 0 = some (.bool false) := lss_i (decide_eq_false (by omega))
      repeat' first
       | refine op_gyes rfl ?_ rfl
       | refine Opl.val (op_int rfl rfl rfl e1) rfl ?_
       | refine Opl.val (op_int rfl rfl rfl e2) rfl ?_
       | refine .std ?_ | refine .nil ?_ | refine .seq ?_ | refine .region ?_ | refine .xs ?_ | refine .kb ?_ | refine .leaf ?_ | refine .block ?_ | refine .gn ?_ | refine .dr ?_ | fail
      exact At.fnr rfl rfl rfl ⟨by simp [packV, okR], rfl⟩
    | ok j =>
      simp only [rCells] at hpt
      repeat' first
       | refine op_gyes rfl ?_ rfl
       | refine Opl.val (op_int rfl rfl rfl e1) rfl ?_
       | refine .std ?_ | refine .nil ?_ | refine .seq ?_ | refine .region ?_ | refine .xs ?_ | refine .kb ?_ | refine .leaf ?_ | refine .block ?_ | refine .gn ?_ | refine .dr ?_ | fail
      exact At.fnr rfl rfl rfl ⟨by simp [packV, hlt, okR], rfl⟩
  · have e1 : intOp .lss .i64 (i : Int) (n : Int) = some (.bool false) := lss_i (decide_eq_false (by omega))
    repeat' first
     | refine Opl.val (op_int rfl rfl rfl e1) rfl ?_
     | refine .std ?_ | refine .nil ?_ | refine .seq ?_ | refine .region ?_ | refine .xs ?_ | refine .kb ?_ | refine .leaf ?_ | refine .block ?_ | refine .gn ?_ | refine .dr ?_ | fail
    exact At.fnr rfl rfl rfl ⟨by simp [packV, hlt, okR], rfl⟩
structure RGC (g : FuncId) (k : Nat) (s : List UInt8) (grp : List Ev.Fd) (n : Nat) (ag : Bool) (m : Nat) : Prop where
  h : ∀ {S : St} {c : Nat} {r : RS}, RSt S c s r → mu s r + m ≤ k + 1 → CallTo Tryz.prog g [.ptr c 0] S
    (fun v S' => RSt S' c s (lift (scanF (scan s k) s grp) r) ∧ Shape v n ag ∧ (∀ i j, r = .ok i → lift (scanF (scan s k) s grp) r = .ok j → Enc grp v.cells (slc s i j) ∧ i < j) ∧ Keep2 S S' c c) (fun _ _ => False)
theorem xnumber (k : Nat) (s : List UInt8) : RGC 93 k s [.int] 1 false 0 := .mk fun {S c r} h _ => by
  refine h.number.mono (fun v S' ⟨hv, h1, k1⟩ => ?_) (fun _ _ hf => hf)
  subst hv
  rw [lift_int]
  refine ⟨h1, .cell rfl, fun i j hr hj => ?_, k1⟩
  subst hr
  cases hd : rdI s i with
  | none => simp only [rI, hd] at hj; cases hj
  | some p =>
    simp only [rI, hd] at hj ⊢
    cases hj
    have hR := rdI_some hd
    exact ⟨by rw [hR.enc]; exact Enc.int hR.n, hR.lt⟩
theorem xtext (k : Nat) (s : List UInt8) : RGC 90 k s [.str] 1 false 0 := .mk fun {S c r} h _ => by
  refine CallTo.of (n := 32) Tryz.func90 rfl rfl ?_
  have hsm := h.small
  repeat' first
   | refine Opl.call rfl (by kernel_rfl) h.long rfl (fun v S1 ⟨hv, h1, k1⟩ => ?_) (fun _ _ hf => hf.elim)
   | refine .std ?_ | refine .nil ?_ | refine .seq ?_ | refine .region ?_ | refine .xs ?_ | refine .kb ?_ | refine .leaf ?_ | refine .block ?_ | refine .gn ?_ | refine .dr ?_ | fail
  subst hv
  have hpt1 := h1.pt
  have err : ∀ b : Nat, rL s r = (0, .error b) → lift (scanF (scan s k) s [.str]) r = .error b := by
    intro b hL
    cases r with
    | error c => simp only [rL, Prod.mk.injEq, true_and] at hL; simp only [lift]; exact hL
    | ok i =>
      cases hd : rdLen s i with
      | none => simp only [rL, hd, Prod.mk.injEq, true_and] at hL; simp only [lift, scanF, hd]; exact hL
      | some p =>
        simp only [rL, hd] at hL
        injection hL with _ h2
        cases h2
  cases hr2 : rL s r with
  | mk n r2 =>
    rw [hr2] at h1 hpt1
    simp only at h1 hpt1
    cases r2 with
    | error b =>
      have hn0 : n = 0 := by
        cases r with
        | error c => simp only [rL] at hr2; cases hr2; rfl
        | ok i =>
          cases hd : rdLen s i with
          | none => simp only [rL, hd] at hr2; cases hr2; rfl
          | some p => simp only [rL, hd] at hr2; cases hr2
      subst hn0
      rw [err b hr2]
      simp only [rCells] at hpt1
      have hadd : intOp .add .i64 (s.length : Int) ((0 : Nat) : Int) = some (.int .i64 (s.length : Nat)) := by
        simp only [intOp]; rw [wrap_i64_id (by constructor <;> omega)]; congr 2
      obtain ⟨S2, hS2⟩ : ∃ S2 : St, S2 = { S1 with h := S1.h.put c (.box 171 [.str s, .int .i64 (s.length : Nat), .int .i64 (b : Nat)]) } := ⟨_, rfl⟩
      have hst : storeE Tryz.prog 3 (.ptr c 1) (.int .i64 (s.length : Nat)) S1 = some S2 := by rw [hS2]; exact st_one h1.box rfl rfl
      repeat' first
       | refine Opl.val (op_int rfl rfl rfl hadd) rfl ?_
       | refine Opl.val (op_slcS rfl rfl rfl (Nat.le_refl _) (Nat.le_refl _)) rfl ?_
       | refine Opl.eff (op_store rfl rfl hst) ?_
       | refine .std ?_ | refine .nil ?_ | refine .seq ?_ | refine .region ?_ | refine .xs ?_ | refine .kb ?_ | refine .leaf ?_ | refine .block ?_ | refine .gn ?_ | refine .dr ?_ | fail
      refine At.fnr rfl rfl rfl ⟨⟨by rw [hS2]; exact h1.lt, hsm, fun i hi => (by cases hi), by rw [hS2]; simp [Tr.find_put, rCells]⟩, .cell rfl, fun i j hr hj => (by cases hj), ?_⟩
      rw [hS2]; exact k1.trans (Keep2.put _ _ _ _)
    | ok j =>
      obtain ⟨i, rfl, hd⟩ : ∃ i, r = .ok i ∧ rdLen s i = some (n, j) := by
        cases r with
        | error c => simp only [rL] at hr2; cases hr2
        | ok i =>
          refine ⟨i, rfl, ?_⟩
          cases hd : rdLen s i with
          | none => simp only [rL, hd] at hr2; cases hr2
          | some p => simp only [rL, hd] at hr2; cases hr2; rfl
      obtain ⟨hR, hle⟩ := rdLen_some hd
      simp only at hR hle
      simp only [rCells] at hpt1
      have hadd : intOp .add .i64 (j : Int) (n : Int) = some (.int .i64 ((j + n : Nat) : Int)) := by
        simp only [intOp]; rw [wrap_i64_id (by constructor <;> omega)]; rfl
      obtain ⟨S2, hst, h2, k2⟩ := h1.set (j + n) hle
      have hsc : lift (scanF (scan s k) s [.str]) (.ok i) = .ok (j + n) := by simp only [lift, scanF, hd]
      rw [hsc]
      repeat' first
       | refine Opl.val (op_int rfl rfl rfl hadd) rfl ?_
       | refine Opl.val (op_slcS rfl rfl rfl hle (Nat.le_add_right _ _)) rfl ?_
       | refine Opl.eff (op_store rfl rfl hst) ?_
       | refine .std ?_ | refine .nil ?_ | refine .seq ?_ | refine .region ?_ | refine .xs ?_ | refine .kb ?_ | refine .leaf ?_ | refine .block ?_ | refine .gn ?_ | refine .dr ?_ | fail
      refine At.fnr rfl rfl rfl ⟨h2, .cell rfl, fun i' j' hi hj => ?_, k1.trans k2⟩
      cases hi
      cases hj
      refine ⟨?_, by have := hR.lt; omega⟩
      rw [← slc_app (Nat.le_of_lt hR.lt) (Nat.le_add_right j n), hR.enc]
      have hl : (slc s j (j + n)).length = n := by rw [slc_len hle]; omega
      have he := Enc.str (s := slc s j (j + n)) (by omega)
      unfold encS at he
      rw [hl] at he
      exact he
theorem xtruth (k : Nat) (s : List UInt8) : RGC 94 k s [.bool] 1 false 0 := .mk fun {S c r} h _ => by
  refine CallTo.of (n := 22) Tryz.func94 rfl rfl ?_
  have hsm := h.small
  have hpt := h.pt
  obtain ⟨p0, hp0⟩ : ∃ p0 : Nat, p0 = rPos s r := ⟨_, rfl⟩
  have hpt' : Pt S (.ptr c 0) (.str s :: .int .i64 (p0 : Nat) :: (rCells s r).drop 2) := by
    rw [hp0]
    cases r <;> exact hpt
  clear hpt
  repeat' first
   | refine Opl.call rfl (by kernel_rfl) h.number rfl (fun v S1 ⟨hv, h1, k1⟩ => ?_) (fun _ _ hf => hf.elim)
   | refine .std ?_ | refine .nil ?_ | refine .seq ?_ | refine .region ?_ | refine .xs ?_ | refine .kb ?_ | refine .leaf ?_ | refine .block ?_ | refine .gn ?_ | refine .dr ?_ | fail
  subst hv
  obtain ⟨n, hn⟩ : ∃ n, n = (rI s r).1 := ⟨_, rfl⟩
  rw [← hn]
  have hone : intOp .eql .i64 n 1 = some (.bool (decide (n = 1))) := eql_i rfl
  by_cases h01 : n = 0 ∨ n = 1
  · have hsc : lift (scanF (scan s k) s [.bool]) r = (rI s r).2 := by
      cases r with
      | error b => rfl
      | ok i =>
        cases hd : rdI s i with
        | none => simp only [lift, scanF, rI, hd]
        | some p =>
          simp only [rI, hd] at hn
          simp only [lift, scanF, rI, hd]
          rw [if_pos (by rw [← hn]; exact h01)]
    have henc : ∀ i j, r = .ok i → (rI s r).2 = .ok j → Enc [.bool] [.bool (decide (n = 1))] (slc s i j) ∧ i < j := by
      intro i j hr hj
      subst hr
      cases hd : rdI s i with
      | none => simp only [rI, hd] at hj; cases hj
      | some p =>
        simp only [rI, hd] at hj hn
        cases hj
        have hR := rdI_some hd
        refine ⟨?_, hR.lt⟩
        rw [hR.enc, ← hn]
        have : encI n = encB (decide (n = 1)) := by rcases h01 with h | h <;> rw [h] <;> rfl
        rw [this]; exact Enc.bool _
    rw [hsc]
    by_cases n0 : n = 0
    · have e0 : intOp .neq .i64 n 0 = some (.bool false) := neq_i (by rw [n0]; rfl)
      repeat' first
       | refine Opl.val (op_int rfl rfl rfl e0) rfl ?_
       | refine Opl.val (op_int rfl rfl rfl hone) rfl ?_
       | refine Go.condF rfl ?_
       | refine .std ?_ | refine .nil ?_ | refine .seq ?_ | refine .region ?_ | refine .xs ?_ | refine .kb ?_ | refine .leaf ?_ | refine .block ?_ | refine .gn ?_ | refine .dr ?_ | fail
      exact At.fnr rfl rfl rfl ⟨h1, .cell rfl, henc, k1⟩
    · have e0 : intOp .neq .i64 n 0 = some (.bool true) := neq_i (by rw [decide_eq_false n0]; rfl)
      have e1 : intOp .neq .i64 n 1 = some (.bool false) := neq_i (by
        rcases h01 with h | h
        · exact absurd h n0
        · rw [h]; rfl)
      repeat' first
       | refine op_gyes rfl ?_ rfl
       | refine Opl.val (op_int rfl rfl rfl e0) rfl ?_
       | refine Opl.val (op_int rfl rfl rfl e1) rfl ?_
       | refine Opl.val (op_int rfl rfl rfl hone) rfl ?_
       | refine Go.condF rfl ?_
       | refine .std ?_ | refine .nil ?_ | refine .seq ?_ | refine .region ?_ | refine .xs ?_ | refine .kb ?_ | refine .leaf ?_ | refine .block ?_ | refine .gn ?_ | refine .dr ?_ | fail
      exact At.fnr rfl rfl rfl ⟨h1, .cell rfl, henc, k1⟩
  · have n0 : n ≠ 0 := fun h => h01 (.inl h)
    have n1 : n ≠ 1 := fun h => h01 (.inr h)
    have e0 : intOp .neq .i64 n 0 = some (.bool true) := neq_i (by rw [decide_eq_false n0]; rfl)
    have e1 : intOp .neq .i64 n 1 = some (.bool true) := neq_i (by rw [decide_eq_false n1]; rfl)
    have hsc : lift (scanF (scan s k) s [.bool]) r = lift (fun _ => .error p0) (rI s r).2 := by
      cases r with
      | error b => rfl
      | ok i =>
        simp only [rPos] at hp0
        cases hd : rdI s i with
        | none => simp only [rI, hd] at hn; exact absurd hn n0
        | some p =>
          simp only [rI, hd] at hn
          simp only [lift, scanF, rI, hd]
          rw [if_neg (by rw [← hn]; exact h01), hp0]
    rw [hsc]
    repeat' first
     | refine op_gyes rfl ?_ rfl
     | refine Opl.val (op_int rfl rfl rfl e0) rfl ?_
     | refine Opl.val (op_int rfl rfl rfl e1) rfl ?_
     | refine Opl.val (op_int rfl rfl rfl hone) rfl ?_
     | refine Go.condT rfl ?_
     | refine Opl.call rfl (by kernel_rfl) (h1.fail p0) rfl (fun v S3 h3 => ?_) (fun _ _ hf => hf.elim)
     | refine .std ?_ | refine .nil ?_ | refine .seq ?_ | refine .region ?_ | refine .xs ?_ | refine .kb ?_ | refine .leaf ?_ | refine .block ?_ | refine .gn ?_ | refine .dr ?_ | fail
    refine At.fnr rfl rfl rfl ⟨h3.1, .cell rfl, fun i j hr hj => ?_, k1.trans h3.2⟩
    cases hr2 : (rI s r).2 with
    | error b => rw [hr2] at hj; cases hj
    | ok j => rw [hr2] at hj; cases hj
structure RProg (k : Nat) (S0 S : St) (c x : Nat) (s : List UInt8) (r0 r : RS) (T : TypeId) (L : List V) (lo : Nat) (fs : List Ev.Fd) (n : Nat) (rest : List V) : Prop where
  ex : ∃ cs, S.h.find x = some (.box T ((L ++ cs) ++ rest)) ∧ cs.length = n ∧ cs.all V.one = true ∧ (∀ i j, r0 = .ok i → r = .ok j → Enc fs cs (slc s i j))
  mono : ∀ j, r = .ok j → ∃ i, r0 = .ok i ∧ i ≤ j ∧ (fs.isEmpty = false → i < j)
  sc : r = lift (scanF (scan s k) s fs) r0
  st : RSt S c s r
  keep : Keep2 S0 S c x
  xc : x ≠ c
  xlt : x < S.next
  lo : L.length = lo
section
variable {k : Nat} {S0 S : St} {c x : Nat} {s : List UInt8} {r0 r : RS} {T : TypeId} {L : List V} {lo : Nat} {fs : List Ev.Fd} {n : Nat} {rest : List V}
theorem RProg.fuel {m : Nat} (p : RProg k S0 S c x s r0 r T L lo fs n rest) (h : mu s r0 + m ≤ k + 1) : mu s r + m ≤ k + 1 := by
  cases hr : r with
  | error b => simp only [mu]; omega
  | ok j =>
    obtain ⟨i, hi, hle, _⟩ := p.mono j hr
    rw [hi] at h
    simp only [mu] at h ⊢
    omega
theorem RProg.fuel1 (p : RProg k S0 S c x s r0 r T L lo fs n rest) (h : mu s r0 ≤ k + 1) (hf : fs.isEmpty = false) : mu s r + 1 ≤ k + 1 := by
  cases hr : r with
  | error b => simp only [mu]; omega
  | ok j =>
    obtain ⟨i, hi, hle, hlt⟩ := p.mono j hr
    have hlt := hlt hf
    have hj := p.st.le j hr
    rw [hi] at h
    simp only [mu] at h ⊢
    omega
theorem RProg.start (h : RSt S c s r) (hx : x ≠ c) (hl : x < S.next) (hb : S.h.find x = some (.box T (L ++ rest))) (hlo : L.length = lo) : RProg k S S c x s r r T L lo [] 0 rest :=
  ⟨⟨[], by simpa using hb, rfl, rfl, fun i j h1 h2 => by rw [h1] at h2; cases h2; rw [slc_self]; exact Enc.nil⟩, fun j hj => ⟨j, hj, Nat.le_refl _, fun h => by cases h⟩, (lift_nil _ _ _).symm, h, Keep2.refl _ _ _, hx, hl, hlo⟩
theorem RProg.add {S1 S2 : St} {grp : List Ev.Fd} {m : Nat} {z : List V} {v : V} (p : RProg k S0 S c x s r0 r T L lo fs n (z ++ rest)) {r' : RS} (hr' : lift (scanF (scan s k) s grp) r = r')
    (h1 : RSt S1 c s r') (hl : v.cells.length = m) (ho : v.cells.all V.one = true) (he : ∀ i j, r = .ok i → r' = .ok j → Enc grp v.cells (slc s i j) ∧ i < j) (hnx : S.next ≤ S1.next) (k1 : ∀ id, id < S0.next → id ≠ c → id ≠ x → S1.h.find id = S.h.find id)
    {cs : List V} (hcs : cs.length = n ∧ cs.all V.one = true ∧ (∀ i j, r0 = .ok i → r = .ok j → Enc fs cs (slc s i j))) (hb : S2.h.find x = some (.box T ((L ++ cs) ++ (v.cells ++ rest)))) (k2 : Keep2 S1 S2 x x) :
    RProg k S0 S2 c x s r0 r' T L lo (fs ++ grp) (n + m) rest := by
  obtain ⟨c1, c2, c3⟩ := hcs
  refine ⟨⟨cs ++ v.cells, by rw [hb]; simp [List.append_assoc], by rw [List.length_append, c1, hl], by rw [List.all_append, c2, ho]; rfl, fun i j hi hj => ?_⟩, fun j hj => ?_, ?_, h1.keep k2 p.xc.symm, ⟨Nat.le_trans p.keep.next (Nat.le_trans hnx k2.next), fun id i1 i2 i3 => ?_⟩, p.xc, Nat.lt_of_lt_of_le p.xlt (Nat.le_trans hnx k2.next), p.lo⟩
  · cases hr : r with
    | error b => rw [hr] at hr'; simp only [lift] at hr'; rw [← hr'] at hj; cases hj
    | ok a =>
      obtain ⟨i', hi', hle, _⟩ := p.mono a hr
      rw [hi] at hi'
      cases hi'
      obtain ⟨e1, e2⟩ := he a j hr hj
      rw [← slc_app hle (Nat.le_of_lt e2)]
      exact (c3 i a hi hr).app e1
  · cases hr : r with
    | error b => rw [hr] at hr'; simp only [lift] at hr'; rw [← hr'] at hj; cases hj
    | ok a =>
      obtain ⟨i, hi, hle, _⟩ := p.mono a hr
      obtain ⟨e1, e2⟩ := he a j hr hj
      exact ⟨i, hi, by omega, fun _ => by omega⟩
  · rw [lift_app, ← p.sc, hr']
  · rw [k2.find id (Nat.lt_of_lt_of_le i1 (Nat.le_trans p.keep.next hnx)) i3 i3, k1 id i1 i2 i3, p.keep.find id i1 i2 i3]
end
theorem Opl.rf {k0 : Nat} {S0 S : St} {c x : Nat} {s : List UInt8} {r0 r : RS} {T : TypeId} {L : List V} {lo : Nat} {fs : List Ev.Fd} {n : Nat} {rest z : List V} {F : Sh} {E : Env} {kk : K} {ops : Array Oper} {os : List Oper} {d1 d2 xt fi off : Nat} {ty1 ty2 ty3 T' U : TypeId} {pos1 pos2 pos3 : String} {a1 a2 a3 : Array Edge} {f : Operand} {args : Array Operand} {ats : Array TypeId} {g : FuncId} {grp : List Ev.Fd} {m mm : Nat} {ag : Bool} (fs2 : List Ev.Fd) (n2 : Nat)
    (p : RProg k0 S0 S c x s r0 r T L lo fs n (z ++ rest)) (hf : calleeE (Env.opd E) f args = some (g, [.ptr c 0])) (hb : hasBody Tryz.prog g = true) (hc : RGC g k0 s grp m ag mm) (hfu : mu s r + mm ≤ k0 + 1) (hfs : fs2 = fs ++ grp) (hn : n2 = n + m) (hz : z.length = m)
    [hfd : Fld Tryz.prog T' fi off] [hsz : SzN Tryz.prog U m] (hxe : Env.get E xt = some (.ptr x 0)) (ho : off = lo + n) (hd1 : Nat.blt d1 F.n = true) (hd2 : Nat.blt d2 F.n = true) (hne : (!Nat.beq d1 xt && !Nat.beq d2 d1) = true)
    (h1 : ∀ S' r' v, RProg k0 S0 S' c x s r0 r' T L lo fs2 n2 rest → Opl Tryz.prog ops os F ((d2, .ptr x (0 + off)) :: (d1, v) :: E) S' kk) :
    Opl Tryz.prog ops (⟨some d1, .call { callee := .value f, args, argTypes := ats }, ty1, pos1, a1, none⟩ :: ⟨some d2, .fieldAddr T' (.tmp xt) fi, ty2, pos2, a2, none⟩ :: ⟨none, .store U (.tmp d2) (.tmp d1), ty3, pos3, a3, none⟩ :: os) F E S kk := by
  subst hfs hn ho
  simp only [Bool.and_eq_true, Bool.not_eq_true'] at hne
  obtain ⟨ne1, ne2⟩ := hne
  obtain ⟨cs, b1, b2, b3, b4⟩ := p.ex
  refine .call hf hb (hc.h p.st hfu) hd1 (fun v S1 hv => ?_) (fun _ _ h => h.elim)
  obtain ⟨q1, q2, q3, q4⟩ := hv
  have hx1 : S1.h.find x = some (.box T ((L ++ cs) ++ (z ++ rest))) := by rw [q4.find x p.xlt p.xc p.xc]; exact b1
  obtain ⟨S2, hst, hb2, k2⟩ := storeE_mid (P := Tryz.prog) (U := U) (o := 0 + (lo + n)) hsz (by simp [p.lo, b2]) hz q2.len q2.ones hx1
  have hge : Env.get ((d1, v) :: E) xt = some (.ptr x 0) := by simp only [Env.get, ne1]; exact hxe
  refine .val (op_fld (p := .ptr x 0) hge rfl) hd2 ?_
  have g1 : Env.opd ((d2, padd (.ptr x 0) (lo + n)) :: (d1, v) :: E) (.tmp d1) = some v := by simp only [Env.opd, Env.get, ne2, Nat.beq_refl]
  have g2 : Env.opd ((d2, padd (.ptr x 0) (lo + n)) :: (d1, v) :: E) (.tmp d2) = some (.ptr x (0 + (lo + n))) := by simp only [Env.opd, Env.get, Nat.beq_refl, padd]
  refine .eff (op_store g2 g1 hst) ?_
  exact h1 S2 _ v (p.add rfl q1 q2.len q2.ones q3 q4.next (fun id i1 i2 i3 => q4.find id (Nat.lt_of_lt_of_le i1 p.keep.next) i2 i2) ⟨b2, b3, b4⟩ hb2 k2)
theorem Opl.rf2 {k0 : Nat} {S0 S : St} {c x : Nat} {s : List UInt8} {r0 r : RS} {T : TypeId} {L : List V} {lo : Nat} {fs : List Ev.Fd} {n : Nat} {rest z : List V} {F : Sh} {E : Env} {kk : K} {ops : Array Oper} {os : List Oper} {d1 d2 d3 xt fi off fi2 off2 : Nat} {ty1 ty2 ty3 ty4 T' T2 U : TypeId} {pos1 pos2 pos3 pos4 : String} {a1 a2 a3 a4 : Array Edge} {f : Operand} {args : Array Operand} {ats : Array TypeId} {g : FuncId} {grp : List Ev.Fd} {m mm : Nat} {ag : Bool} (fs2 : List Ev.Fd) (n2 : Nat)
    (p : RProg k0 S0 S c x s r0 r T L lo fs n (z ++ rest)) (hf : calleeE (Env.opd E) f args = some (g, [.ptr c 0])) (hb : hasBody Tryz.prog g = true) (hc : RGC g k0 s grp m ag mm) (hfu : mu s r + mm ≤ k0 + 1) (hfs : fs2 = fs ++ grp) (hn : n2 = n + m) (hz : z.length = m)
    [hfd : Fld Tryz.prog T' fi off] [hfd2 : Fld Tryz.prog T2 fi2 off2] [hsz : SzN Tryz.prog U m] (hxe : Env.get E xt = some (.ptr x 0)) (ho : off + off2 = lo + n) (hd1 : Nat.blt d1 F.n = true) (hd2 : Nat.blt d2 F.n = true) (hd3 : Nat.blt d3 F.n = true) (hne : (!Nat.beq d1 xt && !Nat.beq d2 d1 && !Nat.beq d3 d1) = true)
    (h1 : ∀ S' r' v, RProg k0 S0 S' c x s r0 r' T L lo fs2 n2 rest → Opl Tryz.prog ops os F ((d3, .ptr x (0 + (off + off2))) :: (d2, .ptr x (0 + off)) :: (d1, v) :: E) S' kk) :
    Opl Tryz.prog ops (⟨some d1, .call { callee := .value f, args, argTypes := ats }, ty1, pos1, a1, none⟩ :: ⟨some d2, .fieldAddr T' (.tmp xt) fi, ty2, pos2, a2, none⟩ :: ⟨some d3, .fieldAddr T2 (.tmp d2) fi2, ty4, pos4, a4, none⟩ :: ⟨none, .store U (.tmp d3) (.tmp d1), ty3, pos3, a3, none⟩ :: os) F E S kk := by
  subst hfs hn
  simp only [Bool.and_eq_true, Bool.not_eq_true'] at hne
  obtain ⟨⟨ne1, ne2⟩, ne3⟩ := hne
  obtain ⟨cs, b1, b2, b3, b4⟩ := p.ex
  refine .call hf hb (hc.h p.st hfu) hd1 (fun v S1 hv => ?_) (fun _ _ h => h.elim)
  obtain ⟨q1, q2, q3, q4⟩ := hv
  have hx1 : S1.h.find x = some (.box T ((L ++ cs) ++ (z ++ rest))) := by rw [q4.find x p.xlt p.xc p.xc]; exact b1
  obtain ⟨S2, hst, hb2, k2⟩ := storeE_mid (P := Tryz.prog) (U := U) (o := 0 + (off + off2)) hsz (by simp [p.lo, b2]; omega) hz q2.len q2.ones hx1
  have hge : Env.get ((d1, v) :: E) xt = some (.ptr x 0) := by simp only [Env.get, ne1]; exact hxe
  refine .val (op_fld (p := .ptr x 0) hge rfl) hd2 ?_
  refine .val (op_fld2 (p := .ptr x 0) (k := off) (by simp only [Env.opd, Env.get, Nat.beq_refl]) rfl) hd3 ?_
  have g1 : Env.opd ((d3, padd (.ptr x 0) (off + off2)) :: (d2, padd (.ptr x 0) off) :: (d1, v) :: E) (.tmp d1) = some v := by simp only [Env.opd, Env.get, ne2, ne3, Nat.beq_refl]
  have g2 : Env.opd ((d3, padd (.ptr x 0) (off + off2)) :: (d2, padd (.ptr x 0) off) :: (d1, v) :: E) (.tmp d3) = some (.ptr x (0 + (off + off2))) := by simp only [Env.opd, Env.get, Nat.beq_refl, padd]
  refine .eff (op_store g2 g1 hst) ?_
  exact h1 S2 _ v (p.add rfl q1 q2.len q2.ones q3 q4.next (fun id i1 i2 i3 => q4.find id (Nat.lt_of_lt_of_le i1 p.keep.next) i2 i2) ⟨b2, b3, b4⟩ hb2 k2)
structure RLp (k : Nat) (lo : Nat) (S : St) (c : Nat) (s : List UInt8) (r : RS) (t te sz q : Nat) (rq : RS) (v : V) : Prop where
  st : RSt S c s rq
  sc : rq = lift (scanL (scan s k t) q) (rL s r).2
  grow : Grow S lo te sz q v
  enc : ∀ i j, (rL s r).2 = .ok i → rq = .ok j → EncE t (elems v) (slc s i j) ∧ i + q ≤ j
  fu : mu s r ≤ k + 1
theorem rL_ok {s : List UInt8} {r : RS} {i1 : Nat} (h : (rL s r).2 = .ok i1) : ∃ i, r = .ok i ∧ rdLen s i = some ((rL s r).1, i1) := by
  cases r with
  | error b => simp only [rL] at h; cases h
  | ok i =>
    refine ⟨i, rfl, ?_⟩
    cases hd : rdLen s i with
    | none => simp only [rL, hd] at h; cases h
    | some p => simp only [rL, hd] at h ⊢; cases h; rfl
section
variable {k lo : Nat} {S S' : St} {c : Nat} {s : List UInt8} {r rq : RS} {t te sz q : Nat} {v : V}
theorem RLp.start (h : RSt S c s (rL s r).2) (hf : mu s r ≤ k + 1) : RLp k lo S c s r t te sz 0 (rL s r).2 .nils :=
  ⟨h, by cases (rL s r).2 <;> rfl, .inl ⟨rfl, rfl⟩, fun i j hi hj => by rw [hi] at hj; cases hj; rw [slc_self]; exact ⟨EncE.nil _, by omega⟩, hf⟩
theorem RLp.pos {j : Nat} (h : RLp k lo S c s r t te sz q rq v) (hj : rq = .ok j) : mu s rq + 1 ≤ k + 1 ∧ 0 < k ∧ ∃ i1, (rL s r).2 = .ok i1 ∧ i1 + q ≤ j := by
  cases hr : (rL s r).2 with
  | error b =>
    have := h.sc
    rw [hr, hj] at this
    cases this
  | ok i1 =>
    obtain ⟨i, hi, hd⟩ := rL_ok hr
    obtain ⟨hR, hle⟩ := rdLen_some hd
    obtain ⟨_, h2⟩ := h.enc i1 j hr hj
    have hlt := hR.lt
    simp only at hlt
    have hfu := h.fu
    have hjl := h.st.le j hj
    rw [hi] at hfu
    rw [hj]
    simp only [mu] at hfu ⊢
    exact ⟨by omega, by omega, i1, rfl, h2⟩
theorem RLp.cnt (h : RLp k lo S c s r t te sz q rq v) (hq : q ≤ (rL s r).1) : q ≤ 100000 := by
  cases hr : (rL s r).2 with
  | error b =>
    have : (rL s r).1 = 0 := by
      cases r with
      | error c => rfl
      | ok i =>
        cases hd : rdLen s i with
        | none => simp only [rL, hd]
        | some p => simp only [rL, hd] at hr; cases hr
    omega
  | ok i1 =>
    obtain ⟨i, hi, hd⟩ := rL_ok hr
    obtain ⟨hR, hle⟩ := rdLen_some hd
    simp only at hle
    have := h.st.small
    omega
theorem RLp.next {S3 : St} {j : Nat} {r' : RS} {xv v' : V} (h : RLp k lo S c s r t te sz q rq v) (hj : rq = .ok j) (hr' : lift (scanF (scan s k) s [.sub t]) rq = r') (h3 : RSt S3 c s r')
    (he : ∀ i j', rq = .ok i → r' = .ok j' → Enc [.sub t] xv.cells (slc s i j') ∧ i < j') (hg : Grow S3 lo te sz (q + 1) v') (hel : elems v' = elems v ++ [xv]) : RLp k lo S3 c s r t te sz (q + 1) r' v' := by
  obtain ⟨_, _, i1, hi1, hqj⟩ := h.pos hj
  refine ⟨h3, ?_, hg, fun i j' hi hj' => ?_, h.fu⟩
  · have hs := h.sc
    rw [hi1] at hs ⊢
    simp only [lift] at hs ⊢
    rw [hj] at hs
    rw [scanL_snoc _ _ _ _ hs.symm, ← hr', hj]
    simp only [lift, scanF_sub]
  · obtain ⟨e1, e2⟩ := he j j' hj hj'
    obtain ⟨e3, e4⟩ := h.enc i j hi hj
    rw [hel, ← slc_app (by omega : i ≤ j) (Nat.le_of_lt e2)]
    exact ⟨e3.snoc e1.unsub, by omega⟩
theorem RLp.done (h : RLp k lo S c s r t te (szs t) q rq v) (hq : q ≤ (rL s r).1) (he : q = (rL s r).1 ∨ ∃ b, rq = .error b) :
    lift (scanF (scan s k) s [.list t]) r = rq ∧ Shape v 1 false ∧ ∀ i j, r = .ok i → rq = .ok j → Enc [.list t] v.cells (slc s i j) ∧ i < j := by
  have hone := h.grow.one
  have hcell : v.cells = [v] := by cases v <;> first | rfl | (cases hone; done)
  refine ⟨lift_list hq h.sc he, .cell hone, fun i j hi hj => ?_⟩
  obtain ⟨_, _, i1, hi1, hqj⟩ := h.pos hj
  obtain ⟨i', hi', hd⟩ := rL_ok hi1
  rw [hi] at hi'
  cases hi'
  obtain ⟨hR, hle⟩ := rdLen_some hd
  simp only at hR hle
  obtain ⟨e1, e2⟩ := h.enc i1 j hi1 hj
  have hq2 : q = (rL s r).1 := by
    rcases he with he | ⟨b, he⟩
    · exact he
    · rw [he] at hj; cases hj
  have hlt := hR.lt
  refine ⟨?_, by omega⟩
  rw [hcell, ← slc_app (Nat.le_of_lt hlt) (by omega : i1 ≤ j), hR.enc, ← hq2]
  have hl := h.grow.len
  have hc := h.cnt hq
  have := Enc.list (t := t) h.grow.isLn (by omega) e1
  rw [hl] at this
  exact this
end
theorem Sub.cons1 {E' E : Env} {k : Nat} {v : V} (h : Ev.Sub E' E) (hk : E'.all (fun p => !Nat.beq k p.1) = true) : Ev.Sub E' ((k, v) :: E) := by
  induction E' with
  | nil => trivial
  | cons p l ih =>
    obtain ⟨a, u⟩ := p
    obtain ⟨h1, h2⟩ := h
    simp only [List.all_cons, Bool.and_eq_true, Bool.not_eq_true'] at hk
    refine ⟨?_, ih h2 hk.2⟩
    simp only [Env.get, hk.1]
    exact h1
def ndE : Env → Bool
  | [] => true
  | p :: l => l.all (fun q => !Nat.beq p.1 q.1) && ndE l
theorem Sub.self : ∀ {E : Env}, ndE E = true → Ev.Sub E E
  | [], _ => trivial
  | (a, v) :: l, h => by
    simp only [ndE, Bool.and_eq_true] at h
    exact ⟨by simp only [Env.get, Nat.beq_refl], Sub.cons1 (Sub.self h.2) h.1⟩
theorem Go.rloop {F : Sh} {E0 : Env} {S0 : St} {kk : K} {B B1 i4 i5 a1 a2 a3 tc b1 b2 c0 ti tn : Nat} {y1 y2 y3 y4 y5 y6 y7 yt yu : TypeId} {p1 p2 p3 p4 p5 p6 p7 : String} {e1 e2 e3 e4 e5 e6 e7 : Array Edge} {ats : Array TypeId} {BODY : Code} (c n : Nat) (s : List UInt8) (Inv : Nat → RS → St → Env → Prop)
    (hc : ∀ q r S Fx, Inv q r S Fx → Env.get Fx c0 = some (.ptr c 0) ∧ Env.get Fx tn = some (.int .i64 n) ∧ RSt S c s r ∧ Fx.all (fun p => !Nat.beq a1 p.1 && !Nat.beq a2 p.1 && !Nat.beq a3 p.1 && !Nat.beq tc p.1 && !Nat.beq b1 p.1 && !Nat.beq b2 p.1 && !Nat.beq ti p.1) = true ∧ ndE Fx = true)
    (hn : n < 4611686018427387904) (hnm : (!Nat.beq a1 ti && !Nat.beq a2 ti && !Nat.beq a3 ti && !Nat.beq tc ti && !Nat.beq b1 ti && !Nat.beq b2 ti && !Nat.beq a2 a1 && !Nat.beq a3 a1 && !Nat.beq a3 a2) = true)
    (hd : (Nat.blt a1 F.n && Nat.blt a2 F.n && Nat.blt a3 F.n && Nat.blt tc F.n && Nat.blt b1 F.n && Nat.blt b2 F.n && Nat.blt ti F.n) = true)
    (h0 : ∃ r Fx, Inv 0 r S0 Fx ∧ Ev.Sub ((ti, .int .i64 (0 : Nat)) :: Fx) E0)
    (hbody : ∀ (q j : Nat) (S1 : St) (Fx E1 : Env) (kx : K), q < n → Inv q (.ok j) S1 Fx → Ev.Sub ((ti, .int .i64 (q : Nat)) :: Fx) E1 → (∀ r' S2 Fx' E2, Inv (q + 1) r' S2 Fx' → Ev.Sub ((ti, .int .i64 (q : Nat)) :: Fx') E2 → At .normal kx F E2 S2) → Go Tryz.prog F E1 S1 BODY kx)
    (hexit : ∀ (q : Nat) (r : RS) (S1 : St) (Fx : Env), Inv q r S1 Fx → q ≤ n → (q = n ∨ ∃ b, r = .error b) → At .normal kk F Fx S1) :
    Go Tryz.prog F E0 S0 (.block B (.loop (.seq (.seq (.region i4 #[⟨some a1, .move (.tmp c0), y1, p1, e1, none⟩, ⟨some a2, .move (.tmp ti), y2, p2, e2, none⟩, ⟨some a3, .move (.tmp tn), y3, p3, e3, none⟩, ⟨some tc, .call { callee := .value (.func 89), args := #[.tmp a1, .tmp a2, .tmp a3], argTypes := ats }, y4, p4, e4, none⟩] false)
      (.cond (.tmp tc) .skip (.exit B))) (.seq (.block B1 BODY) (.region i5 #[⟨some b1, .move (.tmp ti), y5, p5, e5, none⟩, ⟨some b2, .binOp .add yt (.tmp b1) (.const (.int .i64 1)) yu, y6, p6, e6, none⟩, ⟨some ti, .assign (.tmp b2), y7, p7, e7, none⟩] false))))) kk := by
  simp only [Bool.and_eq_true, Bool.not_eq_true'] at hnm hd
  obtain ⟨⟨⟨⟨⟨⟨⟨⟨m1, m2⟩, m3⟩, m4⟩, m5⟩, m6⟩, m7⟩, m8⟩, m9⟩ := hnm
  obtain ⟨⟨⟨⟨⟨⟨d1, d2⟩, d3⟩, d4⟩, d5⟩, d6⟩, d7⟩ := hd
  refine Go.block ?_
  obtain ⟨r0, Fx0, hI0, hs0⟩ := h0
  refine Go.weaken ?_ hs0
  refine Go.loop_ind (α := Nat) (fun q => n - q) (fun q E S' => q ≤ n ∧ ∃ r Fx, Inv q r S' Fx ∧ E = (ti, .int .i64 (q : Nat)) :: Fx) ?_ 0 _ _ ⟨Nat.zero_le _, r0, Fx0, hI0, rfl⟩
  rintro q E S1 ⟨hq, r, Fx, hI, rfl⟩ IH
  obtain ⟨g1, g2, hst, hk, hnd⟩ := hc _ _ _ _ hI
  have kk2 : ∀ {w : Nat}, (w = a1 ∨ w = a2 ∨ w = a3 ∨ w = tc ∨ w = b1 ∨ w = b2 ∨ w = ti) → ∀ Fx' : Env, Fx'.all (fun p => !Nat.beq a1 p.1 && !Nat.beq a2 p.1 && !Nat.beq a3 p.1 && !Nat.beq tc p.1 && !Nat.beq b1 p.1 && !Nat.beq b2 p.1 && !Nat.beq ti p.1) = true → Fx'.all (fun p => !Nat.beq w p.1) = true := by
    intro w hw Fx' hf
    rw [List.all_eq_true] at hf ⊢
    intro p hp
    have := hf p hp
    simp only [Bool.and_eq_true] at this
    obtain ⟨⟨⟨⟨⟨⟨z1, z2⟩, z3⟩, z4⟩, z5⟩, z6⟩, z7⟩ := this
    rcases hw with rfl | rfl | rfl | rfl | rfl | rfl | rfl <;> assumption
  have keyne : ∀ {w u : Nat} {v : V}, Env.get Fx u = some v → (w = a1 ∨ w = a2 ∨ w = a3 ∨ w = tc ∨ w = b1 ∨ w = b2 ∨ w = ti) → Nat.beq w u = false := by
    intro w u v hu hw
    have h2 := kk2 hw Fx hk
    clear g1 g2 hI hk hnd IH
    induction Fx with
    | nil => cases hu
    | cons p l ih =>
      obtain ⟨pk, pv⟩ := p
      rw [Env.get_cons] at hu
      simp only [List.all_cons, Bool.and_eq_true, Bool.not_eq_true'] at h2
      split at hu
      · rename_i hpk; subst hpk; exact h2.1
      · exact ih hu h2.2
  have c1 : Env.get ((ti, V.int .i64 (q : Nat)) :: Fx) c0 = some (.ptr c 0) := by simp only [Env.get, keyne g1 (.inr (.inr (.inr (.inr (.inr (.inr rfl))))))]; exact g1
  have n1 : Env.get ((ti, V.int .i64 (q : Nat)) :: Fx) tn = some (.int .i64 n) := by simp only [Env.get, keyne g2 (.inr (.inr (.inr (.inr (.inr (.inr rfl))))))]; exact g2
  obtain ⟨bq, hbq⟩ : ∃ b, b = (decide (q < n) && okR r) := ⟨_, rfl⟩
  refine Go.seq (Go.seq (Go.region ?_))
  refine Opl.val (op_move (v := .ptr c 0) c1) d1 ?_
  refine Opl.val (op_move (v := .int .i64 (q : Nat)) (by simp only [Env.opd, Env.get, m1, Nat.beq_refl])) d2 ?_
  refine Opl.val (op_move (v := .int .i64 n) (by simp only [Env.opd, Env.get, keyne g2 (.inl rfl), keyne g2 (.inr (.inl rfl))]; exact n1)) d3 ?_
  have hcal : calleeE (Env.opd ((a3, V.int .i64 n) :: (a2, V.int .i64 (q : Nat)) :: (a1, .ptr c 0) :: (ti, V.int .i64 (q : Nat)) :: Fx)) (.func 89) #[.tmp a1, .tmp a2, .tmp a3] = some (89, [.ptr c 0, .int .i64 (q : Nat), .int .i64 n]) := by
    simp only [calleeE, Env.opd, mapO, Env.get, m7, m8, m9, Nat.beq_refl, List.nil_append, List.append_nil]
  refine Opl.callv hcal (by kernel_rfl) (hst.more q n hbq) d4 (fun U hU => ?_) (fun _ _ h => h.elim)
  subst hU
  refine Opl.nil (At.seq ?_)
  have sE : Ev.Sub ((ti, V.int .i64 (q : Nat)) :: Fx) ((tc, .bool bq) :: (a3, V.int .i64 n) :: (a2, V.int .i64 (q : Nat)) :: (a1, .ptr c 0) :: (ti, V.int .i64 (q : Nat)) :: Fx) := by
    refine ⟨by simp only [Env.get, m1, m2, m3, m4, Nat.beq_refl], ?_⟩
    have base : Ev.Sub Fx ((ti, V.int .i64 (q : Nat)) :: Fx) := Sub.cons1 (Sub.self hnd) (kk2 (.inr (.inr (.inr (.inr (.inr (.inr rfl)))))) Fx hk)
    exact Sub.cons1 (Sub.cons1 (Sub.cons1 (Sub.cons1 base (kk2 (.inl rfl) Fx hk)) (kk2 (.inr (.inl rfl)) Fx hk)) (kk2 (.inr (.inr (.inl rfl))) Fx hk)) (kk2 (.inr (.inr (.inr (.inl rfl)))) Fx hk)
  refine Go.cond (q := bq) (by simp only [Env.opd, Env.get, Nat.beq_refl]) (fun hb => ?_) (fun hb => ?_)
  · subst hbq
    simp only [Bool.and_eq_true, decide_eq_true_eq] at hb
    obtain ⟨hqn, hro⟩ := hb
    cases r with
    | error b => cases hro
    | ok j =>
      refine Go.skip (At.seq (Go.seq (Go.block ?_)))
      refine hbody q j S1 Fx _ _ hqn hI sE (fun r' S2 Fx' E2 hI2 hs2 => ?_)
      obtain ⟨_, _, _, hk', _⟩ := hc _ _ _ _ hI2
      refine At.blk (At.seq (Go.region ?_))
      have t1 := hs2.1
      refine Opl.val (op_move (v := .int .i64 (q : Nat)) t1) d5 ?_
      refine Opl.val (op_int (by simp only [Env.opd, Env.get, Nat.beq_refl]) rfl rfl (inc_ok (i := q) (by omega))) d6 ?_
      refine Opl.val (op_assign (v := .int .i64 ((q + 1 : Nat) : Int)) (by simp only [Env.opd, Env.get, Nat.beq_refl])) d7 ?_
      refine Opl.nil (At.seq ?_)
      refine (IH (q + 1) _ S2 (by omega) ⟨hqn, r', Fx', hI2, rfl⟩).weaken ⟨by simp only [Env.get, Nat.beq_refl], ?_⟩
      exact Sub.cons1 (Sub.cons1 (Sub.cons1 hs2.2 (kk2 (.inr (.inr (.inr (.inr (.inl rfl))))) Fx' hk')) (kk2 (.inr (.inr (.inr (.inr (.inr (.inl rfl)))))) Fx' hk')) (kk2 (.inr (.inr (.inr (.inr (.inr (.inr rfl)))))) Fx' hk')
  · refine Go.exit (At.seqx (At.seqx (At.blkx ?_)))
    have hx := hexit q r S1 Fx hI hq (by
      subst hbq
      simp only [Bool.and_eq_false_iff, decide_eq_false_iff_not] at hb
      rcases hb with hb | hb
      · exact .inl (by omega)
      · cases r with
        | error b => exact .inr ⟨b, rfl⟩
        | ok j => cases hb)
    exact ⟨fun fr hf => hx.h fr (hf.sub sE.2)⟩
end Go.Proofs.YtilldjgagokcfaaGreat
