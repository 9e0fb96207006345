import Derived.Test.YtilldjgagokcfaaGreatW3
import Derived.Test.YtilldjgagokcfaaGreatE9
set_option linter.unusedVariables false
set_option linter.unusedSimpArgs false
namespace Go.Ev
open Go.RowKit
structure Keep2 (S S' : St) (c x : Nat) : Prop where
  next : S.next ≤ S'.next
  find : ∀ id, id < S.next → id ≠ c → id ≠ x → S'.h.find id = S.h.find id
theorem Keep2.refl (S : St) (c x : Nat) : Keep2 S S c x := ⟨Nat.le_refl _, fun _ _ _ _ => rfl⟩
theorem Keep2.trans {A B C : St} {c x : Nat} (h : Keep2 A B c x) (k : Keep2 B C c x) : Keep2 A C c x :=
  ⟨Nat.le_trans h.next k.next, fun id h1 h2 h3 => by rw [k.find id (Nat.lt_of_lt_of_le h1 h.next) h2 h3, h.find id h1 h2 h3]⟩
theorem Keep2.one {A B : St} {c : Nat} (h : Keep2 A B c c) (x : Nat) : Keep2 A B c x := ⟨h.next, fun id h1 h2 _ => h.find id h1 h2 h2⟩
theorem Keep2.swap {A B : St} {c x : Nat} (h : Keep2 A B c x) : Keep2 A B x c := ⟨h.next, fun id h1 h2 h3 => h.find id h1 h3 h2⟩
theorem Keep2.new {A B : St} {c x y : Nat} (h : Keep2 A B c y) (hy : A.next ≤ y) : Keep2 A B c x := ⟨h.next, fun id h1 h2 _ => h.find id h1 h2 (by omega)⟩
theorem Keep2.put (S : St) (c x : Nat) (o : Ob) : Keep2 S { S with h := S.h.put x o } c x :=
  ⟨Nat.le_refl _, fun id _ _ h => by simp only [Tr.find_put, if_neg h]⟩
theorem Keep2.put1 (S : St) (c x : Nat) (o : Ob) : Keep2 S { S with h := S.h.put c o } c x :=
  ⟨Nat.le_refl _, fun id _ h _ => by simp only [Tr.find_put, if_neg h]⟩
structure Hold (p : Prop) : Prop where
  h : p
theorem Go.joinR {P : Program} {F : Sh} {E : Env} (i : Nat) (E' : Env) {S : St} {ops : Array Oper} {q : Bool} {b : Code} {k : K} (hrest : Hold (Go P F E' S b k)) (h : Hold ((∀ E1, Sub E' E1 → Go P F E1 S b k) → Go P F E S (.region i ops q) (Ks P b k))) : Go P F E S (.region i ops q) (Ks P b k) := h.h (fun _ hs => hrest.h.weaken hs)
theorem Go.hold {P : Program} {F : Sh} {E : Env} {S : St} {k : K} (i : Nat) {ops : Array Oper} {q : Bool} (h : Hold (Go P F E S (.region i ops q) k)) : Go P F E S (.region i ops q) k := h.h
theorem Go.holdS {P : Program} {F : Sh} {E : Env} {S : St} {k : K} (i : Nat) {ops : Array Oper} {q : Bool} {b : Code} (h : Hold (Go P F E S (.seq (.region i ops q) b) k)) : Go P F E S (.seq (.region i ops q) b) k := h.h
theorem Go.joinS {P : Program} {F : Sh} {E0 : Env} {S0 : St} {a b : Code} {k : K} (Inv : Env → St → Prop) (hrest : ∀ E S, Inv E S → Go P F E S b k) (h : (∀ E S, Inv E S → Go P F E S b k) → Go P F E0 S0 a (Ks P b k)) : Go P F E0 S0 a (Ks P b k) := h hrest
theorem and127 (c : UInt8) : bitE .and .u8 (c.toNat : Int) 127 = ((c.toNat % 128 : Nat) : Int) := by
  have h : ∀ m : Fin 256, bitE .and .u8 ((m.val : Nat) : Int) 127 = ((m.val % 128 : Nat) : Int) := by decide +kernel
  exact h ⟨c.toNat, c.toNat_lt⟩
theorem eql_i {k : IntKind} {a b : Int} {q : Bool} (h : decide (a = b) = q) : intOp .eql k a b = some (.bool q) := by
  simp only [intOp]; rw [← h]; rfl
theorem gtr_i {k : IntKind} {a b : Int} {q : Bool} (h : decide (a > b) = q) : intOp .gtr k a b = some (.bool q) := by
  simp only [intOp]; rw [← h]
theorem lss_i {k : IntKind} {a b : Int} {q : Bool} (h : decide (a < b) = q) : intOp .lss k a b = some (.bool q) := by
  simp only [intOp]; rw [← h]
theorem geq_i {k : IntKind} {a b : Int} {q : Bool} (h : decide (a ≥ b) = q) : intOp .geq k a b = some (.bool q) := by
  simp only [intOp]; rw [← h]
theorem neq_i {k : IntKind} {a b : Int} {q : Bool} (h : (!decide (a = b)) = q) : intOp .neq k a b = some (.bool q) := by
  simp only [intOp]; rw [← h]; rfl
theorem shlk (v k : Nat) (hk : k ≤ 9) (hv : v * 128 ^ k < 18446744073709551616) : shiftE .shl .u64 (IntKind.wrap .u64 (v : Int)) ((7 * k : Nat) : Int) = some (.int .u64 ((v * 128 ^ k : Nat) : Int)) := by
  simp only [shiftE]
  rw [if_neg (by simp; omega)]
  simp only [IntKind.bits]
  have h1 : min ((7 * k : Nat) : Int).toNat 64 = 7 * k := by omega
  have hp : (128 : Nat) ^ k = 2 ^ (7 * k) := by rw [Nat.pow_mul]
  have hv1 : v < 18446744073709551616 := Nat.lt_of_le_of_lt (Nat.le_mul_of_pos_right v (Nat.pow_pos (by omega))) hv
  rw [h1, wrap_u64 (v : Int)]
  have h2 : (v : Int) % 18446744073709551616 = (v : Int) := by omega
  rw [h2]
  have h3 : ((v : Int) * 2 ^ (7 * k)) = ((v * 128 ^ k : Nat) : Int) := by rw [hp]; simp
  rw [h3, wrap_u64]
  congr 2
  omega
theorem ork (u v k : Nat) (hu : u < 128 ^ k) (hs : u + v * 128 ^ k < 18446744073709551616) : intOp .or .u64 (u : Int) ((v * 128 ^ k : Nat) : Int) = some (.int .u64 ((u + v * 128 ^ k : Nat) : Int)) := by
  simp only [intOp]
  congr 2
  show IntKind.wrap .u64 ((BitVec.ofInt 64 (u : Int) ||| BitVec.ofInt 64 ((v * 128 ^ k : Nat) : Int)).toNat : Nat) = _
  have hp : (128 : Nat) ^ k = 2 ^ (7 * k) := by rw [Nat.pow_mul]
  have e1 : ∀ n : Nat, BitVec.ofInt 64 (n : Int) = BitVec.ofNat 64 n := fun n => by
    apply BitVec.eq_of_toNat_eq
    simp [BitVec.toNat_ofInt]
  rw [e1, e1, BitVec.toNat_or, BitVec.toNat_ofNat, BitVec.toNat_ofNat, Nat.mod_eq_of_lt (by omega), Nat.mod_eq_of_lt (by omega)]
  have : u ||| v * 128 ^ k = u + v * 128 ^ k := by
    rw [hp] at hu ⊢
    have := Nat.two_pow_add_eq_or_of_lt hu v
    rw [Nat.or_comm, Nat.mul_comm, ← this, Nat.add_comm]
  rw [this, wrap_u64]
  omega
theorem numAt_step {s : List UInt8} {f u i : Nat} {c : UInt8} (hc : s[i]? = some c) (hb : ¬ ((f = 0 ∧ 1 < c.toNat) ∨ (f < 9 ∧ c.toNat = 0))) (h : ¬ c.toNat < 128) : numAt s (f + 1) u i = numAt s f (u + c.toNat % 128 * 128 ^ (9 - f)) (i + 1) := by
  simp only [numAt, hc, if_neg hb, if_neg h]
theorem numAt_last {s : List UInt8} {f u i : Nat} {c : UInt8} (hc : s[i]? = some c) (hb : ¬ ((f = 0 ∧ 1 < c.toNat) ∨ (f < 9 ∧ c.toNat = 0))) (h : c.toNat < 128) : numAt s (f + 1) u i = some (u + c.toNat % 128 * 128 ^ (9 - f), i + 1) := by
  simp only [numAt, hc, if_neg hb, if_pos h]
theorem numAt_bad {s : List UInt8} {f u i : Nat} {c : UInt8} (hc : s[i]? = some c) (hb : (f = 0 ∧ 1 < c.toNat) ∨ (f < 9 ∧ c.toNat = 0)) : numAt s (f + 1) u i = none := by
  simp only [numAt, hc, if_pos hb]
theorem numAt_end {s : List UInt8} {f u i : Nat} (hc : s[i]? = none) : numAt s f u i = none := by
  cases f <;> simp only [numAt, hc]
theorem op_gyes {P : Program} {ops : Array Oper} {os : List Oper} {F : Sh} {E : Env} {S : St} {k : K} {d j : Nat} {op : Op} {ty : TypeId} {pos : String} {after : Array Edge} {w : Bool} (hg : gd ops E j w = some true) (hk : Opl P ops (⟨some d, op, ty, pos, after, none⟩ :: os) F E S k) (hd : Nat.blt d F.n = true) : Opl P ops (⟨some d, op, ty, pos, after, some (j, w)⟩ :: os) F E S k :=
  Opl.gon (q := true) hg hd (fun _ => hk) (fun h => by cases h)
end Go.Ev
namespace Go.Proofs.YtilldjgagokcfaaGreat
open Go.RowKit Go.Ev
set_option maxRecDepth 100000
set_option linter.unusedVariables false
def malV (i : Nat) : V := .iface 169 (.agg [.int .i64 i])
structure CodR (S : St) (c : Nat) (s : List UInt8) (i : Nat) : Prop where
  lt : c < S.next
  le : i ≤ s.length
  small : s.length ≤ 100000
  box : S.h.find c = some (.box 109 [.nilp, .nils, .str s, .int .i64 i, .bool true])
theorem CodR.pt {S : St} {c : Nat} {s : List UInt8} {i : Nat} (h : CodR S c s i) : Pt S (.ptr c 0) [.nilp, .nils, .str s, .int .i64 i, .bool true] := ⟨_, _, h.box, fun i v h => by simpa using h⟩
theorem CodR.keep {S S' : St} {c x : Nat} {s : List UInt8} {i : Nat} (h : CodR S c s i) (k : Keep2 S S' x x) (hx : c ≠ x) : CodR S' c s i :=
  ⟨Nat.lt_of_lt_of_le h.lt k.next, h.le, h.small, by rw [k.find c h.lt hx hx]; exact h.box⟩
theorem CodR.set {S : St} {c : Nat} {s : List UInt8} {i : Nat} (h : CodR S c s i) (j : Nat) (hj : j ≤ s.length) : ∃ S', storeE Tryz.prog 3 (.ptr c 3) (.int .i64 j) S = some S' ∧ CodR S' c s j ∧ Keep2 S S' c c :=
  ⟨{ S with h := S.h.put c (.box 109 [.nilp, .nils, .str s, .int .i64 j, .bool true]) }, st_one h.box rfl rfl, ⟨h.lt, hj, h.small, by simp [Tr.find_put]⟩, Keep2.put _ _ _ _⟩
theorem bMal (i : Int) : buildE Tryz.prog 169 [(0, .int .i64 i)] = some (.agg [.int .i64 i]) := by kernel_rfl
set_option maxHeartbeats 4000000 in
theorem CodR.groups {S : St} {c : Nat} {s : List UInt8} {i : Nat} (h : CodR S c s i) (n : Int) :
    CallTo Tryz.prog 148 [.ptr c 0, .int .u64 n] S (fun v S' => ∃ r : Nat × Nat, numAt s 10 0 i = some r ∧ v = .int .u64 r.1 ∧ CodR S' c s r.2 ∧ Keep2 S S' c c) (fun v S' => numAt s 10 0 i = none ∧ v = malV i ∧ Keep2 S S' c c) := by
  refine CallTo.of (n := 103) Tryz.func148 rfl rfl ?_
  have hpt := h.pt
  have hsm := h.small
  repeat' first
   | refine Go.condF rfl ?_
   | refine .std ?_ | refine .nil ?_ | refine .seq ?_ | refine .region ?_ | refine .xs ?_ | refine .kb ?_ | refine .leaf ?_ | refine .block ?_ | refine .gn ?_ | refine .dr ?_ | fail
  refine Go.weaken (E' := [(0, .ptr c 0), (6, .int .i64 i), (7, .int .u64 (0 : Nat)), (8, .int .i64 ((7 * 0 : Nat) : Int))]) ?_ ⟨rfl, rfl, rfl, rfl, trivial⟩
  refine Go.loop_ind (α := Nat × Nat × Nat) (fun x => 10 - x.1) (fun x E S' => E = [(0, .ptr c 0), (6, .int .i64 i), (7, .int .u64 x.2.1), (8, .int .i64 ((7 * x.1 : Nat) : Int))] ∧ CodR S' c s x.2.2 ∧ Keep2 S S' c c ∧ x.1 ≤ 10 ∧ x.2.1 < 128 ^ x.1 ∧ (x.1 = 10 → x.2.1 < 18446744073709551616) ∧ numAt s (10 - x.1) x.2.1 x.2.2 = numAt s 10 0 i) ?_ (0, 0, i) _ _ ⟨rfl, h, Keep2.refl _ _ _, by simp, by simp, by simp, rfl⟩
  rintro ⟨k, u, j⟩ E S1 ⟨rfl, h1, k1, hk, hu, hu10, hnum⟩ IH
  simp only at h1 k1 hk hu hu10 hnum
  have hpt1 := h1.pt
  have hjle := h1.le
  by_cases hend : j = s.length
  · have e1 : intOp .eql .i64 (j : Int) (s.length : Int) = some (.bool true) := eql_i (decide_eq_true (by omega))
    repeat' first
     | refine Opl.val (op_int rfl rfl rfl e1) rfl ?_
     | refine Go.condT rfl ?_
     | refine Opl.val (op_build1 rfl (bMal _)) rfl ?_
     | refine Opl.panic rfl ?_
     | refine .std ?_ | refine .nil ?_ | refine .seq ?_ | refine .region ?_ | refine .xs ?_ | refine .kb ?_ | refine .leaf ?_ | refine .block ?_ | refine .gn ?_ | refine .dr ?_ | fail
    refine At.fnp rfl ⟨?_, rfl, k1⟩
    rw [← hnum, numAt_end (List.getElem?_eq_none (by omega))]
  · have e1 : intOp .eql .i64 (j : Int) (s.length : Int) = some (.bool false) := eql_i (decide_eq_false (by omega))
    by_cases hk10 : k = 10
    · have e2 : intOp .gtr .i64 ((7 * k : Nat) : Int) 63 = some (.bool true) := gtr_i (decide_eq_true (by omega))
      repeat' first
       | refine Opl.val (op_int rfl rfl rfl e1) rfl ?_
       | refine Opl.val (op_int rfl rfl rfl e2) rfl ?_
       | refine op_gyes rfl ?_ rfl
       | refine Go.condT rfl ?_
       | refine Opl.val (op_build1 rfl (bMal _)) rfl ?_
       | refine Opl.panic rfl ?_
       | refine .std ?_ | refine .nil ?_ | refine .seq ?_ | refine .region ?_ | refine .xs ?_ | refine .kb ?_ | refine .leaf ?_ | refine .block ?_ | refine .gn ?_ | refine .dr ?_ | fail
      refine At.fnp rfl ⟨?_, rfl, k1⟩
      rw [← hnum, hk10]; rfl
    · have e2 : intOp .gtr .i64 ((7 * k : Nat) : Int) 63 = some (.bool false) := gtr_i (decide_eq_false (by omega))
      have hlt : j < s.length := by omega
      obtain ⟨b, hb⟩ : ∃ b, b = s[j] := ⟨_, rfl⟩
      have hch : s[j]? = some b := by rw [hb]; exact List.getElem?_eq_getElem hlt
      obtain ⟨S2, hst, h2, k2⟩ := h1.set (j + 1) (by omega)
      have hinc : intOp .add .i64 (j : Int) 1 = some (.int .i64 ((j + 1 : Nat) : Int)) := inc_ok (by omega)
      have h256 := b.toNat_lt
      obtain ⟨f, hf⟩ : ∃ f, 10 - k = f + 1 := ⟨9 - k, by omega⟩
      have hfk : k = 9 - f := by omega
      rw [hf] at hnum
      obtain ⟨q1, hq1⟩ : ∃ q, decide (((7 * k : Nat) : Int) = 63) = q := ⟨_, rfl⟩
      obtain ⟨q2, hq2⟩ : ∃ q, decide ((b.toNat : Int) > 1) = q := ⟨_, rfl⟩
      obtain ⟨q3, hq3⟩ : ∃ q, decide ((b.toNat : Int) = 0) = q := ⟨_, rfl⟩
      obtain ⟨q4, hq4⟩ : ∃ q, decide (((7 * k : Nat) : Int) > 0) = q := ⟨_, rfl⟩
      have g1 : intOp .eql .i64 ((7 * k : Nat) : Int) 63 = some (.bool q1) := eql_i hq1
      have g2 : intOp .gtr .u8 (b.toNat : Int) 1 = some (.bool q2) := gtr_i hq2
      have g3 : intOp .eql .u8 (b.toNat : Int) 0 = some (.bool q3) := eql_i hq3
      have g4 : intOp .gtr .i64 ((7 * k : Nat) : Int) 0 = some (.bool q4) := gtr_i hq4
      have hbad : ((q1 && q2) || (q3 && q4)) = true ↔ ((f = 0 ∧ 1 < b.toNat) ∨ (f < 9 ∧ b.toNat = 0)) := by
        rw [← hq1, ← hq2, ← hq3, ← hq4]
        simp only [Bool.or_eq_true, Bool.and_eq_true, decide_eq_true_eq]
        omega
      obtain ⟨bd, hbd⟩ : ∃ bd, bd = ((q1 && q2) || (q3 && q4)) := ⟨_, rfl⟩
      rw [← hbd] at hbad
      repeat' first
       | refine Opl.val (op_int rfl rfl rfl e1) rfl ?_
       | refine Opl.val (op_int rfl rfl rfl e2) rfl ?_
       | refine op_gyes rfl ?_ rfl
       | refine Go.condF rfl ?_
       | refine Opl.val (op_idxS rfl rfl hch) rfl ?_
       | refine Opl.val (op_int rfl rfl rfl hinc) rfl ?_
       | refine Opl.eff (op_store rfl rfl hst) ?_
       | refine Go.joinR 15 [(0, .ptr c 0), (6, .int .i64 i), (7, .int .u64 u), (8, .int .i64 ((7 * k : Nat) : Int)), (9, .int .u8 b.toNat), (89, .bool bd)] ?_ ?_
       | refine .std ?_ | refine .nil ?_ | refine .seq ?_ | refine .region ?_ | refine .xs ?_ | refine .kb ?_ | refine .leaf ?_ | refine .block ?_ | refine .gn ?_ | refine .dr ?_ | fail
      · refine ⟨?_⟩
        cases hbdv : bd with
        | true =>
          repeat' first
           | refine Go.condT rfl ?_
           | refine Opl.val (op_build1 rfl (bMal _)) rfl ?_
           | refine Opl.panic rfl ?_
           | refine .std ?_ | refine .nil ?_ | refine .seq ?_ | refine .region ?_ | refine .xs ?_ | refine .kb ?_ | refine .leaf ?_ | refine .block ?_ | refine .gn ?_ | refine .dr ?_ | fail
          refine At.fnp rfl ⟨?_, rfl, k1.trans k2⟩
          rw [← hnum, numAt_bad hch (hbad.1 hbdv)]
        | false =>
          have hnb : ¬ ((f = 0 ∧ 1 < b.toNat) ∨ (f < 9 ∧ b.toNat = 0)) := fun h => by
            have := hbad.2 h; rw [hbdv] at this; cases this
          have hv9 : k ≤ 9 := by omega
          have hval : b.toNat % 128 * 128 ^ k ≤ 127 * 128 ^ k := Nat.mul_le_mul_right _ (by omega)
          have hpow : k ≤ 8 → 128 * 128 ^ k ≤ 9223372036854775808 := fun h => by
            have : (128 : Nat) ^ k ≤ 128 ^ 8 := Nat.pow_le_pow_right (by omega) h
            omega
          have hsum : u + b.toNat % 128 * 128 ^ k < 18446744073709551616 := by
            by_cases h9 : k = 9
            · have hb1 : b.toNat ≤ 1 := by omega
              have : b.toNat % 128 * 128 ^ k ≤ 1 * 128 ^ k := Nat.mul_le_mul_right _ (by omega)
              rw [h9] at this hu ⊢
              omega
            · have := hpow (by omega)
              omega
          have hshl := shlk (b.toNat % 128) k hv9 (by omega)
          rw [← and127] at hshl
          have hor := ork u (b.toNat % 128) k hu hsum
          have e9 : 9 - f = k := by omega
          repeat' first
           | refine Go.condF rfl ?_
           | refine Opl.val (op_shift rfl rfl rfl hshl) rfl ?_
           | refine Opl.val (op_int rfl rfl rfl hor) rfl ?_
           | refine .std ?_ | refine .nil ?_ | refine .seq ?_ | refine .region ?_ | refine .xs ?_ | refine .kb ?_ | refine .leaf ?_ | refine .block ?_ | refine .gn ?_ | refine .dr ?_ | fail
          refine Go.cond rfl (fun hq => ?_) (fun hq => ?_)
          · have hq : b.toNat < 128 := by have := of_decide_eq_true hq; omega
            repeat' first | refine .std ?_ | refine .nil ?_ | refine .seq ?_ | refine .region ?_ | refine .xs ?_ | refine .kb ?_ | refine .leaf ?_ | refine .block ?_ | refine .gn ?_ | refine .dr ?_ | fail
            refine At.fnr rfl rfl rfl ⟨(u + b.toNat % 128 * 128 ^ k, j + 1), ?_, rfl, h2, k1.trans k2⟩
            rw [← hnum, numAt_last hch hnb hq, e9]
          · have hq : ¬ b.toNat < 128 := by have := of_decide_eq_false hq; omega
            have hadd : intOp .add .i64 ((7 * k : Nat) : Int) 7 = some (.int .i64 ((7 * (k + 1) : Nat) : Int)) := by
              simp only [intOp]
              rw [wrap_i64_id (by constructor <;> omega)]
              congr 2
            repeat' first
             | refine Opl.val (op_int rfl rfl rfl hadd) rfl ?_
             | refine .std ?_ | refine .nil ?_ | refine .seq ?_ | refine .region ?_ | refine .xs ?_ | refine .kb ?_ | refine .leaf ?_ | refine .block ?_ | refine .gn ?_ | refine .dr ?_ | fail
            refine (IH (k + 1, u + b.toNat % 128 * 128 ^ k, j + 1) _ S2 (by simp only; omega) ⟨rfl, h2, k1.trans k2, by simp only; omega, ?_, fun _ => hsum, ?_⟩).weaken ⟨rfl, rfl, rfl, rfl, trivial⟩
            · simp only
              rw [Nat.pow_succ]
              omega
            · simp only
              rw [← hnum, numAt_step hch hnb hq, e9]
              congr 1; omega
      · refine ⟨fun hj => ?_⟩
        cases q1 <;> cases q2 <;> cases q3 <;> cases q4
        all_goals
          subst hbd
          repeat' first
           | exact hj _ ⟨rfl, rfl, rfl, rfl, rfl, rfl, trivial⟩
           | refine Opl.val (op_int rfl rfl rfl g1) rfl ?_
           | refine Opl.val (op_int rfl rfl rfl g2) rfl ?_
           | refine Opl.val (op_int rfl rfl rfl g3) rfl ?_
           | refine Opl.val (op_int rfl rfl rfl g4) rfl ?_
           | refine op_gyes rfl ?_ rfl
           | refine .std ?_ | refine .nil ?_ | refine .seq ?_ | refine .region ?_ | refine .xs ?_ | refine .kb ?_ | refine .leaf ?_ | refine .block ?_ | refine .gn ?_ | refine .dr ?_ | fail
theorem unz_shr (u : Nat) (h : u < 18446744073709551616) : IntKind.wrap .i64 ((u / 2 : Nat) : Int) = ((u / 2 : Nat) : Int) := by
  rw [wrap_i64_id (by constructor <;> omega)]
theorem CodR.int {S : St} {c : Nat} {s : List UInt8} {i : Nat} (h : CodR S c s i) (n : Int) (hn : 0 ≤ n) :
    CallTo Tryz.prog 129 [.ptr c 0, .int .i64 n] S (fun v S' => ∃ r : Int × Nat, rdI s i = some r ∧ v = .int .i64 r.1 ∧ CodR S' c s r.2 ∧ Keep2 S S' c c) (fun v S' => rdI s i = none ∧ v = malV i ∧ Keep2 S S' c c) := by
  refine CallTo.of (n := 26) Tryz.func129 rfl rfl ?_
  have hlt : intOp .lss .i64 n 0 = some (.bool false) := lss_i (decide_eq_false (by omega))
  repeat' first
   | refine Opl.val (op_shift rfl rfl rfl (shl1 n)) rfl ?_
   | refine Opl.val (op_int rfl rfl rfl hlt) rfl ?_
   | refine Go.condF rfl ?_
   | refine Opl.call rfl (by kernel_rfl) (h.groups _) rfl (fun v S1 h1 => ?_) (fun v S1 h1 => ?_)
   | refine .std ?_ | refine .nil ?_ | refine .seq ?_ | refine .region ?_ | refine .xs ?_ | refine .kb ?_ | refine .leaf ?_ | refine .block ?_ | refine .gn ?_ | refine .dr ?_ | fail
  · obtain ⟨⟨u, j⟩, hnum, rfl, h2, k2⟩ := h1
    have hu : u < 18446744073709551616 := by
      obtain ⟨w, h2, h3, h4, h5, _, h7⟩ := numAt_some (by omega) hnum
      simp at h2 h7
      omega
    have hsh := unz_shr u hu
    have hrd : rdI s i = some (unz u, j) := by unfold rdI; rw [hnum]; rfl
    by_cases ho : u % 2 = 1
    · have hodd : intOp .eql .u64 (bitE .and .u64 (u : Int) 1) 1 = some (.bool true) := by rw [and1 _ hu, ho]; rfl
      repeat' first
       | refine Opl.val (op_shift rfl rfl rfl (shr1 u)) rfl ?_
       | refine Opl.val (op_int rfl rfl rfl hodd) rfl ?_
       | refine Go.condT rfl ?_
       | refine .std ?_ | refine .nil ?_ | refine .seq ?_ | refine .region ?_ | refine .xs ?_ | refine .kb ?_ | refine .leaf ?_ | refine .block ?_ | refine .gn ?_ | refine .dr ?_ | fail
      refine At.fnr rfl rfl rfl ⟨(unz u, j), hrd, ?_, h2, k2⟩
      simp only [packV]
      rw [hsh]
      show V.int .i64 (bitE .xor .i64 (-1) ((u / 2 : Nat) : Int)) = _
      rw [not_i64 _ (by omega)]
      unfold unz; rw [if_pos ho]
      congr 1; omega
    · have hodd : intOp .eql .u64 (bitE .and .u64 (u : Int) 1) 1 = some (.bool false) := by
        have : u % 2 = 0 := by omega
        rw [and1 _ hu, this]; rfl
      repeat' first
       | refine Opl.val (op_shift rfl rfl rfl (shr1 u)) rfl ?_
       | refine Opl.val (op_int rfl rfl rfl hodd) rfl ?_
       | refine Go.condF rfl ?_
       | refine .std ?_ | refine .nil ?_ | refine .seq ?_ | refine .region ?_ | refine .xs ?_ | refine .kb ?_ | refine .leaf ?_ | refine .block ?_ | refine .gn ?_ | refine .dr ?_ | fail
      refine At.fnr rfl rfl rfl ⟨(unz u, j), hrd, ?_, h2, k2⟩
      simp only [packV]
      rw [hsh]
      unfold unz; rw [if_neg ho]
  · obtain ⟨hnum, rfl, k2⟩ := h1
    exact At.fnp rfl ⟨by unfold rdI; rw [hnum]; rfl, rfl, k2⟩
theorem CodR.length {S : St} {c : Nat} {s : List UInt8} {i : Nat} (h : CodR S c s i) (n : Int) (hn : 0 ≤ n) :
    CallTo Tryz.prog 112 [.ptr c 0, .int .i64 n] S (fun v S' => ∃ r : Nat × Nat, rdLen s i = some r ∧ v = .int .i64 r.1 ∧ CodR S' c s r.2 ∧ Keep2 S S' c c) (fun v S' => rdLen s i = none ∧ v = malV i ∧ Keep2 S S' c c) := by
  refine CallTo.of (n := 42) Tryz.func112 rfl rfl ?_
  have hpt := h.pt
  have hsm := h.small
  repeat' first
   | refine Opl.call rfl (by kernel_rfl) (h.int n hn) rfl (fun v S1 h1 => ?_) (fun v S1 h1 => ?_)
   | refine .std ?_ | refine .nil ?_ | refine .seq ?_ | refine .region ?_ | refine .xs ?_ | refine .kb ?_ | refine .leaf ?_ | refine .block ?_ | refine .gn ?_ | refine .dr ?_ | fail
  · obtain ⟨⟨m, j⟩, hr, rfl, h2, k2⟩ := h1
    have hR := rdI_some hr
    simp only at hR h2
    have hin := hR.n
    have hle := hR.le
    have hpt2 := h2.pt
    have hrl : rdLen s i = if m < 0 ∨ (s.length : Int) - j < m then none else some (m.toNat, j) := by unfold rdLen; rw [hr]
    have hsub : intOp .sub .i64 (s.length : Int) (j : Int) = some (.int .i64 ((s.length : Int) - (j : Int))) := by
      simp only [intOp]; rw [wrap_i64_id (by constructor <;> omega)]
    by_cases h0 : m < 0
    · have e1 : intOp .lss .i64 m 0 = some (.bool true) := lss_i (decide_eq_true h0)
      repeat' first
       | refine op_gyes rfl ?_ rfl
       | refine Opl.val (op_int rfl rfl rfl e1) rfl ?_
       | refine Go.condT rfl ?_
       | refine Opl.val (op_build1 rfl (bMal _)) rfl ?_
       | refine Opl.panic rfl ?_
       | refine .std ?_ | refine .nil ?_ | refine .seq ?_ | refine .region ?_ | refine .xs ?_ | refine .kb ?_ | refine .leaf ?_ | refine .block ?_ | refine .gn ?_ | refine .dr ?_ | fail
      exact At.fnp rfl ⟨by rw [hrl, if_pos (.inl h0)], rfl, k2⟩
    · have e1 : intOp .lss .i64 m 0 = some (.bool false) := lss_i (decide_eq_false h0)
      by_cases h1 : (s.length : Int) - j < m
      · have e2 : intOp .gtr .i64 m ((s.length : Int) - (j : Int)) = some (.bool true) := gtr_i (decide_eq_true (by omega))
        repeat' first
         | refine op_gyes rfl ?_ rfl
         | refine Opl.val (op_int rfl rfl rfl e1) rfl ?_
         | refine Opl.val (op_int rfl rfl rfl e2) rfl ?_
         | refine Opl.val (op_int rfl rfl rfl hsub) rfl ?_
         | refine Go.condT rfl ?_
         | refine Opl.val (op_build1 rfl (bMal _)) rfl ?_
         | refine Opl.panic rfl ?_
         | refine .std ?_ | refine .nil ?_ | refine .seq ?_ | refine .region ?_ | refine .xs ?_ | refine .kb ?_ | refine .leaf ?_ | refine .block ?_ | refine .gn ?_ | refine .dr ?_ | fail
        exact At.fnp rfl ⟨by rw [hrl, if_pos (.inr h1)], rfl, k2⟩
      · have e2 : intOp .gtr .i64 m ((s.length : Int) - (j : Int)) = some (.bool false) := gtr_i (decide_eq_false (by omega))
        repeat' first
         | refine op_gyes rfl ?_ rfl
         | refine Opl.val (op_int rfl rfl rfl e1) rfl ?_
         | refine Opl.val (op_int rfl rfl rfl e2) rfl ?_
         | refine Opl.val (op_int rfl rfl rfl hsub) rfl ?_
         | refine Go.condF rfl ?_
         | refine .std ?_ | refine .nil ?_ | refine .seq ?_ | refine .region ?_ | refine .xs ?_ | refine .kb ?_ | refine .leaf ?_ | refine .block ?_ | refine .gn ?_ | refine .dr ?_ | fail
        refine At.fnr rfl rfl rfl ⟨(m.toNat, j), by rw [hrl, if_neg (by omega)], ?_, h2, k2⟩
        simp only [packV]
        congr 1; omega
  · obtain ⟨hr, rfl, k2⟩ := h1
    exact At.fnp rfl ⟨by unfold rdLen; rw [hr], rfl, k2⟩
end Go.Proofs.YtilldjgagokcfaaGreat
