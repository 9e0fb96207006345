import Derived.Test.YtilldjgagokcfaaGreatD2
set_option linter.unusedVariables false
set_option linter.unusedSimpArgs false
namespace Go.Ev
open Go.RowKit
abbrev RS := Except Nat Nat
def lift (f : Nat → RS) : RS → RS
  | .error b => .error b
  | .ok i => f i
def rI (s : List UInt8) : RS → Int × RS
  | .error b => (0, .error b)
  | .ok i => match rdI s i with
    | none => (0, .error i)
    | some p => (p.1, .ok p.2)
def rL (s : List UInt8) : RS → Nat × RS
  | .error b => (0, .error b)
  | .ok i => match rdLen s i with
    | none => (0, .error i)
    | some p => (p.1, .ok p.2)
def rCells (s : List UInt8) : RS → List V
  | .ok i => [.str s, .int .i64 (i : Nat), .int .i64 (-1)]
  | .error b => [.str s, .int .i64 (s.length : Nat), .int .i64 (b : Nat)]
def rPos (s : List UInt8) : RS → Nat
  | .ok i => i
  | .error _ => s.length
def mu (s : List UInt8) : RS → Nat
  | .ok i => s.length - i + 1
  | .error _ => 0
theorem lift_int (rec : Nat → Nat → RS) (s : List UInt8) (r : RS) : lift (scanF rec s [.int]) r = (rI s r).2 := by
  cases r with
  | error b => rfl
  | ok i =>
    simp only [lift, rI, scanF]
    cases rdI s i <;> rfl
theorem lift_app (rec : Nat → Nat → RS) (s : List UInt8) (fs gs : List Fd) (r : RS) : lift (scanF rec s (fs ++ gs)) r = lift (scanF rec s gs) (lift (scanF rec s fs) r) := by
  cases r with
  | error b => rfl
  | ok i =>
    simp only [lift, scanF_app]
    cases scanF rec s fs i <;> rfl
theorem lift_nil (rec : Nat → Nat → RS) (s : List UInt8) (r : RS) : lift (scanF rec s []) r = r := by
  cases r <;> rfl
theorem Go.joinK {P : Program} {F : Sh} {E0 : Env} {S0 : St} {a b : Code} {k : K} {n : Nat} (Inv : Env → St → Prop) (hrest : ∀ E S, Inv E S → Go P F E S b k) (h : (∀ E S, Inv E S → Go P F E S b k) → Go P F E0 S0 a (Kb n (Ks P b k))) : Go P F E0 S0 a (Kb n (Ks P b k)) := h hrest
theorem rem_u64 (a m : Nat) (hm : 0 < m) (ha : a < 18446744073709551616) : intOp .rem .u64 (a : Int) (m : Int) = some (.int .u64 ((a % m : Nat) : Int)) := by
  simp only [intOp]
  rw [if_neg (by simp; omega), Int.tmod_eq_emod_of_nonneg (by omega)]
  simp
theorem quo_u64 (a m : Nat) (hm : 0 < m) (ha : a < 18446744073709551616) : intOp .quo .u64 (a : Int) (m : Int) = some (.int .u64 ((a / m : Nat) : Int)) := by
  simp only [intOp]
  have hle : a / m ≤ a := Nat.div_le_self _ _
  rw [if_neg (by simp; omega), Int.tdiv_eq_ediv_of_nonneg (by omega), wrap_u64]
  congr 2
  have e : ((a : Int) / (m : Int)) = ((a / m : Nat) : Int) := by simp
  rw [e]
  generalize a / m = q at *
  omega
theorem mul_u64 (a b : Nat) (h : a * b < 18446744073709551616) : intOp .mul .u64 (a : Int) (b : Int) = some (.int .u64 ((a * b : Nat) : Int)) := by
  simp only [intOp]
  rw [wrap_u64]
  congr 2
  have e : ((a : Int) * (b : Int)) = ((a * b : Nat) : Int) := by simp
  rw [e]; omega
theorem add_u64 (a b : Nat) (h : a + b < 18446744073709551616) : intOp .add .u64 (a : Int) (b : Int) = some (.int .u64 ((a + b : Nat) : Int)) := by
  simp only [intOp]
  rw [wrap_u64]
  congr 2
  omega
end Go.Ev
namespace Go.Proofs.YtilldjgagokcfaaGreat
open Go.RowKit Go.Ev
set_option maxRecDepth 100000
set_option linter.unusedVariables false
structure RSt (S : St) (c : Nat) (s : List UInt8) (r : RS) : Prop where
  lt : c < S.next
  small : s.length ≤ 100000
  le : ∀ i, r = .ok i → i ≤ s.length
  box : S.h.find c = some (.box 171 (rCells s r))
theorem RSt.pt {S : St} {c : Nat} {s : List UInt8} {r : RS} (h : RSt S c s r) : Pt S (.ptr c 0) (rCells s r) := ⟨_, _, h.box, fun i v h => by simpa using h⟩
theorem RSt.ofBox {S S' : St} {c : Nat} {s : List UInt8} {r : RS} (h : RSt S c s r) (hn : S.next ≤ S'.next) (hb : ∀ t cs, S.h.find c = some (.box t cs) → S'.h.find c = some (.box t cs)) : RSt S' c s r :=
  ⟨Nat.lt_of_lt_of_le h.lt hn, h.small, h.le, hb _ _ h.box⟩
theorem RSt.keep {S S' : St} {c x : Nat} {s : List UInt8} {r : RS} (h : RSt S c s r) (k : Keep2 S S' x x) (hx : c ≠ x) : RSt S' c s r :=
  h.ofBox k.next fun t cs hb => by rw [k.find c h.lt hx hx]; exact hb
theorem RSt.fail {S : St} {c : Nat} {s : List UInt8} {r : RS} (h : RSt S c s r) (i : Nat) :
    CallTo Tryz.prog 134 [.ptr c 0, .int .i64 i] S (fun v S' => RSt S' c s (lift (fun _ => .error i) r) ∧ Keep2 S S' c c) (fun _ _ => False) := by
  refine CallTo.of (n := 21) Tryz.func134 rfl rfl ?_
  have hpt := h.pt
  have hb := h.box
  cases r with
  | error b =>
    have hlt : intOp .lss .i64 (b : Int) 0 = some (.bool false) := lss_i (decide_eq_false (by omega))
    obtain ⟨S1, hS1⟩ : ∃ S1 : St, S1 = { S with h := S.h.put c (.box 171 [.str s, .int .i64 (s.length : Nat), .int .i64 (b : Nat)]) } := ⟨_, rfl⟩
    have hst : storeE Tryz.prog 3 (.ptr c 1) (.int .i64 (s.length : Nat)) S = some S1 := by rw [hS1]; exact st_one hb rfl rfl
    simp only [rCells] at hpt
    repeat' first
     | refine Opl.val (op_int rfl rfl rfl hlt) rfl ?_
     | refine Go.condF rfl ?_
     | refine Opl.eff (op_store rfl rfl hst) ?_
     | refine .std ?_ | refine .nil ?_ | refine .seq ?_ | refine .region ?_ | refine .xs ?_ | refine .kb ?_ | refine .leaf ?_ | refine .block ?_ | refine .gn ?_ | refine .dr ?_ | fail
    refine At.fn rfl rfl rfl ⟨⟨by rw [hS1]; exact h.lt, h.small, fun i hi => (by cases hi), by rw [hS1]; simp [Tr.find_put, lift, rCells]⟩, by rw [hS1]; exact Keep2.put _ _ _ _⟩
  | ok j =>
    obtain ⟨S1, hS1⟩ : ∃ S1 : St, S1 = { S with h := S.h.put c (.box 171 [.str s, .int .i64 (j : Nat), .int .i64 (i : Nat)]) } := ⟨_, rfl⟩
    have hst : storeE Tryz.prog 3 (.ptr c 2) (.int .i64 (i : Nat)) S = some S1 := by rw [hS1]; exact st_one hb rfl rfl
    have hb1 : S1.h.find c = some (.box 171 [.str s, .int .i64 (j : Nat), .int .i64 (i : Nat)]) := by rw [hS1]; simp [Tr.find_put]
    have hpt1 : Pt S1 (.ptr c 0) [.str s, .int .i64 (j : Nat), .int .i64 (i : Nat)] := ⟨_, _, hb1, fun i v h => by simpa using h⟩
    obtain ⟨S2, hS2⟩ : ∃ S2 : St, S2 = { S1 with h := S1.h.put c (.box 171 [.str s, .int .i64 (s.length : Nat), .int .i64 (i : Nat)]) } := ⟨_, rfl⟩
    have hst2 : storeE Tryz.prog 3 (.ptr c 1) (.int .i64 (s.length : Nat)) S1 = some S2 := by rw [hS2]; exact st_one hb1 rfl rfl
    simp only [rCells] at hpt
    repeat' first
     | refine Go.condT rfl ?_
     | refine Opl.eff (op_store rfl rfl hst) ?_
     | refine Opl.eff (op_store rfl rfl hst2) ?_
     | refine .std ?_ | refine .nil ?_ | refine .seq ?_ | refine .region ?_ | refine .xs ?_ | refine .kb ?_ | refine .leaf ?_ | refine .block ?_ | refine .gn ?_ | refine .dr ?_ | fail
    have hn : S2.next = S.next := by rw [hS2, hS1]
    refine At.fn rfl rfl rfl ⟨⟨by rw [hn]; exact h.lt, h.small, fun i hi => (by cases hi), by rw [hS2]; simp [Tr.find_put, lift, rCells]⟩, ?_⟩
    rw [hS2, hS1]
    exact (Keep2.put S c c _).trans (Keep2.put _ c c _)
theorem RSt.set {S : St} {c : Nat} {s : List UInt8} {i : Nat} (h : RSt S c s (.ok i)) (j : Nat) (hj : j ≤ s.length) : ∃ S', storeE Tryz.prog 3 (.ptr c 1) (.int .i64 j) S = some S' ∧ RSt S' c s (.ok j) ∧ Keep2 S S' c c :=
  ⟨{ S with h := S.h.put c (.box 171 (rCells s (.ok j))) }, st_one h.box rfl rfl, ⟨h.lt, h.small, fun i hi => by cases hi; exact hj, by simp [Tr.find_put]⟩, Keep2.put _ _ _ _⟩
set_option maxHeartbeats 4000000 in
theorem RSt.number {S : St} {c : Nat} {s : List UInt8} {r : RS} (h : RSt S c s r) :
    CallTo Tryz.prog 93 [.ptr c 0] S (fun v S' => v = .int .i64 (rI s r).1 ∧ RSt S' c s (rI s r).2 ∧ Keep2 S S' c c) (fun _ _ => False) := by
  refine CallTo.of (n := 86) Tryz.func93 rfl rfl ?_
  have hpt := h.pt
  have hsm := h.small
  cases r with
  | error b =>
    simp only [rCells] at hpt
    have e1 : intOp .geq .i64 (s.length : Int) (s.length : Int) = some (.bool true) := geq_i (decide_eq_true (by omega))
    repeat' first
     | refine Go.loop ?_
     | refine Go.condT rfl ?_
     | refine Opl.val (op_int rfl rfl rfl e1) rfl ?_
     | refine Opl.call rfl (by kernel_rfl) (h.fail s.length) rfl (fun v S1 h1 => ?_) (fun _ _ hf => hf.elim)
     | refine .std ?_ | refine .nil ?_ | refine .seq ?_ | refine .region ?_ | refine .xs ?_ | refine .kb ?_ | refine .leaf ?_ | refine .block ?_ | refine .gn ?_ | refine .dr ?_ | fail
    refine At.fnr rfl rfl rfl ⟨rfl, ?_⟩
    exact h1
  | ok i =>
    simp only [rCells] at hpt
    repeat' first | refine .std ?_ | refine .nil ?_ | refine .seq ?_ | refine .region ?_ | refine .xs ?_ | refine .kb ?_ | refine .leaf ?_ | refine .block ?_ | refine .gn ?_ | refine .dr ?_ | fail
    refine Go.weaken (E' := [(0, .ptr c 0), (3, .int .i64 i), (4, .int .u64 (0 : Nat)), (5, .int .u64 ((128 ^ 0 : Nat) : Int)), (6, .int .i64 (0 : Nat))]) ?_ ⟨rfl, rfl, rfl, rfl, rfl, trivial⟩
    refine Go.joinK (fun E S' => ∃ (u j : Nat), numAt s 10 0 i = some (u, j) ∧ Sub [(0, .ptr c 0), (4, .int .u64 u)] E ∧ RSt S' c s (.ok j) ∧ Keep2 S S' c c) ?_ (fun hj => ?_)
    · rintro E S1 ⟨u, j, hnum, hE, h1, k1⟩
      refine Go.weaken ?_ hE
      have hu : u < 18446744073709551616 := by
        obtain ⟨w, h2, h3, h4, h5, _, h7⟩ := numAt_some (by omega) hnum
        simp at h2 h7
        omega
      have hrd : rdI s i = some (unz u, j) := by unfold rdI; rw [hnum]; rfl
      have hI : rI s (.ok i) = (unz u, .ok j) := by simp only [rI, hrd]
      have e1 := rem_u64 u 2 (by omega) hu
      have e2 := quo_u64 u 2 (by omega) hu
      have hsh := unz_shr u hu
      rw [hI]
      by_cases ho : u % 2 = 1
      · rw [ho] at e1
        have e3 : intOp .sub .i64 (IntKind.wrap .i64 (0 - ((u / 2 : Nat) : Int))) 1 = some (.int .i64 (unz u)) := by
          rw [wrap_i64_id (by constructor <;> omega)]
          simp only [intOp]
          rw [wrap_i64_id (by constructor <;> omega)]
          unfold unz; rw [if_pos ho]
          congr 2; omega
        have e4 : V.int .i64 (IntKind.wrap .i64 ((u / 2 : Nat) : Int)) = .int .i64 ((u / 2 : Nat) : Int) := by rw [hsh]
        repeat' first
         | refine Opl.val (op_int rfl rfl rfl e1) rfl ?_
         | refine Opl.val (op_int rfl rfl rfl e2) rfl ?_
         | (refine Opl.val (op_convI rfl) rfl ?_; rw [e4])
         | refine Opl.val (op_int rfl rfl rfl e3) rfl ?_
         | refine Go.condT rfl ?_
         | refine .std ?_ | refine .nil ?_ | refine .seq ?_ | refine .region ?_ | refine .xs ?_ | refine .kb ?_ | refine .leaf ?_ | refine .block ?_ | refine .gn ?_ | refine .dr ?_ | fail
        exact At.fnr rfl rfl rfl ⟨rfl, h1, k1⟩
      · have ho2 : u % 2 = 0 := by omega
        rw [ho2] at e1
        repeat' first
         | refine Opl.val (op_int rfl rfl rfl e1) rfl ?_
         | refine Opl.val (op_int rfl rfl rfl e2) rfl ?_
         | refine Go.condF rfl ?_
         | refine .std ?_ | refine .nil ?_ | refine .seq ?_ | refine .region ?_ | refine .xs ?_ | refine .kb ?_ | refine .leaf ?_ | refine .block ?_ | refine .gn ?_ | refine .dr ?_ | fail
        refine At.fnr rfl rfl rfl ⟨?_, h1, k1⟩
        simp only [packV]
        rw [hsh]
        unfold unz; rw [if_neg ho]
    · refine Go.loop_ind (α := Nat × Nat × Nat) (fun x => 10 - x.1) (fun x E S' => E = [(0, .ptr c 0), (3, .int .i64 i), (4, .int .u64 x.2.1), (5, .int .u64 ((128 ^ x.1 : Nat) : Int)), (6, .int .i64 x.1)] ∧ RSt S' c s (.ok x.2.2) ∧ Keep2 S S' c c ∧ x.1 ≤ 9 ∧ x.2.1 < 128 ^ x.1 ∧ numAt s (10 - x.1) x.2.1 x.2.2 = numAt s 10 0 i) ?_ (0, 0, i) _ _ ⟨rfl, h, Keep2.refl _ _ _, by simp, by simp, rfl⟩
      rintro ⟨k, u, j⟩ E S1 ⟨rfl, h1, k1, hk, hu, hnum⟩ IH
      simp only at h1 k1 hk hu hnum
      have hpt1 := h1.pt
      simp only [rCells] at hpt1
      have hjle := h1.le j rfl
      obtain ⟨f, hf⟩ : ∃ f, 10 - k = f + 1 := ⟨9 - k, by omega⟩
      have hfk : k = 9 - f := by omega
      rw [hf] at hnum
      have fin : numAt s 10 0 i = none → ∀ {W : St}, RSt W c s (.error i) → Keep2 S W c c → (V.int IntKind.i64 0 = .int .i64 (rI s (.ok i)).1 ∧ RSt W c s (rI s (.ok i)).2 ∧ Keep2 S W c c) := by
        intro hn W hw kw
        have hrd : rdI s i = none := by unfold rdI; rw [hn]; rfl
        have hI : rI s (.ok i) = (0, .error i) := by simp only [rI, hrd]
        rw [hI]
        exact ⟨rfl, hw, kw⟩
      by_cases hend : s.length ≤ j
      · have e1 : intOp .geq .i64 (j : Int) (s.length : Int) = some (.bool true) := geq_i (decide_eq_true (by omega))
        repeat' first
         | refine Opl.val (op_int rfl rfl rfl e1) rfl ?_
         | refine Go.condT rfl ?_
         | refine Opl.call rfl (by kernel_rfl) (h1.fail i) rfl (fun v S2 h2 => ?_) (fun _ _ hf => hf.elim)
         | refine .std ?_ | refine .nil ?_ | refine .seq ?_ | refine .region ?_ | refine .xs ?_ | refine .kb ?_ | refine .leaf ?_ | refine .block ?_ | refine .gn ?_ | refine .dr ?_ | fail
        refine At.fnr rfl rfl rfl (fin ?_ h2.1 (k1.trans h2.2))
        rw [← hnum, numAt_end (List.getElem?_eq_none (by omega))]
      · have e1 : intOp .geq .i64 (j : Int) (s.length : Int) = some (.bool false) := geq_i (decide_eq_false (by omega))
        have e2 : intOp .eql .i64 (k : Int) 10 = some (.bool false) := eql_i (decide_eq_false (by omega))
        have hlt : j < s.length := by omega
        obtain ⟨b, hb⟩ : ∃ b, b = s[j] := ⟨_, rfl⟩
        have hch : s[j]? = some b := by rw [hb]; exact List.getElem?_eq_getElem hlt
        obtain ⟨S2, hst, h2, k2⟩ := h1.set (j + 1) (by omega)
        have hinc : intOp .add .i64 (j : Int) 1 = some (.int .i64 ((j + 1 : Nat) : Int)) := inc_ok (by omega)
        have h256 := b.toNat_lt
        have hcv : V.int .u64 (IntKind.wrap .u64 (b.toNat : Int)) = .int .u64 (b.toNat : Int) := by rw [wrap_u64]; congr 1; omega
        obtain ⟨q1, hq1⟩ : ∃ q, decide ((k : Int) = 9) = q := ⟨_, rfl⟩
        obtain ⟨q2, hq2⟩ : ∃ q, decide ((b.toNat : Int) > 1) = q := ⟨_, rfl⟩
        obtain ⟨q3, hq3⟩ : ∃ q, decide ((b.toNat : Int) = 0) = q := ⟨_, rfl⟩
        obtain ⟨q4, hq4⟩ : ∃ q, decide ((k : Int) > 0) = q := ⟨_, rfl⟩
        have g1 : intOp .eql .i64 (k : Int) 9 = some (.bool q1) := eql_i hq1
        have g2 : intOp .gtr .u64 (b.toNat : Int) 1 = some (.bool q2) := gtr_i hq2
        have g3 : intOp .eql .u64 (b.toNat : Int) 0 = some (.bool q3) := eql_i hq3
        have g4 : intOp .gtr .i64 (k : Int) 0 = some (.bool q4) := gtr_i hq4
        have hbad : ((q1 && q2) || (q4 && q3)) = true ↔ ((f = 0 ∧ 1 < b.toNat) ∨ (f < 9 ∧ b.toNat = 0)) := by
          rw [← hq1, ← hq2, ← hq3, ← hq4]
          simp only [Bool.or_eq_true, Bool.and_eq_true, decide_eq_true_eq]
          omega
        obtain ⟨bd, hbd⟩ : ∃ bd, bd = ((q1 && q2) || (q4 && q3)) := ⟨_, rfl⟩
        rw [← hbd] at hbad
        have h2pt := h2.pt
        repeat' first
         | refine Opl.val (op_int rfl rfl rfl e1) rfl ?_
         | refine Opl.val (op_int rfl rfl rfl e2) rfl ?_
         | refine op_gyes rfl ?_ rfl
         | refine Go.condF rfl ?_
         | refine Opl.val (op_idxS rfl rfl hch) rfl ?_
         | (refine Opl.val (op_convI rfl) rfl ?_; rw [hcv])
         | refine Opl.val (op_int rfl rfl rfl hinc) rfl ?_
         | refine Opl.eff (op_store rfl rfl hst) ?_
         | refine Go.joinR 10 [(0, .ptr c 0), (3, .int .i64 i), (4, .int .u64 u), (5, .int .u64 ((128 ^ k : Nat) : Int)), (6, .int .i64 k), (7, .int .u64 b.toNat), (61, .bool bd)] ?_ ?_
         | refine .std ?_ | refine .nil ?_ | refine .seq ?_ | refine .region ?_ | refine .xs ?_ | refine .kb ?_ | refine .leaf ?_ | refine .block ?_ | refine .gn ?_ | refine .dr ?_ | fail
        · refine ⟨?_⟩
          cases hbdv : bd with
          | true =>
            repeat' first
             | refine Go.condT rfl ?_
             | refine Opl.call rfl (by kernel_rfl) (h2.fail i) rfl (fun v S3 h3 => ?_) (fun _ _ hf => hf.elim)
             | refine .std ?_ | refine .nil ?_ | refine .seq ?_ | refine .region ?_ | refine .xs ?_ | refine .kb ?_ | refine .leaf ?_ | refine .block ?_ | refine .gn ?_ | refine .dr ?_ | fail
            refine At.fnr rfl rfl rfl (fin ?_ h3.1 ((k1.trans k2).trans h3.2))
            rw [← hnum, numAt_bad hch (hbad.1 hbdv)]
          | false =>
            have hnb : ¬ ((f = 0 ∧ 1 < b.toNat) ∨ (f < 9 ∧ b.toNat = 0)) := fun h => by
              have := hbad.2 h; rw [hbdv] at this; cases this
            have hval : b.toNat % 128 * 128 ^ k ≤ 127 * 128 ^ k := Nat.mul_le_mul_right _ (by omega)
            have hpow : k ≤ 8 → 128 * 128 ^ k ≤ 9223372036854775808 := fun h => by
              have : (128 : Nat) ^ k ≤ 128 ^ 8 := Nat.pow_le_pow_right (by omega) h
              omega
            have hp9 : (128 : Nat) ^ k ≤ 128 ^ 9 := Nat.pow_le_pow_right (by omega) (by omega)
            have hsum : u + b.toNat % 128 * 128 ^ k < 18446744073709551616 := by
              by_cases h9 : k = 9
              · have hb1 : b.toNat ≤ 1 := by omega
                have : b.toNat % 128 * 128 ^ k ≤ 1 * 128 ^ k := Nat.mul_le_mul_right _ (by omega)
                rw [h9] at this hu ⊢
                omega
              · have := hpow (by omega)
                omega
            have r1 := rem_u64 b.toNat 128 (by omega) (by omega)
            have r2 := mul_u64 (b.toNat % 128) (128 ^ k) (by omega)
            have r3 := add_u64 u (b.toNat % 128 * 128 ^ k) hsum
            have e9 : 9 - f = k := by omega
            by_cases hq : b.toNat < 128
            · have e5 : intOp .lss .u64 (b.toNat : Int) 128 = some (.bool true) := lss_i (decide_eq_true (by omega))
              repeat' first
               | exact hj _ _ ⟨u + b.toNat % 128 * 128 ^ k, j + 1, by rw [← hnum, numAt_last hch hnb hq, e9], ⟨rfl, rfl, trivial⟩, h2, k1.trans k2⟩
               | refine Go.condF rfl ?_
               | refine Go.condT rfl ?_
               | refine Opl.val (op_int rfl rfl rfl r1) rfl ?_
               | refine Opl.val (op_int rfl rfl rfl r2) rfl ?_
               | refine Opl.val (op_int rfl rfl rfl r3) rfl ?_
               | refine Opl.val (op_int rfl rfl rfl e5) rfl ?_
               | refine .std ?_ | refine .nil ?_ | refine .seq ?_ | refine .region ?_ | refine .xs ?_ | refine .kb ?_ | refine .leaf ?_ | refine .block ?_ | refine .gn ?_ | refine .dr ?_ | fail
            · have e5 : intOp .lss .u64 (b.toNat : Int) 128 = some (.bool false) := lss_i (decide_eq_false (by omega))
              have hk8 : k ≤ 8 := by omega
              have r4 := mul_u64 (128 ^ k) 128 (by have := hpow hk8; omega)
              rw [← Nat.pow_succ] at r4
              repeat' first
               | refine Go.condF rfl ?_
               | refine Opl.val (op_int rfl rfl rfl r1) rfl ?_
               | refine Opl.val (op_int rfl rfl rfl r2) rfl ?_
               | refine Opl.val (op_int rfl rfl rfl r3) rfl ?_
               | refine Opl.val (op_int rfl rfl rfl r4) rfl ?_
               | refine Opl.val (op_int rfl rfl rfl e5) rfl ?_
               | refine Opl.val (op_int rfl rfl rfl (inc_ok (i := k) (by omega))) rfl ?_
               | refine .std ?_ | refine .nil ?_ | refine .seq ?_ | refine .region ?_ | refine .xs ?_ | refine .kb ?_ | refine .leaf ?_ | refine .block ?_ | refine .gn ?_ | refine .dr ?_ | fail
              refine (IH (k + 1, u + b.toNat % 128 * 128 ^ k, j + 1) _ S2 (by simp only; omega) ⟨rfl, h2, k1.trans k2, by simp only; omega, ?_, ?_⟩).weaken ⟨rfl, rfl, rfl, rfl, rfl, trivial⟩
              · simp only
                rw [Nat.pow_succ]
                omega
              · simp only
                rw [← hnum, numAt_step hch hnb hq, e9]
                congr 1; omega
        · refine ⟨fun hj2 => ?_⟩
          cases q1 <;> cases q2 <;> cases q3 <;> cases q4
          all_goals
            subst hbd
            repeat' first
             | exact hj2 _ ⟨rfl, rfl, rfl, rfl, rfl, rfl, rfl, trivial⟩
             | refine Opl.val (op_int rfl rfl rfl g1) rfl ?_
             | refine Opl.val (op_int rfl rfl rfl g2) rfl ?_
             | refine Opl.val (op_int rfl rfl rfl g3) rfl ?_
             | refine Opl.val (op_int rfl rfl rfl g4) rfl ?_
             | refine op_gyes rfl ?_ rfl
             | refine .std ?_ | refine .nil ?_ | refine .seq ?_ | refine .region ?_ | refine .xs ?_ | refine .kb ?_ | refine .leaf ?_ | refine .block ?_ | refine .gn ?_ | refine .dr ?_ | fail
end Go.Proofs.YtilldjgagokcfaaGreat
