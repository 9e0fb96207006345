import Derived.Test.YtodiioeddlmjhaaGreatDoorE10
set_option linter.unusedVariables false
set_option linter.unusedSimpArgs false
namespace Go.Ev
open Go.RowKit
def digN (n : Nat) : List UInt8 := if n < 10 then [UInt8.ofNat (48 + n)] else digN (n / 10) ++ [UInt8.ofNat (48 + n % 10)]
termination_by n
decreasing_by omega
def digI (n : Int) : List UInt8 := if n < 0 then 45 :: digN n.natAbs else digN n.natAbs
theorem digN_lo {n : Nat} (h : n < 10) : digN n = [UInt8.ofNat (48 + n)] := by rw [digN, if_pos h]
theorem digN_hi {n : Nat} (h : ¬ n < 10) : digN n = digN (n / 10) ++ digN (n % 10) := by
 rw [digN, if_neg h, digN_lo (n := n % 10) (by omega)]
theorem digN_len : ∀ (k n : Nat), n < 10 ^ k → 0 < k → (digN n).length ≤ k
 | 0, _, _, h => by omega
 | 1, n, h, _ => by rw [digN_lo (by simpa using h)]; simp
 | k + 2, n, h, _ => by
  by_cases h1 : n < 10
  ·rw [digN_lo h1]; simp
  ·rw [digN_hi h1, digN_lo (n := n % 10) (by omega)]
   have := digN_len (k + 1) (n / 10) (by rw [Nat.pow_succ] at h; omega) (by omega)
   simp; omega
theorem digI_len {n : Int} (h : -1000000000 < n) (h2 : n < 1000000000) : (digI n).length ≤ 10 := by
 have := digN_len 9 n.natAbs (by omega) (by decide)
 unfold digI
 split <;> simp <;> omega
theorem digI_nat (n : Nat) : digI (n : Int) = digN n := by
 unfold digI
 rw [if_neg (by omega)]; rfl
theorem digI_hi {n : Int} (h : 10 ≤ n) : digI n = digI (n.tdiv 10) ++ digI (n.tmod 10) := by
 obtain ⟨m, rfl⟩ := Int.eq_ofNat_of_zero_le (show 0 ≤ n by omega)
 have e1 : ((m : Int).tdiv 10) = ((m / 10 : Nat) : Int) := by rw [Int.tdiv_eq_ediv_of_nonneg (by omega)]; omega
 have e2 : ((m : Int).tmod 10) = ((m % 10 : Nat) : Int) := by rw [Int.tmod_eq_emod_of_nonneg (by omega)]; omega
 rw [e1, e2, digI_nat, digI_nat, digI_nat, digN_hi (by omega)]
theorem digI_neg {n : Int} (h0 : n < 0) (h : -10 < n) : digI n = 45 :: digI (-n) := by
 unfold digI
 rw [if_pos h0, if_neg (by omega), Int.natAbs_neg]
theorem digI_low {n : Int} (h : n ≤ -10) : digI n = digI (n.tdiv 10) ++ digI (-(n.tmod 10)) := by
 obtain ⟨m, hm⟩ := Int.eq_ofNat_of_zero_le (show 0 ≤ -n by omega)
 have hn : n = -(m : Int) := by omega
 subst hn
 have e1 : ((-(m : Int)).tdiv 10) = -((m / 10 : Nat) : Int) := by rw [Int.neg_tdiv, Int.tdiv_eq_ediv_of_nonneg (by omega)]; omega
 have e2 : (-((-(m : Int)).tmod 10)) = ((m % 10 : Nat) : Int) := by rw [Int.neg_tmod, Int.tmod_eq_emod_of_nonneg (by omega)]; omega
 have h10 : 10 ≤ m := by omega
 rw [e1, e2, digI_nat]
 have hneg : ∀ k : Nat, 0 < k → digI (-(k : Int)) = 45 :: digN k := by
  intro k hk
  unfold digI
  rw [if_pos (by omega), Int.natAbs_neg]; rfl
 rw [hneg m (by omega), hneg (m / 10) (by omega), digN_hi (by omega)]; rfl
def joinW (by_ : List UInt8) : List (List UInt8) → List UInt8
 | [] => []
 | x :: l => x ++ l.flatMap fun y => by_ ++ y
theorem joinW_snoc (by_ : List UInt8) (l : List (List UInt8)) (x : List UInt8) : joinW by_ (l ++ [x]) = joinW by_ l ++ ((if l.length = 0 then [] else by_) ++ x) := by
 cases l with
 | nil => simp [joinW]
 | cons y l => simp [joinW]
theorem joinW_take {by_ : List UInt8} {l : List (List UInt8)} {i : Nat} {x : List UInt8} (h : l[i]? = some x) : joinW by_ (l.take (i + 1)) = joinW by_ (l.take i) ++ ((if i = 0 then [] else by_) ++ x) := by
 obtain ⟨hlt, rfl⟩ := List.getElem?_eq_some_iff.1 h
 rw [List.take_succ_eq_append_getElem hlt, joinW_snoc]
 simp only [List.length_take]
 rw [Nat.min_eq_left (by omega)]
theorem joinW_le (by_ : List UInt8) (l : List (List UInt8)) (i : Nat) : (joinW by_ (l.take i)).length ≤ (joinW by_ l).length := by
 cases l with
 | nil => simp
 | cons x l =>
  cases i with
  | zero => simp [joinW]
  | succ i =>
   have : ∀ (l : List (List UInt8)) (i : Nat), ((l.take i).flatMap fun y => by_ ++ y).length ≤ (l.flatMap fun y => by_ ++ y).length := by
    intro l
    induction l with
    | nil => intro i; simp
    | cons x l ih =>
     intro i
     cases i with
     | zero => simp
     | succ i =>
      have := ih i
      simp only [List.take_succ_cons, List.flatMap_cons, List.length_append]
      omega
   have := this l i
   simp only [List.take_succ_cons, joinW, List.length_append]
   omega
end Go.Ev
namespace Go.Ev
open Go.RowKit
def BufV (e : TypeId) (S : St) (b : V) (s : List UInt8) : Prop :=
 (s = [] ∧ b = .nils) ∨ ∃ k, b = .list (some e) 1 (ofBytes s) (.own k) ∧ k < S.next ∧ S.h.find k = some .tok ∧ s ≠ []
structure Prn (T e : TypeId) (S : St) (id : Nat) (s : List UInt8) : Prop where
 lt : id < S.next
 box : ∃ a b, S.h.find id = some (.box T [a, b]) ∧ (a = .nilp ∨ a = .ptr id 0) ∧ BufV e S b s
theorem BufV.same {e : TypeId} {S S' : St} {b : V} {s : List UInt8} (h : BufV e S b s) (k : Same S S') : BufV e S' b s := by
 rcases h with h | ⟨j, h1, h2, h3, h4⟩
 ·exact .inl h
 ·exact .inr ⟨j, h1, Nat.lt_of_lt_of_le h2 k.next, by rw [k.find _ h2]; exact h3, h4⟩
theorem Prn.same {T e : TypeId} {S S' : St} {id : Nat} {s : List UInt8} (h : Prn T e S id s) (k : Same S S') : Prn T e S' id s := by
 obtain ⟨a, b, h1, h2, h3⟩ := h.box
 exact ⟨Nat.lt_of_lt_of_le h.lt k.next, a, b, by rw [k.find _ h.lt]; exact h1, h2, h3.same k⟩
theorem BufV.put {e : TypeId} {S : St} {b : V} {s : List UInt8} (h : BufV e S b s) {id : Nat} {t : TypeId} {cs : List V} (hid : S.h.find id = some (.box t cs)) (o : Ob) : BufV e { S with h := S.h.put id o } b s := by
 rcases h with h | ⟨j, h1, h2, h3, h4⟩
 ·exact .inl h
 ·refine .inr ⟨j, h1, h2, ?_, h4⟩
  simp only [Tr.find_put]
  rw [if_neg (fun h => by rw [h, hid] at h3; cases h3)]
  exact h3
theorem app_buf {P : Program} {t u e : TypeId} [ha : App P t u e 1 false 1] {S : St} {b : V} {s : List UInt8} (h : BufV e S b s) (w : List UInt8) (hl : s.length + w.length ≤ 1099511627776) :
 ∃ b' S', appendE P t u b (.str w) S = some (b', S') ∧ BufV e S' b' (s ++ w) ∧ S.next ≤ S'.next ∧ (∀ id t cs, id < S.next → S.h.find id = some (.box t cs) → S'.h.find id = some (.box t cs)) := by
 obtain ⟨i, ud, z, h1, h2, h3, h4, h5, h6, h7, h8, h9⟩ := ha.inf
 have hr : readS S false 1 (.str w) = some (ofBytes w) := rfl
 have hall : (ofBytes w).all (fun v => Nat.beq v.cells.length 1 && v.cells.all V.one) = true := List.all_eq_true.2 fun z hz => by
  rw [(ofBytes_all w z hz).1, (ofBytes_all w z hz).2]; rfl
 have hb : Nat.ble 1 1 = true := rfl
 have hroom : ∀ n, n ≤ 1099511627776 → roomOk n 1 = true := by
  intro n hn
  unfold roomOk
  rw [Nat.ble_eq_true_of_le (by omega), Nat.ble_eq_true_of_le (by omega)]; rfl
 have hlen := ofBytes_length w
 have hlen2 := ofBytes_length s
 by_cases hw : w = []
 ·subst hw
  refine ⟨b, S, ?_, by rw [List.append_nil]; exact h, Nat.le_refl _, fun _ _ _ _ h => h⟩
  have he : (ofBytes []).isEmpty = true := rfl
  unfold appendE
  rw [ha.el]
  rcases h with ⟨rfl, rfl⟩ | ⟨k, rfl, hk, hf, hne⟩
  ·simp only [h1, h4, h5, h7, h6, h2, hb, h8, Nat.beq_refl, hr, hall, he, Bool.not_true, Bool.or_false, Bool.false_eq_true, if_false, if_true]
  ·simp only [h1, h4, h5, h7, h6, h2, hb, h8, Nat.beq_refl, hr, hall, he, Bool.not_true, Bool.or_false, Bool.false_eq_true, if_false, if_true]
 ·have he : (ofBytes w).isEmpty = false := by cases w with
   | nil => exact (hw rfl).elim
   | cons c w => rfl
  rcases h with ⟨rfl, rfl⟩ | ⟨k, rfl, hk, hf, hne⟩
  ·have hro : roomOk (ofBytes w).length 1 = true := hroom _ (by rw [hlen]; simp at hl; omega)
   refine ⟨.list (some e) 1 (ofBytes w) (.own S.next), S.new .tok, ?_, .inr ⟨S.next, by simp, by simp [St.new], by simp [St.new, Tr.find_put], by simpa using hw⟩, by simp [St.new], fun id t cs hi h => ?_⟩
   ·unfold appendE
    rw [ha.el]
    simp only [h1, h4, h5, h7, h6, h2, h3, hb, h8, Nat.beq_refl, hr, hall, he, hro, Bool.not_true, Bool.or_false, Bool.false_eq_true, if_false, if_true]
   ·simp only [St.new, Tr.find_put]
    rw [if_neg (by omega)]; exact h
  ·have hro : roomOk ((ofBytes s).length + (ofBytes w).length) 1 = true := hroom _ (by rw [hlen, hlen2]; exact hl)
   refine ⟨.list (some e) 1 (ofBytes (s ++ w)) (.own S.next), St.new { S with h := S.h.del k } .tok, ?_, .inr ⟨S.next, rfl, by simp [St.new], by simp [St.new, Tr.find_put], by simp [hne]⟩, by simp [St.new], fun id t cs hi h => ?_⟩
   ·unfold appendE
    rw [ha.el]
    simp only [h1, h4, h5, h7, h6, h2, h3, hb, h8, Nat.beq_refl, hr, hall, he, hro, hf, Bool.not_true, Bool.or_false, Bool.false_eq_true, if_false, if_true]
    rw [ofBytes_append]
   ·simp only [St.new, Tr.find_put, Tr.find_del]
    rw [if_neg (by omega), if_neg (fun e => by subst e; rw [hf] at h; cases h)]; exact h
structure Bp (U : St) (c : Nat) (id : Nat) (t : TypeId) (cs : List V) : Prop where
 lt : id < U.next
 ne : id ≠ c
 box : U.h.find id = some (.box t cs)
theorem Bp.keep {c : Nat} {U S : St} {id : Nat} {t : TypeId} {cs : List V} (h : Bp U c id t cs) (k : KeepB U S c) : Bp S c id t cs := ⟨Nat.lt_of_lt_of_le h.lt k.next, h.ne, k.box _ _ _ h.lt h.ne h.box⟩
theorem Bp.pt {c : Nat} {U S : St} {id : Nat} {t : TypeId} {cs : List V} (h : Bp U c id t cs) (k : KeepB U S c) : Pt S (.ptr id 0) cs := pt_box (h.keep k).box
theorem Bp.of {c : Nat} {U : St} {id : Nat} {t : TypeId} {cs : List V} (h : Bx U id t cs) (hc : id ≠ c) : Bp U c id t cs := ⟨h.lt, hc, h.box⟩
theorem ld_p {P : Program} {c : Nat} {U S : St} {id : Nat} {t T : TypeId} {cs : List V} {v : V} [LdOne P T] (h : Bp U c id t cs) (k : KeepB U S c) (i : Nat) (hv : cs[i]? = some v) : loadE P T (padd (.ptr id 0) i) S = some v := ld_one ((h.pt k).at i hv)
theorem ld_p1 {P : Program} {c : Nat} {U S : St} {id : Nat} {t T : TypeId} {cs : List V} {v : V} [LdOne P T] (h : Bp U c id t (v :: cs)) (k : KeepB U S c) : loadE P T (.ptr id 0) S = some v := ld_one (h.pt k)
theorem ld_pA {P : Program} {c : Nat} {U S : St} {id n : Nat} {t T : TypeId} {cs : List V} [LdAgg P T n] (h : Bp U c id t cs) (k : KeepB U S c) (hn : cs.length = n) : loadE P T (.ptr id 0) S = some (.agg cs) := ld_agg (h.pt k) hn
theorem KeepB.then {c : Nat} {U S S' : St} (h : KeepB U S c) (k : Same S S') : KeepB U S' c := h.trans (k.keepB c)
def PrI [Glob] (P : Program) (T e : TypeId) (g : FuncId) (l : List V) (id : Nat) (I : St → Prop) (w : List UInt8) : Prop :=
 ∀ S s, Prn T e S id s → I S → s.length + w.length ≤ 1099511627776 → CallTo P g l S (fun _ S' => Prn T e S' id (s ++ w) ∧ KeepB S S' id) (fun _ _ => False)
abbrev PrC [Glob] (P : Program) (T e : TypeId) (g : FuncId) (l : List V) (id : Nat) (w : List UInt8) : Prop := PrI P T e g l id (fun _ => True) w
theorem Opl.callP [Glob] {P : Program} {ops : Array Oper} {os : List Oper} {F : Sh} {E : Env} {U0 S : St} {k : K} {d : Nat} {ty : TypeId} {pos : String} {after : Array Edge} {f : Operand} {args : Array Operand} {ats : Array TypeId} {g : FuncId} {l : List V} {T e : TypeId} {id : Nat} {s w : List UInt8} {I : St → Prop}
 (hp : Prn T e S id s) (k0 : KeepB U0 S id) (hf : calleeE (Env.opd E) f args = some (g, l)) (hb : hasBody P g = true) (hc : PrI P T e g l id I w) (hI : I S) (hl : s.length + w.length ≤ 1099511627776) (hd : Nat.blt d F.n = true)
 (h1 : ∀ v S', Prn T e S' id (s ++ w) → KeepB U0 S' id → Opl P ops os F ((d, v) :: E) S' k) :
 Opl P ops (⟨some d, .call { callee := .value f, args, argTypes := ats }, ty, pos, after, none⟩ :: os) F E S k :=
 Opl.call hf hb (hc S s hp hI hl) hd (fun v S' h => h1 v S' h.1 (k0.trans h.2)) (fun _ _ h => h.elim)
theorem Opl.callU [Glob] {P : Program} {ops : Array Oper} {os : List Oper} {F : Sh} {E : Env} {U0 S : St} {k : K} {d : Nat} {ty : TypeId} {pos : String} {after : Array Edge} {f : Operand} {args : Array Operand} {ats : Array TypeId} {g : FuncId} {l : List V} {r : V} {T e : TypeId} {id : Nat} {s : List UInt8}
 (hp : Prn T e S id s) (k0 : KeepB U0 S id) (hf : calleeE (Env.opd E) f args = some (g, l)) (hb : hasBody P g = true) (hc : Pu P g l r) (hd : Nat.blt d F.n = true) (h1 : ∀ S', Prn T e S' id s → KeepB U0 S' id → Opl P ops os F ((d, r) :: E) S' k) :
 Opl P ops (⟨some d, .call { callee := .value f, args, argTypes := ats }, ty, pos, after, none⟩ :: os) F E S k :=
 Opl.call hf hb (hc S) hd (fun v S' h => by obtain ⟨rfl, h⟩ := h; exact h1 S' (hp.same h) (k0.then h)) (fun _ _ h => h.elim)
theorem wordB_len {s : List UInt8} {n : Nat} (h : wordB s n = true) : s.length ≤ 12 := by
 unfold wordB at h
 split at h
 ·cases h
 ·simp only [Bool.and_eq_true] at h
  exact Nat.le_of_ble_eq_true h.1.1
theorem clsB_len {s : List UInt8} {n : Nat} (h : clsB s n = true) : s.length ≤ 12 := by
 unfold clsB at h
 split at h
 ·unfold isVarB at h
  simp only [Bool.and_eq_true] at h
  exact wordB_len h.1
 ·exact wordB_len h
 ·simp only [Bool.or_eq_true, decide_eq_true_eq] at h
  rcases h with (((h | h) | h) | h) | h <;> rw [h] <;> decide
 ·simp only [decide_eq_true_eq] at h
  rw [h]; decide
theorem thenE_eq0 {d x : Int} (h : thenE d x = 0) : d = 0 ∧ x = 0 := by
 unfold thenE at h
 split at h
 ·exact ⟨by assumption, h⟩
 ·exact absurd h (by assumption)
structure TyF (t : Ty) : Prop where
 k0 : 0 ≤ t.kind
 k6 : t.kind ≤ 6
 n0 : 0 ≤ t.n
 n9 : t.n ≤ 999999999
 s : t.s.length ≤ 12
 two : t.kind = 5 → t.l.length = 2
 lab : t.kind = 5 → ∀ x ∈ t.labels, isUpperB x.1 = true ∧ 0 ≤ x.2 ∧ x.2 ≤ 999999999
 tail : t.kind = 5 → -1 ≤ t.tail ∧ t.tail ≤ 999999999
theorem flatW_len {α : Type} (f : α → List UInt8) (c : Nat) : ∀ (l : List α), (∀ x ∈ l, (f x).length ≤ c) → (l.flatMap f).length ≤ l.length * c
 | [], _ => by simp
 | x :: l, h => by
  have h1 := h x (.head _)
  have h2 := flatW_len f c l fun y hy => h y (.tail _ hy)
  simp only [List.flatMap_cons, List.length_append, List.length_cons, Nat.add_mul, Nat.one_mul]
  omega
theorem joinW_len (by_ : List UInt8) (c : Nat) (l : List (List UInt8)) (h : ∀ x ∈ l, x.length ≤ c) : (joinW by_ l).length ≤ l.length * (by_.length + c) := by
 cases l with
 | nil => simp [joinW]
 | cons x l =>
  have h1 := h x (.head _)
  have h2 := flatW_len (fun y => by_ ++ y) (by_.length + c) l fun y hy => by have := h y (.tail _ hy); simp; omega
  simp only [joinW, List.length_append, List.length_cons, Nat.add_mul, Nat.one_mul]
  omega
end Go.Ev
namespace Go.Ev
open Go.RowKit
theorem wrap_u32 (n : Int) : IntKind.wrap .u32 n = n % 4294967296 := by simp [IntKind.wrap, IntKind.bits, IntKind.signed]
theorem n_rem {k : IntKind} {a : Nat} (b : Nat) (hb : 0 < b) : intOp .rem k (a : Int) (b : Int) = some (.int k ((a % b : Nat) : Int)) := by
 have h : ¬ ((b : Int) = 0) := by omega
 simp only [intOp, h, decide_false, Bool.false_eq_true, if_false]
 rw [Int.tmod_eq_emod_of_nonneg (by omega)]; simp
theorem n_quo {k : IntKind} {a : Nat} (b : Nat) (hb : 0 < b) (hw : k.wrap ((a / b : Nat) : Int) = ((a / b : Nat) : Int)) : intOp .quo k (a : Int) (b : Int) = some (.int k ((a / b : Nat) : Int)) := by
 have h : ¬ ((b : Int) = 0) := by omega
 have e : (a : Int).tdiv (b : Int) = ((a / b : Nat) : Int) := by rw [Int.tdiv_eq_ediv_of_nonneg (by omega)]; simp
 simp only [intOp, h, decide_false, Bool.false_eq_true, if_false, e, hw]
theorem n_quo32 {a : Nat} (b : Nat) (hb : 0 < b) (ha : a < 4294967296) : intOp .quo .u32 (a : Int) (b : Int) = some (.int .u32 ((a / b : Nat) : Int)) :=
 n_quo b hb (by rw [wrap_u32]; have := Nat.div_le_self a b; generalize a / b = q at *; omega)
theorem n_quo64 {a : Nat} (b : Nat) (hb : 0 < b) (ha : a < 4294967296) : intOp .quo .u64 (a : Int) (b : Int) = some (.int .u64 ((a / b : Nat) : Int)) :=
 n_quo b hb (by rw [wrap_u64]; have := Nat.div_le_self a b; generalize a / b = q at *; omega)
theorem n_mul2 {a : Nat} (ha : a < 2147483648) : intOp .mul .u32 (a : Int) 2 = some (.int .u32 ((a * 2 : Nat) : Int)) := by
 simp only [intOp, wrap_u32]
 have : (a : Int) * 2 % 4294967296 = ((a * 2 : Nat) : Int) := by omega
 rw [this]
theorem n_add1 {a : Nat} (ha : a < 4294967295) : intOp .add .u32 (a : Int) 1 = some (.int .u32 ((a + 1 : Nat) : Int)) := by
 simp only [intOp, wrap_u32]
 have : ((a : Int) + 1) % 4294967296 = ((a + 1 : Nat) : Int) := by omega
 rw [this]
theorem n_48 {a : Nat} (ha : a < 1000) : intOp .add .u32 48 (a : Int) = some (.int .u32 ((48 + a : Nat) : Int)) := by
 simp only [intOp, wrap_u32]
 have : (48 + (a : Int)) % 4294967296 = ((48 + a : Nat) : Int) := by omega
 rw [this]
theorem op_convN {P : Program} {ev : Operand → Option V} {S : St} {x : Operand} {s d : TypeId} {k k2 : IntKind} {i m : Int} [hd : ConI P d k] [hs : IsDesc P s] (h : ev x = some (.int k2 i)) (hw : k.wrap i = m) : opE P (.convert s d x) ev S = some (.int k m, S) := by
 rw [← hw]; exact op_convI h
theorem c_u32 {a : Nat} (ha : a < 4294967296) : IntKind.wrap .u32 (a : Int) = (a : Int) := by rw [wrap_u32]; omega
theorem c_u64 {a : Nat} (ha : a < 4294967296) : IntKind.wrap .u64 (a : Int) = (a : Int) := by rw [wrap_u64]; omega
theorem c_u8 {a : Nat} (ha : a < 256) : IntKind.wrap .u8 (a : Int) = ((UInt8.ofNat a).toNat : Int) := by rw [wrap_u8, u8_nat _ ha]; omega
def smalls : List UInt8 := [48, 48, 48, 49, 48, 50, 48, 51, 48, 52, 48, 53, 48, 54, 48, 55, 48, 56, 48, 57, 49, 48, 49, 49, 49, 50, 49, 51, 49, 52, 49, 53, 49, 54, 49, 55, 49, 56, 49, 57, 50, 48, 50, 49, 50, 50, 50, 51, 50, 52, 50, 53, 50, 54, 50, 55, 50, 56, 50, 57, 51, 48, 51, 49, 51, 50, 51, 51, 51, 52, 51, 53, 51, 54, 51, 55, 51, 56, 51, 57, 52, 48, 52, 49, 52, 50, 52, 51, 52, 52, 52, 53, 52, 54, 52, 55, 52, 56, 52, 57, 53, 48, 53, 49, 53, 50, 53, 51, 53, 52, 53, 53, 53, 54, 53, 55, 53, 56, 53, 57, 54, 48, 54, 49, 54, 50, 54, 51, 54, 52, 54, 53, 54, 54, 54, 55, 54, 56, 54, 57, 55, 48, 55, 49, 55, 50, 55, 51, 55, 52, 55, 53, 55, 54, 55, 55, 55, 56, 55, 57, 56, 48, 56, 49, 56, 50, 56, 51, 56, 52, 56, 53, 56, 54, 56, 55, 56, 56, 56, 57, 57, 48, 57, 49, 57, 50, 57, 51, 57, 52, 57, 53, 57, 54, 57, 55, 57, 56, 57, 57]
theorem sm_lo {m : Nat} (h : m < 100) : smalls[m * 2]? = some (UInt8.ofNat (48 + m / 10)) := by
 have : ∀ i : Fin 100, smalls[i.val * 2]? = some (UInt8.ofNat (48 + i.val / 10)) := by decide +kernel
 exact this ⟨m, h⟩
theorem sm_hi {m : Nat} (h : m < 100) : smalls[m * 2 + 1]? = some (UInt8.ofNat (48 + m % 10)) := by
 have : ∀ i : Fin 100, smalls[i.val * 2 + 1]? = some (UInt8.ofNat (48 + i.val % 10)) := by decide +kernel
 exact this ⟨m, h⟩
def digs : Nat → Nat → List UInt8
 | 0, _ => []
 | k + 1, d => digs k (d / 10) ++ [UInt8.ofNat (48 + d % 10)]
theorem digN_digs : ∀ (k d : Nat), d < 10 ^ (k + 1) → (10 ^ k ≤ d ∨ k = 0) → digN d = digs (k + 1) d
 | 0, d, h, _ => by
  have h : d < 10 := by simpa using h
  rw [digN_lo h]
  simp only [digs, List.nil_append]
  rw [Nat.mod_eq_of_lt h]
 | k + 1, d, h, h2 => by
  have h2 : 10 ^ (k + 1) ≤ d := by omega
  have h10 : ¬ d < 10 := by
   have : 10 ^ 1 ≤ 10 ^ (k + 1) := Nat.pow_le_pow_right (by decide) (by omega)
   omega
  rw [Nat.pow_succ] at h
  have h3 : 10 ^ k ≤ d / 10 := by rw [Nat.pow_succ] at h2; omega
  rw [digN_hi h10, digN_digs k (d / 10) (by omega) (.inl h3), digN_lo (n := d % 10) (by omega)]
  rfl
theorem digs_len : ∀ (k d : Nat), (digs k d).length = k
 | 0, _ => rfl
 | k + 1, d => by simp [digs, digs_len k]
def len8 : List UInt8 := [0, 1, 2, 2, 3, 3, 3, 3, 4, 4, 4, 4, 4, 4, 4, 4, 5, 5, 5, 5, 5, 5, 5, 5, 5, 5, 5, 5, 5, 5, 5, 5, 6, 6, 6, 6, 6, 6, 6, 6, 6, 6, 6, 6, 6, 6, 6, 6, 6, 6, 6, 6, 6, 6, 6, 6, 6, 6, 6, 6, 6, 6, 6, 6, 7, 7, 7, 7, 7, 7, 7, 7, 7, 7, 7, 7, 7, 7, 7, 7, 7, 7, 7, 7, 7, 7, 7, 7, 7, 7, 7, 7, 7, 7, 7, 7, 7, 7, 7, 7, 7, 7, 7, 7, 7, 7, 7, 7, 7, 7, 7, 7, 7, 7, 7, 7, 7, 7, 7, 7, 7, 7, 7, 7, 7, 7, 7, 7, 8, 8, 8, 8, 8, 8, 8, 8, 8, 8, 8, 8, 8, 8, 8, 8, 8, 8, 8, 8, 8, 8, 8, 8, 8, 8, 8, 8, 8, 8, 8, 8, 8, 8, 8, 8, 8, 8, 8, 8, 8, 8, 8, 8, 8, 8, 8, 8, 8, 8, 8, 8, 8, 8, 8, 8, 8, 8, 8, 8, 8, 8, 8, 8, 8, 8, 8, 8, 8, 8, 8, 8, 8, 8, 8, 8, 8, 8, 8, 8, 8, 8, 8, 8, 8, 8, 8, 8, 8, 8, 8, 8, 8, 8, 8, 8, 8, 8, 8, 8, 8, 8, 8, 8, 8, 8, 8, 8, 8, 8, 8, 8, 8, 8, 8, 8, 8, 8, 8, 8, 8, 8, 8, 8, 8, 8, 8, 8]
theorem len8_ok {x : Nat} (h : x < 256) : ∃ c, len8[x]? = some c ∧ c.toNat ≤ 8 ∧ x < 2 ^ c.toNat ∧ 2 ^ c.toNat ≤ 2 * x + 1 := by
 have : ∀ i : Fin 256, (match len8[i.val]? with | some c => decide (c.toNat ≤ 8) && decide (i.val < 2 ^ c.toNat) && decide (2 ^ c.toNat ≤ 2 * i.val + 1) | none => false) = true := by decide +kernel
 have := this ⟨x, h⟩
 simp only at this
 split at this
 ·rename_i c hc
  simp only [Bool.and_eq_true, decide_eq_true_eq] at this
  exact ⟨c, hc, this.1.1, this.1.2, this.2⟩
 ·cases this
def Bits (d L : Nat) : Prop := d < 2 ^ L ∧ 2 ^ L ≤ 2 * d + 1
theorem Bits.up {x d c n : Nat} (h : Bits x c) (hx : x = d / 2 ^ n) (h0 : 0 < x) : Bits d (n + c) := by
 obtain ⟨h1, h2⟩ := h
 have hp : 0 < 2 ^ n := Nat.pow_pos (by decide)
 have e : 2 ^ (n + c) = 2 ^ n * 2 ^ c := Nat.pow_add 2 n c
 subst hx
 unfold Bits
 rw [e]
 generalize hP : 2 ^ n = p at *
 have hd := Nat.div_add_mod d p
 have hm := Nat.mod_lt d hp
 generalize hq : d / p = q at *
 constructor
 ·have : p * (q + 1) ≤ p * 2 ^ c := Nat.mul_le_mul_left p h1
  rw [Nat.mul_add] at this
  omega
 ·have hc : 0 < c := by
   cases c with
   | zero => simp at h1; omega
   | succ c => omega
  obtain ⟨c', rfl⟩ : ∃ c', c = c' + 1 := ⟨c - 1, by omega⟩
  rw [Nat.pow_succ] at h2 ⊢
  have h3 : 2 ^ c' ≤ q := by omega
  have := Nat.mul_le_mul_left p h3
  have e2 : p * (2 ^ c' * 2) = 2 * (p * 2 ^ c') := by rw [← Nat.mul_assoc]; omega
  rw [e2]
  omega
theorem nd_ok {d L : Nat} (h : Bits d L) (h0 : 0 < d) (hd : d < 1000000000) :
 ∃ n r : Nat, n = L * 78913 / 262144 ∧ n < 20 ∧ r = (if d ≥ 10 ^ n then n + 1 else n) ∧ 1 ≤ r ∧ r ≤ 9 ∧ d < 10 ^ r ∧ 10 ^ (r - 1) ≤ d := by
 obtain ⟨h1, h2⟩ := h
 have hL : L ≤ 30 := by
  apply Classical.byContradiction
  intro hc
  have : 2 ^ 31 ≤ 2 ^ L := Nat.pow_le_pow_right (by decide) (by omega)
  omega
 have hL1 : 1 ≤ L := by
  cases L with
  | zero => simp at h1; omega
  | succ L => omega
 have key : ∀ L : Nat, L = 1 ∨ L = 2 ∨ L = 3 ∨ L = 4 ∨ L = 5 ∨ L = 6 ∨ L = 7 ∨ L = 8 ∨ L = 9 ∨ L = 10 ∨ L = 11 ∨ L = 12 ∨ L = 13 ∨ L = 14 ∨ L = 15 ∨ L = 16 ∨ L = 17 ∨ L = 18 ∨ L = 19 ∨ L = 20 ∨ L = 21 ∨ L = 22 ∨ L = 23 ∨ L = 24 ∨ L = 25 ∨ L = 26 ∨ L = 27 ∨ L = 28 ∨ L = 29 ∨ L = 30 → d < 2 ^ L → 2 ^ L ≤ 2 * d + 1 →
  ∃ n r : Nat, n = L * 78913 / 262144 ∧ n < 20 ∧ r = (if d ≥ 10 ^ n then n + 1 else n) ∧ 1 ≤ r ∧ r ≤ 9 ∧ d < 10 ^ r ∧ 10 ^ (r - 1) ≤ d := by
  intro L hL g1 g2
  rcases hL with rfl | rfl | rfl | rfl | rfl | rfl | rfl | rfl | rfl | rfl | rfl | rfl | rfl | rfl | rfl | rfl | rfl | rfl | rfl | rfl | rfl | rfl | rfl | rfl | rfl | rfl | rfl | rfl | rfl | rfl
  all_goals
   refine ⟨_, _, rfl, by decide, rfl, ?_⟩
   simp only [Nat.reduceMul, Nat.reduceDiv, Nat.reducePow] at g1 g2 ⊢
   split
   ·refine ⟨by omega, by omega, ?_, ?_⟩ <;> simp <;> omega
   ·refine ⟨by omega, by omega, ?_, ?_⟩ <;> simp <;> omega
 exact key L (by omega) h1 h2
theorem st_cell {P : Program} {T t : TypeId} [SzN P T 1] {S : St} {id off : Nat} {cs cs' : List V} {v : V} (hb : S.h.find id = some (.box t cs)) (ho : v.one = true) (hsp : splice cs off [v] = some cs') :
 ∃ S', storeE P T (.ptr id off) v S = some S' ∧ S'.h.find id = some (.box t cs') ∧ S'.next = S.next ∧ ∀ j, j ≠ id → S'.h.find j = S.h.find j :=
 ⟨_, st_one hb ho hsp, by simp [Tr.find_put], rfl, fun j hj => by simp only [Tr.find_put]; rw [if_neg hj]⟩
theorem shr_n {k : IntKind} {a : Nat} (n m : Nat) (hn : n < 64) (hk : k.bits = 64) (hm : 2 ^ n = m) : shiftE .shr k (a : Int) (n : Int) = some (.int k ((a / m : Nat) : Int)) := by
 subst hm
 simp only [shiftE]
 have h : ¬ ((n : Int) < 0) := by omega
 simp only [h, decide_false, Bool.false_eq_true, if_false, hk]
 have e : min (n : Int).toNat 64 = n := by simp; omega
 rw [e, Int.fdiv_eq_ediv_of_nonneg _ (by exact_mod_cast Nat.zero_le _)]
 simp
theorem n_muli {a : Nat} (b : Nat) (h : a * b < 9223372036854775808) : intOp .mul .i64 (a : Int) (b : Int) = some (.int .i64 ((a * b : Nat) : Int)) := by
 have : IntKind.wrap .i64 ((a : Int) * (b : Int)) = ((a * b : Nat) : Int) := by
  have e : (a : Int) * (b : Int) = ((a * b : Nat) : Int) := by simp
  rw [e, wrap_i64_id (by constructor <;> omega)]
 simp only [intOp, this]
theorem sub_n {a : Nat} (b : Nat) (h : b ≤ a) (h2 : a < 9223372036854775808) : intOp .sub .i64 (a : Int) (b : Int) = some (.int .i64 ((a - b : Nat) : Int)) := by
 have : IntKind.wrap .i64 ((a : Int) - (b : Int)) = ((a - b : Nat) : Int) := by rw [wrap_i64_id (by constructor <;> omega)]; omega
 simp only [intOp, this]
theorem c_u8n {a : Nat} (h : a < 256) : IntKind.wrap .u8 (a : Int) = (a : Int) := by rw [wrap_u8]; omega
theorem c_i64n {a : Nat} (h : a < 9223372036854775808) : IntKind.wrap .i64 (a : Int) = (a : Int) := wrap_i64_id (by constructor <;> omega)
theorem c_u8D {a e : Nat} (he : a = 48 + e) (h : a < 256) : IntKind.wrap .u8 (a : Int) = ((UInt8.ofNat (48 + e)).toNat : Int) := by subst he; exact c_u8 h
theorem sm_loD {m e : Nat} (h : m < 100) (he : m / 10 = e) : smalls[m * 2]? = some (UInt8.ofNat (48 + e)) := he ▸ sm_lo h
theorem sm_hiD {m e : Nat} (h : m < 100) (he : m % 10 = e) : smalls[m * 2 + 1]? = some (UInt8.ofNat (48 + e)) := he ▸ sm_hi h
theorem op_lenA {P : Program} {ev : Operand → Option V} {S : St} {t e : TypeId} [hs : ElT P t e] {ats : Array TypeId} {l : List TypeId} {args : Array Operand} {id off n m : Nat} (ha : mapO ev args.toList = some [.arr id off n m]) (ht : ats.toList = t :: l) :
 opE P (.call { callee := .builtin .len, args, argTypes := ats }) ev S = some (.int .i64 (n : Nat), S) := by
 simp only [opE, ha, ht, builtinE, lenE, hs.h, Option.map]
theorem op_ixaA {P : Program} {ev : Operand → Option V} {S : St} {x y : Operand} {t e : TypeId} [hs : ElT P t e] [hn : SzN P e 1] {id off len cap i : Nat} {k : IntKind} (h : ev x = some (.arr id off len cap)) (h2 : ev y = some (.int k (i : Int))) (hi : i < len) :
 opE P (.indexAddr t x y) ev S = some (.ptr id (off + i), S) := by
 simp [opE, h, h2, indexAddrE, hs.h, hn.h, hi]
theorem op_slLH {P : Program} {ev : Operand → Option V} {S : St} {x y z : Operand} {t : TypeId} {v a b w : V} (h : ev x = some v) (h2 : ev y = some a) (h3 : ev z = some b) (hs : sliceE P t v (some a) (some b) none = some w) : opE P (.slice t x (some y) (some z) none) ev S = some (w, S) := by
 simp only [opE, h, h2, h3, Option.toList, mapO, List.head?, hs, Option.map]
theorem slice_str {P : Program} {t : TypeId} [hs : IsStr P t] {s : List UInt8} {i j : Nat} {k1 k2 : IntKind} (h1 : i ≤ j) (h2 : j ≤ s.length) : sliceE P t (.str s) (some (.int k1 (i : Int))) (some (.int k2 (j : Int))) none = some (.str ((s.take j).drop i)) := by
 have e : sliceB (some (.int k1 (i : Int))) (some (.int k2 (j : Int))) s.length s.length = some (i, j) := by
  show (match boundB (some (.int k2 (j : Int))) s.length s.length with
   | none => none
   | some h => match boundB (some (.int k1 (i : Int))) 0 h with
    | none => none
    | some l => some (l, h)) = _
  rw [boundB_nat h2]
  simp only
  rw [boundB_nat h1]
 simp only [sliceE, hs.h, e, Option.map]
def fcells (z : V) (r d : Nat) : List V := z :: (ofBytes (digs r d) ++ List.replicate (23 - r) (.int .u8 0))
theorem rd_fcells {S : St} {id r d : Nat} {t : TypeId} {z : V} (h : S.h.find id = some (.box t (fcells z r d))) : rd S (.ptr id 1) r = some (ofBytes (digs r d)) := by
 have e : (ofBytes (digs r d)).length = r := by rw [ofBytes_length, digs_len]
 simp only [rd, h]
 have := cut_pre (bs := fcells z r d) (cs := ofBytes (digs r d)) (off := 1) fun i v hi => by
  have hlt : i < (ofBytes (digs r d)).length := (List.getElem?_eq_some_iff.1 hi).1
  unfold fcells
  rw [Nat.add_comm 1 i, List.getElem?_cons_succ, List.getElem?_append_left hlt]
  exact hi
 rw [e] at this
 exact this
theorem rd_fcells0 {S : St} {id r d : Nat} {t : TypeId} {c : UInt8} (h : S.h.find id = some (.box t (fcells (.int .u8 c.toNat) r d))) : rd S (.ptr id 0) (r + 1) = some (ofBytes (c :: digs r d)) := by
 have e : (ofBytes (c :: digs r d)).length = r + 1 := by rw [ofBytes_length, List.length_cons, digs_len]
 simp only [rd, h]
 have := cut_pre (bs := fcells (.int .u8 c.toNat) r d) (cs := ofBytes (c :: digs r d)) (off := 0) fun i v hi => by
  have hlt : i < (ofBytes (c :: digs r d)).length := (List.getElem?_eq_some_iff.1 hi).1
  have e2 : fcells (.int .u8 c.toNat) r d = ofBytes (c :: digs r d) ++ List.replicate (23 - r) (V.int .u8 0) := rfl
  rw [Nat.zero_add, e2, List.getElem?_append_left hlt]
  exact hi
 rw [e] at this
 exact this
theorem st_set {P : Program} {T t : TypeId} [SzN P T 1] {S : St} {id off : Nat} {cs : List V} {v : V} (hb : S.h.find id = some (.box t cs)) (ho : v.one = true) (hl : off < cs.length) :
 ∃ S', storeE P T (.ptr id off) v S = some S' ∧ S'.h.find id = some (.box t (cs.set off v)) ∧ S'.next = S.next ∧ ∀ j, j ≠ id → S'.h.find j = S.h.find j := by
 refine st_cell hb ho ?_
 unfold splice
 rw [if_pos (Nat.ble_eq_true_of_le (by simp; omega))]
 simp [List.set_eq_take_append_cons_drop, hl]
theorem Opl.set [Glob] {P : Program} {ops : Array Oper} {os : List Oper} {F : Sh} {E : Env} {S : St} {k : K} {T ty t : TypeId} {pos : String} {after : Array Edge} {a x : Operand} {id off : Nat} {cs : List V} {v : V} [SzN P T 1]
 (hb : S.h.find id = some (.box t cs)) (ha : Env.opd E a = some (.ptr id off)) (hx : Env.opd E x = some v) (ho : v.one = true) (hl : off < cs.length)
 (hk : ∀ S', S'.h.find id = some (.box t (cs.set off v)) → S'.next = S.next → (∀ j, j ≠ id → S'.h.find j = S.h.find j) → Opl P ops os F E S' k) :
 Opl P ops (⟨none, .store T a x, ty, pos, after, none⟩ :: os) F E S k := by
 obtain ⟨S', h1, h2, h3, h4⟩ := st_set (P := P) (T := T) hb ho hl
 exact Opl.eff (op_store ha hx h1) (hk S' h2 h3 h4)
end Go.Ev
namespace Go.Ev
open Go.RowKit
section
variable {P : Program} {ev : Operand → Option V} {S : St} {x y : Operand} {T e : TypeId} {id i j m : Nat} {k1 k2 : IntKind}
theorem sliceB_nat {cap : Nat} (h1 : i ≤ j) (h2 : j ≤ cap) : sliceB (some (.int k1 (i : Int))) (some (.int k2 (j : Int))) cap cap = some (i, j) := by
 show (match boundB (some (.int k2 (j : Int))) cap cap with
  | none => none
  | some h => match boundB (some (.int k1 (i : Int))) 0 h with
   | none => none
   | some l => some (l, h)) = _
 rw [boundB_nat h2]
 simp only
 rw [boundB_nat h1]
theorem sliceB_hi {cap : Nat} (h2 : j ≤ cap) : sliceB none (some (.int k2 (j : Int))) cap cap = some (0, j) := by
 show (match boundB (some (.int k2 (j : Int))) cap cap with
  | none => none
  | some h => match boundB none 0 h with
   | none => none
   | some l => some (l, h)) = _
 rw [boundB_nat h2]
 rfl
theorem slice_arr (ht : P.underlying T = some (.array m e)) (hs : szOf P e = some 1) (h1 : i ≤ j) (h2 : j ≤ m) (h3 : i < m) :
 sliceE P T (.ptr id 0) (some (.int k1 (i : Int))) (some (.int k2 (j : Int))) none = some (.arr id i (j - i) (m - i)) := by
 simp [sliceE, ht, hs, sliceB_nat h1 h2, h3]
theorem slice_arr0 (ht : P.underlying T = some (.array m e)) (hs : szOf P e = some 1) (h2 : j ≤ m) (h3 : 0 < m) :
 sliceE P T (.ptr id 0) none (some (.int k2 (j : Int))) none = some (.arr id 0 j m) := by
 simp [sliceE, ht, hs, sliceB_hi h2, h3]
theorem op_ixaR (ht : P.underlying T = some (.array m e)) (hs : szOf P e = some 1) (h : ev x = some (.ptr id 0)) (h2 : ev y = some (.int k1 (i : Int))) (hi : i < m) : opE P (.indexAddr T x y) ev S = some (.ptr id i, S) := by
 simp [opE, h, h2, indexAddrE, ht, hs, hi]
end
theorem neg64 {d : Nat} (h : d < 1000000000) (h0 : 0 < d) : IntKind.wrap .u64 (-(d : Int)) = ((18446744073709551616 - d : Nat) : Int) := by rw [wrap_u64]; omega
theorem neg64b {d : Nat} (h : d < 1000000000) (h0 : 0 < d) : unE .neg (.int .u64 ((18446744073709551616 - d : Nat) : Int)) = some (.int .u64 (d : Int)) := by
 have : IntKind.wrap .u64 (0 - ((18446744073709551616 - d : Nat) : Int)) = (d : Int) := by rw [wrap_u64]; omega
 simp only [unE, this]
def digitsL : List UInt8 := [48, 49, 50, 51, 52, 53, 54, 55, 56, 57, 97, 98, 99, 100, 101, 102, 103, 104, 105, 106, 107, 108, 109, 110, 111, 112, 113, 114, 115, 116, 117, 118, 119, 120, 121, 122]
theorem dg_lo {i : Nat} (h : i < 10) : (digitsL.take (i + 1)).drop i = digN i := by
 have : ∀ i : Fin 10, (digitsL.take (i.val + 1)).drop i.val = [UInt8.ofNat (48 + i.val)] := by decide
 rw [digN_lo h]
 exact this ⟨i, h⟩
theorem dg_hi {i : Nat} (h0 : ¬ i < 10) (h : i < 100) : (smalls.take (i * 2 + 2)).drop (i * 2) = digN i := by
 have : ∀ i : Fin 100, (smalls.take (i.val * 2 + 2)).drop (i.val * 2) = [UInt8.ofNat (48 + i.val / 10), UInt8.ofNat (48 + i.val % 10)] := by decide +kernel
 rw [digN_hi h0, digN_lo (n := i / 10) (by omega), digN_lo (n := i % 10) (by omega)]
 exact this ⟨i, h⟩
end Go.Ev
namespace Go.Ev
open Go.RowKit
section
variable {P : Program} {ev : Operand → Option V} {S : St} {x y : Operand} {t u e s d : TypeId} {id n off : Nat}
theorem op_pnil (ht : P.underlying t = some (.pointer e)) (h : ev x = some .nilp) (h2 : ev y = some .nilp) : opE P (.binOp .eql t x y u) ev S = some (.bool true, S) := by
 refine op_bin h h2 ?_
 simp only [binE, guardE, if_true, eqE, ht]; rfl
theorem op_pptr (ht : P.underlying t = some (.pointer e)) (h : ev x = some (.ptr id off)) (h2 : ev y = some .nilp) : opE P (.binOp .eql t x y u) ev S = some (.bool false, S) := by
 refine op_bin h h2 ?_
 simp only [binE, guardE, if_true, eqE, ht]; rfl
theorem op_pneq (ht : P.underlying t = some (.pointer e)) (hs : szOf P e = some (n + 1)) (h : ev x = some (.ptr id off)) (h2 : ev y = some (.ptr id off)) : opE P (.binOp .neq t x y u) ev S = some (.bool false, S) := by
 refine op_bin h h2 ?_
 simp [binE, guardE, eqE, ht, hs]
theorem conv_toU {cs : List V} {b : TypeId} (hs : P.underlying s = some (.pointer t)) (hd : P.underlying d = some .unsafePointer) (hz : szOf P t = some (n + 1)) (hb : S.h.find id = some (.box b cs)) (hl : 0 < cs.length) : convertE P s d (.ptr id 0) S = some (.ptr id 0, S) := by
 simp [convertE, hs, hd, hz, hb, hl]
theorem conv_ofU {cs : List V} {b : TypeId} {m : Nat} (hs : P.underlying s = some .unsafePointer) (hd : P.underlying d = some (.pointer t)) (hz : szOf P t = some (n + 1)) (hb : S.h.find id = some (.box b cs)) (hm : cs.length = m) (hl : liesAt P P.depth b (m / P.cellsOf b) 0 t 1 = true) : convertE P s d (.ptr id 0) S = some (.ptr id 0, S) := by
 subst hm
 simp [convertE, hs, hd, hz, hb, hl]
end
theorem usl_nil {P : Program} {l : List TypeId} {S : St} : builtinE P .unsafeSliceData l [.nils] S = some (.nilp, S) := by unfold builtinE; rfl
theorem usl_list {P : Program} {l : List TypeId} {S : St} {lt : Option TypeId} {s : List UInt8} {tk : Tk} (h : s ≠ []) : builtinE P .unsafeSliceData l [.list lt 1 (ofBytes s) tk] S = some (.cptr lt (ofBytes s) 0, S) := by
 cases s with
 | nil => exact (h rfl).elim
 | cons c s =>
  have e := flat_ofBytes (c :: s)
  unfold builtinE
  show some (V.cptr lt ((ofBytes (c :: s)).flatMap V.cells) 0, S) = _
  rw [e]
theorem uss_nil {P : Program} {pt u e : TypeId} {S : St} {k : IntKind} (hp : P.underlying pt = some (.pointer e)) : builtinE P .unsafeString [pt, u] [.nilp, .int k ((0 : Nat) : Int)] S = some (.str [], S) := by
 unfold builtinE
 simp [unsafeStrE, hp]
theorem uss_list {P : Program} {pt u e : TypeId} {S : St} {k : IntKind} {s : List UInt8} (hp : P.underlying pt = some (.pointer e)) (he : P.underlying e = some (.int .u8)) (hc : P.cellsOf e = 1) (h : s ≠ []) (hl : s.length ≤ 1099511627776) :
 builtinE P .unsafeString [pt, u] [.cptr (some e) (ofBytes s) 0, .int k ((s.length : Nat) : Int)] S = some (.str s, S) := by
 have h0 : ¬ s.length = 0 := by simpa using h
 have e1 : (ofBytes s).length = s.length := ofBytes_length s
 have e2 := toBytes_of s
 have e3 : decide (((s.length : Nat) : Int) = 0) = false := by simp [h]
 have e4 : (decide (0 ≤ ((s.length : Nat) : Int)) && decide (((s.length : Nat) : Int) ≤ 9223372036854775807)) = true := by
  simp only [Bool.and_eq_true, decide_eq_true_eq]; omega
 unfold builtinE
 simp only [unsafeStrE, hp, e3, e4, Bool.false_eq_true, if_false, if_true, hc, he, e1, e2, Nat.beq_refl, Int.toNat_natCast, Bool.and_self, Option.map]
def Wr (S S' : St) (id : Nat) (t : TypeId) (cs : List V) : Prop := S'.h.find id = some (.box t cs) ∧ S'.next = S.next ∧ ∀ j, j ≠ id → S'.h.find j = S.h.find j
theorem op_lenE {P : Program} {ev : Operand → Option V} {S : St} {t e : TypeId} {v : V} {n : Nat} [hs : ElT P t e] {ats : Array TypeId} {l : List TypeId} {args : Array Operand} (ha : mapO ev args.toList = some [v]) (hv : isL v = true) (hn : (elems v).length = n) (ht : ats.toList = t :: l) :
 opE P (.call { callee := .builtin .len, args, argTypes := ats }) ev S = some (.int .i64 (n : Nat), S) := by
 subst hn; exact op_lenL ha hv ht
theorem flatten_step {α : Type} {l : List (List α)} {i : Nat} {x : List α} (h : l[i]? = some x) : (l.take (i + 1)).flatten = (l.take i).flatten ++ x := by
 obtain ⟨hlt, rfl⟩ := List.getElem?_eq_some_iff.1 h
 rw [List.take_succ_eq_append_getElem hlt, List.flatten_append, List.flatten_cons, List.flatten_nil, List.append_nil]
theorem flatten_le {α : Type} (l : List (List α)) (i : Nat) : (l.take i).flatten.length ≤ l.flatten.length := by
 have e : l.flatten = (l.take i).flatten ++ (l.drop i).flatten := by rw [← List.flatten_append, List.take_append_drop]
 rw [e, List.length_append]; omega
abbrev Kpb (U : St) (c : Nat) (S : St) : Prop := KeepB U S c
theorem Drw.callP [Glob] {P : Program} {ops : Array Oper} {ms : List Nat} {S0 S U0 : St} {l : List Nat} {F : Sh} {E : Env} {k : K} {i d : Nat} {ty : TypeId} {pos : String} {after : Array Edge} {f : Operand} {args : Array Operand} {ats : Array TypeId} {g : FuncId} {m : List V} {gg : Option (Nat × Bool)} {T e : TypeId} {id : Nat} {s w : List UInt8} {J : St → Prop}
 (hp : Prn T e S id s) (k0 : KeepB U0 S id) (ho : ops[i]? = some ⟨some d, .call { callee := .value f, args, argTypes := ats }, ty, pos, after, gg⟩) (hf : calleeE (Env.opd E) f args = some (g, m)) (hb : hasBody P g = true) (hc : PrI P T e g m id J w) (hI : J S) (hl : s.length + w.length ≤ 1099511627776) (hd : Nat.blt d F.n = true)
 (hk : ∀ v S', Prn T e S' id (s ++ w) → KeepB U0 S' id → Drw P ops ms S0 (Kpb U0 id) l F ((d, v) :: E) S' k) (hg : gOk ops E gg = some true := by rfl) : Drw P ops ms S0 (Kpb U0 id) (i :: l) F E S k :=
 Drw.call ho hf hb (hc S s hp hI hl) hd (fun v S' h => ⟨k0.trans h.2, hk v S' h.1 (k0.trans h.2)⟩) hg
theorem Drw.callU [Glob] {P : Program} {ops : Array Oper} {ms : List Nat} {S0 S U0 : St} {l : List Nat} {F : Sh} {E : Env} {k : K} {i d : Nat} {ty : TypeId} {pos : String} {after : Array Edge} {f : Operand} {args : Array Operand} {ats : Array TypeId} {g : FuncId} {m : List V} {r : V} {gg : Option (Nat × Bool)} {T e : TypeId} {id : Nat} {s : List UInt8}
 (hp : Prn T e S id s) (k0 : KeepB U0 S id) (ho : ops[i]? = some ⟨some d, .call { callee := .value f, args, argTypes := ats }, ty, pos, after, gg⟩) (hf : calleeE (Env.opd E) f args = some (g, m)) (hb : hasBody P g = true) (hc : Pu P g m r) (hd : Nat.blt d F.n = true)
 (hk : ∀ S', Prn T e S' id s → KeepB U0 S' id → Drw P ops ms S0 (Kpb U0 id) l F ((d, r) :: E) S' k) (hg : gOk ops E gg = some true := by rfl) : Drw P ops ms S0 (Kpb U0 id) (i :: l) F E S k :=
 Drw.call ho hf hb (hc S) hd (fun v S' h => by obtain ⟨rfl, h⟩ := h; exact ⟨k0.then h, hk S' (hp.same h) (k0.then h)⟩) hg
theorem Prn.eq {T e : TypeId} {S : St} {id : Nat} {a b : List UInt8} (h : Prn T e S id a) (he : a = b) : Prn T e S id b := he ▸ h
structure Sb (S S' : St) : Prop where
 next : S.next ≤ S'.next
 box : ∀ id t cs, id < S.next → S.h.find id = some (.box t cs) → S'.h.find id = some (.box t cs)
theorem Sb.refl (S : St) : Sb S S := ⟨Nat.le_refl _, fun _ _ _ _ h => h⟩
theorem Sb.trans {A B C : St} (h : Sb A B) (k : Sb B C) : Sb A C := ⟨Nat.le_trans h.next k.next, fun id t cs h1 h2 => k.box id t cs (Nat.lt_of_lt_of_le h1 h.next) (h.box id t cs h1 h2)⟩
theorem Same.sb {S S' : St} (h : Same S S') : Sb S S' := ⟨h.next, fun id t cs h1 h2 => by rw [h.find id h1]; exact h2⟩
theorem KeepB.sbOf {S V S' : St} {c : Nat} (h : KeepB V S' c) (k : Same S V) (hc : S.next ≤ c) : Sb S S' :=
 ⟨Nat.le_trans k.next h.next, fun id t cs h1 h2 => h.box id t cs (Nat.lt_of_lt_of_le h1 k.next) (by omega) (by rw [k.find id h1]; exact h2)⟩
theorem Bx.sb {U S : St} {id : Nat} {t : TypeId} {cs : List V} (h : Bx U id t cs) (k : Sb U S) : Bx S id t cs := ⟨Nat.lt_of_lt_of_le h.lt k.next, k.box _ _ _ h.lt h.box⟩
theorem ld_sA {P : Program} {U S : St} {id n : Nat} {t T : TypeId} {cs : List V} [LdAgg P T n] (h : Bx U id t cs) (k : Sb U S) (hn : cs.length = n) : loadE P T (.ptr id 0) S = some (.agg cs) := ld_agg (pt_box (h.sb k).box) hn
def Pb [Glob] (P : Program) (g : FuncId) (l : List V) (r : V) : Prop := ∀ S, CallTo P g l S (fun v S' => v = r ∧ Sb S S') (fun _ _ => False)
theorem Pu.pb [Glob] {P : Program} {g : FuncId} {l : List V} {r : V} (h : Pu P g l r) : Pb P g l r := fun S => (h S).mono (fun v S' h => ⟨h.1, h.2.sb⟩) (fun _ _ h => h)
theorem Opl.callB [Glob] {P : Program} {ops : Array Oper} {os : List Oper} {F : Sh} {E : Env} {U0 S : St} {k : K} {d : Nat} {ty : TypeId} {pos : String} {after : Array Edge} {f : Operand} {args : Array Operand} {ats : Array TypeId} {g : FuncId} {l : List V} {r : V}
 (k0 : Sb U0 S) (hf : calleeE (Env.opd E) f args = some (g, l)) (hb : hasBody P g = true) (hc : Pb P g l r) (hd : Nat.blt d F.n = true) (h1 : ∀ S', Sb U0 S' → Opl P ops os F ((d, r) :: E) S' k) :
 Opl P ops (⟨some d, .call { callee := .value f, args, argTypes := ats }, ty, pos, after, none⟩ :: os) F E S k :=
 Opl.call hf hb (hc S) hd (fun v S' h => by obtain ⟨rfl, h⟩ := h; exact h1 S' (k0.trans h)) (fun _ _ h => h.elim)
theorem Drw.callB [Glob] {P : Program} {ops : Array Oper} {ms : List Nat} {S0 S : St} {U0 : St} {l : List Nat} {F : Sh} {E : Env} {k : K} {i d : Nat} {ty : TypeId} {pos : String} {after : Array Edge} {f : Operand} {args : Array Operand} {ats : Array TypeId} {g : FuncId} {m : List V} {r : V} {gg : Option (Nat × Bool)} (k0 : Sb U0 S)
 (ho : ops[i]? = some ⟨some d, .call { callee := .value f, args, argTypes := ats }, ty, pos, after, gg⟩) (hf : calleeE (Env.opd E) f args = some (g, m)) (hb : hasBody P g = true) (hc : Pb P g m r) (hd : Nat.blt d F.n = true)
 (hk : ∀ S', Sb U0 S' → Drw P ops ms S0 (Sb U0) l F ((d, r) :: E) S' k) (hg : gOk ops E gg = some true := by rfl) : Drw P ops ms S0 (Sb U0) (i :: l) F E S k :=
 Drw.call ho hf hb (hc S) hd (fun v S' h => by obtain ⟨rfl, h⟩ := h; exact ⟨k0.trans h, hk S' (k0.trans h)⟩) hg
theorem conv_chr {P : Program} {s d : TypeId} {S : St} {k j : IntKind} {n : Int} [hd : IsStr P d] (hs : P.underlying s = some (.int k)) : convertE P s d (.int j n) S = some (.str (Utf8.encode n).data.toList, S) := by
 simp only [convertE, hs, hd.h]
theorem conv_chrW {P : Program} {s d : TypeId} {S : St} {k j : IntKind} {n : Int} {w : List UInt8} [hd : IsStr P d] (hs : P.underlying s = some (.int k)) (hw : (Utf8.encode n).data.toList = w) : convertE P s d (.int j n) S = some (.str w, S) := by
 rw [conv_chr hs, hw]
theorem enc_dig : ∀ n : Nat, n < 10 → (Utf8.encode ((48 + n : Nat) : Int)).data.toList = [UInt8.ofNat (48 + n)]
 | 0, _ => by decide +kernel
 | 1, _ => by decide +kernel
 | 2, _ => by decide +kernel
 | 3, _ => by decide +kernel
 | 4, _ => by decide +kernel
 | 5, _ => by decide +kernel
 | 6, _ => by decide +kernel
 | 7, _ => by decide +kernel
 | 8, _ => by decide +kernel
 | 9, _ => by decide +kernel
 | n + 10, h => absurd h (by omega)
theorem i_quo {n : Int} (h : -1000000000 < n ∧ n < 1000000000) : intOp .quo .i64 n 10 = some (.int .i64 (n.tdiv 10)) := by
 have hb : in64 (n.tdiv 10) := by
  have := Int.natAbs_tdiv_le_natAbs n 10
  constructor <;> omega
 simp only [intOp]
 rw [wrap_i64_id hb]; rfl
theorem i_rem {n : Int} : intOp .rem .i64 n 10 = some (.int .i64 (n.tmod 10)) := rfl
theorem i_neg {n : Int} (h : in64 (-n)) : unE .neg (.int .i64 n) = some (.int .i64 (-n)) := by
 simp only [unE, Int.zero_sub]
 rw [wrap_i64_id h]
theorem joinW_ge (by_ : List UInt8) : ∀ (l : List (List UInt8)), (∀ x ∈ l, x ≠ []) → l.length ≤ (joinW by_ l).length
 | [], _ => by simp
 | x :: l, h => by
  have hx : 0 < x.length := List.length_pos_iff.2 (h x (.head _))
  have : ∀ l : List (List UInt8), (∀ x ∈ l, x ≠ []) → l.length ≤ (l.flatMap fun y => by_ ++ y).length := by
   intro l
   induction l with
   | nil => intro _; simp
   | cons y l ih =>
    intro h
    have hy : 0 < y.length := List.length_pos_iff.2 (h y (.head _))
    have := ih fun z hz => h z (.tail _ hz)
    simp only [List.flatMap_cons, List.length_append, List.length_cons]
    omega
  have := this l fun z hz => h z (.tail _ hz)
  simp only [joinW, List.length_append, List.length_cons]
  omega
def LstV (e : TypeId) (U S : St) (v : V) (ws : List (List UInt8)) : Prop :=
 (ws = [] ∧ v = .nils) ∨ ∃ k, v = .list (some e) 1 (ws.map V.str) (.own k) ∧ U.next ≤ k ∧ k < S.next ∧ S.h.find k = some .tok
theorem LstV.same {e : TypeId} {U S S' : St} {v : V} {ws : List (List UInt8)} (h : LstV e U S v ws) (k : Same S S') : LstV e U S' v ws := by
 rcases h with h | ⟨j, h1, h2, h3, h4⟩
 ·exact .inl h
 ·exact .inr ⟨j, h1, h2, Nat.lt_of_lt_of_le h3 k.next, by rw [k.find _ h3]; exact h4⟩
theorem LstV.strs {e : TypeId} {U S : St} {v : V} {ws : List (List UInt8)} (h : LstV e U S v ws) (hn : ws.length ≤ huge) (hl : ∀ w ∈ ws, w.length ≤ huge) : StrsV ws v := by
 rcases h with ⟨rfl, rfl⟩ | ⟨k, rfl, _, _, _⟩
 ·exact ⟨.inl rfl, Nat.zero_le _, All2.nil _⟩
 ·exact ⟨.inr (.inr ⟨_, _, _, rfl⟩), by simpa [elems] using hn, strs_map hl⟩
theorem app_lst {P : Program} {t u e : TypeId} {bytes : Nat} [ha : App P t u e 1 false bytes] {U S : St} {v : V} {ws : List (List UInt8)} (h : LstV e U S v ws) (k0 : Same U S) (w : List UInt8) {lt : Option TypeId} {tk : Tk} (hr : roomOk (ws.length + 1) bytes = true) :
 ∃ v' S', appendE P t u v (.list lt 1 [.str w] tk) S = some (v', S') ∧ LstV e U S' v' (ws ++ [w]) ∧ Same U S' := by
 have hy : readS S false 1 (.list lt 1 [.str w] tk) = some [.str w] := rfl
 have hys : ∀ z ∈ [V.str w], z.cells.length = 1 ∧ z.cells.all V.one = true := by
  intro z hz
  simp only [List.mem_singleton] at hz
  subst hz; exact ⟨rfl, rfl⟩
 rcases h with ⟨rfl, rfl⟩ | ⟨k, rfl, hk, hlt, hf⟩
 ·refine ⟨_, _, app_nil (ag := false) (bytes := bytes) hy hys rfl (by simpa using hr), .inr ⟨S.next, rfl, k0.next, by simp [St.new], by simp [St.new, Tr.find_put]⟩, k0.trans (Same.new _ _)⟩
 ·refine ⟨_, _, app_own (ag := false) (bytes := bytes) hf hy hys rfl (by simpa using hr), .inr ⟨S.next, by simp, k0.next, by simp [St.new], by simp [St.new, Tr.find_put]⟩, k0.roll hk⟩
end Go.Ev
