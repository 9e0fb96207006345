import Derived.Test.YtodiioeddlmjhaaGreatDoorE8
import Derived.ChangeArms
import Derived.ReadAgain
set_option linter.unusedVariables false
set_option linter.unusedSimpArgs false
namespace Go.Ev
open Go.RowKit
def vb (n : Nat) : List UInt8 := if n < 128 then [UInt8.ofNat n] else UInt8.ofNat (n % 128 + 128) :: vb (n / 128)
termination_by n
decreasing_by omega
theorem vb_lt {n : Nat} (h : n < 128) : vb n = [UInt8.ofNat n] := by rw [vb, if_pos h]
theorem vb_ge {n : Nat} (h : ¬ n < 128) : vb n = UInt8.ofNat (n % 128 + 128) :: vb (n / 128) := by rw [vb, if_neg h]
theorem vb_pos (n : Nat) : 1 ≤ (vb n).length := by
  by_cases h : n < 128
  · rw [vb_lt h]; simp
  · rw [vb_ge h]; simp
theorem vb_le : ∀ (k n : Nat), n < 128 ^ (k + 1) → (vb n).length ≤ k + 1
  | 0, n, h => by rw [vb_lt (by simpa using h)]; simp
  | k + 1, n, h => by
    by_cases h1 : n < 128
    · rw [vb_lt h1]; simp
    · rw [vb_ge h1]
      have := vb_le k (n / 128) (by rw [Nat.div_lt_iff_lt_mul (by omega)]; rw [Nat.pow_succ] at h; exact h)
      simpa using this
theorem vb_ten {n : Nat} (h : n < 18446744073709551616) : (vb n).length ≤ 10 := vb_le 9 n (by omega)
def zig (n : Int) : Nat := if 0 ≤ n then 2 * n.toNat else 2 * (-(n + 1)).toNat + 1
theorem zig_lt {n : Int} (h : -9223372036854775808 ≤ n) (h2 : n < 9223372036854775808) : zig n < 18446744073709551616 := by
  unfold zig; split <;> omega
def encI (n : Int) : List UInt8 := vb (zig n)
def encS (s : List UInt8) : List UInt8 := encI s.length ++ s
def encB (b : Bool) : List UInt8 := encI (if b then 1 else 0)
def in64 (n : Int) : Prop := -9223372036854775808 ≤ n ∧ n < 9223372036854775808
theorem wrap_u8 (n : Int) : IntKind.wrap .u8 n = n % 256 := by simp [IntKind.wrap, IntKind.bits, IntKind.signed]
theorem wrap_u64 (n : Int) : IntKind.wrap .u64 n = n % 18446744073709551616 := by simp [IntKind.wrap, IntKind.bits, IntKind.signed]
theorem wrap_i64 (n : Int) : IntKind.wrap .i64 n = if n % 18446744073709551616 ≥ 9223372036854775808 then n % 18446744073709551616 - 18446744073709551616 else n % 18446744073709551616 := by
  simp [IntKind.wrap, IntKind.bits, IntKind.signed]
theorem wrap_i64_id {n : Int} (h : in64 n) : IntKind.wrap .i64 n = n := by
  obtain ⟨h1, h2⟩ := h
  rw [wrap_i64]; split <;> omega
theorem u8_nat (n : Nat) (h : n < 256) : ((UInt8.ofNat n).toNat : Int) = n := by
  rw [UInt8.toNat_ofNat_of_lt' h]
theorem bitE_or8 (x y : Int) : bitE .or .u8 x y = IntKind.wrap .u8 ((BitVec.ofInt 8 x ||| BitVec.ofInt 8 y).toNat : Nat) := rfl
theorem bitE_xor64 (x y : Int) : bitE .xor .u64 x y = IntKind.wrap .u64 ((BitVec.ofInt 64 x ^^^ BitVec.ofInt 64 y).toNat : Nat) := rfl
theorem bitE_and64 (x y : Int) : bitE .and .u64 x y = IntKind.wrap .u64 ((BitVec.ofInt 64 x &&& BitVec.ofInt 64 y).toNat : Nat) := rfl
theorem bitE_xori (x y : Int) : bitE .xor .i64 x y = IntKind.wrap .i64 ((BitVec.ofInt 64 x ^^^ BitVec.ofInt 64 y).toNat : Nat) := rfl
theorem byte_or (n : Nat) : bitE .or .u8 (IntKind.wrap .u8 n) 128 = ((UInt8.ofNat (n % 128 + 128)).toNat : Int) := by
  rw [u8_nat _ (by omega), wrap_u8, bitE_or8]
  have e1 : BitVec.ofInt 8 ((n : Int) % 256) = BitVec.ofNat 8 n := by
    apply BitVec.eq_of_toNat_eq
    simp [BitVec.toNat_ofInt]
    omega
  have e2 : (BitVec.ofNat 8 n ||| BitVec.ofInt 8 128).toNat = n % 128 + 128 := by
    have : ∀ m : BitVec 8, (m ||| 128#8).toNat = m.toNat % 128 + 128 := by decide +kernel
    have h := this (BitVec.ofNat 8 n)
    have h3 : (BitVec.ofInt 8 128) = 128#8 := by decide
    rw [h3, h]
    simp only [BitVec.toNat_ofNat]
    omega
  rw [e1, wrap_u8, e2]
  omega
theorem byte_small (n : Nat) (h : n < 128) : IntKind.wrap .u8 n = ((UInt8.ofNat n).toNat : Int) := by
  rw [u8_nat _ (by omega), wrap_u8]; omega
theorem shr7 (n : Nat) : shiftE .shr .u64 (n : Int) 7 = some (.int .u64 ((n / 128 : Nat) : Int)) := by
  simp only [shiftE]
  rw [if_neg (by decide)]
  simp only [IntKind.bits]
  have : ((n : Int).fdiv (2 ^ (min (7 : Int).toNat 64))) = ((n / 128 : Nat) : Int) := by
    rw [Int.fdiv_eq_ediv_of_nonneg _ (by decide)]
    simp
  rw [this]
theorem shl1 (n : Int) : shiftE .shl .u64 (IntKind.wrap .u64 n) 1 = some (.int .u64 ((2 * n) % 18446744073709551616)) := by
  simp only [shiftE]
  rw [if_neg (by decide), wrap_u64, wrap_u64]
  simp only [IntKind.bits]
  have : (n % 18446744073709551616 * 2 ^ (min (1 : Int).toNat 64)) % 18446744073709551616 = (2 * n) % 18446744073709551616 := by
    have : (2 : Int) ^ (min (1 : Int).toNat 64) = 2 := by decide
    rw [this]; omega
  rw [this]
theorem zig_pos {n : Int} (h : in64 n) (h0 : 0 ≤ n) : (2 * n) % 18446744073709551616 = (zig n : Int) := by
  obtain ⟨h1, h2⟩ := h
  unfold zig; rw [if_pos h0]; omega
theorem not64 (x : Nat) (h : x < 18446744073709551616) : bitE .xor .u64 18446744073709551615 (x : Int) = ((18446744073709551615 - x : Nat) : Int) := by
  rw [bitE_xor64]
  have e1 : BitVec.ofInt 64 18446744073709551615 = BitVec.allOnes 64 := by decide
  have e2 : BitVec.ofInt 64 (x : Int) = BitVec.ofNat 64 x := by
    apply BitVec.eq_of_toNat_eq
    simp [BitVec.toNat_ofInt]
  rw [e1, e2, BitVec.allOnes_xor, wrap_u64, BitVec.toNat_not, BitVec.toNat_ofNat]
  omega
theorem zig_neg {n : Int} (h : in64 n) (h0 : ¬ 0 ≤ n) : bitE .xor .u64 18446744073709551615 ((2 * n) % 18446744073709551616) = (zig n : Int) := by
  obtain ⟨h1, h2⟩ := h
  have : (2 * n) % 18446744073709551616 = ((18446744073709551616 + 2 * n).toNat : Nat) := by omega
  rw [this, not64 _ (by omega)]
  unfold zig; rw [if_neg h0]; omega
theorem shr1 (n : Nat) : shiftE .shr .u64 (n : Int) 1 = some (.int .u64 ((n / 2 : Nat) : Int)) := by
  simp only [shiftE]
  rw [if_neg (by decide)]
  simp only [IntKind.bits]
  have : ((n : Int).fdiv (2 ^ (min (1 : Int).toNat 64))) = ((n / 2 : Nat) : Int) := by
    rw [Int.fdiv_eq_ediv_of_nonneg _ (by decide)]
    simp
  rw [this]
theorem and1 (n : Nat) (h : n < 18446744073709551616) : bitE .and .u64 (n : Int) 1 = ((n % 2 : Nat) : Int) := by
  rw [bitE_and64]
  have e2 : BitVec.ofInt 64 (n : Int) = BitVec.ofNat 64 n := by
    apply BitVec.eq_of_toNat_eq
    simp [BitVec.toNat_ofInt]
  have e1 : BitVec.ofInt 64 1 = 1#64 := by decide
  rw [e1, e2, wrap_u64, BitVec.toNat_and]
  simp only [BitVec.toNat_ofNat]
  have : n % 2 ^ 64 &&& 1 % 2 ^ 64 = n % 2 := by
    rw [show (1 % 2 ^ 64 : Nat) = 1 by decide, Nat.and_one_is_mod]; omega
  rw [this]; omega
theorem not_i64 (n : Int) (h : 0 ≤ n ∧ n < 9223372036854775808) : bitE .xor .i64 (-1) n = -(n + 1) := by
  rw [bitE_xori]
  have e1 : BitVec.ofInt 64 (-1) = BitVec.allOnes 64 := by decide
  have e2 : (BitVec.ofInt 64 n).toNat = n.toNat := by
    simp [BitVec.toNat_ofInt]; omega
  rw [e1, BitVec.allOnes_xor, wrap_i64, BitVec.toNat_not, e2]
  split <;> omega
end Go.Ev
namespace Go.Ev
open Go.RowKit
inductive Fd where
  | int | str | bool
  | list (t : Nat)
  | sub (t : Nat)
def sch : Nat → List Fd
  | 0 => [.int]
  | 1 => [.str]
  | 2 => [.int, .int, .str, .list 2, .list 3]
  | 3 => [.int, .str, .int, .list 2, .list 4]
  | 4 => [.int, .int, .list 2, .list 2]
  | 5 => [.int, .int, .str, .list 5, .list 6, .int]
  | 6 => [.str, .int]
  | 7 => [.str, .list 1, .list 8]
  | 8 => [.str, .list 5]
  | 9 => [.str, .list 10]
  | 10 => [.str, .sub 5, .sub 5, .bool]
  | 11 => [.int, .int, .str, .str, .list 1, .list 11, .list 12]
  | 12 => [.str, .list 1, .sub 11]
  | 13 => [.str, .sub 11]
  | 14 => [.list 7, .list 9, .list 13, .sub 11]
  | 15 => [.list 7, .list 9, .list 16]
  | 16 => [.int, .int, .int, .bool, .list 17]
  | 17 => [.int, .int, .int, .str]
  | 18 => [.str, .int, .int]
  | 19 => [.int, .str, .list 18, .int, .int, .int]
  | 20 => [.list 3, .list 0, .int, .sub 19, .bool]
  | _ => []
def szs : Nat → Nat
  | 0 => 1 | 1 => 1 | 2 => 5 | 3 => 5 | 4 => 4 | 5 => 6 | 6 => 2 | 7 => 3 | 8 => 2 | 9 => 2 | 10 => 14 | 11 => 7 | 12 => 9 | 13 => 8 | 14 => 10 | 15 => 3 | 16 => 5 | 17 => 4 | 18 => 3 | 19 => 6 | 20 => 10 | _ => 0
def isLn (n : Nat) (v : V) : Prop := v = .nils ∨ v = .mt ∨ ∃ lt es tk, v = .list lt n es tk
theorem isLn.isL {n : Nat} {v : V} (h : isLn n v) : isL v = true := by
  rcases h with rfl | rfl | ⟨lt, es, tk, rfl⟩ <;> rfl
theorem isLn.el {n : Nat} {v e : V} {i : Nat} (h : isLn n v) (he : (elems v)[i]? = some e) : ∃ lt tk, v = .list lt n (elems v) tk := by
  rcases h with rfl | rfl | ⟨lt, es, tk, rfl⟩
  · simp [elems] at he
  · simp [elems] at he
  · exact ⟨lt, tk, rfl⟩
mutual
inductive EncF : Nat → List Fd → List V → List UInt8 → Prop
  | nil (d : Nat) : EncF d [] [] []
  | int {d : Nat} {n : Int} {fs : List Fd} {cs : List V} {bs : List UInt8} (hn : in64 n) (h : EncF d fs cs bs) : EncF d (.int :: fs) (.int .i64 n :: cs) (encI n ++ bs)
  | str {d : Nat} {s : List UInt8} {fs : List Fd} {cs : List V} {bs : List UInt8} (hs : s.length < 4611686018427387904) (h : EncF d fs cs bs) : EncF d (.str :: fs) (.str s :: cs) (encS s ++ bs)
  | bool {d : Nat} {b : Bool} {fs : List Fd} {cs : List V} {bs : List UInt8} (h : EncF d fs cs bs) : EncF d (.bool :: fs) (.bool b :: cs) (encB b ++ bs)
  | list {d t : Nat} {v : V} {bl : List UInt8} {fs : List Fd} {cs : List V} {bs : List UInt8} (hv : isLn (szs t) v) (hl : (elems v).length < 4611686018427387904) (he : EncL d t (elems v) bl) (h : EncF (d + 1) fs cs bs) :
      EncF (d + 1) (.list t :: fs) (v :: cs) (encI ((elems v).length : Nat) ++ bl ++ bs)
  | sub {d t : Nat} {c1 cs : List V} {b1 bs : List UInt8} {fs : List Fd} (h1 : EncF d (sch t) c1 b1) (hc : c1.length = szs t) (h : EncF (d + 1) fs cs bs) : EncF (d + 1) (.sub t :: fs) (c1 ++ cs) (b1 ++ bs)
inductive EncL : Nat → Nat → List V → List UInt8 → Prop
  | nil (d t : Nat) : EncL d t [] []
  | cons {d t : Nat} {e : V} {b1 bs : List UInt8} {es : List V} (h1 : EncF d (sch t) e.cells b1) (h2 : EncL d t es bs) : EncL d t (e :: es) (b1 ++ bs)
end
theorem EncF.invN {d : Nat} {cs : List V} {bs : List UInt8} (h : EncF d [] cs bs) : cs = [] ∧ bs = [] := by cases h; exact ⟨rfl, rfl⟩
theorem EncF.invI {d : Nat} {fs : List Fd} {cs : List V} {bs : List UInt8} (h : EncF d (.int :: fs) cs bs) : ∃ n cs' bs', in64 n ∧ cs = .int .i64 n :: cs' ∧ bs = encI n ++ bs' ∧ EncF d fs cs' bs' := by
  cases h with | int hn h => exact ⟨_, _, _, hn, rfl, rfl, h⟩
theorem EncF.invS {d : Nat} {fs : List Fd} {cs : List V} {bs : List UInt8} (h : EncF d (.str :: fs) cs bs) : ∃ s cs' bs', s.length < 4611686018427387904 ∧ cs = .str s :: cs' ∧ bs = encS s ++ bs' ∧ EncF d fs cs' bs' := by
  cases h with | str hn h => exact ⟨_, _, _, hn, rfl, rfl, h⟩
theorem EncF.invB {d : Nat} {fs : List Fd} {cs : List V} {bs : List UInt8} (h : EncF d (.bool :: fs) cs bs) : ∃ b cs' bs', cs = .bool b :: cs' ∧ bs = encB b ++ bs' ∧ EncF d fs cs' bs' := by
  cases h with | bool h => exact ⟨_, _, _, rfl, rfl, h⟩
theorem EncF.invL {d t : Nat} {fs : List Fd} {cs : List V} {bs : List UInt8} (h : EncF d (.list t :: fs) cs bs) : ∃ d' v bl cs' bs', d' < d ∧ isLn (szs t) v ∧ (elems v).length < 4611686018427387904 ∧ EncL d' t (elems v) bl ∧ cs = v :: cs' ∧ bs = encI ((elems v).length : Nat) ++ bl ++ bs' ∧ EncF d fs cs' bs' := by
  cases h with | list hv hl he h => exact ⟨_, _, _, _, _, Nat.lt_succ_self _, hv, hl, he, rfl, rfl, h⟩
theorem EncF.invT {d t : Nat} {fs : List Fd} {cs : List V} {bs : List UInt8} (h : EncF d (.sub t :: fs) cs bs) : ∃ d' c1 b1 cs' bs', d' < d ∧ EncF d' (sch t) c1 b1 ∧ c1.length = szs t ∧ cs = c1 ++ cs' ∧ bs = b1 ++ bs' ∧ EncF d fs cs' bs' := by
  cases h with | sub h1 hc h => exact ⟨_, _, _, _, _, Nat.lt_succ_self _, h1, hc, rfl, rfl, h⟩
section
variable {P : Program} {ev : Operand → Option V} {S S' : St} {x y z : Operand} {t : TypeId} {u v w r : V} {n i j k : Nat}
theorem op_bs2 (h : ev x = some v) (h2 : ev y = some w) (hb : buildSliceE P t n [(i, v), (j, w)] = some r) : opE P (.buildSlice t n #[(i, x), (j, y)]) ev S = some (r, S) := by
  simp [opE, mapO, h, h2, hb]
theorem op_bs3 (h : ev x = some v) (h2 : ev y = some w) (h3 : ev z = some u) (hb : buildSliceE P t n [(i, v), (j, w), (k, u)] = some r) : opE P (.buildSlice t n #[(i, x), (j, y), (k, z)]) ev S = some (r, S) := by
  simp [opE, mapO, h, h2, h3, hb]
end
end Go.Ev
namespace Go.Ev
open Go.RowKit
section
variable {P : Program}
def Tg (I : St → Prop) : List En → Prop
  | [] => True
  | .mild _ _ _ _ ob :: T => ob = none ∧ Tg I T
  | .act _ _ _ _ S :: T => I S ∧ Tg I T
structure Drw [Glob] (P : Program) (ops : Array Oper) (ms : List Nat) (S0 : St) (I : St → Prop) (l : List Nat) (F : Sh) (E : Env) (S : St) (k : K) : Prop where
  h : ∀ fr T, Has F E fr → Tg I T → ∃ x fr' S', drawE (lim P) P ops ms S0 l T fr S = some (.code x fr' S') ∧ k x fr' S'
variable {ops : Array Oper} {ms : List Nat} {S0 S S' : St} {I : St → Prop} {l : List Nat} {F : Sh} {E : Env} {k : K} {i d : Nat} {op : Op} {ty : TypeId} {pos : String} {after : Array Edge} {v : V}
def gOk (ops : Array Oper) (E : Env) : Option (Nat × Bool) → Option Bool
  | none => some true
  | some (j, w) => gd ops E j w
theorem gOk_want {fr : Fr} (hf : Has F E fr) {g : Option (Nat × Bool)} {q : Bool} (h : gOk ops E g = some q) : wantE ops ⟨some d, op, ty, pos, after, g⟩ fr = some q := by
  cases g with
  | none => cases h; rfl
  | some jw =>
    obtain ⟨j, w⟩ := jw
    exact gd_want hf h
theorem Drw.nil [Glob] (h : At .normal k F E S) : Drw P ops ms S0 I [] F E S k := .mk fun fr _ hf _ => ⟨.normal, fr, S, rfl, h.h fr hf⟩
theorem Drw.c0 [Glob] {g : Option (Nat × Bool)} (ho : ops[i]? = some ⟨some d, op, ty, pos, after, g⟩) (hc : clsE op = 0) (h : opE P op (Env.opd E) S = some (v, S')) (hd : Nat.blt d F.n = true) (hk : Drw P ops ms S0 I l F ((d, v) :: E) S k) (hg : gOk ops E g = some true := by rfl) : Drw P ops ms S0 I (i :: l) F E S k := .mk fun fr T hf hT => by
  obtain ⟨fr', h1, h2⟩ := hf.put v hd
  have hS := cls0_state (.inl hc) h
  subst hS
  have h3 := opE_mono (fun x v => hf.opd) h
  have hw := gOk_want (d := d) (op := op) (ty := ty) (pos := pos) (after := after) hf hg
  have h4 : opE P op (viewE fr (looks ops ⟨some d, op, ty, pos, after, g⟩)) S' = some (v, S') := (opE_congr (fun x hx => viewE_opd (o := ⟨some d, op, ty, pos, after, g⟩) hx) S').trans h3
  have hb : Nat.beq (clsE op) 3 = false := by rw [hc]; rfl
  obtain ⟨x, fr2, S2, h5, h6⟩ := hk.h fr' (.mild i ⟨some d, op, ty, pos, after, g⟩ v S'.next none :: T) h2 ⟨rfl, hT⟩
  refine ⟨x, fr2, S2, ?_, h6⟩
  simp only [drawE, ho, hb, Bool.false_and, Bool.false_eq_true, if_false, mildE, hw, h4, hc, h1]
  exact h5
theorem Drw.gn [Glob] {g : Option (Nat × Bool)} (ho : ops[i]? = some ⟨some d, op, ty, pos, after, g⟩) (hd : Nat.blt d F.n = true) (hk : Drw P ops ms S0 I l F ((d, .tup []) :: E) S k) (hg : gOk ops E g = some false := by rfl) : Drw P ops ms S0 I (i :: l) F E S k := .mk fun fr T hf hT => by
  obtain ⟨fr', h1, h2⟩ := hf.put (.tup []) hd
  have hw := gOk_want (d := d) (op := op) (ty := ty) (pos := pos) (after := after) hf hg
  obtain ⟨x, fr2, S2, h5, h6⟩ := hk.h fr' (.mild i ⟨some d, op, ty, pos, after, g⟩ (.tup []) S.next none :: T) h2 ⟨rfl, hT⟩
  refine ⟨x, fr2, S2, ?_, h6⟩
  simp only [drawE, ho, hw, isT, Bool.and_false, Bool.false_eq_true, if_false, mildE, h1]
  exact h5
theorem sameE_all {op : Op} {ev : Operand → Option V} (h0 : opE P op ev S0 = some (v, S0)) (h : ∀ U, I U → opE P op ev U = some (v, U)) : ∀ (T : List En), Tg I T → sameE P ms i op ev v S0 T [] = true
  | [], _ => by simp only [sameE, sameAt, withs]; rw [h0]; exact V.beq_refl v
  | .mild j o u n ob :: T, hT => by
    obtain ⟨rfl, hT⟩ := hT
    simp only [sameE]
    exact sameE_all h0 h T hT
  | .act j o u n S1 :: T, hT => by
    simp only [sameE, sameAt, withs]
    rw [h S1 hT.1, sameE_all h0 h T hT.2]
    simp [V.beq_refl]
theorem Drw.c2 [Glob] (ho : ops[i]? = some ⟨some d, op, ty, pos, after, none⟩) (hc : clsE op = 2) (h0 : I S0) (hS : I S) (h : ∀ U, I U → opE P op (Env.opd E) U = some (v, U)) (hd : Nat.blt d F.n = true) (hk : Drw P ops ms S0 I l F ((d, v) :: E) S k) : Drw P ops ms S0 I (i :: l) F E S k := .mk fun fr T hf hT => by
  obtain ⟨fr', h1, h2⟩ := hf.put v hd
  have h4 : ∀ U, I U → opE P op (viewE fr (looks ops ⟨some d, op, ty, pos, after, none⟩)) U = some (v, U) := fun U hU =>
    (opE_congr (fun x hx => viewE_opd (o := ⟨some d, op, ty, pos, after, none⟩) hx) U).trans (opE_mono (fun x v => hf.opd) (h U hU))
  have hb : Nat.beq (clsE op) 3 = false := by rw [hc]; rfl
  obtain ⟨x, fr2, S2, h5, h6⟩ := hk.h fr' (.mild i ⟨some d, op, ty, pos, after, none⟩ v S.next none :: T) h2 ⟨rfl, hT⟩
  refine ⟨x, fr2, S2, ?_, h6⟩
  simp only [drawE, ho, hb, Bool.false_and, Bool.false_eq_true, if_false, mildE, wantE, h4 S hS, hc, sameE_all (h4 S0 h0) h4 T hT, if_true, h1]
  exact h5
theorem Drw.call [Glob] {f : Operand} {args : Array Operand} {ats : Array TypeId} {g : FuncId} {m : List V} {Q : V → St → Prop} {gg : Option (Nat × Bool)} (ho : ops[i]? = some ⟨some d, .call { callee := .value f, args, argTypes := ats }, ty, pos, after, gg⟩)
    (hf : calleeE (Env.opd E) f args = some (g, m)) (hb : hasBody P g = true) (hc : CallTo P g m S Q (fun _ _ => False)) (hd : Nat.blt d F.n = true) (hk : ∀ v S', Q v S' → I S' ∧ Drw P ops ms S0 I l F ((d, v) :: E) S' k) (hg : gOk ops E gg = some true := by rfl) :
    Drw P ops ms S0 I (i :: l) F E S k := .mk fun fr T hfr hT => by
  rcases hc with ⟨v, S', h3, h4⟩ | ⟨v, S', h3, h4⟩
  · obtain ⟨hI, hk⟩ := hk v S' h4
    obtain ⟨fr', h5, h6⟩ := hfr.put v hd
    have hw := gOk_want (d := d) (op := .call { callee := .value f, args, argTypes := ats }) (ty := ty) (pos := pos) (after := after) hfr hg
    have hcal := calleeE_mono (fun x v => hfr.opd) hf
    have hact : actE (lim P) P (.call { callee := .value f, args, argTypes := ats }) (viewE fr (looks ops ⟨some d, .call { callee := .value f, args, argTypes := ats }, ty, pos, after, gg⟩)) fr.pan S = some (.val v S') :=
      (actE_congr (fun x hx => viewE_opd (o := ⟨some d, .call { callee := .value f, args, argTypes := ats }, ty, pos, after, gg⟩) hx) _ _).trans (act_ret hb hcal h3)
    obtain ⟨x, fr2, S2, h7, h8⟩ := hk.h fr' (.act i ⟨some d, .call { callee := .value f, args, argTypes := ats }, ty, pos, after, gg⟩ v S.next S' :: T) h6 ⟨hI, hT⟩
    refine ⟨x, fr2, S2, ?_, h8⟩
    have hcls : Nat.beq (clsE (.call { callee := .value f, args, argTypes := ats })) 3 = true := rfl
    simp only [drawE, ho, hcls, hw, isT, Bool.and_self, if_true, hact, h5]
    exact h7
  · exact h4.elim
theorem Drw.c3 [Glob] {g : Option (Nat × Bool)} (ho : ops[i]? = some ⟨some d, op, ty, pos, after, g⟩) (hc : clsE op = 3) (h : opE P op (Env.opd E) S = some (v, S')) (hI : I S') (hd : Nat.blt d F.n = true) (hk : Drw P ops ms S0 I l F ((d, v) :: E) S' k) (hg : gOk ops E g = some true := by rfl) : Drw P ops ms S0 I (i :: l) F E S k := .mk fun fr T hf hT => by
  obtain ⟨fr', h1, h2⟩ := hf.put v hd
  have hw := gOk_want (d := d) (op := op) (ty := ty) (pos := pos) (after := after) hf hg
  have hact : actE (lim P) P op (viewE fr (looks ops ⟨some d, op, ty, pos, after, g⟩)) fr.pan S = some (.val v S') :=
    (actE_congr (fun x hx => viewE_opd (o := ⟨some d, op, ty, pos, after, g⟩) hx) _ _).trans (opE_act (opE_mono (fun x v => hf.opd) h) (lim P) fr.pan)
  have hb : Nat.beq (clsE op) 3 = true := by rw [hc]; rfl
  obtain ⟨x, fr2, S2, h5, h6⟩ := hk.h fr' (.act i ⟨some d, op, ty, pos, after, g⟩ v S.next S' :: T) h2 ⟨hI, hT⟩
  refine ⟨x, fr2, S2, ?_, h6⟩
  simp only [drawE, ho, hb, hw, isT, Bool.and_self, if_true, hact, h1]
  exact h5
theorem Drw.last [Glob] (ho : ops[i]? = some ⟨none, op, ty, pos, after, none⟩) (hc : clsE op = 3) (h : opE P op (Env.opd E) S = some (v, S')) (hk : At .normal k F E S') : Drw P ops ms S0 I [i] F E S k := .mk fun fr T hf hT => by
  have hact : actE (lim P) P op (viewE fr (looks ops ⟨none, op, ty, pos, after, none⟩)) fr.pan S = some (.val v S') :=
    (actE_congr (fun x hx => viewE_opd (o := ⟨none, op, ty, pos, after, none⟩) hx) _ _).trans (opE_act (opE_mono (fun x v => hf.opd) h) (lim P) fr.pan)
  have hb : Nat.beq (clsE op) 3 = true := by rw [hc]; rfl
  refine ⟨.normal, fr, S', ?_, hk.h fr hf⟩
  simp only [drawE, ho, hb, wantE, isT, Bool.and_self, if_true, hact, Fr.put]
theorem Go.draw [Glob] {id : Nat} (ms : List Nat) (ord : List Nat) (hp : planOf ops = ⟨ms, ord, true⟩) (I : St → Prop) (h : Drw P ops ms S I ord F E S k) : Go P F E S (.region id ops true) k := .mk fun fr hf => by
  obtain ⟨x, fr', S', h1, h2⟩ := h.h fr [] hf trivial
  refine .of_step ?_ h2
  simp only [stepT, regionE, hp, if_true]
  exact h1
def DcallTo [Glob] (P : Program) (g : FuncId) (l : List V) (p : Pan) (S : St) (Q : Pan → St → Prop) : Prop := ∃ p' S', lim P (.dcall g l p) S = some (.dret p' S') ∧ Q p' S'
def Kd (P : Program) (fn : Func) (Q : Pan → St → Prop) : K := fun x fr S => match x with
  | .normal => fr.ds = [] ∧ (resultsE P fn fr S).isSome = true ∧ Q fr.pan S
  | .ret => fr.ds = [] ∧ (resultsE P fn fr S).isSome = true ∧ Q fr.pan S
  | _ => False
theorem DcallTo.of [Glob] {g : FuncId} {l : List V} {p : Pan} {fn : Func} {c : Code} {Q : Pan → St → Prop} {n : Nat} (hf : P.funcs[g]? = some fn) (hb : fn.body = some c) (hn : max l.length fn.ntmps = n) (h : Go P ⟨n, [], p⟩ (envOf 0 l) S c (Kd P fn Q)) : DcallTo P g l p S Q := by
  obtain ⟨x, fr, S', h1, h2⟩ := h.h _ (start_has fn l p hn)
  cases x with
  | normal =>
    obtain ⟨h3, h4, h5⟩ := h2
    refine ⟨fr.pan, S', lim_of_step ?_, h5⟩
    cases hr : resultsE P fn fr S' with
    | none => rw [hr] at h4; cases h4
    | some v => simp only [stepT, hf, hb, h1, h3, hr]
  | ret =>
    obtain ⟨h3, h4, h5⟩ := h2
    refine ⟨fr.pan, S', lim_of_step ?_, h5⟩
    cases hr : resultsE P fn fr S' with
    | none => rw [hr] at h4; cases h4
    | some v => simp only [stepT, hf, hb, h1, h3, hr]
  | panic v => exact h2.elim
  | goto m => exact h2.elim
  | exit m => exact h2.elim
theorem At.dn {fn : Func} {Q : Pan → St → Prop} {rs : List ResultVar} {vs : List V} (hrs : fn.results.toList = rs) (hd : F.ds = []) (h : resV P E S rs = some vs) (hq : Q F.pan S) : At .normal (Kd P fn Q) F E S := .mk fun fr hf =>
  ⟨by rw [hf.ds, hd], by rw [res_of hf hrs h]; rfl, by rw [hf.pan]; exact hq⟩
def Kl [Glob] (P : Program) (fn : Func) (Qr Qp : V → St → Prop) : K := fun x fr S =>
  ∃ p, (match x with
    | .normal => p = none
    | .ret => p = none
    | .panic v => p = some v
    | .exit _ => False
    | .goto _ => False) ∧
    ((∃ v S', leaveE (lim P) P fn fr fr.ds p S = some (.ret v S') ∧ Qr v S') ∨ (∃ v S', leaveE (lim P) P fn fr fr.ds p S = some (.pan v S') ∧ Qp v S'))
theorem CallTo.ofD [Glob] {g : FuncId} {l : List V} {fn : Func} {c : Code} {Qr Qp : V → St → Prop} {n : Nat} (hf : P.funcs[g]? = some fn) (hb : fn.body = some c) (hn : max l.length fn.ntmps = n) (h : Go P ⟨n, [], .norm⟩ (envOf 0 l) S c (Kl P fn Qr Qp)) (hl : orc P (.call g l) S = none := by rfl) : CallTo P g l S Qr Qp := by
  obtain ⟨x, fr, S1, h1, p, hp, h2⟩ := h.h _ (start_has fn l .norm hn)
  cases x with
  | normal =>
    subst hp
    rcases h2 with ⟨v, S', h3, h4⟩ | ⟨v, S', h3, h4⟩
    · exact .inl ⟨v, S', lim_of_step (by simp only [stepT, hf, hb, h1]; exact h3) hl, h4⟩
    · exact .inr ⟨v, S', lim_of_step (by simp only [stepT, hf, hb, h1]; exact h3) hl, h4⟩
  | ret =>
    subst hp
    rcases h2 with ⟨v, S', h3, h4⟩ | ⟨v, S', h3, h4⟩
    · exact .inl ⟨v, S', lim_of_step (by simp only [stepT, hf, hb, h1]; exact h3) hl, h4⟩
    · exact .inr ⟨v, S', lim_of_step (by simp only [stepT, hf, hb, h1]; exact h3) hl, h4⟩
  | panic v0 =>
    subst hp
    rcases h2 with ⟨v, S', h3, h4⟩ | ⟨v, S', h3, h4⟩
    · exact .inl ⟨v, S', lim_of_step (by simp only [stepT, hf, hb, h1]; exact h3) hl, h4⟩
    · exact .inr ⟨v, S', lim_of_step (by simp only [stepT, hf, hb, h1]; exact h3) hl, h4⟩
  | exit m => exact hp.elim
  | goto m => exact hp.elim
theorem At.lret [Glob] {fn : Func} {Qr Qp : V → St → Prop} {g : FuncId} {m : List V} {rs : List ResultVar} {Q : Pan → St → Prop} (hrs : fn.results.toList = rs) (hds : F.ds = [(g, m)]) (hc : DcallTo P g m .quiet S Q)
    (hq : ∀ p S', Q p S' → p = .quiet ∧ ∃ vs, resV P E S' rs = some vs ∧ Qr (packV vs) S') (hmk : markOf m = none := by rfl) : At .ret (Kl P fn Qr Qp) F E S := .mk fun fr hf => by
  obtain ⟨p', S', h1, h2⟩ := hc
  obtain ⟨rfl, vs, h3, h4⟩ := hq p' S' h2
  refine ⟨none, rfl, .inl ⟨packV vs, S', ?_, h4⟩⟩
  rw [hf.ds, hds]
  simp only [leaveE, hmk, h1, res_of hf hrs h3, Option.map]
theorem At.lpan [Glob] {fn : Func} {Qr Qp : V → St → Prop} {g : FuncId} {m : List V} {rs : List ResultVar} {Q : Pan → St → Prop} {u : V} (hrs : fn.results.toList = rs) (hds : F.ds = [(g, m)]) (hc : DcallTo P g m (.live u) S Q)
    (hq : ∀ p S', Q p S' → (∃ w, p = .done w) ∧ ∃ vs, resV P E S' rs = some vs ∧ Qr (packV vs) S') (hmk : markOf m = none := by rfl) : At (.panic u) (Kl P fn Qr Qp) F E S := .mk fun fr hf => by
  obtain ⟨p', S', h1, h2⟩ := hc
  obtain ⟨⟨w, rfl⟩, vs, h3, h4⟩ := hq p' S' h2
  refine ⟨some u, rfl, .inl ⟨packV vs, S', ?_, h4⟩⟩
  rw [hf.ds, hds]
  simp only [leaveE, hmk, h1, res_of hf hrs h3, Option.map]
end
end Go.Ev
namespace Go.Ev
open Go.RowKit
mutual
theorem EncF.succ : ∀ {d : Nat} {fs : List Fd} {cs : List V} {bs : List UInt8}, EncF d fs cs bs → EncF (d + 1) fs cs bs
  | _, _, _, _, .nil d => .nil (d + 1)
  | _, _, _, _, .int hn h => .int hn h.succ
  | _, _, _, _, .str hs h => .str hs h.succ
  | _, _, _, _, .bool h => .bool h.succ
  | _, _, _, _, .list hv hl he h => .list hv hl he.succ h.succ
  | _, _, _, _, .sub h1 hc h => .sub h1.succ hc h.succ
theorem EncL.succ : ∀ {d t : Nat} {es : List V} {bs : List UInt8}, EncL d t es bs → EncL (d + 1) t es bs
  | _, _, _, _, .nil d t => .nil (d + 1) t
  | _, _, _, _, .cons h1 h2 => .cons h1.succ h2.succ
end
theorem EncF.le {d d' : Nat} {fs : List Fd} {cs : List V} {bs : List UInt8} (h : EncF d fs cs bs) (hd : d ≤ d') : EncF d' fs cs bs := by
  induction hd with
  | refl => exact h
  | step _ ih => exact ih.succ
theorem EncL.le {d d' t : Nat} {es : List V} {bs : List UInt8} (h : EncL d t es bs) (hd : d ≤ d') : EncL d' t es bs := by
  induction hd with
  | refl => exact h
  | step _ ih => exact ih.succ
theorem EncF.append : ∀ {d : Nat} {fs gs : List Fd} {cs ds : List V} {bs es : List UInt8}, EncF d fs cs bs → EncF d gs ds es → EncF d (fs ++ gs) (cs ++ ds) (bs ++ es)
  | _, _, _, _, _, _, _, .nil _, k => k
  | _, _, _, _, _, _, _, .int hn h, k => by rw [List.append_assoc]; exact .int hn (h.append k)
  | _, _, _, _, _, _, _, .str hs h, k => by rw [List.append_assoc]; exact .str hs (h.append k)
  | _, _, _, _, _, _, _, .bool h, k => by rw [List.append_assoc]; exact .bool (h.append k)
  | _, _, _, _, _, _, _, .list hv hl he h, k => by rw [List.append_assoc]; exact .list hv hl he (h.append k)
  | _, _, _, _, _, _, _, .sub h1 hc h, k => by rw [List.append_assoc, List.append_assoc]; exact .sub h1 hc (h.append k)
def Sg.of (W : World) : Sg := ⟨fun _ => Option.none, fun b o => if b < W.heap.size then W.cell? ⟨b, o, Option.none⟩ else Option.none, fun _ => Option.none⟩
theorem rel_of [Glob] (W : World) (hv : VarsOk W) : Rel none2 W.heap.size W (Sg.of W) S0 W where
  below := Below.refl _ _
  hb := Nat.le_refl _
  imm := fun b o v h _ => by
    simp only [Sg.of] at h
    split at h
    · exact h
    · cases h
  cur := fun b o v h => by
    simp only [Sg.of] at h
    split at h
    · assumption
    · cases h
  ty := fun _ _ h => by cases h
  ob := fun id o h => by simp only [S0, Tr.find_leaf] at h; cases h
  inj := fun i j o o' x y h => by simp only [S0, Tr.find_leaf] at h; cases h
  gl := by
    intro g cs hg
    have key : ∀ (l : List V) (k : Nat), (∀ i v, l[i]? = some v → cs[k + i]? = some v) → CR (Sg.of W) l g k := by
      intro l
      induction l with
      | nil => intro k _; exact .nil _ _
      | cons x l ih =>
        intro k hk
        obtain ⟨y, h1, h2⟩ := hv g cs hg k x (hk 0 x rfl)
        refine .cons (y := y) ?_ (h2.mono ⟨fun _ _ e => (by cases e), fun _ _ _ e => (by cases e), fun _ _ e => (by cases e)⟩) (ih (k + 1) fun i v hi => by rw [Nat.add_right_comm, Nat.add_assoc]; exact hk (i + 1) v hi)
        simp only [Sg.of]
        rw [if_pos]
        · exact h1
        · unfold World.cell? at h1
          simp only at h1
          rcases Nat.lt_or_ge g W.heap.size with h' | h'
          · exact h'
          · rw [Array.getElem?_eq_none h'] at h1; cases h1
    exact key cs 0 fun i v hi => by rw [Nat.zero_add]; exact hi
def flT (P : Program) (f : TypeId → Option (List Fd)) (tot : Nat) : List Field → Nat → Option (List Fd)
  | [], o => if o = tot then some [] else none
  | x :: l, o => if x.offset = o then
      match f x.type, flT P f tot l (o + P.cellsOf x.type) with
      | some a, some b => some (a ++ b)
      | _, _ => none
    else none
def fdT (P : Program) (num : TypeId → Option Nat) : Nat → TypeId → Option (List Fd)
  | 0, _ => none
  | d + 1, t => match P.underlying t with
    | some (.int .i64) => some [.int]
    | some .string => some [.str]
    | some .bool => some [.bool]
    | some (.slice e) => (num e).map fun n => [.list n]
    | some (.struct fs) => match num t with
      | some n => some [.sub n]
      | none => flT P (fdT P num d) (P.cellsOf t) fs.toList 0
    | _ => none
def topT (P : Program) (num : TypeId → Option Nat) (t : TypeId) : Option (List Fd) := match P.underlying t with
  | some (.int .i64) => some [.int]
  | some .string => some [.str]
  | some (.struct fs) => flT P (fdT P num 3) (P.cellsOf t) fs.toList 0
  | _ => none
structure Tys (P : Program) (num : TypeId → Option Nat) : Prop where
  top : ∀ t n, num t = some n → topT P num t = some (sch n) ∧ P.cellsOf t = szs n ∧ 1 ≤ szs n
mutual
def blk {H : Type} : DataW H → Nat
  | .lit (.string b) => b.length + 1
  | .lit _ => 1
  | .slice a b => blks a + blks b + 1
  | .agg l => blks l + 1
  | _ => 1
def blks {H : Type} : List (DataW H) → Nat
  | [] => 0
  | d :: r => blk d + blks r
end
theorem blk_pos {H : Type} (d : DataW H) : 1 ≤ blk d := by
  match d with
  | .lit (.string b) => unfold blk; omega
  | .lit (.bool b) => unfold blk; omega
  | .lit (.int k n) => unfold blk; omega
  | .lit (.float k n) => unfold blk; omega
  | .lit .nil => unfold blk; omega
  | .nil => unfold blk; omega
  | .ptr d => unfold blk; omega
  | .slice a b => unfold blk; omega
  | .agg l => unfold blk; omega
  | .iface t d => unfold blk; omega
  | .map e => unfold blk; omega
  | .held h => unfold blk; omega
theorem encI_le10 {n : Int} (h : in64 n) : (encI n).length ≤ 10 := vb_ten (zig_lt h.1 h.2)
theorem encB_le (b : Bool) : (encB b).length ≤ 10 := by cases b <;> exact encI_le10 (by constructor <;> decide)
theorem wf_in64 {n : Int} (h : (Lit.int .i64 n).wf = true) : in64 n := by
  simp [Lit.wf, IntKind.min, IntKind.max, IntKind.signed, IntKind.bits] at h
  constructor <;> omega
section
variable {H : Type} {enc : TypeId × Value → H} {P : Program} {W : World} {base : Nat} {held : Bool} {num : TypeId → Option Nat}
abbrev bulkMost : Nat := 1048576
def Got (W : World) (fs : List Fd) (cs : List Value) (m : Nat) : Prop := ∃ vs bs k, VRs (Sg.of W) vs cs ∧ EncF k fs vs bs ∧ bs.length ≤ 11 * m
theorem Got.append {fs gs : List Fd} {cs ds : List Value} {m n : Nat} (h : Got W fs cs m) (k : Got W gs ds n) : Got W (fs ++ gs) (cs ++ ds) (m + n) := by
  obtain ⟨vs, bs, a, h1, h2, h3⟩ := h
  obtain ⟨us, es, b, k1, k2, k3⟩ := k
  exact ⟨vs ++ us, bs ++ es, max a b, h1.append k1, (h2.le (Nat.le_max_left _ _)).append (k2.le (Nat.le_max_right _ _)), by simp; omega⟩
theorem got_fields {f : TypeId → Option (List Fd)} {n : Nat} (hA : ∀ t fds cs (x : DataW H × List MemPlace), f t = some fds → DataW.trod enc P W base (fun _ => true) held n t cs = some x → blk x.1 ≤ bulkMost → Got W fds cs (blk x.1)) {cs : List Value} {tot : Nat} (htot : cs.length = tot) :
    ∀ (l : List Field) (o : Nat) (fds : List Fd) (xs : List (DataW H × List MemPlace)), flT P f tot l o = some fds → xs.length = l.length →
      (∀ (i : Nat) (g : Field), l[i]? = some g → DataW.trod enc P W base (fun _ => true) held n g.type ((cs.drop g.offset).take (P.cellsOf g.type)) = xs[i]?) → blks (xs.map (·.1)) ≤ bulkMost → Got W fds (cs.drop o) (blks (xs.map (·.1)))
  | [], o, fds, xs, hf, hl, _, _ => by
    simp only [flT] at hf
    split at hf
    · rename_i ho
      cases hf
      subst ho
      rw [← htot, List.drop_length]
      have : xs = [] := by simpa using hl
      subst this
      exact ⟨[], [], 0, .nil, .nil 0, by simp [blks]⟩
    · cases hf
  | g :: l, o, fds, xs, hf, hl, hx, hbm => by
    simp only [flT] at hf
    split at hf
    · rename_i ho
      cases h1 : f g.type with
      | none => rw [h1] at hf; cases hf
      | some a =>
        cases h2 : flT P f tot l (o + P.cellsOf g.type) with
        | none => rw [h1, h2] at hf; cases hf
        | some b =>
          rw [h1, h2] at hf
          cases hf
          cases xs with
          | nil => simp at hl
          | cons y ys =>
            have hy := hx 0 g rfl
            simp only [List.getElem?_cons_zero] at hy
            simp only [List.map_cons, blks] at hbm
            have hrest := got_fields hA htot l (o + P.cellsOf g.type) b ys h2 (by simpa using hl) (fun i g' hg => by simpa using hx (i + 1) g' (by simpa using hg)) (by omega)
            have hg := (hA g.type a _ y h1 hy (by omega)).append hrest
            rw [ho] at hg
            have he : (cs.drop o).take (P.cellsOf g.type) ++ cs.drop (o + P.cellsOf g.type) = cs.drop o := by
              rw [← List.drop_drop]; exact List.take_append_drop _ _
            rw [he] at hg
            exact hg
    · cases hf
theorem cells_get {a : Addr} {n : Nat} {cs : List Value} (h : W.cells? base a n = some cs) : cs.length = n ∧ ∀ i v, cs[i]? = some v → W.cell? (a.add i) = some v := by
  unfold World.cells? at h
  split at h
  · have hl := mapM_some_length h
    refine ⟨by simpa using hl, fun i v hv => ?_⟩
    have hi : i < n := by have := (List.getElem?_eq_some_iff.1 hv).1; simp at hl; omega
    have := mapM_some_get h i i (by simp [hi])
    rw [this, hv]
  · cases h
theorem spot_none {a : Addr} {v : Value} (h : W.cell? a = some v) : a.spot = none := by
  unfold World.cell? at h
  split at h
  · split at h
    · cases h
    · rename_i hs; simpa using hs
  · cases h
theorem cell_lt {a : Addr} {v : Value} (h : W.cell? a = some v) : a.block < W.heap.size := by
  unfold World.cell? at h
  split at h
  · rename_i hb
    rcases Nat.lt_or_ge a.block W.heap.size with h1 | h1
    · exact h1
    · simp [Array.getElem?_eq_none h1] at hb
  · cases h
theorem I_of {b o : Nat} {v : Value} (h : W.cell? ⟨b, o, none⟩ = some v) : (Sg.of W).I b o = some v := by
  simp only [Sg.of]
  rw [if_pos (cell_lt h)]; exact h
theorem got_elems {n m sz : Nat} {e : TypeId} {a : Addr} (ha : a.spot = none) (hsz : P.cellsOf e = sz) (hB : ∀ cs (x : DataW H × List MemPlace), DataW.trod enc P W base (fun _ => true) held n e cs = some x → blk x.1 ≤ bulkMost → Got W (sch m) cs (blk x.1)) :
    ∀ (elems : List (DataW H × List MemPlace)) (j : Nat), (∀ i, i < elems.length → (W.cells? base (a.add ((j + i) * sz)) sz).bind (DataW.trod enc P W base (fun _ => true) held n e) = elems[i]?) → blks (elems.map (·.1)) ≤ bulkMost →
      ∃ es bl k, es.length = elems.length ∧ LR (Sg.of W) sz es a.block (a.off + j * sz) ∧ EncL k m es bl ∧ bl.length ≤ 11 * blks (elems.map (·.1))
  | [], j, _, _ => ⟨[], [], 0, rfl, .nil _ _ _, .nil 0 m, by simp [blks]⟩
  | x :: xs, j, h, hbm => by
    simp only [List.map_cons, blks] at hbm
    have h0 := h 0 (by simp)
    simp only [Nat.add_zero, List.getElem?_cons_zero, Option.bind_eq_some_iff] at h0
    obtain ⟨cs, hc, hx⟩ := h0
    obtain ⟨vs, bs, k, g1, g2, g3⟩ := hB cs x hx (by omega)
    obtain ⟨hl, hget⟩ := cells_get hc
    obtain ⟨es, bl, k2, e1, e2, e3, e4⟩ := got_elems ha hsz hB xs (j + 1) (fun i hi => by
      have := h (i + 1) (by simpa using hi)
      simp only [List.getElem?_cons_succ] at this
      rw [← this]
      have : (j + 1 + i) = (j + (i + 1)) := by omega
      rw [this]) (by omega)
    have hcr : CR (Sg.of W) vs a.block (a.off + j * sz) := CR.of_vals g1 fun i v hv => by
      have := hget i v hv
      apply I_of
      have he : (a.add (j * sz)).add i = ⟨a.block, a.off + j * sz + i, none⟩ := by
        obtain ⟨b, o, s⟩ := a
        simp only at ha
        subst ha
        unfold Addr.add
        by_cases h1 : j * sz = 0
        · by_cases h2 : i = 0 <;> simp [h1, h2]
        · by_cases h2 : i = 0 <;> simp [h1, h2]
      rw [he] at this
      exact this
    refine ⟨.agg vs :: es, bs ++ bl, max k k2, by simp [e1], ?_, .cons (g2.le (Nat.le_max_left _ _)) (e3.le (Nat.le_max_right _ _)), by simp [blks]; omega⟩
    refine .cons (by show vs.length = sz; rw [g1.length, hl]) hcr ?_
    have : a.off + (j + 1) * sz = a.off + j * sz + sz := by rw [Nat.succ_mul]; omega
    rw [← this]
    exact e2
theorem got_all (hT : Tys P num) : ∀ (n : Nat), (∀ (d : Nat) t fds cs (x : DataW H × List MemPlace), fdT P num d t = some fds → DataW.trod enc P W base (fun _ => true) held n t cs = some x → blk x.1 ≤ bulkMost → Got W fds cs (blk x.1)) ∧
    (∀ t m cs (x : DataW H × List MemPlace), num t = some m → DataW.trod enc P W base (fun _ => true) held n t cs = some x → blk x.1 ≤ bulkMost → Got W (sch m) cs (blk x.1)) := by
  intro n
  induction n with
  | zero => exact ⟨fun d t fds cs x _ h _ => by simp [DataW.trod] at h, fun t m cs x _ h _ => by simp [DataW.trod] at h⟩
  | succ n ih =>
    obtain ⟨ihA, ihB⟩ := ih
    have hint : ∀ t cs (x : DataW H × List MemPlace), P.underlying t = some (.int .i64) → DataW.trod enc P W base (fun _ => true) held (n + 1) t cs = some x → blk x.1 ≤ bulkMost → Got W [.int] cs (blk x.1) := by
      intro t cs x hu h hbm
      obtain ⟨k, rfl, rfl, hw⟩ := DataW.trod_int hu h
      have hi := wf_in64 hw
      refine ⟨[.int .i64 k], encI k ++ [], 0, .cons (.int _ _) .nil, .int hi (.nil 0), ?_⟩
      have := encI_le10 hi
      simp [blk]; omega
    have hstr : ∀ t cs (x : DataW H × List MemPlace), P.underlying t = some .string → DataW.trod enc P W base (fun _ => true) held (n + 1) t cs = some x → blk x.1 ≤ bulkMost → Got W [.str] cs (blk x.1) := by
      intro t cs x hu h hbm
      obtain ⟨s, rfl, rfl, hs⟩ := DataW.trod_string hu h
      have hl : s.data.toList.length < 4611686018427387904 := by
        simp only [blk, bulkMost] at hbm
        omega
      refine ⟨[.str s.data.toList], encS s.data.toList ++ [], 0, .cons (.str s rfl) .nil, .str hl (.nil 0), ?_⟩
      have := encI_le10 (n := (s.data.toList.length : Nat)) (by constructor <;> omega)
      simp only [encS, blk, List.append_nil, List.length_append]; omega
    have hstruct : ∀ (d : Nat) t (fs : Array Field) fds cs (x : DataW H × List MemPlace), P.underlying t = some (.struct fs) → flT P (fdT P num d) (P.cellsOf t) fs.toList 0 = some fds → DataW.trod enc P W base (fun _ => true) held (n + 1) t cs = some x → blk x.1 ≤ bulkMost → Got W fds cs (blk x.1) := by
      intro d t fs fds cs x hu hf h hbm
      obtain ⟨xs, m, hm, rfl, hl, hxl, hx⟩ := DataW.trod_struct hu h
      cases hm
      have := got_fields (ihA d) hl fs.toList 0 fds xs hf (by simpa using hxl) (fun i g hg => hx i g (by simpa using hg)) (by simp only [blk] at hbm; omega)
      rw [List.drop_zero] at this
      obtain ⟨vs, bs, k, g1, g2, g3⟩ := this
      exact ⟨vs, bs, k, g1, g2, by simp only [blk]; omega⟩
    have hB : ∀ t m cs (x : DataW H × List MemPlace), num t = some m → DataW.trod enc P W base (fun _ => true) held (n + 1) t cs = some x → blk x.1 ≤ bulkMost → Got W (sch m) cs (blk x.1) := by
      intro t m cs x hn h hbm
      obtain ⟨htop, _, _⟩ := hT.top t m hn
      unfold topT at htop
      split at htop
      · rename_i hu; rw [← Option.some.inj htop]; exact hint t cs x hu h hbm
      · rename_i hu; rw [← Option.some.inj htop]; exact hstr t cs x hu h hbm
      · rename_i fs hu; exact hstruct 3 t fs _ cs x hu htop h hbm
      · cases htop
    refine ⟨fun d t fds cs x hf h hbm => ?_, hB⟩
    cases d with
    | zero => cases hf
    | succ d =>
      simp only [fdT] at hf
      split at hf
      · rename_i hu; cases hf; exact hint t cs x hu h hbm
      · rename_i hu; cases hf; exact hstr t cs x hu h hbm
      · rename_i hu
        cases hf
        obtain ⟨b, rfl, rfl⟩ := DataW.trod_bool hu h
        refine ⟨[.bool b], encB b ++ [], 0, .cons (.bool _) .nil, .bool (.nil 0), ?_⟩
        have := encB_le b
        simp [blk]; omega
      · rename_i e hu
        cases hn : num e with
        | none => rw [hn] at hf; cases hf
        | some m =>
          rw [hn] at hf
          cases hf
          obtain ⟨_, hsz, hpos⟩ := hT.top e m hn
          rcases DataW.trod_slice hu h with ⟨rfl, rfl⟩ | ⟨a, len, cap, elems, rest, n', hn', rfl, rfl, hb, hlc, hcm, hel, hget, hsp, _⟩
          · refine ⟨[.nils], encI (0 : Nat) ++ [] ++ [], 1, .cons .nils .nil, .list (v := .nils) (.inl rfl) (by simp [elems]) (.nil 0 m) (.nil 1), ?_⟩
            have := encI_le10 (n := (0 : Nat)) (by constructor <;> omega)
            simp [blk] at this ⊢; omega
          · cases hn'
            obtain ⟨hrl, hrget⟩ := hsp rfl
            by_cases hc0 : cap = 0
            · subst hc0
              have : len = 0 := by omega
              subst this
              have : elems = [] := by simpa using hel
              subst this
              refine ⟨[.mt], encI (0 : Nat) ++ [] ++ [], 1, .cons (.mt a) .nil, .list (v := .mt) (.inr (.inl rfl)) (by simp [Ev.elems]) (.nil 0 m) (.nil 1), ?_⟩
              have := encI_le10 (n := (0 : Nat)) (by constructor <;> omega)
              simp [blk] at this ⊢; omega
            · have hspot : a.spot = none := by
                have key : ∀ y, (W.cells? base (a.add (0 * P.cellsOf e)) (P.cellsOf e)).bind (DataW.trod enc P W base (fun _ => true) held n e) = some y → a.spot = none := by
                  intro y hy
                  simp only [Option.bind_eq_some_iff] at hy
                  obtain ⟨cs, hc, _⟩ := hy
                  obtain ⟨hl, hg⟩ := cells_get hc
                  have h0 : 0 < cs.length := by omega
                  have := spot_none (hg 0 cs[0] (List.getElem?_eq_getElem h0))
                  simpa [Addr.add] using this
                by_cases hl0 : len = 0
                · have h0 : 0 < rest.length := by omega
                  subst hl0; exact key rest[0] ((hrget 0 (by omega)).trans (List.getElem?_eq_getElem h0))
                · have h0 : 0 < elems.length := by omega
                  exact key elems[0] ((hget 0 (by omega)).trans (List.getElem?_eq_getElem h0))
              obtain ⟨es, bl, k, e1, e2, e3, e4⟩ := got_elems (m := m) hspot hsz (fun cs x hx hq => ihB e m cs x hn hx hq) elems 0 (fun i hi => by
                have := hget i (by omega)
                rw [hsz] at this
                simpa using this) (by simp only [blk] at hbm; omega)
              have hes : (Ev.elems (.list none (szs m) es .no)).length = es.length := rfl
              have hlen : es.length < 4611686018427387904 := by
                rw [e1]
                have hle : ∀ (l : List (DataW H × List MemPlace)), l.length ≤ blks (l.map (·.1)) := by
                  intro l
                  induction l with
                  | nil => simp
                  | cons y ys ih =>
                    have := blk_pos y.1
                    simp only [List.length_cons, List.map_cons, blks]; omega
                have := hle elems
                simp only [blk, bulkMost] at hbm
                omega
              refine ⟨[.list none (szs m) es .no], encI ((Ev.elems (.list none (szs m) es .no)).length : Nat) ++ bl ++ [], k + 1, .cons ?_ .nil, .list (.inr (.inr ⟨_, _, _, rfl⟩)) hlen e3 (.nil _), ?_⟩
              · have ha : a = ⟨a.block, a.off, none⟩ := by cases a; simp at hspot; subst hspot; rfl
                have hlen2 : len = es.length := by omega
                rw [ha, hlen2]
                refine .list (fun _ ht => by cases ht) ?_ (by omega) trivial
                rw [← hsz]
                simpa [hsz] using e2
              · have := encI_le10 (n := (es.length : Nat)) (by constructor <;> omega)
                simp only [blk, hes, List.append_nil, List.length_append]
                omega
      · rename_i fs hu
        cases hn : num t with
        | some m =>
          rw [hn] at hf
          cases hf
          obtain ⟨_, hsz, _⟩ := hT.top t m hn
          obtain ⟨vs, bs, k, g1, g2, g3⟩ := hB t m cs x hn h hbm
          obtain ⟨_, _, _, _, hl, _⟩ := DataW.trod_struct hu h
          refine ⟨vs ++ [], bs ++ [], k + 1, by simpa using g1, .sub g2 (by rw [g1.length, hl, hsz]) (.nil _), by simpa using g3⟩
        | none =>
          rw [hn] at hf
          exact hstruct d t fs _ cs x hu hf h hbm
      · cases hf
end
end Go.Ev
