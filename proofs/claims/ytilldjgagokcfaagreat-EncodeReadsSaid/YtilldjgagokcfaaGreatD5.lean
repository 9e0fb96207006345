import Derived.Test.YtilldjgagokcfaaGreatD4
import Derived.Test.YtilldjgagokcfaaGreatW8
set_option linter.unusedVariables false
set_option linter.unusedSimpArgs false
namespace Go.Ev
open Go.RowKit
def numV (b : List UInt8) : Nat := b.foldl (fun n c => n * 256 + c.toNat) 0
theorem numV_snoc (b : List UInt8) (c : UInt8) : numV (b ++ [c]) = numV b * 256 + c.toNat := by simp [numV]
theorem numV_lt : ∀ (k : Nat) (b : List UInt8), b.length = k → numV b < 256 ^ k := by
  intro k
  induction k with
  | zero =>
    intro b hb
    have : b = [] := List.eq_nil_of_length_eq_zero hb
    subst this
    decide
  | succ k ih =>
    intro b hb
    have hne : b ≠ [] := by rintro rfl; cases hb
    rw [← List.dropLast_concat_getLast hne, numV_snoc]
    have h1 := ih b.dropLast (by simp [hb])
    have h2 := (b.getLast hne).toNat_lt
    rw [Nat.pow_succ]
    omega
theorem be4_num {b : List UInt8} (h : b.length = 4) : be4 (numV b) = b := by
  match b, h with
  | [x, y, z, w], _ =>
    have hx := x.toNat_lt; have hy := y.toNat_lt; have hz := z.toNat_lt; have hw := w.toNat_lt
    have e : numV [x, y, z, w] = ((x.toNat * 256 + y.toNat) * 256 + z.toNat) * 256 + w.toNat := by simp [numV]
    unfold be4
    rw [e]
    have u : ∀ (n : Nat) (c : UInt8), n % 256 = c.toNat → UInt8.ofNat (n % 256) = c := fun n c h => by
      rw [h]; simp
    rw [u _ x (by omega), u _ y (by omega), u _ z (by omega), u _ w (by omega)]
theorem num_be4 {n : Nat} (h : n < 4294967296) : numV (be4 n) = n := by
  simp only [be4, numV, List.foldl]
  simp only [UInt8.toNat_ofNat']
  omega
theorem num_eq {b : List UInt8} {n : Nat} (h : b.length = 4) (hn : n < 4294967296) : numV b = n ↔ b = be4 n := by
  constructor
  · intro e; rw [← e, be4_num h]
  · intro e; rw [e, num_be4 hn]
theorem shl8 (n : Nat) (h : n < 16777216) : shiftE .shl .i64 (n : Int) 8 = some (.int .i64 ((n * 256 : Nat) : Int)) := by
  simp only [shiftE]
  rw [if_neg (by decide)]
  simp only [IntKind.bits]
  have : ((n : Int) * 2 ^ (min (8 : Int).toNat 64)) = ((n * 256 : Nat) : Int) := by
    have : (2 : Int) ^ (min (8 : Int).toNat 64) = 256 := by decide
    rw [this]; simp
  rw [this, wrap_i64_id (by constructor <;> omega)]
theorem or8 (n : Nat) (c : UInt8) (h : n < 16777216) : intOp .or .i64 ((n * 256 : Nat) : Int) (IntKind.wrap .i64 (c.toNat : Int)) = some (.int .i64 ((n * 256 + c.toNat : Nat) : Int)) := by
  have hc := c.toNat_lt
  rw [wrap_i64_id (n := (c.toNat : Int)) (by constructor <;> omega)]
  simp only [intOp]
  congr 2
  show IntKind.wrap .i64 ((BitVec.ofInt 64 ((n * 256 : Nat) : Int) ||| BitVec.ofInt 64 (c.toNat : Int)).toNat : Nat) = _
  have e1 : ∀ n : Nat, BitVec.ofInt 64 (n : Int) = BitVec.ofNat 64 n := fun n => by
    apply BitVec.eq_of_toNat_eq
    simp
  rw [e1, e1, BitVec.toNat_or, BitVec.toNat_ofNat, BitVec.toNat_ofNat, Nat.mod_eq_of_lt (by omega), Nat.mod_eq_of_lt (by omega)]
  have : n * 256 ||| c.toNat = n * 256 + c.toNat := by
    have := Nat.two_pow_add_eq_or_of_lt (i := 8) (b := c.toNat) (by omega) n
    rw [Nat.mul_comm n 256, show (256 : Nat) = 2 ^ 8 by decide, ← this]
  rw [this, wrap_i64_id (by constructor <;> omega)]
def hdr (k : UInt8) : List UInt8 := [82, 69, k, 1]
def outP (f : List UInt8) (k : UInt8) : Option Nat :=
  match (List.range 4).find? (fun i => f[i]? != (hdr k)[i]?) with
  | some i => some i
  | none => if f.length < 12 ∨ slc f 4 8 ≠ be4 (f.length - 12) then some 4
    else if slc f (f.length - 4) f.length ≠ be4 (sumOf (f.take (f.length - 4))) then some (f.length - 4) else none
def rdOut (f : List UInt8) (k : UInt8) (t : Nat) : Option (Nat × Int) :=
  if 100000 < f.length then some (0, 3) else
  match outP f k with
  | some i => some (i, 11)
  | none => match scan (f.take (f.length - 4)) (f.length + 1) t 8 with
    | .error b => some (b, 11)
    | .ok j => if j < f.length - 4 then some (f.length - 4, 11) else none
def RdV (f : List UInt8) (k : UInt8) (t : Nat) (v : V) : Prop := match rdOut f k t with
  | some r => v = .tup [.agg (zc t), .int .i64 r.1, .int .i64 r.2]
  | none => ∃ cs, v = .tup [.agg cs, .int .i64 0, .int .i64 0] ∧ cs.length = szs t ∧ Enc (sch t) cs (slc f 8 (f.length - 4))
theorem slc_take {s : List UInt8} {n i j : Nat} (h : j ≤ n) : slc (s.take n) i j = slc s i j := by
  unfold slc
  rw [List.drop_take, List.take_take]
  congr 1
  omega
theorem outP_len {f : List UInt8} {k : UInt8} (h : outP f k = none) : 12 ≤ f.length := by
  unfold outP at h
  split at h
  · cases h
  · split at h
    · cases h
    · rename_i hn
      omega
end Go.Ev
namespace Go.Proofs.YtilldjgagokcfaaGreat
open Go.RowKit Go.Ev
set_option maxRecDepth 100000
set_option linter.unusedVariables false
theorem number4 (b : List UInt8) (hb : b.length ≤ 4) (S : St) : CallTo Tryz.prog 130 [.str b] S (fun v S' => v = .int .i64 (numV b : Nat) ∧ S' = S) (fun _ _ => False) := by
  refine CallTo.of (n := 19) Tryz.func130 rfl rfl ?_
  repeat' first | refine .std ?_ | refine .nil ?_ | refine .seq ?_ | refine .region ?_ | refine .xs ?_ | refine .kb ?_ | refine .leaf ?_ | refine .block ?_ | refine .gn ?_ | refine .dr ?_ | fail
  refine Go.weaken (E' := [(0, .str b), (3, .int .i64 (0 : Nat)), (6, .int .i64 b.length), (7, .int .i64 (0 : Nat))]) ?_ ⟨rfl, rfl, rfl, rfl, trivial⟩
  refine Go.loop_ind (α := Nat) (fun i => b.length - i) (fun i E S' => S' = S ∧ E = [(0, .str b), (3, .int .i64 (numV (b.take i) : Nat)), (6, .int .i64 b.length), (7, .int .i64 i)] ∧ i ≤ b.length) ?_ 0 _ _ ⟨rfl, rfl, Nat.zero_le _⟩
  rintro i E S1 ⟨rfl, rfl, hi⟩ IH
  by_cases hq : i < b.length
  · have hch : b[i]? = some b[i] := List.getElem?_eq_getElem hq
    have hlt := numV_lt i (b.take i) (by simp; omega)
    have h3 : numV (b.take i) < 16777216 := Nat.lt_of_lt_of_le hlt (Nat.pow_le_pow_right (n := 256) (by omega) (by omega : i ≤ 3))
    repeat' first
     | refine Opl.val (op_int rfl rfl rfl (lss_yes hq)) rfl ?_
     | refine Go.condT rfl ?_
     | refine Opl.val (op_shift rfl rfl rfl (shl8 _ h3)) rfl ?_
     | refine Opl.val (op_idxS rfl rfl hch) rfl ?_
     | refine Opl.val (op_int rfl rfl rfl (or8 _ _ h3)) rfl ?_
     | refine Opl.val (op_int rfl rfl rfl (inc_ok (i := i) (by omega))) rfl ?_
     | refine .std ?_ | refine .nil ?_ | refine .seq ?_ | refine .region ?_ | refine .xs ?_ | refine .kb ?_ | refine .leaf ?_ | refine .block ?_ | refine .gn ?_ | refine .dr ?_ | fail
    refine (IH (i + 1) [(0, .str b), (3, .int .i64 (numV (b.take (i + 1)) : Nat)), (6, .int .i64 b.length), (7, .int .i64 (i + 1 : Nat))] S1 (by omega) ⟨rfl, rfl, hq⟩).weaken ⟨rfl, ?_, rfl, rfl, trivial⟩
    rw [List.take_succ_eq_append_getElem hq, numV_snoc]; rfl
  · have hq2 : i = b.length := by omega
    subst hq2
    rw [List.take_length]
    repeat' first
     | refine Opl.val (op_int rfl rfl rfl (lss_no hq)) rfl ?_
     | refine Go.condF rfl ?_
     | refine .std ?_ | refine .nil ?_ | refine .seq ?_ | refine .region ?_ | refine .xs ?_ | refine .kb ?_ | refine .leaf ?_ | refine .block ?_ | refine .gn ?_ | refine .dr ?_ | fail
    exact At.fnr rfl rfl rfl ⟨rfl, rfl⟩
theorem hdr_neq (x y : Operand) (a b : List UInt8) (ha : a.length = 4) (hb : b.length = 4) : binE Tryz.prog .neq 113 x y (.agg (ofBytes a)) (.agg (ofBytes b)) = some (.bool (!decide (a = b))) := by
  match a, b, ha, hb with
  | [a0, a1, a2, a3], [b0, b1, b2, b3], _, _ =>
    have hg : guardE Tryz.prog 113 x y (.agg (ofBytes [a0, a1, a2, a3])) (.agg (ofBytes [b0, b1, b2, b3])) = true := by kernel_rfl
    have u1 : Tryz.prog.underlying 113 = some (.array 4 5) := by kernel_rfl
    have u2 : Tryz.prog.underlying 5 = some (.int .u8) := by kernel_rfl
    have s2 : szOf Tryz.prog 5 = some 1 := by kernel_rfl
    have a2' : aggT Tryz.prog 5 = some false := by kernel_rfl
    have hd : ∀ p q : UInt8, ((p.toNat : Int) == (q.toNat : Int)) = decide (p = q) := fun p q => by
      by_cases h : p = q
      · subst h; simp
      · rw [decide_eq_false h]
        have : p.toNat ≠ q.toNat := fun e => h (UInt8.toNat.inj e)
        simp; omega
    have e : eqE Tryz.prog 60 113 (.agg (ofBytes [a0, a1, a2, a3])) (.agg (ofBytes [b0, b1, b2, b3])) = some (decide ([a0, a1, a2, a3] = [b0, b1, b2, b3])) := by
      simp only [eqE, u1, u2, s2, eqEs, partE, a2', ofBytes, List.map]
      simp only [Nat.zero_mul, Nat.one_mul, List.getElem?_cons_zero, Nat.zero_add, List.getElem?_cons_succ, decide_true, if_true]
      rw [hd, hd, hd, hd]
      by_cases h0 : a0 = b0
      · by_cases h1 : a1 = b1
        · by_cases h2 : a2 = b2
          · by_cases h3 : a3 = b3
            · subst h0 h1 h2 h3; simp
            · simp [h0, h1, h2, h3]
          · simp [h0, h1, h2]
        · simp [h0, h1]
      · simp [h0]
    simp only [binE]
    rw [if_pos hg, e]; rfl
theorem hdr_at (k : UInt8) : ∀ i, i < 4 → ∃ b : UInt8, (hdr k)[i]? = some b ∧ indexE Tryz.prog 113 (.agg (ofBytes (hdr k))) (.int .i64 (i : Nat)) = some (.int .u8 b.toNat)
  | 0, _ => ⟨82, rfl, by kernel_rfl⟩
  | 1, _ => ⟨69, rfl, by kernel_rfl⟩
  | 2, _ => ⟨k, rfl, by kernel_rfl⟩
  | 3, _ => ⟨1, rfl, by kernel_rfl⟩
  | n + 4, h => by omega
theorem op_idxA {ev : Operand → Option V} {S : St} {x y : Operand} {t : TypeId} {v w r : V} (h : ev x = some v) (h2 : ev y = some w) (hi : indexE Tryz.prog t v w = some r) : opE Tryz.prog (.index t x y) ev S = some (r, S) := by
  simp [opE, h, h2, hi]
theorem find_hdr {f : List UInt8} {k : UInt8} {i : Nat} (hi : i < 4) (h1 : ∀ j, j < i → f[j]? = (hdr k)[j]?) (h2 : f[i]? ≠ (hdr k)[i]?) : outP f k = some i := by
  have : (List.range 4).find? (fun i => f[i]? != (hdr k)[i]?) = some i := by
    rw [List.find?_eq_some_iff_append]
    refine ⟨by simpa using h2, List.range i, (List.range' (i + 1) (4 - (i + 1))), ?_, ?_⟩
    · have : i = 0 ∨ i = 1 ∨ i = 2 ∨ i = 3 := by omega
      rcases this with rfl | rfl | rfl | rfl <;> rfl
    · intro j hj
      simp only [List.mem_range] at hj
      simp [h1 j hj]
  unfold outP
  rw [this]
theorem find_none {f : List UInt8} {k : UInt8} (h1 : ∀ j, j < 4 → f[j]? = (hdr k)[j]?) : (List.range 4).find? (fun i => f[i]? != (hdr k)[i]?) = none := by
  rw [List.find?_eq_none]
  intro j hj
  simp only [List.mem_range] at hj
  simp [h1 j hj]
def ownB (f : List UInt8) : List UInt8 := f.take 4 ++ List.replicate (4 - f.length) 0
theorem ownB_len (f : List UInt8) : (ownB f).length = 4 := by simp [ownB]; omega
theorem copy_hdr (f : List UInt8) {S : St} {id : Nat} (hb : S.h.find id = some (.box 113 [V.int .u8 0, V.int .u8 0, V.int .u8 0, V.int .u8 0])) : ∃ n : Nat,
    copyE Tryz.prog 73 (.arr id 0 4 4) (.str f) S = some (.int .i64 n, { S with h := S.h.put id (.box 113 (ofBytes (ownB f))) }) := by
  have e1 : elemT Tryz.prog 73 = some 5 := by kernel_rfl
  have s2 : szOf Tryz.prog 5 = some 1 := by kernel_rfl
  have a2 : aggT Tryz.prog 5 = some false := by kernel_rfl
  have hfl : ((ofBytes f).take 4).flatMap V.cells = ofBytes (f.take 4) := by
    rw [← flat_ofBytes (f.take 4)]; simp [ofBytes]
  refine ⟨((ofBytes f).take 4).length, ?_⟩
  have hall : (ofBytes (f.take 4)).all V.one = true := List.all_eq_true.2 fun z hz => by
    have := (ofBytes_all _ z hz).2
    simp only [ofBytes, List.mem_map] at hz
    obtain ⟨b, _, rfl⟩ := hz
    rfl
  have hsp : splice [V.int .u8 0, V.int .u8 0, V.int .u8 0, V.int .u8 0] 0 (ofBytes (f.take 4)) = some (ofBytes (ownB f)) := by
    unfold splice
    rw [if_pos (Nat.ble_eq_true_of_le (by simp [ofBytes]; omega))]
    match f with
    | [] => rfl
    | [a] => rfl
    | [a, b] => rfl
    | [a, b, c] => rfl
    | a :: b :: c :: d :: r => simp [ownB, ofBytes]
  simp only [copyE, e1, s2, a2, readS, Nat.beq_refl, Bool.not_false, Bool.and_self, if_true, hfl, hall, hb, hsp]
  rw [if_pos (by simp [ofBytes])]
theorem op_copy {ev : Operand → Option V} {S S' : St} {ats : Array TypeId} {args : Array Operand} {t : TypeId} {ts : List TypeId} {x y r : V} (ha : mapO ev args.toList = some [x, y]) (ht : ats.toList = t :: ts) (h : copyE Tryz.prog t x y S = some (r, S')) :
    opE Tryz.prog (.call { callee := .builtin .copy, args, argTypes := ats }) ev S = some (r, S') := by
  simp only [opE, ha, ht, builtinE, h]
theorem op_slcLo {ev : Operand → Option V} {S : St} {x y : Operand} {t : TypeId} {s : List UInt8} {a : Nat} [hs : IsStr Tryz.prog t] (h : ev x = some (.str s)) (h1 : ev y = some (.int .i64 a)) (ha : a ≤ s.length) :
    opE Tryz.prog (.slice t x (some y) none none) ev S = some (.str (slc s a s.length), S) := by
  have e : sliceE Tryz.prog t (.str s) (some (.int .i64 a)) none none = some (.str (slc s a s.length)) := by
    simp only [sliceE, hs.h, sliceB, boundB]
    have : (s.take s.length).drop a = slc s a s.length := by unfold slc; rw [List.drop_take]
    rw [if_pos (by simp; omega)]
    simp only [Int.toNat_natCast, Option.map, this]
  simp only [opE, h, h1, Option.toList, mapO, List.head?, e, Option.map]
theorem op_slcHi {ev : Operand → Option V} {S : St} {x y : Operand} {t : TypeId} {s : List UInt8} {a : Nat} [hs : IsStr Tryz.prog t] (h : ev x = some (.str s)) (h1 : ev y = some (.int .i64 a)) (ha : a ≤ s.length) :
    opE Tryz.prog (.slice t x none (some y) none) ev S = some (.str (s.take a), S) := by
  have e : sliceE Tryz.prog t (.str s) none (some (.int .i64 a)) none = some (.str (s.take a)) := by
    simp only [sliceE, hs.h, sliceB, boundB]
    rw [if_pos (by simp; omega)]
    simp only [Int.toNat_natCast, Option.map, List.drop_zero]
  simp only [opE, h, h1, Option.toList, mapO, List.head?, e, Option.map]
def outV (o : Option Nat) : V := match o with
  | some i => .int .i64 (i : Nat)
  | none => .int .i64 (-1)
set_option maxHeartbeats 4000000 in
theorem outside (f : List UInt8) (k : UInt8) (hf : f.length ≤ 100000) (S : St) : CallTo Tryz.prog 84 [.str f, .int .u8 k.toNat] S (fun v S' => v = outV (outP f k) ∧ Same S S') (fun _ _ => False) := by
  refine CallTo.of (n := 67) Tryz.func84 rfl rfl ?_
  have hpl : ∀ id, sliceE Tryz.prog 113 (.ptr id 0) none none none = some (.arr id 0 4 4) := by intro id; kernel_rfl
  repeat' first
   | refine Opl.callv rfl (by kernel_rfl) (heading k S) rfl (fun S1 s1 => ?_) (fun _ _ hf => hf.elim)
   | refine .std ?_ | refine .nil ?_ | refine .seq ?_ | refine .region ?_ | refine .xs ?_ | refine .kb ?_ | refine .leaf ?_ | refine .block ?_ | refine .gn ?_ | refine .dr ?_ | fail
  obtain ⟨S2, hS2⟩ : ∃ S2, S2 = S1.new (.box 113 [V.int .u8 0, V.int .u8 0, V.int .u8 0, V.int .u8 0]) := ⟨_, rfl⟩
  have hf2 : S2.h.find S1.next = some (.box 113 [V.int .u8 0, V.int .u8 0, V.int .u8 0, V.int .u8 0]) := by rw [hS2]; simp [St.new, Tr.find_put]
  obtain ⟨S3, hS3⟩ : ∃ S3 : St, S3 = { S2 with h := S2.h.put S1.next (.box 113 (ofBytes (hdr k))) } := ⟨_, rfl⟩
  have hst3 : storeE Tryz.prog 113 (.ptr S1.next 0) (.agg (ofBytes [82, 69, k, 1])) S2 = some S3 := by rw [hS3]; exact st_agg hf2 rfl rfl rfl
  obtain ⟨S4, hS4⟩ : ∃ S4, S4 = S3.new (.box 113 [V.int .u8 0, V.int .u8 0, V.int .u8 0, V.int .u8 0]) := ⟨_, rfl⟩
  have hn3 : S3.next = S1.next + 1 := by rw [hS3, hS2]; rfl
  have hf4 : S4.h.find S3.next = some (.box 113 [V.int .u8 0, V.int .u8 0, V.int .u8 0, V.int .u8 0]) := by rw [hS4]; simp [St.new, Tr.find_put]
  obtain ⟨cn, hcopy⟩ := copy_hdr f hf4
  obtain ⟨S5, hS5⟩ : ∃ S5 : St, S5 = { S4 with h := S4.h.put S3.next (.box 113 (ofBytes (ownB f))) } := ⟨_, rfl⟩
  rw [← hS5] at hcopy
  have hw5 : S5.h.find S1.next = some (.box 113 (ofBytes (hdr k))) := by
    rw [hS5, hS4, hS3]
    simp only [St.new, Tr.find_put]
    have h2 : S1.next ≠ S2.next := by rw [hS2]; simp [St.new]
    simp only [if_neg h2, if_true]
  have ho5 : S5.h.find S3.next = some (.box 113 (ofBytes (ownB f))) := by rw [hS5]; simp [Tr.find_put]
  have s5 : Same S S5 := by
    have n1 := s1.next
    rw [hS5, hS4]
    refine (Same.trans ?_ (Same.new _ _)).put (by omega) _
    rw [hS3, hS2]
    exact (s1.trans (Same.new _ _)).put n1 _
  have hlw : loadE Tryz.prog 113 (.ptr S1.next 0) S5 = some (.agg (ofBytes (hdr k))) := ld_agg (cs := ofBytes (hdr k)) ⟨_, _, hw5, fun i v h => by simpa using h⟩ rfl
  have hlo : loadE Tryz.prog 113 (.ptr S3.next 0) S5 = some (.agg (ofBytes (ownB f))) := ld_agg (cs := ofBytes (ownB f)) ⟨_, _, ho5, fun i v h => by simpa using h⟩ (by rw [ofBytes_length, ownB_len])
  obtain ⟨q, hq⟩ : ∃ q, decide (ownB f = hdr k) = q := ⟨_, rfl⟩
  have hne := fun x y => hdr_neq x y (ownB f) (hdr k) (ownB_len f) rfl
  rw [hq] at hne
  have hown : q = true → ¬ f.length < 4 → ∀ j, j < 4 → f[j]? = (hdr k)[j]? := by
    intro h1 h2 j hj
    rw [h1] at hq
    have hq := of_decide_eq_true hq
    rw [← hq]
    unfold ownB
    rw [List.getElem?_append_left (by simp; omega), List.getElem?_take_of_lt hj]
  have hlen := hf
  repeat' first
   | refine Opl.val op_alloc rfl ?_
   | refine Opl.cast (S' := S2) (Opl.eff (op_store rfl rfl hst3) ?_) hS2
   | refine Opl.val (op_slc rfl (hpl _)) rfl ?_
   | refine Opl.cast (S' := S4) (Opl.val (op_copy rfl rfl hcopy) rfl ?_) hS4
   | refine Go.joinR 4 [(0, .str f), (5, .ptr S1.next 0), (22, .bool (!q || decide (f.length < 4)))] ?_ ?_
   | refine .std ?_ | refine .nil ?_ | refine .seq ?_ | refine .region ?_ | refine .xs ?_ | refine .kb ?_ | refine .leaf ?_ | refine .block ?_ | refine .gn ?_ | refine .dr ?_ | fail
  · refine ⟨?_⟩
    refine Go.joinS (fun E S' => S' = S5 ∧ Sub [(0, .str f)] E ∧ ∀ j, j < 4 → f[j]? = (hdr k)[j]?) ?_ (fun hj => ?_)
    · rintro E S' ⟨rfl, hE, hok⟩
      refine Go.weaken ?_ hE
      have hfn := find_none hok
      by_cases h12 : f.length < 12
      · have e1 : intOp .lss .i64 (f.length : Int) 12 = some (.bool true) := lss_i (decide_eq_true (by omega))
        repeat' first
         | refine Opl.val (op_int rfl rfl rfl e1) rfl ?_
         | refine Go.condT rfl ?_
         | refine .std ?_ | refine .nil ?_ | refine .seq ?_ | refine .region ?_ | refine .xs ?_ | refine .kb ?_ | refine .leaf ?_ | refine .block ?_ | refine .gn ?_ | refine .dr ?_ | fail
        refine At.fnr rfl rfl rfl ⟨?_, s5⟩
        unfold outP
        rw [hfn]
        simp only
        rw [if_pos (.inl h12)]; rfl
      · have e1 : intOp .lss .i64 (f.length : Int) 12 = some (.bool false) := lss_i (decide_eq_false (by omega))
        have hl4 : (slc f 4 8).length = 4 := by rw [slc_len (by omega)]
        have e2 : intOp .sub .i64 (f.length : Int) 8 = some (.int .i64 ((f.length - 8 : Nat) : Int)) := by
          simp only [intOp]; rw [wrap_i64_id (by constructor <;> omega)]; congr 2; omega
        have e3 : intOp .sub .i64 ((f.length - 8 : Nat) : Int) 4 = some (.int .i64 ((f.length - 12 : Nat) : Int)) := by
          simp only [intOp]; rw [wrap_i64_id (by constructor <;> omega)]; congr 2; omega
        have hnum4 : CallTo Tryz.prog 130 [.str (slc f 4 8)] S' (fun v U => v = .int .i64 (numV (slc f 4 8) : Nat) ∧ S' = U) (fun _ _ => False) := (number4 _ (Nat.le_of_eq hl4) S').mono (fun _ _ h => ⟨h.1, h.2.symm⟩) (fun _ _ h => h)
        have hn := num_eq hl4 (n := f.length - 12) (by omega)
        have e4 : intOp .neq .i64 ((numV (slc f 4 8) : Nat) : Int) ((f.length - 12 : Nat) : Int) = some (.bool (decide (slc f 4 8 ≠ be4 (f.length - 12)))) := neq_i (by
          by_cases hh : slc f 4 8 = be4 (f.length - 12)
          · rw [decide_eq_true (by rw [hn.2 hh]), decide_eq_false (by simp [hh])]; rfl
          · rw [decide_eq_false (by intro e; exact hh (hn.1 (by omega))), decide_eq_true hh]; rfl)
        have hs48 : ∀ {ev : Operand → Option V} {x : Operand}, ev x = some (.str f) → ev (.const (.int .i64 4)) = some (.int .i64 (4 : Nat)) → ev (.const (.int .i64 8)) = some (.int .i64 (8 : Nat)) → opE Tryz.prog (.slice 9 x (some (.const (.int .i64 4))) (some (.const (.int .i64 8))) none) ev S' = some (.str (slc f 4 8), S') := fun h1 h2 h3 => op_slcS h1 h2 h3 (by omega) (by omega)
        by_cases hh : slc f 4 8 = be4 (f.length - 12)
        · rw [decide_eq_false (by simp [hh])] at e4
          have e5 : intOp .sub .i64 (f.length : Int) 4 = some (.int .i64 ((f.length - 4 : Nat) : Int)) := by
            simp only [intOp]; rw [wrap_i64_id (by constructor <;> omega)]; congr 2; omega
          repeat' first
           | refine op_gyes rfl ?_ rfl
           | refine Opl.val (op_int rfl rfl rfl e1) rfl ?_
           | refine Opl.val (op_int rfl rfl rfl e2) rfl ?_
           | refine Opl.val (op_int rfl rfl rfl e3) rfl ?_
           | refine Opl.val (op_int rfl rfl rfl e4) rfl ?_
           | refine Opl.val (op_int rfl rfl rfl e5) rfl ?_
           | refine Opl.val (hs48 rfl rfl rfl) rfl ?_
           | (refine Opl.callv rfl (by kernel_rfl) hnum4 rfl (fun W hW => ?_) (fun _ _ hf => hf.elim); subst hW)
           | refine Go.condF rfl ?_
           | refine Go.draw [0, 0, 3, 7, 0, 0, 48, 127, 255] [0, 1, 2, 3, 4, 5, 6, 7, 8] (by kernel_rfl) (fun U => S' = U) ?_
           | refine .std ?_ | refine .nil ?_ | refine .seq ?_ | refine .region ?_ | refine .xs ?_ | refine .kb ?_ | refine .leaf ?_ | refine .block ?_ | refine .gn ?_ | refine .dr ?_ | fail
          have hl5 : (slc f (f.length - 4) f.length).length = 4 := by rw [slc_len (by omega)]; omega
          have hnum : CallTo Tryz.prog 130 [.str (slc f (f.length - 4) f.length)] S' (fun v U => v = .int .i64 (numV (slc f (f.length - 4) f.length) : Nat) ∧ S' = U) (fun _ _ => False) := (number4 _ (Nat.le_of_eq hl5) S').mono (fun _ _ h => ⟨h.1, h.2.symm⟩) (fun _ _ h => h)
          have hsum : CallTo Tryz.prog 35 [.str (f.take (f.length - 4))] S' (fun v U => v = .int .i64 (sumOf (f.take (f.length - 4)) : Nat) ∧ S' = U) (fun _ _ => False) := (sum35 _ (by simp; omega) S').mono (fun _ _ h => ⟨h.1, h.2.symm⟩) (fun _ _ h => h)
          have hn2 := num_eq hl5 (n := sumOf (f.take (f.length - 4))) (sumOf_lt _)
          obtain ⟨q2, hq2⟩ : ∃ q2, decide (slc f (f.length - 4) f.length ≠ be4 (sumOf (f.take (f.length - 4)))) = q2 := ⟨_, rfl⟩
          have e6 : intOp .neq .i64 ((numV (slc f (f.length - 4) f.length) : Nat) : Int) ((sumOf (f.take (f.length - 4)) : Nat) : Int) = some (.bool q2) := neq_i (by
            rw [← hq2]
            by_cases hh : slc f (f.length - 4) f.length = be4 (sumOf (f.take (f.length - 4)))
            · rw [decide_eq_true (by rw [hn2.2 hh]), decide_eq_false (by simp [hh])]; rfl
            · rw [decide_eq_false (by intro e; exact hh (hn2.1 (by omega))), decide_eq_true hh]; rfl)
          refine Drw.c0 rfl rfl (op_move rfl) rfl ?_
          refine Drw.c0 rfl rfl (op_move rfl) rfl ?_
          refine Drw.c0 rfl rfl (op_slcLo rfl rfl (by omega)) rfl ?_
          refine Drw.call rfl rfl (by kernel_rfl) hnum rfl (fun v U ⟨hv, hU⟩ => ⟨hU, ?_⟩)
          subst hv hU
          refine Drw.c0 rfl rfl (op_move rfl) rfl ?_
          refine Drw.c0 rfl rfl (op_move rfl) rfl ?_
          refine Drw.c0 rfl rfl (op_slcHi rfl rfl (by omega)) rfl ?_
          refine Drw.call rfl rfl (by kernel_rfl) hsum rfl (fun v U ⟨hv, hU⟩ => ⟨hU, ?_⟩)
          subst hv hU
          refine Drw.c0 rfl rfl (op_int rfl rfl rfl e6) rfl ?_
          refine Drw.nil (At.seq ?_)
          have hout : outP f k = if q2 = true then some (f.length - 4) else none := by
            unfold outP
            rw [hfn]
            simp only
            rw [if_neg (by intro h; rcases h with h | h; exact h12 h; exact h hh)]
            by_cases h : slc f (f.length - 4) f.length ≠ be4 (sumOf (f.take (f.length - 4)))
            · rw [if_pos h, if_pos (by rw [← hq2, decide_eq_true h])]
            · rw [if_neg h, if_neg (by rw [← hq2, decide_eq_false h]; simp)]
          rw [hout]
          cases q2
          · skip
            repeat' first
             | refine Go.condF rfl ?_
             | refine .std ?_ | refine .nil ?_ | refine .seq ?_ | refine .region ?_ | refine .xs ?_ | refine .kb ?_ | refine .leaf ?_ | refine .block ?_ | refine .gn ?_ | refine .dr ?_ | fail
            exact At.fnr rfl rfl rfl ⟨rfl, s5⟩
          · skip
            repeat' first
             | refine Go.condT rfl ?_
             | refine .std ?_ | refine .nil ?_ | refine .seq ?_ | refine .region ?_ | refine .xs ?_ | refine .kb ?_ | refine .leaf ?_ | refine .block ?_ | refine .gn ?_ | refine .dr ?_ | fail
            exact At.fnr rfl rfl rfl ⟨rfl, s5⟩
        · rw [decide_eq_true hh] at e4
          repeat' first
           | refine op_gyes rfl ?_ rfl
           | refine Opl.val (op_int rfl rfl rfl e1) rfl ?_
           | refine Opl.val (op_int rfl rfl rfl e2) rfl ?_
           | refine Opl.val (op_int rfl rfl rfl e3) rfl ?_
           | refine Opl.val (op_int rfl rfl rfl e4) rfl ?_
           | refine Opl.val (hs48 rfl rfl rfl) rfl ?_
           | (refine Opl.callv rfl (by kernel_rfl) hnum4 rfl (fun W hW => ?_) (fun _ _ hf => hf.elim); subst hW)
           | refine Go.condT rfl ?_
           | refine .std ?_ | refine .nil ?_ | refine .seq ?_ | refine .region ?_ | refine .xs ?_ | refine .kb ?_ | refine .leaf ?_ | refine .block ?_ | refine .gn ?_ | refine .dr ?_ | fail
          refine At.fnr rfl rfl rfl ⟨?_, s5⟩
          unfold outP
          rw [hfn]
          simp only
          rw [if_pos (.inr hh)]; rfl
    · obtain ⟨qq, hqq⟩ : ∃ qq, (!q || decide (f.length < 4)) = qq := ⟨_, rfl⟩
      rw [hqq]
      cases qq
      · simp only [Bool.or_eq_false_iff, Bool.not_eq_false', decide_eq_false_iff_not] at hqq
        repeat' first
         | exact hj _ _ ⟨rfl, ⟨rfl, trivial⟩, hown hqq.1 hqq.2⟩
         | refine Go.condF rfl ?_
         | refine .std ?_ | refine .nil ?_ | refine .seq ?_ | refine .region ?_ | refine .xs ?_ | refine .kb ?_ | refine .leaf ?_ | refine .block ?_ | refine .gn ?_ | refine .dr ?_ | fail
      · skip
        repeat' first
         | refine Go.condT rfl ?_
         | refine Opl.val (op_load rfl hlw) rfl ?_
         | refine .std ?_ | refine .nil ?_ | refine .seq ?_ | refine .region ?_ | refine .xs ?_ | refine .kb ?_ | refine .leaf ?_ | refine .block ?_ | refine .gn ?_ | refine .dr ?_ | fail
        refine Go.weaken (E' := [(0, .str f), (23, .agg (ofBytes (hdr k))), (24, .int .i64 (0 : Nat))]) ?_ ⟨rfl, rfl, rfl, trivial⟩
        refine Go.loop_ind (α := Nat) (fun i => 4 - i) (fun i E S' => S' = S5 ∧ E = [(0, .str f), (23, .agg (ofBytes (hdr k))), (24, .int .i64 i)] ∧ i ≤ 4 ∧ ∀ j, j < i → f[j]? = (hdr k)[j]?) ?_ 0 _ _ ⟨rfl, rfl, by omega, by omega⟩
        rintro i E S6 ⟨rfl, rfl, hi, hok⟩ IH
        by_cases hi4 : i < 4
        · obtain ⟨b, hb, hidx⟩ := hdr_at k i hi4
          have e1 : intOp .lss .i64 (i : Int) 4 = some (.bool true) := lss_i (decide_eq_true (by omega))
          by_cases hil : f.length ≤ i
          · have e2 : intOp .geq .i64 (i : Int) (f.length : Int) = some (.bool true) := geq_i (decide_eq_true (by omega))
            repeat' first
             | refine Opl.val (op_int rfl rfl rfl e1) rfl ?_
             | refine Opl.val (op_int rfl rfl rfl e2) rfl ?_
             | refine Go.condT rfl ?_
             | refine Opl.val (op_idxA rfl rfl hidx) rfl ?_
             | refine .std ?_ | refine .nil ?_ | refine .seq ?_ | refine .region ?_ | refine .xs ?_ | refine .kb ?_ | refine .leaf ?_ | refine .block ?_ | refine .gn ?_ | refine .dr ?_ | fail
            refine At.fnr rfl rfl rfl ⟨?_, s5⟩
            rw [find_hdr hi4 hok (by rw [hb, List.getElem?_eq_none hil]; simp)]; rfl
          · have e2 : intOp .geq .i64 (i : Int) (f.length : Int) = some (.bool false) := geq_i (decide_eq_false (by omega))
            have hch : f[i]? = some f[i] := List.getElem?_eq_getElem (by omega)
            by_cases hc : f[i] = b
            · have e3 : intOp .neq .u8 (f[i].toNat : Int) (b.toNat : Int) = some (.bool false) := neq_i (by rw [hc]; simp)
              repeat' first
               | refine op_gyes rfl ?_ rfl
               | refine Opl.val (op_int rfl rfl rfl e1) rfl ?_
               | refine Opl.val (op_int rfl rfl rfl e2) rfl ?_
               | refine Opl.val (op_int rfl rfl rfl e3) rfl ?_
               | refine Go.condT rfl ?_
               | refine Go.condF rfl ?_
               | refine Opl.val (op_idxA rfl rfl hidx) rfl ?_
               | refine Opl.val (op_idxS rfl rfl hch) rfl ?_
               | refine Opl.val (op_int rfl rfl rfl (inc_ok (i := i) (by omega))) rfl ?_
               | refine .std ?_ | refine .nil ?_ | refine .seq ?_ | refine .region ?_ | refine .xs ?_ | refine .kb ?_ | refine .leaf ?_ | refine .block ?_ | refine .gn ?_ | refine .dr ?_ | fail
              refine (IH (i + 1) _ S6 (by omega) ⟨rfl, rfl, hi4, fun j hj => ?_⟩).weaken ⟨rfl, rfl, rfl, trivial⟩
              by_cases hji : j = i
              · rw [hji, hch, hb, hc]
              · exact hok j (by omega)
            · have e3 : intOp .neq .u8 (f[i].toNat : Int) (b.toNat : Int) = some (.bool true) := neq_i (by
                have : f[i].toNat ≠ b.toNat := fun e => hc (UInt8.toNat.inj e)
                rw [decide_eq_false (by omega)]; rfl)
              repeat' first
               | refine op_gyes rfl ?_ rfl
               | refine Opl.val (op_int rfl rfl rfl e1) rfl ?_
               | refine Opl.val (op_int rfl rfl rfl e2) rfl ?_
               | refine Opl.val (op_int rfl rfl rfl e3) rfl ?_
               | refine Go.condT rfl ?_
               | refine Opl.val (op_idxA rfl rfl hidx) rfl ?_
               | refine Opl.val (op_idxS rfl rfl hch) rfl ?_
               | refine .std ?_ | refine .nil ?_ | refine .seq ?_ | refine .region ?_ | refine .xs ?_ | refine .kb ?_ | refine .leaf ?_ | refine .block ?_ | refine .gn ?_ | refine .dr ?_ | fail
              refine At.fnr rfl rfl rfl ⟨?_, s5⟩
              rw [find_hdr hi4 hok (by rw [hb, hch]; simp [hc])]; rfl
        · have e1 : intOp .lss .i64 (i : Int) 4 = some (.bool false) := lss_i (decide_eq_false (by omega))
          repeat' first
           | exact hj _ _ ⟨rfl, ⟨rfl, trivial⟩, fun j hj => hok j (by omega)⟩
           | refine Opl.val (op_int rfl rfl rfl e1) rfl ?_
           | refine Go.condF rfl ?_
           | refine .std ?_ | refine .nil ?_ | refine .seq ?_ | refine .region ?_ | refine .xs ?_ | refine .kb ?_ | refine .leaf ?_ | refine .block ?_ | refine .gn ?_ | refine .dr ?_ | fail
  · refine ⟨fun hj => ?_⟩
    by_cases h4 : f.length < 4
    · have e1 : intOp .lss .i64 (f.length : Int) 4 = some (.bool true) := lss_i (decide_eq_true (by omega))
      cases q
      all_goals
        rw [decide_eq_true h4] at hj
        repeat' first
         | exact hj _ ⟨rfl, rfl, rfl, trivial⟩
         | refine op_gyes rfl ?_ rfl
         | refine Opl.val (op_load rfl hlo) rfl ?_
         | refine Opl.val (op_load rfl hlw) rfl ?_
         | refine Opl.val (op_bin rfl rfl (hne _ _)) rfl ?_
         | refine Opl.val (op_int rfl rfl rfl e1) rfl ?_
         | refine .std ?_ | refine .nil ?_ | refine .seq ?_ | refine .region ?_ | refine .xs ?_ | refine .kb ?_ | refine .leaf ?_ | refine .block ?_ | refine .gn ?_ | refine .dr ?_ | fail
    · have e1 : intOp .lss .i64 (f.length : Int) 4 = some (.bool false) := lss_i (decide_eq_false (by omega))
      cases q
      all_goals
        rw [decide_eq_false h4] at hj
        repeat' first
         | exact hj _ ⟨rfl, rfl, rfl, trivial⟩
         | refine op_gyes rfl ?_ rfl
         | refine Opl.val (op_load rfl hlo) rfl ?_
         | refine Opl.val (op_load rfl hlw) rfl ?_
         | refine Opl.val (op_bin rfl rfl (hne _ _)) rfl ?_
         | refine Opl.val (op_int rfl rfl rfl e1) rfl ?_
         | refine .std ?_ | refine .nil ?_ | refine .seq ?_ | refine .region ?_ | refine .xs ?_ | refine .kb ?_ | refine .leaf ?_ | refine .block ?_ | refine .gn ?_ | refine .dr ?_ | fail
end Go.Proofs.YtilldjgagokcfaaGreat
