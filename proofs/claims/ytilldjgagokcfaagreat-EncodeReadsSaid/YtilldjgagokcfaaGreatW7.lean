import Derived.Test.YtilldjgagokcfaaGreatW3
import Derived.Test.YtilldjgagokcfaaGreatE9
set_option linter.unusedVariables false
set_option linter.unusedSimpArgs false
namespace Go.Ev
open Go.RowKit
structure Same (S S' : St) : Prop where
  next : S.next ≤ S'.next
  find : ∀ id, id < S.next → S'.h.find id = S.h.find id
theorem Same.refl (S : St) : Same S S := ⟨Nat.le_refl _, fun _ _ => rfl⟩
theorem Same.trans {A B C : St} (h : Same A B) (k : Same B C) : Same A C := ⟨Nat.le_trans h.next k.next, fun id hi => by rw [k.find id (Nat.lt_of_lt_of_le hi h.next), h.find id hi]⟩
theorem Same.new (S : St) (o : Ob) : Same S (S.new o) := ⟨by simp [St.new], fun id hi => by simp only [St.new, Tr.find_put, if_neg (Nat.ne_of_lt hi)]⟩
theorem Same.keepB {S S' : St} (h : Same S S') (c : Nat) : KeepB S S' c := ⟨h.next, fun id t cs hi _ hb => by rw [h.find id hi]; exact hb⟩
theorem Same.put {S S' : St} (h : Same S S') {id : Nat} (hid : S.next ≤ id) (o : Ob) : Same S { S' with h := S'.h.put id o } :=
  ⟨h.next, fun j hj => by simp only [Tr.find_put]; rw [if_neg (by omega)]; exact h.find j hj⟩
theorem Same.del {S S' : St} (h : Same S S') {id : Nat} (hid : S.next ≤ id) : Same S { S' with h := S'.h.del id } :=
  ⟨h.next, fun j hj => by simp only [Tr.find_del]; rw [if_neg (by omega)]; exact h.find j hj⟩
theorem Same.roll {S U : St} (h : Same S U) {id : Nat} (hid : S.next ≤ id) : Same S (St.new { U with h := U.h.del id } .tok) := (h.del hid).trans (Same.new _ _)
theorem Same.pt {S S' : St} (h : Same S S') {id : Nat} {off : Nat} {cs : List V} (hid : id < S.next) (hp : Pt S (.ptr id off) cs) : Pt S' (.ptr id off) cs := by
  obtain ⟨e, bs, h1, h2⟩ := hp
  exact ⟨e, bs, by rw [h.find id hid]; exact h1, h2⟩
section
variable {P : Program} {ev : Operand → Option V} {S S' : St} {s d e : TypeId}
theorem conv_bytes [hs : ElT P s e] [he : ConI P e .u8] [hd : IsStr P d] {lt : Option TypeId} {es : List V} {tk : Tk} {bs : List UInt8} (h : toBytes es = some bs) : convertE P s d (.list lt 1 es tk) S = some (.str bs, S) := by
  simp only [convertE, hs.h, hd.h, he.h, h, Option.map]
theorem conv_bytesN [hs : ElT P s e] [he : ConI P e .u8] [hd : IsStr P d] : convertE P s d .nils S = some (.str [], S) := by
  simp only [convertE, hs.h, hd.h, he.h]
theorem conv_bytesA [hs : ElT P s e] [he : ConI P e .u8] [hd : IsStr P d] {id off n m : Nat} {cs : List V} {bs : List UInt8} (hr : rd S (.ptr id off) n = some cs) (h : toBytes cs = some bs) : convertE P s d (.arr id off n m) S = some (.str bs, S) := by
  simp only [convertE, hs.h, hd.h, he.h, hr, h, Option.map]
theorem toBytes_of : ∀ (l : List UInt8), toBytes (ofBytes l) = some l
  | [] => rfl
  | x :: l => by
    have := toBytes_of l
    simp only [ofBytes, List.map_cons, toBytes] at this ⊢
    rw [this]
    simp [Option.map]
end
def be4 (n : Nat) : List UInt8 := [UInt8.ofNat (n / 16777216 % 256), UInt8.ofNat (n / 65536 % 256), UInt8.ofNat (n / 256 % 256), UInt8.ofNat (n % 256)]
theorem shr_byte (n k : Nat) : (IntKind.wrap .u8 ((n : Int).fdiv (2 ^ k))).toNat = n / 2 ^ k % 256 := by
  rw [wrap_u8, Int.fdiv_eq_ediv_of_nonneg _ (Int.le_of_lt (Int.pow_pos (by decide)))]
  have : ((n : Int) / 2 ^ k) = ((n / 2 ^ k : Nat) : Int) := by simp
  rw [this]
  omega
def adl : List UInt8 → Nat → Nat → Nat × Nat
  | [], a, b => (a, b)
  | c :: l, a, b => adl l ((a + c.toNat) % 65521) ((b + (a + c.toNat) % 65521) % 65521)
theorem adl_lt : ∀ (l : List UInt8) (a b : Nat), a < 65521 → b < 65521 → (adl l a b).1 < 65521 ∧ (adl l a b).2 < 65521
  | [], a, b, ha, hb => ⟨ha, hb⟩
  | c :: l, a, b, ha, hb => adl_lt l _ _ (Nat.mod_lt _ (by omega)) (Nat.mod_lt _ (by omega))
theorem adl_append : ∀ (l m : List UInt8) (a b : Nat), adl (l ++ m) a b = adl m (adl l a b).1 (adl l a b).2
  | [], m, a, b => rfl
  | c :: l, m, a, b => adl_append l m _ _
def sumOf (l : List UInt8) : Nat := 65536 * (adl l 1 0).2 + (adl l 1 0).1
theorem sumOf_lt (l : List UInt8) : sumOf l < 4294967296 := by
  have := adl_lt l 1 0 (by omega) (by omega)
  unfold sumOf; omega
theorem adl_drop {s : List UInt8} {k : Nat} (h : k < s.length) (a b : Nat) : adl (s.drop k) a b = adl (s.drop (k + 1)) ((a + s[k].toNat) % 65521) ((b + (a + s[k].toNat) % 65521) % 65521) := by
  rw [List.drop_eq_getElem_cons h]; rfl
theorem sum_one (m : Nat) (c : UInt8) (hm : m < 65521) : intOp .rem .i64 (IntKind.wrap .i64 ((m : Int) + IntKind.wrap .i64 (c.toNat : Int))) 65521 = some (.int .i64 (((m + c.toNat) % 65521 : Nat) : Int)) := by
  have hc := c.toNat_lt
  rw [wrap_i64_id (n := (c.toNat : Int)) (by constructor <;> omega), wrap_i64_id (by constructor <;> omega)]
  simp only [intOp]
  rw [if_neg (by decide), Int.tmod_eq_emod_of_nonneg (by omega)]
  simp
theorem sum_two (m n : Nat) (hm : m < 65521) (hn : n < 65521) : intOp .rem .i64 (IntKind.wrap .i64 ((n : Int) + (m : Int))) 65521 = some (.int .i64 (((n + m) % 65521 : Nat) : Int)) := by
  rw [wrap_i64_id (by constructor <;> omega)]
  simp only [intOp]
  rw [if_neg (by decide), Int.tmod_eq_emod_of_nonneg (by omega)]
  simp
theorem sum_end (m n : Nat) (hm : m < 65521) (hn : n < 65521) : V.int .i64 (IntKind.wrap .i64 (IntKind.wrap .i64 (65536 * (n : Int)) + (m : Int))) = .int .i64 ((65536 * n + m : Nat) : Int) := by
  rw [wrap_i64_id (n := 65536 * (n : Int)) (by constructor <;> omega), wrap_i64_id (by constructor <;> omega)]
  simp
end Go.Ev
namespace Go.Proofs.YtilldjgagokcfaaGreat
open Go.RowKit Go.Ev
set_option maxRecDepth 100000
set_option linter.unusedVariables false
theorem sum35 (s : List UInt8) (hs : s.length < 4611686018427387904) (S : St) : CallTo Tryz.prog 35 [.str s] S (fun v S' => v = .int .i64 (sumOf s : Nat) ∧ S' = S) (fun _ _ => False) := by
  refine CallTo.of (n := 27) Tryz.func35 rfl rfl ?_
  repeat' first | refine .std ?_ | refine .nil ?_ | refine .seq ?_ | refine .region ?_ | refine .xs ?_ | refine .kb ?_ | refine .leaf ?_ | refine .block ?_ | refine .gn ?_ | refine .dr ?_ | fail
  refine Go.weaken (E' := [(0, .str s), (3, .int .i64 (1 : Nat)), (4, .int .i64 (0 : Nat)), (7, .int .i64 s.length),(8, .int .i64 (0 : Nat))]) ?_ ⟨rfl, rfl, rfl, rfl,rfl, trivial⟩
  refine Go.loop_ind (α := Nat × Nat × Nat) (fun x => s.length - x.1) (fun x E S' => S' = S ∧ E = [(0, .str s), (3, .int .i64 x.2.1), (4, .int .i64 x.2.2), (7, .int .i64 s.length),(8, .int .i64 x.1)] ∧ x.1 ≤ s.length ∧ x.2.1 < 65521 ∧ x.2.2 < 65521 ∧ adl (s.drop x.1) x.2.1 x.2.2 = adl s 1 0) ?_ (0, 1, 0) _ _ ⟨rfl, rfl, Nat.zero_le _, by decide, by decide, rfl⟩
  rintro ⟨k, m, n⟩ E S1 ⟨rfl, rfl, hk, hm, hn, hadl⟩ IH
  simp only at hk hm hn hadl
  repeat' first | refine .std ?_ | refine .nil ?_ | refine .seq ?_ | refine .region ?_ | refine .xs ?_ | refine .kb ?_ | refine .leaf ?_ | refine .block ?_ | refine .gn ?_ | refine .dr ?_ | fail
  refine Go.cond rfl (fun hq => ?_) (fun hq => ?_)
  · have hq : k < s.length := by have := of_decide_eq_true hq; omega
    have hch : s[k]? = some s[k] := List.getElem?_eq_getElem hq
    rw [adl_drop hq] at hadl
    repeat' first
     | refine Opl.val (op_idxS rfl rfl hch) rfl ?_
     | refine Opl.val (op_int rfl rfl rfl (sum_one m s[k] hm)) rfl ?_
     | refine Opl.val (op_int rfl rfl rfl (sum_two ((m + s[k].toNat) % 65521) n (Nat.mod_lt _ (by omega)) hn)) rfl ?_
     | refine Opl.val (op_int rfl rfl rfl (inc_ok (i := k) (by omega))) rfl ?_
     | refine .std ?_ | refine .nil ?_ | refine .seq ?_ | refine .region ?_ | refine .xs ?_ | refine .kb ?_ | refine .leaf ?_ | refine .block ?_ | refine .gn ?_ | refine .dr ?_ | fail
    exact (IH (k + 1, (m + s[k].toNat) % 65521, (n + (m + s[k].toNat) % 65521) % 65521) _ S1 (by simp only; omega) ⟨rfl, rfl, hq, Nat.mod_lt _ (by omega), Nat.mod_lt _ (by omega), hadl⟩).weaken ⟨rfl, rfl, rfl, rfl,rfl, trivial⟩
  · have hq : k = s.length := by have := of_decide_eq_false hq; omega
    subst hq
    rw [List.drop_eq_nil_of_le (Nat.le_refl _)] at hadl
    repeat' first | refine .std ?_ | refine .nil ?_ | refine .seq ?_ | refine .region ?_ | refine .xs ?_ | refine .kb ?_ | refine .leaf ?_ | refine .block ?_ | refine .gn ?_ | refine .dr ?_ | fail
    refine At.fnr rfl rfl rfl ⟨?_, rfl⟩
    have : sumOf s = 65536 * n + m := by unfold sumOf; rw [← hadl]; rfl
    rw [this]
    exact sum_end m n hm hn
theorem sum73 (s : List UInt8) (hs : s.length < 4611686018427387904) (S : St) : CallTo Tryz.prog 73 [.str s] S (fun v S' => v = .int .i64 (sumOf s : Nat) ∧ S' = S) (fun _ _ => False) := by
  refine CallTo.of (n := 27) Tryz.func73 rfl rfl ?_
  repeat' first | refine .std ?_ | refine .nil ?_ | refine .seq ?_ | refine .region ?_ | refine .xs ?_ | refine .kb ?_ | refine .leaf ?_ | refine .block ?_ | refine .gn ?_ | refine .dr ?_ | fail
  refine Go.weaken (E' := [(0, .str s), (3, .int .i64 (1 : Nat)), (4, .int .i64 (0 : Nat)), (5, .int .i64 (0 : Nat))]) ?_ ⟨rfl, rfl, rfl, rfl, trivial⟩
  refine Go.loop_ind (α := Nat × Nat × Nat) (fun x => s.length - x.1) (fun x E S' => S' = S ∧ E = [(0, .str s), (3, .int .i64 x.2.1), (4, .int .i64 x.2.2), (5, .int .i64 x.1)] ∧ x.1 ≤ s.length ∧ x.2.1 < 65521 ∧ x.2.2 < 65521 ∧ adl (s.drop x.1) x.2.1 x.2.2 = adl s 1 0) ?_ (0, 1, 0) _ _ ⟨rfl, rfl, Nat.zero_le _, by decide, by decide, rfl⟩
  rintro ⟨k, m, n⟩ E S1 ⟨rfl, rfl, hk, hm, hn, hadl⟩ IH
  simp only at hk hm hn hadl
  repeat' first | refine .std ?_ | refine .nil ?_ | refine .seq ?_ | refine .region ?_ | refine .xs ?_ | refine .kb ?_ | refine .leaf ?_ | refine .block ?_ | refine .gn ?_ | refine .dr ?_ | fail
  refine Go.cond rfl (fun hq => ?_) (fun hq => ?_)
  · have hq : k < s.length := by have := of_decide_eq_true hq; omega
    have hch : s[k]? = some s[k] := List.getElem?_eq_getElem hq
    rw [adl_drop hq] at hadl
    repeat' first
     | refine Opl.val (op_idxS rfl rfl hch) rfl ?_
     | refine Opl.val (op_int rfl rfl rfl (sum_one m s[k] hm)) rfl ?_
     | refine Opl.val (op_int rfl rfl rfl (sum_two ((m + s[k].toNat) % 65521) n (Nat.mod_lt _ (by omega)) hn)) rfl ?_
     | refine Opl.val (op_int rfl rfl rfl (inc_ok (i := k) (by omega))) rfl ?_
     | refine .std ?_ | refine .nil ?_ | refine .seq ?_ | refine .region ?_ | refine .xs ?_ | refine .kb ?_ | refine .leaf ?_ | refine .block ?_ | refine .gn ?_ | refine .dr ?_ | fail
    exact (IH (k + 1, (m + s[k].toNat) % 65521, (n + (m + s[k].toNat) % 65521) % 65521) _ S1 (by simp only; omega) ⟨rfl, rfl, hq, Nat.mod_lt _ (by omega), Nat.mod_lt _ (by omega), hadl⟩).weaken ⟨rfl, rfl, rfl, rfl, trivial⟩
  · have hq : k = s.length := by have := of_decide_eq_false hq; omega
    subst hq
    rw [List.drop_eq_nil_of_le (Nat.le_refl _)] at hadl
    repeat' first | refine .std ?_ | refine .nil ?_ | refine .seq ?_ | refine .region ?_ | refine .xs ?_ | refine .kb ?_ | refine .leaf ?_ | refine .block ?_ | refine .gn ?_ | refine .dr ?_ | fail
    refine At.fnr rfl rfl rfl ⟨?_, rfl⟩
    have : sumOf s = 65536 * n + m := by unfold sumOf; rw [← hadl]; rfl
    rw [this]
    exact sum_end m n hm hn
theorem bslG (x : Int) : buildSliceE Tryz.prog 73 1 [(0, .int .u8 x)] = some (.list (some 5) 1 [.int .u8 x] .exact) := by kernel_rfl
theorem one_all (x : Int) : ∀ z ∈ [V.int .u8 x], z.cells.length = 1 ∧ z.cells.all V.one = true := by
  intro z hz
  simp only [List.mem_cons, List.not_mem_nil, or_false] at hz
  subst hz
  exact ⟨rfl, rfl⟩
theorem bytes4 (n : Nat) : [UInt8.ofNat (IntKind.wrap .u8 ((n : Int).fdiv (2 ^ 24))).toNat, UInt8.ofNat (IntKind.wrap .u8 ((n : Int).fdiv (2 ^ 16))).toNat, UInt8.ofNat (IntKind.wrap .u8 ((n : Int).fdiv (2 ^ 8))).toNat, UInt8.ofNat (IntKind.wrap .u8 ((n : Int).fdiv (2 ^ 0))).toNat] = be4 n := by
  simp only [shr_byte, be4, Nat.pow_zero, Nat.div_one]
set_option maxHeartbeats 1000000 in
theorem four56 (n : Nat) (S : St) : CallTo Tryz.prog 56 [.int .i64 n] S (fun v S' => v = .str (be4 n) ∧ Same S S') (fun _ _ => False) := by
  refine CallTo.of (n := 21) Tryz.func56 rfl rfl ?_
  have ms : makeSliceE Tryz.prog 73 (.int .i64 0) (.int .i64 4) S = some (.list (some 5) 1 [] (.own S.next), S.new .tok) := by kernel_rfl
  repeat' first
   | refine Opl.val (op_mksl rfl rfl ms) rfl ?_
   | refine Go.loop ?_
   | refine Go.condT rfl ?_
   | refine Go.condF rfl ?_
   | refine Opl.val (op_shift rfl rfl rfl rfl) rfl ?_
   | refine Opl.val (op_buildSlice1 rfl (bslG _)) rfl ?_
   | refine Opl.val (op_app rfl rfl (app_own (by simp [St.new, Tr.find_put]) rfl (one_all _) rfl rfl)) rfl ?_
   | refine Opl.val (op_conv rfl (conv_bytes rfl)) rfl ?_
   | refine .std ?_ | refine .nil ?_ | refine .seq ?_ | refine .region ?_ | refine .xs ?_ | refine .kb ?_ | refine .leaf ?_ | refine .block ?_ | refine .gn ?_ | refine .dr ?_ | fail
  refine At.fnr rfl rfl rfl ⟨congrArg V.str (bytes4 n), ?_⟩
  exact ((((Same.new S .tok).roll (Nat.le_refl _)).roll (by simp [St.new])).roll (by simp [St.new]; omega)).roll (by simp [St.new]; omega)
end Go.Proofs.YtilldjgagokcfaaGreat
