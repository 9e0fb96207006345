/-
  EncodeKnown: what the law's function comes to.
-/
import Derived.Test.YtilldjgagokcfaaF1
import Derived.Test.YtilldjgagokcfaaM1
set_option linter.unusedVariables false
set_option linter.unusedSimpArgs false
namespace Go.Ev
open Go.RowKit

theorem quo_byte2 (n k : Nat) (hn : n < 4294967296) : (IntKind.wrap .u8 (IntKind.wrap .i64 ((n : Int).tdiv (k : Int)))).toNat = n / k % 256 := by
  have e : ((n : Int).tdiv (k : Int)) = ((n / k : Nat) : Int) := by rw [Int.tdiv_eq_ediv_of_nonneg (by omega)]; simp
  have hle : n / k ≤ n := Nat.div_le_self _ _
  rw [e]
  generalize n / k = m at *
  rw [wrap_i64_id (by constructor <;> omega), wrap_u8]
  omega

theorem rem_byte2 (n : Nat) : (IntKind.wrap .u8 (n : Int)).toNat = n % 256 := by
  rw [wrap_u8]; omega

theorem toBytes4 (n : Nat) (hn : n < 4294967296) : toBytes [.int .u8 (IntKind.wrap .u8 (IntKind.wrap .i64 ((n : Int).tdiv 16777216))), .int .u8 (IntKind.wrap .u8 (IntKind.wrap .i64 ((n : Int).tdiv 65536))), .int .u8 (IntKind.wrap .u8 (IntKind.wrap .i64 ((n : Int).tdiv 256))), .int .u8 (IntKind.wrap .u8 (n : Int))] = some (be4 n) := by
  have e1 := quo_byte2 n 16777216 hn
  have e2 := quo_byte2 n 65536 hn
  have e3 := quo_byte2 n 256 hn
  have e4 := rem_byte2 n
  unfold be4
  rw [← e1, ← e2, ← e3, ← e4]
  rfl

theorem op_bd3 {P : Program} {ev : Operand → Option V} {S : St} {x y z : Operand} {t : TypeId} {v w u r : V} {i j k : Nat} (h : ev x = some v) (h2 : ev y = some w) (h3 : ev z = some u) (hb : buildE P t [(i, v), (j, w), (k, u)] = some r) : opE P (.build t #[(i, x), (j, y), (k, z)]) ev S = some (r, S) := by
  simp [opE, mapO, h, h2, h3, hb]

theorem op_bsG {P : Program} {ev : Operand → Option V} {S : St} {t : TypeId} {n : Nat} {ps : Array (Nat × Operand)} {l : List (Nat × V)} {r : V} (h : mapO (fun (p : Nat × Operand) => (ev p.2).map fun v => (p.1, v)) ps.toList = some l) (hb : buildSliceE P t n l = some r) : opE P (.buildSlice t n ps) ev S = some (r, S) := by
  simp only [opE]
  rw [h]
  simp [hb]

def tupOf : Option Rs → Bool
  | some (.ret (.tup _) _) => true
  | _ => false

theorem orc_not {P : Program} {f : FuncId} (h : ¬ ClosedT P f) (S : St) : orc P (.call f []) S = none := by
  simp only [orc, if_neg h]

theorem orc_tup {P : Program} {f : FuncId} (n : Nat) (h : tupOf (run P n (.call f []) S0) = true) (S : St) : orc P (.call f []) S = none := by
  refine orc_not (fun hc => ?_) S
  obtain ⟨m, S', hm⟩ := hc
  unfold tupOf at h
  split at h
  · rename_i vs S2 he
    have h1 := run_le P (Nat.le_max_left n m) he
    have h2 := run_le P (Nat.le_max_right n m) hm
    rw [h1] at h2
    cases h2
  · cases h

/-- The examples' bytes. -/
def conB : List UInt8 := [6, 0, 2, 65, 2, 2, 2, 0, 0, 0, 0]
def fiveB : List UInt8 := [0, 10, 0, 0, 0]

theorem encI_small (n : Nat) (h : n < 64) : encI (n : Int) = [UInt8.ofNat (2 * n)] := by
  unfold encI zig
  rw [if_pos (by omega), vb_lt (by omega)]
  simp

end Go.Ev

namespace Go.Proofs.Ytilldjgagokcfaa
open Go.RowKit Go.Ev
set_option maxRecDepth 100000
set_option linter.unusedVariables false

def conC : List V := [.int .i64 3, .int .i64 0, .str [65], .list (some 29) 5 [.agg [.int .i64 1, .int .i64 1, .str [], .nils, .nils]] .exact, .nils]

theorem conEnc : Enc (sch 2) conC conB := by
  have hi : ∀ n : Nat, n < 64 → in64 (n : Int) := fun n h => by constructor <;> omega
  have e0 : encI ((0 : Nat) : Int) = [0] := encI_small 0 (by decide)
  have e1 : encI ((1 : Nat) : Int) = [2] := encI_small 1 (by decide)
  have e3 : encI ((3 : Nat) : Int) = [6] := encI_small 3 (by decide)
  have s0 : encS [] = [0] := by
    show encI ((0 : Nat) : Int) ++ [] = _
    rw [e0]; rfl
  have s1 : encS [65] = [2, 65] := by
    show encI ((1 : Nat) : Int) ++ [65] = _
    rw [e1]; rfl
  have nilL : ∀ t, Enc [.list t] [.nils] [0] := fun t => by
    have := Enc.list (t := t) (v := .nils) (.inl rfl) (by simp [elems]) (EncE.nil t)
    have h : Enc [.list t] [.nils] (encI ((0 : Nat) : Int) ++ []) := this
    rw [e0] at h
    exact h
  have inner : Enc (sch 2) [.int .i64 1, .int .i64 1, .str [], .nils, .nils] [2, 2, 0, 0, 0] := by
    have := (Enc.int (hi 1 (by decide))).app ((Enc.int (hi 1 (by decide))).app ((Enc.str (s := []) (by simp)).app ((nilL 2).app (nilL 3))))
    rw [e1, s0] at this
    exact this
  have el : EncE 2 [.agg [.int .i64 1, .int .i64 1, .str [], .nils, .nils]] [2, 2, 0, 0, 0] := by
    have := (EncE.nil 2).snoc (e := .agg [.int .i64 1, .int .i64 1, .str [], .nils, .nils]) inner
    exact this
  have lst : Enc [.list 2] [.list (some 29) 5 [.agg [.int .i64 1, .int .i64 1, .str [], .nils, .nils]] .exact] [2, 2, 2, 0, 0, 0] := by
    have := Enc.list (t := 2) (v := .list (some 29) 5 [.agg [.int .i64 1, .int .i64 1, .str [], .nils, .nils]] .exact) (.inr (.inr ⟨_, _, _, rfl⟩)) (by simp [elems]) el
    simp only [elems, List.length_cons, List.length_nil, Nat.zero_add, e1] at this
    exact this
  have := (Enc.int (hi 3 (by decide))).app ((Enc.int (hi 0 (by decide))).app ((Enc.str (s := [65]) (by simp)).app (lst.app (nilL 3))))
  rw [e3, e0, s1] at this
  exact this

theorem bytesK {es : List V} {bs : List UInt8} (h : toBytes es = some bs) (S : St) : CallTo Try.prog 25 [.list (some 5) 1 es .exact] S (fun v S' => v = .str bs ∧ S' = S) (fun _ _ => False) := by
  refine CallTo.of (n := 5) Try.func25 rfl rfl ?_
  repeat' first
   | refine Opl.val (op_conv rfl (conv_bytes h)) rfl ?_
   | refine .std ?_ | refine .nil ?_ | refine .seq ?_ | refine .region ?_ | refine .xs ?_ | refine .kb ?_ | refine .leaf ?_ | refine .block ?_ | refine .gn ?_ | refine .dr ?_ | fail
  exact At.fnr rfl rfl rfl ⟨rfl, rfl⟩

theorem bsl4K (a b c d : Int) : buildSliceE Try.prog 83 4 [(0, .int .u8 a), (1, .int .u8 b), (2, .int .u8 c), (3, .int .u8 d)] = some (.list (some 5) 1 [.int .u8 a, .int .u8 b, .int .u8 c, .int .u8 d] .exact) := by kernel_rfl

theorem sealedK (s : List UInt8) (hs : s.length < 1000000) (S : St) : CallTo Try.prog 14 [.str s] S (fun v S' => v = .str (s ++ be4 (sumOf s)) ∧ S = S') (fun _ _ => False) := by
  refine CallTo.of (n := 21) Try.func14 rfl rfl ?_
  have hsum : CallTo Try.prog 10 [.str s] S (fun v S' => v = .int .i64 (sumOf s : Nat) ∧ S = S') (fun _ _ => False) := (sum10 s (by omega) S).mono (fun _ _ h => ⟨h.1, h.2.symm⟩) (fun _ _ h => h)
  have hb : CallTo Try.prog 25 [.list (some 5) 1 [.int .u8 (IntKind.wrap .u8 (IntKind.wrap .i64 (((sumOf s : Nat) : Int).tdiv 16777216))), .int .u8 (IntKind.wrap .u8 (IntKind.wrap .i64 (((sumOf s : Nat) : Int).tdiv 65536))), .int .u8 (IntKind.wrap .u8 (IntKind.wrap .i64 (((sumOf s : Nat) : Int).tdiv 256))), .int .u8 (IntKind.wrap .u8 ((sumOf s : Nat) : Int))] .exact] S (fun v S' => v = .str (be4 (sumOf s)) ∧ S = S') (fun _ _ => False) :=
    (bytesK (toBytes4 _ (sumOf_lt s)) S).mono (fun _ _ h => ⟨h.1, h.2.symm⟩) (fun _ _ h => h)
  have hadd : strOp .add s (be4 (sumOf s)) = some (.str (s ++ be4 (sumOf s))) := str_add (by rw [be4_len]; omega)
  repeat' first
   | (refine Opl.callv rfl (by kernel_rfl) hsum rfl (fun W hW => ?_) (fun _ _ hf => hf.elim); subst hW)
   | refine Opl.val (op_bs4 rfl rfl rfl rfl (bsl4K _ _ _ _)) rfl ?_
   | (refine Opl.callv rfl (by kernel_rfl) hb rfl (fun W hW => ?_) (fun _ _ hf => hf.elim); subst hW)
   | refine Opl.val (op_str rfl rfl hadd) rfl ?_
   | refine .std ?_ | refine .nil ?_ | refine .seq ?_ | refine .region ?_ | refine .xs ?_ | refine .kb ?_ | refine .leaf ?_ | refine .block ?_ | refine .gn ?_ | refine .dr ?_ | fail
  exact At.fnr rfl rfl rfl ⟨rfl, rfl⟩

theorem conK (S : St) : CallTo Try.prog 12 [] S (fun v S' => v = .tup [.agg conC, .str ([82, 69, 118, 1] ++ be4 conB.length ++ conB)] ∧ Same S S') (fun _ _ => False) := by
  refine CallTo.of (n := 8) Try.func12 rfl rfl ?_ (hl := orc_tup 300 (by kernel_rfl) S)
  obtain ⟨S1, hS1⟩ : ∃ S1, S1 = S.new (.box 29 (zc 2)) := ⟨_, rfl⟩
  have hb1 : S1.h.find S.next = some (.box 29 (zc 2)) := by rw [hS1]; simp [St.new, Tr.find_put]
  obtain ⟨S2, hS2⟩ : ∃ S2 : St, S2 = { S1 with h := S1.h.put S.next (.box 29 conC) } := ⟨_, rfl⟩
  have hst : storeE Try.prog 29 (.ptr S.next 0) (.agg conC) S1 = some S2 := by rw [hS2]; exact st_agg hb1 rfl rfl rfl
  have hb2 : S2.h.find S.next = some (.box 29 conC) := by rw [hS2]; simp [Tr.find_put]
  have s2 : Same S S2 := by rw [hS2, hS1]; exact (Same.new _ _).put (Nat.le_refl _) _
  have hld : loadE Try.prog 29 (.ptr S.next 0) S2 = some (.agg conC) := ld_agg ⟨_, _, hb2, fun i v h => by simpa using h⟩ rfl
  have hby : ∀ (es : List V) (bs : List UInt8), toBytes es = some bs → CallTo Try.prog 25 [.list (some 5) 1 es .exact] S1 (fun v S' => v = .str bs ∧ S1 = S') (fun _ _ => False) := fun es bs h => (bytesK h S1).mono (fun _ _ h => ⟨h.1, h.2.symm⟩) (fun _ _ h => h)
  have b1 : buildE Try.prog 29 [(0, .int .i64 1), (1, .int .i64 1)] = some (.agg [.int .i64 1, .int .i64 1, .str [], .nils, .nils]) := by kernel_rfl
  have b2 : buildE Try.prog 29 [(0, .int .i64 3), (2, .str [65]), (3, .list (some 29) 5 [.agg [.int .i64 1, .int .i64 1, .str [], .nils, .nils]] .exact)] = some (.agg conC) := by kernel_rfl
  have b3 : buildE Try.prog 29 [(1, .int .i64 5)] = some (.agg [.int .i64 0, .int .i64 5, .str [], .nils, .nils]) := by kernel_rfl
  have b4 : buildSliceE Try.prog 26 1 [(0, .agg [.int .i64 1, .int .i64 1, .str [], .nils, .nils])] = some (.list (some 29) 5 [.agg [.int .i64 1, .int .i64 1, .str [], .nils, .nils]] .exact) := by kernel_rfl
  have b5 : buildSliceE Try.prog 83 17 (([118, 1, 0, 0, 0, 11, 6, 0, 2, 65, 2, 2, 2, 0, 0, 0, 0] : List Int).zipIdx.map fun p => (p.2, V.int .u8 p.1)) = some (.list (some 5) 1 (ofBytes [118, 1, 0, 0, 0, 11, 6, 0, 2, 65, 2, 2, 2, 0, 0, 0, 0]) .exact) := by kernel_rfl
  have b6 : buildSliceE Try.prog 83 11 (([118, 1, 0, 0, 0, 5, 0, 10, 0, 0, 0] : List Int).zipIdx.map fun p => (p.2, V.int .u8 p.1)) = some (.list (some 5) 1 (ofBytes [118, 1, 0, 0, 0, 5, 0, 10, 0, 0, 0]) .exact) := by kernel_rfl
  have a1 : strOp .add [82, 69] [118, 1, 0, 0, 0, 11, 6, 0, 2, 65, 2, 2, 2, 0, 0, 0, 0] = some (.str ([82, 69, 118, 1] ++ be4 conB.length ++ conB)) := rfl
  have a2 : strOp .add [82, 69] [118, 1, 0, 0, 0, 5, 0, 10, 0, 0, 0] = some (.str ([82, 69, 118, 1] ++ be4 fiveB.length ++ fiveB)) := rfl
  repeat' first
   | refine Opl.val op_alloc rfl ?_
   | refine Opl.val (op_bd3 rfl rfl rfl b2) rfl ?_
   | refine Opl.val (op_bd2 rfl rfl b1) rfl ?_
   | refine Opl.val (op_build1 rfl b3) rfl ?_
   | refine Opl.val (op_buildSlice1 rfl b4) rfl ?_
   | refine Opl.val (op_bsG rfl b5) rfl ?_
   | refine Opl.val (op_bsG rfl b6) rfl ?_
   | (refine Opl.cast (S' := S1) (Opl.callv rfl (by kernel_rfl) (hby _ _ (toBytes_of _)) rfl (fun W hW => ?_) (fun _ _ hf => hf.elim)) hS1; subst hW)
   | refine Opl.val (op_str rfl rfl a1) rfl ?_
   | refine Opl.val (op_str rfl rfl a2) rfl ?_
   | refine Opl.eff (op_store rfl rfl hst) ?_
   | refine .std ?_ | refine .nil ?_ | refine .seq ?_ | refine .region ?_ | refine .xs ?_ | refine .kb ?_ | refine .leaf ?_ | refine .block ?_ | refine .gn ?_ | refine .dr ?_ | fail
  have res : ∀ (E : Env) (a : V), Env.get E 0 = some (.ptr S.next 0) → Env.get E 1 = some a → resV Try.prog E S2 [.cell 0 29, .tmp 1] = some [.agg conC, a] := by
    intro E a e1 e2
    simp only [resV, e1, e2, hld]
  first | exact At.fnr rfl rfl (res _ _ rfl rfl) ⟨rfl, s2⟩ | exact At.fn rfl rfl (res _ _ rfl rfl) ⟨rfl, s2⟩ | (trace_state; done)

theorem fiveK (S : St) : CallTo Try.prog 15 [] S (fun v S' => v = .tup [.agg [.int .i64 0, .int .i64 5, .str [], .nils, .nils], .str ([82, 69, 118, 1] ++ be4 fiveB.length ++ fiveB)] ∧ Same S S') (fun _ _ => False) := by
  refine CallTo.of (n := 6) Try.func15 rfl rfl ?_ (hl := orc_tup 300 (by kernel_rfl) S)
  obtain ⟨S1, hS1⟩ : ∃ S1, S1 = S.new (.box 29 (zc 2)) := ⟨_, rfl⟩
  have hb1 : S1.h.find S.next = some (.box 29 (zc 2)) := by rw [hS1]; simp [St.new, Tr.find_put]
  obtain ⟨S2, hS2⟩ : ∃ S2 : St, S2 = { S1 with h := S1.h.put S.next (.box 29 [.int .i64 0, .int .i64 5, .str [], .nils, .nils]) } := ⟨_, rfl⟩
  have hst : storeE Try.prog 29 (.ptr S.next 0) (.agg [.int .i64 0, .int .i64 5, .str [], .nils, .nils]) S1 = some S2 := by rw [hS2]; exact st_agg hb1 rfl rfl rfl
  have hb2 : S2.h.find S.next = some (.box 29 [.int .i64 0, .int .i64 5, .str [], .nils, .nils]) := by rw [hS2]; simp [Tr.find_put]
  have s2 : Same S S2 := by rw [hS2, hS1]; exact (Same.new _ _).put (Nat.le_refl _) _
  have hld : loadE Try.prog 29 (.ptr S.next 0) S2 = some (.agg [.int .i64 0, .int .i64 5, .str [], .nils, .nils]) := ld_agg ⟨_, _, hb2, fun i v h => by simpa using h⟩ rfl
  have hby : ∀ (es : List V) (bs : List UInt8), toBytes es = some bs → CallTo Try.prog 25 [.list (some 5) 1 es .exact] S1 (fun v S' => v = .str bs ∧ S1 = S') (fun _ _ => False) := fun es bs h => (bytesK h S1).mono (fun _ _ h => ⟨h.1, h.2.symm⟩) (fun _ _ h => h)
  have b1 : buildE Try.prog 29 [(0, .int .i64 1), (1, .int .i64 1)] = some (.agg [.int .i64 1, .int .i64 1, .str [], .nils, .nils]) := by kernel_rfl
  have b2 : buildE Try.prog 29 [(0, .int .i64 3), (2, .str [65]), (3, .list (some 29) 5 [.agg [.int .i64 1, .int .i64 1, .str [], .nils, .nils]] .exact)] = some (.agg conC) := by kernel_rfl
  have b3 : buildE Try.prog 29 [(1, .int .i64 5)] = some (.agg [.int .i64 0, .int .i64 5, .str [], .nils, .nils]) := by kernel_rfl
  have b4 : buildSliceE Try.prog 26 1 [(0, .agg [.int .i64 1, .int .i64 1, .str [], .nils, .nils])] = some (.list (some 29) 5 [.agg [.int .i64 1, .int .i64 1, .str [], .nils, .nils]] .exact) := by kernel_rfl
  have b5 : buildSliceE Try.prog 83 17 (([118, 1, 0, 0, 0, 11, 6, 0, 2, 65, 2, 2, 2, 0, 0, 0, 0] : List Int).zipIdx.map fun p => (p.2, V.int .u8 p.1)) = some (.list (some 5) 1 (ofBytes [118, 1, 0, 0, 0, 11, 6, 0, 2, 65, 2, 2, 2, 0, 0, 0, 0]) .exact) := by kernel_rfl
  have b6 : buildSliceE Try.prog 83 11 (([118, 1, 0, 0, 0, 5, 0, 10, 0, 0, 0] : List Int).zipIdx.map fun p => (p.2, V.int .u8 p.1)) = some (.list (some 5) 1 (ofBytes [118, 1, 0, 0, 0, 5, 0, 10, 0, 0, 0]) .exact) := by kernel_rfl
  have a1 : strOp .add [82, 69] [118, 1, 0, 0, 0, 11, 6, 0, 2, 65, 2, 2, 2, 0, 0, 0, 0] = some (.str ([82, 69, 118, 1] ++ be4 conB.length ++ conB)) := rfl
  have a2 : strOp .add [82, 69] [118, 1, 0, 0, 0, 5, 0, 10, 0, 0, 0] = some (.str ([82, 69, 118, 1] ++ be4 fiveB.length ++ fiveB)) := rfl
  repeat' first
   | refine Opl.val op_alloc rfl ?_
   | refine Opl.val (op_bd3 rfl rfl rfl b2) rfl ?_
   | refine Opl.val (op_bd2 rfl rfl b1) rfl ?_
   | refine Opl.val (op_build1 rfl b3) rfl ?_
   | refine Opl.val (op_buildSlice1 rfl b4) rfl ?_
   | refine Opl.val (op_bsG rfl b5) rfl ?_
   | refine Opl.val (op_bsG rfl b6) rfl ?_
   | (refine Opl.cast (S' := S1) (Opl.callv rfl (by kernel_rfl) (hby _ _ (toBytes_of _)) rfl (fun W hW => ?_) (fun _ _ hf => hf.elim)) hS1; subst hW)
   | refine Opl.val (op_str rfl rfl a1) rfl ?_
   | refine Opl.val (op_str rfl rfl a2) rfl ?_
   | refine Opl.eff (op_store rfl rfl hst) ?_
   | refine .std ?_ | refine .nil ?_ | refine .seq ?_ | refine .region ?_ | refine .xs ?_ | refine .kb ?_ | refine .leaf ?_ | refine .block ?_ | refine .gn ?_ | refine .dr ?_ | fail
  have res : ∀ (E : Env) (a : V), Env.get E 0 = some (.ptr S.next 0) → Env.get E 1 = some a → resV Try.prog E S2 [.cell 0 29, .tmp 1] = some [.agg [.int .i64 0, .int .i64 5, .str [], .nils, .nils], a] := by
    intro E a e1 e2
    simp only [resV, e1, e2, hld]
  first | exact At.fnr rfl rfl (res _ _ rfl rfl) ⟨rfl, s2⟩ | exact At.fn rfl rfl (res _ _ rfl rfl) ⟨rfl, s2⟩ | (trace_state; done)

set_option maxHeartbeats 2000000 in
theorem known (S : St) : CallTo Try.prog 4 [] S (fun v _ => v = .bool true) (fun _ _ => False) := by
  have lay : ∀ (T t : TypeId) (n : Nat) (cs : List V) (U : St) (hn : SzN Try.prog T n), cs.length = szs t → szs t = n → cs.all V.one = true → ∃ W : St, storeE Try.prog T (.ptr U.next 0) (.agg cs) (U.new (.box T (zc t))) = some W ∧ W.h.find U.next = some (.box T cs) ∧ Same U W ∧ U.next < W.next := by
    intro T t n cs U hn hcl hsz ho
    have hb : (U.new (.box T (zc t))).h.find U.next = some (.box T (zc t)) := by simp [St.new, Tr.find_put]
    have hz := zc_len t
    have hsp : splice (zc t) 0 cs = some cs := by
      unfold splice
      rw [if_pos (Nat.ble_eq_true_of_le (by omega))]
      simp [hcl, hz]
    exact ⟨_, st_agg hb (hcl.trans hsz) ho hsp, by simp [Tr.find_put], (Same.new _ _).put (Nat.le_refl _) _, by simp [St.new]⟩
  by_cases hcl : ClosedT Try.prog 4
  · exact .inl ⟨_, _, lim_closed hcl S, rfl⟩
  refine CallTo.of (n := 59) Try.func4 rfl rfl ?_ (hl := orc_not hcl S)
  repeat' first
   | refine Opl.callv rfl (by kernel_rfl) (conK _) rfl (fun S1 s1 => ?_) (fun _ _ hf => hf.elim)
   | refine .std ?_ | refine .nil ?_ | refine .seq ?_ | refine .region ?_ | refine .xs ?_ | refine .kb ?_ | refine .leaf ?_ | refine .block ?_ | refine .gn ?_ | refine .dr ?_ | fail
  obtain ⟨W1, hst1, hb1, t1, n1⟩ := lay 29 2 5 conC S1 inferInstance rfl rfl rfl
  have hr := ReadValue (fileOf 118 conB) W1 (by rw [fileOf_len]; simp [conB])
  repeat' first
   | refine Opl.val op_alloc rfl ?_
   | refine Opl.eff (op_store rfl rfl hst1) ?_
   | (refine Opl.callv rfl (by kernel_rfl) (sealedK _ (by simp [be4, conB]) _) rfl (fun W hW => ?_) (fun _ _ hf => hf.elim); subst hW)
   | refine Opl.call rfl (by kernel_rfl) hr rfl (fun v S2 h2 => ?_) (fun _ _ hf => hf.elim)
   | refine .std ?_ | refine .nil ?_ | refine .seq ?_ | refine .region ?_ | refine .xs ?_ | refine .kb ?_ | refine .leaf ?_ | refine .block ?_ | refine .gn ?_ | refine .dr ?_ | fail
  obtain ⟨hv2, s2⟩ := h2
  unfold RdV at hv2
  rw [rdOut_file conEnc (by simp [sch]) (by simp [conB]), fileOf_body] at hv2
  obtain ⟨ds, rfl, hdl, hde⟩ := hv2
  obtain ⟨W2, hst2, hb2, t2, n2⟩ := lay 29 2 5 ds S2 inferInstance hdl rfl hde.ones
  repeat' first
   | refine Opl.val op_alloc rfl ?_
   | refine Opl.eff (op_store rfl rfl hst2) ?_
   | refine Opl.callv rfl (by kernel_rfl) (fiveK _) rfl (fun S3 s3 => ?_) (fun _ _ hf => hf.elim)
   | refine .std ?_ | refine .nil ?_ | refine .seq ?_ | refine .region ?_ | refine .xs ?_ | refine .kb ?_ | refine .leaf ?_ | refine .block ?_ | refine .gn ?_ | refine .dr ?_ | fail
  obtain ⟨W3, hst3, hb3, t3, n3⟩ := lay 29 2 5 [.int .i64 0, .int .i64 5, .str [], .nils, .nils] S3 inferInstance rfl rfl rfl
  have hr3 := ReadCode (fileOf 118 fiveB) W3 (by rw [fileOf_len]; simp [fiveB])
  repeat' first
   | refine Opl.val op_alloc rfl ?_
   | refine Opl.eff (op_store rfl rfl hst3) ?_
   | (refine Opl.callv rfl (by kernel_rfl) (sealedK _ (by simp [be4, fiveB]) _) rfl (fun W hW => ?_) (fun _ _ hf => hf.elim); subst hW)
   | refine Opl.call rfl (by kernel_rfl) hr3 rfl (fun v S4 h4 => ?_) (fun _ _ hf => hf.elim)
   | refine .std ?_ | refine .nil ?_ | refine .seq ?_ | refine .region ?_ | refine .xs ?_ | refine .kb ?_ | refine .leaf ?_ | refine .block ?_ | refine .gn ?_ | refine .dr ?_ | fail
  obtain ⟨hv4, s4⟩ := h4
  have ho : outP (fileOf 118 fiveB) 99 = some 2 := by
    refine find_hdr (by omega) (fun j hj => ?_) ?_
    · have : j = 0 ∨ j = 1 := by omega
      rcases this with rfl | rfl <;> rfl
    · show some (118 : UInt8) ≠ some 99
      decide
  have hro : rdOut (fileOf 118 fiveB) 99 15 = some (2, 11) := by
    unfold rdOut
    rw [if_neg (by rw [fileOf_len]; simp [fiveB]), ho]
  unfold RdV at hv4
  rw [hro] at hv4
  subst hv4
  obtain ⟨W4, hst4, hb4, t4, n4⟩ := lay 40 15 3 (zc 15) S4 inferInstance (zc_len 15) rfl rfl
  have k1 : S1.next < W4.next ∧ W4.h.find S1.next = some (.box 29 conC) := by
    have := s2.next; have := t2.next; have := s3.next; have := t3.next; have := s4.next; have := t4.next
    refine ⟨by omega, ?_⟩
    rw [t4.find _ (by omega), s4.find _ (by omega), t3.find _ (by omega), s3.find _ (by omega), t2.find _ (by omega), s2.find _ (by omega)]; exact hb1
  have k2 : W4.h.find S2.next = some (.box 29 ds) := by
    have := s3.next; have := t3.next; have := s4.next; have := t4.next
    rw [t4.find _ (by omega), s4.find _ (by omega), t3.find _ (by omega), s3.find _ (by omega)]; exact hb2
  have ld1 : loadE Try.prog 29 (.ptr S1.next 0) W4 = some (.agg conC) := ld_agg ⟨_, _, k1.2, fun i v h => by simpa using h⟩ rfl
  have ld2 : loadE Try.prog 29 (.ptr S2.next 0) W4 = some (.agg ds) := ld_agg ⟨_, _, k2, fun i v h => by simpa using h⟩ hdl
  obtain ⟨d1, e1⟩ := hde
  obtain ⟨d2, e2⟩ := conEnc
  have hsame := sameValue e1 e2 (by simp [conB, most]) W4
  have hs1 : ∀ U, CallTo Try.prog 9 [.str []] U (fun v S' => v = .int .i64 1 ∧ S' = U) (fun _ _ => False) := fun U => sum9 [] (by simp) U
  repeat' first
   | refine Opl.val op_alloc rfl ?_
   | refine Opl.eff (op_store rfl rfl hst4) ?_
   | refine op_gyes rfl ?_ rfl
   | refine Opl.val (op_load rfl ld1) rfl ?_
   | refine Opl.val (op_load rfl ld2) rfl ?_
   | refine Opl.callv rfl (by kernel_rfl) hsame rfl (fun S5 k5 => ?_) (fun _ _ hf => hf.elim)
   | refine Opl.callv rfl (by kernel_rfl) (hs1 _) rfl (fun S6 k6 => ?_) (fun _ _ hf => hf.elim)
   | refine Opl.callr rfl (by kernel_rfl) (lim_closed awakeT _) rfl ?_
   | refine .std ?_ | refine .nil ?_ | refine .seq ?_ | refine .region ?_ | refine .xs ?_ | refine .kb ?_ | refine .leaf ?_ | refine .block ?_ | refine .gn ?_ | refine .dr ?_ | fail
  exact At.fnr rfl rfl rfl rfl

end Go.Proofs.Ytilldjgagokcfaa
