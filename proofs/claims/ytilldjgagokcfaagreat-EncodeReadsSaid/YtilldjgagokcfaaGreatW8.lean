import Derived.Test.YtilldjgagokcfaaGreatW7
set_option linter.unusedVariables false
set_option linter.unusedSimpArgs false
namespace Go.Ev
open Go.RowKit
section
variable {P : Program} {ev : Operand → Option V} {S S' : St} {x y z q : Operand} {t : TypeId} {u v w r s : V} {n i j k m : Nat}
theorem op_bs4 (h : ev x = some v) (h2 : ev y = some w) (h3 : ev z = some u) (h4 : ev q = some s) (hb : buildSliceE P t n [(i, v), (j, w), (k, u), (m, s)] = some r) : opE P (.buildSlice t n #[(i, x), (j, y), (k, z), (m, q)]) ev S = some (r, S) := by
  simp [opE, mapO, h, h2, h3, h4, hb]
theorem op_bd4 (h : ev x = some v) (h2 : ev y = some w) (h3 : ev z = some u) (h4 : ev q = some s) (hb : buildE P t [(i, v), (j, w), (k, u), (m, s)] = some r) : opE P (.build t #[(i, x), (j, y), (k, z), (m, q)]) ev S = some (r, S) := by
  simp [opE, mapO, h, h2, h3, h4, hb]
theorem op_bltn {b : Builtin} {ats : Array TypeId} {args : Array Operand} {l : List V} (ha : mapO ev args.toList = some l) (h : builtinE P b ats.toList l S = some (v, S')) : opE P (.call { callee := .builtin b, args, argTypes := ats }) ev S = some (v, S') := by
  simp only [opE, ha, h]
theorem op_asT {t1 t2 : TypeId} {c : Bool} (h : ev x = some v) (ha : assertE P v t2 c = some w) : opE P (.typeAssert x t1 t2 c) ev S = some (w, S) := by simp [opE, h, ha]
end
theorem flat_ofBytes : ∀ (l : List UInt8), (ofBytes l).flatMap V.cells = ofBytes l
  | [] => rfl
  | x :: l => by
    have := flat_ofBytes l
    simp only [ofBytes, List.map_cons, List.flatMap_cons] at this ⊢
    rw [this]; rfl
theorem quo_byte (n k : Nat) (hn : n < 4294967296) : (IntKind.wrap .u8 ((IntKind.wrap .i64 ((n : Int).tdiv (k : Int))).tmod 256)).toNat = n / k % 256 := by
  have e : ((n : Int).tdiv (k : Int)) = ((n / k : Nat) : Int) := by rw [Int.tdiv_eq_ediv_of_nonneg (by omega)]; simp
  have hle : n / k ≤ n := Nat.div_le_self _ _
  rw [e]
  generalize n / k = m at *
  rw [wrap_i64_id (by constructor <;> omega), Int.tmod_eq_emod_of_nonneg (by omega), wrap_u8]
  omega
theorem rem_byte (n : Nat) : (IntKind.wrap .u8 ((n : Int).tmod 256)).toNat = n % 256 := by
  rw [Int.tmod_eq_emod_of_nonneg (by omega), wrap_u8]
  omega
theorem Opl.cast {P : Program} {ops : Array Oper} {os : List Oper} {F : Sh} {E : Env} {S S' : St} {k : K} (h : Opl P ops os F E S' k) (hs : S' = S) : Opl P ops os F E S k := hs ▸ h
theorem op_slc {P : Program} {ev : Operand → Option V} {S : St} {x : Operand} {t : TypeId} {v w : V} (h : ev x = some v) (hs : sliceE P t v none none none = some w) : opE P (.slice t x none none none) ev S = some (w, S) := by
  simp only [opE, h, Option.toList, mapO, List.head?, hs, Option.map]
end Go.Ev
namespace Go.Proofs.YtilldjgagokcfaaGreat
open Go.RowKit Go.Ev
set_option maxRecDepth 100000
set_option linter.unusedVariables false
theorem four72 (n : Nat) (hn : n < 4294967296) (S : St) : CallTo Tryz.prog 72 [.int .i64 n] S (fun v S' => v = .str (be4 n) ∧ S' = S) (fun _ _ => False) := by
  refine CallTo.of (n := 20) Tryz.func72 rfl rfl ?_
  have hb : ∀ a b c d : Int, buildSliceE Tryz.prog 73 4 [(0, .int .u8 a), (1, .int .u8 b), (2, .int .u8 c), (3, .int .u8 d)] = some (.list (some 5) 1 [.int .u8 a, .int .u8 b, .int .u8 c, .int .u8 d] .exact) := by intro a b c d; kernel_rfl
  repeat' first
   | refine Opl.val (op_bs4 rfl rfl rfl rfl (hb _ _ _ _)) rfl ?_
   | refine Opl.val (op_conv rfl (conv_bytes rfl)) rfl ?_
   | refine .std ?_ | refine .nil ?_ | refine .seq ?_ | refine .region ?_ | refine .xs ?_ | refine .kb ?_ | refine .leaf ?_ | refine .block ?_ | refine .gn ?_ | refine .dr ?_ | fail
  refine At.fnr rfl rfl rfl ⟨?_, rfl⟩
  have e1 := quo_byte n 16777216 hn
  have e2 := quo_byte n 65536 hn
  have e3 := quo_byte n 256 hn
  have e4 := rem_byte n
  unfold be4
  rw [← e1, ← e2, ← e3, ← e4]
  rfl
theorem heading (k : UInt8) (S : St) : CallTo Tryz.prog 55 [.int .u8 k.toNat] S (fun v S' => v = .agg (ofBytes [82, 69, k, 1]) ∧ Same S S') (fun _ _ => False) := by
  refine CallTo.of (n := 5) Tryz.func55 rfl rfl ?_
  have hb : buildE Tryz.prog 113 [(0, .int .u8 82), (1, .int .u8 69), (2, .int .u8 k.toNat), (3, .int .u8 1)] = some (.agg (ofBytes [82, 69, k, 1])) := by kernel_rfl
  have hf : (S.new (.box 113 [V.int .u8 0, V.int .u8 0, V.int .u8 0, V.int .u8 0])).h.find S.next = some (.box 113 [V.int .u8 0, V.int .u8 0, V.int .u8 0, V.int .u8 0]) := by simp [St.new, Tr.find_put]
  repeat' first
   | refine Opl.val op_alloc rfl ?_
   | refine Opl.val (op_bd4 rfl rfl rfl rfl hb) rfl ?_
   | refine Opl.eff (op_store rfl rfl (st_agg hf rfl rfl rfl)) ?_
   | refine .std ?_ | refine .nil ?_ | refine .seq ?_ | refine .region ?_ | refine .xs ?_ | refine .kb ?_ | refine .leaf ?_ | refine .block ?_ | refine .gn ?_ | refine .dr ?_ | fail
  have hsame : Same S { S.new (.box 113 [V.int .u8 0, V.int .u8 0, V.int .u8 0, V.int .u8 0]) with h := (S.new (.box 113 [V.int .u8 0, V.int .u8 0, V.int .u8 0, V.int .u8 0])).h.put S.next (.box 113 (ofBytes [82, 69, k, 1])) } := (Same.new S _).put (Nat.le_refl _) _
  have hl : loadE Tryz.prog 113 (.ptr S.next 0) { S.new (.box 113 [V.int .u8 0, V.int .u8 0, V.int .u8 0, V.int .u8 0]) with h := (S.new (.box 113 [V.int .u8 0, V.int .u8 0, V.int .u8 0, V.int .u8 0])).h.put S.next (.box 113 (ofBytes [82, 69, k, 1])) } = some (.agg (ofBytes [82, 69, k, 1])) :=
    ld_agg (cs := ofBytes [82, 69, k, 1]) ⟨_, _, by simp only [Tr.find_put, if_true]; rfl, fun i v h => by simpa using h⟩ rfl
  have key : ∀ U E, Env.get E 2 = some (.ptr S.next 0) → loadE Tryz.prog 113 (.ptr S.next 0) U = some (.agg (ofBytes [82, 69, k, 1])) → resV Tryz.prog E U [.cell 2 113] = some [.agg (ofBytes [82, 69, k, 1])] := by
    intro U E he h
    simp only [resV, he, h]
  exact At.fnr (vs := [.agg (ofBytes [82, 69, k, 1])]) rfl rfl (key _ _ rfl hl) ⟨rfl, hsame⟩
theorem CodW.str {S : St} {c : Nat} {buf : List UInt8} (h : CodW S c buf) : CallTo Tryz.prog 58 [.ptr c 0] S (fun v S' => v = .str buf ∧ S' = S) (fun _ _ => False) := by
  obtain ⟨a, l, hp, hb, ha, hl⟩ := h.pt
  have hil := hl.isL
  have hle := h.le
  refine CallTo.of (n := 14) Tryz.func58 rfl rfl ?_
  have u1 : Tryz.prog.underlying 203 = some (.pointer 5) := by kernel_rfl
  have u2 : Tryz.prog.underlying 5 = some (.int .u8) := by kernel_rfl
  have u3 : Tryz.prog.cellsOf 5 = 1 := by kernel_rfl
  have key : ∃ p, builtinE Tryz.prog .unsafeSliceData [73] [l] S = some (p, S) ∧ builtinE Tryz.prog .unsafeString [203, 3] [p, .int .i64 ((elems l).length : Nat)] S = some (.str buf, S) := by
    rcases hl with ⟨rfl, rfl⟩ | ⟨id, rfl, h1, h2, hne⟩
    · exact ⟨.nilp, rfl, by kernel_rfl⟩
    · cases buf with
      | nil =>
        exact absurd rfl hne
      | cons b bs =>
        refine ⟨.cptr (some 5) (ofBytes (b :: bs)) 0, ?_, ?_⟩
        · show some (V.cptr (some 5) ((ofBytes (b :: bs)).flatMap V.cells) 0, S) = _
          rw [flat_ofBytes]
        · have hn : ((elems (V.list (some 5) 1 (ofBytes (b :: bs)) (.own id))).length) = (b :: bs).length := by simp [elems, ofBytes]
          rw [hn]
          simp only [builtinE, unsafeStrE, u1, u2, u3]
          rw [if_neg (by simp; omega), if_pos (by simp at hle ⊢; omega), if_pos (by simp [ofBytes])]
          rw [toBytes_of]; rfl
  obtain ⟨p, k1, k2⟩ := key
  repeat' first
   | refine Opl.val (op_lenL rfl hil.1 rfl) rfl ?_
   | refine Opl.val (op_bltn rfl k1) rfl ?_
   | refine Opl.val (op_bltn rfl k2) rfl ?_
   | refine .std ?_ | refine .nil ?_ | refine .seq ?_ | refine .region ?_ | refine .xs ?_ | refine .kb ?_ | refine .leaf ?_ | refine .block ?_ | refine .gn ?_ | refine .dr ?_ | fail
  exact At.fnr rfl rfl rfl ⟨rfl, rfl⟩
theorem caughtQuiet (a b : Nat) (S : St) : DcallTo Tryz.prog 111 [.ptr a 0, .ptr b 0] .quiet S (fun p S' => p = .quiet ∧ S' = S) := by
  refine DcallTo.of (n := 17) Tryz.func111 rfl rfl ?_
  repeat' first
   | refine Opl.recoverNo (.inl rfl) rfl ?_
   | refine Opl.val (op_bin (r := .bool true) rfl rfl (by kernel_rfl)) rfl ?_
   | refine Go.condT rfl ?_
   | refine .std ?_ | refine .nil ?_ | refine .seq ?_ | refine .region ?_ | refine .xs ?_ | refine .kb ?_ | refine .leaf ?_ | refine .block ?_ | refine .gn ?_ | refine .dr ?_ | fail
  exact At.dn rfl rfl rfl ⟨rfl, rfl⟩
theorem caughtBig (a b : Nat) (S : St) {x : V} (hbl : b < S.next) (hb : S.h.find b = some (.box 36 [x])) :
    DcallTo Tryz.prog 111 [.ptr a 0, .ptr b 0] (.live tooL) S (fun p S' => (∃ w, p = .done w) ∧ S.next ≤ S'.next ∧ S'.h.find b = some (.box 36 [.int .i64 3]) ∧ ∀ id, id < S.next → id ≠ b → S'.h.find id = S.h.find id) := by
  refine DcallTo.of (n := 17) Tryz.func111 rfl rfl ?_
  have as1 : assertE Tryz.prog tooL 169 true = some (.tup [.agg [.int .i64 0], .bool false]) := by kernel_rfl
  have as2 : assertE Tryz.prog tooL 202 true = some (.tup [.agg [], .bool true]) := by kernel_rfl
  have hf0 : (S.new (.box 202 (V.agg []).cells)).h.find S.next = some (.box 202 []) := by simp [St.new, Tr.find_put, V.cells]
  have hfb : ({ S.new (.box 202 (V.agg []).cells) with h := (S.new (.box 202 (V.agg []).cells)).h.put S.next (.box 202 []) } : St).h.find b = some (.box 36 [x]) := by
    simp [St.new, Tr.find_put, Nat.ne_of_lt hbl, hb]
  repeat' first
   | refine Opl.recover rfl ?_
   | refine Opl.val (op_bin (r := .bool false) rfl rfl (by kernel_rfl)) rfl ?_
   | refine Go.condF rfl ?_
   | refine Go.condT rfl ?_
   | refine Opl.val (op_asT rfl as1) rfl ?_
   | refine Opl.val (op_asT rfl as2) rfl ?_
   | refine Opl.val op_alloc rfl ?_
   | refine Opl.eff (op_store rfl rfl (st_agg (n := 0) hf0 rfl rfl rfl)) ?_
   | refine Opl.eff (op_store rfl rfl (st_one hfb rfl rfl)) ?_
   | refine .std ?_ | refine .nil ?_ | refine .seq ?_ | refine .region ?_ | refine .xs ?_ | refine .kb ?_ | refine .leaf ?_ | refine .block ?_ | refine .gn ?_ | refine .dr ?_ | fail
  refine At.dn rfl rfl rfl ⟨⟨_, rfl⟩, by simp [St.new], by simp only [Tr.find_put, if_true]; rfl, fun id h1 h2 => ?_⟩
  simp only [St.new, Tr.find_put, if_neg h2, if_neg (Nat.ne_of_lt h1)]
theorem BufOk.keep {S S' : St} {l : V} {buf : List UInt8} (h : BufOk S l buf) (hn : S.next ≤ S'.next) (hk : ∀ id, id < S.next → S.h.find id = some .tok → S'.h.find id = some .tok) : BufOk S' l buf := by
  rcases h with h | ⟨id, h1, h2, h3, h4⟩
  · exact .inl h
  · exact .inr ⟨id, h1, hk id h3 h2, Nat.lt_of_lt_of_le h3 hn, h4⟩
theorem CodW.put2 {S : St} {c : Nat} {buf : List UInt8} (h : CodW S c buf) {id : Nat} (hid : id ≠ c) {t : TypeId} {cs : List V} (hb : S.h.find id = some (.box t cs)) (ob : Ob) : CodW { S with h := S.h.put id ob } c buf := by
  obtain ⟨h1, h2, a, l, h3, h4, h5⟩ := h
  exact ⟨h1, h2, a, l, by simp only [Tr.find_put]; rw [if_neg (fun e => hid (Eq.symm e))]; exact h3, h4, h5.put hb ob⟩
theorem CodW.same {S S' : St} {c : Nat} {buf : List UInt8} (h : CodW S c buf) (k : Same S S') : CodW S' c buf := by
  obtain ⟨h1, h2, a, l, h3, h4, h5⟩ := h
  exact ⟨Nat.lt_of_lt_of_le h1 k.next, h2, a, l, by rw [k.find c h1]; exact h3, h4, h5.keep k.next fun id hi ht => by rw [k.find id hi]; exact ht⟩
theorem _root_.Go.Ev.KeepB.trans2 {A B C : St} {c : Nat} (h : KeepB A B c) (k : B.next ≤ C.next ∧ ∀ id t cs, id < A.next → id ≠ c → B.h.find id = some (.box t cs) → C.h.find id = some (.box t cs)) : KeepB A C c :=
  ⟨Nat.le_trans h.next k.1, fun id t cs h1 h2 h3 => k.2 id t cs h1 h2 (h.box id t cs h1 h2 h3)⟩
theorem ld_box1 {S : St} {t e : TypeId} {id : Nat} {v : V} {cs : List V} [LdOne Tryz.prog t] (hb : S.h.find id = some (.box e (v :: cs))) : loadE Tryz.prog t (.ptr id 0) S = some v :=
  ld_one (cs := cs) ⟨_, _, hb, fun i v h => by simpa using h⟩
theorem resV2 {S : St} {E : Env} {a b i j : Nat} {t u : TypeId} {v w : V} (ha : Env.get E a = some (.ptr i 0)) (hb : Env.get E b = some (.ptr j 0)) (h1 : loadE Tryz.prog t (.ptr i 0) S = some v) (h2 : loadE Tryz.prog u (.ptr j 0) S = some w) :
    resV Tryz.prog E S [.cell a t, .cell b u] = some [v, w] := by
  simp only [resV, ha, hb, h1, h2]
theorem caughtW {g : FuncId} (hg : hasBody Tryz.prog g = true) {caps : List V} {S : St} {c : Nat} {bs : List UInt8} (h : CodW S c [])
    (hdo : ∀ S0, KeepB S S0 c → CodW S0 c [] → CallTo Tryz.prog g caps S0 (fun _ S' => Wrote S0 c [] bs S') (Big S0 c [] bs)) :
    CallTo Tryz.prog 53 [.func g [] caps] S (fun v S' => KeepB S S' c ∧ ((v = .tup [.int .i64 0, .int .i64 0] ∧ CodW S' c bs) ∨ (v = .tup [.int .i64 0, .int .i64 3] ∧ 99988 < bs.length))) (fun _ _ => False) := by
  refine CallTo.ofD (n := 7) Tryz.func53 rfl rfl ?_
  obtain ⟨S0, hS0⟩ : ∃ S0, S0 = (S.new (.box 3 [V.int .i64 0])).new (.box 36 [V.int .i64 0]) := ⟨_, rfl⟩
  have hs0 : Same S S0 := by rw [hS0]; exact (Same.new _ _).trans (Same.new _ _)
  have hlt := h.lt
  have hn0 : S0.next = S.next + 2 := by rw [hS0]; rfl
  have hca : S0.h.find S.next = some (.box 3 [V.int .i64 0]) := by rw [hS0]; simp [St.new, Tr.find_put]
  have hcb : S0.h.find (S.next + 1) = some (.box 36 [V.int .i64 0]) := by rw [hS0]; simp [St.new, Tr.find_put]
  have hdo0 := hdo S0 (hs0.keepB c) (h.same hs0)
  repeat' first
   | refine Opl.val op_alloc rfl ?_
   | refine Opl.defer rfl ?_
   | (rw [show ((S.new (.box 3 (V.int .i64 0).cells)).new (.box 36 (V.int .i64 0).cells)) = S0 from hS0.symm]; refine Opl.call rfl hg hdo0 rfl (fun v S1 w1 => ?_) (fun v S1 hbig => ?_))
   | refine .std ?_ | refine .nil ?_ | refine .seq ?_ | refine .region ?_ | refine .xs ?_ | refine .kb ?_ | refine .leaf ?_ | refine .block ?_ | refine .gn ?_ | refine .dr ?_ | fail
  · obtain ⟨h1, k1⟩ := w1
    have ha1 := k1.box S.next _ _ (by omega) (by omega) hca
    have hb1 := k1.box (S.next + 1) _ _ (by omega) (by omega) hcb
    have hb2 : ({ S1 with h := S1.h.put S.next (.box 3 [V.int .i64 0]) } : St).h.find (S.next + 1) = some (.box 36 [V.int .i64 0]) := by
      simp only [Tr.find_put]; rw [if_neg (by omega)]; exact hb1
    repeat' first
     | refine Opl.eff (op_store (S' := { S1 with h := S1.h.put S.next (.box 3 [V.int .i64 0]) }) rfl rfl (st_one ha1 rfl rfl)) ?_
     | refine Opl.eff (op_store rfl rfl (st_one hb2 rfl rfl)) ?_
     | refine .std ?_ | refine .nil ?_ | refine .seq ?_ | refine .region ?_ | refine .xs ?_ | refine .kb ?_ | refine .leaf ?_ | refine .block ?_ | refine .gn ?_ | refine .dr ?_ | fail
    have hq := caughtQuiet S.next (S.next + 1) { S1 with h := (S1.h.put S.next (.box 3 [V.int .i64 0])).put (S.next + 1) (.box 36 [V.int .i64 0]) }
    refine At.lret (rs := [.cell 2 3, .cell 3 36]) rfl rfl hq ?_
    rintro p S' ⟨rfl, rfl⟩
    refine ⟨rfl, [.int .i64 0, .int .i64 0], resV2 (i := S.next) (j := S.next + 1) rfl rfl (ld_box1 (e := 3) (cs := []) (by simp [Tr.find_put])) (ld_box1 (e := 36) (cs := []) (by simp [Tr.find_put])), ?_, .inl ⟨rfl, ?_⟩⟩
    · refine ((hs0.keepB c).trans k1).trans2 ⟨Nat.le_refl _, fun id t cs i1 i2 i3 => ?_⟩
      simp only [Tr.find_put]
      rw [if_neg (by omega), if_neg (by omega)]
      exact i3
    · exact (h1.put2 (by omega) ha1 _).put2 (by omega) hb2 _
  · skip
    repeat' first | refine .std ?_ | refine .nil ?_ | refine .seq ?_ | refine .region ?_ | refine .xs ?_ | refine .kb ?_ | refine .leaf ?_ | refine .block ?_ | refine .gn ?_ | refine .dr ?_ | fail
    obtain ⟨rfl, hbl, k1⟩ := hbig
    have hb1 := k1.box (S.next + 1) _ _ (by omega) (by omega) hcb
    have ha1 := k1.box S.next _ _ (by omega) (by omega) hca
    have hn1 := k1.next
    refine At.lpan (rs := [.cell 2 3, .cell 3 36]) rfl rfl (caughtBig S.next (S.next + 1) S1 (by omega) hb1) ?_
    rintro p S' ⟨hw, hn, hf, hk⟩
    refine ⟨hw, [.int .i64 0, .int .i64 3], resV2 rfl rfl (ld_box1 (by rw [hk S.next (by omega) (by omega)]; exact ha1)) (ld_box1 hf), ?_, .inr ⟨rfl, by simpa using hbl⟩⟩
    refine ((hs0.keepB c).trans k1).trans2 ⟨hn, fun id t cs i1 i2 i3 => ?_⟩
    rw [hk id (by omega) (by omega)]
    exact i3
end Go.Proofs.YtilldjgagokcfaaGreat
