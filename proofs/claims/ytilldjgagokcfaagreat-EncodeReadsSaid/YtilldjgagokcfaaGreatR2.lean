import Derived.Test.YtilldjgagokcfaaGreatR1
set_option linter.unusedVariables false
set_option linter.unusedSimpArgs false
namespace Go.Ev
open Go.RowKit
theorem Go.join {P : Program} {F : Sh} {E : Env} (E' : Env) {S : St} {a b : Code} {k : K} (hrest : Go P F E' S b k) (h : (∀ E1, Sub E' E1 → Go P F E1 S b k) → Go P F E S a (Ks P b k)) : Go P F E S a (Ks P b k) := h (fun E1 hs => hrest.weaken hs)
theorem ref_pos {n : Int} (h : in64 n) (h0 : 0 ≤ n) : IntKind.wrap .u64 (2 * IntKind.wrap .u64 n) = (zig n : Int) := by
  obtain ⟨h1, h2⟩ := h
  rw [wrap_u64, wrap_u64]; unfold zig; rw [if_pos h0]; omega
theorem ref_neg {n : Int} (h : in64 n) (h0 : ¬ 0 ≤ n) : IntKind.wrap .u64 (IntKind.wrap .u64 (2 * IntKind.wrap .u64 (IntKind.wrap .i64 (0 - IntKind.wrap .i64 (n + 1)))) + 1) = (zig n : Int) := by
  obtain ⟨h1, h2⟩ := h
  rw [wrap_i64_id (n := n + 1) (by constructor <;> omega), wrap_i64_id (by constructor <;> omega), wrap_u64, wrap_u64, wrap_u64]
  unfold zig; rw [if_neg h0]; omega
theorem ref_byte (m : Nat) : intOp .add .u8 (IntKind.wrap .u8 ((m : Int).tmod 128)) 128 = some (.int .u8 ((UInt8.ofNat (m % 128 + 128)).toNat : Int)) := by
  simp only [intOp]
  rw [u8_nat _ (by omega), Int.tmod_eq_emod_of_nonneg (by omega), wrap_u8, wrap_u8]
  congr 2; omega
theorem ref_quo (m : Nat) (hm : m < 18446744073709551616) : intOp .quo .u64 (m : Int) 128 = some (.int .u64 ((m / 128 : Nat) : Int)) := by
  simp only [intOp]
  rw [if_neg (by decide), Int.tdiv_eq_ediv_of_nonneg (by omega), wrap_u64]
  congr 2; omega
end Go.Ev
namespace Go.Proofs.YtilldjgagokcfaaGreat
open Go.RowKit Go.Ev
set_option maxRecDepth 100000
set_option linter.unusedVariables false
theorem rnumber {S : St} {c : Nat} (n : Int) (hn : in64 n) : RC 68 [.ptr c 0, .int .i64 n] S c (encI n) := by
  intro buf h hB
  refine (?_ : CallTo Tryz.prog 68 [.ptr c 0, .int .i64 n] S (fun _ S' => KeepB S S' c ∧ RefW S' c (buf ++ encI n)) (fun _ _ => False)).mono (fun _ _ q => ⟨q.1, _, q.2, by simp, .inl rfl⟩) (fun _ _ q => q)
  refine CallTo.of (n := 44) Tryz.func68 rfl rfl ?_
  have hz := zig_lt hn.1 hn.2
  repeat' first | refine .std ?_ | refine .nil ?_ | refine .seq ?_ | refine .region ?_ | refine .xs ?_ | refine .kb ?_ | refine .leaf ?_ | refine .block ?_ | refine .gn ?_ | refine .dr ?_ | fail
  refine Go.join [(0, .ptr c 0), (4, .int .u64 (zig n))] ?_ (fun hj => ?_)
  · skip
    repeat' first | refine .std ?_ | refine .nil ?_ | refine .seq ?_ | refine .region ?_ | refine .xs ?_ | refine .kb ?_ | refine .leaf ?_ | refine .block ?_ | refine .gn ?_ | refine .dr ?_ | fail
    refine Go.loop_ind (α := Nat) id (fun m E S' => E = [(0, .ptr c 0), (4, .int .u64 m)] ∧ m < 18446744073709551616 ∧ ∃ buf', RefW S' c buf' ∧ KeepB S S' c ∧ buf' ++ vb m = buf ++ vb (zig n)) ?_ (zig n) _ _ ⟨rfl, hz, buf, h, KeepB.refl _ _, rfl⟩
    rintro m E S1 ⟨rfl, hm, buf1, h1, k1, e1⟩ IH
    have hlen : buf1.length + (vb m).length = buf.length + (vb (zig n)).length := by
      have := congrArg List.length e1; simpa using this
    have hB1 : buf.length + (vb (zig n)).length ≤ most := hB
    obtain ⟨l, hp, hb, hl⟩ := h1.pt
    repeat' first | refine .std ?_ | refine .nil ?_ | refine .seq ?_ | refine .region ?_ | refine .xs ?_ | refine .kb ?_ | refine .leaf ?_ | refine .block ?_ | refine .gn ?_ | refine .dr ?_ | fail
    refine Go.cond rfl (fun hq => ?_) (fun hq => ?_)
    · have hq : ¬ m < 128 := by have := of_decide_eq_true hq; omega
      have hv := vb_ge hq
      have hvl : (vb m).length = (vb (m / 128)).length + 1 := by rw [hv]; rfl
      obtain ⟨l', S2, happ, hn2, hl2, hk2⟩ := hl.app 73 (y := .list (some 5) 1 [.int .u8 (UInt8.ofNat (m % 128 + 128)).toNat] .exact) (ys := [UInt8.ofNat (m % 128 + 128)]) rfl (by simp) (by simp; omega)
      obtain ⟨S3, hst, h3, k3⟩ := h1.app hb hn2 hl2 hk2 hl2.one
      repeat' first
       | refine Opl.val (op_int rfl rfl rfl (ref_byte m)) rfl ?_
       | refine Opl.val (op_buildSlice1 rfl (bslG _)) rfl ?_
       | refine Opl.val (op_app rfl rfl happ) rfl ?_
       | refine Opl.eff (op_store rfl rfl hst) ?_
       | refine Opl.val (op_int rfl rfl rfl (ref_quo m hm)) rfl ?_
       | refine .std ?_ | refine .nil ?_ | refine .seq ?_ | refine .region ?_ | refine .xs ?_ | refine .kb ?_ | refine .leaf ?_ | refine .block ?_ | refine .gn ?_ | refine .dr ?_ | fail
      refine (IH (m / 128) _ S3 (by show m / 128 < m; omega) ⟨rfl, by omega, buf1 ++ [UInt8.ofNat (m % 128 + 128)], h3, k1.trans k3, ?_⟩).weaken ⟨rfl, rfl, trivial⟩
      rw [List.append_assoc, List.singleton_append, ← hv]; exact e1
    · have hq : m < 128 := by have := of_decide_eq_false hq; omega
      have hv := vb_lt hq
      obtain ⟨l', S2, happ, hn2, hl2, hk2⟩ := hl.app 73 (y := .list (some 5) 1 [.int .u8 (UInt8.ofNat m).toNat] .exact) (ys := [UInt8.ofNat m]) rfl (by simp) (by rw [hv] at hlen; simp at hlen ⊢; omega)
      obtain ⟨S3, hst, h3, k3⟩ := h1.app hb hn2 hl2 hk2 hl2.one
      have hcv : V.int .u8 (IntKind.wrap .u8 (m : Int)) = .int .u8 (UInt8.ofNat m).toNat := by rw [byte_small m hq]
      have hbs : buildSliceE Tryz.prog 73 1 [(0, .int .u8 (IntKind.wrap .u8 (m : Int)))] = some (.list (some 5) 1 [.int .u8 (UInt8.ofNat m).toNat] .exact) := by rw [hcv]; exact bslG _
      repeat' first
       | refine Opl.val (op_buildSlice1 rfl hbs) rfl ?_
       | refine Opl.val (op_app rfl rfl happ) rfl ?_
       | refine Opl.eff (op_store rfl rfl hst) ?_
       | refine .std ?_ | refine .nil ?_ | refine .seq ?_ | refine .region ?_ | refine .xs ?_ | refine .kb ?_ | refine .leaf ?_ | refine .block ?_ | refine .gn ?_ | refine .dr ?_ | fail
      refine At.fn rfl rfl rfl ⟨k1.trans k3, ?_⟩
      show RefW _ c (buf ++ vb (zig n))
      rw [← e1, hv]; exact h3
  · by_cases h0 : 0 ≤ n
    · refine Go.condF (by show some (V.bool (decide (n < 0))) = _; rw [decide_eq_false (by omega)]) ?_
      rw [ref_pos hn h0]
      refine Go.skip (At.seq ?_)
      exact hj _ ⟨rfl, rfl, trivial⟩
    · refine Go.condT (by show some (V.bool (decide (n < 0))) = _; rw [decide_eq_true (by omega)]) ?_
      have hadd : intOp .add .u64 (IntKind.wrap .u64 (2 * IntKind.wrap .u64 (IntKind.wrap .i64 (0 - IntKind.wrap .i64 (n + 1))))) 1 = some (.int .u64 (zig n)) := by rw [← ref_neg hn h0]; rfl
      refine Go.region ?_
      repeat' first
       | exact hj _ ⟨rfl, rfl, trivial⟩
       | refine Opl.val (op_int rfl rfl rfl hadd) rfl ?_
       | refine .std ?_ | refine .nil ?_ | refine .seq ?_ | refine .region ?_ | refine .xs ?_ | refine .kb ?_ | refine .leaf ?_ | refine .block ?_ | refine .gn ?_ | refine .dr ?_ | fail
theorem rtext {S : St} {c : Nat} (s : List UInt8) (hs : s.length < 4611686018427387904) : RC 70 [.ptr c 0, .str s] S c (encS s) := by
  intro buf h hB
  have hB1 : buf.length + ((encI (s.length : Nat)).length + s.length) ≤ most := by simpa [encS] using hB
  have w0 : RQ S c buf [] S := ⟨KeepB.refl _ _, buf, h, by simp, .inl (by simp)⟩
  refine (?_ : CallTo Tryz.prog 70 [.ptr c 0, .str s] S (fun _ S' => RQ S c buf ([] ++ encI (s.length : Nat) ++ s) S') (fun _ _ => False)).mono (fun _ _ q => by simpa [encS] using q) (fun _ _ q => q)
  refine CallTo.of (n := 17) Tryz.func70 rfl rfl ?_
  repeat' first
   | refine Opl.callR w0 rfl (by kernel_rfl) (rnumber (s.length : Nat) (by constructor <;> omega)) (by simp; omega) rfl (fun S1 w1 k1 v => ?_)
   | refine .std ?_ | refine .nil ?_ | refine .seq ?_ | refine .region ?_ | refine .xs ?_ | refine .kb ?_ | refine .leaf ?_ | refine .block ?_ | refine .gn ?_ | refine .dr ?_ | fail
  obtain ⟨kk, buf1, h1, hl1, hor⟩ := w1
  obtain ⟨l, hp, hb, hl⟩ := h1.pt
  by_cases hne : s = []
  · subst hne
    have happ : appendE Tryz.prog 73 9 l (.str []) S1 = some (l, S1) := by
      rcases hl with ⟨rfl, rfl⟩ | ⟨id, rfl, _⟩
      · kernel_rfl
      · kernel_rfl
    have hst : storeE Tryz.prog 73 (.ptr c 0) l S1 = some { S1 with h := S1.h.put c (.box 75 [l]) } := st_one hb hl.one rfl
    repeat' first
     | refine Opl.val (op_app rfl rfl happ) rfl ?_
     | refine Opl.eff (op_store rfl rfl hst) ?_
     | refine .std ?_ | refine .nil ?_ | refine .seq ?_ | refine .region ?_ | refine .xs ?_ | refine .kb ?_ | refine .leaf ?_ | refine .block ?_ | refine .gn ?_ | refine .dr ?_ | fail
    refine At.fn rfl rfl rfl ⟨kk.trans (keepB_put _ _ _), buf1, ⟨h1.lt, l, by simp [Tr.find_put], hl.put hb _⟩, by simpa using hl1, ?_⟩
    simpa using hor
  · obtain ⟨l', S2, happ, hn2, hl2, hk2⟩ := hl.app 9 (y := .str s) (ys := s) rfl hne (by simp at hl1; omega)
    obtain ⟨S3, hst, h3, k3⟩ := h1.app hb hn2 hl2 hk2 hl2.one
    repeat' first
     | refine Opl.val (op_app rfl rfl happ) rfl ?_
     | refine Opl.eff (op_store rfl rfl hst) ?_
     | refine .std ?_ | refine .nil ?_ | refine .seq ?_ | refine .region ?_ | refine .xs ?_ | refine .kb ?_ | refine .leaf ?_ | refine .block ?_ | refine .gn ?_ | refine .dr ?_ | fail
    refine At.fn rfl rfl rfl ⟨kk.trans k3, buf1 ++ s, h3, by simp at hl1 ⊢; omega, ?_⟩
    rcases hor with rfl | hor
    · exact .inl (by simp)
    · exact .inr (by simp; omega)
theorem rtruth {S : St} {c : Nat} (q : Bool) : RC 82 [.ptr c 0, .bool q] S c (encB q) := by
  intro buf h hB
  have w0 : RQ S c buf [] S := ⟨KeepB.refl _ _, buf, h, by simp, .inl (by simp)⟩
  refine CallTo.of (n := 9) Tryz.func82 rfl rfl ?_
  cases q
  · skip
    repeat' first
     | refine Go.condF rfl ?_
     | refine Opl.callR w0 rfl (by kernel_rfl) (rnumber 0 (by constructor <;> omega)) (by simpa [encB] using hB) rfl (fun S1 w1 k1 v => ?_)
     | refine .std ?_ | refine .nil ?_ | refine .seq ?_ | refine .region ?_ | refine .xs ?_ | refine .kb ?_ | refine .leaf ?_ | refine .block ?_ | refine .gn ?_ | refine .dr ?_ | fail
    exact At.fn rfl rfl rfl (by simpa [encB] using w1)
  · skip
    repeat' first
     | refine Go.condT rfl ?_
     | refine Opl.callR w0 rfl (by kernel_rfl) (rnumber 1 (by constructor <;> omega)) (by simpa [encB] using hB) rfl (fun S1 w1 k1 v => ?_)
     | refine .std ?_ | refine .nil ?_ | refine .seq ?_ | refine .region ?_ | refine .xs ?_ | refine .kb ?_ | refine .leaf ?_ | refine .block ?_ | refine .gn ?_ | refine .dr ?_ | fail
    exact At.fn rfl rfl rfl (by simpa [encB] using w1)
end Go.Proofs.YtilldjgagokcfaaGreat
