import Derived.Test.YtilldjgagokcfaaGreatW1
import Derived.Test.YtilldjgagokcfaaGreatE9
set_option linter.unusedVariables false
set_option linter.unusedSimpArgs false
namespace Go.Proofs.YtilldjgagokcfaaGreat
open Go.RowKit Go.Ev
set_option maxRecDepth 100000
set_option linter.unusedVariables false
def tooL : V := .iface 202 (.agg [])
def Wrote (S : St) (c : Nat) (buf bs : List UInt8) (S' : St) : Prop := CodW S' c (buf ++ bs) ∧ KeepB S S' c
def Big (S : St) (c : Nat) (buf bs : List UInt8) (v : V) (S' : St) : Prop := v = tooL ∧ 99988 < buf.length + bs.length ∧ KeepB S S' c
abbrev WrTo (g : FuncId) (l : List V) (S : St) (c : Nat) (buf bs : List UInt8) (Q : V → Prop) : Prop :=
  CallTo Tryz.prog g l S (fun v S' => Q v ∧ Wrote S c buf bs S') (Big S c buf bs)
theorem CodW.put {S : St} {c : Nat} {buf : List UInt8} (h : CodW S c buf) (b : UInt8) : WrTo 121 [.ptr c 0, .int .u8 b.toNat] S c buf [b] (fun _ => True) := by
  refine CallTo.of (n := 18) Tryz.func121 rfl rfl ?_
  repeat' first
   | refine Opl.call rfl (by kernel_rfl) h.len rfl (fun v S1 ⟨hv, h1⟩ => ?_) (fun _ _ hf => hf.elim)
   | refine .std ?_ | refine .nil ?_ | refine .seq ?_ | refine .region ?_ | refine .xs ?_ | refine .kb ?_ | refine .leaf ?_ | refine .block ?_ | refine .gn ?_ | refine .dr ?_ | fail
  subst hv h1
  repeat' first | refine .std ?_ | refine .nil ?_ | refine .seq ?_ | refine .region ?_ | refine .xs ?_ | refine .kb ?_ | refine .leaf ?_ | refine .block ?_ | refine .gn ?_ | refine .dr ?_ | fail
  refine Go.cond rfl (fun hq => ?_) (fun hq => ?_)
  · have hq : buf.length = 99988 := by have := beq_iff_eq.1 hq; omega
    have hb0 : buildE Tryz.prog 202 [] = some (.agg []) := by kernel_rfl
    repeat' first
     | refine Opl.val (op_build0 hb0) rfl ?_
     | refine Opl.panic rfl ?_
     | refine .std ?_ | refine .nil ?_ | refine .seq ?_ | refine .region ?_ | refine .xs ?_ | refine .kb ?_ | refine .leaf ?_ | refine .block ?_ | refine .gn ?_ | refine .dr ?_ | fail
    exact At.fnp rfl ⟨rfl, by simp [hq], KeepB.refl _ _⟩
  · have hq : buf.length ≠ 99988 := by have := beq_eq_false_iff_ne.1 hq; omega
    have hle := h.le
    repeat' first
     | refine Opl.call rfl (by kernel_rfl) (h.byte (by omega) b) rfl (fun v S1 h1 => ?_) (fun _ _ hf => hf.elim)
     | refine .std ?_ | refine .nil ?_ | refine .seq ?_ | refine .region ?_ | refine .xs ?_ | refine .kb ?_ | refine .leaf ?_ | refine .block ?_ | refine .gn ?_ | refine .dr ?_ | fail
    repeat' first | refine .std ?_ | refine .nil ?_ | refine .seq ?_ | refine .region ?_ | refine .xs ?_ | refine .kb ?_ | refine .leaf ?_ | refine .block ?_ | refine .gn ?_ | refine .dr ?_ | fail
    exact At.fn rfl rfl rfl ⟨trivial, h1⟩
theorem CodW.groups {S : St} {c : Nat} {buf : List UInt8} (h : CodW S c buf) (n : Nat) (hn : n < 18446744073709551616) :
    WrTo 148 [.ptr c 0, .int .u64 n] S c buf (vb n) (fun v => v = .int .u64 n) := by
  refine CallTo.of (n := 103) Tryz.func148 rfl rfl ?_
  obtain ⟨a, l, hp, hb, ha, hl⟩ := h.pt
  repeat' first
   | refine Go.condT rfl ?_
   | refine .std ?_ | refine .nil ?_ | refine .seq ?_ | refine .region ?_ | refine .xs ?_ | refine .kb ?_ | refine .leaf ?_ | refine .block ?_ | refine .gn ?_ | refine .dr ?_ | fail
  refine Go.weaken (E' := [(0, .ptr c 0), (1, .int .u64 n), (5, .int .u64 n)]) ?_ ⟨rfl, rfl, rfl, trivial⟩
  refine Go.loop_ind (α := Nat) id (fun m E S' => E = [(0, .ptr c 0), (1, .int .u64 n), (5, .int .u64 m)] ∧ m < 18446744073709551616 ∧ ∃ buf', CodW S' c buf' ∧ KeepB S S' c ∧ buf' ++ vb m = buf ++ vb n) ?_ n _ _ ⟨rfl, hn, buf, h, KeepB.refl _ _, rfl⟩
  rintro m E S1 ⟨rfl, hm, buf1, h1, k1, e1⟩ IH
  repeat' first | refine .std ?_ | refine .nil ?_ | refine .seq ?_ | refine .region ?_ | refine .xs ?_ | refine .kb ?_ | refine .leaf ?_ | refine .block ?_ | refine .gn ?_ | refine .dr ?_ | fail
  have hlen : buf1.length + (vb m).length = buf.length + (vb n).length := by
    have := congrArg List.length e1; simpa using this
  refine Go.cond rfl (fun hq => ?_) (fun hq => ?_)
  · have hq : ¬ m < 128 := by have := of_decide_eq_true hq; omega
    have hv := vb_ge hq
    repeat' first
     | refine Opl.val (op_int (v := .int .u8 (UInt8.ofNat (m % 128 + 128)).toNat) rfl rfl rfl (by rw [← byte_or]; rfl)) rfl ?_
     | refine Opl.call rfl (by kernel_rfl) (h1.put _) rfl (fun v S2 ⟨_, h2, k2⟩ => ?_) (fun v S2 ⟨hv2, hbig, k2⟩ => ?_)
     | refine Opl.val (op_shift rfl rfl rfl (shr7 m)) rfl ?_
     | refine At.fnp rfl ?_
     | refine .std ?_ | refine .nil ?_ | refine .seq ?_ | refine .region ?_ | refine .xs ?_ | refine .kb ?_ | refine .leaf ?_ | refine .block ?_ | refine .gn ?_ | refine .dr ?_ | fail
    · refine (IH (m / 128) _ S2 (by show m / 128 < m; omega) ⟨rfl, by omega, buf1 ++ [UInt8.ofNat (m % 128 + 128)], h2, k1.trans k2, ?_⟩).weaken ⟨rfl, rfl, rfl, trivial⟩
      rw [List.append_assoc, List.singleton_append, ← hv]; exact e1
    · subst hv2
      refine ⟨rfl, ?_, k1.trans k2⟩
      have : (vb m).length = (vb (m / 128)).length + 1 := by rw [hv]; rfl
      have := vb_pos (m / 128)
      simp at hbig
      omega
  · have hq : m < 128 := by have := of_decide_eq_false hq; omega
    have hv := vb_lt hq
    repeat' first
     | refine Opl.val (op_int (v := .int .u8 (UInt8.ofNat m).toNat) rfl rfl rfl (by rw [← byte_small m hq]; rfl)) rfl ?_
     | refine Opl.call rfl (by kernel_rfl) (h1.put (UInt8.ofNat m)) rfl (fun v S2 ⟨_, h2, k2⟩ => ?_) (fun v S2 ⟨hv2, hbig, k2⟩ => ?_)
     | refine At.fnp rfl ?_
     | refine At.fnr rfl rfl rfl ?_
     | refine .std ?_ | refine .nil ?_ | refine .seq ?_ | refine .region ?_ | refine .xs ?_ | refine .kb ?_ | refine .leaf ?_ | refine .block ?_ | refine .gn ?_ | refine .dr ?_ | fail
    · refine ⟨rfl, ?_, k1.trans k2⟩
      rw [hv] at e1; rw [← e1]; exact h2
    · subst hv2
      refine ⟨rfl, ?_, k1.trans k2⟩
      rw [hv] at hlen
      simp at hbig hlen
      omega
theorem unzig_pos {n : Int} (h : in64 n) (h0 : 0 ≤ n) : IntKind.wrap .i64 ((zig n / 2 : Nat) : Int) = n ∧ zig n % 2 = 0 := by
  obtain ⟨h1, h2⟩ := h
  unfold zig; rw [if_pos h0, wrap_i64]
  constructor
  · split <;> omega
  · omega
theorem unzig_neg {n : Int} (h : in64 n) (h0 : ¬ 0 ≤ n) : IntKind.wrap .i64 ((zig n / 2 : Nat) : Int) = -(n + 1) ∧ zig n % 2 = 1 := by
  obtain ⟨h1, h2⟩ := h
  unfold zig; rw [if_neg h0, wrap_i64]
  constructor
  · split <;> omega
  · omega
theorem CodW.int {S : St} {c : Nat} {buf : List UInt8} (h : CodW S c buf) (n : Int) (hn : in64 n) :
    WrTo 129 [.ptr c 0, .int .i64 n] S c buf (encI n) (fun v => v = .int .i64 n) := by
  refine CallTo.of (n := 26) Tryz.func129 rfl rfl ?_
  have hz := zig_lt hn.1 hn.2
  repeat' first
   | refine Opl.val (op_shift rfl rfl rfl (shl1 n)) rfl ?_
   | refine .std ?_ | refine .nil ?_ | refine .seq ?_ | refine .region ?_ | refine .xs ?_ | refine .kb ?_ | refine .leaf ?_ | refine .block ?_ | refine .gn ?_ | refine .dr ?_ | fail
  by_cases h0 : 0 ≤ n
  · obtain ⟨u1, u2⟩ := unzig_pos hn h0
    refine Go.condF (by show some (V.bool (decide (n < 0))) = _; rw [decide_eq_false (by omega)]) ?_
    rw [zig_pos hn h0]
    have hodd : intOp .eql .u64 (bitE .and .u64 (zig n : Int) 1) 1 = some (.bool false) := by
      rw [and1 _ hz, u2]; rfl
    repeat' first
     | refine Opl.callv rfl (by kernel_rfl) (h.groups (zig n) hz) rfl (fun S2 ⟨h2, k2⟩ => ?_) (fun v S2 hbig => ?_)
     | refine Opl.val (op_shift rfl rfl rfl (shr1 (zig n))) rfl ?_
     | refine Opl.val (op_int rfl rfl rfl hodd) rfl ?_
     | refine Go.condF rfl ?_
     | refine At.fnp rfl ?_
     | refine At.fnr rfl rfl rfl ?_
     | refine .std ?_ | refine .nil ?_ | refine .seq ?_ | refine .region ?_ | refine .xs ?_ | refine .kb ?_ | refine .leaf ?_ | refine .block ?_ | refine .gn ?_ | refine .dr ?_ | fail
    · exact ⟨by simp only [packV]; rw [u1], h2, k2⟩
    · exact hbig
  · obtain ⟨u1, u2⟩ := unzig_neg hn h0
    refine Go.condT (by show some (V.bool (decide (n < 0))) = _; rw [decide_eq_true (by omega)]) ?_
    have hodd : intOp .eql .u64 (bitE .and .u64 (zig n : Int) 1) 1 = some (.bool true) := by
      rw [and1 _ hz, u2]; rfl
    repeat' first
     | refine Opl.val (op_un (w := .int .u64 (zig n)) rfl (by rw [← zig_neg hn h0]; rfl)) rfl ?_
     | refine Opl.callv rfl (by kernel_rfl) (h.groups (zig n) hz) rfl (fun S2 ⟨h2, k2⟩ => ?_) (fun v S2 hbig => ?_)
     | refine Opl.val (op_shift rfl rfl rfl (shr1 (zig n))) rfl ?_
     | refine Opl.val (op_int rfl rfl rfl hodd) rfl ?_
     | refine Go.condT rfl ?_
     | refine At.fnp rfl ?_
     | refine At.fnr rfl rfl rfl ?_
     | refine .std ?_ | refine .nil ?_ | refine .seq ?_ | refine .region ?_ | refine .xs ?_ | refine .kb ?_ | refine .leaf ?_ | refine .block ?_ | refine .gn ?_ | refine .dr ?_ | fail
    · refine ⟨?_, h2, k2⟩
      simp only [packV]
      rw [u1]
      show V.int .i64 (bitE .xor .i64 (-1) (-(n + 1))) = _
      rw [not_i64 _ (by obtain ⟨h1, h2⟩ := hn; omega)]
      congr 1; omega
    · exact hbig
end Go.Proofs.YtilldjgagokcfaaGreat
