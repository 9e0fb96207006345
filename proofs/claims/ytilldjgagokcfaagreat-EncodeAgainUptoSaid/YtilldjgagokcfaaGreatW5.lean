/-
  The writer: lists, of whatever elements.
-/
import Derived.Test.YtilldjgagokcfaaGreatW4
set_option linter.unusedVariables false
set_option linter.unusedSimpArgs false
namespace Go.Proofs.YtilldjgagokcfaaGreat
open Go.RowKit Go.Ev
set_option maxRecDepth 100000
set_option linter.unusedVariables false

theorem wlist62 {S : St} {c : Nat} {buf : List UInt8} (h : CodW S c buf) {g : FuncId} (hg : hasBody Tryz.prog g = true) {p v : V} (hp : Src S c p [v]) (hv : isLn 5 v) (hlen : (elems v).length < 4611686018427387904) {bl : List UInt8} (he : EncEl g c (elems v) bl) :
    WrTo 106 [.ptr c 0, p, .func g [] []] S c buf (encI ((elems v).length : Nat) ++ bl) (fun _ => True) := by
  refine CallTo.of (n := 59) Tryz.func106 rfl rfl ?_
  have hpt := hp.pt
  have hisp := hpt.isP
  repeat' first
   | refine Opl.val (op_lenL rfl hv.isL rfl) rfl ?_
   | refine Opl.val (op_load rfl (CodW.ldReads (And.left (by assumption)))) rfl ?_
   | refine Opl.callv rfl (by kernel_rfl) (h.length ((elems v).length : Nat) (by constructor <;> omega)) rfl (fun S2 w2 => ?_) (fun v S2 hbig => ?_)
   | refine Go.condT rfl ?_
   | refine At.fnp rfl ?_
   | refine .std ?_ | refine .nil ?_ | refine .seq ?_ | refine .region ?_ | refine .xs ?_ | refine .kb ?_ | refine .leaf ?_ | refine .block ?_ | refine .gn ?_ | refine .dr ?_ | fail
  · refine Go.weaken (E' := [(0, .ptr c 0), (1, p), (2, .func g [] []), (20, .int .i64 (elems v).length), (21, .int .i64 (0 : Nat))]) ?_ ⟨rfl, rfl, rfl, rfl, rfl, trivial⟩
    refine Go.loop_ind (α := Nat) (fun i => (elems v).length - i) (fun i E S' => E = [(0, .ptr c 0), (1, p), (2, .func g [] []), (20, .int .i64 (elems v).length), (21, .int .i64 i)] ∧ i ≤ (elems v).length ∧ ∃ b1 b2, bl = b1 ++ b2 ∧ EncEl g c ((elems v).drop i) b2 ∧
      Wrote S c buf (encI ((elems v).length : Nat) ++ b1) S') ?_ 0 _ _ ⟨rfl, Nat.zero_le _, [], bl, rfl, he, by simpa using w2⟩
    rintro i E S1 ⟨rfl, hi, b1, b2, hb, hd, w1⟩ IH
    obtain ⟨h1, k1⟩ := w1
    have hpt1 := (k1.src hp).pt
    repeat' first | refine .std ?_ | refine .nil ?_ | refine .seq ?_ | refine .region ?_ | refine .xs ?_ | refine .kb ?_ | refine .leaf ?_ | refine .block ?_ | refine .gn ?_ | refine .dr ?_ | fail
    refine Go.cond rfl (fun hq => ?_) (fun hq => ?_)
    · have hq : i < (elems v).length := by have := of_decide_eq_true hq; omega
      rw [List.drop_eq_getElem_cons hq] at hd
      obtain ⟨be, b3, hb3, hel, hrest⟩ := hd
      have hix : (elems v)[i]? = some (elems v)[i] := List.getElem?_eq_getElem hq
      obtain ⟨lt, tk, hvl⟩ := hv.el hix
      have hval : ∀ es, elems v = es → v = .list lt 5 es tk := fun es h => h ▸ hvl
      repeat' first
       | refine Opl.val (op_ixaL (by exact (congrArg some hvl)) rfl hix) rfl ?_
       | refine Opl.call rfl hg (hel S1 _ _ ⟨Pt.cptr _ _ _, trivial⟩ h1) rfl (fun v2 S4 w4 => ?_) (fun v2 S4 hbig => ?_)
       | refine Opl.val (op_int rfl rfl rfl (inc_ok (i := i) (by omega))) rfl ?_
       | refine At.fnp rfl ?_
       | refine .std ?_ | refine .nil ?_ | refine .seq ?_ | refine .region ?_ | refine .xs ?_ | refine .kb ?_ | refine .leaf ?_ | refine .block ?_ | refine .gn ?_ | refine .dr ?_ | fail
      · exact (IH (i + 1) _ S4 (by omega) ⟨rfl, by omega, b1 ++ be, b3, by rw [hb, hb3, List.append_assoc], hrest, by rw [← List.append_assoc]; exact Wrote.trans ⟨h1, k1⟩ w4.2⟩).weaken ⟨rfl, rfl, rfl, rfl, rfl, trivial⟩
      · rw [hb, hb3, ← List.append_assoc]
        exact Big.trans ⟨h1, k1⟩ hbig.more
    · have hq : i = (elems v).length := by have := of_decide_eq_false hq; omega
      rw [List.drop_eq_nil_of_le (by omega)] at hd
      have hd : b2 = [] := hd
      subst hd
      repeat' first
       | refine At.fnr rfl rfl rfl ?_
       | refine .std ?_ | refine .nil ?_ | refine .seq ?_ | refine .region ?_ | refine .xs ?_ | refine .kb ?_ | refine .leaf ?_ | refine .block ?_ | refine .gn ?_ | refine .dr ?_ | fail
      rw [hb, List.append_nil]
      exact ⟨trivial, h1, k1⟩
  · exact hbig.more

theorem wlist181 {S : St} {c : Nat} {buf : List UInt8} (h : CodW S c buf) {g : FuncId} (hg : hasBody Tryz.prog g = true) {p v : V} (hp : Src S c p [v]) (hv : isLn 5 v) (hlen : (elems v).length < 4611686018427387904) {bl : List UInt8} (he : EncEl g c (elems v) bl) :
    WrTo 96 [.ptr c 0, p, .func g [] []] S c buf (encI ((elems v).length : Nat) ++ bl) (fun _ => True) := by
  refine CallTo.of (n := 48) Tryz.func96 rfl rfl ?_
  have hpt := hp.pt
  have hisp := hpt.isP
  repeat' first
   | refine Opl.val (op_lenL rfl hv.isL rfl) rfl ?_
   | refine Opl.val (op_load rfl (CodW.ldReads (And.left (by assumption)))) rfl ?_
   | refine Opl.callv rfl (by kernel_rfl) (h.length ((elems v).length : Nat) (by constructor <;> omega)) rfl (fun S2 w2 => ?_) (fun v S2 hbig => ?_)
   | refine Go.condT rfl ?_
   | refine At.fnp rfl ?_
   | refine .std ?_ | refine .nil ?_ | refine .seq ?_ | refine .region ?_ | refine .xs ?_ | refine .kb ?_ | refine .leaf ?_ | refine .block ?_ | refine .gn ?_ | refine .dr ?_ | fail
  · refine Go.weaken (E' := [(0, .ptr c 0), (1, p), (2, .func g [] []), (20, .int .i64 (elems v).length), (21, .int .i64 (0 : Nat))]) ?_ ⟨rfl, rfl, rfl, rfl, rfl, trivial⟩
    refine Go.loop_ind (α := Nat) (fun i => (elems v).length - i) (fun i E S' => E = [(0, .ptr c 0), (1, p), (2, .func g [] []), (20, .int .i64 (elems v).length), (21, .int .i64 i)] ∧ i ≤ (elems v).length ∧ ∃ b1 b2, bl = b1 ++ b2 ∧ EncEl g c ((elems v).drop i) b2 ∧
      Wrote S c buf (encI ((elems v).length : Nat) ++ b1) S') ?_ 0 _ _ ⟨rfl, Nat.zero_le _, [], bl, rfl, he, by simpa using w2⟩
    rintro i E S1 ⟨rfl, hi, b1, b2, hb, hd, w1⟩ IH
    obtain ⟨h1, k1⟩ := w1
    have hpt1 := (k1.src hp).pt
    repeat' first | refine .std ?_ | refine .nil ?_ | refine .seq ?_ | refine .region ?_ | refine .xs ?_ | refine .kb ?_ | refine .leaf ?_ | refine .block ?_ | refine .gn ?_ | refine .dr ?_ | fail
    refine Go.cond rfl (fun hq => ?_) (fun hq => ?_)
    · have hq : i < (elems v).length := by have := of_decide_eq_true hq; omega
      rw [List.drop_eq_getElem_cons hq] at hd
      obtain ⟨be, b3, hb3, hel, hrest⟩ := hd
      have hix : (elems v)[i]? = some (elems v)[i] := List.getElem?_eq_getElem hq
      obtain ⟨lt, tk, hvl⟩ := hv.el hix
      have hval : ∀ es, elems v = es → v = .list lt 5 es tk := fun es h => h ▸ hvl
      repeat' first
       | refine Opl.val (op_ixaL (by exact (congrArg some hvl)) rfl hix) rfl ?_
       | refine Opl.call rfl hg (hel S1 _ _ ⟨Pt.cptr _ _ _, trivial⟩ h1) rfl (fun v2 S4 w4 => ?_) (fun v2 S4 hbig => ?_)
       | refine Opl.val (op_int rfl rfl rfl (inc_ok (i := i) (by omega))) rfl ?_
       | refine At.fnp rfl ?_
       | refine .std ?_ | refine .nil ?_ | refine .seq ?_ | refine .region ?_ | refine .xs ?_ | refine .kb ?_ | refine .leaf ?_ | refine .block ?_ | refine .gn ?_ | refine .dr ?_ | fail
      · exact (IH (i + 1) _ S4 (by omega) ⟨rfl, by omega, b1 ++ be, b3, by rw [hb, hb3, List.append_assoc], hrest, by rw [← List.append_assoc]; exact Wrote.trans ⟨h1, k1⟩ w4.2⟩).weaken ⟨rfl, rfl, rfl, rfl, rfl, trivial⟩
      · rw [hb, hb3, ← List.append_assoc]
        exact Big.trans ⟨h1, k1⟩ hbig.more
    · have hq : i = (elems v).length := by have := of_decide_eq_false hq; omega
      rw [List.drop_eq_nil_of_le (by omega)] at hd
      have hd : b2 = [] := hd
      subst hd
      repeat' first
       | refine At.fnr rfl rfl rfl ?_
       | refine .std ?_ | refine .nil ?_ | refine .seq ?_ | refine .region ?_ | refine .xs ?_ | refine .kb ?_ | refine .leaf ?_ | refine .block ?_ | refine .gn ?_ | refine .dr ?_ | fail
      rw [hb, List.append_nil]
      exact ⟨trivial, h1, k1⟩
  · exact hbig.more

theorem wlist259 {S : St} {c : Nat} {buf : List UInt8} (h : CodW S c buf) {g : FuncId} (hg : hasBody Tryz.prog g = true) {p v : V} (hp : Src S c p [v]) (hv : isLn 4 v) (hlen : (elems v).length < 4611686018427387904) {bl : List UInt8} (he : EncEl g c (elems v) bl) :
    WrTo 136 [.ptr c 0, p, .func g [] []] S c buf (encI ((elems v).length : Nat) ++ bl) (fun _ => True) := by
  refine CallTo.of (n := 48) Tryz.func136 rfl rfl ?_
  have hpt := hp.pt
  have hisp := hpt.isP
  repeat' first
   | refine Opl.val (op_lenL rfl hv.isL rfl) rfl ?_
   | refine Opl.val (op_load rfl (CodW.ldReads (And.left (by assumption)))) rfl ?_
   | refine Opl.callv rfl (by kernel_rfl) (h.length ((elems v).length : Nat) (by constructor <;> omega)) rfl (fun S2 w2 => ?_) (fun v S2 hbig => ?_)
   | refine Go.condT rfl ?_
   | refine At.fnp rfl ?_
   | refine .std ?_ | refine .nil ?_ | refine .seq ?_ | refine .region ?_ | refine .xs ?_ | refine .kb ?_ | refine .leaf ?_ | refine .block ?_ | refine .gn ?_ | refine .dr ?_ | fail
  · refine Go.weaken (E' := [(0, .ptr c 0), (1, p), (2, .func g [] []), (20, .int .i64 (elems v).length), (21, .int .i64 (0 : Nat))]) ?_ ⟨rfl, rfl, rfl, rfl, rfl, trivial⟩
    refine Go.loop_ind (α := Nat) (fun i => (elems v).length - i) (fun i E S' => E = [(0, .ptr c 0), (1, p), (2, .func g [] []), (20, .int .i64 (elems v).length), (21, .int .i64 i)] ∧ i ≤ (elems v).length ∧ ∃ b1 b2, bl = b1 ++ b2 ∧ EncEl g c ((elems v).drop i) b2 ∧
      Wrote S c buf (encI ((elems v).length : Nat) ++ b1) S') ?_ 0 _ _ ⟨rfl, Nat.zero_le _, [], bl, rfl, he, by simpa using w2⟩
    rintro i E S1 ⟨rfl, hi, b1, b2, hb, hd, w1⟩ IH
    obtain ⟨h1, k1⟩ := w1
    have hpt1 := (k1.src hp).pt
    repeat' first | refine .std ?_ | refine .nil ?_ | refine .seq ?_ | refine .region ?_ | refine .xs ?_ | refine .kb ?_ | refine .leaf ?_ | refine .block ?_ | refine .gn ?_ | refine .dr ?_ | fail
    refine Go.cond rfl (fun hq => ?_) (fun hq => ?_)
    · have hq : i < (elems v).length := by have := of_decide_eq_true hq; omega
      rw [List.drop_eq_getElem_cons hq] at hd
      obtain ⟨be, b3, hb3, hel, hrest⟩ := hd
      have hix : (elems v)[i]? = some (elems v)[i] := List.getElem?_eq_getElem hq
      obtain ⟨lt, tk, hvl⟩ := hv.el hix
      have hval : ∀ es, elems v = es → v = .list lt 4 es tk := fun es h => h ▸ hvl
      repeat' first
       | refine Opl.val (op_ixaL (by exact (congrArg some hvl)) rfl hix) rfl ?_
       | refine Opl.call rfl hg (hel S1 _ _ ⟨Pt.cptr _ _ _, trivial⟩ h1) rfl (fun v2 S4 w4 => ?_) (fun v2 S4 hbig => ?_)
       | refine Opl.val (op_int rfl rfl rfl (inc_ok (i := i) (by omega))) rfl ?_
       | refine At.fnp rfl ?_
       | refine .std ?_ | refine .nil ?_ | refine .seq ?_ | refine .region ?_ | refine .xs ?_ | refine .kb ?_ | refine .leaf ?_ | refine .block ?_ | refine .gn ?_ | refine .dr ?_ | fail
      · exact (IH (i + 1) _ S4 (by omega) ⟨rfl, by omega, b1 ++ be, b3, by rw [hb, hb3, List.append_assoc], hrest, by rw [← List.append_assoc]; exact Wrote.trans ⟨h1, k1⟩ w4.2⟩).weaken ⟨rfl, rfl, rfl, rfl, rfl, trivial⟩
      · rw [hb, hb3, ← List.append_assoc]
        exact Big.trans ⟨h1, k1⟩ hbig.more
    · have hq : i = (elems v).length := by have := of_decide_eq_false hq; omega
      rw [List.drop_eq_nil_of_le (by omega)] at hd
      have hd : b2 = [] := hd
      subst hd
      repeat' first
       | refine At.fnr rfl rfl rfl ?_
       | refine .std ?_ | refine .nil ?_ | refine .seq ?_ | refine .region ?_ | refine .xs ?_ | refine .kb ?_ | refine .leaf ?_ | refine .block ?_ | refine .gn ?_ | refine .dr ?_ | fail
      rw [hb, List.append_nil]
      exact ⟨trivial, h1, k1⟩
  · exact hbig.more

theorem wlist221 {S : St} {c : Nat} {buf : List UInt8} (h : CodW S c buf) {g : FuncId} (hg : hasBody Tryz.prog g = true) {p v : V} (hp : Src S c p [v]) (hv : isLn 6 v) (hlen : (elems v).length < 4611686018427387904) {bl : List UInt8} (he : EncEl g c (elems v) bl) :
    WrTo 117 [.ptr c 0, p, .func g [] []] S c buf (encI ((elems v).length : Nat) ++ bl) (fun _ => True) := by
  refine CallTo.of (n := 59) Tryz.func117 rfl rfl ?_
  have hpt := hp.pt
  have hisp := hpt.isP
  repeat' first
   | refine Opl.val (op_lenL rfl hv.isL rfl) rfl ?_
   | refine Opl.val (op_load rfl (CodW.ldReads (And.left (by assumption)))) rfl ?_
   | refine Opl.callv rfl (by kernel_rfl) (h.length ((elems v).length : Nat) (by constructor <;> omega)) rfl (fun S2 w2 => ?_) (fun v S2 hbig => ?_)
   | refine Go.condT rfl ?_
   | refine At.fnp rfl ?_
   | refine .std ?_ | refine .nil ?_ | refine .seq ?_ | refine .region ?_ | refine .xs ?_ | refine .kb ?_ | refine .leaf ?_ | refine .block ?_ | refine .gn ?_ | refine .dr ?_ | fail
  · refine Go.weaken (E' := [(0, .ptr c 0), (1, p), (2, .func g [] []), (20, .int .i64 (elems v).length), (21, .int .i64 (0 : Nat))]) ?_ ⟨rfl, rfl, rfl, rfl, rfl, trivial⟩
    refine Go.loop_ind (α := Nat) (fun i => (elems v).length - i) (fun i E S' => E = [(0, .ptr c 0), (1, p), (2, .func g [] []), (20, .int .i64 (elems v).length), (21, .int .i64 i)] ∧ i ≤ (elems v).length ∧ ∃ b1 b2, bl = b1 ++ b2 ∧ EncEl g c ((elems v).drop i) b2 ∧
      Wrote S c buf (encI ((elems v).length : Nat) ++ b1) S') ?_ 0 _ _ ⟨rfl, Nat.zero_le _, [], bl, rfl, he, by simpa using w2⟩
    rintro i E S1 ⟨rfl, hi, b1, b2, hb, hd, w1⟩ IH
    obtain ⟨h1, k1⟩ := w1
    have hpt1 := (k1.src hp).pt
    repeat' first | refine .std ?_ | refine .nil ?_ | refine .seq ?_ | refine .region ?_ | refine .xs ?_ | refine .kb ?_ | refine .leaf ?_ | refine .block ?_ | refine .gn ?_ | refine .dr ?_ | fail
    refine Go.cond rfl (fun hq => ?_) (fun hq => ?_)
    · have hq : i < (elems v).length := by have := of_decide_eq_true hq; omega
      rw [List.drop_eq_getElem_cons hq] at hd
      obtain ⟨be, b3, hb3, hel, hrest⟩ := hd
      have hix : (elems v)[i]? = some (elems v)[i] := List.getElem?_eq_getElem hq
      obtain ⟨lt, tk, hvl⟩ := hv.el hix
      have hval : ∀ es, elems v = es → v = .list lt 6 es tk := fun es h => h ▸ hvl
      repeat' first
       | refine Opl.val (op_ixaL (by exact (congrArg some hvl)) rfl hix) rfl ?_
       | refine Opl.call rfl hg (hel S1 _ _ ⟨Pt.cptr _ _ _, trivial⟩ h1) rfl (fun v2 S4 w4 => ?_) (fun v2 S4 hbig => ?_)
       | refine Opl.val (op_int rfl rfl rfl (inc_ok (i := i) (by omega))) rfl ?_
       | refine At.fnp rfl ?_
       | refine .std ?_ | refine .nil ?_ | refine .seq ?_ | refine .region ?_ | refine .xs ?_ | refine .kb ?_ | refine .leaf ?_ | refine .block ?_ | refine .gn ?_ | refine .dr ?_ | fail
      · exact (IH (i + 1) _ S4 (by omega) ⟨rfl, by omega, b1 ++ be, b3, by rw [hb, hb3, List.append_assoc], hrest, by rw [← List.append_assoc]; exact Wrote.trans ⟨h1, k1⟩ w4.2⟩).weaken ⟨rfl, rfl, rfl, rfl, rfl, trivial⟩
      · rw [hb, hb3, ← List.append_assoc]
        exact Big.trans ⟨h1, k1⟩ hbig.more
    · have hq : i = (elems v).length := by have := of_decide_eq_false hq; omega
      rw [List.drop_eq_nil_of_le (by omega)] at hd
      have hd : b2 = [] := hd
      subst hd
      repeat' first
       | refine At.fnr rfl rfl rfl ?_
       | refine .std ?_ | refine .nil ?_ | refine .seq ?_ | refine .region ?_ | refine .xs ?_ | refine .kb ?_ | refine .leaf ?_ | refine .block ?_ | refine .gn ?_ | refine .dr ?_ | fail
      rw [hb, List.append_nil]
      exact ⟨trivial, h1, k1⟩
  · exact hbig.more

theorem wlist276 {S : St} {c : Nat} {buf : List UInt8} (h : CodW S c buf) {g : FuncId} (hg : hasBody Tryz.prog g = true) {p v : V} (hp : Src S c p [v]) (hv : isLn 2 v) (hlen : (elems v).length < 4611686018427387904) {bl : List UInt8} (he : EncEl g c (elems v) bl) :
    WrTo 145 [.ptr c 0, p, .func g [] []] S c buf (encI ((elems v).length : Nat) ++ bl) (fun _ => True) := by
  refine CallTo.of (n := 48) Tryz.func145 rfl rfl ?_
  have hpt := hp.pt
  have hisp := hpt.isP
  repeat' first
   | refine Opl.val (op_lenL rfl hv.isL rfl) rfl ?_
   | refine Opl.val (op_load rfl (CodW.ldReads (And.left (by assumption)))) rfl ?_
   | refine Opl.callv rfl (by kernel_rfl) (h.length ((elems v).length : Nat) (by constructor <;> omega)) rfl (fun S2 w2 => ?_) (fun v S2 hbig => ?_)
   | refine Go.condT rfl ?_
   | refine At.fnp rfl ?_
   | refine .std ?_ | refine .nil ?_ | refine .seq ?_ | refine .region ?_ | refine .xs ?_ | refine .kb ?_ | refine .leaf ?_ | refine .block ?_ | refine .gn ?_ | refine .dr ?_ | fail
  · refine Go.weaken (E' := [(0, .ptr c 0), (1, p), (2, .func g [] []), (20, .int .i64 (elems v).length), (21, .int .i64 (0 : Nat))]) ?_ ⟨rfl, rfl, rfl, rfl, rfl, trivial⟩
    refine Go.loop_ind (α := Nat) (fun i => (elems v).length - i) (fun i E S' => E = [(0, .ptr c 0), (1, p), (2, .func g [] []), (20, .int .i64 (elems v).length), (21, .int .i64 i)] ∧ i ≤ (elems v).length ∧ ∃ b1 b2, bl = b1 ++ b2 ∧ EncEl g c ((elems v).drop i) b2 ∧
      Wrote S c buf (encI ((elems v).length : Nat) ++ b1) S') ?_ 0 _ _ ⟨rfl, Nat.zero_le _, [], bl, rfl, he, by simpa using w2⟩
    rintro i E S1 ⟨rfl, hi, b1, b2, hb, hd, w1⟩ IH
    obtain ⟨h1, k1⟩ := w1
    have hpt1 := (k1.src hp).pt
    repeat' first | refine .std ?_ | refine .nil ?_ | refine .seq ?_ | refine .region ?_ | refine .xs ?_ | refine .kb ?_ | refine .leaf ?_ | refine .block ?_ | refine .gn ?_ | refine .dr ?_ | fail
    refine Go.cond rfl (fun hq => ?_) (fun hq => ?_)
    · have hq : i < (elems v).length := by have := of_decide_eq_true hq; omega
      rw [List.drop_eq_getElem_cons hq] at hd
      obtain ⟨be, b3, hb3, hel, hrest⟩ := hd
      have hix : (elems v)[i]? = some (elems v)[i] := List.getElem?_eq_getElem hq
      obtain ⟨lt, tk, hvl⟩ := hv.el hix
      have hval : ∀ es, elems v = es → v = .list lt 2 es tk := fun es h => h ▸ hvl
      repeat' first
       | refine Opl.val (op_ixaL (by exact (congrArg some hvl)) rfl hix) rfl ?_
       | refine Opl.call rfl hg (hel S1 _ _ ⟨Pt.cptr _ _ _, trivial⟩ h1) rfl (fun v2 S4 w4 => ?_) (fun v2 S4 hbig => ?_)
       | refine Opl.val (op_int rfl rfl rfl (inc_ok (i := i) (by omega))) rfl ?_
       | refine At.fnp rfl ?_
       | refine .std ?_ | refine .nil ?_ | refine .seq ?_ | refine .region ?_ | refine .xs ?_ | refine .kb ?_ | refine .leaf ?_ | refine .block ?_ | refine .gn ?_ | refine .dr ?_ | fail
      · exact (IH (i + 1) _ S4 (by omega) ⟨rfl, by omega, b1 ++ be, b3, by rw [hb, hb3, List.append_assoc], hrest, by rw [← List.append_assoc]; exact Wrote.trans ⟨h1, k1⟩ w4.2⟩).weaken ⟨rfl, rfl, rfl, rfl, rfl, trivial⟩
      · rw [hb, hb3, ← List.append_assoc]
        exact Big.trans ⟨h1, k1⟩ hbig.more
    · have hq : i = (elems v).length := by have := of_decide_eq_false hq; omega
      rw [List.drop_eq_nil_of_le (by omega)] at hd
      have hd : b2 = [] := hd
      subst hd
      repeat' first
       | refine At.fnr rfl rfl rfl ?_
       | refine .std ?_ | refine .nil ?_ | refine .seq ?_ | refine .region ?_ | refine .xs ?_ | refine .kb ?_ | refine .leaf ?_ | refine .block ?_ | refine .gn ?_ | refine .dr ?_ | fail
      rw [hb, List.append_nil]
      exact ⟨trivial, h1, k1⟩
  · exact hbig.more

theorem wlist121 {S : St} {c : Nat} {buf : List UInt8} (h : CodW S c buf) {g : FuncId} (hg : hasBody Tryz.prog g = true) {p v : V} (hp : Src S c p [v]) (hv : isLn 3 v) (hlen : (elems v).length < 4611686018427387904) {bl : List UInt8} (he : EncEl g c (elems v) bl) :
    WrTo 59 [.ptr c 0, p, .func g [] []] S c buf (encI ((elems v).length : Nat) ++ bl) (fun _ => True) := by
  refine CallTo.of (n := 48) Tryz.func59 rfl rfl ?_
  have hpt := hp.pt
  have hisp := hpt.isP
  repeat' first
   | refine Opl.val (op_lenL rfl hv.isL rfl) rfl ?_
   | refine Opl.val (op_load rfl (CodW.ldReads (And.left (by assumption)))) rfl ?_
   | refine Opl.callv rfl (by kernel_rfl) (h.length ((elems v).length : Nat) (by constructor <;> omega)) rfl (fun S2 w2 => ?_) (fun v S2 hbig => ?_)
   | refine Go.condT rfl ?_
   | refine At.fnp rfl ?_
   | refine .std ?_ | refine .nil ?_ | refine .seq ?_ | refine .region ?_ | refine .xs ?_ | refine .kb ?_ | refine .leaf ?_ | refine .block ?_ | refine .gn ?_ | refine .dr ?_ | fail
  · refine Go.weaken (E' := [(0, .ptr c 0), (1, p), (2, .func g [] []), (20, .int .i64 (elems v).length), (21, .int .i64 (0 : Nat))]) ?_ ⟨rfl, rfl, rfl, rfl, rfl, trivial⟩
    refine Go.loop_ind (α := Nat) (fun i => (elems v).length - i) (fun i E S' => E = [(0, .ptr c 0), (1, p), (2, .func g [] []), (20, .int .i64 (elems v).length), (21, .int .i64 i)] ∧ i ≤ (elems v).length ∧ ∃ b1 b2, bl = b1 ++ b2 ∧ EncEl g c ((elems v).drop i) b2 ∧
      Wrote S c buf (encI ((elems v).length : Nat) ++ b1) S') ?_ 0 _ _ ⟨rfl, Nat.zero_le _, [], bl, rfl, he, by simpa using w2⟩
    rintro i E S1 ⟨rfl, hi, b1, b2, hb, hd, w1⟩ IH
    obtain ⟨h1, k1⟩ := w1
    have hpt1 := (k1.src hp).pt
    repeat' first | refine .std ?_ | refine .nil ?_ | refine .seq ?_ | refine .region ?_ | refine .xs ?_ | refine .kb ?_ | refine .leaf ?_ | refine .block ?_ | refine .gn ?_ | refine .dr ?_ | fail
    refine Go.cond rfl (fun hq => ?_) (fun hq => ?_)
    · have hq : i < (elems v).length := by have := of_decide_eq_true hq; omega
      rw [List.drop_eq_getElem_cons hq] at hd
      obtain ⟨be, b3, hb3, hel, hrest⟩ := hd
      have hix : (elems v)[i]? = some (elems v)[i] := List.getElem?_eq_getElem hq
      obtain ⟨lt, tk, hvl⟩ := hv.el hix
      have hval : ∀ es, elems v = es → v = .list lt 3 es tk := fun es h => h ▸ hvl
      repeat' first
       | refine Opl.val (op_ixaL (by exact (congrArg some hvl)) rfl hix) rfl ?_
       | refine Opl.call rfl hg (hel S1 _ _ ⟨Pt.cptr _ _ _, trivial⟩ h1) rfl (fun v2 S4 w4 => ?_) (fun v2 S4 hbig => ?_)
       | refine Opl.val (op_int rfl rfl rfl (inc_ok (i := i) (by omega))) rfl ?_
       | refine At.fnp rfl ?_
       | refine .std ?_ | refine .nil ?_ | refine .seq ?_ | refine .region ?_ | refine .xs ?_ | refine .kb ?_ | refine .leaf ?_ | refine .block ?_ | refine .gn ?_ | refine .dr ?_ | fail
      · exact (IH (i + 1) _ S4 (by omega) ⟨rfl, by omega, b1 ++ be, b3, by rw [hb, hb3, List.append_assoc], hrest, by rw [← List.append_assoc]; exact Wrote.trans ⟨h1, k1⟩ w4.2⟩).weaken ⟨rfl, rfl, rfl, rfl, rfl, trivial⟩
      · rw [hb, hb3, ← List.append_assoc]
        exact Big.trans ⟨h1, k1⟩ hbig.more
    · have hq : i = (elems v).length := by have := of_decide_eq_false hq; omega
      rw [List.drop_eq_nil_of_le (by omega)] at hd
      have hd : b2 = [] := hd
      subst hd
      repeat' first
       | refine At.fnr rfl rfl rfl ?_
       | refine .std ?_ | refine .nil ?_ | refine .seq ?_ | refine .region ?_ | refine .xs ?_ | refine .kb ?_ | refine .leaf ?_ | refine .block ?_ | refine .gn ?_ | refine .dr ?_ | fail
      rw [hb, List.append_nil]
      exact ⟨trivial, h1, k1⟩
  · exact hbig.more

theorem wlist212 {S : St} {c : Nat} {buf : List UInt8} (h : CodW S c buf) {g : FuncId} (hg : hasBody Tryz.prog g = true) {p v : V} (hp : Src S c p [v]) (hv : isLn 2 v) (hlen : (elems v).length < 4611686018427387904) {bl : List UInt8} (he : EncEl g c (elems v) bl) :
    WrTo 115 [.ptr c 0, p, .func g [] []] S c buf (encI ((elems v).length : Nat) ++ bl) (fun _ => True) := by
  refine CallTo.of (n := 48) Tryz.func115 rfl rfl ?_
  have hpt := hp.pt
  have hisp := hpt.isP
  repeat' first
   | refine Opl.val (op_lenL rfl hv.isL rfl) rfl ?_
   | refine Opl.val (op_load rfl (CodW.ldReads (And.left (by assumption)))) rfl ?_
   | refine Opl.callv rfl (by kernel_rfl) (h.length ((elems v).length : Nat) (by constructor <;> omega)) rfl (fun S2 w2 => ?_) (fun v S2 hbig => ?_)
   | refine Go.condT rfl ?_
   | refine At.fnp rfl ?_
   | refine .std ?_ | refine .nil ?_ | refine .seq ?_ | refine .region ?_ | refine .xs ?_ | refine .kb ?_ | refine .leaf ?_ | refine .block ?_ | refine .gn ?_ | refine .dr ?_ | fail
  · refine Go.weaken (E' := [(0, .ptr c 0), (1, p), (2, .func g [] []), (20, .int .i64 (elems v).length), (21, .int .i64 (0 : Nat))]) ?_ ⟨rfl, rfl, rfl, rfl, rfl, trivial⟩
    refine Go.loop_ind (α := Nat) (fun i => (elems v).length - i) (fun i E S' => E = [(0, .ptr c 0), (1, p), (2, .func g [] []), (20, .int .i64 (elems v).length), (21, .int .i64 i)] ∧ i ≤ (elems v).length ∧ ∃ b1 b2, bl = b1 ++ b2 ∧ EncEl g c ((elems v).drop i) b2 ∧
      Wrote S c buf (encI ((elems v).length : Nat) ++ b1) S') ?_ 0 _ _ ⟨rfl, Nat.zero_le _, [], bl, rfl, he, by simpa using w2⟩
    rintro i E S1 ⟨rfl, hi, b1, b2, hb, hd, w1⟩ IH
    obtain ⟨h1, k1⟩ := w1
    have hpt1 := (k1.src hp).pt
    repeat' first | refine .std ?_ | refine .nil ?_ | refine .seq ?_ | refine .region ?_ | refine .xs ?_ | refine .kb ?_ | refine .leaf ?_ | refine .block ?_ | refine .gn ?_ | refine .dr ?_ | fail
    refine Go.cond rfl (fun hq => ?_) (fun hq => ?_)
    · have hq : i < (elems v).length := by have := of_decide_eq_true hq; omega
      rw [List.drop_eq_getElem_cons hq] at hd
      obtain ⟨be, b3, hb3, hel, hrest⟩ := hd
      have hix : (elems v)[i]? = some (elems v)[i] := List.getElem?_eq_getElem hq
      obtain ⟨lt, tk, hvl⟩ := hv.el hix
      have hval : ∀ es, elems v = es → v = .list lt 2 es tk := fun es h => h ▸ hvl
      repeat' first
       | refine Opl.val (op_ixaL (by exact (congrArg some hvl)) rfl hix) rfl ?_
       | refine Opl.call rfl hg (hel S1 _ _ ⟨Pt.cptr _ _ _, trivial⟩ h1) rfl (fun v2 S4 w4 => ?_) (fun v2 S4 hbig => ?_)
       | refine Opl.val (op_int rfl rfl rfl (inc_ok (i := i) (by omega))) rfl ?_
       | refine At.fnp rfl ?_
       | refine .std ?_ | refine .nil ?_ | refine .seq ?_ | refine .region ?_ | refine .xs ?_ | refine .kb ?_ | refine .leaf ?_ | refine .block ?_ | refine .gn ?_ | refine .dr ?_ | fail
      · exact (IH (i + 1) _ S4 (by omega) ⟨rfl, by omega, b1 ++ be, b3, by rw [hb, hb3, List.append_assoc], hrest, by rw [← List.append_assoc]; exact Wrote.trans ⟨h1, k1⟩ w4.2⟩).weaken ⟨rfl, rfl, rfl, rfl, rfl, trivial⟩
      · rw [hb, hb3, ← List.append_assoc]
        exact Big.trans ⟨h1, k1⟩ hbig.more
    · have hq : i = (elems v).length := by have := of_decide_eq_false hq; omega
      rw [List.drop_eq_nil_of_le (by omega)] at hd
      have hd : b2 = [] := hd
      subst hd
      repeat' first
       | refine At.fnr rfl rfl rfl ?_
       | refine .std ?_ | refine .nil ?_ | refine .seq ?_ | refine .region ?_ | refine .xs ?_ | refine .kb ?_ | refine .leaf ?_ | refine .block ?_ | refine .gn ?_ | refine .dr ?_ | fail
      rw [hb, List.append_nil]
      exact ⟨trivial, h1, k1⟩
  · exact hbig.more

theorem wlist127 {S : St} {c : Nat} {buf : List UInt8} (h : CodW S c buf) {g : FuncId} (hg : hasBody Tryz.prog g = true) {p v : V} (hp : Src S c p [v]) (hv : isLn 2 v) (hlen : (elems v).length < 4611686018427387904) {bl : List UInt8} (he : EncEl g c (elems v) bl) :
    WrTo 61 [.ptr c 0, p, .func g [] []] S c buf (encI ((elems v).length : Nat) ++ bl) (fun _ => True) := by
  refine CallTo.of (n := 48) Tryz.func61 rfl rfl ?_
  have hpt := hp.pt
  have hisp := hpt.isP
  repeat' first
   | refine Opl.val (op_lenL rfl hv.isL rfl) rfl ?_
   | refine Opl.val (op_load rfl (CodW.ldReads (And.left (by assumption)))) rfl ?_
   | refine Opl.callv rfl (by kernel_rfl) (h.length ((elems v).length : Nat) (by constructor <;> omega)) rfl (fun S2 w2 => ?_) (fun v S2 hbig => ?_)
   | refine Go.condT rfl ?_
   | refine At.fnp rfl ?_
   | refine .std ?_ | refine .nil ?_ | refine .seq ?_ | refine .region ?_ | refine .xs ?_ | refine .kb ?_ | refine .leaf ?_ | refine .block ?_ | refine .gn ?_ | refine .dr ?_ | fail
  · refine Go.weaken (E' := [(0, .ptr c 0), (1, p), (2, .func g [] []), (20, .int .i64 (elems v).length), (21, .int .i64 (0 : Nat))]) ?_ ⟨rfl, rfl, rfl, rfl, rfl, trivial⟩
    refine Go.loop_ind (α := Nat) (fun i => (elems v).length - i) (fun i E S' => E = [(0, .ptr c 0), (1, p), (2, .func g [] []), (20, .int .i64 (elems v).length), (21, .int .i64 i)] ∧ i ≤ (elems v).length ∧ ∃ b1 b2, bl = b1 ++ b2 ∧ EncEl g c ((elems v).drop i) b2 ∧
      Wrote S c buf (encI ((elems v).length : Nat) ++ b1) S') ?_ 0 _ _ ⟨rfl, Nat.zero_le _, [], bl, rfl, he, by simpa using w2⟩
    rintro i E S1 ⟨rfl, hi, b1, b2, hb, hd, w1⟩ IH
    obtain ⟨h1, k1⟩ := w1
    have hpt1 := (k1.src hp).pt
    repeat' first | refine .std ?_ | refine .nil ?_ | refine .seq ?_ | refine .region ?_ | refine .xs ?_ | refine .kb ?_ | refine .leaf ?_ | refine .block ?_ | refine .gn ?_ | refine .dr ?_ | fail
    refine Go.cond rfl (fun hq => ?_) (fun hq => ?_)
    · have hq : i < (elems v).length := by have := of_decide_eq_true hq; omega
      rw [List.drop_eq_getElem_cons hq] at hd
      obtain ⟨be, b3, hb3, hel, hrest⟩ := hd
      have hix : (elems v)[i]? = some (elems v)[i] := List.getElem?_eq_getElem hq
      obtain ⟨lt, tk, hvl⟩ := hv.el hix
      have hval : ∀ es, elems v = es → v = .list lt 2 es tk := fun es h => h ▸ hvl
      repeat' first
       | refine Opl.val (op_ixaL (by exact (congrArg some hvl)) rfl hix) rfl ?_
       | refine Opl.call rfl hg (hel S1 _ _ ⟨Pt.cptr _ _ _, trivial⟩ h1) rfl (fun v2 S4 w4 => ?_) (fun v2 S4 hbig => ?_)
       | refine Opl.val (op_int rfl rfl rfl (inc_ok (i := i) (by omega))) rfl ?_
       | refine At.fnp rfl ?_
       | refine .std ?_ | refine .nil ?_ | refine .seq ?_ | refine .region ?_ | refine .xs ?_ | refine .kb ?_ | refine .leaf ?_ | refine .block ?_ | refine .gn ?_ | refine .dr ?_ | fail
      · exact (IH (i + 1) _ S4 (by omega) ⟨rfl, by omega, b1 ++ be, b3, by rw [hb, hb3, List.append_assoc], hrest, by rw [← List.append_assoc]; exact Wrote.trans ⟨h1, k1⟩ w4.2⟩).weaken ⟨rfl, rfl, rfl, rfl, rfl, trivial⟩
      · rw [hb, hb3, ← List.append_assoc]
        exact Big.trans ⟨h1, k1⟩ hbig.more
    · have hq : i = (elems v).length := by have := of_decide_eq_false hq; omega
      rw [List.drop_eq_nil_of_le (by omega)] at hd
      have hd : b2 = [] := hd
      subst hd
      repeat' first
       | refine At.fnr rfl rfl rfl ?_
       | refine .std ?_ | refine .nil ?_ | refine .seq ?_ | refine .region ?_ | refine .xs ?_ | refine .kb ?_ | refine .leaf ?_ | refine .block ?_ | refine .gn ?_ | refine .dr ?_ | fail
      rw [hb, List.append_nil]
      exact ⟨trivial, h1, k1⟩
  · exact hbig.more

theorem wlist228 {S : St} {c : Nat} {buf : List UInt8} (h : CodW S c buf) {g : FuncId} (hg : hasBody Tryz.prog g = true) {p v : V} (hp : Src S c p [v]) (hv : isLn 14 v) (hlen : (elems v).length < 4611686018427387904) {bl : List UInt8} (he : EncEl g c (elems v) bl) :
    WrTo 119 [.ptr c 0, p, .func g [] []] S c buf (encI ((elems v).length : Nat) ++ bl) (fun _ => True) := by
  refine CallTo.of (n := 48) Tryz.func119 rfl rfl ?_
  have hpt := hp.pt
  have hisp := hpt.isP
  repeat' first
   | refine Opl.val (op_lenL rfl hv.isL rfl) rfl ?_
   | refine Opl.val (op_load rfl (CodW.ldReads (And.left (by assumption)))) rfl ?_
   | refine Opl.callv rfl (by kernel_rfl) (h.length ((elems v).length : Nat) (by constructor <;> omega)) rfl (fun S2 w2 => ?_) (fun v S2 hbig => ?_)
   | refine Go.condT rfl ?_
   | refine At.fnp rfl ?_
   | refine .std ?_ | refine .nil ?_ | refine .seq ?_ | refine .region ?_ | refine .xs ?_ | refine .kb ?_ | refine .leaf ?_ | refine .block ?_ | refine .gn ?_ | refine .dr ?_ | fail
  · refine Go.weaken (E' := [(0, .ptr c 0), (1, p), (2, .func g [] []), (20, .int .i64 (elems v).length), (21, .int .i64 (0 : Nat))]) ?_ ⟨rfl, rfl, rfl, rfl, rfl, trivial⟩
    refine Go.loop_ind (α := Nat) (fun i => (elems v).length - i) (fun i E S' => E = [(0, .ptr c 0), (1, p), (2, .func g [] []), (20, .int .i64 (elems v).length), (21, .int .i64 i)] ∧ i ≤ (elems v).length ∧ ∃ b1 b2, bl = b1 ++ b2 ∧ EncEl g c ((elems v).drop i) b2 ∧
      Wrote S c buf (encI ((elems v).length : Nat) ++ b1) S') ?_ 0 _ _ ⟨rfl, Nat.zero_le _, [], bl, rfl, he, by simpa using w2⟩
    rintro i E S1 ⟨rfl, hi, b1, b2, hb, hd, w1⟩ IH
    obtain ⟨h1, k1⟩ := w1
    have hpt1 := (k1.src hp).pt
    repeat' first | refine .std ?_ | refine .nil ?_ | refine .seq ?_ | refine .region ?_ | refine .xs ?_ | refine .kb ?_ | refine .leaf ?_ | refine .block ?_ | refine .gn ?_ | refine .dr ?_ | fail
    refine Go.cond rfl (fun hq => ?_) (fun hq => ?_)
    · have hq : i < (elems v).length := by have := of_decide_eq_true hq; omega
      rw [List.drop_eq_getElem_cons hq] at hd
      obtain ⟨be, b3, hb3, hel, hrest⟩ := hd
      have hix : (elems v)[i]? = some (elems v)[i] := List.getElem?_eq_getElem hq
      obtain ⟨lt, tk, hvl⟩ := hv.el hix
      have hval : ∀ es, elems v = es → v = .list lt 14 es tk := fun es h => h ▸ hvl
      repeat' first
       | refine Opl.val (op_ixaL (by exact (congrArg some hvl)) rfl hix) rfl ?_
       | refine Opl.call rfl hg (hel S1 _ _ ⟨Pt.cptr _ _ _, trivial⟩ h1) rfl (fun v2 S4 w4 => ?_) (fun v2 S4 hbig => ?_)
       | refine Opl.val (op_int rfl rfl rfl (inc_ok (i := i) (by omega))) rfl ?_
       | refine At.fnp rfl ?_
       | refine .std ?_ | refine .nil ?_ | refine .seq ?_ | refine .region ?_ | refine .xs ?_ | refine .kb ?_ | refine .leaf ?_ | refine .block ?_ | refine .gn ?_ | refine .dr ?_ | fail
      · exact (IH (i + 1) _ S4 (by omega) ⟨rfl, by omega, b1 ++ be, b3, by rw [hb, hb3, List.append_assoc], hrest, by rw [← List.append_assoc]; exact Wrote.trans ⟨h1, k1⟩ w4.2⟩).weaken ⟨rfl, rfl, rfl, rfl, rfl, trivial⟩
      · rw [hb, hb3, ← List.append_assoc]
        exact Big.trans ⟨h1, k1⟩ hbig.more
    · have hq : i = (elems v).length := by have := of_decide_eq_false hq; omega
      rw [List.drop_eq_nil_of_le (by omega)] at hd
      have hd : b2 = [] := hd
      subst hd
      repeat' first
       | refine At.fnr rfl rfl rfl ?_
       | refine .std ?_ | refine .nil ?_ | refine .seq ?_ | refine .region ?_ | refine .xs ?_ | refine .kb ?_ | refine .leaf ?_ | refine .block ?_ | refine .gn ?_ | refine .dr ?_ | fail
      rw [hb, List.append_nil]
      exact ⟨trivial, h1, k1⟩
  · exact hbig.more

theorem wlist30 {S : St} {c : Nat} {buf : List UInt8} (h : CodW S c buf) {g : FuncId} (hg : hasBody Tryz.prog g = true) {p v : V} (hp : Src S c p [v]) (hv : isLn 7 v) (hlen : (elems v).length < 4611686018427387904) {bl : List UInt8} (he : EncEl g c (elems v) bl) :
    WrTo 123 [.ptr c 0, p, .func g [] []] S c buf (encI ((elems v).length : Nat) ++ bl) (fun _ => True) := by
  refine CallTo.of (n := 59) Tryz.func123 rfl rfl ?_
  have hpt := hp.pt
  have hisp := hpt.isP
  repeat' first
   | refine Opl.val (op_lenL rfl hv.isL rfl) rfl ?_
   | refine Opl.val (op_load rfl (CodW.ldReads (And.left (by assumption)))) rfl ?_
   | refine Opl.callv rfl (by kernel_rfl) (h.length ((elems v).length : Nat) (by constructor <;> omega)) rfl (fun S2 w2 => ?_) (fun v S2 hbig => ?_)
   | refine Go.condT rfl ?_
   | refine At.fnp rfl ?_
   | refine .std ?_ | refine .nil ?_ | refine .seq ?_ | refine .region ?_ | refine .xs ?_ | refine .kb ?_ | refine .leaf ?_ | refine .block ?_ | refine .gn ?_ | refine .dr ?_ | fail
  · refine Go.weaken (E' := [(0, .ptr c 0), (1, p), (2, .func g [] []), (20, .int .i64 (elems v).length), (21, .int .i64 (0 : Nat))]) ?_ ⟨rfl, rfl, rfl, rfl, rfl, trivial⟩
    refine Go.loop_ind (α := Nat) (fun i => (elems v).length - i) (fun i E S' => E = [(0, .ptr c 0), (1, p), (2, .func g [] []), (20, .int .i64 (elems v).length), (21, .int .i64 i)] ∧ i ≤ (elems v).length ∧ ∃ b1 b2, bl = b1 ++ b2 ∧ EncEl g c ((elems v).drop i) b2 ∧
      Wrote S c buf (encI ((elems v).length : Nat) ++ b1) S') ?_ 0 _ _ ⟨rfl, Nat.zero_le _, [], bl, rfl, he, by simpa using w2⟩
    rintro i E S1 ⟨rfl, hi, b1, b2, hb, hd, w1⟩ IH
    obtain ⟨h1, k1⟩ := w1
    have hpt1 := (k1.src hp).pt
    repeat' first | refine .std ?_ | refine .nil ?_ | refine .seq ?_ | refine .region ?_ | refine .xs ?_ | refine .kb ?_ | refine .leaf ?_ | refine .block ?_ | refine .gn ?_ | refine .dr ?_ | fail
    refine Go.cond rfl (fun hq => ?_) (fun hq => ?_)
    · have hq : i < (elems v).length := by have := of_decide_eq_true hq; omega
      rw [List.drop_eq_getElem_cons hq] at hd
      obtain ⟨be, b3, hb3, hel, hrest⟩ := hd
      have hix : (elems v)[i]? = some (elems v)[i] := List.getElem?_eq_getElem hq
      obtain ⟨lt, tk, hvl⟩ := hv.el hix
      have hval : ∀ es, elems v = es → v = .list lt 7 es tk := fun es h => h ▸ hvl
      repeat' first
       | refine Opl.val (op_ixaL (by exact (congrArg some hvl)) rfl hix) rfl ?_
       | refine Opl.call rfl hg (hel S1 _ _ ⟨Pt.cptr _ _ _, trivial⟩ h1) rfl (fun v2 S4 w4 => ?_) (fun v2 S4 hbig => ?_)
       | refine Opl.val (op_int rfl rfl rfl (inc_ok (i := i) (by omega))) rfl ?_
       | refine At.fnp rfl ?_
       | refine .std ?_ | refine .nil ?_ | refine .seq ?_ | refine .region ?_ | refine .xs ?_ | refine .kb ?_ | refine .leaf ?_ | refine .block ?_ | refine .gn ?_ | refine .dr ?_ | fail
      · exact (IH (i + 1) _ S4 (by omega) ⟨rfl, by omega, b1 ++ be, b3, by rw [hb, hb3, List.append_assoc], hrest, by rw [← List.append_assoc]; exact Wrote.trans ⟨h1, k1⟩ w4.2⟩).weaken ⟨rfl, rfl, rfl, rfl, rfl, trivial⟩
      · rw [hb, hb3, ← List.append_assoc]
        exact Big.trans ⟨h1, k1⟩ hbig.more
    · have hq : i = (elems v).length := by have := of_decide_eq_false hq; omega
      rw [List.drop_eq_nil_of_le (by omega)] at hd
      have hd : b2 = [] := hd
      subst hd
      repeat' first
       | refine At.fnr rfl rfl rfl ?_
       | refine .std ?_ | refine .nil ?_ | refine .seq ?_ | refine .region ?_ | refine .xs ?_ | refine .kb ?_ | refine .leaf ?_ | refine .block ?_ | refine .gn ?_ | refine .dr ?_ | fail
      rw [hb, List.append_nil]
      exact ⟨trivial, h1, k1⟩
  · exact hbig.more

theorem wlist241 {S : St} {c : Nat} {buf : List UInt8} (h : CodW S c buf) {g : FuncId} (hg : hasBody Tryz.prog g = true) {p v : V} (hp : Src S c p [v]) (hv : isLn 9 v) (hlen : (elems v).length < 4611686018427387904) {bl : List UInt8} (he : EncEl g c (elems v) bl) :
    WrTo 124 [.ptr c 0, p, .func g [] []] S c buf (encI ((elems v).length : Nat) ++ bl) (fun _ => True) := by
  refine CallTo.of (n := 59) Tryz.func124 rfl rfl ?_
  have hpt := hp.pt
  have hisp := hpt.isP
  repeat' first
   | refine Opl.val (op_lenL rfl hv.isL rfl) rfl ?_
   | refine Opl.val (op_load rfl (CodW.ldReads (And.left (by assumption)))) rfl ?_
   | refine Opl.callv rfl (by kernel_rfl) (h.length ((elems v).length : Nat) (by constructor <;> omega)) rfl (fun S2 w2 => ?_) (fun v S2 hbig => ?_)
   | refine Go.condT rfl ?_
   | refine At.fnp rfl ?_
   | refine .std ?_ | refine .nil ?_ | refine .seq ?_ | refine .region ?_ | refine .xs ?_ | refine .kb ?_ | refine .leaf ?_ | refine .block ?_ | refine .gn ?_ | refine .dr ?_ | fail
  · refine Go.weaken (E' := [(0, .ptr c 0), (1, p), (2, .func g [] []), (20, .int .i64 (elems v).length), (21, .int .i64 (0 : Nat))]) ?_ ⟨rfl, rfl, rfl, rfl, rfl, trivial⟩
    refine Go.loop_ind (α := Nat) (fun i => (elems v).length - i) (fun i E S' => E = [(0, .ptr c 0), (1, p), (2, .func g [] []), (20, .int .i64 (elems v).length), (21, .int .i64 i)] ∧ i ≤ (elems v).length ∧ ∃ b1 b2, bl = b1 ++ b2 ∧ EncEl g c ((elems v).drop i) b2 ∧
      Wrote S c buf (encI ((elems v).length : Nat) ++ b1) S') ?_ 0 _ _ ⟨rfl, Nat.zero_le _, [], bl, rfl, he, by simpa using w2⟩
    rintro i E S1 ⟨rfl, hi, b1, b2, hb, hd, w1⟩ IH
    obtain ⟨h1, k1⟩ := w1
    have hpt1 := (k1.src hp).pt
    repeat' first | refine .std ?_ | refine .nil ?_ | refine .seq ?_ | refine .region ?_ | refine .xs ?_ | refine .kb ?_ | refine .leaf ?_ | refine .block ?_ | refine .gn ?_ | refine .dr ?_ | fail
    refine Go.cond rfl (fun hq => ?_) (fun hq => ?_)
    · have hq : i < (elems v).length := by have := of_decide_eq_true hq; omega
      rw [List.drop_eq_getElem_cons hq] at hd
      obtain ⟨be, b3, hb3, hel, hrest⟩ := hd
      have hix : (elems v)[i]? = some (elems v)[i] := List.getElem?_eq_getElem hq
      obtain ⟨lt, tk, hvl⟩ := hv.el hix
      have hval : ∀ es, elems v = es → v = .list lt 9 es tk := fun es h => h ▸ hvl
      repeat' first
       | refine Opl.val (op_ixaL (by exact (congrArg some hvl)) rfl hix) rfl ?_
       | refine Opl.call rfl hg (hel S1 _ _ ⟨Pt.cptr _ _ _, trivial⟩ h1) rfl (fun v2 S4 w4 => ?_) (fun v2 S4 hbig => ?_)
       | refine Opl.val (op_int rfl rfl rfl (inc_ok (i := i) (by omega))) rfl ?_
       | refine At.fnp rfl ?_
       | refine .std ?_ | refine .nil ?_ | refine .seq ?_ | refine .region ?_ | refine .xs ?_ | refine .kb ?_ | refine .leaf ?_ | refine .block ?_ | refine .gn ?_ | refine .dr ?_ | fail
      · exact (IH (i + 1) _ S4 (by omega) ⟨rfl, by omega, b1 ++ be, b3, by rw [hb, hb3, List.append_assoc], hrest, by rw [← List.append_assoc]; exact Wrote.trans ⟨h1, k1⟩ w4.2⟩).weaken ⟨rfl, rfl, rfl, rfl, rfl, trivial⟩
      · rw [hb, hb3, ← List.append_assoc]
        exact Big.trans ⟨h1, k1⟩ hbig.more
    · have hq : i = (elems v).length := by have := of_decide_eq_false hq; omega
      rw [List.drop_eq_nil_of_le (by omega)] at hd
      have hd : b2 = [] := hd
      subst hd
      repeat' first
       | refine At.fnr rfl rfl rfl ?_
       | refine .std ?_ | refine .nil ?_ | refine .seq ?_ | refine .region ?_ | refine .xs ?_ | refine .kb ?_ | refine .leaf ?_ | refine .block ?_ | refine .gn ?_ | refine .dr ?_ | fail
      rw [hb, List.append_nil]
      exact ⟨trivial, h1, k1⟩
  · exact hbig.more

theorem wlist132 {S : St} {c : Nat} {buf : List UInt8} (h : CodW S c buf) {g : FuncId} (hg : hasBody Tryz.prog g = true) {p v : V} (hp : Src S c p [v]) (hv : isLn 8 v) (hlen : (elems v).length < 4611686018427387904) {bl : List UInt8} (he : EncEl g c (elems v) bl) :
    WrTo 63 [.ptr c 0, p, .func g [] []] S c buf (encI ((elems v).length : Nat) ++ bl) (fun _ => True) := by
  refine CallTo.of (n := 48) Tryz.func63 rfl rfl ?_
  have hpt := hp.pt
  have hisp := hpt.isP
  repeat' first
   | refine Opl.val (op_lenL rfl hv.isL rfl) rfl ?_
   | refine Opl.val (op_load rfl (CodW.ldReads (And.left (by assumption)))) rfl ?_
   | refine Opl.callv rfl (by kernel_rfl) (h.length ((elems v).length : Nat) (by constructor <;> omega)) rfl (fun S2 w2 => ?_) (fun v S2 hbig => ?_)
   | refine Go.condT rfl ?_
   | refine At.fnp rfl ?_
   | refine .std ?_ | refine .nil ?_ | refine .seq ?_ | refine .region ?_ | refine .xs ?_ | refine .kb ?_ | refine .leaf ?_ | refine .block ?_ | refine .gn ?_ | refine .dr ?_ | fail
  · refine Go.weaken (E' := [(0, .ptr c 0), (1, p), (2, .func g [] []), (20, .int .i64 (elems v).length), (21, .int .i64 (0 : Nat))]) ?_ ⟨rfl, rfl, rfl, rfl, rfl, trivial⟩
    refine Go.loop_ind (α := Nat) (fun i => (elems v).length - i) (fun i E S' => E = [(0, .ptr c 0), (1, p), (2, .func g [] []), (20, .int .i64 (elems v).length), (21, .int .i64 i)] ∧ i ≤ (elems v).length ∧ ∃ b1 b2, bl = b1 ++ b2 ∧ EncEl g c ((elems v).drop i) b2 ∧
      Wrote S c buf (encI ((elems v).length : Nat) ++ b1) S') ?_ 0 _ _ ⟨rfl, Nat.zero_le _, [], bl, rfl, he, by simpa using w2⟩
    rintro i E S1 ⟨rfl, hi, b1, b2, hb, hd, w1⟩ IH
    obtain ⟨h1, k1⟩ := w1
    have hpt1 := (k1.src hp).pt
    repeat' first | refine .std ?_ | refine .nil ?_ | refine .seq ?_ | refine .region ?_ | refine .xs ?_ | refine .kb ?_ | refine .leaf ?_ | refine .block ?_ | refine .gn ?_ | refine .dr ?_ | fail
    refine Go.cond rfl (fun hq => ?_) (fun hq => ?_)
    · have hq : i < (elems v).length := by have := of_decide_eq_true hq; omega
      rw [List.drop_eq_getElem_cons hq] at hd
      obtain ⟨be, b3, hb3, hel, hrest⟩ := hd
      have hix : (elems v)[i]? = some (elems v)[i] := List.getElem?_eq_getElem hq
      obtain ⟨lt, tk, hvl⟩ := hv.el hix
      have hval : ∀ es, elems v = es → v = .list lt 8 es tk := fun es h => h ▸ hvl
      repeat' first
       | refine Opl.val (op_ixaL (by exact (congrArg some hvl)) rfl hix) rfl ?_
       | refine Opl.call rfl hg (hel S1 _ _ ⟨Pt.cptr _ _ _, trivial⟩ h1) rfl (fun v2 S4 w4 => ?_) (fun v2 S4 hbig => ?_)
       | refine Opl.val (op_int rfl rfl rfl (inc_ok (i := i) (by omega))) rfl ?_
       | refine At.fnp rfl ?_
       | refine .std ?_ | refine .nil ?_ | refine .seq ?_ | refine .region ?_ | refine .xs ?_ | refine .kb ?_ | refine .leaf ?_ | refine .block ?_ | refine .gn ?_ | refine .dr ?_ | fail
      · exact (IH (i + 1) _ S4 (by omega) ⟨rfl, by omega, b1 ++ be, b3, by rw [hb, hb3, List.append_assoc], hrest, by rw [← List.append_assoc]; exact Wrote.trans ⟨h1, k1⟩ w4.2⟩).weaken ⟨rfl, rfl, rfl, rfl, rfl, trivial⟩
      · rw [hb, hb3, ← List.append_assoc]
        exact Big.trans ⟨h1, k1⟩ hbig.more
    · have hq : i = (elems v).length := by have := of_decide_eq_false hq; omega
      rw [List.drop_eq_nil_of_le (by omega)] at hd
      have hd : b2 = [] := hd
      subst hd
      repeat' first
       | refine At.fnr rfl rfl rfl ?_
       | refine .std ?_ | refine .nil ?_ | refine .seq ?_ | refine .region ?_ | refine .xs ?_ | refine .kb ?_ | refine .leaf ?_ | refine .block ?_ | refine .gn ?_ | refine .dr ?_ | fail
      rw [hb, List.append_nil]
      exact ⟨trivial, h1, k1⟩
  · exact hbig.more

theorem wlist148 {S : St} {c : Nat} {buf : List UInt8} (h : CodW S c buf) {g : FuncId} (hg : hasBody Tryz.prog g = true) {p v : V} (hp : Src S c p [v]) (hv : isLn 5 v) (hlen : (elems v).length < 4611686018427387904) {bl : List UInt8} (he : EncEl g c (elems v) bl) :
    WrTo 75 [.ptr c 0, p, .func g [] []] S c buf (encI ((elems v).length : Nat) ++ bl) (fun _ => True) := by
  refine CallTo.of (n := 48) Tryz.func75 rfl rfl ?_
  have hpt := hp.pt
  have hisp := hpt.isP
  repeat' first
   | refine Opl.val (op_lenL rfl hv.isL rfl) rfl ?_
   | refine Opl.val (op_load rfl (CodW.ldReads (And.left (by assumption)))) rfl ?_
   | refine Opl.callv rfl (by kernel_rfl) (h.length ((elems v).length : Nat) (by constructor <;> omega)) rfl (fun S2 w2 => ?_) (fun v S2 hbig => ?_)
   | refine Go.condT rfl ?_
   | refine At.fnp rfl ?_
   | refine .std ?_ | refine .nil ?_ | refine .seq ?_ | refine .region ?_ | refine .xs ?_ | refine .kb ?_ | refine .leaf ?_ | refine .block ?_ | refine .gn ?_ | refine .dr ?_ | fail
  · refine Go.weaken (E' := [(0, .ptr c 0), (1, p), (2, .func g [] []), (20, .int .i64 (elems v).length), (21, .int .i64 (0 : Nat))]) ?_ ⟨rfl, rfl, rfl, rfl, rfl, trivial⟩
    refine Go.loop_ind (α := Nat) (fun i => (elems v).length - i) (fun i E S' => E = [(0, .ptr c 0), (1, p), (2, .func g [] []), (20, .int .i64 (elems v).length), (21, .int .i64 i)] ∧ i ≤ (elems v).length ∧ ∃ b1 b2, bl = b1 ++ b2 ∧ EncEl g c ((elems v).drop i) b2 ∧
      Wrote S c buf (encI ((elems v).length : Nat) ++ b1) S') ?_ 0 _ _ ⟨rfl, Nat.zero_le _, [], bl, rfl, he, by simpa using w2⟩
    rintro i E S1 ⟨rfl, hi, b1, b2, hb, hd, w1⟩ IH
    obtain ⟨h1, k1⟩ := w1
    have hpt1 := (k1.src hp).pt
    repeat' first | refine .std ?_ | refine .nil ?_ | refine .seq ?_ | refine .region ?_ | refine .xs ?_ | refine .kb ?_ | refine .leaf ?_ | refine .block ?_ | refine .gn ?_ | refine .dr ?_ | fail
    refine Go.cond rfl (fun hq => ?_) (fun hq => ?_)
    · have hq : i < (elems v).length := by have := of_decide_eq_true hq; omega
      rw [List.drop_eq_getElem_cons hq] at hd
      obtain ⟨be, b3, hb3, hel, hrest⟩ := hd
      have hix : (elems v)[i]? = some (elems v)[i] := List.getElem?_eq_getElem hq
      obtain ⟨lt, tk, hvl⟩ := hv.el hix
      have hval : ∀ es, elems v = es → v = .list lt 5 es tk := fun es h => h ▸ hvl
      repeat' first
       | refine Opl.val (op_ixaL (by exact (congrArg some hvl)) rfl hix) rfl ?_
       | refine Opl.call rfl hg (hel S1 _ _ ⟨Pt.cptr _ _ _, trivial⟩ h1) rfl (fun v2 S4 w4 => ?_) (fun v2 S4 hbig => ?_)
       | refine Opl.val (op_int rfl rfl rfl (inc_ok (i := i) (by omega))) rfl ?_
       | refine At.fnp rfl ?_
       | refine .std ?_ | refine .nil ?_ | refine .seq ?_ | refine .region ?_ | refine .xs ?_ | refine .kb ?_ | refine .leaf ?_ | refine .block ?_ | refine .gn ?_ | refine .dr ?_ | fail
      · exact (IH (i + 1) _ S4 (by omega) ⟨rfl, by omega, b1 ++ be, b3, by rw [hb, hb3, List.append_assoc], hrest, by rw [← List.append_assoc]; exact Wrote.trans ⟨h1, k1⟩ w4.2⟩).weaken ⟨rfl, rfl, rfl, rfl, rfl, trivial⟩
      · rw [hb, hb3, ← List.append_assoc]
        exact Big.trans ⟨h1, k1⟩ hbig.more
    · have hq : i = (elems v).length := by have := of_decide_eq_false hq; omega
      rw [List.drop_eq_nil_of_le (by omega)] at hd
      have hd : b2 = [] := hd
      subst hd
      repeat' first
       | refine At.fnr rfl rfl rfl ?_
       | refine .std ?_ | refine .nil ?_ | refine .seq ?_ | refine .region ?_ | refine .xs ?_ | refine .kb ?_ | refine .leaf ?_ | refine .block ?_ | refine .gn ?_ | refine .dr ?_ | fail
      rw [hb, List.append_nil]
      exact ⟨trivial, h1, k1⟩
  · exact hbig.more

theorem wlist158 {S : St} {c : Nat} {buf : List UInt8} (h : CodW S c buf) {g : FuncId} (hg : hasBody Tryz.prog g = true) {p v : V} (hp : Src S c p [v]) (hv : isLn 4 v) (hlen : (elems v).length < 4611686018427387904) {bl : List UInt8} (he : EncEl g c (elems v) bl) :
    WrTo 79 [.ptr c 0, p, .func g [] []] S c buf (encI ((elems v).length : Nat) ++ bl) (fun _ => True) := by
  refine CallTo.of (n := 48) Tryz.func79 rfl rfl ?_
  have hpt := hp.pt
  have hisp := hpt.isP
  repeat' first
   | refine Opl.val (op_lenL rfl hv.isL rfl) rfl ?_
   | refine Opl.val (op_load rfl (CodW.ldReads (And.left (by assumption)))) rfl ?_
   | refine Opl.callv rfl (by kernel_rfl) (h.length ((elems v).length : Nat) (by constructor <;> omega)) rfl (fun S2 w2 => ?_) (fun v S2 hbig => ?_)
   | refine Go.condT rfl ?_
   | refine At.fnp rfl ?_
   | refine .std ?_ | refine .nil ?_ | refine .seq ?_ | refine .region ?_ | refine .xs ?_ | refine .kb ?_ | refine .leaf ?_ | refine .block ?_ | refine .gn ?_ | refine .dr ?_ | fail
  · refine Go.weaken (E' := [(0, .ptr c 0), (1, p), (2, .func g [] []), (20, .int .i64 (elems v).length), (21, .int .i64 (0 : Nat))]) ?_ ⟨rfl, rfl, rfl, rfl, rfl, trivial⟩
    refine Go.loop_ind (α := Nat) (fun i => (elems v).length - i) (fun i E S' => E = [(0, .ptr c 0), (1, p), (2, .func g [] []), (20, .int .i64 (elems v).length), (21, .int .i64 i)] ∧ i ≤ (elems v).length ∧ ∃ b1 b2, bl = b1 ++ b2 ∧ EncEl g c ((elems v).drop i) b2 ∧
      Wrote S c buf (encI ((elems v).length : Nat) ++ b1) S') ?_ 0 _ _ ⟨rfl, Nat.zero_le _, [], bl, rfl, he, by simpa using w2⟩
    rintro i E S1 ⟨rfl, hi, b1, b2, hb, hd, w1⟩ IH
    obtain ⟨h1, k1⟩ := w1
    have hpt1 := (k1.src hp).pt
    repeat' first | refine .std ?_ | refine .nil ?_ | refine .seq ?_ | refine .region ?_ | refine .xs ?_ | refine .kb ?_ | refine .leaf ?_ | refine .block ?_ | refine .gn ?_ | refine .dr ?_ | fail
    refine Go.cond rfl (fun hq => ?_) (fun hq => ?_)
    · have hq : i < (elems v).length := by have := of_decide_eq_true hq; omega
      rw [List.drop_eq_getElem_cons hq] at hd
      obtain ⟨be, b3, hb3, hel, hrest⟩ := hd
      have hix : (elems v)[i]? = some (elems v)[i] := List.getElem?_eq_getElem hq
      obtain ⟨lt, tk, hvl⟩ := hv.el hix
      have hval : ∀ es, elems v = es → v = .list lt 4 es tk := fun es h => h ▸ hvl
      repeat' first
       | refine Opl.val (op_ixaL (by exact (congrArg some hvl)) rfl hix) rfl ?_
       | refine Opl.call rfl hg (hel S1 _ _ ⟨Pt.cptr _ _ _, trivial⟩ h1) rfl (fun v2 S4 w4 => ?_) (fun v2 S4 hbig => ?_)
       | refine Opl.val (op_int rfl rfl rfl (inc_ok (i := i) (by omega))) rfl ?_
       | refine At.fnp rfl ?_
       | refine .std ?_ | refine .nil ?_ | refine .seq ?_ | refine .region ?_ | refine .xs ?_ | refine .kb ?_ | refine .leaf ?_ | refine .block ?_ | refine .gn ?_ | refine .dr ?_ | fail
      · exact (IH (i + 1) _ S4 (by omega) ⟨rfl, by omega, b1 ++ be, b3, by rw [hb, hb3, List.append_assoc], hrest, by rw [← List.append_assoc]; exact Wrote.trans ⟨h1, k1⟩ w4.2⟩).weaken ⟨rfl, rfl, rfl, rfl, rfl, trivial⟩
      · rw [hb, hb3, ← List.append_assoc]
        exact Big.trans ⟨h1, k1⟩ hbig.more
    · have hq : i = (elems v).length := by have := of_decide_eq_false hq; omega
      rw [List.drop_eq_nil_of_le (by omega)] at hd
      have hd : b2 = [] := hd
      subst hd
      repeat' first
       | refine At.fnr rfl rfl rfl ?_
       | refine .std ?_ | refine .nil ?_ | refine .seq ?_ | refine .region ?_ | refine .xs ?_ | refine .kb ?_ | refine .leaf ?_ | refine .block ?_ | refine .gn ?_ | refine .dr ?_ | fail
      rw [hb, List.append_nil]
      exact ⟨trivial, h1, k1⟩
  · exact hbig.more

theorem wlist192 {S : St} {c : Nat} {buf : List UInt8} (h : CodW S c buf) {g : FuncId} (hg : hasBody Tryz.prog g = true) {p v : V} (hp : Src S c p [v]) (hv : isLn 3 v) (hlen : (elems v).length < 4611686018427387904) {bl : List UInt8} (he : EncEl g c (elems v) bl) :
    WrTo 139 [.ptr c 0, p, .func g [] []] S c buf (encI ((elems v).length : Nat) ++ bl) (fun _ => True) := by
  refine CallTo.of (n := 48) Tryz.func139 rfl rfl ?_
  have hpt := hp.pt
  have hisp := hpt.isP
  repeat' first
   | refine Opl.val (op_lenL rfl hv.isL rfl) rfl ?_
   | refine Opl.val (op_load rfl (CodW.ldReads (And.left (by assumption)))) rfl ?_
   | refine Opl.callv rfl (by kernel_rfl) (h.length ((elems v).length : Nat) (by constructor <;> omega)) rfl (fun S2 w2 => ?_) (fun v S2 hbig => ?_)
   | refine Go.condT rfl ?_
   | refine At.fnp rfl ?_
   | refine .std ?_ | refine .nil ?_ | refine .seq ?_ | refine .region ?_ | refine .xs ?_ | refine .kb ?_ | refine .leaf ?_ | refine .block ?_ | refine .gn ?_ | refine .dr ?_ | fail
  · refine Go.weaken (E' := [(0, .ptr c 0), (1, p), (2, .func g [] []), (20, .int .i64 (elems v).length), (21, .int .i64 (0 : Nat))]) ?_ ⟨rfl, rfl, rfl, rfl, rfl, trivial⟩
    refine Go.loop_ind (α := Nat) (fun i => (elems v).length - i) (fun i E S' => E = [(0, .ptr c 0), (1, p), (2, .func g [] []), (20, .int .i64 (elems v).length), (21, .int .i64 i)] ∧ i ≤ (elems v).length ∧ ∃ b1 b2, bl = b1 ++ b2 ∧ EncEl g c ((elems v).drop i) b2 ∧
      Wrote S c buf (encI ((elems v).length : Nat) ++ b1) S') ?_ 0 _ _ ⟨rfl, Nat.zero_le _, [], bl, rfl, he, by simpa using w2⟩
    rintro i E S1 ⟨rfl, hi, b1, b2, hb, hd, w1⟩ IH
    obtain ⟨h1, k1⟩ := w1
    have hpt1 := (k1.src hp).pt
    repeat' first | refine .std ?_ | refine .nil ?_ | refine .seq ?_ | refine .region ?_ | refine .xs ?_ | refine .kb ?_ | refine .leaf ?_ | refine .block ?_ | refine .gn ?_ | refine .dr ?_ | fail
    refine Go.cond rfl (fun hq => ?_) (fun hq => ?_)
    · have hq : i < (elems v).length := by have := of_decide_eq_true hq; omega
      rw [List.drop_eq_getElem_cons hq] at hd
      obtain ⟨be, b3, hb3, hel, hrest⟩ := hd
      have hix : (elems v)[i]? = some (elems v)[i] := List.getElem?_eq_getElem hq
      obtain ⟨lt, tk, hvl⟩ := hv.el hix
      have hval : ∀ es, elems v = es → v = .list lt 3 es tk := fun es h => h ▸ hvl
      repeat' first
       | refine Opl.val (op_ixaL (by exact (congrArg some hvl)) rfl hix) rfl ?_
       | refine Opl.call rfl hg (hel S1 _ _ ⟨Pt.cptr _ _ _, trivial⟩ h1) rfl (fun v2 S4 w4 => ?_) (fun v2 S4 hbig => ?_)
       | refine Opl.val (op_int rfl rfl rfl (inc_ok (i := i) (by omega))) rfl ?_
       | refine At.fnp rfl ?_
       | refine .std ?_ | refine .nil ?_ | refine .seq ?_ | refine .region ?_ | refine .xs ?_ | refine .kb ?_ | refine .leaf ?_ | refine .block ?_ | refine .gn ?_ | refine .dr ?_ | fail
      · exact (IH (i + 1) _ S4 (by omega) ⟨rfl, by omega, b1 ++ be, b3, by rw [hb, hb3, List.append_assoc], hrest, by rw [← List.append_assoc]; exact Wrote.trans ⟨h1, k1⟩ w4.2⟩).weaken ⟨rfl, rfl, rfl, rfl, rfl, trivial⟩
      · rw [hb, hb3, ← List.append_assoc]
        exact Big.trans ⟨h1, k1⟩ hbig.more
    · have hq : i = (elems v).length := by have := of_decide_eq_false hq; omega
      rw [List.drop_eq_nil_of_le (by omega)] at hd
      have hd : b2 = [] := hd
      subst hd
      repeat' first
       | refine At.fnr rfl rfl rfl ?_
       | refine .std ?_ | refine .nil ?_ | refine .seq ?_ | refine .region ?_ | refine .xs ?_ | refine .kb ?_ | refine .leaf ?_ | refine .block ?_ | refine .gn ?_ | refine .dr ?_ | fail
      rw [hb, List.append_nil]
      exact ⟨trivial, h1, k1⟩
  · exact hbig.more

theorem wlist9 {S : St} {c : Nat} {buf : List UInt8} (h : CodW S c buf) {g : FuncId} (hg : hasBody Tryz.prog g = true) {p v : V} (hp : Src S c p [v]) (hv : isLn 1 v) (hlen : (elems v).length < 4611686018427387904) {bl : List UInt8} (he : EncEl g c (elems v) bl) :
    WrTo 113 [.ptr c 0, p, .func g [] []] S c buf (encI ((elems v).length : Nat) ++ bl) (fun _ => True) := by
  refine CallTo.of (n := 48) Tryz.func113 rfl rfl ?_
  have hpt := hp.pt
  have hisp := hpt.isP
  repeat' first
   | refine Opl.val (op_lenL rfl hv.isL rfl) rfl ?_
   | refine Opl.val (op_load rfl (CodW.ldReads (And.left (by assumption)))) rfl ?_
   | refine Opl.callv rfl (by kernel_rfl) (h.length ((elems v).length : Nat) (by constructor <;> omega)) rfl (fun S2 w2 => ?_) (fun v S2 hbig => ?_)
   | refine Go.condT rfl ?_
   | refine At.fnp rfl ?_
   | refine .std ?_ | refine .nil ?_ | refine .seq ?_ | refine .region ?_ | refine .xs ?_ | refine .kb ?_ | refine .leaf ?_ | refine .block ?_ | refine .gn ?_ | refine .dr ?_ | fail
  · refine Go.weaken (E' := [(0, .ptr c 0), (1, p), (2, .func g [] []), (20, .int .i64 (elems v).length), (21, .int .i64 (0 : Nat))]) ?_ ⟨rfl, rfl, rfl, rfl, rfl, trivial⟩
    refine Go.loop_ind (α := Nat) (fun i => (elems v).length - i) (fun i E S' => E = [(0, .ptr c 0), (1, p), (2, .func g [] []), (20, .int .i64 (elems v).length), (21, .int .i64 i)] ∧ i ≤ (elems v).length ∧ ∃ b1 b2, bl = b1 ++ b2 ∧ EncEl g c ((elems v).drop i) b2 ∧
      Wrote S c buf (encI ((elems v).length : Nat) ++ b1) S') ?_ 0 _ _ ⟨rfl, Nat.zero_le _, [], bl, rfl, he, by simpa using w2⟩
    rintro i E S1 ⟨rfl, hi, b1, b2, hb, hd, w1⟩ IH
    obtain ⟨h1, k1⟩ := w1
    have hpt1 := (k1.src hp).pt
    repeat' first | refine .std ?_ | refine .nil ?_ | refine .seq ?_ | refine .region ?_ | refine .xs ?_ | refine .kb ?_ | refine .leaf ?_ | refine .block ?_ | refine .gn ?_ | refine .dr ?_ | fail
    refine Go.cond rfl (fun hq => ?_) (fun hq => ?_)
    · have hq : i < (elems v).length := by have := of_decide_eq_true hq; omega
      rw [List.drop_eq_getElem_cons hq] at hd
      obtain ⟨be, b3, hb3, hel, hrest⟩ := hd
      have hix : (elems v)[i]? = some (elems v)[i] := List.getElem?_eq_getElem hq
      obtain ⟨lt, tk, hvl⟩ := hv.el hix
      have hval : ∀ es, elems v = es → v = .list lt 1 es tk := fun es h => h ▸ hvl
      repeat' first
       | refine Opl.val (op_ixaL (by exact (congrArg some hvl)) rfl hix) rfl ?_
       | refine Opl.call rfl hg (hel S1 _ _ ⟨Pt.cptr _ _ _, trivial⟩ h1) rfl (fun v2 S4 w4 => ?_) (fun v2 S4 hbig => ?_)
       | refine Opl.val (op_int rfl rfl rfl (inc_ok (i := i) (by omega))) rfl ?_
       | refine At.fnp rfl ?_
       | refine .std ?_ | refine .nil ?_ | refine .seq ?_ | refine .region ?_ | refine .xs ?_ | refine .kb ?_ | refine .leaf ?_ | refine .block ?_ | refine .gn ?_ | refine .dr ?_ | fail
      · exact (IH (i + 1) _ S4 (by omega) ⟨rfl, by omega, b1 ++ be, b3, by rw [hb, hb3, List.append_assoc], hrest, by rw [← List.append_assoc]; exact Wrote.trans ⟨h1, k1⟩ w4.2⟩).weaken ⟨rfl, rfl, rfl, rfl, rfl, trivial⟩
      · rw [hb, hb3, ← List.append_assoc]
        exact Big.trans ⟨h1, k1⟩ hbig.more
    · have hq : i = (elems v).length := by have := of_decide_eq_false hq; omega
      rw [List.drop_eq_nil_of_le (by omega)] at hd
      have hd : b2 = [] := hd
      subst hd
      repeat' first
       | refine At.fnr rfl rfl rfl ?_
       | refine .std ?_ | refine .nil ?_ | refine .seq ?_ | refine .region ?_ | refine .xs ?_ | refine .kb ?_ | refine .leaf ?_ | refine .block ?_ | refine .gn ?_ | refine .dr ?_ | fail
      rw [hb, List.append_nil]
      exact ⟨trivial, h1, k1⟩
  · exact hbig.more

theorem wlist3 {S : St} {c : Nat} {buf : List UInt8} (h : CodW S c buf) {g : FuncId} (hg : hasBody Tryz.prog g = true) {p v : V} (hp : Src S c p [v]) (hv : isLn 1 v) (hlen : (elems v).length < 4611686018427387904) {bl : List UInt8} (he : EncEl g c (elems v) bl) :
    WrTo 98 [.ptr c 0, p, .func g [] []] S c buf (encI ((elems v).length : Nat) ++ bl) (fun _ => True) := by
  refine CallTo.of (n := 48) Tryz.func98 rfl rfl ?_
  have hpt := hp.pt
  have hisp := hpt.isP
  repeat' first
   | refine Opl.val (op_lenL rfl hv.isL rfl) rfl ?_
   | refine Opl.val (op_load rfl (CodW.ldReads (And.left (by assumption)))) rfl ?_
   | refine Opl.callv rfl (by kernel_rfl) (h.length ((elems v).length : Nat) (by constructor <;> omega)) rfl (fun S2 w2 => ?_) (fun v S2 hbig => ?_)
   | refine Go.condT rfl ?_
   | refine At.fnp rfl ?_
   | refine .std ?_ | refine .nil ?_ | refine .seq ?_ | refine .region ?_ | refine .xs ?_ | refine .kb ?_ | refine .leaf ?_ | refine .block ?_ | refine .gn ?_ | refine .dr ?_ | fail
  · refine Go.weaken (E' := [(0, .ptr c 0), (1, p), (2, .func g [] []), (20, .int .i64 (elems v).length), (21, .int .i64 (0 : Nat))]) ?_ ⟨rfl, rfl, rfl, rfl, rfl, trivial⟩
    refine Go.loop_ind (α := Nat) (fun i => (elems v).length - i) (fun i E S' => E = [(0, .ptr c 0), (1, p), (2, .func g [] []), (20, .int .i64 (elems v).length), (21, .int .i64 i)] ∧ i ≤ (elems v).length ∧ ∃ b1 b2, bl = b1 ++ b2 ∧ EncEl g c ((elems v).drop i) b2 ∧
      Wrote S c buf (encI ((elems v).length : Nat) ++ b1) S') ?_ 0 _ _ ⟨rfl, Nat.zero_le _, [], bl, rfl, he, by simpa using w2⟩
    rintro i E S1 ⟨rfl, hi, b1, b2, hb, hd, w1⟩ IH
    obtain ⟨h1, k1⟩ := w1
    have hpt1 := (k1.src hp).pt
    repeat' first | refine .std ?_ | refine .nil ?_ | refine .seq ?_ | refine .region ?_ | refine .xs ?_ | refine .kb ?_ | refine .leaf ?_ | refine .block ?_ | refine .gn ?_ | refine .dr ?_ | fail
    refine Go.cond rfl (fun hq => ?_) (fun hq => ?_)
    · have hq : i < (elems v).length := by have := of_decide_eq_true hq; omega
      rw [List.drop_eq_getElem_cons hq] at hd
      obtain ⟨be, b3, hb3, hel, hrest⟩ := hd
      have hix : (elems v)[i]? = some (elems v)[i] := List.getElem?_eq_getElem hq
      obtain ⟨lt, tk, hvl⟩ := hv.el hix
      have hval : ∀ es, elems v = es → v = .list lt 1 es tk := fun es h => h ▸ hvl
      repeat' first
       | refine Opl.val (op_ixaL (by exact (congrArg some hvl)) rfl hix) rfl ?_
       | refine Opl.call rfl hg (hel S1 _ _ ⟨Pt.cptr _ _ _, trivial⟩ h1) rfl (fun v2 S4 w4 => ?_) (fun v2 S4 hbig => ?_)
       | refine Opl.val (op_int rfl rfl rfl (inc_ok (i := i) (by omega))) rfl ?_
       | refine At.fnp rfl ?_
       | refine .std ?_ | refine .nil ?_ | refine .seq ?_ | refine .region ?_ | refine .xs ?_ | refine .kb ?_ | refine .leaf ?_ | refine .block ?_ | refine .gn ?_ | refine .dr ?_ | fail
      · exact (IH (i + 1) _ S4 (by omega) ⟨rfl, by omega, b1 ++ be, b3, by rw [hb, hb3, List.append_assoc], hrest, by rw [← List.append_assoc]; exact Wrote.trans ⟨h1, k1⟩ w4.2⟩).weaken ⟨rfl, rfl, rfl, rfl, rfl, trivial⟩
      · rw [hb, hb3, ← List.append_assoc]
        exact Big.trans ⟨h1, k1⟩ hbig.more
    · have hq : i = (elems v).length := by have := of_decide_eq_false hq; omega
      rw [List.drop_eq_nil_of_le (by omega)] at hd
      have hd : b2 = [] := hd
      subst hd
      repeat' first
       | refine At.fnr rfl rfl rfl ?_
       | refine .std ?_ | refine .nil ?_ | refine .seq ?_ | refine .region ?_ | refine .xs ?_ | refine .kb ?_ | refine .leaf ?_ | refine .block ?_ | refine .gn ?_ | refine .dr ?_ | fail
      rw [hb, List.append_nil]
      exact ⟨trivial, h1, k1⟩
  · exact hbig.more

end Go.Proofs.YtilldjgagokcfaaGreat
