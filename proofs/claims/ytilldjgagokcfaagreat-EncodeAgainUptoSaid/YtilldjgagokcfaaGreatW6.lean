/-
  The writer: the structs.
-/
import Derived.Test.YtilldjgagokcfaaGreatW5
set_option linter.unusedVariables false
set_option linter.unusedSimpArgs false
namespace Go.Proofs.YtilldjgagokcfaaGreat
open Go.RowKit Go.Ev
set_option maxRecDepth 100000
set_option linter.unusedVariables false

/-- The functions that write the structs. -/
def wfn : Nat → FuncId
  | 0 => 99
  | 1 => 114
  | 2 => 48
  | 3 => 97
  | 4 => 137
  | 5 => 118
  | 6 => 146
  | 7 => 60
  | 8 => 116
  | 9 => 62
  | 10 => 120
  | 11 => 66
  | 12 => 125
  | 13 => 64
  | 14 => 26
  | 15 => 30
  | 16 => 76
  | 17 => 80
  | 18 => 140
  | 19 => 100
  | 20 => 44
  | _ => 0

/-- What is written of a struct whose lists are within each other no deeper than this. -/
def WAll (d : Nat) : Prop := ∀ t, t < 21 → ∀ {S : St} {c : Nat} {buf : List UInt8} (h : CodW S c buf) {p : V} {cs : List V} {bs : List UInt8} (he : EncF d (sch t) cs bs) (hp : Src S c p cs),
  WrTo (wfn t) [.ptr c 0, p] S c buf bs (fun _ => True)

theorem EncL.el {d t c : Nat} (ht : t < 21) (H : WAll d) : ∀ {es : List V} {bs : List UInt8}, EncL d t es bs → EncEl (wfn t) c es bs
  | _, _, .nil _ _ => rfl
  | _, _, .cons h1 h2 => ⟨_, _, rfl, fun S buf p hp h => H t ht h h1 hp, EncL.el ht H h2⟩

theorem Big.of_le {A B : St} {c : Nat} {buf b1 b2 : List UInt8} {v : V} (h : Big A c buf b1 v B) (hl : b1.length ≤ b2.length) : Big A c buf b2 v B :=
  ⟨h.1, by have := h.2.1; omega, h.2.2⟩

/-- A call that writes behind what has been written. -/
theorem Opl.callW {S0 S : St} {c : Nat} {buf b1 b2 : List UInt8} {F : Sh} {E : Env} {k : K} {ops : Array Oper} {os : List Oper} {d : Nat} {ty : TypeId} {pos : String} {after : Array Edge} {f : Operand} {args : Array Operand} {ats : Array TypeId} {g : FuncId} {l : List V}
    (w : Wrote S0 c buf b1 S) (hf : calleeE (Env.opd E) f args = some (g, l)) (hb : hasBody Tryz.prog g = true) (hc : WrTo g l S c (buf ++ b1) b2 (fun _ => True))
    (hd : Nat.blt d F.n = true) (h1 : ∀ S', Wrote S0 c buf (b1 ++ b2) S' → ∀ v, Opl Tryz.prog ops os F ((d, v) :: E) S' k) (h2 : ∀ v S', Big S0 c buf (b1 ++ b2) v S' → At (.panic v) k F E S') :
    Opl Tryz.prog ops (⟨some d, .call { callee := .value f, args, argTypes := ats }, ty, pos, after, none⟩ :: os) F E S k :=
  .call hf hb hc hd (fun v S' h => h1 S' (w.trans h.2) v) (fun v S' h => h2 v S' (Big.trans w h))

theorem wr0 {d : Nat} (IH : ∀ d', d' < d → WAll d') {S : St} {c : Nat} {buf : List UInt8} (h : CodW S c buf) {p : V} {cs : List V} {bs : List UInt8} (he : EncF d (sch 0) cs bs) (hp : Src S c p cs) :
    WrTo 99 [.ptr c 0, p] S c buf bs (fun _ => True) := by
  obtain ⟨n0, c0, b0, hn0, rfl, rfl, he0⟩ := EncF.invI he
  obtain ⟨rfl, rfl⟩ := EncF.invN he0
  have hpt := hp.pt
  have hisp := hpt.isP
  have w0 : Wrote S c buf [] S := ⟨by simpa using h, KeepB.refl _ _⟩
  refine CallTo.of (n := 8) Tryz.func99 rfl rfl ?_
  have f0 : Src S c p [.int .i64 n0] := hp
  have hb0 : buildSliceE Tryz.prog 249 1 [(0, p)] = some (.list (some 152) 1 [p] .exact) := by
    cases p <;> first | (cases hisp; done) | kernel_rfl
  have hw0 : ∀ S', KeepB S S' c → ∀ w ∈ [(p, n0)], Src S' c w.1 [.int .i64 w.2] ∧ in64 w.2 := by
    intro S' kk w hw
    simp only [List.mem_cons, List.not_mem_nil, or_false] at hw
    subst hw; exact ⟨kk.src f0, hn0⟩
  repeat' first
   | refine Opl.val (op_buildSlice1 rfl hb0) rfl ?_
   | refine Opl.callW w0 rfl (by kernel_rfl) (CodW.ints w0.1 _ _ [(p, n0)] (hw0 _ w0.2) (of_decide_eq_true rfl)) rfl (fun S1 w1 v => ?_) (fun v S2 hbig => ?_)
   | refine At.fnp rfl ?_
   | refine At.fn rfl rfl rfl ?_
   | refine .std ?_ | refine .nil ?_ | refine .seq ?_ | refine .region ?_ | refine .xs ?_ | refine .kb ?_ | refine .leaf ?_ | refine .block ?_ | refine .gn ?_ | refine .dr ?_ | fail
  all_goals first
    | exact Big.of_le (by assumption) (by simp only [List.length_append, List.flatMap_cons, List.flatMap_nil, List.length_nil]; omega)
    | exact ⟨trivial, by simpa [List.flatMap_cons] using w1⟩

theorem wr1 {d : Nat} (IH : ∀ d', d' < d → WAll d') {S : St} {c : Nat} {buf : List UInt8} (h : CodW S c buf) {p : V} {cs : List V} {bs : List UInt8} (he : EncF d (sch 1) cs bs) (hp : Src S c p cs) :
    WrTo 114 [.ptr c 0, p] S c buf bs (fun _ => True) := by
  obtain ⟨s0, c0, b0, hs0, rfl, rfl, he0⟩ := EncF.invS he
  obtain ⟨rfl, rfl⟩ := EncF.invN he0
  have hpt := hp.pt
  have hisp := hpt.isP
  have w0 : Wrote S c buf [] S := ⟨by simpa using h, KeepB.refl _ _⟩
  refine CallTo.of (n := 8) Tryz.func114 rfl rfl ?_
  have f0 : Src S c p [.str s0] := hp
  have hb0 : buildSliceE Tryz.prog 233 1 [(0, p)] = some (.list (some 136) 1 [p] .exact) := by
    cases p <;> first | (cases hisp; done) | kernel_rfl
  have hw0 : ∀ S', KeepB S S' c → ∀ w ∈ [(p, s0)], Src S' c w.1 [.str w.2] ∧ w.2.length < 4611686018427387904 := by
    intro S' kk w hw
    simp only [List.mem_cons, List.not_mem_nil, or_false] at hw
    subst hw; exact ⟨kk.src f0, hs0⟩
  repeat' first
   | refine Opl.val (op_buildSlice1 rfl hb0) rfl ?_
   | refine Opl.callW w0 rfl (by kernel_rfl) (CodW.strings w0.1 _ _ [(p, s0)] (hw0 _ w0.2) (of_decide_eq_true rfl)) rfl (fun S1 w1 v => ?_) (fun v S2 hbig => ?_)
   | refine At.fnp rfl ?_
   | refine At.fn rfl rfl rfl ?_
   | refine .std ?_ | refine .nil ?_ | refine .seq ?_ | refine .region ?_ | refine .xs ?_ | refine .kb ?_ | refine .leaf ?_ | refine .block ?_ | refine .gn ?_ | refine .dr ?_ | fail
  all_goals first
    | exact Big.of_le (by assumption) (by simp only [List.length_append, List.flatMap_cons, List.flatMap_nil, List.length_nil]; omega)
    | exact ⟨trivial, by simpa [List.flatMap_cons] using w1⟩

theorem wr2 {d : Nat} (IH : ∀ d', d' < d → WAll d') {S : St} {c : Nat} {buf : List UInt8} (h : CodW S c buf) {p : V} {cs : List V} {bs : List UInt8} (he : EncF d (sch 2) cs bs) (hp : Src S c p cs) :
    WrTo 48 [.ptr c 0, p] S c buf bs (fun _ => True) := by
  obtain ⟨n0, c0, b0, hn0, rfl, rfl, he0⟩ := EncF.invI he
  obtain ⟨n1, c1, b1, hn1, rfl, rfl, he1⟩ := EncF.invI he0
  obtain ⟨s2, c2, b2, hs2, rfl, rfl, he2⟩ := EncF.invS he1
  obtain ⟨d3, v3, l3, c3, b3, hd3, hv3, hl3, hel3, rfl, rfl, he3⟩ := EncF.invL he2
  obtain ⟨d4, v4, l4, c4, b4, hd4, hv4, hl4, hel4, rfl, rfl, he4⟩ := EncF.invL he3
  obtain ⟨rfl, rfl⟩ := EncF.invN he4
  have hpt := hp.pt
  have hisp := hpt.isP
  have w0 : Wrote S c buf [] S := ⟨by simpa using h, KeepB.refl _ _⟩
  refine CallTo.of (n := 31) Tryz.func48 rfl rfl ?_
  have f0 : Src S c (padd p 0) [.int .i64 n0] := hp.at 0 rfl
  have f1 : Src S c (padd p 1) [.int .i64 n1] := hp.at 1 rfl
  have f2 : Src S c (padd p 2) [.str s2] := hp.at 2 rfl
  have f3 : Src S c (padd p 3) [v3] := hp.at 3 rfl
  have f4 : Src S c (padd p 4) [v4] := hp.at 4 rfl
  have hb1 : buildSliceE Tryz.prog 249 1 [(0, padd p 1)] = some (.list (some 152) 1 [padd p 1] .exact) := by
    cases p <;> first | (cases hisp; done) | kernel_rfl
  have hw1 : ∀ S', KeepB S S' c → ∀ w ∈ [(padd p 1, n1)], Src S' c w.1 [.int .i64 w.2] ∧ in64 w.2 := by
    intro S' kk w hw
    simp only [List.mem_cons, List.not_mem_nil, or_false] at hw
    subst hw; exact ⟨kk.src f1, hn1⟩
  have hb2 : buildSliceE Tryz.prog 233 1 [(0, padd p 2)] = some (.list (some 136) 1 [padd p 2] .exact) := by
    cases p <;> first | (cases hisp; done) | kernel_rfl
  have hw2 : ∀ S', KeepB S S' c → ∀ w ∈ [(padd p 2, s2)], Src S' c w.1 [.str w.2] ∧ w.2.length < 4611686018427387904 := by
    intro S' kk w hw
    simp only [List.mem_cons, List.not_mem_nil, or_false] at hw
    subst hw; exact ⟨kk.src f2, hs2⟩
  repeat' first
   | refine Opl.callW w0 rfl (by kernel_rfl) (CodW.kindValueKind w0.1 (w0.2.src f0) hn0) rfl (fun S1 w1 v => ?_) (fun v S2 hbig => ?_)
   | refine Opl.val (op_buildSlice1 rfl hb1) rfl ?_
   | refine Opl.callW w1 rfl (by kernel_rfl) (CodW.ints w1.1 _ _ [(padd p 1, n1)] (hw1 _ w1.2) (of_decide_eq_true rfl)) rfl (fun S2 w2 v => ?_) (fun v S2 hbig => ?_)
   | refine Opl.val (op_buildSlice1 rfl hb2) rfl ?_
   | refine Opl.callW w2 rfl (by kernel_rfl) (CodW.strings w2.1 _ _ [(padd p 2, s2)] (hw2 _ w2.2) (of_decide_eq_true rfl)) rfl (fun S3 w3 v => ?_) (fun v S2 hbig => ?_)
   | refine Opl.callW w3 rfl (by kernel_rfl) (wlist62 w3.1 (by kernel_rfl) (w3.2.src f3) hv3 hl3 (EncL.el (by decide) (IH d3 hd3) hel3)) rfl (fun S4 w4 v => ?_) (fun v S2 hbig => ?_)
   | refine Opl.callW w4 rfl (by kernel_rfl) (wlist181 w4.1 (by kernel_rfl) (w4.2.src f4) hv4 hl4 (EncL.el (by decide) (IH d4 hd4) hel4)) rfl (fun S5 w5 v => ?_) (fun v S2 hbig => ?_)
   | refine At.fnp rfl ?_
   | refine At.fn rfl rfl rfl ?_
   | refine .std ?_ | refine .nil ?_ | refine .seq ?_ | refine .region ?_ | refine .xs ?_ | refine .kb ?_ | refine .leaf ?_ | refine .block ?_ | refine .gn ?_ | refine .dr ?_ | fail
  all_goals first
    | exact Big.of_le (by assumption) (by simp only [List.length_append, List.flatMap_cons, List.flatMap_nil, List.length_nil]; omega)
    | exact ⟨trivial, by simpa [List.flatMap_cons] using w5⟩

theorem wr3 {d : Nat} (IH : ∀ d', d' < d → WAll d') {S : St} {c : Nat} {buf : List UInt8} (h : CodW S c buf) {p : V} {cs : List V} {bs : List UInt8} (he : EncF d (sch 3) cs bs) (hp : Src S c p cs) :
    WrTo 97 [.ptr c 0, p] S c buf bs (fun _ => True) := by
  obtain ⟨n0, c0, b0, hn0, rfl, rfl, he0⟩ := EncF.invI he
  obtain ⟨s1, c1, b1, hs1, rfl, rfl, he1⟩ := EncF.invS he0
  obtain ⟨n2, c2, b2, hn2, rfl, rfl, he2⟩ := EncF.invI he1
  obtain ⟨d3, v3, l3, c3, b3, hd3, hv3, hl3, hel3, rfl, rfl, he3⟩ := EncF.invL he2
  obtain ⟨d4, v4, l4, c4, b4, hd4, hv4, hl4, hel4, rfl, rfl, he4⟩ := EncF.invL he3
  obtain ⟨rfl, rfl⟩ := EncF.invN he4
  have hpt := hp.pt
  have hisp := hpt.isP
  have w0 : Wrote S c buf [] S := ⟨by simpa using h, KeepB.refl _ _⟩
  refine CallTo.of (n := 31) Tryz.func97 rfl rfl ?_
  have f0 : Src S c (padd p 0) [.int .i64 n0] := hp.at 0 rfl
  have f1 : Src S c (padd p 1) [.str s1] := hp.at 1 rfl
  have f2 : Src S c (padd p 2) [.int .i64 n2] := hp.at 2 rfl
  have f3 : Src S c (padd p 3) [v3] := hp.at 3 rfl
  have f4 : Src S c (padd p 4) [v4] := hp.at 4 rfl
  have hb1 : buildSliceE Tryz.prog 233 1 [(0, padd p 1)] = some (.list (some 136) 1 [padd p 1] .exact) := by
    cases p <;> first | (cases hisp; done) | kernel_rfl
  have hw1 : ∀ S', KeepB S S' c → ∀ w ∈ [(padd p 1, s1)], Src S' c w.1 [.str w.2] ∧ w.2.length < 4611686018427387904 := by
    intro S' kk w hw
    simp only [List.mem_cons, List.not_mem_nil, or_false] at hw
    subst hw; exact ⟨kk.src f1, hs1⟩
  have hb2 : buildSliceE Tryz.prog 249 1 [(0, padd p 2)] = some (.list (some 152) 1 [padd p 2] .exact) := by
    cases p <;> first | (cases hisp; done) | kernel_rfl
  have hw2 : ∀ S', KeepB S S' c → ∀ w ∈ [(padd p 2, n2)], Src S' c w.1 [.int .i64 w.2] ∧ in64 w.2 := by
    intro S' kk w hw
    simp only [List.mem_cons, List.not_mem_nil, or_false] at hw
    subst hw; exact ⟨kk.src f2, hn2⟩
  repeat' first
   | refine Opl.callW w0 rfl (by kernel_rfl) (CodW.kindSegKind w0.1 (w0.2.src f0) hn0) rfl (fun S1 w1 v => ?_) (fun v S2 hbig => ?_)
   | refine Opl.val (op_buildSlice1 rfl hb1) rfl ?_
   | refine Opl.callW w1 rfl (by kernel_rfl) (CodW.strings w1.1 _ _ [(padd p 1, s1)] (hw1 _ w1.2) (of_decide_eq_true rfl)) rfl (fun S2 w2 v => ?_) (fun v S2 hbig => ?_)
   | refine Opl.val (op_buildSlice1 rfl hb2) rfl ?_
   | refine Opl.callW w2 rfl (by kernel_rfl) (CodW.ints w2.1 _ _ [(padd p 2, n2)] (hw2 _ w2.2) (of_decide_eq_true rfl)) rfl (fun S3 w3 v => ?_) (fun v S2 hbig => ?_)
   | refine Opl.callW w3 rfl (by kernel_rfl) (wlist62 w3.1 (by kernel_rfl) (w3.2.src f3) hv3 hl3 (EncL.el (by decide) (IH d3 hd3) hel3)) rfl (fun S4 w4 v => ?_) (fun v S2 hbig => ?_)
   | refine Opl.callW w4 rfl (by kernel_rfl) (wlist259 w4.1 (by kernel_rfl) (w4.2.src f4) hv4 hl4 (EncL.el (by decide) (IH d4 hd4) hel4)) rfl (fun S5 w5 v => ?_) (fun v S2 hbig => ?_)
   | refine At.fnp rfl ?_
   | refine At.fn rfl rfl rfl ?_
   | refine .std ?_ | refine .nil ?_ | refine .seq ?_ | refine .region ?_ | refine .xs ?_ | refine .kb ?_ | refine .leaf ?_ | refine .block ?_ | refine .gn ?_ | refine .dr ?_ | fail
  all_goals first
    | exact Big.of_le (by assumption) (by simp only [List.length_append, List.flatMap_cons, List.flatMap_nil, List.length_nil]; omega)
    | exact ⟨trivial, by simpa [List.flatMap_cons] using w5⟩

theorem wr4 {d : Nat} (IH : ∀ d', d' < d → WAll d') {S : St} {c : Nat} {buf : List UInt8} (h : CodW S c buf) {p : V} {cs : List V} {bs : List UInt8} (he : EncF d (sch 4) cs bs) (hp : Src S c p cs) :
    WrTo 137 [.ptr c 0, p] S c buf bs (fun _ => True) := by
  obtain ⟨n0, c0, b0, hn0, rfl, rfl, he0⟩ := EncF.invI he
  obtain ⟨n1, c1, b1, hn1, rfl, rfl, he1⟩ := EncF.invI he0
  obtain ⟨d2, v2, l2, c2, b2, hd2, hv2, hl2, hel2, rfl, rfl, he2⟩ := EncF.invL he1
  obtain ⟨d3, v3, l3, c3, b3, hd3, hv3, hl3, hel3, rfl, rfl, he3⟩ := EncF.invL he2
  obtain ⟨rfl, rfl⟩ := EncF.invN he3
  have hpt := hp.pt
  have hisp := hpt.isP
  have w0 : Wrote S c buf [] S := ⟨by simpa using h, KeepB.refl _ _⟩
  refine CallTo.of (n := 23) Tryz.func137 rfl rfl ?_
  have f0 : Src S c (padd p 0) [.int .i64 n0] := hp.at 0 rfl
  have f1 : Src S c (padd p 1) [.int .i64 n1] := hp.at 1 rfl
  have f2 : Src S c (padd p 2) [v2] := hp.at 2 rfl
  have f3 : Src S c (padd p 3) [v3] := hp.at 3 rfl
  have hb0 : buildSliceE Tryz.prog 249 2 [(0, padd p 0), (1, padd p 1)] = some (.list (some 152) 1 [padd p 0, padd p 1] .exact) := by
    cases p <;> first | (cases hisp; done) | kernel_rfl
  have hw0 : ∀ S', KeepB S S' c → ∀ w ∈ [(padd p 0, n0), (padd p 1, n1)], Src S' c w.1 [.int .i64 w.2] ∧ in64 w.2 := by
    intro S' kk w hw
    simp only [List.mem_cons, List.not_mem_nil, or_false] at hw
    rcases hw with rfl | rfl
    · exact ⟨kk.src f0, hn0⟩
    · exact ⟨kk.src f1, hn1⟩
  repeat' first
   | refine Opl.val (op_bs2 rfl rfl hb0) rfl ?_
   | refine Opl.callW w0 rfl (by kernel_rfl) (CodW.ints w0.1 _ _ [(padd p 0, n0), (padd p 1, n1)] (hw0 _ w0.2) (of_decide_eq_true rfl)) rfl (fun S1 w1 v => ?_) (fun v S2 hbig => ?_)
   | refine Opl.callW w1 rfl (by kernel_rfl) (wlist62 w1.1 (by kernel_rfl) (w1.2.src f2) hv2 hl2 (EncL.el (by decide) (IH d2 hd2) hel2)) rfl (fun S2 w2 v => ?_) (fun v S2 hbig => ?_)
   | refine Opl.callW w2 rfl (by kernel_rfl) (wlist62 w2.1 (by kernel_rfl) (w2.2.src f3) hv3 hl3 (EncL.el (by decide) (IH d3 hd3) hel3)) rfl (fun S3 w3 v => ?_) (fun v S2 hbig => ?_)
   | refine At.fnp rfl ?_
   | refine At.fn rfl rfl rfl ?_
   | refine .std ?_ | refine .nil ?_ | refine .seq ?_ | refine .region ?_ | refine .xs ?_ | refine .kb ?_ | refine .leaf ?_ | refine .block ?_ | refine .gn ?_ | refine .dr ?_ | fail
  all_goals first
    | exact Big.of_le (by assumption) (by simp only [List.length_append, List.flatMap_cons, List.flatMap_nil, List.length_nil]; omega)
    | exact ⟨trivial, by simpa [List.flatMap_cons] using w3⟩

theorem wr5 {d : Nat} (IH : ∀ d', d' < d → WAll d') {S : St} {c : Nat} {buf : List UInt8} (h : CodW S c buf) {p : V} {cs : List V} {bs : List UInt8} (he : EncF d (sch 5) cs bs) (hp : Src S c p cs) :
    WrTo 118 [.ptr c 0, p] S c buf bs (fun _ => True) := by
  obtain ⟨n0, c0, b0, hn0, rfl, rfl, he0⟩ := EncF.invI he
  obtain ⟨n1, c1, b1, hn1, rfl, rfl, he1⟩ := EncF.invI he0
  obtain ⟨s2, c2, b2, hs2, rfl, rfl, he2⟩ := EncF.invS he1
  obtain ⟨d3, v3, l3, c3, b3, hd3, hv3, hl3, hel3, rfl, rfl, he3⟩ := EncF.invL he2
  obtain ⟨d4, v4, l4, c4, b4, hd4, hv4, hl4, hel4, rfl, rfl, he4⟩ := EncF.invL he3
  obtain ⟨n5, c5, b5, hn5, rfl, rfl, he5⟩ := EncF.invI he4
  obtain ⟨rfl, rfl⟩ := EncF.invN he5
  have hpt := hp.pt
  have hisp := hpt.isP
  have w0 : Wrote S c buf [] S := ⟨by simpa using h, KeepB.refl _ _⟩
  refine CallTo.of (n := 39) Tryz.func118 rfl rfl ?_
  have f0 : Src S c (padd p 0) [.int .i64 n0] := hp.at 0 rfl
  have f1 : Src S c (padd p 1) [.int .i64 n1] := hp.at 1 rfl
  have f2 : Src S c (padd p 2) [.str s2] := hp.at 2 rfl
  have f3 : Src S c (padd p 3) [v3] := hp.at 3 rfl
  have f4 : Src S c (padd p 4) [v4] := hp.at 4 rfl
  have f5 : Src S c (padd p 5) [.int .i64 n5] := hp.at 5 rfl
  have hb1 : buildSliceE Tryz.prog 249 1 [(0, padd p 1)] = some (.list (some 152) 1 [padd p 1] .exact) := by
    cases p <;> first | (cases hisp; done) | kernel_rfl
  have hw1 : ∀ S', KeepB S S' c → ∀ w ∈ [(padd p 1, n1)], Src S' c w.1 [.int .i64 w.2] ∧ in64 w.2 := by
    intro S' kk w hw
    simp only [List.mem_cons, List.not_mem_nil, or_false] at hw
    subst hw; exact ⟨kk.src f1, hn1⟩
  have hb2 : buildSliceE Tryz.prog 233 1 [(0, padd p 2)] = some (.list (some 136) 1 [padd p 2] .exact) := by
    cases p <;> first | (cases hisp; done) | kernel_rfl
  have hw2 : ∀ S', KeepB S S' c → ∀ w ∈ [(padd p 2, s2)], Src S' c w.1 [.str w.2] ∧ w.2.length < 4611686018427387904 := by
    intro S' kk w hw
    simp only [List.mem_cons, List.not_mem_nil, or_false] at hw
    subst hw; exact ⟨kk.src f2, hs2⟩
  have hb5 : buildSliceE Tryz.prog 249 1 [(0, padd p 5)] = some (.list (some 152) 1 [padd p 5] .exact) := by
    cases p <;> first | (cases hisp; done) | kernel_rfl
  have hw5 : ∀ S', KeepB S S' c → ∀ w ∈ [(padd p 5, n5)], Src S' c w.1 [.int .i64 w.2] ∧ in64 w.2 := by
    intro S' kk w hw
    simp only [List.mem_cons, List.not_mem_nil, or_false] at hw
    subst hw; exact ⟨kk.src f5, hn5⟩
  repeat' first
   | refine Opl.callW w0 rfl (by kernel_rfl) (CodW.kindTypeKind w0.1 (w0.2.src f0) hn0) rfl (fun S1 w1 v => ?_) (fun v S2 hbig => ?_)
   | refine Opl.val (op_buildSlice1 rfl hb1) rfl ?_
   | refine Opl.callW w1 rfl (by kernel_rfl) (CodW.ints w1.1 _ _ [(padd p 1, n1)] (hw1 _ w1.2) (of_decide_eq_true rfl)) rfl (fun S2 w2 v => ?_) (fun v S2 hbig => ?_)
   | refine Opl.val (op_buildSlice1 rfl hb2) rfl ?_
   | refine Opl.callW w2 rfl (by kernel_rfl) (CodW.strings w2.1 _ _ [(padd p 2, s2)] (hw2 _ w2.2) (of_decide_eq_true rfl)) rfl (fun S3 w3 v => ?_) (fun v S2 hbig => ?_)
   | refine Opl.callW w3 rfl (by kernel_rfl) (wlist221 w3.1 (by kernel_rfl) (w3.2.src f3) hv3 hl3 (EncL.el (by decide) (IH d3 hd3) hel3)) rfl (fun S4 w4 v => ?_) (fun v S2 hbig => ?_)
   | refine Opl.callW w4 rfl (by kernel_rfl) (wlist276 w4.1 (by kernel_rfl) (w4.2.src f4) hv4 hl4 (EncL.el (by decide) (IH d4 hd4) hel4)) rfl (fun S5 w5 v => ?_) (fun v S2 hbig => ?_)
   | refine Opl.val (op_buildSlice1 rfl hb5) rfl ?_
   | refine Opl.callW w5 rfl (by kernel_rfl) (CodW.ints w5.1 _ _ [(padd p 5, n5)] (hw5 _ w5.2) (of_decide_eq_true rfl)) rfl (fun S6 w6 v => ?_) (fun v S2 hbig => ?_)
   | refine At.fnp rfl ?_
   | refine At.fn rfl rfl rfl ?_
   | refine .std ?_ | refine .nil ?_ | refine .seq ?_ | refine .region ?_ | refine .xs ?_ | refine .kb ?_ | refine .leaf ?_ | refine .block ?_ | refine .gn ?_ | refine .dr ?_ | fail
  all_goals first
    | exact Big.of_le (by assumption) (by simp only [List.length_append, List.flatMap_cons, List.flatMap_nil, List.length_nil]; omega)
    | exact ⟨trivial, by simpa [List.flatMap_cons] using w6⟩

theorem wr6 {d : Nat} (IH : ∀ d', d' < d → WAll d') {S : St} {c : Nat} {buf : List UInt8} (h : CodW S c buf) {p : V} {cs : List V} {bs : List UInt8} (he : EncF d (sch 6) cs bs) (hp : Src S c p cs) :
    WrTo 146 [.ptr c 0, p] S c buf bs (fun _ => True) := by
  obtain ⟨s0, c0, b0, hs0, rfl, rfl, he0⟩ := EncF.invS he
  obtain ⟨n1, c1, b1, hn1, rfl, rfl, he1⟩ := EncF.invI he0
  obtain ⟨rfl, rfl⟩ := EncF.invN he1
  have hpt := hp.pt
  have hisp := hpt.isP
  have w0 : Wrote S c buf [] S := ⟨by simpa using h, KeepB.refl _ _⟩
  refine CallTo.of (n := 16) Tryz.func146 rfl rfl ?_
  have f0 : Src S c (padd p 0) [.str s0] := hp.at 0 rfl
  have f1 : Src S c (padd p 1) [.int .i64 n1] := hp.at 1 rfl
  have hb0 : buildSliceE Tryz.prog 233 1 [(0, padd p 0)] = some (.list (some 136) 1 [padd p 0] .exact) := by
    cases p <;> first | (cases hisp; done) | kernel_rfl
  have hw0 : ∀ S', KeepB S S' c → ∀ w ∈ [(padd p 0, s0)], Src S' c w.1 [.str w.2] ∧ w.2.length < 4611686018427387904 := by
    intro S' kk w hw
    simp only [List.mem_cons, List.not_mem_nil, or_false] at hw
    subst hw; exact ⟨kk.src f0, hs0⟩
  have hb1 : buildSliceE Tryz.prog 249 1 [(0, padd p 1)] = some (.list (some 152) 1 [padd p 1] .exact) := by
    cases p <;> first | (cases hisp; done) | kernel_rfl
  have hw1 : ∀ S', KeepB S S' c → ∀ w ∈ [(padd p 1, n1)], Src S' c w.1 [.int .i64 w.2] ∧ in64 w.2 := by
    intro S' kk w hw
    simp only [List.mem_cons, List.not_mem_nil, or_false] at hw
    subst hw; exact ⟨kk.src f1, hn1⟩
  repeat' first
   | refine Opl.val (op_buildSlice1 rfl hb0) rfl ?_
   | refine Opl.callW w0 rfl (by kernel_rfl) (CodW.strings w0.1 _ _ [(padd p 0, s0)] (hw0 _ w0.2) (of_decide_eq_true rfl)) rfl (fun S1 w1 v => ?_) (fun v S2 hbig => ?_)
   | refine Opl.val (op_buildSlice1 rfl hb1) rfl ?_
   | refine Opl.callW w1 rfl (by kernel_rfl) (CodW.ints w1.1 _ _ [(padd p 1, n1)] (hw1 _ w1.2) (of_decide_eq_true rfl)) rfl (fun S2 w2 v => ?_) (fun v S2 hbig => ?_)
   | refine At.fnp rfl ?_
   | refine At.fn rfl rfl rfl ?_
   | refine .std ?_ | refine .nil ?_ | refine .seq ?_ | refine .region ?_ | refine .xs ?_ | refine .kb ?_ | refine .leaf ?_ | refine .block ?_ | refine .gn ?_ | refine .dr ?_ | fail
  all_goals first
    | exact Big.of_le (by assumption) (by simp only [List.length_append, List.flatMap_cons, List.flatMap_nil, List.length_nil]; omega)
    | exact ⟨trivial, by simpa [List.flatMap_cons] using w2⟩

theorem wr7 {d : Nat} (IH : ∀ d', d' < d → WAll d') {S : St} {c : Nat} {buf : List UInt8} (h : CodW S c buf) {p : V} {cs : List V} {bs : List UInt8} (he : EncF d (sch 7) cs bs) (hp : Src S c p cs) :
    WrTo 60 [.ptr c 0, p] S c buf bs (fun _ => True) := by
  obtain ⟨s0, c0, b0, hs0, rfl, rfl, he0⟩ := EncF.invS he
  obtain ⟨d1, v1, l1, c1, b1, hd1, hv1, hl1, hel1, rfl, rfl, he1⟩ := EncF.invL he0
  obtain ⟨d2, v2, l2, c2, b2, hd2, hv2, hl2, hel2, rfl, rfl, he2⟩ := EncF.invL he1
  obtain ⟨rfl, rfl⟩ := EncF.invN he2
  have hpt := hp.pt
  have hisp := hpt.isP
  have w0 : Wrote S c buf [] S := ⟨by simpa using h, KeepB.refl _ _⟩
  refine CallTo.of (n := 20) Tryz.func60 rfl rfl ?_
  have f0 : Src S c (padd p 0) [.str s0] := hp.at 0 rfl
  have f1 : Src S c (padd p 1) [v1] := hp.at 1 rfl
  have f2 : Src S c (padd p 2) [v2] := hp.at 2 rfl
  have hb0 : buildSliceE Tryz.prog 233 1 [(0, padd p 0)] = some (.list (some 136) 1 [padd p 0] .exact) := by
    cases p <;> first | (cases hisp; done) | kernel_rfl
  have hw0 : ∀ S', KeepB S S' c → ∀ w ∈ [(padd p 0, s0)], Src S' c w.1 [.str w.2] ∧ w.2.length < 4611686018427387904 := by
    intro S' kk w hw
    simp only [List.mem_cons, List.not_mem_nil, or_false] at hw
    subst hw; exact ⟨kk.src f0, hs0⟩
  repeat' first
   | refine Opl.val (op_buildSlice1 rfl hb0) rfl ?_
   | refine Opl.callW w0 rfl (by kernel_rfl) (CodW.strings w0.1 _ _ [(padd p 0, s0)] (hw0 _ w0.2) (of_decide_eq_true rfl)) rfl (fun S1 w1 v => ?_) (fun v S2 hbig => ?_)
   | refine Opl.callW w1 rfl (by kernel_rfl) (wlist9 w1.1 (by kernel_rfl) (w1.2.src f1) hv1 hl1 (EncL.el (by decide) (IH d1 hd1) hel1)) rfl (fun S2 w2 v => ?_) (fun v S2 hbig => ?_)
   | refine Opl.callW w2 rfl (by kernel_rfl) (wlist212 w2.1 (by kernel_rfl) (w2.2.src f2) hv2 hl2 (EncL.el (by decide) (IH d2 hd2) hel2)) rfl (fun S3 w3 v => ?_) (fun v S2 hbig => ?_)
   | refine At.fnp rfl ?_
   | refine At.fn rfl rfl rfl ?_
   | refine .std ?_ | refine .nil ?_ | refine .seq ?_ | refine .region ?_ | refine .xs ?_ | refine .kb ?_ | refine .leaf ?_ | refine .block ?_ | refine .gn ?_ | refine .dr ?_ | fail
  all_goals first
    | exact Big.of_le (by assumption) (by simp only [List.length_append, List.flatMap_cons, List.flatMap_nil, List.length_nil]; omega)
    | exact ⟨trivial, by simpa [List.flatMap_cons] using w3⟩

theorem wr8 {d : Nat} (IH : ∀ d', d' < d → WAll d') {S : St} {c : Nat} {buf : List UInt8} (h : CodW S c buf) {p : V} {cs : List V} {bs : List UInt8} (he : EncF d (sch 8) cs bs) (hp : Src S c p cs) :
    WrTo 116 [.ptr c 0, p] S c buf bs (fun _ => True) := by
  obtain ⟨s0, c0, b0, hs0, rfl, rfl, he0⟩ := EncF.invS he
  obtain ⟨d1, v1, l1, c1, b1, hd1, hv1, hl1, hel1, rfl, rfl, he1⟩ := EncF.invL he0
  obtain ⟨rfl, rfl⟩ := EncF.invN he1
  have hpt := hp.pt
  have hisp := hpt.isP
  have w0 : Wrote S c buf [] S := ⟨by simpa using h, KeepB.refl _ _⟩
  refine CallTo.of (n := 15) Tryz.func116 rfl rfl ?_
  have f0 : Src S c (padd p 0) [.str s0] := hp.at 0 rfl
  have f1 : Src S c (padd p 1) [v1] := hp.at 1 rfl
  have hb0 : buildSliceE Tryz.prog 233 1 [(0, padd p 0)] = some (.list (some 136) 1 [padd p 0] .exact) := by
    cases p <;> first | (cases hisp; done) | kernel_rfl
  have hw0 : ∀ S', KeepB S S' c → ∀ w ∈ [(padd p 0, s0)], Src S' c w.1 [.str w.2] ∧ w.2.length < 4611686018427387904 := by
    intro S' kk w hw
    simp only [List.mem_cons, List.not_mem_nil, or_false] at hw
    subst hw; exact ⟨kk.src f0, hs0⟩
  repeat' first
   | refine Opl.val (op_buildSlice1 rfl hb0) rfl ?_
   | refine Opl.callW w0 rfl (by kernel_rfl) (CodW.strings w0.1 _ _ [(padd p 0, s0)] (hw0 _ w0.2) (of_decide_eq_true rfl)) rfl (fun S1 w1 v => ?_) (fun v S2 hbig => ?_)
   | refine Opl.callW w1 rfl (by kernel_rfl) (wlist221 w1.1 (by kernel_rfl) (w1.2.src f1) hv1 hl1 (EncL.el (by decide) (IH d1 hd1) hel1)) rfl (fun S2 w2 v => ?_) (fun v S2 hbig => ?_)
   | refine At.fnp rfl ?_
   | refine At.fn rfl rfl rfl ?_
   | refine .std ?_ | refine .nil ?_ | refine .seq ?_ | refine .region ?_ | refine .xs ?_ | refine .kb ?_ | refine .leaf ?_ | refine .block ?_ | refine .gn ?_ | refine .dr ?_ | fail
  all_goals first
    | exact Big.of_le (by assumption) (by simp only [List.length_append, List.flatMap_cons, List.flatMap_nil, List.length_nil]; omega)
    | exact ⟨trivial, by simpa [List.flatMap_cons] using w2⟩

theorem wr9 {d : Nat} (IH : ∀ d', d' < d → WAll d') {S : St} {c : Nat} {buf : List UInt8} (h : CodW S c buf) {p : V} {cs : List V} {bs : List UInt8} (he : EncF d (sch 9) cs bs) (hp : Src S c p cs) :
    WrTo 62 [.ptr c 0, p] S c buf bs (fun _ => True) := by
  obtain ⟨s0, c0, b0, hs0, rfl, rfl, he0⟩ := EncF.invS he
  obtain ⟨d1, v1, l1, c1, b1, hd1, hv1, hl1, hel1, rfl, rfl, he1⟩ := EncF.invL he0
  obtain ⟨rfl, rfl⟩ := EncF.invN he1
  have hpt := hp.pt
  have hisp := hpt.isP
  have w0 : Wrote S c buf [] S := ⟨by simpa using h, KeepB.refl _ _⟩
  refine CallTo.of (n := 15) Tryz.func62 rfl rfl ?_
  have f0 : Src S c (padd p 0) [.str s0] := hp.at 0 rfl
  have f1 : Src S c (padd p 1) [v1] := hp.at 1 rfl
  have hb0 : buildSliceE Tryz.prog 233 1 [(0, padd p 0)] = some (.list (some 136) 1 [padd p 0] .exact) := by
    cases p <;> first | (cases hisp; done) | kernel_rfl
  have hw0 : ∀ S', KeepB S S' c → ∀ w ∈ [(padd p 0, s0)], Src S' c w.1 [.str w.2] ∧ w.2.length < 4611686018427387904 := by
    intro S' kk w hw
    simp only [List.mem_cons, List.not_mem_nil, or_false] at hw
    subst hw; exact ⟨kk.src f0, hs0⟩
  repeat' first
   | refine Opl.val (op_buildSlice1 rfl hb0) rfl ?_
   | refine Opl.callW w0 rfl (by kernel_rfl) (CodW.strings w0.1 _ _ [(padd p 0, s0)] (hw0 _ w0.2) (of_decide_eq_true rfl)) rfl (fun S1 w1 v => ?_) (fun v S2 hbig => ?_)
   | refine Opl.callW w1 rfl (by kernel_rfl) (wlist228 w1.1 (by kernel_rfl) (w1.2.src f1) hv1 hl1 (EncL.el (by decide) (IH d1 hd1) hel1)) rfl (fun S2 w2 v => ?_) (fun v S2 hbig => ?_)
   | refine At.fnp rfl ?_
   | refine At.fn rfl rfl rfl ?_
   | refine .std ?_ | refine .nil ?_ | refine .seq ?_ | refine .region ?_ | refine .xs ?_ | refine .kb ?_ | refine .leaf ?_ | refine .block ?_ | refine .gn ?_ | refine .dr ?_ | fail
  all_goals first
    | exact Big.of_le (by assumption) (by simp only [List.length_append, List.flatMap_cons, List.flatMap_nil, List.length_nil]; omega)
    | exact ⟨trivial, by simpa [List.flatMap_cons] using w2⟩

theorem wr10 {d : Nat} (IH : ∀ d', d' < d → WAll d') {S : St} {c : Nat} {buf : List UInt8} (h : CodW S c buf) {p : V} {cs : List V} {bs : List UInt8} (he : EncF d (sch 10) cs bs) (hp : Src S c p cs) :
    WrTo 120 [.ptr c 0, p] S c buf bs (fun _ => True) := by
  obtain ⟨s0, c0, b0, hs0, rfl, rfl, he0⟩ := EncF.invS he
  obtain ⟨d1, x1, l1, c1, b1, hd1, hx1, hxl1, rfl, rfl, he1⟩ := EncF.invT he0
  obtain ⟨d2, x2, l2, c2, b2, hd2, hx2, hxl2, rfl, rfl, he2⟩ := EncF.invT he1
  obtain ⟨q3, c3, b3, rfl, rfl, he3⟩ := EncF.invB he2
  obtain ⟨rfl, rfl⟩ := EncF.invN he3
  have hpt := hp.pt
  have hisp := hpt.isP
  have w0 : Wrote S c buf [] S := ⟨by simpa using h, KeepB.refl _ _⟩
  refine CallTo.of (n := 26) Tryz.func120 rfl rfl ?_
  have f0 : Src S c (padd p 0) [.str s0] := hp.at 0 rfl
  have f1 : Src S c (padd p 1) x1 := hp.sub 1 fun i v hi => by
    have hlt := (List.getElem?_eq_some_iff.1 hi).1
    simp only [szs] at hxl1 hxl2
    simp [List.getElem?_append, List.getElem?_cons, hxl1, hxl2]
    try (first | exact hi | (rw [if_pos (by omega)]; exact hi) | (split <;> first | omega | exact hi | (split <;> first | omega | exact hi)))
  have f2 : Src S c (padd p 7) x2 := hp.sub 7 fun i v hi => by
    have hlt := (List.getElem?_eq_some_iff.1 hi).1
    simp only [szs] at hxl1 hxl2
    simp [List.getElem?_append, List.getElem?_cons, hxl1, hxl2]
    try (first | exact hi | (rw [if_pos (by omega)]; exact hi) | (split <;> first | omega | exact hi | (split <;> first | omega | exact hi)))
  have f3 : Src S c (padd p 13) [.bool q3] := hp.at 13 (by simp only [szs] at hxl1 hxl2; simp [List.getElem?_append, List.getElem?_cons, hxl1, hxl2])
  have hb0 : buildSliceE Tryz.prog 233 1 [(0, padd p 0)] = some (.list (some 136) 1 [padd p 0] .exact) := by
    cases p <;> first | (cases hisp; done) | kernel_rfl
  have hw0 : ∀ S', KeepB S S' c → ∀ w ∈ [(padd p 0, s0)], Src S' c w.1 [.str w.2] ∧ w.2.length < 4611686018427387904 := by
    intro S' kk w hw
    simp only [List.mem_cons, List.not_mem_nil, or_false] at hw
    subst hw; exact ⟨kk.src f0, hs0⟩
  have hb3 : buildSliceE Tryz.prog 250 1 [(0, padd p 13)] = some (.list (some 154) 1 [padd p 13] .exact) := by
    cases p <;> first | (cases hisp; done) | kernel_rfl
  have hw3 : ∀ S', KeepB S S' c → ∀ w ∈ [(padd p 13, q3)], Src S' c w.1 [.bool w.2] := by
    intro S' kk w hw
    simp only [List.mem_cons, List.not_mem_nil, or_false] at hw
    subst hw; exact kk.src f3
  repeat' first
   | refine Opl.val (op_buildSlice1 rfl hb0) rfl ?_
   | refine Opl.callW w0 rfl (by kernel_rfl) (CodW.strings w0.1 _ _ [(padd p 0, s0)] (hw0 _ w0.2) (of_decide_eq_true rfl)) rfl (fun S1 w1 v => ?_) (fun v S2 hbig => ?_)
   | refine Opl.callW w1 rfl (by kernel_rfl) (IH d1 hd1 5 (by decide) w1.1 hx1 (w1.2.src f1)) rfl (fun S2 w2 v => ?_) (fun v S2 hbig => ?_)
   | refine Opl.callW w2 rfl (by kernel_rfl) (IH d2 hd2 5 (by decide) w2.1 hx2 (w2.2.src f2)) rfl (fun S3 w3 v => ?_) (fun v S2 hbig => ?_)
   | refine Opl.val (op_buildSlice1 rfl hb3) rfl ?_
   | refine Opl.callW w3 rfl (by kernel_rfl) (CodW.bools w3.1 _ _ [(padd p 13, q3)] (hw3 _ w3.2) (of_decide_eq_true rfl)) rfl (fun S4 w4 v => ?_) (fun v S2 hbig => ?_)
   | refine At.fnp rfl ?_
   | refine At.fn rfl rfl rfl ?_
   | refine .std ?_ | refine .nil ?_ | refine .seq ?_ | refine .region ?_ | refine .xs ?_ | refine .kb ?_ | refine .leaf ?_ | refine .block ?_ | refine .gn ?_ | refine .dr ?_ | fail
  all_goals first
    | exact Big.of_le (by assumption) (by simp only [List.length_append, List.flatMap_cons, List.flatMap_nil, List.length_nil]; omega)
    | exact ⟨trivial, by simpa [List.flatMap_cons] using w4⟩

theorem wr11 {d : Nat} (IH : ∀ d', d' < d → WAll d') {S : St} {c : Nat} {buf : List UInt8} (h : CodW S c buf) {p : V} {cs : List V} {bs : List UInt8} (he : EncF d (sch 11) cs bs) (hp : Src S c p cs) :
    WrTo 66 [.ptr c 0, p] S c buf bs (fun _ => True) := by
  obtain ⟨n0, c0, b0, hn0, rfl, rfl, he0⟩ := EncF.invI he
  obtain ⟨n1, c1, b1, hn1, rfl, rfl, he1⟩ := EncF.invI he0
  obtain ⟨s2, c2, b2, hs2, rfl, rfl, he2⟩ := EncF.invS he1
  obtain ⟨s3, c3, b3, hs3, rfl, rfl, he3⟩ := EncF.invS he2
  obtain ⟨d4, v4, l4, c4, b4, hd4, hv4, hl4, hel4, rfl, rfl, he4⟩ := EncF.invL he3
  obtain ⟨d5, v5, l5, c5, b5, hd5, hv5, hl5, hel5, rfl, rfl, he5⟩ := EncF.invL he4
  obtain ⟨d6, v6, l6, c6, b6, hd6, hv6, hl6, hel6, rfl, rfl, he6⟩ := EncF.invL he5
  obtain ⟨rfl, rfl⟩ := EncF.invN he6
  have hpt := hp.pt
  have hisp := hpt.isP
  have w0 : Wrote S c buf [] S := ⟨by simpa using h, KeepB.refl _ _⟩
  refine CallTo.of (n := 39) Tryz.func66 rfl rfl ?_
  have f0 : Src S c (padd p 0) [.int .i64 n0] := hp.at 0 rfl
  have f1 : Src S c (padd p 1) [.int .i64 n1] := hp.at 1 rfl
  have f2 : Src S c (padd p 2) [.str s2] := hp.at 2 rfl
  have f3 : Src S c (padd p 3) [.str s3] := hp.at 3 rfl
  have f4 : Src S c (padd p 4) [v4] := hp.at 4 rfl
  have f5 : Src S c (padd p 5) [v5] := hp.at 5 rfl
  have f6 : Src S c (padd p 6) [v6] := hp.at 6 rfl
  have hb1 : buildSliceE Tryz.prog 249 1 [(0, padd p 1)] = some (.list (some 152) 1 [padd p 1] .exact) := by
    cases p <;> first | (cases hisp; done) | kernel_rfl
  have hw1 : ∀ S', KeepB S S' c → ∀ w ∈ [(padd p 1, n1)], Src S' c w.1 [.int .i64 w.2] ∧ in64 w.2 := by
    intro S' kk w hw
    simp only [List.mem_cons, List.not_mem_nil, or_false] at hw
    subst hw; exact ⟨kk.src f1, hn1⟩
  have hb2 : buildSliceE Tryz.prog 233 2 [(0, padd p 2), (1, padd p 3)] = some (.list (some 136) 1 [padd p 2, padd p 3] .exact) := by
    cases p <;> first | (cases hisp; done) | kernel_rfl
  have hw2 : ∀ S', KeepB S S' c → ∀ w ∈ [(padd p 2, s2), (padd p 3, s3)], Src S' c w.1 [.str w.2] ∧ w.2.length < 4611686018427387904 := by
    intro S' kk w hw
    simp only [List.mem_cons, List.not_mem_nil, or_false] at hw
    rcases hw with rfl | rfl
    · exact ⟨kk.src f2, hs2⟩
    · exact ⟨kk.src f3, hs3⟩
  repeat' first
   | refine Opl.callW w0 rfl (by kernel_rfl) (CodW.kindKind w0.1 (w0.2.src f0) hn0) rfl (fun S1 w1 v => ?_) (fun v S2 hbig => ?_)
   | refine Opl.val (op_buildSlice1 rfl hb1) rfl ?_
   | refine Opl.callW w1 rfl (by kernel_rfl) (CodW.ints w1.1 _ _ [(padd p 1, n1)] (hw1 _ w1.2) (of_decide_eq_true rfl)) rfl (fun S2 w2 v => ?_) (fun v S2 hbig => ?_)
   | refine Opl.val (op_bs2 rfl rfl hb2) rfl ?_
   | refine Opl.callW w2 rfl (by kernel_rfl) (CodW.strings w2.1 _ _ [(padd p 2, s2), (padd p 3, s3)] (hw2 _ w2.2) (of_decide_eq_true rfl)) rfl (fun S3 w3 v => ?_) (fun v S2 hbig => ?_)
   | refine Opl.callW w3 rfl (by kernel_rfl) (wlist9 w3.1 (by kernel_rfl) (w3.2.src f4) hv4 hl4 (EncL.el (by decide) (IH d4 hd4) hel4)) rfl (fun S4 w4 v => ?_) (fun v S2 hbig => ?_)
   | refine Opl.callW w4 rfl (by kernel_rfl) (wlist30 w4.1 (by kernel_rfl) (w4.2.src f5) hv5 hl5 (EncL.el (by decide) (IH d5 hd5) hel5)) rfl (fun S5 w5 v => ?_) (fun v S2 hbig => ?_)
   | refine Opl.callW w5 rfl (by kernel_rfl) (wlist241 w5.1 (by kernel_rfl) (w5.2.src f6) hv6 hl6 (EncL.el (by decide) (IH d6 hd6) hel6)) rfl (fun S6 w6 v => ?_) (fun v S2 hbig => ?_)
   | refine At.fnp rfl ?_
   | refine At.fn rfl rfl rfl ?_
   | refine .std ?_ | refine .nil ?_ | refine .seq ?_ | refine .region ?_ | refine .xs ?_ | refine .kb ?_ | refine .leaf ?_ | refine .block ?_ | refine .gn ?_ | refine .dr ?_ | fail
  all_goals first
    | exact Big.of_le (by assumption) (by simp only [List.length_append, List.flatMap_cons, List.flatMap_nil, List.length_nil]; omega)
    | exact ⟨trivial, by simpa [List.flatMap_cons] using w6⟩

theorem wr12 {d : Nat} (IH : ∀ d', d' < d → WAll d') {S : St} {c : Nat} {buf : List UInt8} (h : CodW S c buf) {p : V} {cs : List V} {bs : List UInt8} (he : EncF d (sch 12) cs bs) (hp : Src S c p cs) :
    WrTo 125 [.ptr c 0, p] S c buf bs (fun _ => True) := by
  obtain ⟨s0, c0, b0, hs0, rfl, rfl, he0⟩ := EncF.invS he
  obtain ⟨d1, v1, l1, c1, b1, hd1, hv1, hl1, hel1, rfl, rfl, he1⟩ := EncF.invL he0
  obtain ⟨d2, x2, l2, c2, b2, hd2, hx2, hxl2, rfl, rfl, he2⟩ := EncF.invT he1
  obtain ⟨rfl, rfl⟩ := EncF.invN he2
  have hpt := hp.pt
  have hisp := hpt.isP
  have w0 : Wrote S c buf [] S := ⟨by simpa using h, KeepB.refl _ _⟩
  refine CallTo.of (n := 20) Tryz.func125 rfl rfl ?_
  have f0 : Src S c (padd p 0) [.str s0] := hp.at 0 rfl
  have f1 : Src S c (padd p 1) [v1] := hp.at 1 rfl
  have f2 : Src S c (padd p 2) x2 := hp.sub 2 fun i v hi => by
    have hlt := (List.getElem?_eq_some_iff.1 hi).1
    simp only [szs] at hxl2
    simp [List.getElem?_append, List.getElem?_cons, hxl2]
    try (first | exact hi | (rw [if_pos (by omega)]; exact hi) | (split <;> first | omega | exact hi | (split <;> first | omega | exact hi)))
  have hb0 : buildSliceE Tryz.prog 233 1 [(0, padd p 0)] = some (.list (some 136) 1 [padd p 0] .exact) := by
    cases p <;> first | (cases hisp; done) | kernel_rfl
  have hw0 : ∀ S', KeepB S S' c → ∀ w ∈ [(padd p 0, s0)], Src S' c w.1 [.str w.2] ∧ w.2.length < 4611686018427387904 := by
    intro S' kk w hw
    simp only [List.mem_cons, List.not_mem_nil, or_false] at hw
    subst hw; exact ⟨kk.src f0, hs0⟩
  repeat' first
   | refine Opl.val (op_buildSlice1 rfl hb0) rfl ?_
   | refine Opl.callW w0 rfl (by kernel_rfl) (CodW.strings w0.1 _ _ [(padd p 0, s0)] (hw0 _ w0.2) (of_decide_eq_true rfl)) rfl (fun S1 w1 v => ?_) (fun v S2 hbig => ?_)
   | refine Opl.callW w1 rfl (by kernel_rfl) (wlist9 w1.1 (by kernel_rfl) (w1.2.src f1) hv1 hl1 (EncL.el (by decide) (IH d1 hd1) hel1)) rfl (fun S2 w2 v => ?_) (fun v S2 hbig => ?_)
   | refine Opl.callW w2 rfl (by kernel_rfl) (IH d2 hd2 11 (by decide) w2.1 hx2 (w2.2.src f2)) rfl (fun S3 w3 v => ?_) (fun v S2 hbig => ?_)
   | refine At.fnp rfl ?_
   | refine At.fn rfl rfl rfl ?_
   | refine .std ?_ | refine .nil ?_ | refine .seq ?_ | refine .region ?_ | refine .xs ?_ | refine .kb ?_ | refine .leaf ?_ | refine .block ?_ | refine .gn ?_ | refine .dr ?_ | fail
  all_goals first
    | exact Big.of_le (by assumption) (by simp only [List.length_append, List.flatMap_cons, List.flatMap_nil, List.length_nil]; omega)
    | exact ⟨trivial, by simpa [List.flatMap_cons] using w3⟩

theorem wr13 {d : Nat} (IH : ∀ d', d' < d → WAll d') {S : St} {c : Nat} {buf : List UInt8} (h : CodW S c buf) {p : V} {cs : List V} {bs : List UInt8} (he : EncF d (sch 13) cs bs) (hp : Src S c p cs) :
    WrTo 64 [.ptr c 0, p] S c buf bs (fun _ => True) := by
  obtain ⟨s0, c0, b0, hs0, rfl, rfl, he0⟩ := EncF.invS he
  obtain ⟨d1, x1, l1, c1, b1, hd1, hx1, hxl1, rfl, rfl, he1⟩ := EncF.invT he0
  obtain ⟨rfl, rfl⟩ := EncF.invN he1
  have hpt := hp.pt
  have hisp := hpt.isP
  have w0 : Wrote S c buf [] S := ⟨by simpa using h, KeepB.refl _ _⟩
  refine CallTo.of (n := 15) Tryz.func64 rfl rfl ?_
  have f0 : Src S c (padd p 0) [.str s0] := hp.at 0 rfl
  have f1 : Src S c (padd p 1) x1 := hp.sub 1 fun i v hi => by
    have hlt := (List.getElem?_eq_some_iff.1 hi).1
    simp only [szs] at hxl1
    simp [List.getElem?_append, List.getElem?_cons, hxl1]
    try (first | exact hi | (rw [if_pos (by omega)]; exact hi) | (split <;> first | omega | exact hi | (split <;> first | omega | exact hi)))
  have hb0 : buildSliceE Tryz.prog 233 1 [(0, padd p 0)] = some (.list (some 136) 1 [padd p 0] .exact) := by
    cases p <;> first | (cases hisp; done) | kernel_rfl
  have hw0 : ∀ S', KeepB S S' c → ∀ w ∈ [(padd p 0, s0)], Src S' c w.1 [.str w.2] ∧ w.2.length < 4611686018427387904 := by
    intro S' kk w hw
    simp only [List.mem_cons, List.not_mem_nil, or_false] at hw
    subst hw; exact ⟨kk.src f0, hs0⟩
  repeat' first
   | refine Opl.val (op_buildSlice1 rfl hb0) rfl ?_
   | refine Opl.callW w0 rfl (by kernel_rfl) (CodW.strings w0.1 _ _ [(padd p 0, s0)] (hw0 _ w0.2) (of_decide_eq_true rfl)) rfl (fun S1 w1 v => ?_) (fun v S2 hbig => ?_)
   | refine Opl.callW w1 rfl (by kernel_rfl) (IH d1 hd1 11 (by decide) w1.1 hx1 (w1.2.src f1)) rfl (fun S2 w2 v => ?_) (fun v S2 hbig => ?_)
   | refine At.fnp rfl ?_
   | refine At.fn rfl rfl rfl ?_
   | refine .std ?_ | refine .nil ?_ | refine .seq ?_ | refine .region ?_ | refine .xs ?_ | refine .kb ?_ | refine .leaf ?_ | refine .block ?_ | refine .gn ?_ | refine .dr ?_ | fail
  all_goals first
    | exact Big.of_le (by assumption) (by simp only [List.length_append, List.flatMap_cons, List.flatMap_nil, List.length_nil]; omega)
    | exact ⟨trivial, by simpa [List.flatMap_cons] using w2⟩

theorem wr14 {d : Nat} (IH : ∀ d', d' < d → WAll d') {S : St} {c : Nat} {buf : List UInt8} (h : CodW S c buf) {p : V} {cs : List V} {bs : List UInt8} (he : EncF d (sch 14) cs bs) (hp : Src S c p cs) :
    WrTo 26 [.ptr c 0, p] S c buf bs (fun _ => True) := by
  obtain ⟨d0, v0, l0, c0, b0, hd0, hv0, hl0, hel0, rfl, rfl, he0⟩ := EncF.invL he
  obtain ⟨d1, v1, l1, c1, b1, hd1, hv1, hl1, hel1, rfl, rfl, he1⟩ := EncF.invL he0
  obtain ⟨d2, v2, l2, c2, b2, hd2, hv2, hl2, hel2, rfl, rfl, he2⟩ := EncF.invL he1
  obtain ⟨d3, x3, l3, c3, b3, hd3, hx3, hxl3, rfl, rfl, he3⟩ := EncF.invT he2
  obtain ⟨rfl, rfl⟩ := EncF.invN he3
  have hpt := hp.pt
  have hisp := hpt.isP
  have w0 : Wrote S c buf [] S := ⟨by simpa using h, KeepB.refl _ _⟩
  refine CallTo.of (n := 24) Tryz.func26 rfl rfl ?_
  have f0 : Src S c (padd p 0) [v0] := hp.at 0 rfl
  have f1 : Src S c (padd p 1) [v1] := hp.at 1 rfl
  have f2 : Src S c (padd p 2) [v2] := hp.at 2 rfl
  have f3 : Src S c (padd p 3) x3 := hp.sub 3 fun i v hi => by
    have hlt := (List.getElem?_eq_some_iff.1 hi).1
    simp only [szs] at hxl3
    simp [List.getElem?_append, List.getElem?_cons, hxl3]
    try (first | exact hi | (rw [if_pos (by omega)]; exact hi) | (split <;> first | omega | exact hi | (split <;> first | omega | exact hi)))
  repeat' first
   | refine Opl.callW w0 rfl (by kernel_rfl) (wlist121 w0.1 (by kernel_rfl) (w0.2.src f0) hv0 hl0 (EncL.el (by decide) (IH d0 hd0) hel0)) rfl (fun S1 w1 v => ?_) (fun v S2 hbig => ?_)
   | refine Opl.callW w1 rfl (by kernel_rfl) (wlist127 w1.1 (by kernel_rfl) (w1.2.src f1) hv1 hl1 (EncL.el (by decide) (IH d1 hd1) hel1)) rfl (fun S2 w2 v => ?_) (fun v S2 hbig => ?_)
   | refine Opl.callW w2 rfl (by kernel_rfl) (wlist132 w2.1 (by kernel_rfl) (w2.2.src f2) hv2 hl2 (EncL.el (by decide) (IH d2 hd2) hel2)) rfl (fun S3 w3 v => ?_) (fun v S2 hbig => ?_)
   | refine Opl.callW w3 rfl (by kernel_rfl) (IH d3 hd3 11 (by decide) w3.1 hx3 (w3.2.src f3)) rfl (fun S4 w4 v => ?_) (fun v S2 hbig => ?_)
   | refine At.fnp rfl ?_
   | refine At.fn rfl rfl rfl ?_
   | refine .std ?_ | refine .nil ?_ | refine .seq ?_ | refine .region ?_ | refine .xs ?_ | refine .kb ?_ | refine .leaf ?_ | refine .block ?_ | refine .gn ?_ | refine .dr ?_ | fail
  all_goals first
    | exact Big.of_le (by assumption) (by simp only [List.length_append, List.flatMap_cons, List.flatMap_nil, List.length_nil]; omega)
    | exact ⟨trivial, by simpa [List.flatMap_cons] using w4⟩

theorem wr15 {d : Nat} (IH : ∀ d', d' < d → WAll d') {S : St} {c : Nat} {buf : List UInt8} (h : CodW S c buf) {p : V} {cs : List V} {bs : List UInt8} (he : EncF d (sch 15) cs bs) (hp : Src S c p cs) :
    WrTo 30 [.ptr c 0, p] S c buf bs (fun _ => True) := by
  obtain ⟨d0, v0, l0, c0, b0, hd0, hv0, hl0, hel0, rfl, rfl, he0⟩ := EncF.invL he
  obtain ⟨d1, v1, l1, c1, b1, hd1, hv1, hl1, hel1, rfl, rfl, he1⟩ := EncF.invL he0
  obtain ⟨d2, v2, l2, c2, b2, hd2, hv2, hl2, hel2, rfl, rfl, he2⟩ := EncF.invL he1
  obtain ⟨rfl, rfl⟩ := EncF.invN he2
  have hpt := hp.pt
  have hisp := hpt.isP
  have w0 : Wrote S c buf [] S := ⟨by simpa using h, KeepB.refl _ _⟩
  refine CallTo.of (n := 19) Tryz.func30 rfl rfl ?_
  have f0 : Src S c (padd p 0) [v0] := hp.at 0 rfl
  have f1 : Src S c (padd p 1) [v1] := hp.at 1 rfl
  have f2 : Src S c (padd p 2) [v2] := hp.at 2 rfl
  repeat' first
   | refine Opl.callW w0 rfl (by kernel_rfl) (wlist121 w0.1 (by kernel_rfl) (w0.2.src f0) hv0 hl0 (EncL.el (by decide) (IH d0 hd0) hel0)) rfl (fun S1 w1 v => ?_) (fun v S2 hbig => ?_)
   | refine Opl.callW w1 rfl (by kernel_rfl) (wlist127 w1.1 (by kernel_rfl) (w1.2.src f1) hv1 hl1 (EncL.el (by decide) (IH d1 hd1) hel1)) rfl (fun S2 w2 v => ?_) (fun v S2 hbig => ?_)
   | refine Opl.callW w2 rfl (by kernel_rfl) (wlist148 w2.1 (by kernel_rfl) (w2.2.src f2) hv2 hl2 (EncL.el (by decide) (IH d2 hd2) hel2)) rfl (fun S3 w3 v => ?_) (fun v S2 hbig => ?_)
   | refine At.fnp rfl ?_
   | refine At.fn rfl rfl rfl ?_
   | refine .std ?_ | refine .nil ?_ | refine .seq ?_ | refine .region ?_ | refine .xs ?_ | refine .kb ?_ | refine .leaf ?_ | refine .block ?_ | refine .gn ?_ | refine .dr ?_ | fail
  all_goals first
    | exact Big.of_le (by assumption) (by simp only [List.length_append, List.flatMap_cons, List.flatMap_nil, List.length_nil]; omega)
    | exact ⟨trivial, by simpa [List.flatMap_cons] using w3⟩

theorem wr16 {d : Nat} (IH : ∀ d', d' < d → WAll d') {S : St} {c : Nat} {buf : List UInt8} (h : CodW S c buf) {p : V} {cs : List V} {bs : List UInt8} (he : EncF d (sch 16) cs bs) (hp : Src S c p cs) :
    WrTo 76 [.ptr c 0, p] S c buf bs (fun _ => True) := by
  obtain ⟨n0, c0, b0, hn0, rfl, rfl, he0⟩ := EncF.invI he
  obtain ⟨n1, c1, b1, hn1, rfl, rfl, he1⟩ := EncF.invI he0
  obtain ⟨n2, c2, b2, hn2, rfl, rfl, he2⟩ := EncF.invI he1
  obtain ⟨q3, c3, b3, rfl, rfl, he3⟩ := EncF.invB he2
  obtain ⟨d4, v4, l4, c4, b4, hd4, hv4, hl4, hel4, rfl, rfl, he4⟩ := EncF.invL he3
  obtain ⟨rfl, rfl⟩ := EncF.invN he4
  have hpt := hp.pt
  have hisp := hpt.isP
  have w0 : Wrote S c buf [] S := ⟨by simpa using h, KeepB.refl _ _⟩
  refine CallTo.of (n := 27) Tryz.func76 rfl rfl ?_
  have f0 : Src S c (padd p 0) [.int .i64 n0] := hp.at 0 rfl
  have f1 : Src S c (padd p 1) [.int .i64 n1] := hp.at 1 rfl
  have f2 : Src S c (padd p 2) [.int .i64 n2] := hp.at 2 rfl
  have f3 : Src S c (padd p 3) [.bool q3] := hp.at 3 rfl
  have f4 : Src S c (padd p 4) [v4] := hp.at 4 rfl
  have hb0 : buildSliceE Tryz.prog 249 3 [(0, padd p 0), (1, padd p 1), (2, padd p 2)] = some (.list (some 152) 1 [padd p 0, padd p 1, padd p 2] .exact) := by
    cases p <;> first | (cases hisp; done) | kernel_rfl
  have hw0 : ∀ S', KeepB S S' c → ∀ w ∈ [(padd p 0, n0), (padd p 1, n1), (padd p 2, n2)], Src S' c w.1 [.int .i64 w.2] ∧ in64 w.2 := by
    intro S' kk w hw
    simp only [List.mem_cons, List.not_mem_nil, or_false] at hw
    rcases hw with rfl | rfl | rfl
    · exact ⟨kk.src f0, hn0⟩
    · exact ⟨kk.src f1, hn1⟩
    · exact ⟨kk.src f2, hn2⟩
  have hb1 : buildSliceE Tryz.prog 250 1 [(0, padd p 3)] = some (.list (some 154) 1 [padd p 3] .exact) := by
    cases p <;> first | (cases hisp; done) | kernel_rfl
  have hw1 : ∀ S', KeepB S S' c → ∀ w ∈ [(padd p 3, q3)], Src S' c w.1 [.bool w.2] := by
    intro S' kk w hw
    simp only [List.mem_cons, List.not_mem_nil, or_false] at hw
    subst hw; exact kk.src f3
  repeat' first
   | refine Opl.val (op_bs3 rfl rfl rfl hb0) rfl ?_
   | refine Opl.callW w0 rfl (by kernel_rfl) (CodW.ints w0.1 _ _ [(padd p 0, n0), (padd p 1, n1), (padd p 2, n2)] (hw0 _ w0.2) (of_decide_eq_true rfl)) rfl (fun S1 w1 v => ?_) (fun v S2 hbig => ?_)
   | refine Opl.val (op_buildSlice1 rfl hb1) rfl ?_
   | refine Opl.callW w1 rfl (by kernel_rfl) (CodW.bools w1.1 _ _ [(padd p 3, q3)] (hw1 _ w1.2) (of_decide_eq_true rfl)) rfl (fun S2 w2 v => ?_) (fun v S2 hbig => ?_)
   | refine Opl.callW w2 rfl (by kernel_rfl) (wlist158 w2.1 (by kernel_rfl) (w2.2.src f4) hv4 hl4 (EncL.el (by decide) (IH d4 hd4) hel4)) rfl (fun S3 w3 v => ?_) (fun v S2 hbig => ?_)
   | refine At.fnp rfl ?_
   | refine At.fn rfl rfl rfl ?_
   | refine .std ?_ | refine .nil ?_ | refine .seq ?_ | refine .region ?_ | refine .xs ?_ | refine .kb ?_ | refine .leaf ?_ | refine .block ?_ | refine .gn ?_ | refine .dr ?_ | fail
  all_goals first
    | exact Big.of_le (by assumption) (by simp only [List.length_append, List.flatMap_cons, List.flatMap_nil, List.length_nil]; omega)
    | exact ⟨trivial, by simpa [List.flatMap_cons] using w3⟩

theorem wr17 {d : Nat} (IH : ∀ d', d' < d → WAll d') {S : St} {c : Nat} {buf : List UInt8} (h : CodW S c buf) {p : V} {cs : List V} {bs : List UInt8} (he : EncF d (sch 17) cs bs) (hp : Src S c p cs) :
    WrTo 80 [.ptr c 0, p] S c buf bs (fun _ => True) := by
  obtain ⟨n0, c0, b0, hn0, rfl, rfl, he0⟩ := EncF.invI he
  obtain ⟨n1, c1, b1, hn1, rfl, rfl, he1⟩ := EncF.invI he0
  obtain ⟨n2, c2, b2, hn2, rfl, rfl, he2⟩ := EncF.invI he1
  obtain ⟨s3, c3, b3, hs3, rfl, rfl, he3⟩ := EncF.invS he2
  obtain ⟨rfl, rfl⟩ := EncF.invN he3
  have hpt := hp.pt
  have hisp := hpt.isP
  have w0 : Wrote S c buf [] S := ⟨by simpa using h, KeepB.refl _ _⟩
  refine CallTo.of (n := 24) Tryz.func80 rfl rfl ?_
  have f0 : Src S c (padd p 0) [.int .i64 n0] := hp.at 0 rfl
  have f1 : Src S c (padd p 1) [.int .i64 n1] := hp.at 1 rfl
  have f2 : Src S c (padd p 2) [.int .i64 n2] := hp.at 2 rfl
  have f3 : Src S c (padd p 3) [.str s3] := hp.at 3 rfl
  have hb1 : buildSliceE Tryz.prog 249 2 [(0, padd p 1), (1, padd p 2)] = some (.list (some 152) 1 [padd p 1, padd p 2] .exact) := by
    cases p <;> first | (cases hisp; done) | kernel_rfl
  have hw1 : ∀ S', KeepB S S' c → ∀ w ∈ [(padd p 1, n1), (padd p 2, n2)], Src S' c w.1 [.int .i64 w.2] ∧ in64 w.2 := by
    intro S' kk w hw
    simp only [List.mem_cons, List.not_mem_nil, or_false] at hw
    rcases hw with rfl | rfl
    · exact ⟨kk.src f1, hn1⟩
    · exact ⟨kk.src f2, hn2⟩
  have hb2 : buildSliceE Tryz.prog 233 1 [(0, padd p 3)] = some (.list (some 136) 1 [padd p 3] .exact) := by
    cases p <;> first | (cases hisp; done) | kernel_rfl
  have hw2 : ∀ S', KeepB S S' c → ∀ w ∈ [(padd p 3, s3)], Src S' c w.1 [.str w.2] ∧ w.2.length < 4611686018427387904 := by
    intro S' kk w hw
    simp only [List.mem_cons, List.not_mem_nil, or_false] at hw
    subst hw; exact ⟨kk.src f3, hs3⟩
  repeat' first
   | refine Opl.callW w0 rfl (by kernel_rfl) (CodW.kindOpcode w0.1 (w0.2.src f0) hn0) rfl (fun S1 w1 v => ?_) (fun v S2 hbig => ?_)
   | refine Opl.val (op_bs2 rfl rfl hb1) rfl ?_
   | refine Opl.callW w1 rfl (by kernel_rfl) (CodW.ints w1.1 _ _ [(padd p 1, n1), (padd p 2, n2)] (hw1 _ w1.2) (of_decide_eq_true rfl)) rfl (fun S2 w2 v => ?_) (fun v S2 hbig => ?_)
   | refine Opl.val (op_buildSlice1 rfl hb2) rfl ?_
   | refine Opl.callW w2 rfl (by kernel_rfl) (CodW.strings w2.1 _ _ [(padd p 3, s3)] (hw2 _ w2.2) (of_decide_eq_true rfl)) rfl (fun S3 w3 v => ?_) (fun v S2 hbig => ?_)
   | refine At.fnp rfl ?_
   | refine At.fn rfl rfl rfl ?_
   | refine .std ?_ | refine .nil ?_ | refine .seq ?_ | refine .region ?_ | refine .xs ?_ | refine .kb ?_ | refine .leaf ?_ | refine .block ?_ | refine .gn ?_ | refine .dr ?_ | fail
  all_goals first
    | exact Big.of_le (by assumption) (by simp only [List.length_append, List.flatMap_cons, List.flatMap_nil, List.length_nil]; omega)
    | exact ⟨trivial, by simpa [List.flatMap_cons] using w3⟩

theorem wr18 {d : Nat} (IH : ∀ d', d' < d → WAll d') {S : St} {c : Nat} {buf : List UInt8} (h : CodW S c buf) {p : V} {cs : List V} {bs : List UInt8} (he : EncF d (sch 18) cs bs) (hp : Src S c p cs) :
    WrTo 140 [.ptr c 0, p] S c buf bs (fun _ => True) := by
  obtain ⟨s0, c0, b0, hs0, rfl, rfl, he0⟩ := EncF.invS he
  obtain ⟨n1, c1, b1, hn1, rfl, rfl, he1⟩ := EncF.invI he0
  obtain ⟨n2, c2, b2, hn2, rfl, rfl, he2⟩ := EncF.invI he1
  obtain ⟨rfl, rfl⟩ := EncF.invN he2
  have hpt := hp.pt
  have hisp := hpt.isP
  have w0 : Wrote S c buf [] S := ⟨by simpa using h, KeepB.refl _ _⟩
  refine CallTo.of (n := 19) Tryz.func140 rfl rfl ?_
  have f0 : Src S c (padd p 0) [.str s0] := hp.at 0 rfl
  have f1 : Src S c (padd p 1) [.int .i64 n1] := hp.at 1 rfl
  have f2 : Src S c (padd p 2) [.int .i64 n2] := hp.at 2 rfl
  have hb0 : buildSliceE Tryz.prog 233 1 [(0, padd p 0)] = some (.list (some 136) 1 [padd p 0] .exact) := by
    cases p <;> first | (cases hisp; done) | kernel_rfl
  have hw0 : ∀ S', KeepB S S' c → ∀ w ∈ [(padd p 0, s0)], Src S' c w.1 [.str w.2] ∧ w.2.length < 4611686018427387904 := by
    intro S' kk w hw
    simp only [List.mem_cons, List.not_mem_nil, or_false] at hw
    subst hw; exact ⟨kk.src f0, hs0⟩
  have hb1 : buildSliceE Tryz.prog 249 2 [(0, padd p 1), (1, padd p 2)] = some (.list (some 152) 1 [padd p 1, padd p 2] .exact) := by
    cases p <;> first | (cases hisp; done) | kernel_rfl
  have hw1 : ∀ S', KeepB S S' c → ∀ w ∈ [(padd p 1, n1), (padd p 2, n2)], Src S' c w.1 [.int .i64 w.2] ∧ in64 w.2 := by
    intro S' kk w hw
    simp only [List.mem_cons, List.not_mem_nil, or_false] at hw
    rcases hw with rfl | rfl
    · exact ⟨kk.src f1, hn1⟩
    · exact ⟨kk.src f2, hn2⟩
  repeat' first
   | refine Opl.val (op_buildSlice1 rfl hb0) rfl ?_
   | refine Opl.callW w0 rfl (by kernel_rfl) (CodW.strings w0.1 _ _ [(padd p 0, s0)] (hw0 _ w0.2) (of_decide_eq_true rfl)) rfl (fun S1 w1 v => ?_) (fun v S2 hbig => ?_)
   | refine Opl.val (op_bs2 rfl rfl hb1) rfl ?_
   | refine Opl.callW w1 rfl (by kernel_rfl) (CodW.ints w1.1 _ _ [(padd p 1, n1), (padd p 2, n2)] (hw1 _ w1.2) (of_decide_eq_true rfl)) rfl (fun S2 w2 v => ?_) (fun v S2 hbig => ?_)
   | refine At.fnp rfl ?_
   | refine At.fn rfl rfl rfl ?_
   | refine .std ?_ | refine .nil ?_ | refine .seq ?_ | refine .region ?_ | refine .xs ?_ | refine .kb ?_ | refine .leaf ?_ | refine .block ?_ | refine .gn ?_ | refine .dr ?_ | fail
  all_goals first
    | exact Big.of_le (by assumption) (by simp only [List.length_append, List.flatMap_cons, List.flatMap_nil, List.length_nil]; omega)
    | exact ⟨trivial, by simpa [List.flatMap_cons] using w2⟩

theorem wr19 {d : Nat} (IH : ∀ d', d' < d → WAll d') {S : St} {c : Nat} {buf : List UInt8} (h : CodW S c buf) {p : V} {cs : List V} {bs : List UInt8} (he : EncF d (sch 19) cs bs) (hp : Src S c p cs) :
    WrTo 100 [.ptr c 0, p] S c buf bs (fun _ => True) := by
  obtain ⟨n0, c0, b0, hn0, rfl, rfl, he0⟩ := EncF.invI he
  obtain ⟨s1, c1, b1, hs1, rfl, rfl, he1⟩ := EncF.invS he0
  obtain ⟨d2, v2, l2, c2, b2, hd2, hv2, hl2, hel2, rfl, rfl, he2⟩ := EncF.invL he1
  obtain ⟨n3, c3, b3, hn3, rfl, rfl, he3⟩ := EncF.invI he2
  obtain ⟨n4, c4, b4, hn4, rfl, rfl, he4⟩ := EncF.invI he3
  obtain ⟨n5, c5, b5, hn5, rfl, rfl, he5⟩ := EncF.invI he4
  obtain ⟨rfl, rfl⟩ := EncF.invN he5
  have hpt := hp.pt
  have hisp := hpt.isP
  have w0 : Wrote S c buf [] S := ⟨by simpa using h, KeepB.refl _ _⟩
  refine CallTo.of (n := 32) Tryz.func100 rfl rfl ?_
  have f0 : Src S c (padd p 0) [.int .i64 n0] := hp.at 0 rfl
  have f1 : Src S c (padd p 1) [.str s1] := hp.at 1 rfl
  have f2 : Src S c (padd p 2) [v2] := hp.at 2 rfl
  have f3 : Src S c (padd p 3) [.int .i64 n3] := hp.at 3 rfl
  have f4 : Src S c (padd p 4) [.int .i64 n4] := hp.at 4 rfl
  have f5 : Src S c (padd p 5) [.int .i64 n5] := hp.at 5 rfl
  have hb1 : buildSliceE Tryz.prog 233 1 [(0, padd p 1)] = some (.list (some 136) 1 [padd p 1] .exact) := by
    cases p <;> first | (cases hisp; done) | kernel_rfl
  have hw1 : ∀ S', KeepB S S' c → ∀ w ∈ [(padd p 1, s1)], Src S' c w.1 [.str w.2] ∧ w.2.length < 4611686018427387904 := by
    intro S' kk w hw
    simp only [List.mem_cons, List.not_mem_nil, or_false] at hw
    subst hw; exact ⟨kk.src f1, hs1⟩
  have hb3 : buildSliceE Tryz.prog 249 3 [(0, padd p 3), (1, padd p 4), (2, padd p 5)] = some (.list (some 152) 1 [padd p 3, padd p 4, padd p 5] .exact) := by
    cases p <;> first | (cases hisp; done) | kernel_rfl
  have hw3 : ∀ S', KeepB S S' c → ∀ w ∈ [(padd p 3, n3), (padd p 4, n4), (padd p 5, n5)], Src S' c w.1 [.int .i64 w.2] ∧ in64 w.2 := by
    intro S' kk w hw
    simp only [List.mem_cons, List.not_mem_nil, or_false] at hw
    rcases hw with rfl | rfl | rfl
    · exact ⟨kk.src f3, hn3⟩
    · exact ⟨kk.src f4, hn4⟩
    · exact ⟨kk.src f5, hn5⟩
  repeat' first
   | refine Opl.callW w0 rfl (by kernel_rfl) (CodW.kindEnd w0.1 (w0.2.src f0) hn0) rfl (fun S1 w1 v => ?_) (fun v S2 hbig => ?_)
   | refine Opl.val (op_buildSlice1 rfl hb1) rfl ?_
   | refine Opl.callW w1 rfl (by kernel_rfl) (CodW.strings w1.1 _ _ [(padd p 1, s1)] (hw1 _ w1.2) (of_decide_eq_true rfl)) rfl (fun S2 w2 v => ?_) (fun v S2 hbig => ?_)
   | refine Opl.callW w2 rfl (by kernel_rfl) (wlist192 w2.1 (by kernel_rfl) (w2.2.src f2) hv2 hl2 (EncL.el (by decide) (IH d2 hd2) hel2)) rfl (fun S3 w3 v => ?_) (fun v S2 hbig => ?_)
   | refine Opl.val (op_bs3 rfl rfl rfl hb3) rfl ?_
   | refine Opl.callW w3 rfl (by kernel_rfl) (CodW.ints w3.1 _ _ [(padd p 3, n3), (padd p 4, n4), (padd p 5, n5)] (hw3 _ w3.2) (of_decide_eq_true rfl)) rfl (fun S4 w4 v => ?_) (fun v S2 hbig => ?_)
   | refine At.fnp rfl ?_
   | refine At.fn rfl rfl rfl ?_
   | refine .std ?_ | refine .nil ?_ | refine .seq ?_ | refine .region ?_ | refine .xs ?_ | refine .kb ?_ | refine .leaf ?_ | refine .block ?_ | refine .gn ?_ | refine .dr ?_ | fail
  all_goals first
    | exact Big.of_le (by assumption) (by simp only [List.length_append, List.flatMap_cons, List.flatMap_nil, List.length_nil]; omega)
    | exact ⟨trivial, by simpa [List.flatMap_cons] using w4⟩

theorem wr20 {d : Nat} (IH : ∀ d', d' < d → WAll d') {S : St} {c : Nat} {buf : List UInt8} (h : CodW S c buf) {p : V} {cs : List V} {bs : List UInt8} (he : EncF d (sch 20) cs bs) (hp : Src S c p cs) :
    WrTo 44 [.ptr c 0, p] S c buf bs (fun _ => True) := by
  obtain ⟨d0, v0, l0, c0, b0, hd0, hv0, hl0, hel0, rfl, rfl, he0⟩ := EncF.invL he
  obtain ⟨d1, v1, l1, c1, b1, hd1, hv1, hl1, hel1, rfl, rfl, he1⟩ := EncF.invL he0
  obtain ⟨n2, c2, b2, hn2, rfl, rfl, he2⟩ := EncF.invI he1
  obtain ⟨d3, x3, l3, c3, b3, hd3, hx3, hxl3, rfl, rfl, he3⟩ := EncF.invT he2
  obtain ⟨q4, c4, b4, rfl, rfl, he4⟩ := EncF.invB he3
  obtain ⟨rfl, rfl⟩ := EncF.invN he4
  have hpt := hp.pt
  have hisp := hpt.isP
  have w0 : Wrote S c buf [] S := ⟨by simpa using h, KeepB.refl _ _⟩
  refine CallTo.of (n := 31) Tryz.func44 rfl rfl ?_
  have f0 : Src S c (padd p 0) [v0] := hp.at 0 rfl
  have f1 : Src S c (padd p 1) [v1] := hp.at 1 rfl
  have f2 : Src S c (padd p 2) [.int .i64 n2] := hp.at 2 rfl
  have f3 : Src S c (padd p 3) x3 := hp.sub 3 fun i v hi => by
    have hlt := (List.getElem?_eq_some_iff.1 hi).1
    simp only [szs] at hxl3
    simp [List.getElem?_append, List.getElem?_cons, hxl3]
    try (first | exact hi | (rw [if_pos (by omega)]; exact hi) | (split <;> first | omega | exact hi | (split <;> first | omega | exact hi)))
  have f4 : Src S c (padd p 9) [.bool q4] := hp.at 9 (by simp only [szs] at hxl3; simp [List.getElem?_append, List.getElem?_cons, hxl3])
  have hb2 : buildSliceE Tryz.prog 249 1 [(0, padd p 2)] = some (.list (some 152) 1 [padd p 2] .exact) := by
    cases p <;> first | (cases hisp; done) | kernel_rfl
  have hw2 : ∀ S', KeepB S S' c → ∀ w ∈ [(padd p 2, n2)], Src S' c w.1 [.int .i64 w.2] ∧ in64 w.2 := by
    intro S' kk w hw
    simp only [List.mem_cons, List.not_mem_nil, or_false] at hw
    subst hw; exact ⟨kk.src f2, hn2⟩
  have hb4 : buildSliceE Tryz.prog 250 1 [(0, padd p 9)] = some (.list (some 154) 1 [padd p 9] .exact) := by
    cases p <;> first | (cases hisp; done) | kernel_rfl
  have hw4 : ∀ S', KeepB S S' c → ∀ w ∈ [(padd p 9, q4)], Src S' c w.1 [.bool w.2] := by
    intro S' kk w hw
    simp only [List.mem_cons, List.not_mem_nil, or_false] at hw
    subst hw; exact kk.src f4
  repeat' first
   | refine Opl.callW w0 rfl (by kernel_rfl) (wlist181 w0.1 (by kernel_rfl) (w0.2.src f0) hv0 hl0 (EncL.el (by decide) (IH d0 hd0) hel0)) rfl (fun S1 w1 v => ?_) (fun v S2 hbig => ?_)
   | refine Opl.callW w1 rfl (by kernel_rfl) (wlist3 w1.1 (by kernel_rfl) (w1.2.src f1) hv1 hl1 (EncL.el (by decide) (IH d1 hd1) hel1)) rfl (fun S2 w2 v => ?_) (fun v S2 hbig => ?_)
   | refine Opl.val (op_buildSlice1 rfl hb2) rfl ?_
   | refine Opl.callW w2 rfl (by kernel_rfl) (CodW.ints w2.1 _ _ [(padd p 2, n2)] (hw2 _ w2.2) (of_decide_eq_true rfl)) rfl (fun S3 w3 v => ?_) (fun v S2 hbig => ?_)
   | refine Opl.callW w3 rfl (by kernel_rfl) (IH d3 hd3 19 (by decide) w3.1 hx3 (w3.2.src f3)) rfl (fun S4 w4 v => ?_) (fun v S2 hbig => ?_)
   | refine Opl.val (op_buildSlice1 rfl hb4) rfl ?_
   | refine Opl.callW w4 rfl (by kernel_rfl) (CodW.bools w4.1 _ _ [(padd p 9, q4)] (hw4 _ w4.2) (of_decide_eq_true rfl)) rfl (fun S5 w5 v => ?_) (fun v S2 hbig => ?_)
   | refine At.fnp rfl ?_
   | refine At.fn rfl rfl rfl ?_
   | refine .std ?_ | refine .nil ?_ | refine .seq ?_ | refine .region ?_ | refine .xs ?_ | refine .kb ?_ | refine .leaf ?_ | refine .block ?_ | refine .gn ?_ | refine .dr ?_ | fail
  all_goals first
    | exact Big.of_le (by assumption) (by simp only [List.length_append, List.flatMap_cons, List.flatMap_nil, List.length_nil]; omega)
    | exact ⟨trivial, by simpa [List.flatMap_cons] using w5⟩

end Go.Proofs.YtilldjgagokcfaaGreat
