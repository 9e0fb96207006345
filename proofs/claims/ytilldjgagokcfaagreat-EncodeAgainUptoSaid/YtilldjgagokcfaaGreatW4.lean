/-
  The writer: kinds, truth values, lists.
-/
import Derived.Test.YtilldjgagokcfaaGreatW3
import Derived.Test.YtilldjgagokcfaaGreatE9
set_option linter.unusedVariables false
set_option linter.unusedSimpArgs false
namespace Go.Proofs.YtilldjgagokcfaaGreat
open Go.RowKit Go.Ev
set_option maxRecDepth 100000
set_option linter.unusedVariables false

theorem CodW.kindValueKind {S : St} {c : Nat} {buf : List UInt8} (h : CodW S c buf) {p : V} {n : Int} (hp : Src S c p [.int .i64 n]) (hn : in64 n) :
    WrTo 105 [.ptr c 0, p] S c buf (encI n) (fun _ => True) := by
  refine CallTo.of (n := 17) Tryz.func105 rfl rfl ?_
  have hpt := hp.pt
  have hisp := hpt.isP
  repeat' first
   | refine Opl.val (op_load rfl (CodW.ldReads (And.left (by assumption)))) rfl ?_
   | refine Opl.callv rfl (by kernel_rfl) (h.int n hn) rfl (fun S2 w2 => ?_) (fun v S2 hbig => ?_)
   | refine Go.condF rfl ?_
   | refine At.fnp rfl ?_
   | refine At.fn rfl rfl rfl ?_
   | refine .std ?_ | refine .nil ?_ | refine .seq ?_ | refine .region ?_ | refine .xs ?_ | refine .kb ?_ | refine .leaf ?_ | refine .block ?_ | refine .gn ?_ | refine .dr ?_ | fail
  · exact ⟨trivial, w2⟩
  · exact hbig

theorem CodW.kindSegKind {S : St} {c : Nat} {buf : List UInt8} (h : CodW S c buf) {p : V} {n : Int} (hp : Src S c p [.int .i64 n]) (hn : in64 n) :
    WrTo 135 [.ptr c 0, p] S c buf (encI n) (fun _ => True) := by
  refine CallTo.of (n := 17) Tryz.func135 rfl rfl ?_
  have hpt := hp.pt
  have hisp := hpt.isP
  repeat' first
   | refine Opl.val (op_load rfl (CodW.ldReads (And.left (by assumption)))) rfl ?_
   | refine Opl.callv rfl (by kernel_rfl) (h.int n hn) rfl (fun S2 w2 => ?_) (fun v S2 hbig => ?_)
   | refine Go.condF rfl ?_
   | refine At.fnp rfl ?_
   | refine At.fn rfl rfl rfl ?_
   | refine .std ?_ | refine .nil ?_ | refine .seq ?_ | refine .region ?_ | refine .xs ?_ | refine .kb ?_ | refine .leaf ?_ | refine .block ?_ | refine .gn ?_ | refine .dr ?_ | fail
  · exact ⟨trivial, w2⟩
  · exact hbig

theorem CodW.kindOpcode {S : St} {c : Nat} {buf : List UInt8} (h : CodW S c buf) {p : V} {n : Int} (hp : Src S c p [.int .i64 n]) (hn : in64 n) :
    WrTo 81 [.ptr c 0, p] S c buf (encI n) (fun _ => True) := by
  refine CallTo.of (n := 17) Tryz.func81 rfl rfl ?_
  have hpt := hp.pt
  have hisp := hpt.isP
  repeat' first
   | refine Opl.val (op_load rfl (CodW.ldReads (And.left (by assumption)))) rfl ?_
   | refine Opl.callv rfl (by kernel_rfl) (h.int n hn) rfl (fun S2 w2 => ?_) (fun v S2 hbig => ?_)
   | refine Go.condF rfl ?_
   | refine At.fnp rfl ?_
   | refine At.fn rfl rfl rfl ?_
   | refine .std ?_ | refine .nil ?_ | refine .seq ?_ | refine .region ?_ | refine .xs ?_ | refine .kb ?_ | refine .leaf ?_ | refine .block ?_ | refine .gn ?_ | refine .dr ?_ | fail
  · exact ⟨trivial, w2⟩
  · exact hbig

theorem CodW.kindEnd {S : St} {c : Nat} {buf : List UInt8} (h : CodW S c buf) {p : V} {n : Int} (hp : Src S c p [.int .i64 n]) (hn : in64 n) :
    WrTo 138 [.ptr c 0, p] S c buf (encI n) (fun _ => True) := by
  refine CallTo.of (n := 17) Tryz.func138 rfl rfl ?_
  have hpt := hp.pt
  have hisp := hpt.isP
  repeat' first
   | refine Opl.val (op_load rfl (CodW.ldReads (And.left (by assumption)))) rfl ?_
   | refine Opl.callv rfl (by kernel_rfl) (h.int n hn) rfl (fun S2 w2 => ?_) (fun v S2 hbig => ?_)
   | refine Go.condF rfl ?_
   | refine At.fnp rfl ?_
   | refine At.fn rfl rfl rfl ?_
   | refine .std ?_ | refine .nil ?_ | refine .seq ?_ | refine .region ?_ | refine .xs ?_ | refine .kb ?_ | refine .leaf ?_ | refine .block ?_ | refine .gn ?_ | refine .dr ?_ | fail
  · exact ⟨trivial, w2⟩
  · exact hbig

theorem CodW.kindKind {S : St} {c : Nat} {buf : List UInt8} (h : CodW S c buf) {p : V} {n : Int} (hp : Src S c p [.int .i64 n]) (hn : in64 n) :
    WrTo 122 [.ptr c 0, p] S c buf (encI n) (fun _ => True) := by
  refine CallTo.of (n := 17) Tryz.func122 rfl rfl ?_
  have hpt := hp.pt
  have hisp := hpt.isP
  repeat' first
   | refine Opl.val (op_load rfl (CodW.ldReads (And.left (by assumption)))) rfl ?_
   | refine Opl.callv rfl (by kernel_rfl) (h.int n hn) rfl (fun S2 w2 => ?_) (fun v S2 hbig => ?_)
   | refine Go.condF rfl ?_
   | refine At.fnp rfl ?_
   | refine At.fn rfl rfl rfl ?_
   | refine .std ?_ | refine .nil ?_ | refine .seq ?_ | refine .region ?_ | refine .xs ?_ | refine .kb ?_ | refine .leaf ?_ | refine .block ?_ | refine .gn ?_ | refine .dr ?_ | fail
  · exact ⟨trivial, w2⟩
  · exact hbig

theorem CodW.kindTypeKind {S : St} {c : Nat} {buf : List UInt8} (h : CodW S c buf) {p : V} {n : Int} (hp : Src S c p [.int .i64 n]) (hn : in64 n) :
    WrTo 144 [.ptr c 0, p] S c buf (encI n) (fun _ => True) := by
  refine CallTo.of (n := 17) Tryz.func144 rfl rfl ?_
  have hpt := hp.pt
  have hisp := hpt.isP
  repeat' first
   | refine Opl.val (op_load rfl (CodW.ldReads (And.left (by assumption)))) rfl ?_
   | refine Opl.callv rfl (by kernel_rfl) (h.int n hn) rfl (fun S2 w2 => ?_) (fun v S2 hbig => ?_)
   | refine Go.condF rfl ?_
   | refine At.fnp rfl ?_
   | refine At.fn rfl rfl rfl ?_
   | refine .std ?_ | refine .nil ?_ | refine .seq ?_ | refine .region ?_ | refine .xs ?_ | refine .kb ?_ | refine .leaf ?_ | refine .block ?_ | refine .gn ?_ | refine .dr ?_ | fail
  · exact ⟨trivial, w2⟩
  · exact hbig

/-- Fields that are truth values. -/
theorem CodW.bools {S : St} {c : Nat} {buf : List UInt8} (h : CodW S c buf) (lt : Option TypeId) (tk : Tk) (ws : List (V × Bool)) (hws : ∀ w ∈ ws, Src S c w.1 [.bool w.2]) (hl : ws.length < 1000) :
    WrTo 78 [.ptr c 0, .list lt 1 (ws.map Prod.fst) tk] S c buf (ws.flatMap fun w => encB w.2) (fun _ => True) := by
  refine CallTo.of (n := 44) Tryz.func78 rfl rfl ?_
  repeat' first
   | refine Opl.val (op_lenL rfl rfl rfl) rfl ?_
   | refine .std ?_ | refine .nil ?_ | refine .seq ?_ | refine .region ?_ | refine .xs ?_ | refine .kb ?_ | refine .leaf ?_ | refine .block ?_ | refine .gn ?_ | refine .dr ?_ | fail
  have hE : Sub [(0, .ptr c 0), (8, .list lt 1 (ws.map Prod.fst) tk), (9, .int .i64 ws.length), (10, .int .i64 (0 : Nat))] ((10, V.int .i64 0) :: (9, V.int .i64 ↑(elems (.list lt 1 (ws.map Prod.fst) tk)).length) :: (8, .list lt 1 (ws.map Prod.fst) tk) :: envOf 0 [.ptr c 0, .list lt 1 (ws.map Prod.fst) tk]) :=
    ⟨rfl, rfl, by simp [Env.get, elems], rfl, trivial⟩
  refine Go.weaken ?_ hE
  refine Go.loop_ind (α := Nat) (fun i => ws.length - i) (fun i E S' => E = [(0, .ptr c 0), (8, .list lt 1 (ws.map Prod.fst) tk), (9, .int .i64 ws.length), (10, .int .i64 i)] ∧ i ≤ ws.length ∧ Wrote S c buf ((ws.take i).flatMap fun w => encB w.2) S') ?_ 0 _ _ ⟨rfl, Nat.zero_le _, by simpa using h, by simpa using KeepB.refl _ _⟩
  rintro i E S1 ⟨rfl, hi, w1⟩ IH
  obtain ⟨h1, k1⟩ := w1
  repeat' first | refine .std ?_ | refine .nil ?_ | refine .seq ?_ | refine .region ?_ | refine .xs ?_ | refine .kb ?_ | refine .leaf ?_ | refine .block ?_ | refine .gn ?_ | refine .dr ?_ | fail
  refine Go.cond rfl (fun hq => ?_) (fun hq => ?_)
  · have hq : i < ws.length := by have := of_decide_eq_true hq; omega
    obtain ⟨w, hw⟩ : ∃ w, ws[i] = w := ⟨_, rfl⟩
    have hsrc := hws w (hw ▸ List.getElem_mem hq)
    have hsrc1 := k1.src hsrc
    have hpt := hsrc1.pt
    have hisp := hpt.isP
    have hix : (ws.map Prod.fst)[i]? = some w.1 := by simp [hq, hw]
    have hpc : Pt S1 (.cptr none w.1.cells 0) [w.1] := by rw [cells_isP hisp]; exact Pt.cptr _ _ _
    have htake : (ws.take (i + 1)).flatMap (fun w => encB w.2) = (ws.take i).flatMap (fun w => encB w.2) ++ encB w.2 := by
      rw [List.take_succ_eq_append_getElem hq, hw, List.flatMap_append]; simp
    have hall : (ws.flatMap fun w => encB w.2) = (ws.take (i + 1)).flatMap (fun w => encB w.2) ++ (ws.drop (i + 1)).flatMap (fun w => encB w.2) := by
      rw [← List.flatMap_append, List.take_append_drop]
    obtain ⟨p, b⟩ := w
    cases b
    · skip
      repeat' first
       | refine Opl.val (op_ixaL rfl rfl hix) rfl ?_
       | refine Opl.val (op_load rfl h1.ldAt) rfl ?_
       | refine Opl.callv rfl (by kernel_rfl) (h1.int 0 (by constructor <;> omega)) rfl (fun S2 w2 => ?_) (fun v S2 hbig => ?_)
       | refine Opl.val (op_load rfl (CodW.ldReads (And.left (by assumption)))) rfl ?_
       | refine Opl.val (op_int rfl rfl rfl (inc_ok (i := i) (by omega))) rfl ?_
       | refine Go.condF rfl ?_
       | refine Go.condT rfl ?_
       | refine At.fnp rfl ?_
       | refine .std ?_ | refine .nil ?_ | refine .seq ?_ | refine .region ?_ | refine .xs ?_ | refine .kb ?_ | refine .leaf ?_ | refine .block ?_ | refine .gn ?_ | refine .dr ?_ | fail
      · exact (IH (i + 1) _ S2 (by omega) ⟨rfl, by omega, by rw [htake]; exact Wrote.trans ⟨h1, k1⟩ w2⟩).weaken ⟨rfl, rfl, rfl, rfl, trivial⟩
      · rw [hall, htake]; exact (Big.trans ⟨h1, k1⟩ hbig).more
    · skip
      repeat' first
       | refine Opl.val (op_ixaL rfl rfl hix) rfl ?_
       | refine Opl.val (op_load rfl h1.ldAt) rfl ?_
       | refine Opl.callv rfl (by kernel_rfl) (h1.int 1 (by constructor <;> omega)) rfl (fun S2 w2 => ?_) (fun v S2 hbig => ?_)
       | refine Opl.val (op_load rfl (CodW.ldReads (And.left (by assumption)))) rfl ?_
       | refine Opl.val (op_int rfl rfl rfl (inc_ok (i := i) (by omega))) rfl ?_
       | refine Go.condF rfl ?_
       | refine Go.condT rfl ?_
       | refine At.fnp rfl ?_
       | refine .std ?_ | refine .nil ?_ | refine .seq ?_ | refine .region ?_ | refine .xs ?_ | refine .kb ?_ | refine .leaf ?_ | refine .block ?_ | refine .gn ?_ | refine .dr ?_ | fail
      · exact (IH (i + 1) _ S2 (by omega) ⟨rfl, by omega, by rw [htake]; exact Wrote.trans ⟨h1, k1⟩ w2⟩).weaken ⟨rfl, rfl, rfl, rfl, trivial⟩
      · rw [hall, htake]; exact (Big.trans ⟨h1, k1⟩ hbig).more
  · have hq : i = ws.length := by have := of_decide_eq_false hq; omega
    subst hq
    rw [List.take_length] at h1
    repeat' first
     | refine At.fn rfl rfl rfl ?_
     | refine .std ?_ | refine .nil ?_ | refine .seq ?_ | refine .region ?_ | refine .xs ?_ | refine .kb ?_ | refine .leaf ?_ | refine .block ?_ | refine .gn ?_ | refine .dr ?_ | fail
    exact ⟨trivial, h1, k1⟩

/-- What an element function writes of each of these elements. -/
def EncEl (g : FuncId) (c : Nat) : List V → List UInt8 → Prop
  | [], bs => bs = []
  | e :: es, bs => ∃ b1 b2, bs = b1 ++ b2 ∧ (∀ S buf p, Src S c p e.cells → CodW S c buf → WrTo g [.ptr c 0, p] S c buf b1 (fun _ => True)) ∧ EncEl g c es b2

theorem EncEl.at {g : FuncId} {c : Nat} : ∀ {es : List V} {bs : List UInt8}, EncEl g c es bs → ∀ {i : Nat} {e : V}, es[i]? = some e → ∃ b1 b2 b3, bs = b1 ++ b2 ++ b3 ∧ EncEl g c (es.take i) b1 ∧ EncEl g c (es.take (i + 1)) (b1 ++ b2) ∧ EncEl g c (es.drop (i + 1)) b3 ∧
    (∀ S buf p, Src S c p e.cells → CodW S c buf → WrTo g [.ptr c 0, p] S c buf b2 (fun _ => True))
  | [], _, _, i, e, h => by simp at h
  | x :: es, bs, ⟨b1, b2, hb, hx, hes⟩, 0, e, h => by
    simp at h
    subst h
    exact ⟨[], b1, b2, by simpa using hb, rfl, ⟨b1, [], by simp, hx, rfl⟩, by simpa using hes, hx⟩
  | x :: es, bs, ⟨b1, b2, hb, hx, hes⟩, i + 1, e, h => by
    obtain ⟨c1, c2, c3, h1, h2, h3, h4, h5⟩ := EncEl.at hes (i := i) (e := e) (by simpa using h)
    exact ⟨b1 ++ c1, c2, c3, by rw [hb, h1]; simp, ⟨b1, c1, rfl, hx, h2⟩, ⟨b1, c1 ++ c2, by simp, hx, h3⟩, h4, h5⟩

end Go.Proofs.YtilldjgagokcfaaGreat
