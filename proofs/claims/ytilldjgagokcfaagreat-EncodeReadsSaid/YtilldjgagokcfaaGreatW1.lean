import Derived.Test.YtilldjgagokcfaaGreatTab
set_option linter.unusedVariables false
set_option linter.unusedSimpArgs false
namespace Go.Ev
open Go.RowKit
section
variable {P : Program} {ev : Operand → Option V} {S S' : St} {x y a b : Operand} {t u : TypeId} {v w : V} {p : V} {n off id : Nat}
theorem op_buildSlice1 {i : Nat} (h : ev x = some v) (hb : buildSliceE P t n [(i, v)] = some w) : opE P (.buildSlice t n #[(i, x)]) ev S = some (w, S) := by
  simp [opE, mapO, h, hb]
theorem ofBytes_append (a b : List UInt8) : ofBytes (a ++ b) = ofBytes a ++ ofBytes b := by simp [ofBytes]
theorem ofBytes_length (a : List UInt8) : (ofBytes a).length = a.length := by simp [ofBytes]
theorem ofBytes_all (a : List UInt8) : ∀ z ∈ ofBytes a, z.cells.length = 1 ∧ z.cells.all V.one = true := by
  intro z hz
  simp only [ofBytes, List.mem_map] at hz
  obtain ⟨b, _, rfl⟩ := hz
  exact ⟨rfl, rfl⟩
end
structure KeepB (S S' : St) (c : Nat) : Prop where
  next : S.next ≤ S'.next
  box : ∀ id t cs, id < S.next → id ≠ c → S.h.find id = some (.box t cs) → S'.h.find id = some (.box t cs)
theorem KeepB.refl (S : St) (c : Nat) : KeepB S S c := ⟨Nat.le_refl _, fun _ _ _ _ _ h => h⟩
theorem KeepB.trans {A B C : St} {c : Nat} (h : KeepB A B c) (k : KeepB B C c) : KeepB A C c :=
  ⟨Nat.le_trans h.next k.next, fun id t cs h1 h2 h3 => k.box id t cs (Nat.lt_of_lt_of_le h1 h.next) h2 (h.box id t cs h1 h2 h3)⟩
structure Src (S : St) (c : Nat) (p : V) (cs : List V) : Prop where
  pt : Pt S p cs
  away : match p with | .ptr id _ => id ≠ c ∧ id < S.next | _ => True
theorem KeepB.src {S S' : St} {c : Nat} {p : V} {cs : List V} (h : KeepB S S' c) (k : Src S c p cs) : Src S' c p cs := by
  obtain ⟨h1, h2⟩ := k
  cases p <;> first | exact h1.elim | skip
  · obtain ⟨e, bs, h3, h4⟩ := h1
    exact ⟨⟨e, bs, h.box _ _ _ h2.2 h2.1 h3, h4⟩, h2.1, Nat.lt_of_lt_of_le h2.2 h.next⟩
  · exact ⟨h1, trivial⟩
theorem Src.at {S : St} {c : Nat} {p v : V} {cs : List V} (h : Src S c p cs) (k : Nat) (hv : cs[k]? = some v) : Src S c (padd p k) [v] :=
  ⟨h.pt.at k hv, by have := h.away; cases p <;> first | exact this | trivial⟩
theorem Src.sub {S : St} {c : Nat} {p : V} {cs ds : List V} (h : Src S c p cs) (k : Nat) (hd : ∀ i v, ds[i]? = some v → cs[k + i]? = some v) : Src S c (padd p k) ds :=
  ⟨h.pt.sub k hd, by have := h.away; cases p <;> first | exact this | trivial⟩
end Go.Ev
namespace Go.Proofs.YtilldjgagokcfaaGreat
open Go.RowKit Go.Ev
set_option maxRecDepth 100000
set_option linter.unusedVariables false
def BufOk (S : St) (l : V) (buf : List UInt8) : Prop :=
  (buf = [] ∧ l = .nils) ∨ ∃ id, l = .list (some 5) 1 (ofBytes buf) (.own id) ∧ S.h.find id = some .tok ∧ id < S.next ∧ buf ≠ []
structure CodW (S : St) (c : Nat) (buf : List UInt8) : Prop where
  lt : c < S.next
  le : buf.length ≤ 99988
  box : ∃ a l, S.h.find c = some (.box 109 [a, l, .str [], .int .i64 0, .bool false]) ∧ (a = .nilp ∨ a = .ptr c 0) ∧ BufOk S l buf
theorem CodW.pt {S : St} {c : Nat} {buf : List UInt8} (h : CodW S c buf) : ∃ a l, Pt S (.ptr c 0) [a, l, .str [], .int .i64 0, .bool false] ∧ S.h.find c = some (.box 109 [a, l, .str [], .int .i64 0, .bool false]) ∧ (a = .nilp ∨ a = .ptr c 0) ∧ BufOk S l buf := by
  obtain ⟨hlt, hle, a, l, hb, ha, hl⟩ := h
  exact ⟨a, l, ⟨_, _, hb, fun i v h => by simpa using h⟩, hb, ha, hl⟩
theorem BufOk.isL {S : St} {l : V} {buf : List UInt8} (h : BufOk S l buf) : isL l = true ∧ (elems l).length = buf.length := by
  rcases h with ⟨rfl, rfl⟩ | ⟨id, rfl, _⟩
  · exact ⟨rfl, rfl⟩
  · exact ⟨rfl, by simp [elems, ofBytes]⟩
theorem keepB_put (S : St) (c : Nat) (ob : Ob) : KeepB S { S with h := S.h.put c ob } c :=
  ⟨Nat.le_refl _, fun id t cs h1 h2 h3 => by simp only [Tr.find_put, if_neg h2]; exact h3⟩
theorem BufOk.put {S : St} {l : V} {buf : List UInt8} (h : BufOk S l buf) {c : Nat} {t : TypeId} {cs : List V} (hb : S.h.find c = some (.box t cs)) (ob : Ob) : BufOk { S with h := S.h.put c ob } l buf := by
  rcases h with ⟨rfl, rfl⟩ | ⟨id, rfl, h1, h2⟩
  · exact .inl ⟨rfl, rfl⟩
  · refine .inr ⟨id, rfl, ?_, h2⟩
    have : id ≠ c := by rintro rfl; rw [hb] at h1; cases h1
    simp only [Tr.find_put, if_neg this]
    exact h1
theorem CodW.len {S : St} {c : Nat} {buf : List UInt8} (h : CodW S c buf) :
    CallTo Tryz.prog 57 [.ptr c 0] S (fun v S' => v = .int .i64 buf.length ∧ S' = S) (fun _ _ => False) := by
  obtain ⟨a, l, hp, hb, ha, hl⟩ := h.pt
  have hil := hl.isL
  refine CallTo.of (n := 8) Tryz.func57 rfl rfl ?_
  repeat' first
   | refine Opl.val (op_lenL rfl hil.1 rfl) rfl ?_
   | refine .std ?_ | refine .nil ?_ | refine .seq ?_ | refine .region ?_ | refine .xs ?_ | refine .kb ?_ | refine .leaf ?_ | refine .block ?_ | refine .gn ?_ | refine .dr ?_ | fail
  refine At.fnr rfl rfl rfl ?_
  exact ⟨by simp [packV, hil.2], rfl⟩
theorem CodW.check {S : St} {c : Nat} {buf : List UInt8} (h : CodW S c buf) :
    CallTo Tryz.prog 149 [.ptr c 0] S (fun v S' => v = .tup [] ∧ CodW S' c buf ∧ KeepB S S' c) (fun _ _ => False) := by
  obtain ⟨a, l, hp, hb, ha, hl⟩ := h.pt
  refine CallTo.of (n := 20) Tryz.func149 rfl rfl ?_
  have u98 : Tryz.prog.underlying 103 = some (.pointer 105) := by kernel_rfl
  have u260 : Tryz.prog.underlying 285 = some .unsafePointer := by kernel_rfl
  have s100 : szOf Tryz.prog 105 = some 2 := by kernel_rfl
  have lies : ∀ n, n = 5 → liesAt Tryz.prog Tryz.prog.depth 109 (n / Tryz.prog.cellsOf 109) 0 105 1 = true := by rintro n rfl; kernel_rfl
  rcases ha with rfl | rfl
  · have c1 : convertE Tryz.prog 103 285 (.ptr c 0) S = some (.ptr c 0, S) := by
      simp only [convertE, u98, u260, s100, hb]; rfl
    have c2 : convertE Tryz.prog 285 103 (.ptr c 0) S = some (.ptr c 0, S) := by
      simp only [convertE, u98, u260, s100, hb]
      exact if_pos (lies _ rfl)
    repeat' first
     | refine Opl.val (op_bin (r := .bool true) rfl rfl (by kernel_rfl)) rfl ?_
     | refine Go.condT rfl ?_
     | refine Opl.val (op_conv rfl c1) rfl ?_
     | refine Opl.val (op_conv rfl c2) rfl ?_
     | refine Opl.noesc rfl Tryz.func150 rfl rfl rfl ?_
     | refine Opl.eff (op_store rfl rfl (st_one hb rfl rfl)) ?_
     | refine .std ?_ | refine .nil ?_ | refine .seq ?_ | refine .region ?_ | refine .xs ?_ | refine .kb ?_ | refine .leaf ?_ | refine .block ?_ | refine .gn ?_ | refine .dr ?_ | fail
    refine At.fn rfl rfl rfl ?_
    exact ⟨rfl, ⟨h.lt, h.le, .ptr c 0, l, by simp [Tr.find_put], .inr rfl, hl.put hb _⟩, keepB_put _ _ _⟩
  · have e1 : eqE Tryz.prog 60 103 (.ptr c 0) (.ptr c 0) = some true := by
      simp only [eqE, u98, s100, Nat.beq_refl, if_true]
    have e2 : eqE Tryz.prog 60 103 (.ptr c 0) .nilp = some false := by
      simp only [eqE, u98]
    have b1 : ∀ x y, binE Tryz.prog .neq 103 x y (.ptr c 0) (.ptr c 0) = some (.bool false) := fun x y => by
      simp only [binE, guardE, if_true]; rw [e1]; rfl
    have b2 : ∀ x y, binE Tryz.prog .eql 103 x y (.ptr c 0) .nilp = some (.bool false) := fun x y => by
      simp only [binE, guardE, if_true]; rw [e2]; rfl
    repeat' first
     | refine Opl.val (op_bin rfl rfl (b1 _ _)) rfl ?_
     | refine Opl.val (op_bin rfl rfl (b2 _ _)) rfl ?_
     | refine Go.condF rfl ?_
     | refine .std ?_ | refine .nil ?_ | refine .seq ?_ | refine .region ?_ | refine .xs ?_ | refine .kb ?_ | refine .leaf ?_ | refine .block ?_ | refine .gn ?_ | refine .dr ?_ | fail
    refine At.fn rfl rfl rfl ?_
    exact ⟨rfl, h, KeepB.refl _ _⟩
theorem roomOk_small {n b : Nat} (hn : n ≤ 1000000) (hb : b ≤ 1000) : roomOk n b = true := by
  unfold roomOk
  have : n * b ≤ 1000000 * 1000 := Nat.mul_le_mul hn hb
  simp only [Bool.and_eq_true]
  exact ⟨Nat.ble_eq_true_of_le (by omega), Nat.ble_eq_true_of_le (by omega)⟩
theorem CodW.byte {S : St} {c : Nat} {buf : List UInt8} (h : CodW S c buf) (hlt : buf.length < 99988) (b : UInt8) :
    CallTo Tryz.prog 147 [.ptr c 0, .int .u8 b.toNat] S (fun v S' => CodW S' c (buf ++ [b]) ∧ KeepB S S' c) (fun _ _ => False) := by
  refine CallTo.of (n := 17) Tryz.func147 rfl rfl ?_
  have bsl : buildSliceE Tryz.prog 73 1 [(0, .int .u8 b.toNat)] = some (.list (some 5) 1 (ofBytes [b]) .exact) := by kernel_rfl
  repeat' first
   | refine Opl.call rfl (by kernel_rfl) h.check rfl (fun v S1 ⟨hv, h1, k1⟩ => ?_) (fun _ _ hf => hf.elim)
   | refine .std ?_ | refine .nil ?_ | refine .seq ?_ | refine .region ?_ | refine .xs ?_ | refine .kb ?_ | refine .leaf ?_ | refine .block ?_ | refine .gn ?_ | refine .dr ?_ | fail
  subst hv
  obtain ⟨a, l, hp, hb, ha, hl⟩ := h1.pt
  have happ : ∃ id S2, appendE Tryz.prog 73 73 l (.list (some 5) 1 (ofBytes [b]) .exact) S1 = some (.list (some 5) 1 (ofBytes (buf ++ [b])) (.own id), S2) ∧
      S1.next ≤ S2.next ∧ id < S2.next ∧ S2.h.find id = some .tok ∧ ∀ j, j < S1.next → (∃ t cs, S1.h.find j = some (.box t cs)) → S2.h.find j = S1.h.find j := by
    rcases hl with ⟨rfl, rfl⟩ | ⟨id, rfl, ht, hi⟩
    · refine ⟨_, _, app_nil rfl (ofBytes_all [b]) rfl (roomOk_small (by simp [ofBytes]) (by decide)), by simp [St.new], by simp [St.new], by simp [St.new, Tr.find_put], fun j hj _ => ?_⟩
      simp only [St.new, Tr.find_put, if_neg (Nat.ne_of_lt hj)]
    · refine ⟨S1.next, St.new { S1 with h := S1.h.del id } .tok, ?_, by simp [St.new], by simp [St.new], by simp [St.new, Tr.find_put], fun j hj hbx => ?_⟩
      · rw [ofBytes_append]
        exact app_own ht rfl (ofBytes_all [b]) rfl (roomOk_small (by simp [ofBytes]; omega) (by decide))
      · have : j ≠ id := by rintro rfl; obtain ⟨t, cs, h3⟩ := hbx; rw [h3] at ht; cases ht
        simp only [St.new, Tr.find_put, if_neg (Nat.ne_of_lt hj), Tr.find_del, if_neg this]
  obtain ⟨id, S2, happ, hn2, hid2, htok2, hbox2⟩ := happ
  have hb2 : S2.h.find c = some (.box 109 [a, l, .str [], .int .i64 0, .bool false]) := by rw [hbox2 c h1.lt ⟨_, _, hb⟩]; exact hb
  repeat' first
   | refine Opl.val (op_buildSlice1 rfl bsl) rfl ?_
   | refine Opl.val (op_app rfl rfl happ) rfl ?_
   | refine Opl.eff (op_store rfl rfl (st_one hb2 rfl rfl)) ?_
   | refine .std ?_ | refine .nil ?_ | refine .seq ?_ | refine .region ?_ | refine .xs ?_ | refine .kb ?_ | refine .leaf ?_ | refine .block ?_ | refine .gn ?_ | refine .dr ?_ | fail
  refine At.fnr rfl rfl rfl ?_
  have hidc : id ≠ c := by rintro rfl; rw [hb2] at htok2; cases htok2
  refine ⟨⟨Nat.lt_of_lt_of_le h1.lt hn2, by simp; omega, a, .list (some 5) 1 (ofBytes (buf ++ [b])) (.own id), by simp [Tr.find_put], ha, .inr ⟨id, rfl, ?_, hid2, by simp⟩⟩, ?_⟩
  · simp only [Tr.find_put, if_neg hidc]; exact htok2
  · refine k1.trans ⟨hn2, fun j t cs h2 h3 h4 => ?_⟩
    simp only [Tr.find_put, if_neg h3]
    rw [hbox2 j h2 ⟨_, _, h4⟩]; exact h4
end Go.Proofs.YtilldjgagokcfaaGreat
