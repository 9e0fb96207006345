import Derived.Test.YtilldjgagokcfaaGreatW9
set_option linter.unusedVariables false
set_option linter.unusedSimpArgs false
namespace Go.Proofs.YtilldjgagokcfaaGreat
open Go.RowKit Go.Ev
set_option maxRecDepth 100000
set_option linter.unusedVariables false
abbrev most : Nat := 1099511627776
structure RefW (S : St) (c : Nat) (buf : List UInt8) : Prop where
  lt : c < S.next
  box : ∃ l, S.h.find c = some (.box 75 [l]) ∧ BufOk S l buf
def RQ (S : St) (c : Nat) (buf bs : List UInt8) (S' : St) : Prop :=
  KeepB S S' c ∧ ∃ buf', RefW S' c buf' ∧ buf'.length ≤ buf.length + bs.length ∧ (buf' = buf ++ bs ∨ 100000 < buf'.length)
def RC (g : FuncId) (l : List V) (S : St) (c : Nat) (bs : List UInt8) : Prop :=
  ∀ buf, RefW S c buf → buf.length + bs.length ≤ most → CallTo Tryz.prog g l S (fun _ S' => RQ S c buf bs S') (fun _ _ => False)
theorem RQ.trans {A B C : St} {c : Nat} {buf b1 b2 : List UInt8} (h : RQ A c buf b1 B) (k : ∀ buf', RefW B c buf' → buf'.length ≤ buf.length + b1.length → RQ B c buf' b2 C) : RQ A c buf (b1 ++ b2) C := by
  obtain ⟨h1, buf1, h2, h3, h4⟩ := h
  obtain ⟨k1, buf2, k2, k3, k4⟩ := k buf1 h2 h3
  refine ⟨h1.trans k1, buf2, k2, by simp; omega, ?_⟩
  rcases h4 with rfl | h4
  · rcases k4 with rfl | k4
    · exact .inl (List.append_assoc _ _ _)
    · exact .inr k4
  · rcases k4 with rfl | k4
    · exact .inr (by simp; omega)
    · exact .inr k4
theorem Opl.callR {S0 S : St} {c : Nat} {buf b1 b2 : List UInt8} {F : Sh} {E : Env} {k : K} {ops : Array Oper} {os : List Oper} {d : Nat} {ty : TypeId} {pos : String} {after : Array Edge} {f : Operand} {args : Array Operand} {ats : Array TypeId} {g : FuncId} {l : List V}
    (w : RQ S0 c buf b1 S) (hf : calleeE (Env.opd E) f args = some (g, l)) (hb : hasBody Tryz.prog g = true) (hc : RC g l S c b2) (hB : buf.length + (b1 ++ b2).length ≤ most)
    (hd : Nat.blt d F.n = true) (h1 : ∀ S', RQ S0 c buf (b1 ++ b2) S' → KeepB S S' c → ∀ v, Opl Tryz.prog ops os F ((d, v) :: E) S' k) :
    Opl Tryz.prog ops (⟨some d, .call { callee := .value f, args, argTypes := ats }, ty, pos, after, none⟩ :: os) F E S k := by
  have hw := w
  obtain ⟨w1, buf1, w2, w3, w4⟩ := w
  simp only [List.length_append] at hB
  refine .call hf hb (hc buf1 w2 (by omega)) hd (fun v S' h => h1 S' ?_ h.1 v) (fun _ _ h => h.elim)
  obtain ⟨k1, buf2, k2, k3, k4⟩ := h
  refine ⟨w1.trans k1, buf2, k2, by simp; omega, ?_⟩
  rcases w4 with rfl | w4
  · rcases k4 with rfl | k4
    · exact .inl (List.append_assoc _ _ _)
    · exact .inr k4
  · rcases k4 with rfl | k4
    · exact .inr (by simp; omega)
    · exact .inr k4
theorem RefW.pt {S : St} {c : Nat} {buf : List UInt8} (h : RefW S c buf) : ∃ l, Pt S (.ptr c 0) [l] ∧ S.h.find c = some (.box 75 [l]) ∧ BufOk S l buf := by
  obtain ⟨hlt, l, hb, hl⟩ := h
  exact ⟨l, ⟨_, _, hb, fun i v h => by simpa using h⟩, hb, hl⟩
theorem RefW.full {S : St} {c : Nat} {buf : List UInt8} (h : RefW S c buf) : lim Tryz.prog (.call 69 [.ptr c 0]) S = some (.ret (.bool (decide (100000 < buf.length))) S) := by
  obtain ⟨l, hp, hb, hl⟩ := h.pt
  have hil := hl.isL
  have : CallTo Tryz.prog 69 [.ptr c 0] S (fun v S' => v = .bool (decide (100000 < buf.length)) ∧ S' = S) (fun _ _ => False) := by
    refine CallTo.of (n := 9) Tryz.func69 rfl rfl ?_
    repeat' first
     | refine Opl.val (op_lenL rfl hil.1 rfl) rfl ?_
     | refine .std ?_ | refine .nil ?_ | refine .seq ?_ | refine .region ?_ | refine .xs ?_ | refine .kb ?_ | refine .leaf ?_ | refine .block ?_ | refine .gn ?_ | refine .dr ?_ | fail
    refine At.fnr rfl rfl rfl ⟨?_, rfl⟩
    show V.bool (decide (((elems l).length : Int) > 100000)) = _
    rw [hil.2]
    congr 1
    by_cases h : 100000 < buf.length
    · rw [decide_eq_true h, decide_eq_true (by omega)]
    · rw [decide_eq_false h, decide_eq_false (by omega)]
  rcases this with ⟨v, S', h1, rfl, rfl⟩ | ⟨_, _, _, h⟩
  · exact h1
  · exact h.elim
theorem roomOk_most {n : Nat} (hn : n ≤ most) : roomOk n 1 = true := by
  unfold roomOk
  simp only [Bool.and_eq_true, Nat.mul_one]
  exact ⟨Nat.ble_eq_true_of_le (by unfold most at hn; omega), Nat.ble_eq_true_of_le (by unfold most at hn; omega)⟩
theorem BufOk.app {S : St} {l : V} {buf : List UInt8} (h : BufOk S l buf) (u : TypeId) {y : V} {ys : List UInt8} [App Tryz.prog 73 u 5 1 false 1] (hy : readS S false 1 y = some (ofBytes ys)) (hne : ys ≠ []) (hB : buf.length + ys.length ≤ most) :
    ∃ l' S2, appendE Tryz.prog 73 u l y S = some (l', S2) ∧ S.next ≤ S2.next ∧ BufOk S2 l' (buf ++ ys) ∧ ∀ j, j < S.next → (∃ t cs, S.h.find j = some (.box t cs)) → S2.h.find j = S.h.find j := by
  have he : (ofBytes ys).isEmpty = false := by cases ys with | nil => exact absurd rfl hne | cons => rfl
  rcases h with ⟨rfl, rfl⟩ | ⟨id, rfl, ht, hi, hn⟩
  · refine ⟨_, _, app_nil hy (ofBytes_all ys) he (roomOk_most (by rw [ofBytes_length]; simpa using hB)), by simp [St.new], .inr ⟨S.next, rfl, by simp [St.new, Tr.find_put], by simp [St.new], by simpa using hne⟩, fun j hj _ => ?_⟩
    simp only [St.new, Tr.find_put, if_neg (Nat.ne_of_lt hj)]
  · refine ⟨.list (some 5) 1 (ofBytes (buf ++ ys)) (.own S.next), St.new { S with h := S.h.del id } .tok, ?_, by simp [St.new], .inr ⟨S.next, rfl, by simp [St.new, Tr.find_put], by simp [St.new], by simp [hne]⟩, fun j hj hbx => ?_⟩
    · rw [ofBytes_append]
      exact app_own ht hy (ofBytes_all ys) he (roomOk_most (by rw [ofBytes_length, ofBytes_length]; exact hB))
    · have : j ≠ id := by rintro rfl; obtain ⟨t, cs, h3⟩ := hbx; rw [h3] at ht; cases ht
      simp only [St.new, Tr.find_put, if_neg (Nat.ne_of_lt hj), Tr.find_del, if_neg this]
theorem RefW.app {S : St} {c : Nat} {buf : List UInt8} (h : RefW S c buf) {l : V} (hb : S.h.find c = some (.box 75 [l])) {l' : V} {S2 : St} {ys : List UInt8} (hn : S.next ≤ S2.next) (hl : BufOk S2 l' (buf ++ ys))
    (hk : ∀ j, j < S.next → (∃ t cs, S.h.find j = some (.box t cs)) → S2.h.find j = S.h.find j) (ho : l'.one = true) :
    ∃ S3, storeE Tryz.prog 73 (.ptr c 0) l' S2 = some S3 ∧ RefW S3 c (buf ++ ys) ∧ KeepB S S3 c := by
  have hb2 : S2.h.find c = some (.box 75 [l]) := by rw [hk c h.lt ⟨_, _, hb⟩]; exact hb
  refine ⟨{ S2 with h := S2.h.put c (.box 75 [l']) }, st_one hb2 ho rfl, ⟨Nat.lt_of_lt_of_le h.lt hn, l', by simp [Tr.find_put], hl.put hb2 _⟩, ⟨hn, fun j t cs h2 h3 h4 => ?_⟩⟩
  simp only [Tr.find_put, if_neg h3]
  rw [hk j h2 ⟨_, _, h4⟩]; exact h4
theorem BufOk.one {S : St} {l : V} {buf : List UInt8} (h : BufOk S l buf) : l.one = true := by
  rcases h with ⟨_, rfl⟩ | ⟨id, rfl, _⟩ <;> rfl
end Go.Proofs.YtilldjgagokcfaaGreat
