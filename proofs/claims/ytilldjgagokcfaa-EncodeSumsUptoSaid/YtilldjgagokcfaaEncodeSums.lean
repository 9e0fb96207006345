/-
  EncodeSums answers true for every two strings of at most 1048576 bytes together.
-/
import Derived.Test.YtilldjgagokcfaaSum
import Derived.Test.YtilldjgagokcfaaAwake
import Derived.OpenShut
import Derived.JoinedCond
namespace Go.Proofs.Ytilldjgagokcfaa.EncodeSums
open Go.ChangeShapes Go.WideShapes Go.ChangeAt Go.RowKit Go.ChangeMaps
set_option linter.unusedVariables false

theorem own : ownKnob Try.prog.godebug = none := by kernel_rfl

theorem sum_le (l : List UInt8) : sumOf l ≤ 4293984240 := by
  have := adl_lt l 1 0 (by omega) (by omega)
  unfold sumOf; omega

theorem sum_append (a b : ByteArray) {N : Nat} (hN : N = sumOf a.data.toList) {m n : Nat} (h : (m, n) = adl b.data.toList (N % 65536) (N / 65536)) : sumOf (a ++ b).data.toList = 65536 * n + m := by
  have hl := adl_lt a.data.toList 1 0 (by omega) (by omega)
  have h1 : N % 65536 = (adl a.data.toList 1 0).1 := by rw [hN]; unfold sumOf; omega
  have h2 : N / 65536 = (adl a.data.toList 1 0).2 := by rw [hN]; unfold sumOf; omega
  rw [h1, h2] at h
  unfold sumOf
  have hd : (a ++ b).data.toList = a.data.toList ++ b.data.toList := by simp
  rw [hd, adl_append, ← h]

theorem loop_end (a b : ByteArray) {N : Nat} (HN : Hid (N = sumOf a.data.toList)) {k m n : Nat} (hk : k ≤ b.size) (hge : ¬ k < b.size) (HS : Hid (adl (b.data.toList.drop k) m n = adl b.data.toList (N % 65536) (N / 65536))) :
    sumOf (a ++ b).data.toList = 65536 * n + m := by
  have h1 := HS.out
  have : k = b.size := by omega
  subst this
  rw [List.drop_eq_nil_of_le (by simp)] at h1
  exact sum_append a b HN.out h1

set_option maxRecDepth 100000 in
theorem walk (a b : ByteArray) (hs : a.size + b.size ≤ 9223372036854775807) (w : World) :
    Calls Try.prog 3 #[.string a, .string b] w fun e w' => e = .returned (.bool true) ∧ Below w.heap.size w w' := by
  obtain ⟨N, hN⟩ : ∃ N, N = sumOf a.data.toList := ⟨_, rfl⟩
  have hN1 : N ≤ 4293984240 := by rw [hN]; exact sum_le _
  have hp : N % 65536 < 65521 ∧ N / 65536 < 65521 := by
    have hl := adl_lt a.data.toList 1 0 (by omega) (by omega)
    rw [hN]; unfold sumOf; omega
  have HN : Hid (N = sumOf a.data.toList) := hN
  have ha : a.size ≤ 9223372036854775807 := by omega
  have s9 : Hid (∀ w, Calls Try.prog 9 #[.string a] w fun e w' => e = .returned (.int .i64 N) ∧ w' = w) := by rw [hN]; exact sum9 a ha
  have s10 : Hid (∀ w, Calls Try.prog 10 #[.string a] w fun e w' => e = .returned (.int .i64 N) ∧ w' = w) := by rw [hN]; exact sum10 a ha
  have s9' : Hid (∀ w, Calls Try.prog 9 #[.string (a ++ b)] w fun e w' => e = .returned (.int .i64 (sumOf (a ++ b).data.toList)) ∧ w' = w) := sum9 (a ++ b) (by simp; omega)
  clear hN
  go_enter Try.func3, Try.ntmps3
  go_wp2_with (first
    | (go_at_call 9; refine (s9.out _).mono ?_; rintro e w' ⟨rfl, rfl⟩)
    | (go_at_call 10; refine (s10.out _).mono ?_; rintro e w' ⟨rfl, rfl⟩))
  go_loop [6, 7, 8] (fun x y i => ∃ k m n : Nat, k ≤ b.size ∧ i = .int .i64 k ∧ x = .int .i64 m ∧ y = .int .i64 n ∧ m < 65521 ∧ n < 65521 ∧ Hid (adl (b.data.toList.drop k) m n = adl b.data.toList (N % 65536) (N / 65536))) (fun _ _ i => b.size - (intOf i).toNat)
  case atStart => exact ⟨0, N % 65536, N / 65536, Nat.zero_le _, rfl, by simp, by simp, hp.1, hp.2, rfl⟩
  case round =>
    obtain ⟨k, m, n, hk, rfl, rfl, rfl, hm, hn, HS⟩ := hrel
    have hadd : (Op.stringOp .add a b).run Try.prog w' = .ok (.string (a ++ b)) w' := run_string_add_sum w' _ _ hs
    by_cases hlt : k < b.size
    · go_wp2
      exact ⟨round_end hlt hm hn HS, by simp [intOf]; omega⟩
    · have HE := loop_end a b HN hk hlt HS
      have s9s : Hid (∀ w, Calls Try.prog 9 #[.string (a ++ b)] w fun e w' => e = .returned (.int .i64 (65536 * (n : Int) + (m : Int))) ∧ w' = w) := by
        have h := s9'.out
        rw [HE] at h
        intro w0
        have h0 := h w0
        simpa using h0
      clear HE s9'
      go_wp2_with (first
        | (go_at_call 9; refine (s9s.out _).mono ?_; rintro e w' ⟨rfl, rfl⟩)
        | (go_at_call 11; refine (awake _).mono ?_; rintro e w2 ⟨rfl, hbel⟩))
      go_ret
      exact ⟨rfl, by assumption⟩

/-- The row's last step where no argument reaches memory, and the call made memory of its own. -/
theorem post_below0 {H : Type} {enc : TypeId × Value → H} {P : Program} {f : Func} {s : ChangeSpec} {apart fresh handsOn again : Bool} {W W' : World} {args : Array Value} {v : Value} {ds gs : List (DataW H)}
    (hW : DataW.Whole enc P f.params.toList s.vars apart W args.toList ds gs [])
    (hres : ∀ (b : Nat) (sp : Nat → Bool) (hd : Bool), DataW.TrodAll enc P W' b sp hd f.resultTypes.toList (v.resultList f.resultTypes.size) (s.fn H (ds ++ gs)).results [])
    (hargs : ∀ sp : Nat → Bool, DataW.TrodAll enc P W' 0 sp true f.params.toList args.toList (s.fn H (ds ++ gs)).args [])
    (hvars : ∀ sp : Nat → Bool, DataW.TrodVars enc P W' sp s.vars (s.fn H (ds ++ gs)).vars [])
    (hb : Below W.heap.size W W')
    (hok : ∀ (j : Nat) (t : TypeId) (r : Value), f.resultTypes[j]? = some t → (v.resultList f.resultTypes.size)[j]? = some r → Value.okWide P W' .any 0 t r) :
    s.post enc P f apart fresh handsOn again W args v W' :=
  ⟨ds, gs, [], [], [], [], hW, hres _ _ _, hargs _, hvars _, World.keptBut_mono (fun p hp => by cases hp) (hb.frame (· ∈ [])),
    fun _ => ⟨hok, _, _, [], ⟨[], [], trodAll_append (hargs _) (hres _ _ _), hvars _, rfl, fun b off hp => absurd hp (by simp), fun _ => List.nodup_nil⟩, fun p hp _ => hp⟩⟩

set_option maxRecDepth 100000 in
/-- What the walk gives, for every argument. -/
theorem contract (H : Type) (enc : TypeId × Value → H) (W : World) (base : Nat) (args : Array Value) (ds gs : List (DataW H)) (before : List MemPlace)
    (hval : ∀ (j : Nat) t v, Try.f3.params[j]? = some t → args[j]? = some v → Value.okWide Try.prog W .any base t v)
    (hW : DataW.Whole enc Try.prog Try.f3.params.toList Rows.encodeSumsSpec.vars false W args.toList ds gs before) (hk : Rows.uptoSmall H (ds ++ gs) = true) :
    Calls Try.prog 3 args W fun e W' => ∃ v, e = .returned v ∧ Rows.encodeSumsSpec.post enc Try.prog Try.f3 false true false false W args v W' := by
  have hW' := hW
  obtain ⟨p, q, hA0, hV, rfl, hfz, hnd⟩ := hW
  have hA : DataW.TrodAll enc Try.prog W 0 (fun _ => true) true Try.f3.params.toList args.toList ds p := hA0
  rw [Try.params3] at hA hval
  obtain ⟨v0, vs0, d0, ds0, p0, q0, hargs, rfl, rfl, h0, r0⟩ := trodAll_cons hA
  obtain ⟨v1, vs1, d1, ds1, p1, q1, rfl, rfl, rfl, h1, r1⟩ := trodAll_cons r0
  obtain ⟨rfl, rfl, rfl⟩ := trodAll_nil r1
  obtain rfl : args = #[v0, v1] := by cases args; simp_all
  obtain ⟨rfl, rfl⟩ := trodVars_none hV
  obtain ⟨a, rfl, rfl, rfl, w0⟩ := open_string Try.underlying9 (hval 0 9 v0 rfl rfl) h0
  obtain ⟨b, rfl, rfl, rfl, w1⟩ := open_string Try.underlying9 (hval 1 9 v1 rfl rfl) h1
  clear hA0
  simp only [List.append_nil] at hW' hk
  have hs : a.size + b.size ≤ 9223372036854775807 := by
    have := of_decide_eq_true hk
    simp [Rows.uptoBulkAll, Rows.uptoBulk] at this
    omega
  refine (walk a b hs W).mono fun e W' ⟨he, hb⟩ => ?_
  subst he
  exact ⟨_, rfl, post_below0 hW' (fun _ _ _ => (trodAll_cons_mk (shut_bool Try.underlying4 _) trodAll_mk0)) (fun sp => (trodAll_cons_mk (shut_string Try.underlying9 w0) (trodAll_cons_mk (shut_string Try.underlying9 w1) trodAll_mk0))) (fun _ => rfl)
    hb (ok_one (by kernel_rfl) rfl (okWide_bool_mk Try.underlying4 _))⟩

set_option maxRecDepth 100000 in
theorem lifted (os : Os) (started : os.Started) (H : Type) (enc : TypeId × Value → H) (F : Stop.Interp) :
    ReturnsInHanded {} Try.checked os 3 .any ((Rows.OpenSpec.upto Rows.encodeSumsSpec).pre6 enc Try.prog Try.f3 Rows.encodeSumsUptoRow.domain false) (((Rows.OpenSpec.upto Rows.encodeSumsSpec).at F).post enc Try.prog Try.f3 false true false false) := by
  refine returnsInHanded_of_cond (C := Try.checked) (s := Rows.OpenSpec.upto Rows.encodeSumsSpec) (k := Rows.uptoSmall) rfl own started (by kernel_rfl) Try.func3
    (OpenSpec.witness (enc := enc) (C := Try.checked) (s := Rows.OpenSpec.upto Rows.encodeSumsSpec) (k := Rows.uptoSmall) rfl false ⟨#[], #[.string ⟨#[]⟩, .string ⟨#[]⟩], []⟩ 8 (by kernel_rfl) (by kernel_rfl) (by kernel_rfl)
      (x := ([.lit (.string []), .lit (.string [])], [], [])) (by kernel_rfl) rfl (by kernel_rfl)) ?_
  intro W base args ds gs before hval hW _ hk _
  exact contract H enc W base args ds gs before hval hW hk

theorem over : Rows.encodeSumsUptoRow.holds Try.pinned (Rows.OpenSpec.upto Rows.encodeSumsSpec) :=
  OpenClaim.holds_of_cond 3 Try.f3 rfl rfl rfl rfl rfl rfl rfl ⟨rfl, rfl, rfl, rfl, rfl⟩ rfl rfl rfl rfl rfl (by kernel_rfl) Try.func3 (by kernel_rfl)
    (of_decide_eq_true (by kernel_rfl)) (by unfold Func.isWrapper; first | (rw [if_pos (by decide +kernel)]; kernel_rfl) | (rw [if_neg (by decide +kernel)]; exact ⟨rfl, rfl⟩))
    (fun os started H enc _ F => lifted os started H enc F)

theorem proved : Rows.EncodeSumsUptoSaid := over

end Go.Proofs.Ytilldjgagokcfaa.EncodeSums
