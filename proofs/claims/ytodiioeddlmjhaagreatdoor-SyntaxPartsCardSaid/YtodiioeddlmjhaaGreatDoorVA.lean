import Derived.Test.YtodiioeddlmjhaaGreatDoorV9
import Derived.Test.YtodiioeddlmjhaaGreatDoorE12
set_option linter.unusedVariables false
set_option linter.unusedSimpArgs false
namespace Go.Proofs.YtodiioeddlmjhaaGreatDoor
open Go.RowKit Go.Ev
set_option maxRecDepth 100000
set_option linter.unusedVariables false
set_option linter.unusedSimpArgs false
attribute [local irreducible] Go.Ev.opE
set_option maxHeartbeats 4000000 in
theorem withinF {t u : List UInt8} (h : Inf u t) (hl : t.length ≤ 1099511627776) : Pu Tryz.prog 26 [.str t, .str u] (.bool true) := by
  obtain ⟨a, b, hab⟩ := h
  have hlen : t.length = a.length + u.length + b.length := by rw [hab, List.length_append, List.length_append]
  have hat : (t.take (a.length + u.length)).drop a.length = u := by
    rw [hab, List.take_append_of_le_length (by simp), List.take_of_length_le (by simp)]
    simp
  intro S
  refine CallTo.of (n := 24) Tryz.func26 rfl rfl ?_
  repeat' first | refine .std ?_ | refine .nil ?_ | refine .seq ?_ | refine .region ?_ | refine .xs ?_ | refine .kb ?_ | refine .leaf ?_ | refine .block ?_ | refine .gn ?_ | refine .dr ?_ | fail
  refine Go.weaken (E' := [(0, .str t), (1, .str u), (5, .int .i64 ((0 : Nat) : Int))]) ?_ ⟨rfl, rfl, rfl, trivial⟩
  refine Go.loop_ind (α := Nat) (fun i => a.length - i) (fun i E S' => E = [(0, .str t), (1, .str u), (5, .int .i64 (i : Int))] ∧ i ≤ a.length ∧ Same S S') ?_ 0 _ _ ⟨rfl, Nat.zero_le _, Same.refl S⟩
  rintro i E S1 ⟨rfl, hi, k1⟩ IH
  obtain ⟨q, hq⟩ : ∃ q, decide ((t.take (i + u.length)).drop i = u) = q := ⟨_, rfl⟩
  cases q
  case true =>
    repeat' first
     | refine Opl.val (op_int rfl rfl rfl (add_nat (a := i) (b := u.length) (by omega))) rfl ?_
     | refine Opl.val (op_int rfl rfl rfl (leq_i (q := true) (decide_eq_true (by omega)))) rfl ?_
     | refine Opl.val (op_slLH rfl rfl rfl (slice_str (i := i) (j := i + u.length) (by omega) (by omega))) rfl ?_
     | refine Opl.val (op_str rfl rfl (eql_s hq)) rfl ?_
     | refine Go.condT rfl ?_
     | exact At.fnr rfl rfl rfl ⟨rfl, k1⟩
     | refine .std ?_ | refine .nil ?_ | refine .seq ?_ | refine .region ?_ | refine .xs ?_ | refine .kb ?_ | refine .leaf ?_ | refine .block ?_ | refine .gn ?_ | refine .dr ?_ | fail
  case false =>
    have hne : i ≠ a.length := by
      intro e
      subst e
      rw [hat] at hq
      simp at hq
    repeat' first
     | refine Opl.val (op_int rfl rfl rfl (add_nat (a := i) (b := u.length) (by omega))) rfl ?_
     | refine Opl.val (op_int rfl rfl rfl (leq_i (q := true) (decide_eq_true (by omega)))) rfl ?_
     | refine Opl.val (op_slLH rfl rfl rfl (slice_str (i := i) (j := i + u.length) (by omega) (by omega))) rfl ?_
     | refine Opl.val (op_str rfl rfl (eql_s hq)) rfl ?_
     | refine Opl.val (op_int rfl rfl rfl (inc_ok (i := i) (by omega))) rfl ?_
     | refine Go.condT rfl ?_
     | refine Go.condF rfl ?_
     | refine .std ?_ | refine .nil ?_ | refine .seq ?_ | refine .region ?_ | refine .xs ?_ | refine .kb ?_ | refine .leaf ?_ | refine .block ?_ | refine .gn ?_ | refine .dr ?_ | fail
    exact (IH (i + 1) _ _ (by omega) ⟨rfl, by omega, k1⟩).weaken ⟨rfl, rfl, rfl, trivial⟩
def LsxV (U S : St) (v : V) (l : List Ex) : Prop := ∃ es tk, v = .list (some 27) 7 es tk ∧ All2 ExV l es ∧ (tk = .exact ∨ ∃ k, tk = .own k ∧ U.next ≤ k ∧ k < S.next ∧ S.h.find k = some .tok)
theorem LsxV.same {U S S' : St} {v : V} {l : List Ex} (h : LsxV U S v l) (k : Same S S') : LsxV U S' v l := by
  obtain ⟨es, tk, h1, h2, h3⟩ := h
  refine ⟨es, tk, h1, h2, ?_⟩
  rcases h3 with h3 | ⟨j, a, b, c, d⟩
  · exact .inl h3
  · exact .inr ⟨j, a, b, Nat.lt_of_lt_of_le c k.next, by rw [k.find _ c]; exact d⟩
theorem all2_append {α : Type} {R : α → V → Prop} {l m : List α} {vs ws : List V} (h : All2 R l vs) (k : All2 R m ws) : All2 R (l ++ m) (vs ++ ws) := by
  refine ⟨by simp [h.1, k.1], fun i a v h1 h2 => ?_⟩
  by_cases hi : i < l.length
  · rw [List.getElem?_append_left hi] at h1
    rw [List.getElem?_append_left (by rw [← h.1]; exact hi)] at h2
    exact h.2 i a v h1 h2
  · rw [List.getElem?_append_right (by omega)] at h1
    rw [List.getElem?_append_right (by rw [← h.1]; omega), ← h.1] at h2
    exact k.2 _ a v h1 h2
theorem readS_ex {S : St} {v : V} (h : isLn 7 v) : readS S true 7 v = some (elems v) := by
  rcases h with rfl | rfl | ⟨_, _, _, rfl⟩ <;> rfl
theorem app_lsx {U S : St} {v y : V} {l m : List Ex} (h : LsxV U S v l) (k0 : Same U S) (hy : isLn 7 y) (hm : All2 ExV m (elems y)) (hr : l.length + m.length ≤ 1000000) :
    ∃ v' S', appendE Tryz.prog 24 24 v y S = some (v', S') ∧ LsxV U S' v' (l ++ m) ∧ Same U S' := by
  obtain ⟨es, tk, rfl, he, htk⟩ := h
  have hrd := readS_ex (S := S) hy
  have happ : App Tryz.prog 24 24 27 7 true 120 := inferInstance
  obtain ⟨i, ud, z, h1, h2, h3, h4, h5, h6, h7, h8, h9⟩ := happ.inf
  have hall : (elems y).all (fun v => Nat.beq v.cells.length 7 && v.cells.all V.one) = true := List.all_eq_true.2 fun z hz => by
    obtain ⟨j, hj⟩ := List.getElem?_of_mem hz
    obtain ⟨x, v, hx, hv, hR, _⟩ := hm.at (i := j) (List.getElem?_eq_some_iff.1 hj).1
    rw [hj] at hv
    obtain rfl := Option.some.inj hv
    rw [hR.len7, hR.ones]; rfl
  have hb : Nat.ble 1 7 = true := rfl
  have hle := he.1
  have hlm := hm.1
  have hroom : roomOk (es.length + (elems y).length) 120 = true := by
    unfold roomOk
    rw [Nat.ble_eq_true_of_le (by omega), Nat.ble_eq_true_of_le (by omega)]; rfl
  by_cases hne : (elems y).isEmpty = true
  · have hnil : elems y = [] := by simpa using hne
    have hm0 : m = [] := by
      rw [hnil] at hlm
      exact List.length_eq_zero_iff.1 hlm
    subst hm0
    refine ⟨_, S, ?_, ⟨es, tk, rfl, by simpa using he, htk⟩, k0⟩
    unfold appendE
    rw [happ.el]
    simp only [h1, h4, h5, h7, h6, h2, hb, h8, Nat.beq_refl, hrd, hall, hne, Bool.not_true, Bool.or_false, Bool.false_eq_true, if_false, if_true]
  · have hne : (elems y).isEmpty = false := by simpa using hne
    rcases htk with rfl | ⟨k, rfl, hk, hlt, hf⟩
    · refine ⟨_, _, ?_, ⟨es ++ elems y, .own S.next, rfl, all2_append he hm, .inr ⟨S.next, rfl, k0.next, by simp [St.new], by simp [St.new, Tr.find_put]⟩⟩, k0.trans (Same.new S .tok)⟩
      unfold appendE
      rw [happ.el]
      simp only [h1, h4, h5, h7, h6, h2, h3, hb, h8, Nat.beq_refl, hrd, hall, hne, hroom, Bool.not_true, Bool.or_false, Bool.false_eq_true, if_false, if_true]
    · refine ⟨_, _, ?_, ⟨es ++ elems y, .own S.next, rfl, all2_append he hm, .inr ⟨S.next, rfl, k0.next, by simp [St.new], by simp [St.new, Tr.find_put]⟩⟩, k0.roll hk⟩
      unfold appendE
      rw [happ.el]
      simp only [h1, h4, h5, h7, h6, h2, h3, hb, h8, Nat.beq_refl, hrd, hall, hne, hroom, hf, Bool.not_true, Bool.or_false, Bool.false_eq_true, if_false, if_true]
theorem bs_none : buildSliceE Tryz.prog 24 0 [] = some (.list (some 27) 7 [] .exact) := by kernel_rfl
theorem bsl_ex : ∀ (ds : List V), ds.length = 7 → buildSliceE Tryz.prog 24 1 [(0, .agg ds)] = some (.list (some 27) 7 [.agg ds] .exact)
  | [a, b, c, d, e, f, g], _ => by kernel_rfl
set_option maxHeartbeats 4000000 in
theorem partsF {e : Ex} {cs : List V} (he : ExC e cs) (hsm : e.l.length ≤ 1000 ∧ e.arms.length ≤ 1000) : PuQ Tryz.prog 25 [.agg cs] (fun v => ∃ es tk, v = .list (some 27) 7 es tk ∧ All2 ExV e.parts es) := by
  obtain ⟨nv, lv, av, rfl, hk, hn, hs, ht, hnm, hl, hll, ha, hal, hL, hA⟩ := he.inv
  have hal : (elems av).length ≤ 9223372036854775807 := hal
  have eA : e.arms.length = (elems av).length := hA.1
  intro S
  obtain ⟨U, hU, bx, s0⟩ := box1 S 27 [.int .i64 e.kind, .int .i64 e.n, .str e.s, .str e.t, nv, lv, av]
  have k0 : Same U U := Same.refl U
  have l0 : LsxV U U (.list (some 27) 7 [] .exact) [] := ⟨[], .exact, rfl, All2.nil _, .inl rfl⟩
  obtain ⟨v1, S1, happ1, l1, k1⟩ := app_lsx l0 k0 hl hL (by simp; omega)
  rw [List.nil_append] at l1
  refine CallTo.of (n := 26) Tryz.func25 rfl rfl ?_
  repeat' first
   | refine Opl.val (op_box rfl) rfl (Opl.cast (S' := U) ?_ hU)
   | refine Opl.val (op_bsG rfl bs_none) rfl ?_
   | refine Opl.val (op_load rfl (ld_bx bx (by assumption) _ rfl)) rfl ?_
   | refine Opl.val (op_app rfl rfl happ1) rfl ?_
   | refine .std ?_ | refine .nil ?_ | refine .seq ?_ | refine .region ?_ | refine .xs ?_ | refine .kb ?_ | refine .leaf ?_ | refine .block ?_ | refine .gn ?_ | refine .dr ?_ | fail
  refine Go.weaken (E' := [(1, .ptr S.next 0), (3, v1), (4, .int .i64 ((0 : Nat) : Int))]) ?_ ⟨rfl, rfl, rfl, trivial⟩
  refine Go.loop_ind (α := Nat) (fun i => (elems av).length - i) (fun i E S' => (∃ v, E = [(1, .ptr S.next 0), (3, v), (4, .int .i64 (i : Nat))] ∧ LsxV U S' v (e.l ++ (e.arms.take i).map Ar.body)) ∧ i ≤ (elems av).length ∧ Same U S') ?_ 0 _ _ ⟨⟨v1, rfl, by simpa using l1⟩, Nat.zero_le _, k1⟩
  rintro i E S2 ⟨⟨v, rfl, l2⟩, hi, k2⟩ IH
  repeat' first
   | refine Opl.val (op_load rfl (ld_bx bx k2 _ rfl)) rfl ?_
   | refine Opl.val (op_lenL rfl ha.isL rfl) rfl ?_
   | refine Opl.fresh (op_int rfl rfl rfl rfl) rfl (fun q hq => ?_)
   | refine .std ?_ | refine .nil ?_ | refine .seq ?_ | refine .region ?_ | refine .xs ?_ | refine .kb ?_ | refine .leaf ?_ | refine .block ?_ | refine .gn ?_ | refine .dr ?_ | fail
  refine Go.cond rfl (fun hq => ?_) (fun hq => ?_)
  · subst hq
    have hq : i < (elems av).length := by have := of_decide_eq_true (by assumption : decide ((i : Int) < ((elems av).length : Nat)) = true); omega
    obtain ⟨a, u, hx, hix, hu, hm⟩ := hA.at hq
    obtain ⟨nv2, ds, hcv, ho, hn2, hbd⟩ := hu
    have hpt : ∀ S, Pt S (.cptr none u.cells 0) (.str a.op :: nv2 :: ds) := fun S => by rw [hcv]; exact Pt.cptr _ _ _
    have hbs : buildSliceE Tryz.prog 24 1 [(0, .agg ds)] = some (.list (some 27) 7 [.agg ds] .exact) := bsl_ex ds hbd.len7
    obtain ⟨v3, S3, happ3, l3, k3⟩ := app_lsx (y := .list (some 27) 7 [.agg ds] .exact) (m := [a.body]) l2 k2 (.inr (.inr ⟨_, _, _, rfl⟩)) (All2.cons hbd (All2.nil _)) (by simp; omega)
    have hst : e.l ++ (e.arms.take (i + 1)).map Ar.body = (e.l ++ (e.arms.take i).map Ar.body) ++ [a.body] := by
      obtain ⟨hlt, rfl⟩ := List.getElem?_eq_some_iff.1 hx
      rw [List.take_succ_eq_append_getElem hlt, List.map_append, ← List.append_assoc]; rfl
    repeat' first
     | refine Opl.val (op_load rfl (ld_bx bx k2 _ rfl)) rfl ?_
     | refine Opl.val (op_ixaV ha rfl rfl hix) rfl ?_
     | refine Opl.val (op_load rfl (ld_agg ((hpt _).drop 2) hbd.len7)) rfl ?_
     | refine Opl.val (op_bsG rfl hbs) rfl ?_
     | refine Opl.val (op_app rfl rfl happ3) rfl ?_
     | refine Opl.val (op_int rfl rfl rfl (inc_ok (i := i) (by omega))) rfl ?_
     | refine .std ?_ | refine .nil ?_ | refine .seq ?_ | refine .region ?_ | refine .xs ?_ | refine .kb ?_ | refine .leaf ?_ | refine .block ?_ | refine .gn ?_ | refine .dr ?_ | fail
    exact (IH (i + 1) _ _ (by omega) ⟨⟨v3, rfl, by rw [hst]; exact l3⟩, by omega, k3⟩).weaken ⟨rfl, rfl, rfl, trivial⟩
  · subst hq
    have hq : (elems av).length ≤ i := by have := of_decide_eq_false (by assumption : decide ((i : Int) < ((elems av).length : Nat)) = false); omega
    have hnil : e.arms.take i = e.arms := List.take_of_length_le (by omega)
    rw [hnil] at l2
    obtain ⟨es, tk, rfl, h2, _⟩ := l2
    repeat' first | refine .std ?_ | refine .nil ?_ | refine .seq ?_ | refine .region ?_ | refine .xs ?_ | refine .kb ?_ | refine .leaf ?_ | refine .block ?_ | refine .gn ?_ | refine .dr ?_ | fail
    exact At.fnr rfl rfl rfl ⟨⟨es, tk, rfl, h2⟩, s0.trans k2⟩
end Go.Proofs.YtodiioeddlmjhaaGreatDoor
