import Derived.Test.YtodiioeddlmjhaaGreatDoorV7
import Derived.Test.YtodiioeddlmjhaaGreatDoorV5
set_option linter.unusedVariables false
set_option linter.unusedSimpArgs false
namespace Go.Proofs.YtodiioeddlmjhaaGreatDoor
open Go.RowKit Go.Ev
set_option maxRecDepth 100000
set_option linter.unusedVariables false
set_option linter.unusedSimpArgs false
attribute [local irreducible] Go.Ev.opE
theorem pd_nil (id : Nat) : isLn 1 .nils ∧ (elems .nils).length ≤ huge ∧ All2 (PcV id) [] (elems .nils) := ⟨.inl rfl, Nat.zero_le _, All2.nil _⟩
theorem pd_two (id : Nat) {a w : List UInt8} {cs : List V} (ha : a.length ≤ huge) (hc : cs.length = 7) (ho : cs.all V.one = true) (c : Prc 50 [.ptr id 0, .agg cs] id w) :
    isLn 1 (.list (some 20) 1 [.iface 9 (.str a), .iface 27 (.agg cs)] .exact) ∧ (elems (.list (some 20) 1 [.iface 9 (.str a), .iface 27 (.agg cs)] .exact)).length ≤ huge ∧ All2 (PcV id) [a, w] (elems (.list (some 20) 1 [.iface 9 (.str a), .iface 27 (.agg cs)] .exact)) :=
  ⟨.inr (.inr ⟨_, _, _, rfl⟩), by show 2 ≤ huge; decide, All2.cons (.inl ⟨rfl, ha⟩) (All2.cons (.inr ⟨cs, rfl, hc, ho, c⟩) (All2.nil _))⟩
theorem pd_four (id : Nat) {a w d u : List UInt8} {cs ds : List V} (ha : a.length ≤ huge) (hc : cs.length = 7) (ho : cs.all V.one = true) (c : Prc 50 [.ptr id 0, .agg cs] id w) (hd : d.length ≤ huge) (hc2 : ds.length = 7) (ho2 : ds.all V.one = true) (c2 : Prc 50 [.ptr id 0, .agg ds] id u) :
    isLn 1 (.list (some 20) 1 [.iface 9 (.str a), .iface 27 (.agg cs), .iface 9 (.str d), .iface 27 (.agg ds)] .exact) ∧ (elems (.list (some 20) 1 [.iface 9 (.str a), .iface 27 (.agg cs), .iface 9 (.str d), .iface 27 (.agg ds)] .exact)).length ≤ huge ∧ All2 (PcV id) [a, w, d, u] (elems (.list (some 20) 1 [.iface 9 (.str a), .iface 27 (.agg cs), .iface 9 (.str d), .iface 27 (.agg ds)] .exact)) :=
  ⟨.inr (.inr ⟨_, _, _, rfl⟩), by show 4 ≤ huge; decide, All2.cons (.inl ⟨rfl, ha⟩) (All2.cons (.inr ⟨cs, rfl, hc, ho, c⟩) (All2.cons (.inl ⟨rfl, hd⟩) (All2.cons (.inr ⟨ds, rfl, hc2, ho2, c2⟩) (All2.nil _))))⟩
set_option maxHeartbeats 32000000 in
theorem exprB (id : Nat) {e : Ex} {cs : List V} (he : ExC e cs) (hf : ExF e) (hok : ∀ x ∈ e.parts, nodesE x = 0) (hrec : Rec id e) (hk : e.kind = 6 ∨ e.kind = 7 ∨ e.kind = 8 ∨ e.kind = 9 ∨ e.kind = 17) : Prc 50 [.ptr id 0, .agg cs] id (textE e) := by
  have ca := fun h => atomsT id he hf hrec h
  have cn := fun h => atomsN id he h
  have cc := fun h => callsT id he hf hok hrec h
  have cd := fun h => callsN id he h
  have clv := levelF he hf.k0 hf.k1
  have he' := he
  obtain ⟨nv, lv, av, rfl, hk64, hn64, hs, ht, ⟨hnl, hnll, hnA⟩, hl, hll, ha, hal, hL, hA⟩ := he.inv
  have h7 : ([.int .i64 e.kind, .int .i64 e.n, .str e.s, .str e.t, nv, lv, av] : List V).length = 7 := rfl
  intro S s hp _ hlen
  obtain ⟨U, hU, b2, ks, p0⟩ := box_ex hp [.int .i64 e.kind, .int .i64 e.n, .str e.s, .str e.t, nv, lv, av]
  have k0 : KeepB U U id := KeepB.refl U id
  have e1 : e.l.length = (elems lv).length := hL.1
  have en : e.names.length = (elems nv).length := hnA.1
  have hat : ∀ x ∈ e.l, ∀ cs, ExC x cs → ∀ n : Int, Prc 106 [.ptr id 0, .agg cs, .int .i64 n] id ((partW x).at n) := fun x hx cs hc n => by
    have hfx := (nodes_ok (hok x (mem_l hx))).1
    exact atF id hc hfx.k0 hfx.k1 n (hrec x (mem_l hx) cs hc)
  have hcs : [V.int .i64 e.kind, .int .i64 e.n, .str e.s, .str e.t, nv, lv, av] = [V.int .i64 e.kind, .int .i64 e.n, .str e.s, .str e.t, nv, lv, av] := rfl
  refine CallTo.of (n := 137) Tryz.func50 rfl rfl ?_
  rcases hk with h | h | h | h | h
  · have cA := cn (by rw [h]; decide)
    have cC := cd (by rw [h]; decide)
    rw [h] at hU b2 h7 cA cC
    rw [textE_eq] at hlen ⊢
    rw [h] at hlen ⊢
    rw [nw6] at hlen ⊢
    have hl1 : 2 ≤ e.l.length := by
      obtain ⟨x, hx, _, _, _, _, _, _, h3, _⟩ := hf.shape
      rw [h] at hx
      have := Option.some.inj hx
      subst this; exact h3
    obtain ⟨x, v, hx, hix, hvx, hmx⟩ := hL.at (i := 0) (by omega)
    have hlx := hvx.len7
    have hox := hvx.ones
    have cx := hrec x (mem_l hmx) _ hvx
    obtain ⟨y, w, hy, hiy, hvy, hmy⟩ := hL.at (i := 1) (by omega)
    have hly := hvy.len7
    have hoy := hvy.ones
    have cy := hrec y (mem_l hmy) _ hvy
    rw [ptW_at hx, ptW_at hy, show (partW x).2 = textE x from rfl, show (partW y).2 = textE y from rfl] at hlen ⊢
    have cj := joinF (ws := e.names) (lv := nv) ⟨hnl, hnll, hnA⟩ hf.nm hf.nmc (by_ := [32]) ⟨by decide, by decide⟩
    have hjl := joinW_len [32] 12 e.names fun w hw => (hf.nm w hw).1
    have hnc := hf.nmc
    simp only [List.length_cons, List.length_nil] at hjl
    generalize joinW [32] e.names = J at *
    simp only [List.length_append, List.length_cons, List.length_nil] at hlen
    have cp := pd_two id (a := [32, 105, 110, 32]) (by decide) hly hoy cy
    have cw := wordsF id (w0 := [108, 101, 116, 32] ++ J ++ [32, 61, 32]) hlx (by simp only [List.length_append, List.length_cons, List.length_nil]; show _ ≤ 9223372036854775807; omega) cx cp.1 cp.2.1 cp.2.2
    repeat' first
     | refine Opl.val (op_box rfl) rfl (Opl.cast (S' := U) ?_ hU)
     | refine Opl.val (op_load rfl (ld_pA b2 (by assumption) h7)) rfl ?_
     | refine Opl.val (op_load rfl (ld_p b2 (by assumption) _ rfl)) rfl ?_
     | refine Opl.callV (U0 := U) (by assumption) (by assumption) rfl (by kernel_rfl) cA (by simp only [List.length_nil]; omega) rfl (fun S2 p2 k2 => ?_)
     | refine Opl.callV (U0 := U) (by assumption) (by assumption) rfl (by kernel_rfl) cC (by simp only [List.length_append, List.length_nil]; omega) rfl (fun S3 p3 k3 => ?_)
     | refine op_gyes rfl ?_ rfl
     | refine .gn ?_
     | refine Go.condT rfl ?_
     | refine Go.condF rfl ?_
     | refine Go.draw [0, 0, 0, 4, 12, 30, 62, 0, 128, 384, 896, 0, 0, 4096, 12288, 28672, 61440, 129024, 262143] [2, 3, 4, 0, 1, 5, 6, 7, 8, 9, 10, 11, 12, 13, 14, 15, 16, 17, 18] (by kernel_rfl) (Kpb U id) ?_
     | refine Drw.c0 rfl rfl (op_move rfl) rfl ?_
     | refine Drw.c0 rfl rfl (op_fld rfl rfl) rfl ?_
     | refine Drw.c0 rfl rfl (op_mk rfl) rfl ?_
     | refine Drw.c0 rfl rfl (op_str rfl rfl (str_add (by (try simp only [List.length_append, List.length_cons, List.length_nil]); omega))) rfl ?_
     | refine Drw.c0 rfl rfl (op_bsG rfl (bsA2 _ _)) rfl ?_
     | refine Drw.c0 rfl rfl (op_bsG rfl (bsA4 _ _ _ _)) rfl ?_
     | refine Drw.c2g rfl rfl (by assumption) (by assumption) (fun U hU => op_load rfl (ld_p b2 hU _ rfl)) rfl ?_
     | refine Drw.c0 rfl rfl (op_ixaV (i := 0) hl rfl rfl hix) rfl ?_
     | refine Drw.c2g rfl rfl (by assumption) (by assumption) (fun U hU => op_load rfl (ld_agg (Pt.cptr _ _ _) hlx)) rfl ?_
     | refine Drw.c0 rfl rfl (op_ixaV (i := 1) hl rfl rfl hiy) rfl ?_
     | refine Drw.c2g rfl rfl (by assumption) (by assumption) (fun U hU => op_load rfl (ld_agg (Pt.cptr _ _ _) hly)) rfl ?_
     | refine Drw.callU (U0 := U) (by assumption) (by assumption) rfl rfl (by kernel_rfl) cj rfl (fun S8 p8 k8 => ?_)
     | refine Drw.callP (U0 := U) (by assumption) (by assumption) rfl rfl (by kernel_rfl) cw trivial (by (try simp only [List.length_append, List.length_cons, List.length_nil, List.length_flatten, List.map_cons, List.map_nil, List.sum_cons, List.sum_nil]); omega) rfl (fun v S9 p9 k9 => ?_)
     | refine Drw.nil ?_
     | exact At.fn rfl rfl rfl ⟨Prn.eq (by assumption) (by simp only [List.append_assoc, List.append_nil, List.nil_append, List.flatten_cons, List.flatten_nil]), ks.trans (by assumption)⟩
     | refine .std ?_ | refine .nil ?_ | refine .seq ?_ | refine .region ?_ | refine .xs ?_ | refine .kb ?_ | refine .leaf ?_ | refine .block ?_ | refine .gn ?_ | refine .dr ?_ | fail
  · have cA := cn (by rw [h]; decide)
    have cC := cd (by rw [h]; decide)
    rw [h] at hU b2 h7 cA cC
    rw [textE_eq] at hlen ⊢
    rw [h] at hlen ⊢
    rw [nw7] at hlen ⊢
    have hl1 : 2 ≤ e.l.length := by
      obtain ⟨x, hx, _, _, _, _, _, _, h3, _⟩ := hf.shape
      rw [h] at hx
      have := Option.some.inj hx
      subst this; exact h3
    obtain ⟨x, v, hx, hix, hvx, hmx⟩ := hL.at (i := 0) (by omega)
    have hlx := hvx.len7
    have hox := hvx.ones
    have cx := hrec x (mem_l hmx) _ hvx
    obtain ⟨y, w, hy, hiy, hvy, hmy⟩ := hL.at (i := 1) (by omega)
    have hly := hvy.len7
    have hoy := hvy.ones
    have cy := hrec y (mem_l hmy) _ hvy
    rw [ptW_at hx, ptW_at hy, show (partW x).2 = textE x from rfl, show (partW y).2 = textE y from rfl] at hlen ⊢
    have cj := joinF (ws := e.names) (lv := nv) ⟨hnl, hnll, hnA⟩ hf.nm hf.nmc (by_ := [32]) ⟨by decide, by decide⟩
    have hjl := joinW_len [32] 12 e.names fun w hw => (hf.nm w hw).1
    have hnc := hf.nmc
    simp only [List.length_cons, List.length_nil] at hjl
    generalize joinW [32] e.names = J at *
    simp only [List.length_append, List.length_cons, List.length_nil] at hlen
    have cp := pd_two id (a := [32, 105, 110, 32]) (by decide) hly hoy cy
    have cw := wordsF id (w0 := [114, 101, 99, 32] ++ J ++ [32, 61, 32]) hlx (by simp only [List.length_append, List.length_cons, List.length_nil]; show _ ≤ 9223372036854775807; omega) cx cp.1 cp.2.1 cp.2.2
    repeat' first
     | refine Opl.val (op_box rfl) rfl (Opl.cast (S' := U) ?_ hU)
     | refine Opl.val (op_load rfl (ld_pA b2 (by assumption) h7)) rfl ?_
     | refine Opl.val (op_load rfl (ld_p b2 (by assumption) _ rfl)) rfl ?_
     | refine Opl.callV (U0 := U) (by assumption) (by assumption) rfl (by kernel_rfl) cA (by simp only [List.length_nil]; omega) rfl (fun S2 p2 k2 => ?_)
     | refine Opl.callV (U0 := U) (by assumption) (by assumption) rfl (by kernel_rfl) cC (by simp only [List.length_append, List.length_nil]; omega) rfl (fun S3 p3 k3 => ?_)
     | refine op_gyes rfl ?_ rfl
     | refine .gn ?_
     | refine Go.condT rfl ?_
     | refine Go.condF rfl ?_
     | refine Go.draw [0, 0, 0, 4, 12, 30, 62, 0, 128, 384, 896, 0, 0, 4096, 12288, 28672, 61440, 129024, 262143] [2, 3, 4, 0, 1, 5, 6, 7, 8, 9, 10, 11, 12, 13, 14, 15, 16, 17, 18] (by kernel_rfl) (Kpb U id) ?_
     | refine Drw.c0 rfl rfl (op_move rfl) rfl ?_
     | refine Drw.c0 rfl rfl (op_fld rfl rfl) rfl ?_
     | refine Drw.c0 rfl rfl (op_mk rfl) rfl ?_
     | refine Drw.c0 rfl rfl (op_str rfl rfl (str_add (by (try simp only [List.length_append, List.length_cons, List.length_nil]); omega))) rfl ?_
     | refine Drw.c0 rfl rfl (op_bsG rfl (bsA2 _ _)) rfl ?_
     | refine Drw.c0 rfl rfl (op_bsG rfl (bsA4 _ _ _ _)) rfl ?_
     | refine Drw.c2g rfl rfl (by assumption) (by assumption) (fun U hU => op_load rfl (ld_p b2 hU _ rfl)) rfl ?_
     | refine Drw.c0 rfl rfl (op_ixaV (i := 0) hl rfl rfl hix) rfl ?_
     | refine Drw.c2g rfl rfl (by assumption) (by assumption) (fun U hU => op_load rfl (ld_agg (Pt.cptr _ _ _) hlx)) rfl ?_
     | refine Drw.c0 rfl rfl (op_ixaV (i := 1) hl rfl rfl hiy) rfl ?_
     | refine Drw.c2g rfl rfl (by assumption) (by assumption) (fun U hU => op_load rfl (ld_agg (Pt.cptr _ _ _) hly)) rfl ?_
     | refine Drw.callU (U0 := U) (by assumption) (by assumption) rfl rfl (by kernel_rfl) cj rfl (fun S8 p8 k8 => ?_)
     | refine Drw.callP (U0 := U) (by assumption) (by assumption) rfl rfl (by kernel_rfl) cw trivial (by (try simp only [List.length_append, List.length_cons, List.length_nil, List.length_flatten, List.map_cons, List.map_nil, List.sum_cons, List.sum_nil]); omega) rfl (fun v S9 p9 k9 => ?_)
     | refine Drw.nil ?_
     | exact At.fn rfl rfl rfl ⟨Prn.eq (by assumption) (by simp only [List.append_assoc, List.append_nil, List.nil_append, List.flatten_cons, List.flatten_nil]), ks.trans (by assumption)⟩
     | refine .std ?_ | refine .nil ?_ | refine .seq ?_ | refine .region ?_ | refine .xs ?_ | refine .kb ?_ | refine .leaf ?_ | refine .block ?_ | refine .gn ?_ | refine .dr ?_ | fail
  · have cA := cn (by rw [h]; decide)
    have cC := cd (by rw [h]; decide)
    rw [h] at hU b2 h7 cA cC
    rw [textE_eq] at hlen ⊢
    rw [h] at hlen ⊢
    rw [nw8] at hlen ⊢
    have hl1 : 3 ≤ e.l.length := by
      obtain ⟨x, hx, _, _, _, _, _, _, h3, _⟩ := hf.shape
      rw [h] at hx
      have := Option.some.inj hx
      subst this; exact h3
    obtain ⟨x, v, hx, hix, hvx, hmx⟩ := hL.at (i := 0) (by omega)
    have hlx := hvx.len7
    have hox := hvx.ones
    have cx := hrec x (mem_l hmx) _ hvx
    obtain ⟨y, w, hy, hiy, hvy, hmy⟩ := hL.at (i := 1) (by omega)
    have hly := hvy.len7
    have hoy := hvy.ones
    have cy := hrec y (mem_l hmy) _ hvy
    obtain ⟨z, u2, hz, hiz, hvz, hmz⟩ := hL.at (i := 2) (by omega)
    have hlz := hvz.len7
    have hoz := hvz.ones
    have cz := hrec z (mem_l hmz) _ hvz
    rw [ptW_at hx, ptW_at hy, ptW_at hz, show (partW x).2 = textE x from rfl, show (partW y).2 = textE y from rfl, show (partW z).2 = textE z from rfl] at hlen ⊢
    simp only [List.length_append, List.length_cons, List.length_nil] at hlen
    have cp := pd_four id (a := [32, 116, 104, 101, 110, 32]) (d := [32, 101, 108, 115, 101, 32]) (by decide) hly hoy cy (by decide) hlz hoz cz
    have cw := wordsF id (w0 := [105, 102, 32]) hlx (by decide) cx cp.1 cp.2.1 cp.2.2
    repeat' first
     | refine Opl.val (op_box rfl) rfl (Opl.cast (S' := U) ?_ hU)
     | refine Opl.val (op_load rfl (ld_pA b2 (by assumption) h7)) rfl ?_
     | refine Opl.val (op_load rfl (ld_p b2 (by assumption) _ rfl)) rfl ?_
     | refine Opl.callV (U0 := U) (by assumption) (by assumption) rfl (by kernel_rfl) cA (by simp only [List.length_nil]; omega) rfl (fun S2 p2 k2 => ?_)
     | refine Opl.callV (U0 := U) (by assumption) (by assumption) rfl (by kernel_rfl) cC (by simp only [List.length_append, List.length_nil]; omega) rfl (fun S3 p3 k3 => ?_)
     | refine Opl.val (op_ixaV (i := 0) hl rfl rfl hix) rfl ?_
     | refine Opl.val (op_load rfl (ld_agg (Pt.cptr _ _ _) hlx)) rfl ?_
     | refine Opl.val (op_ixaV (i := 1) hl rfl rfl hiy) rfl ?_
     | refine Opl.val (op_load rfl (ld_agg (Pt.cptr _ _ _) hly)) rfl ?_
     | refine Opl.val (op_ixaV (i := 2) hl rfl rfl hiz) rfl ?_
     | refine Opl.val (op_load rfl (ld_agg (Pt.cptr _ _ _) hlz)) rfl ?_
     | refine Opl.val (op_bsG rfl (bsA2 _ _)) rfl ?_
     | refine Opl.val (op_bsG rfl (bsA4 _ _ _ _)) rfl ?_
     | refine Opl.callP (U0 := U) (by assumption) (by assumption) rfl (by kernel_rfl) cw trivial (by (try simp only [List.length_append, List.length_cons, List.length_nil, List.length_flatten, List.map_cons, List.map_nil, List.sum_cons, List.sum_nil]); omega) rfl (fun v S4 p4 k4 => ?_)
     | refine op_gyes rfl ?_ rfl
     | refine .gn ?_
     | refine Go.condT rfl ?_
     | refine Go.condF rfl ?_
     | exact At.fn rfl rfl rfl ⟨Prn.eq (by assumption) (by simp only [List.append_assoc, List.append_nil, List.nil_append, List.flatten_cons, List.flatten_nil]), ks.trans (by assumption)⟩
     | refine .std ?_ | refine .nil ?_ | refine .seq ?_ | refine .region ?_ | refine .xs ?_ | refine .kb ?_ | refine .leaf ?_ | refine .block ?_ | refine .gn ?_ | refine .dr ?_ | fail
  · have cA := cn (by rw [h]; decide)
    have cC := cd (by rw [h]; decide)
    rw [h] at hU b2 h7 cA cC
    rw [textE_eq] at hlen ⊢
    rw [h] at hlen ⊢
    rw [nw9] at hlen ⊢
    have hl1 : 2 ≤ e.l.length := by
      obtain ⟨x, hx, _, _, _, _, _, _, h3, _⟩ := hf.shape
      rw [h] at hx
      have := Option.some.inj hx
      subst this; exact h3
    obtain ⟨x, v, hx, hix, hvx, hmx⟩ := hL.at (i := 0) (by omega)
    have hlx := hvx.len7
    have hox := hvx.ones
    have cx := hrec x (mem_l hmx) _ hvx
    obtain ⟨y, w, hy, hiy, hvy, hmy⟩ := hL.at (i := 1) (by omega)
    have hly := hvy.len7
    have hoy := hvy.ones
    have cy := hrec y (mem_l hmy) _ hvy
    rw [ptW_at hx, ptW_at hy] at hlen ⊢
    rw [h] at clv
    obtain ⟨n, hn⟩ : ∃ n, levE 9 e.s = n := ⟨_, rfl⟩
    have hn13 : 1 ≤ n ∧ n ≤ 3 := by
      rw [← hn]
      show 1 ≤ (if e.s = [42] then (3 : Int) else if e.s = [43] ∨ e.s = [45] then 2 else 1) ∧ (if e.s = [42] then (3 : Int) else if e.s = [43] ∨ e.s = [45] then 2 else 1) ≤ 3
      split <;> (try split) <;> decide
    rw [hn] at clv hlen ⊢
    have hadd : intOp .add .i64 n 1 = some (.int .i64 (n + 1)) := by
      have : IntKind.wrap .i64 (n + 1) = n + 1 := wrap_i64_id (by constructor <;> omega)
      simp only [intOp, this]
    have f2 := put3F id (lt := some 9) (tk := .exact) (a := [32]) (b := e.s) (c := [32]) (by decide) hs (by decide)
    have cx1 := hat x hmx _ hvx (if n = 1 then 2 else n)
    have cy1 := hat y hmy _ hvy (n + 1)
    by_cases h1 : n = 1
    · rw [if_pos h1] at hlen cx1 ⊢
      simp only [List.length_append, List.length_cons, List.length_nil] at hlen
      repeat' first
       | refine Opl.val (op_box rfl) rfl (Opl.cast (S' := U) ?_ hU)
       | refine Opl.val (op_load rfl (ld_pA b2 (by assumption) h7)) rfl ?_
       | refine Opl.val (op_load rfl (ld_p b2 (by assumption) _ rfl)) rfl ?_
       | refine Opl.callV (U0 := U) (by assumption) (by assumption) rfl (by kernel_rfl) cA (by simp only [List.length_nil]; omega) rfl (fun S2 p2 k2 => ?_)
       | refine Opl.callV (U0 := U) (by assumption) (by assumption) rfl (by kernel_rfl) cC (by simp only [List.length_append, List.length_nil]; omega) rfl (fun S3 p3 k3 => ?_)
       | refine Opl.val (op_ixaV (i := 0) hl rfl rfl hix) rfl ?_
       | refine Opl.val (op_load rfl (ld_agg (Pt.cptr _ _ _) hlx)) rfl ?_
       | refine Opl.val (op_ixaV (i := 1) hl rfl rfl hiy) rfl ?_
       | refine Opl.val (op_load rfl (ld_agg (Pt.cptr _ _ _) hly)) rfl ?_
       | refine Opl.val (op_int rfl rfl rfl (eql_i (q := true) (decide_eq_true h1))) rfl ?_
       | refine Opl.val (op_int rfl rfl rfl hadd) rfl ?_
       | refine Opl.val (op_bsG rfl (bs3 _ _ _)) rfl ?_
       | refine Opl.callU (U0 := U) (by assumption) (by assumption) rfl (by kernel_rfl) clv rfl (fun S8 p8 k8 => ?_)
       | refine Opl.callP (U0 := U) (by assumption) (by assumption) rfl (by kernel_rfl) cx1 trivial (by (try simp only [List.length_append, List.length_cons, List.length_nil]); omega) rfl (fun v S4 p4 k4 => ?_)
       | refine Opl.callP (U0 := U) (by assumption) (by assumption) rfl (by kernel_rfl) f2 trivial (by (try simp only [List.length_append, List.length_cons, List.length_nil]); omega) rfl (fun v S5 p5 k5 => ?_)
       | refine Opl.callP (U0 := U) (by assumption) (by assumption) rfl (by kernel_rfl) cy1 trivial (by (try simp only [List.length_append, List.length_cons, List.length_nil]); omega) rfl (fun v S6 p6 k6 => ?_)
       | refine op_gyes rfl ?_ rfl
       | refine .gn ?_
       | refine Go.condT rfl ?_
       | refine Go.condF rfl ?_
       | exact At.fn rfl rfl rfl ⟨Prn.eq (by assumption) (by simp only [List.append_assoc, List.append_nil, List.nil_append, List.flatten_cons, List.flatten_nil]), ks.trans (by assumption)⟩
       | refine .std ?_ | refine .nil ?_ | refine .seq ?_ | refine .region ?_ | refine .xs ?_ | refine .kb ?_ | refine .leaf ?_ | refine .block ?_ | refine .gn ?_ | refine .dr ?_ | fail
    · rw [if_neg h1] at hlen cx1 ⊢
      simp only [List.length_append, List.length_cons, List.length_nil] at hlen
      repeat' first
       | refine Opl.val (op_box rfl) rfl (Opl.cast (S' := U) ?_ hU)
       | refine Opl.val (op_load rfl (ld_pA b2 (by assumption) h7)) rfl ?_
       | refine Opl.val (op_load rfl (ld_p b2 (by assumption) _ rfl)) rfl ?_
       | refine Opl.callV (U0 := U) (by assumption) (by assumption) rfl (by kernel_rfl) cA (by simp only [List.length_nil]; omega) rfl (fun S2 p2 k2 => ?_)
       | refine Opl.callV (U0 := U) (by assumption) (by assumption) rfl (by kernel_rfl) cC (by simp only [List.length_append, List.length_nil]; omega) rfl (fun S3 p3 k3 => ?_)
       | refine Opl.val (op_ixaV (i := 0) hl rfl rfl hix) rfl ?_
       | refine Opl.val (op_load rfl (ld_agg (Pt.cptr _ _ _) hlx)) rfl ?_
       | refine Opl.val (op_ixaV (i := 1) hl rfl rfl hiy) rfl ?_
       | refine Opl.val (op_load rfl (ld_agg (Pt.cptr _ _ _) hly)) rfl ?_
       | refine Opl.val (op_int rfl rfl rfl (eql_i (q := false) (decide_eq_false h1))) rfl ?_
       | refine Opl.val (op_int rfl rfl rfl hadd) rfl ?_
       | refine Opl.val (op_bsG rfl (bs3 _ _ _)) rfl ?_
       | refine Opl.callU (U0 := U) (by assumption) (by assumption) rfl (by kernel_rfl) clv rfl (fun S8 p8 k8 => ?_)
       | refine Opl.callP (U0 := U) (by assumption) (by assumption) rfl (by kernel_rfl) cx1 trivial (by (try simp only [List.length_append, List.length_cons, List.length_nil]); omega) rfl (fun v S4 p4 k4 => ?_)
       | refine Opl.callP (U0 := U) (by assumption) (by assumption) rfl (by kernel_rfl) f2 trivial (by (try simp only [List.length_append, List.length_cons, List.length_nil]); omega) rfl (fun v S5 p5 k5 => ?_)
       | refine Opl.callP (U0 := U) (by assumption) (by assumption) rfl (by kernel_rfl) cy1 trivial (by (try simp only [List.length_append, List.length_cons, List.length_nil]); omega) rfl (fun v S6 p6 k6 => ?_)
       | refine op_gyes rfl ?_ rfl
       | refine .gn ?_
       | refine Go.condT rfl ?_
       | refine Go.condF rfl ?_
       | exact At.fn rfl rfl rfl ⟨Prn.eq (by assumption) (by simp only [List.append_assoc, List.append_nil, List.nil_append, List.flatten_cons, List.flatten_nil]), ks.trans (by assumption)⟩
       | refine .std ?_ | refine .nil ?_ | refine .seq ?_ | refine .region ?_ | refine .xs ?_ | refine .kb ?_ | refine .leaf ?_ | refine .block ?_ | refine .gn ?_ | refine .dr ?_ | fail
  · have cA := cn (by rw [h]; decide)
    have cC := cd (by rw [h]; decide)
    rw [h] at hU b2 h7 cA cC
    rw [textE_eq] at hlen ⊢
    rw [h] at hlen ⊢
    rw [nw17] at hlen ⊢
    have hl1 : 3 ≤ e.l.length := by
      obtain ⟨x, hx, _, _, _, _, _, _, h3, _⟩ := hf.shape
      rw [h] at hx
      have := Option.some.inj hx
      subst this; exact h3
    have hnn : 1 ≤ e.names.length := by
      obtain ⟨x, hx, _, _, _, _, h3, _⟩ := hf.shape
      rw [h] at hx
      have := Option.some.inj hx
      subst this; exact h3
    obtain ⟨x, v, hx, hix, hvx, hmx⟩ := hL.at (i := 0) (by omega)
    have hlx := hvx.len7
    have hox := hvx.ones
    have cx := hrec x (mem_l hmx) _ hvx
    obtain ⟨y, w, hy, hiy, hvy, hmy⟩ := hL.at (i := 1) (by omega)
    have hly := hvy.len7
    have hoy := hvy.ones
    have cy := hrec y (mem_l hmy) _ hvy
    obtain ⟨z, u2, hz, hiz, hvz, hmz⟩ := hL.at (i := 2) (by omega)
    have hlz := hvz.len7
    have hoz := hvz.ones
    have cz := hrec z (mem_l hmz) _ hvz
    obtain ⟨nm, u, hnm, hinm, ⟨hcn, hnml⟩, hmnm⟩ := hnA.at (i := 0) (by omega)
    have hpt : ∀ S, Pt S (.cptr none u.cells 0) [.str nm] := fun S => by rw [hcn]; exact Pt.cptr _ _ _
    have hnw := (hf.nm nm hmnm).1
    rw [ptW_at hx, ptW_at hy, ptW_at hz, show (partW x).2 = textE x from rfl, show (partW y).2 = textE y from rfl, show (partW z).2 = textE z from rfl, nmW_at hnm] at hlen ⊢
    obtain ⟨mv, hsl, hmv⟩ := strs_drop (T := 23) (e := 9) u_strs sz_str ⟨hnl, hnll, hnA⟩ 1 (by omega)
    have hdw : ∀ w ∈ e.names.drop 1, w.length ≤ 12 ∧ w ≠ [] := fun w hw => hf.nm w (List.mem_of_mem_drop hw)
    have hnc := hf.nmc
    have hdc : (e.names.drop 1).length ≤ 13 := by rw [List.length_drop]; omega
    have cj := joinF (ws := e.names.drop 1) (lv := mv) hmv hdw hdc (by_ := [44, 32]) ⟨by decide, by decide⟩
    have hjl := joinW_len [44, 32] 12 (e.names.drop 1) fun w hw => (hdw w hw).1
    simp only [List.length_cons, List.length_nil] at hjl
    generalize joinW [44, 32] (e.names.drop 1) = J at *
    simp only [List.length_append, List.length_cons, List.length_nil] at hlen
    have cp := pd_four id (a := [32, 99, 108, 111, 115, 101, 32]) (d := [32, 105, 110, 32]) (by decide) hly hoy cy (by decide) hlz hoz cz
    have cw := wordsF id (w0 := [117, 115, 105, 110, 103, 32] ++ nm ++ [32, 91] ++ J ++ [93, 32, 61, 32]) hlx (by simp only [List.length_append, List.length_cons, List.length_nil]; show _ ≤ 9223372036854775807; omega) cx cp.1 cp.2.1 cp.2.2
    repeat' first
     | refine Opl.val (op_box rfl) rfl (Opl.cast (S' := U) ?_ hU)
     | refine Opl.val (op_load rfl (ld_pA b2 (by assumption) h7)) rfl ?_
     | refine Opl.val (op_load rfl (ld_p b2 (by assumption) _ rfl)) rfl ?_
     | refine Opl.callV (U0 := U) (by assumption) (by assumption) rfl (by kernel_rfl) cA (by simp only [List.length_nil]; omega) rfl (fun S2 p2 k2 => ?_)
     | refine Opl.callV (U0 := U) (by assumption) (by assumption) rfl (by kernel_rfl) cC (by simp only [List.length_append, List.length_nil]; omega) rfl (fun S3 p3 k3 => ?_)
     | refine op_gyes rfl ?_ rfl
     | refine .gn ?_
     | refine Go.condT rfl ?_
     | refine Go.condF rfl ?_
     | refine Go.draw [0, 0, 2, 6, 14, 30, 62, 0, 128, 384, 896, 2046, 4094, 0, 8192, 24576, 57344, 0, 0, 262144, 786432, 1835008, 3932160, 0, 0, 16777216, 50331648, 117440512, 251658240, 536739840, 1073741823] [7, 8, 9, 10, 0, 1, 2, 3, 4, 5, 6, 11, 12, 13, 14, 15, 16, 17, 18, 19, 20, 21, 22, 23, 24, 25, 26, 27, 28, 29, 30] (by kernel_rfl) (Kpb U id) ?_
     | refine Drw.c0 rfl rfl (op_move rfl) rfl ?_
     | refine Drw.c0 rfl rfl (op_fld rfl rfl) rfl ?_
     | refine Drw.c0 rfl rfl (op_mk rfl) rfl ?_
     | refine Drw.c0 rfl rfl (op_str rfl rfl (str_add (by (try simp only [List.length_append, List.length_cons, List.length_nil]); omega))) rfl ?_
     | refine Drw.c0 rfl rfl (op_bsG rfl (bsA2 _ _)) rfl ?_
     | refine Drw.c0 rfl rfl (op_bsG rfl (bsA4 _ _ _ _)) rfl ?_
     | refine Drw.c2g rfl rfl (by assumption) (by assumption) (fun U hU => op_load rfl (ld_p b2 hU _ rfl)) rfl ?_
     | refine Drw.c0 rfl rfl (op_slL rfl rfl hsl) rfl ?_
     | refine Drw.c0 rfl rfl (op_ixaV (i := 0) hnl rfl rfl hinm) rfl ?_
     | refine Drw.c2g rfl rfl (by assumption) (by assumption) (fun U hU => op_load rfl (ld_one (hpt _))) rfl ?_
     | refine Drw.c0 rfl rfl (op_ixaV (i := 0) hl rfl rfl hix) rfl ?_
     | refine Drw.c2g rfl rfl (by assumption) (by assumption) (fun U hU => op_load rfl (ld_agg (Pt.cptr _ _ _) hlx)) rfl ?_
     | refine Drw.c0 rfl rfl (op_ixaV (i := 1) hl rfl rfl hiy) rfl ?_
     | refine Drw.c2g rfl rfl (by assumption) (by assumption) (fun U hU => op_load rfl (ld_agg (Pt.cptr _ _ _) hly)) rfl ?_
     | refine Drw.c0 rfl rfl (op_ixaV (i := 2) hl rfl rfl hiz) rfl ?_
     | refine Drw.c2g rfl rfl (by assumption) (by assumption) (fun U hU => op_load rfl (ld_agg (Pt.cptr _ _ _) hlz)) rfl ?_
     | refine Drw.callU (U0 := U) (by assumption) (by assumption) rfl rfl (by kernel_rfl) cj rfl (fun S8 p8 k8 => ?_)
     | refine Drw.callP (U0 := U) (by assumption) (by assumption) rfl rfl (by kernel_rfl) cw trivial (by (try simp only [List.length_append, List.length_cons, List.length_nil, List.length_flatten, List.map_cons, List.map_nil, List.sum_cons, List.sum_nil]); omega) rfl (fun v S9 p9 k9 => ?_)
     | refine Drw.nil ?_
     | exact At.fn rfl rfl rfl ⟨Prn.eq (by assumption) (by simp only [List.append_assoc, List.append_nil, List.nil_append, List.flatten_cons, List.flatten_nil]), ks.trans (by assumption)⟩
     | refine .std ?_ | refine .nil ?_ | refine .seq ?_ | refine .region ?_ | refine .xs ?_ | refine .kb ?_ | refine .leaf ?_ | refine .block ?_ | refine .gn ?_ | refine .dr ?_ | fail
end Go.Proofs.YtodiioeddlmjhaaGreatDoor
