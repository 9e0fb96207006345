import Derived.Test.YtodiioeddlmjhaaGreatDoorV6
import Derived.Test.YtodiioeddlmjhaaGreatDoorV5
import Derived.Test.YtodiioeddlmjhaaGreatDoorV8a
import Derived.Test.YtodiioeddlmjhaaGreatDoorT6
import Derived.Test.YtodiioeddlmjhaaGreatDoorE12
set_option linter.unusedVariables false
set_option linter.unusedSimpArgs false
namespace Go.Proofs.YtodiioeddlmjhaaGreatDoor
open Go.RowKit Go.Ev
set_option maxRecDepth 100000
set_option linter.unusedVariables false
set_option linter.unusedSimpArgs false
attribute [local irreducible] Go.Ev.opE
theorem pd_two (id : Nat) {a w : List UInt8} {cs : List V} (ha : a.length ≤ huge) (hc : cs.length = 7) (ho : cs.all V.one = true) (c : Prc 50 [.ptr id 0, .agg cs] id w) :
 isLn 1 (.list (some 20) 1 [.iface 9 (.str a), .iface 27 (.agg cs)] .exact) ∧ (elems (.list (some 20) 1 [.iface 9 (.str a), .iface 27 (.agg cs)] .exact)).length ≤ huge ∧ All2 (PcV id) [a, w] (elems (.list (some 20) 1 [.iface 9 (.str a), .iface 27 (.agg cs)] .exact)) :=
 ⟨.inr (.inr ⟨_, _, _, rfl⟩), by show 2 ≤ huge; decide, All2.cons (.inl ⟨rfl, ha⟩) (All2.cons (.inr ⟨cs, rfl, hc, ho, c⟩) (All2.nil _))⟩
theorem pd_four (id : Nat) {a w d u : List UInt8} {cs ds : List V} (ha : a.length ≤ huge) (hc : cs.length = 7) (ho : cs.all V.one = true) (c : Prc 50 [.ptr id 0, .agg cs] id w) (hd : d.length ≤ huge) (hc2 : ds.length = 7) (ho2 : ds.all V.one = true) (c2 : Prc 50 [.ptr id 0, .agg ds] id u) :
 isLn 1 (.list (some 20) 1 [.iface 9 (.str a), .iface 27 (.agg cs), .iface 9 (.str d), .iface 27 (.agg ds)] .exact) ∧ (elems (.list (some 20) 1 [.iface 9 (.str a), .iface 27 (.agg cs), .iface 9 (.str d), .iface 27 (.agg ds)] .exact)).length ≤ huge ∧ All2 (PcV id) [a, w, d, u] (elems (.list (some 20) 1 [.iface 9 (.str a), .iface 27 (.agg cs), .iface 9 (.str d), .iface 27 (.agg ds)] .exact)) :=
 ⟨.inr (.inr ⟨_, _, _, rfl⟩), by show 4 ≤ huge; decide, All2.cons (.inl ⟨rfl, ha⟩) (All2.cons (.inr ⟨cs, rfl, hc, ho, c⟩) (All2.cons (.inl ⟨rfl, hd⟩) (All2.cons (.inr ⟨ds, rfl, hc2, ho2, c2⟩) (All2.nil _))))⟩
set_option maxHeartbeats 32000000 in
theorem exprB (id : Nat) {e : Ex} {cs : List V} (he : ExC e cs) (hf : ExF e) (hok : ∀ x ∈ e.parts, nodesE x = 0) (hrec : Rec id e) (hk : e.kind = 6 ∨ e.kind = 7 ∨ e.kind = 8 ∨ e.kind = 9 ∨ e.kind = 17) : Prc 50 [.ptr id 0, .agg cs] id (textE e) := by
 have ca := fun h => atomsT id he hf hrec h
 have cn := fun h => atomsN id he h
 have cc := fun h => callsT id he hf hok hrec h
 have cd := fun h => callsN id he h
 have clv := levelF he hf.k0 hf.k1
 have he' := he
 obtain ⟨nv, lv, av, rfl, hk64, hn64, hs, ht, ⟨hnl, hnll, hnA⟩, hl, hll, ha, hal, hL, hA⟩ := he.inv
 have h7 : ([.int .i64 e.kind, .int .i64 e.n, .str e.s, .str e.t, nv, lv, av] : List V).length = 7 := rfl
 intro S s hp _ hlen
 obtain ⟨U, hU, b2, ks, p0⟩ := box_ex hp [.int .i64 e.kind, .int .i64 e.n, .str e.s, .str e.t, nv, lv, av]
 have k0 : KeepB U U id := KeepB.refl U id
 have e1 : e.l.length = (elems lv).length := hL.1
 have en : e.names.length = (elems nv).length := hnA.1
 have hat : ∀ x ∈ e.l, ∀ cs, ExC x cs → ∀ n : Int, Prc 106 [.ptr id 0, .agg cs, .int .i64 n] id ((partW x).at n) := fun x hx cs hc n => by
  have hfx := (nodes_ok (hok x (mem_l hx))).1
  exact atF id hc hfx.k0 hfx.k1 n (hrec x (mem_l hx) cs hc)
 have hcs : [V.int .i64 e.kind, .int .i64 e.n, .str e.s, .str e.t, nv, lv, av] = [V.int .i64 e.kind, .int .i64 e.n, .str e.s, .str e.t, nv, lv, av] := rfl
 refine CallTo.of (n := 137) Tryz.func50 rfl rfl ?_
 rcases hk with h | h | h | h | h
 ·have cA := cn (by rw [h]; decide)
  have cC := cd (by rw [h]; decide)
  rw [h] at hU b2 h7 cA cC
  rw [textE_eq] at hlen ⊢
  rw [h] at hlen ⊢
  rw [nw6] at hlen ⊢
  have hl1 : 2 ≤ e.l.length := by
   obtain ⟨x, hx, _, _, _, _, _, _, h3, _⟩ := hf.shape
   rw [h] at hx
   have := Option.some.inj hx
   subst this; exact h3
  obtain ⟨x, v, hx, hix, hvx, hmx⟩ := hL.at (i := 0) (by omega)
  have hlx := hvx.len7
  have hox := hvx.ones
  have cx := hrec x (mem_l hmx) _ hvx
  obtain ⟨y, w, hy, hiy, hvy, hmy⟩ := hL.at (i := 1) (by omega)
  have hly := hvy.len7
  have hoy := hvy.ones
  have cy := hrec y (mem_l hmy) _ hvy
  rw [ptW_at hx, ptW_at hy, show (partW x).2 = textE x from rfl, show (partW y).2 = textE y from rfl] at hlen ⊢
  have cj := joinF (ws := e.names) (lv := nv) ⟨hnl, hnll, hnA⟩ hf.nm hf.nmc (by_ := [32]) ⟨by decide, by decide⟩
  have hjl := joinW_len [32] 12 e.names fun w hw => (hf.nm w hw).1
  have hnc := hf.nmc
  simp only [List.length_cons, List.length_nil] at hjl
  generalize joinW [32] e.names = J at *
  simp only [List.length_append, List.length_cons, List.length_nil] at hlen
  have cp := pd_two id (a := [32, 105, 110, 32]) (by decide) hly hoy cy
  have cw := wordsF id (w0 := [108, 101, 116, 32] ++ J ++ [32, 61, 32]) hlx (by simp only [List.length_append, List.length_cons, List.length_nil]; show _ ≤ 9223372036854775807; omega) cx cp.1 cp.2.1 cp.2.2
  repeat' first
   | refine Opl.val (op_box rfl) rfl (Opl.cast (S' := U) ?_ hU)
   | refine Opl.val (op_load rfl (ld_pA b2 (by assumption) h7)) rfl ?_
   | refine Opl.val (op_load rfl (ld_p b2 (by assumption) _ rfl)) rfl ?_
   | refine Opl.callV (U0 := U) (by assumption) (by assumption) rfl (by kernel_rfl) cA (by simp only [List.length_nil]; omega) rfl (fun S2 p2 k2 => ?_)
   | refine Opl.callV (U0 := U) (by assumption) (by assumption) rfl (by kernel_rfl) cC (by simp only [List.length_append, List.length_nil]; omega) rfl (fun S3 p3 k3 => ?_)
   | refine op_gyes rfl ?_ rfl
   | refine .gn ?_
   | refine Go.condT rfl ?_
   | refine Go.condF rfl ?_
   | refine Go.draw [0, 0, 0, 4, 12, 30, 62, 0, 128, 384, 896, 0, 0, 4096, 12288, 28672, 61440, 129024, 262143] [2, 3, 4, 0, 1, 5, 6, 7, 8, 9, 10, 11, 12, 13, 14, 15, 16, 17, 18] (by kernel_rfl) (Kpb U id) ?_
   | refine Drw.c0 rfl rfl (op_move rfl) rfl ?_
   | refine Drw.c0 rfl rfl (op_fld rfl rfl) rfl ?_
   | refine Drw.c0 rfl rfl (op_mk rfl) rfl ?_
   | refine Drw.c0 rfl rfl (op_str rfl rfl (str_add (by (try simp only [List.length_append, List.length_cons, List.length_nil]); omega))) rfl ?_
   | refine Drw.c0 rfl rfl (op_bsG rfl (bsA2 _ _)) rfl ?_
   | refine Drw.c0 rfl rfl (op_bsG rfl (bsA4 _ _ _ _)) rfl ?_
   | refine Drw.c2g rfl rfl (by assumption) (by assumption) (fun U hU => op_load rfl (ld_p b2 hU _ rfl)) rfl ?_
   | refine Drw.c0 rfl rfl (op_ixaV (i := 0) hl rfl rfl hix) rfl ?_
   | refine Drw.c2g rfl rfl (by assumption) (by assumption) (fun U hU => op_load rfl (ld_agg (Pt.cptr _ _ _) hlx)) rfl ?_
   | refine Drw.c0 rfl rfl (op_ixaV (i := 1) hl rfl rfl hiy) rfl ?_
   | refine Drw.c2g rfl rfl (by assumption) (by assumption) (fun U hU => op_load rfl (ld_agg (Pt.cptr _ _ _) hly)) rfl ?_
   | refine Drw.callU (U0 := U) (by assumption) (by assumption) rfl rfl (by kernel_rfl) cj rfl (fun S8 p8 k8 => ?_)
   | refine Drw.callP (U0 := U) (by assumption) (by assumption) rfl rfl (by kernel_rfl) cw trivial (by (try simp only [List.length_append, List.length_cons, List.length_nil, List.length_flatten, List.map_cons, List.map_nil, List.sum_cons, List.sum_nil]); omega) rfl (fun v S9 p9 k9 => ?_)
   | refine Drw.nil ?_
   | exact At.fn rfl rfl rfl ⟨Prn.eq (by assumption) (by simp only [List.append_assoc, List.append_nil, List.nil_append, List.flatten_cons, List.flatten_nil]), ks.trans (by assumption)⟩
   | refine .std ?_ | refine .nil ?_ | refine .seq ?_ | refine .region ?_ | refine .xs ?_ | refine .kb ?_ | refine .leaf ?_ | refine .block ?_ | refine .gn ?_ | refine .dr ?_ | fail
 ·have cA := cn (by rw [h]; decide)
  have cC := cd (by rw [h]; decide)
  rw [h] at hU b2 h7 cA cC
  rw [textE_eq] at hlen ⊢
  rw [h] at hlen ⊢
  rw [nw7] at hlen ⊢
  have hl1 : 2 ≤ e.l.length := by
   obtain ⟨x, hx, _, _, _, _, _, _, h3, _⟩ := hf.shape
   rw [h] at hx
   have := Option.some.inj hx
   subst this; exact h3
  obtain ⟨x, v, hx, hix, hvx, hmx⟩ := hL.at (i := 0) (by omega)
  have hlx := hvx.len7
  have hox := hvx.ones
  have cx := hrec x (mem_l hmx) _ hvx
  obtain ⟨y, w, hy, hiy, hvy, hmy⟩ := hL.at (i := 1) (by omega)
  have hly := hvy.len7
  have hoy := hvy.ones
  have cy := hrec y (mem_l hmy) _ hvy
  rw [ptW_at hx, ptW_at hy, show (partW x).2 = textE x from rfl, show (partW y).2 = textE y from rfl] at hlen ⊢
  have cj := joinF (ws := e.names) (lv := nv) ⟨hnl, hnll, hnA⟩ hf.nm hf.nmc (by_ := [32]) ⟨by decide, by decide⟩
  have hjl := joinW_len [32] 12 e.names fun w hw => (hf.nm w hw).1
  have hnc := hf.nmc
  simp only [List.length_cons, List.length_nil] at hjl
  generalize joinW [32] e.names = J at *
  simp only [List.length_append, List.length_cons, List.length_nil] at hlen
  have cp := pd_two id (a := [32, 105, 110, 32]) (by decide) hly hoy cy
  have cw := wordsF id (w0 := [114, 101, 99, 32] ++ J ++ [32, 61, 32]) hlx (by simp only [List.length_append, List.length_cons, List.length_nil]; show _ ≤ 9223372036854775807; omega) cx cp.1 cp.2.1 cp.2.2
  repeat' first
   | refine Opl.val (op_box rfl) rfl (Opl.cast (S' := U) ?_ hU)
   | refine Opl.val (op_load rfl (ld_pA b2 (by assumption) h7)) rfl ?_
   | refine Opl.val (op_load rfl (ld_p b2 (by assumption) _ rfl)) rfl ?_
   | refine Opl.callV (U0 := U) (by assumption) (by assumption) rfl (by kernel_rfl) cA (by simp only [List.length_nil]; omega) rfl (fun S2 p2 k2 => ?_)
   | refine Opl.callV (U0 := U) (by assumption) (by assumption) rfl (by kernel_rfl) cC (by simp only [List.length_append, List.length_nil]; omega) rfl (fun S3 p3 k3 => ?_)
   | refine op_gyes rfl ?_ rfl
   | refine .gn ?_
   | refine Go.condT rfl ?_
   | refine Go.condF rfl ?_
   | refine Go.draw [0, 0, 0, 4, 12, 30, 62, 0, 128, 384, 896, 0, 0, 4096, 12288, 28672, 61440, 129024, 262143] [2, 3, 4, 0, 1, 5, 6, 7, 8, 9, 10, 11, 12, 13, 14, 15, 16, 17, 18] (by kernel_rfl) (Kpb U id) ?_
   | refine Drw.c0 rfl rfl (op_move rfl) rfl ?_
   | refine Drw.c0 rfl rfl (op_fld rfl rfl) rfl ?_
   | refine Drw.c0 rfl rfl (op_mk rfl) rfl ?_
   | refine Drw.c0 rfl rfl (op_str rfl rfl (str_add (by (try simp only [List.length_append, List.length_cons, List.length_nil]); omega))) rfl ?_
   | refine Drw.c0 rfl rfl (op_bsG rfl (bsA2 _ _)) rfl ?_
   | refine Drw.c0 rfl rfl (op_bsG rfl (bsA4 _ _ _ _)) rfl ?_
   | refine Drw.c2g rfl rfl (by assumption) (by assumption) (fun U hU => op_load rfl (ld_p b2 hU _ rfl)) rfl ?_
   | refine Drw.c0 rfl rfl (op_ixaV (i := 0) hl rfl rfl hix) rfl ?_
   | refine Drw.c2g rfl rfl (by assumption) (by assumption) (fun U hU => op_load rfl (ld_agg (Pt.cptr _ _ _) hlx)) rfl ?_
   | refine Drw.c0 rfl rfl (op_ixaV (i := 1) hl rfl rfl hiy) rfl ?_
   | refine Drw.c2g rfl rfl (by assumption) (by assumption) (fun U hU => op_load rfl (ld_agg (Pt.cptr _ _ _) hly)) rfl ?_
   | refine Drw.callU (U0 := U) (by assumption) (by assumption) rfl rfl (by kernel_rfl) cj rfl (fun S8 p8 k8 => ?_)
   | refine Drw.callP (U0 := U) (by assumption) (by assumption) rfl rfl (by kernel_rfl) cw trivial (by (try simp only [List.length_append, List.length_cons, List.length_nil, List.length_flatten, List.map_cons, List.map_nil, List.sum_cons, List.sum_nil]); omega) rfl (fun v S9 p9 k9 => ?_)
   | refine Drw.nil ?_
   | exact At.fn rfl rfl rfl ⟨Prn.eq (by assumption) (by simp only [List.append_assoc, List.append_nil, List.nil_append, List.flatten_cons, List.flatten_nil]), ks.trans (by assumption)⟩
   | refine .std ?_ | refine .nil ?_ | refine .seq ?_ | refine .region ?_ | refine .xs ?_ | refine .kb ?_ | refine .leaf ?_ | refine .block ?_ | refine .gn ?_ | refine .dr ?_ | fail
 ·have cA := cn (by rw [h]; decide)
  have cC := cd (by rw [h]; decide)
  rw [h] at hU b2 h7 cA cC
  rw [textE_eq] at hlen ⊢
  rw [h] at hlen ⊢
  rw [nw8] at hlen ⊢
  have hl1 : 3 ≤ e.l.length := by
   obtain ⟨x, hx, _, _, _, _, _, _, h3, _⟩ := hf.shape
   rw [h] at hx
   have := Option.some.inj hx
   subst this; exact h3
  obtain ⟨x, v, hx, hix, hvx, hmx⟩ := hL.at (i := 0) (by omega)
  have hlx := hvx.len7
  have hox := hvx.ones
  have cx := hrec x (mem_l hmx) _ hvx
  obtain ⟨y, w, hy, hiy, hvy, hmy⟩ := hL.at (i := 1) (by omega)
  have hly := hvy.len7
  have hoy := hvy.ones
  have cy := hrec y (mem_l hmy) _ hvy
  obtain ⟨z, u2, hz, hiz, hvz, hmz⟩ := hL.at (i := 2) (by omega)
  have hlz := hvz.len7
  have hoz := hvz.ones
  have cz := hrec z (mem_l hmz) _ hvz
  rw [ptW_at hx, ptW_at hy, ptW_at hz, show (partW x).2 = textE x from rfl, show (partW y).2 = textE y from rfl, show (partW z).2 = textE z from rfl] at hlen ⊢
  simp only [List.length_append, List.length_cons, List.length_nil] at hlen
  have cp := pd_four id (a := [32, 116, 104, 101, 110, 32]) (d := [32, 101, 108, 115, 101, 32]) (by decide) hly hoy cy (by decide) hlz hoz cz
  have cw := wordsF id (w0 := [105, 102, 32]) hlx (by decide) cx cp.1 cp.2.1 cp.2.2
  repeat' first
   | refine Opl.val (op_box rfl) rfl (Opl.cast (S' := U) ?_ hU)
   | refine Opl.val (op_load rfl (ld_pA b2 (by assumption) h7)) rfl ?_
   | refine Opl.val (op_load rfl (ld_p b2 (by assumption) _ rfl)) rfl ?_
   | refine Opl.callV (U0 := U) (by assumption) (by assumption) rfl (by kernel_rfl) cA (by simp only [List.length_nil]; omega) rfl (fun S2 p2 k2 => ?_)
   | refine Opl.callV (U0 := U) (by assumption) (by assumption) rfl (by kernel_rfl) cC (by simp only [List.length_append, List.length_nil]; omega) rfl (fun S3 p3 k3 => ?_)
   | refine Opl.val (op_ixaV (i := 0) hl rfl rfl hix) rfl ?_
   | refine Opl.val (op_load rfl (ld_agg (Pt.cptr _ _ _) hlx)) rfl ?_
   | refine Opl.val (op_ixaV (i := 1) hl rfl rfl hiy) rfl ?_
   | refine Opl.val (op_load rfl (ld_agg (Pt.cptr _ _ _) hly)) rfl ?_
   | refine Opl.val (op_ixaV (i := 2) hl rfl rfl hiz) rfl ?_
   | refine Opl.val (op_load rfl (ld_agg (Pt.cptr _ _ _) hlz)) rfl ?_
   | refine Opl.val (op_bsG rfl (bsA2 _ _)) rfl ?_
   | refine Opl.val (op_bsG rfl (bsA4 _ _ _ _)) rfl ?_
   | refine Opl.callP (U0 := U) (by assumption) (by assumption) rfl (by kernel_rfl) cw trivial (by (try simp only [List.length_append, List.length_cons, List.length_nil, List.length_flatten, List.map_cons, List.map_nil, List.sum_cons, List.sum_nil]); omega) rfl (fun v S4 p4 k4 => ?_)
   | refine op_gyes rfl ?_ rfl
   | refine .gn ?_
   | refine Go.condT rfl ?_
   | refine Go.condF rfl ?_
   | exact At.fn rfl rfl rfl ⟨Prn.eq (by assumption) (by simp only [List.append_assoc, List.append_nil, List.nil_append, List.flatten_cons, List.flatten_nil]), ks.trans (by assumption)⟩
   | refine .std ?_ | refine .nil ?_ | refine .seq ?_ | refine .region ?_ | refine .xs ?_ | refine .kb ?_ | refine .leaf ?_ | refine .block ?_ | refine .gn ?_ | refine .dr ?_ | fail
 ·have cA := cn (by rw [h]; decide)
  have cC := cd (by rw [h]; decide)
  rw [h] at hU b2 h7 cA cC
  rw [textE_eq] at hlen ⊢
  rw [h] at hlen ⊢
  rw [nw9] at hlen ⊢
  have hl1 : 2 ≤ e.l.length := by
   obtain ⟨x, hx, _, _, _, _, _, _, h3, _⟩ := hf.shape
   rw [h] at hx
   have := Option.some.inj hx
   subst this; exact h3
  obtain ⟨x, v, hx, hix, hvx, hmx⟩ := hL.at (i := 0) (by omega)
  have hlx := hvx.len7
  have hox := hvx.ones
  have cx := hrec x (mem_l hmx) _ hvx
  obtain ⟨y, w, hy, hiy, hvy, hmy⟩ := hL.at (i := 1) (by omega)
  have hly := hvy.len7
  have hoy := hvy.ones
  have cy := hrec y (mem_l hmy) _ hvy
  rw [ptW_at hx, ptW_at hy] at hlen ⊢
  rw [h] at clv
  obtain ⟨n, hn⟩ : ∃ n, levE 9 e.s = n := ⟨_, rfl⟩
  have hn13 : 1 ≤ n ∧ n ≤ 3 := by
   rw [← hn]
   show 1 ≤ (if e.s = [42] then (3 : Int) else if e.s = [43] ∨ e.s = [45] then 2 else 1) ∧ (if e.s = [42] then (3 : Int) else if e.s = [43] ∨ e.s = [45] then 2 else 1) ≤ 3
   split <;> (try split) <;> decide
  rw [hn] at clv hlen ⊢
  have hadd : intOp .add .i64 n 1 = some (.int .i64 (n + 1)) := by
   have : IntKind.wrap .i64 (n + 1) = n + 1 := wrap_i64_id (by constructor <;> omega)
   simp only [intOp, this]
  have f2 := put3F id (lt := some 9) (tk := .exact) (a := [32]) (b := e.s) (c := [32]) (by decide) hs (by decide)
  have cx1 := hat x hmx _ hvx (if n = 1 then 2 else n)
  have cy1 := hat y hmy _ hvy (n + 1)
  by_cases h1 : n = 1
  ·rw [if_pos h1] at hlen cx1 ⊢
   simp only [List.length_append, List.length_cons, List.length_nil] at hlen
   repeat' first
    | refine Opl.val (op_box rfl) rfl (Opl.cast (S' := U) ?_ hU)
    | refine Opl.val (op_load rfl (ld_pA b2 (by assumption) h7)) rfl ?_
    | refine Opl.val (op_load rfl (ld_p b2 (by assumption) _ rfl)) rfl ?_
    | refine Opl.callV (U0 := U) (by assumption) (by assumption) rfl (by kernel_rfl) cA (by simp only [List.length_nil]; omega) rfl (fun S2 p2 k2 => ?_)
    | refine Opl.callV (U0 := U) (by assumption) (by assumption) rfl (by kernel_rfl) cC (by simp only [List.length_append, List.length_nil]; omega) rfl (fun S3 p3 k3 => ?_)
    | refine Opl.val (op_ixaV (i := 0) hl rfl rfl hix) rfl ?_
    | refine Opl.val (op_load rfl (ld_agg (Pt.cptr _ _ _) hlx)) rfl ?_
    | refine Opl.val (op_ixaV (i := 1) hl rfl rfl hiy) rfl ?_
    | refine Opl.val (op_load rfl (ld_agg (Pt.cptr _ _ _) hly)) rfl ?_
    | refine Opl.val (op_int rfl rfl rfl (eql_i (q := true) (decide_eq_true h1))) rfl ?_
    | refine Opl.val (op_int rfl rfl rfl hadd) rfl ?_
    | refine Opl.val (op_bsG rfl (bs3 _ _ _)) rfl ?_
    | refine Opl.callU (U0 := U) (by assumption) (by assumption) rfl (by kernel_rfl) clv rfl (fun S8 p8 k8 => ?_)
    | refine Opl.callP (U0 := U) (by assumption) (by assumption) rfl (by kernel_rfl) cx1 trivial (by (try simp only [List.length_append, List.length_cons, List.length_nil]); omega) rfl (fun v S4 p4 k4 => ?_)
    | refine Opl.callP (U0 := U) (by assumption) (by assumption) rfl (by kernel_rfl) f2 trivial (by (try simp only [List.length_append, List.length_cons, List.length_nil]); omega) rfl (fun v S5 p5 k5 => ?_)
    | refine Opl.callP (U0 := U) (by assumption) (by assumption) rfl (by kernel_rfl) cy1 trivial (by (try simp only [List.length_append, List.length_cons, List.length_nil]); omega) rfl (fun v S6 p6 k6 => ?_)
    | refine op_gyes rfl ?_ rfl
    | refine .gn ?_
    | refine Go.condT rfl ?_
    | refine Go.condF rfl ?_
    | exact At.fn rfl rfl rfl ⟨Prn.eq (by assumption) (by simp only [List.append_assoc, List.append_nil, List.nil_append, List.flatten_cons, List.flatten_nil]), ks.trans (by assumption)⟩
    | refine .std ?_ | refine .nil ?_ | refine .seq ?_ | refine .region ?_ | refine .xs ?_ | refine .kb ?_ | refine .leaf ?_ | refine .block ?_ | refine .gn ?_ | refine .dr ?_ | fail
  ·rw [if_neg h1] at hlen cx1 ⊢
   simp only [List.length_append, List.length_cons, List.length_nil] at hlen
   repeat' first
    | refine Opl.val (op_box rfl) rfl (Opl.cast (S' := U) ?_ hU)
    | refine Opl.val (op_load rfl (ld_pA b2 (by assumption) h7)) rfl ?_
    | refine Opl.val (op_load rfl (ld_p b2 (by assumption) _ rfl)) rfl ?_
    | refine Opl.callV (U0 := U) (by assumption) (by assumption) rfl (by kernel_rfl) cA (by simp only [List.length_nil]; omega) rfl (fun S2 p2 k2 => ?_)
    | refine Opl.callV (U0 := U) (by assumption) (by assumption) rfl (by kernel_rfl) cC (by simp only [List.length_append, List.length_nil]; omega) rfl (fun S3 p3 k3 => ?_)
    | refine Opl.val (op_ixaV (i := 0) hl rfl rfl hix) rfl ?_
    | refine Opl.val (op_load rfl (ld_agg (Pt.cptr _ _ _) hlx)) rfl ?_
    | refine Opl.val (op_ixaV (i := 1) hl rfl rfl hiy) rfl ?_
    | refine Opl.val (op_load rfl (ld_agg (Pt.cptr _ _ _) hly)) rfl ?_
    | refine Opl.val (op_int rfl rfl rfl (eql_i (q := false) (decide_eq_false h1))) rfl ?_
    | refine Opl.val (op_int rfl rfl rfl hadd) rfl ?_
    | refine Opl.val (op_bsG rfl (bs3 _ _ _)) rfl ?_
    | refine Opl.callU (U0 := U) (by assumption) (by assumption) rfl (by kernel_rfl) clv rfl (fun S8 p8 k8 => ?_)
    | refine Opl.callP (U0 := U) (by assumption) (by assumption) rfl (by kernel_rfl) cx1 trivial (by (try simp only [List.length_append, List.length_cons, List.length_nil]); omega) rfl (fun v S4 p4 k4 => ?_)
    | refine Opl.callP (U0 := U) (by assumption) (by assumption) rfl (by kernel_rfl) f2 trivial (by (try simp only [List.length_append, List.length_cons, List.length_nil]); omega) rfl (fun v S5 p5 k5 => ?_)
    | refine Opl.callP (U0 := U) (by assumption) (by assumption) rfl (by kernel_rfl) cy1 trivial (by (try simp only [List.length_append, List.length_cons, List.length_nil]); omega) rfl (fun v S6 p6 k6 => ?_)
    | refine op_gyes rfl ?_ rfl
    | refine .gn ?_
    | refine Go.condT rfl ?_
    | refine Go.condF rfl ?_
    | exact At.fn rfl rfl rfl ⟨Prn.eq (by assumption) (by simp only [List.append_assoc, List.append_nil, List.nil_append, List.flatten_cons, List.flatten_nil]), ks.trans (by assumption)⟩
    | refine .std ?_ | refine .nil ?_ | refine .seq ?_ | refine .region ?_ | refine .xs ?_ | refine .kb ?_ | refine .leaf ?_ | refine .block ?_ | refine .gn ?_ | refine .dr ?_ | fail
 ·have cA := cn (by rw [h]; decide)
  have cC := cd (by rw [h]; decide)
  rw [h] at hU b2 h7 cA cC
  rw [textE_eq] at hlen ⊢
  rw [h] at hlen ⊢
  rw [nw17] at hlen ⊢
  have hl1 : 3 ≤ e.l.length := by
   obtain ⟨x, hx, _, _, _, _, _, _, h3, _⟩ := hf.shape
   rw [h] at hx
   have := Option.some.inj hx
   subst this; exact h3
  have hnn : 1 ≤ e.names.length := by
   obtain ⟨x, hx, _, _, _, _, h3, _⟩ := hf.shape
   rw [h] at hx
   have := Option.some.inj hx
   subst this; exact h3
  obtain ⟨x, v, hx, hix, hvx, hmx⟩ := hL.at (i := 0) (by omega)
  have hlx := hvx.len7
  have hox := hvx.ones
  have cx := hrec x (mem_l hmx) _ hvx
  obtain ⟨y, w, hy, hiy, hvy, hmy⟩ := hL.at (i := 1) (by omega)
  have hly := hvy.len7
  have hoy := hvy.ones
  have cy := hrec y (mem_l hmy) _ hvy
  obtain ⟨z, u2, hz, hiz, hvz, hmz⟩ := hL.at (i := 2) (by omega)
  have hlz := hvz.len7
  have hoz := hvz.ones
  have cz := hrec z (mem_l hmz) _ hvz
  obtain ⟨nm, u, hnm, hinm, ⟨hcn, hnml⟩, hmnm⟩ := hnA.at (i := 0) (by omega)
  have hpt : ∀ S, Pt S (.cptr none u.cells 0) [.str nm] := fun S => by rw [hcn]; exact Pt.cptr _ _ _
  have hnw := (hf.nm nm hmnm).1
  rw [ptW_at hx, ptW_at hy, ptW_at hz, show (partW x).2 = textE x from rfl, show (partW y).2 = textE y from rfl, show (partW z).2 = textE z from rfl, nmW_at hnm] at hlen ⊢
  obtain ⟨mv, hsl, hmv⟩ := strs_drop (T := 23) (e := 9) u_strs sz_str ⟨hnl, hnll, hnA⟩ 1 (by omega)
  have hdw : ∀ w ∈ e.names.drop 1, w.length ≤ 12 ∧ w ≠ [] := fun w hw => hf.nm w (List.mem_of_mem_drop hw)
  have hnc := hf.nmc
  have hdc : (e.names.drop 1).length ≤ 13 := by rw [List.length_drop]; omega
  have cj := joinF (ws := e.names.drop 1) (lv := mv) hmv hdw hdc (by_ := [44, 32]) ⟨by decide, by decide⟩
  have hjl := joinW_len [44, 32] 12 (e.names.drop 1) fun w hw => (hdw w hw).1
  simp only [List.length_cons, List.length_nil] at hjl
  generalize joinW [44, 32] (e.names.drop 1) = J at *
  simp only [List.length_append, List.length_cons, List.length_nil] at hlen
  have cp := pd_four id (a := [32, 99, 108, 111, 115, 101, 32]) (d := [32, 105, 110, 32]) (by decide) hly hoy cy (by decide) hlz hoz cz
  have cw := wordsF id (w0 := [117, 115, 105, 110, 103, 32] ++ nm ++ [32, 91] ++ J ++ [93, 32, 61, 32]) hlx (by simp only [List.length_append, List.length_cons, List.length_nil]; show _ ≤ 9223372036854775807; omega) cx cp.1 cp.2.1 cp.2.2
  repeat' first
   | refine Opl.val (op_box rfl) rfl (Opl.cast (S' := U) ?_ hU)
   | refine Opl.val (op_load rfl (ld_pA b2 (by assumption) h7)) rfl ?_
   | refine Opl.val (op_load rfl (ld_p b2 (by assumption) _ rfl)) rfl ?_
   | refine Opl.callV (U0 := U) (by assumption) (by assumption) rfl (by kernel_rfl) cA (by simp only [List.length_nil]; omega) rfl (fun S2 p2 k2 => ?_)
   | refine Opl.callV (U0 := U) (by assumption) (by assumption) rfl (by kernel_rfl) cC (by simp only [List.length_append, List.length_nil]; omega) rfl (fun S3 p3 k3 => ?_)
   | refine op_gyes rfl ?_ rfl
   | refine .gn ?_
   | refine Go.condT rfl ?_
   | refine Go.condF rfl ?_
   | refine Go.draw [0, 0, 2, 6, 14, 30, 62, 0, 128, 384, 896, 2046, 4094, 0, 8192, 24576, 57344, 0, 0, 262144, 786432, 1835008, 3932160, 0, 0, 16777216, 50331648, 117440512, 251658240, 536739840, 1073741823] [7, 8, 9, 10, 0, 1, 2, 3, 4, 5, 6, 11, 12, 13, 14, 15, 16, 17, 18, 19, 20, 21, 22, 23, 24, 25, 26, 27, 28, 29, 30] (by kernel_rfl) (Kpb U id) ?_
   | refine Drw.c0 rfl rfl (op_move rfl) rfl ?_
   | refine Drw.c0 rfl rfl (op_fld rfl rfl) rfl ?_
   | refine Drw.c0 rfl rfl (op_mk rfl) rfl ?_
   | refine Drw.c0 rfl rfl (op_str rfl rfl (str_add (by (try simp only [List.length_append, List.length_cons, List.length_nil]); omega))) rfl ?_
   | refine Drw.c0 rfl rfl (op_bsG rfl (bsA2 _ _)) rfl ?_
   | refine Drw.c0 rfl rfl (op_bsG rfl (bsA4 _ _ _ _)) rfl ?_
   | refine Drw.c2g rfl rfl (by assumption) (by assumption) (fun U hU => op_load rfl (ld_p b2 hU _ rfl)) rfl ?_
   | refine Drw.c0 rfl rfl (op_slL rfl rfl hsl) rfl ?_
   | refine Drw.c0 rfl rfl (op_ixaV (i := 0) hnl rfl rfl hinm) rfl ?_
   | refine Drw.c2g rfl rfl (by assumption) (by assumption) (fun U hU => op_load rfl (ld_one (hpt _))) rfl ?_
   | refine Drw.c0 rfl rfl (op_ixaV (i := 0) hl rfl rfl hix) rfl ?_
   | refine Drw.c2g rfl rfl (by assumption) (by assumption) (fun U hU => op_load rfl (ld_agg (Pt.cptr _ _ _) hlx)) rfl ?_
   | refine Drw.c0 rfl rfl (op_ixaV (i := 1) hl rfl rfl hiy) rfl ?_
   | refine Drw.c2g rfl rfl (by assumption) (by assumption) (fun U hU => op_load rfl (ld_agg (Pt.cptr _ _ _) hly)) rfl ?_
   | refine Drw.c0 rfl rfl (op_ixaV (i := 2) hl rfl rfl hiz) rfl ?_
   | refine Drw.c2g rfl rfl (by assumption) (by assumption) (fun U hU => op_load rfl (ld_agg (Pt.cptr _ _ _) hlz)) rfl ?_
   | refine Drw.callU (U0 := U) (by assumption) (by assumption) rfl rfl (by kernel_rfl) cj rfl (fun S8 p8 k8 => ?_)
   | refine Drw.callP (U0 := U) (by assumption) (by assumption) rfl rfl (by kernel_rfl) cw trivial (by (try simp only [List.length_append, List.length_cons, List.length_nil, List.length_flatten, List.map_cons, List.map_nil, List.sum_cons, List.sum_nil]); omega) rfl (fun v S9 p9 k9 => ?_)
   | refine Drw.nil ?_
   | exact At.fn rfl rfl rfl ⟨Prn.eq (by assumption) (by simp only [List.append_assoc, List.append_nil, List.nil_append, List.flatten_cons, List.flatten_nil]), ks.trans (by assumption)⟩
   | refine .std ?_ | refine .nil ?_ | refine .seq ?_ | refine .region ?_ | refine .xs ?_ | refine .kb ?_ | refine .leaf ?_ | refine .block ?_ | refine .gn ?_ | refine .dr ?_ | fail
end Go.Proofs.YtodiioeddlmjhaaGreatDoor
namespace Go.Proofs.YtodiioeddlmjhaaGreatDoor
open Go.RowKit Go.Ev
set_option maxRecDepth 100000
set_option linter.unusedVariables false
set_option linter.unusedSimpArgs false
attribute [local irreducible] Go.Ev.opE
theorem exprF (id : Nat) : ∀ (N : Nat) (e : Ex) (cs : List V), e.nodes ≤ N → ExC e cs → nodesE e = 0 → Prc 50 [.ptr id 0, .agg cs] id (textE e) := by
 intro N
 induction N with
 | zero => intro e cs hN; cases e; simp [Ex.nodes] at hN
 | succ N IHN =>
 intro e cs hN he h0
 obtain ⟨hf, hok⟩ := nodes_ok h0
 have hrec : Rec id e := fun x hx cs hc => IHN x cs (by have := Ex.parts_nodes hx; omega) hc (hok x hx)
 have hk0 := hf.k0
 have hk1 := hf.k1
 by_cases hB : e.kind = 6 ∨ e.kind = 7 ∨ e.kind = 8 ∨ e.kind = 9 ∨ e.kind = 17
 ·exact exprB id he hf hok hrec hB
 ·exact exprA id he hf hok hrec (by omega)
def showV (e : Ex) : V := if checkE e = 0 then .tup [.str (textE e), .int .i64 0] else .tup [.str [], .int .i64 (checkE e)]
theorem bd_prn' : buildE Tryz.prog 86 [] = some (.agg [.nilp, .nils]) := by kernel_rfl
set_option maxHeartbeats 4000000 in
theorem syntaxShow {e : Ex} {cs : List V} (he : ExC e cs) : Pb Tryz.prog 15 [.agg cs] (showV e) := by
 intro S
 have c1 := checkF he
 obtain ⟨U, hU, bx, s0⟩ := box1 S 27 cs
 have k0 : Same U U := Same.refl U
 refine CallTo.of (n := 20) Tryz.func15 rfl rfl ?_
 by_cases h0 : checkE e = 0
 ·obtain ⟨hn, hl⟩ := check_textE h0
  have hv : showV e = .tup [.str (textE e), .int .i64 0] := if_pos h0
  rw [hv]
  repeat' first
   | refine Opl.val (op_box rfl) rfl (Opl.cast (S' := U) ?_ hU)
   | refine Opl.val (op_load rfl (ld_bxA bx (by assumption) he.len7)) rfl ?_
   | refine Opl.callS (U0 := U) (by assumption) rfl (by kernel_rfl) c1 rfl (fun S1 k1 => ?_)
   | refine Opl.val (op_int rfl rfl rfl (neq_i (q := false) (by rw [h0]; rfl))) rfl ?_
   | refine Go.condF rfl ?_
   | refine Opl.val (op_build0 bd_prn') rfl ?_
   | refine .std ?_ | refine .nil ?_ | refine .seq ?_ | refine .region ?_ | refine .xs ?_ | refine .kb ?_ | refine .leaf ?_ | refine .block ?_ | refine .gn ?_ | refine .dr ?_ | fail
  obtain ⟨V1, hV, by1, s1⟩ := box1 S1 86 [.nilp, .nils]
  have p1 : Prz V1 S1.next [] := ⟨by1.lt, _, _, by1.box, .inl rfl, .inl ⟨rfl, rfl⟩⟩
  have kUV : Same U V1 := k1.trans s1
  have b1 : Bx V1 S.next 27 cs := bx.same kUV
  have hlt : S.next < S1.next := Nat.lt_of_lt_of_le bx.lt k1.next
  have bp : Bp V1 S1.next S.next 27 cs := Bp.of b1 (by omega)
  have kV : KeepB V1 V1 S1.next := KeepB.refl V1 _
  have kS : Same S V1 := s0.trans kUV
  have c2 := exprF S1.next _ e cs (Nat.le_refl _) he hn
  repeat' first
   | refine Opl.val (op_box rfl) rfl (Opl.cast (S' := V1) ?_ hV)
   | refine Opl.val (op_load rfl (ld_pA bp (by assumption) he.len7)) rfl ?_
   | refine Opl.callP (U0 := V1) p1 kV rfl (by kernel_rfl) c2 trivial (by simp; omega) rfl (fun v S2 p2 k2 => ?_)
   | (refine Opl.call rfl (by kernel_rfl) (stringF p2 (by simp; omega)) rfl (fun v S3 hw => ?_) (fun _ _ h => h.elim); obtain ⟨rfl, rfl⟩ := hw)
   | exact At.fnr rfl rfl rfl ⟨rfl, k2.sbOf kS (Nat.le_of_lt hlt)⟩
   | refine .std ?_ | refine .nil ?_ | refine .seq ?_ | refine .region ?_ | refine .xs ?_ | refine .kb ?_ | refine .leaf ?_ | refine .block ?_ | refine .gn ?_ | refine .dr ?_ | fail
 ·have hv : showV e = .tup [.str [], .int .i64 (checkE e)] := if_neg h0
  rw [hv]
  repeat' first
   | refine Opl.val (op_box rfl) rfl (Opl.cast (S' := U) ?_ hU)
   | refine Opl.val (op_load rfl (ld_bxA bx (by assumption) he.len7)) rfl ?_
   | refine Opl.callS (U0 := U) (by assumption) rfl (by kernel_rfl) c1 rfl (fun S1 k1 => ?_)
   | refine Opl.val (op_int rfl rfl rfl (neq_i (q := true) (by rw [decide_eq_false h0]; rfl))) rfl ?_
   | refine Go.condT rfl ?_
   | exact At.fnr rfl rfl rfl ⟨rfl, (s0.trans (by assumption)).sb⟩
   | refine .std ?_ | refine .nil ?_ | refine .seq ?_ | refine .region ?_ | refine .xs ?_ | refine .kb ?_ | refine .leaf ?_ | refine .block ?_ | refine .gn ?_ | refine .dr ?_ | fail
end Go.Proofs.YtodiioeddlmjhaaGreatDoor
namespace Go.Proofs.YtodiioeddlmjhaaGreatDoor
open Go.RowKit Go.Ev
set_option maxRecDepth 100000
set_option linter.unusedVariables false
set_option linter.unusedSimpArgs false
attribute [local irreducible] Go.Ev.opE
def LsxV (U S : St) (v : V) (l : List Ex) : Prop := ∃ es tk, v = .list (some 27) 7 es tk ∧ All2 ExV l es ∧ (tk = .exact ∨ ∃ k, tk = .own k ∧ U.next ≤ k ∧ k < S.next ∧ S.h.find k = some .tok)
theorem all2_append {α : Type} {R : α → V → Prop} {l m : List α} {vs ws : List V} (h : All2 R l vs) (k : All2 R m ws) : All2 R (l ++ m) (vs ++ ws) := by
 refine ⟨by simp [h.1, k.1], fun i a v h1 h2 => ?_⟩
 by_cases hi : i < l.length
 ·rw [List.getElem?_append_left hi] at h1
  rw [List.getElem?_append_left (by rw [← h.1]; exact hi)] at h2
  exact h.2 i a v h1 h2
 ·rw [List.getElem?_append_right (by omega)] at h1
  rw [List.getElem?_append_right (by rw [← h.1]; omega), ← h.1] at h2
  exact k.2 _ a v h1 h2
theorem readS_ex {S : St} {v : V} (h : isLn 7 v) : readS S true 7 v = some (elems v) := by
 rcases h with rfl | rfl | ⟨_, _, _, rfl⟩ <;> rfl
theorem app_lsx {U S : St} {v y : V} {l m : List Ex} (h : LsxV U S v l) (k0 : Same U S) (hy : isLn 7 y) (hm : All2 ExV m (elems y)) (hr : l.length + m.length ≤ 1000000) :
 ∃ v' S', appendE Tryz.prog 24 24 v y S = some (v', S') ∧ LsxV U S' v' (l ++ m) ∧ Same U S' := by
 obtain ⟨es, tk, rfl, he, htk⟩ := h
 have hrd := readS_ex (S := S) hy
 have happ : App Tryz.prog 24 24 27 7 true 120 := inferInstance
 obtain ⟨i, ud, z, h1, h2, h3, h4, h5, h6, h7, h8, h9⟩ := happ.inf
 have hall : (elems y).all (fun v => Nat.beq v.cells.length 7 && v.cells.all V.one) = true := List.all_eq_true.2 fun z hz => by
  obtain ⟨j, hj⟩ := List.getElem?_of_mem hz
  obtain ⟨x, v, hx, hv, hR, _⟩ := hm.at (i := j) (List.getElem?_eq_some_iff.1 hj).1
  rw [hj] at hv
  obtain rfl := Option.some.inj hv
  rw [hR.len7, hR.ones]; rfl
 have hb : Nat.ble 1 7 = true := rfl
 have hle := he.1
 have hlm := hm.1
 have hroom : roomOk (es.length + (elems y).length) 120 = true := by
  unfold roomOk
  rw [Nat.ble_eq_true_of_le (by omega), Nat.ble_eq_true_of_le (by omega)]; rfl
 by_cases hne : (elems y).isEmpty = true
 ·have hnil : elems y = [] := by simpa using hne
  have hm0 : m = [] := by
   rw [hnil] at hlm
   exact List.length_eq_zero_iff.1 hlm
  subst hm0
  refine ⟨_, S, ?_, ⟨es, tk, rfl, by simpa using he, htk⟩, k0⟩
  unfold appendE
  rw [happ.el]
  simp only [h1, h4, h5, h7, h6, h2, hb, h8, Nat.beq_refl, hrd, hall, hne, Bool.not_true, Bool.or_false, Bool.false_eq_true, if_false, if_true]
 ·have hne : (elems y).isEmpty = false := by simpa using hne
  rcases htk with rfl | ⟨k, rfl, hk, hlt, hf⟩
  ·refine ⟨_, _, ?_, ⟨es ++ elems y, .own S.next, rfl, all2_append he hm, .inr ⟨S.next, rfl, k0.next, by simp [St.new], by simp [St.new, Tr.find_put]⟩⟩, k0.trans (Same.new S .tok)⟩
   unfold appendE
   rw [happ.el]
   simp only [h1, h4, h5, h7, h6, h2, h3, hb, h8, Nat.beq_refl, hrd, hall, hne, hroom, Bool.not_true, Bool.or_false, Bool.false_eq_true, if_false, if_true]
  ·refine ⟨_, _, ?_, ⟨es ++ elems y, .own S.next, rfl, all2_append he hm, .inr ⟨S.next, rfl, k0.next, by simp [St.new], by simp [St.new, Tr.find_put]⟩⟩, k0.roll hk⟩
   unfold appendE
   rw [happ.el]
   simp only [h1, h4, h5, h7, h6, h2, h3, hb, h8, Nat.beq_refl, hrd, hall, hne, hroom, hf, Bool.not_true, Bool.or_false, Bool.false_eq_true, if_false, if_true]
theorem bs_none : buildSliceE Tryz.prog 24 0 [] = some (.list (some 27) 7 [] .exact) := by kernel_rfl
theorem bsl_ex : ∀ (ds : List V), ds.length = 7 → buildSliceE Tryz.prog 24 1 [(0, .agg ds)] = some (.list (some 27) 7 [.agg ds] .exact)
 | [a, b, c, d, e, f, g], _ => by kernel_rfl
set_option maxHeartbeats 4000000 in
theorem partsF {e : Ex} {cs : List V} (he : ExC e cs) (hsm : e.l.length ≤ 1000 ∧ e.arms.length ≤ 1000) : PuQ Tryz.prog 25 [.agg cs] (fun v => ∃ es tk, v = .list (some 27) 7 es tk ∧ All2 ExV e.parts es) := by
 obtain ⟨nv, lv, av, rfl, hk, hn, hs, ht, hnm, hl, hll, ha, hal, hL, hA⟩ := he.inv
 have hal : (elems av).length ≤ 9223372036854775807 := hal
 have eA : e.arms.length = (elems av).length := hA.1
 intro S
 obtain ⟨U, hU, bx, s0⟩ := box1 S 27 [.int .i64 e.kind, .int .i64 e.n, .str e.s, .str e.t, nv, lv, av]
 have k0 : Same U U := Same.refl U
 have l0 : LsxV U U (.list (some 27) 7 [] .exact) [] := ⟨[], .exact, rfl, All2.nil _, .inl rfl⟩
 obtain ⟨v1, S1, happ1, l1, k1⟩ := app_lsx l0 k0 hl hL (by simp; omega)
 rw [List.nil_append] at l1
 refine CallTo.of (n := 26) Tryz.func25 rfl rfl ?_
 repeat' first
  | refine Opl.val (op_box rfl) rfl (Opl.cast (S' := U) ?_ hU)
  | refine Opl.val (op_bsG rfl bs_none) rfl ?_
  | refine Opl.val (op_load rfl (ld_bx bx (by assumption) _ rfl)) rfl ?_
  | refine Opl.val (op_app rfl rfl happ1) rfl ?_
  | refine .std ?_ | refine .nil ?_ | refine .seq ?_ | refine .region ?_ | refine .xs ?_ | refine .kb ?_ | refine .leaf ?_ | refine .block ?_ | refine .gn ?_ | refine .dr ?_ | fail
 refine Go.weaken (E' := [(1, .ptr S.next 0), (3, v1), (4, .int .i64 ((0 : Nat) : Int))]) ?_ ⟨rfl, rfl, rfl, trivial⟩
 refine Go.loop_ind (α := Nat) (fun i => (elems av).length - i) (fun i E S' => (∃ v, E = [(1, .ptr S.next 0), (3, v), (4, .int .i64 (i : Nat))] ∧ LsxV U S' v (e.l ++ (e.arms.take i).map Ar.body)) ∧ i ≤ (elems av).length ∧ Same U S') ?_ 0 _ _ ⟨⟨v1, rfl, by simpa using l1⟩, Nat.zero_le _, k1⟩
 rintro i E S2 ⟨⟨v, rfl, l2⟩, hi, k2⟩ IH
 repeat' first
  | refine Opl.val (op_load rfl (ld_bx bx k2 _ rfl)) rfl ?_
  | refine Opl.val (op_lenL rfl ha.isL rfl) rfl ?_
  | refine Opl.fresh (op_int rfl rfl rfl rfl) rfl (fun q hq => ?_)
  | refine .std ?_ | refine .nil ?_ | refine .seq ?_ | refine .region ?_ | refine .xs ?_ | refine .kb ?_ | refine .leaf ?_ | refine .block ?_ | refine .gn ?_ | refine .dr ?_ | fail
 refine Go.cond rfl (fun hq => ?_) (fun hq => ?_)
 ·subst hq
  have hq : i < (elems av).length := by have := of_decide_eq_true (by assumption : decide ((i : Int) < ((elems av).length : Nat)) = true); omega
  obtain ⟨a, u, hx, hix, hu, hm⟩ := hA.at hq
  obtain ⟨nv2, ds, hcv, ho, hn2, hbd⟩ := hu
  have hpt : ∀ S, Pt S (.cptr none u.cells 0) (.str a.op :: nv2 :: ds) := fun S => by rw [hcv]; exact Pt.cptr _ _ _
  have hbs : buildSliceE Tryz.prog 24 1 [(0, .agg ds)] = some (.list (some 27) 7 [.agg ds] .exact) := bsl_ex ds hbd.len7
  obtain ⟨v3, S3, happ3, l3, k3⟩ := app_lsx (y := .list (some 27) 7 [.agg ds] .exact) (m := [a.body]) l2 k2 (.inr (.inr ⟨_, _, _, rfl⟩)) (All2.cons hbd (All2.nil _)) (by simp; omega)
  have hst : e.l ++ (e.arms.take (i + 1)).map Ar.body = (e.l ++ (e.arms.take i).map Ar.body) ++ [a.body] := by
   obtain ⟨hlt, rfl⟩ := List.getElem?_eq_some_iff.1 hx
   rw [List.take_succ_eq_append_getElem hlt, List.map_append, ← List.append_assoc]; rfl
  repeat' first
   | refine Opl.val (op_load rfl (ld_bx bx k2 _ rfl)) rfl ?_
   | refine Opl.val (op_ixaV ha rfl rfl hix) rfl ?_
   | refine Opl.val (op_load rfl (ld_agg ((hpt _).drop 2) hbd.len7)) rfl ?_
   | refine Opl.val (op_bsG rfl hbs) rfl ?_
   | refine Opl.val (op_app rfl rfl happ3) rfl ?_
   | refine Opl.val (op_int rfl rfl rfl (inc_ok (i := i) (by omega))) rfl ?_
   | refine .std ?_ | refine .nil ?_ | refine .seq ?_ | refine .region ?_ | refine .xs ?_ | refine .kb ?_ | refine .leaf ?_ | refine .block ?_ | refine .gn ?_ | refine .dr ?_ | fail
  exact (IH (i + 1) _ _ (by omega) ⟨⟨v3, rfl, by rw [hst]; exact l3⟩, by omega, k3⟩).weaken ⟨rfl, rfl, rfl, trivial⟩
 ·subst hq
  have hq : (elems av).length ≤ i := by have := of_decide_eq_false (by assumption : decide ((i : Int) < ((elems av).length : Nat)) = false); omega
  have hnil : e.arms.take i = e.arms := List.take_of_length_le (by omega)
  rw [hnil] at l2
  obtain ⟨es, tk, rfl, h2, _⟩ := l2
  repeat' first | refine .std ?_ | refine .nil ?_ | refine .seq ?_ | refine .region ?_ | refine .xs ?_ | refine .kb ?_ | refine .leaf ?_ | refine .block ?_ | refine .gn ?_ | refine .dr ?_ | fail
  exact At.fnr rfl rfl rfl ⟨⟨es, tk, rfl, h2⟩, s0.trans k2⟩
end Go.Proofs.YtodiioeddlmjhaaGreatDoor
