import Derived.Test.YtodiioeddlmjhaaGreatDoorWA
set_option linter.unusedVariables false
set_option linter.unusedSimpArgs false
namespace Go.Proofs.YtodiioeddlmjhaaGreatDoor
open Go.RowKit Go.Ev
set_option maxRecDepth 100000
set_option linter.unusedVariables false
set_option linter.unusedSimpArgs false
attribute [local irreducible] Go.Ev.opE
set_option maxHeartbeats 32000000 in
theorem textA {e : Ex} {cs : List V} (he : ExC e cs) (hf : ExF e) (h0 : nodesE e = 0) (hok : ∀ x ∈ e.parts, nodesE x = 0) (hrec : ∀ x ∈ e.parts, ∀ cs, ExC x cs → Pu Tryz.prog 52 [.agg cs] (.str (textE x))) (hlen : (textE e).length ≤ 549755813888) (hk : e.kind = 0 ∨ e.kind = 1 ∨ e.kind = 2 ∨ e.kind = 3 ∨ e.kind = 4 ∨ e.kind = 5 ∨ e.kind = 6 ∨ e.kind = 7 ∨ e.kind = 8) : Pu Tryz.prog 52 [.agg cs] (.str (textE e)) := by
 obtain ⟨nv, lv, av, rfl, hk64, hn64, hs, ht, ⟨hnl, hnll, hnA⟩, hl, hll, ha, hal, hL, hA⟩ := he.inv
 have h7 : ([.int .i64 e.kind, .int .i64 e.n, .str e.s, .str e.t, nv, lv, av] : List V).length = 7 := rfl
 have e1 : e.l.length = (elems lv).length := hL.1
 have en : e.names.length = (elems nv).length := hnA.1
 have hat : ∀ x ∈ e.parts, ∀ cs, ExC x cs → ∀ n : Int, Pu Tryz.prog 108 [.agg cs, .int .i64 n] (.str ((partW x).at n)) := fun x hx cs hc n => by
  have hfx := (nodes_ok (hok x hx)).1
  have h1 := (part_inf h0 hx).len
  have h2 := Pw.at_len (partW x) n
  have h3 : (partW x).2.length = (textE x).length := rfl
  exact refAt hc hfx.k0 hfx.k1 n (by omega) (hrec x hx cs hc)
 have hat0 : ∀ x ∈ e.parts, ∀ cs, ExC x cs → Pu Tryz.prog 108 [.agg cs, .int .i64 0] (.str (textE x)) := fun x hx cs hc => by
  have := hat x hx cs hc 0
  rw [at_zero] at this
  exact this
 intro S
 obtain ⟨U, hU, bx, s0⟩ := box1 S 27 [.int .i64 e.kind, .int .i64 e.n, .str e.s, .str e.t, nv, lv, av]
 have k0 : Same U U := Same.refl U
 have hTE := hlen
 rw [textE_eq] at hlen ⊢
 refine CallTo.of (n := 310) Tryz.func52 rfl rfl ?_
 rcases hk with h | h | h | h | h | h | h | h | h
 ·rw [h] at hU bx h7 hlen ⊢
  rw [nw0] at hlen ⊢
  repeat' first
   | refine Opl.val (op_box rfl) rfl (Opl.cast (S' := U) ?_ hU)
   | refine Opl.val (op_load rfl (ld_bxA bx (by assumption) h7)) rfl ?_
   | refine Opl.val (op_load rfl (ld_bx bx (by assumption) _ rfl)) rfl ?_
   | refine Go.condT rfl ?_
   | refine Go.condF rfl ?_
   | exact At.fnr rfl rfl rfl ⟨rfl, s0.trans (by assumption)⟩
   | refine .std ?_ | refine .nil ?_ | refine .seq ?_ | refine .region ?_ | refine .xs ?_ | refine .kb ?_ | refine .leaf ?_ | refine .block ?_ | refine .gn ?_ | refine .dr ?_ | fail
 ·rw [h] at hU bx h7 hlen ⊢
  rw [nw1] at hlen ⊢
  have hd := digI_len (n := e.n) hf.n.1 hf.n.2
  have f0 := digitsF _ e.n (Nat.le_refl _) hf.n.1 hf.n.2
  by_cases hn0 : e.n < 0
  ·rw [if_pos hn0] at hlen ⊢
   repeat' first
    | refine Opl.val (op_box rfl) rfl (Opl.cast (S' := U) ?_ hU)
    | refine Opl.val (op_load rfl (ld_bxA bx (by assumption) h7)) rfl ?_
    | refine Opl.val (op_load rfl (ld_bx bx (by assumption) _ rfl)) rfl ?_
    | refine Go.condT rfl ?_
    | refine Go.condF rfl ?_
    | refine Opl.val (op_int rfl rfl rfl (lss_i (q := true) (decide_eq_true hn0))) rfl ?_
    | refine Opl.callS (U0 := U) (by assumption) rfl (by kernel_rfl) f0 rfl (fun S8 k8 => ?_)
    | refine Opl.val (op_str rfl rfl (str_add (by (try simp only [List.length_append, List.length_cons, List.length_nil]); omega))) rfl ?_
    | exact At.fnr rfl rfl rfl ⟨rfl, s0.trans (by assumption)⟩
    | refine .std ?_ | refine .nil ?_ | refine .seq ?_ | refine .region ?_ | refine .xs ?_ | refine .kb ?_ | refine .leaf ?_ | refine .block ?_ | refine .gn ?_ | refine .dr ?_ | fail
  ·rw [if_neg hn0] at hlen ⊢
   repeat' first
    | refine Opl.val (op_box rfl) rfl (Opl.cast (S' := U) ?_ hU)
    | refine Opl.val (op_load rfl (ld_bxA bx (by assumption) h7)) rfl ?_
    | refine Opl.val (op_load rfl (ld_bx bx (by assumption) _ rfl)) rfl ?_
    | refine Go.condT rfl ?_
    | refine Go.condF rfl ?_
    | refine Opl.val (op_int rfl rfl rfl (lss_i (q := false) (decide_eq_false hn0))) rfl ?_
    | refine Opl.callS (U0 := U) (by assumption) rfl (by kernel_rfl) f0 rfl (fun S8 k8 => ?_)
    | refine Opl.val (op_str rfl rfl (str_add (by (try simp only [List.length_append, List.length_cons, List.length_nil]); omega))) rfl ?_
    | exact At.fnr rfl rfl rfl ⟨rfl, s0.trans (by assumption)⟩
    | refine .std ?_ | refine .nil ?_ | refine .seq ?_ | refine .region ?_ | refine .xs ?_ | refine .kb ?_ | refine .leaf ?_ | refine .block ?_ | refine .gn ?_ | refine .dr ?_ | fail
 ·rw [h] at hU bx h7 hlen ⊢
  rw [nw2] at hlen ⊢
  have hnr : 0 ≤ e.n ∧ e.n ≤ 1 := by
   obtain ⟨x, hx, g1, g2, _⟩ := hf.shape
   rw [h] at hx
   have := Option.some.inj hx
   subst this
   exact ⟨g1, g2⟩
  have hbs : buildSliceE Tryz.prog 23 2 [(0, .str [102, 97, 108, 115, 101]), (1, .str [116, 114, 117, 101])] = some (.list (some 9) 1 [.str [102, 97, 108, 115, 101], .str [116, 114, 117, 101]] .exact) := by kernel_rfl
  have hln : isLn 1 (.list (some 9) 1 [.str [102, 97, 108, 115, 101], .str [116, 114, 117, 101]] .exact) := .inr (.inr ⟨_, _, _, rfl⟩)
  have hn01 : e.n = 0 ∨ e.n = 1 := by omega
  rcases hn01 with hn0 | hn0
  ·rw [hn0] at hU bx h7 hlen ⊢
   repeat' first
    | refine Opl.val (op_box rfl) rfl (Opl.cast (S' := U) ?_ hU)
    | refine Opl.val (op_load rfl (ld_bxA bx (by assumption) h7)) rfl ?_
    | refine Opl.val (op_load rfl (ld_bx bx (by assumption) _ rfl)) rfl ?_
    | refine Go.condT rfl ?_
    | refine Go.condF rfl ?_
    | refine Opl.val (op_bsG rfl hbs) rfl ?_
    | refine Opl.val (op_ixaV (i := 0) hln rfl rfl rfl) rfl ?_
    | refine Opl.val (op_load rfl (ld_one (Pt.cptr _ _ _))) rfl ?_
    | exact At.fnr rfl rfl rfl ⟨rfl, s0.trans (by assumption)⟩
    | refine .std ?_ | refine .nil ?_ | refine .seq ?_ | refine .region ?_ | refine .xs ?_ | refine .kb ?_ | refine .leaf ?_ | refine .block ?_ | refine .gn ?_ | refine .dr ?_ | fail
  ·rw [hn0] at hU bx h7 hlen ⊢
   repeat' first
    | refine Opl.val (op_box rfl) rfl (Opl.cast (S' := U) ?_ hU)
    | refine Opl.val (op_load rfl (ld_bxA bx (by assumption) h7)) rfl ?_
    | refine Opl.val (op_load rfl (ld_bx bx (by assumption) _ rfl)) rfl ?_
    | refine Go.condT rfl ?_
    | refine Go.condF rfl ?_
    | refine Opl.val (op_bsG rfl hbs) rfl ?_
    | refine Opl.val (op_ixaV (i := 1) hln rfl rfl rfl) rfl ?_
    | refine Opl.val (op_load rfl (ld_one (Pt.cptr _ _ _))) rfl ?_
    | exact At.fnr rfl rfl rfl ⟨rfl, s0.trans (by assumption)⟩
    | refine .std ?_ | refine .nil ?_ | refine .seq ?_ | refine .region ?_ | refine .xs ?_ | refine .kb ?_ | refine .leaf ?_ | refine .block ?_ | refine .gn ?_ | refine .dr ?_ | fail
 ·rw [h] at hU bx h7 hlen ⊢
  rw [nw3] at hlen ⊢
  repeat' first
   | refine Opl.val (op_box rfl) rfl (Opl.cast (S' := U) ?_ hU)
   | refine Opl.val (op_load rfl (ld_bxA bx (by assumption) h7)) rfl ?_
   | refine Opl.val (op_load rfl (ld_bx bx (by assumption) _ rfl)) rfl ?_
   | refine Go.condT rfl ?_
   | refine Go.condF rfl ?_
   | exact At.fnr rfl rfl rfl ⟨rfl, s0.trans (by assumption)⟩
   | refine .std ?_ | refine .nil ?_ | refine .seq ?_ | refine .region ?_ | refine .xs ?_ | refine .kb ?_ | refine .leaf ?_ | refine .block ?_ | refine .gn ?_ | refine .dr ?_ | fail
 ·rw [h] at hU bx h7 hlen ⊢
  rw [nw4] at hlen ⊢
  have hl1 : 1 ≤ e.l.length := by
   obtain ⟨x, hx, _, _, _, _, _, _, h3, _⟩ := hf.shape
   rw [h] at hx
   have := Option.some.inj hx
   subst this; exact h3
  obtain ⟨x, v, hx, hix, hvx, hmx⟩ := hL.at (i := 0) (by omega)
  have hlx := hvx.len7
  have cx := hat0 x (mem_l hmx) _ hvx
  have dx := hat x (mem_l hmx) _ hvx
  rw [ptW_at hx, show (partW x).2 = textE x from rfl] at hlen ⊢
  have hnn : 1 ≤ e.names.length := by
   obtain ⟨x, hx, _, _, _, _, h3, _⟩ := hf.shape
   rw [h] at hx
   have := Option.some.inj hx
   subst this; exact h3
  obtain ⟨nm, u, hnm, hinm, ⟨hcnm, hhnm⟩, hmnm⟩ := hnA.at (i := 0) (by omega)
  have hpnm : ∀ S, Pt S (.cptr none u.cells 0) [.str nm] := fun S => by rw [hcnm]; exact Pt.cptr _ _ _
  rw [nmW_at hnm] at hlen ⊢
  have hsl := hf.s
  simp only [List.length_append, List.length_cons, List.length_nil] at hlen
  repeat' first
   | refine Opl.val (op_box rfl) rfl (Opl.cast (S' := U) ?_ hU)
   | refine Opl.val (op_load rfl (ld_bxA bx (by assumption) h7)) rfl ?_
   | refine Opl.val (op_load rfl (ld_bx bx (by assumption) _ rfl)) rfl ?_
   | refine Go.condT rfl ?_
   | refine Go.condF rfl ?_
   | refine Go.draw [0, 1, 3, 7, 15, 31, 0, 64, 192, 448, 960, 2047, 4095] [6, 7, 8, 9, 10, 0, 1, 2, 3, 4, 5, 11, 12] (by kernel_rfl) (Same U) ?_
   | refine Drw.c0 rfl rfl (op_move rfl) rfl ?_
   | refine Drw.c0 rfl rfl (op_assign rfl) rfl ?_
   | refine Drw.c0 rfl rfl (op_fld rfl rfl) rfl ?_
   | refine Drw.c0 rfl rfl (op_str rfl rfl (str_add (by (try simp only [List.length_append, List.length_cons, List.length_nil]); omega))) rfl ?_
   | refine Drw.c2g rfl rfl (by assumption) (by assumption) (fun U hU => op_load rfl (ld_bx bx hU _ rfl)) rfl ?_
   | refine Drw.c0 rfl rfl (op_ixaV (i := 0) hnl rfl rfl hinm) rfl ?_
   | refine Drw.c2g rfl rfl (by assumption) (by assumption) (fun U hU => op_load rfl (ld_one (hpnm _))) rfl ?_
   | refine Drw.c0 rfl rfl (op_ixaV (i := 0) hl rfl rfl hix) rfl ?_
   | refine Drw.c2g rfl rfl (by assumption) (by assumption) (fun U hU => op_load rfl (ld_agg (Pt.cptr _ _ _) hlx)) rfl ?_
   | refine Drw.callS (by assumption) rfl rfl (by kernel_rfl) cx rfl (fun S4 k4 => ?_)
   | refine Drw.nil ?_
   | exact At.fnr rfl rfl rfl ⟨rfl, s0.trans (by assumption)⟩
   | refine .std ?_ | refine .nil ?_ | refine .seq ?_ | refine .region ?_ | refine .xs ?_ | refine .kb ?_ | refine .leaf ?_ | refine .block ?_ | refine .gn ?_ | refine .dr ?_ | fail
 ·rw [h] at hU bx h7 hlen ⊢
  rw [nw5] at hlen ⊢
  have hl1 : 2 ≤ e.l.length := by
   obtain ⟨x, hx, _, _, _, _, _, _, h3, _⟩ := hf.shape
   rw [h] at hx
   have := Option.some.inj hx
   subst this; exact h3
  obtain ⟨x, v, hx, hix, hvx, hmx⟩ := hL.at (i := 0) (by omega)
  have hlx := hvx.len7
  have cx := hat0 x (mem_l hmx) _ hvx
  have dx := hat x (mem_l hmx) _ hvx
  obtain ⟨y, w, hy, hiy, hvy, hmy⟩ := hL.at (i := 1) (by omega)
  have hly := hvy.len7
  have cy := hat0 y (mem_l hmy) _ hvy
  have dy := hat y (mem_l hmy) _ hvy
  rw [ptW_at hx, ptW_at hy] at hlen ⊢
  have hsl := hf.s
  simp only [List.length_append, List.length_cons, List.length_nil] at hlen
  repeat' first
   | refine Opl.val (op_box rfl) rfl (Opl.cast (S' := U) ?_ hU)
   | refine Opl.val (op_load rfl (ld_bxA bx (by assumption) h7)) rfl ?_
   | refine Opl.val (op_load rfl (ld_bx bx (by assumption) _ rfl)) rfl ?_
   | refine Go.condT rfl ?_
   | refine Go.condF rfl ?_
   | refine Go.draw [0, 1, 3, 7, 15, 31, 0, 64, 192, 448, 991, 2047, 4095] [0, 1, 2, 3, 4, 6, 7, 8, 9, 10, 5, 11, 12] (by kernel_rfl) (Same U) ?_
   | refine Drw.c0 rfl rfl (op_move rfl) rfl ?_
   | refine Drw.c0 rfl rfl (op_assign rfl) rfl ?_
   | refine Drw.c0 rfl rfl (op_fld rfl rfl) rfl ?_
   | refine Drw.c0 rfl rfl (op_str rfl rfl (str_add (by (try simp only [List.length_append, List.length_cons, List.length_nil]); omega))) rfl ?_
   | refine Drw.c2g rfl rfl (by assumption) (by assumption) (fun U hU => op_load rfl (ld_bx bx hU _ rfl)) rfl ?_
   | refine Drw.c0 rfl rfl (op_ixaV (i := 0) hl rfl rfl hix) rfl ?_
   | refine Drw.c2g rfl rfl (by assumption) (by assumption) (fun U hU => op_load rfl (ld_agg (Pt.cptr _ _ _) hlx)) rfl ?_
   | refine Drw.c0 rfl rfl (op_ixaV (i := 1) hl rfl rfl hiy) rfl ?_
   | refine Drw.c2g rfl rfl (by assumption) (by assumption) (fun U hU => op_load rfl (ld_agg (Pt.cptr _ _ _) hly)) rfl ?_
   | refine Drw.callS (by assumption) rfl rfl (by kernel_rfl) (dx 4) rfl (fun S4 k4 => ?_)
   | refine Drw.callS (by assumption) rfl rfl (by kernel_rfl) (dy 5) rfl (fun S4 k4 => ?_)
   | refine Drw.nil ?_
   | exact At.fnr rfl rfl rfl ⟨rfl, s0.trans (by assumption)⟩
   | refine .std ?_ | refine .nil ?_ | refine .seq ?_ | refine .region ?_ | refine .xs ?_ | refine .kb ?_ | refine .leaf ?_ | refine .block ?_ | refine .gn ?_ | refine .dr ?_ | fail
 ·rw [h] at hU bx h7 hlen ⊢
  rw [nw6] at hlen ⊢
  have hl1 : 2 ≤ e.l.length := by
   obtain ⟨x, hx, _, _, _, _, _, _, h3, _⟩ := hf.shape
   rw [h] at hx
   have := Option.some.inj hx
   subst this; exact h3
  obtain ⟨x, v, hx, hix, hvx, hmx⟩ := hL.at (i := 0) (by omega)
  have hlx := hvx.len7
  have cx := hat0 x (mem_l hmx) _ hvx
  have dx := hat x (mem_l hmx) _ hvx
  obtain ⟨y, w, hy, hiy, hvy, hmy⟩ := hL.at (i := 1) (by omega)
  have hly := hvy.len7
  have cy := hat0 y (mem_l hmy) _ hvy
  have dy := hat y (mem_l hmy) _ hvy
  rw [ptW_at hx, ptW_at hy, show (partW x).2 = textE x from rfl, show (partW y).2 = textE y from rfl] at hlen ⊢
  have hnn : e.names.length = 1 := by
   obtain ⟨x, hx, _, _, _, _, h3, h4, _⟩ := hf.shape
   rw [h] at hx
   have := Option.some.inj hx
   subst this
   have h3 : 1 ≤ e.names.length := h3
   have h4 : e.names.length ≤ 1 := h4
   omega
  obtain ⟨nm, u, hnm, hinm, ⟨hcnm, hhnm⟩, hmnm⟩ := hnA.at (i := 0) (by omega)
  have hpnm : ∀ S, Pt S (.cptr none u.cells 0) [.str nm] := fun S => by rw [hcnm]; exact Pt.cptr _ _ _
  have hj : joinW [32] e.names = nm := by
   obtain ⟨a, hna⟩ := List.length_eq_one_iff.1 hnn
   rw [hna] at hnm ⊢
   simp at hnm
   subst hnm
   simp [joinW]
  rw [hj] at hlen ⊢
  have hsl := hf.s
  simp only [List.length_append, List.length_cons, List.length_nil] at hlen
  repeat' first
   | refine Opl.val (op_box rfl) rfl (Opl.cast (S' := U) ?_ hU)
   | refine Opl.val (op_load rfl (ld_bxA bx (by assumption) h7)) rfl ?_
   | refine Opl.val (op_load rfl (ld_bx bx (by assumption) _ rfl)) rfl ?_
   | refine Go.condT rfl ?_
   | refine Go.condF rfl ?_
   | refine Go.draw [0, 1, 3, 7, 15, 31, 0, 64, 192, 448, 960, 2047, 4095, 0, 8192, 24576, 57344, 124864, 262143, 524287] [6, 7, 8, 9, 10, 13, 14, 15, 16, 17, 0, 1, 2, 3, 4, 5, 11, 12, 18, 19] (by kernel_rfl) (Same U) ?_
   | refine Drw.c0 rfl rfl (op_move rfl) rfl ?_
   | refine Drw.c0 rfl rfl (op_assign rfl) rfl ?_
   | refine Drw.c0 rfl rfl (op_fld rfl rfl) rfl ?_
   | refine Drw.c0 rfl rfl (op_str rfl rfl (str_add (by (try simp only [List.length_append, List.length_cons, List.length_nil]); omega))) rfl ?_
   | refine Drw.c2g rfl rfl (by assumption) (by assumption) (fun U hU => op_load rfl (ld_bx bx hU _ rfl)) rfl ?_
   | refine Drw.c0 rfl rfl (op_ixaV (i := 0) hnl rfl rfl hinm) rfl ?_
   | refine Drw.c2g rfl rfl (by assumption) (by assumption) (fun U hU => op_load rfl (ld_one (hpnm _))) rfl ?_
   | refine Drw.c0 rfl rfl (op_ixaV (i := 0) hl rfl rfl hix) rfl ?_
   | refine Drw.c2g rfl rfl (by assumption) (by assumption) (fun U hU => op_load rfl (ld_agg (Pt.cptr _ _ _) hlx)) rfl ?_
   | refine Drw.c0 rfl rfl (op_ixaV (i := 1) hl rfl rfl hiy) rfl ?_
   | refine Drw.c2g rfl rfl (by assumption) (by assumption) (fun U hU => op_load rfl (ld_agg (Pt.cptr _ _ _) hly)) rfl ?_
   | refine Drw.callS (by assumption) rfl rfl (by kernel_rfl) cx rfl (fun S4 k4 => ?_)
   | refine Drw.callS (by assumption) rfl rfl (by kernel_rfl) cy rfl (fun S4 k4 => ?_)
   | refine Drw.nil ?_
   | exact At.fnr rfl rfl rfl ⟨rfl, s0.trans (by assumption)⟩
   | refine .std ?_ | refine .nil ?_ | refine .seq ?_ | refine .region ?_ | refine .xs ?_ | refine .kb ?_ | refine .leaf ?_ | refine .block ?_ | refine .gn ?_ | refine .dr ?_ | fail
 ·rw [h] at hU bx h7 hlen ⊢
  rw [nw7] at hlen ⊢
  have hl1 : 2 ≤ e.l.length := by
   obtain ⟨x, hx, _, _, _, _, _, _, h3, _⟩ := hf.shape
   rw [h] at hx
   have := Option.some.inj hx
   subst this; exact h3
  obtain ⟨x, v, hx, hix, hvx, hmx⟩ := hL.at (i := 0) (by omega)
  have hlx := hvx.len7
  have cx := hat0 x (mem_l hmx) _ hvx
  have dx := hat x (mem_l hmx) _ hvx
  obtain ⟨y, w, hy, hiy, hvy, hmy⟩ := hL.at (i := 1) (by omega)
  have hly := hvy.len7
  have cy := hat0 y (mem_l hmy) _ hvy
  have dy := hat y (mem_l hmy) _ hvy
  rw [ptW_at hx, ptW_at hy, show (partW x).2 = textE x from rfl, show (partW y).2 = textE y from rfl] at hlen ⊢
  have hnn : e.names.length = 2 := by
   obtain ⟨x, hx, _, _, _, _, h3, h4, _⟩ := hf.shape
   rw [h] at hx
   have := Option.some.inj hx
   subst this
   have h3 : 2 ≤ e.names.length := h3
   have h4 : e.names.length ≤ 2 := h4
   omega
  obtain ⟨nm, u, hnm, hinm, ⟨hcnm, hhnm⟩, hmnm⟩ := hnA.at (i := 0) (by omega)
  have hpnm : ∀ S, Pt S (.cptr none u.cells 0) [.str nm] := fun S => by rw [hcnm]; exact Pt.cptr _ _ _
  obtain ⟨nk, u3, hnk, hink, ⟨hcnk, hhnk⟩, hmnk⟩ := hnA.at (i := 1) (by omega)
  have hpnk : ∀ S, Pt S (.cptr none u3.cells 0) [.str nk] := fun S => by rw [hcnk]; exact Pt.cptr _ _ _
  have hj : joinW [32] e.names = nm ++ [32] ++ nk := by
   match hq : e.names, hnn, hnm, hnk with
   | [a, b], _, hnm, hnk =>
    simp at hnm hnk
    subst hnm; subst hnk
    simp [joinW]
  rw [hj, ← List.append_assoc, ← List.append_assoc] at hlen ⊢
  have hsl := hf.s
  simp only [List.length_append, List.length_cons, List.length_nil] at hlen
  repeat' first
   | refine Opl.val (op_box rfl) rfl (Opl.cast (S' := U) ?_ hU)
   | refine Opl.val (op_load rfl (ld_bxA bx (by assumption) h7)) rfl ?_
   | refine Opl.val (op_load rfl (ld_bx bx (by assumption) _ rfl)) rfl ?_
   | refine Go.condT rfl ?_
   | refine Go.condF rfl ?_
   | refine Go.draw [0, 1, 3, 7, 15, 31, 0, 64, 192, 448, 1023, 2047, 0, 4096, 12288, 28672, 61440, 131071, 262143, 0, 524288, 1572864, 3670016, 7991296, 16777215, 33554431] [12, 13, 14, 15, 16, 19, 20, 21, 22, 23, 0, 1, 2, 3, 4, 5, 6, 7, 8, 9, 10, 11, 17, 18, 24, 25] (by kernel_rfl) (Same U) ?_
   | refine Drw.c0 rfl rfl (op_move rfl) rfl ?_
   | refine Drw.c0 rfl rfl (op_assign rfl) rfl ?_
   | refine Drw.c0 rfl rfl (op_fld rfl rfl) rfl ?_
   | refine Drw.c0 rfl rfl (op_str rfl rfl (str_add (by (try simp only [List.length_append, List.length_cons, List.length_nil]); omega))) rfl ?_
   | refine Drw.c2g rfl rfl (by assumption) (by assumption) (fun U hU => op_load rfl (ld_bx bx hU _ rfl)) rfl ?_
   | refine Drw.c0 rfl rfl (op_ixaV (i := 0) hnl rfl rfl hinm) rfl ?_
   | refine Drw.c2g rfl rfl (by assumption) (by assumption) (fun U hU => op_load rfl (ld_one (hpnm _))) rfl ?_
   | refine Drw.c0 rfl rfl (op_ixaV (i := 1) hnl rfl rfl hink) rfl ?_
   | refine Drw.c2g rfl rfl (by assumption) (by assumption) (fun U hU => op_load rfl (ld_one (hpnk _))) rfl ?_
   | refine Drw.c0 rfl rfl (op_ixaV (i := 0) hl rfl rfl hix) rfl ?_
   | refine Drw.c2g rfl rfl (by assumption) (by assumption) (fun U hU => op_load rfl (ld_agg (Pt.cptr _ _ _) hlx)) rfl ?_
   | refine Drw.c0 rfl rfl (op_ixaV (i := 1) hl rfl rfl hiy) rfl ?_
   | refine Drw.c2g rfl rfl (by assumption) (by assumption) (fun U hU => op_load rfl (ld_agg (Pt.cptr _ _ _) hly)) rfl ?_
   | refine Drw.callS (by assumption) rfl rfl (by kernel_rfl) cx rfl (fun S4 k4 => ?_)
   | refine Drw.callS (by assumption) rfl rfl (by kernel_rfl) cy rfl (fun S4 k4 => ?_)
   | refine Drw.nil ?_
   | exact At.fnr rfl rfl rfl ⟨rfl, s0.trans (by assumption)⟩
   | refine .std ?_ | refine .nil ?_ | refine .seq ?_ | refine .region ?_ | refine .xs ?_ | refine .kb ?_ | refine .leaf ?_ | refine .block ?_ | refine .gn ?_ | refine .dr ?_ | fail
 ·rw [h] at hU bx h7 hlen ⊢
  rw [nw8] at hlen ⊢
  have hl1 : 3 ≤ e.l.length := by
   obtain ⟨x, hx, _, _, _, _, _, _, h3, _⟩ := hf.shape
   rw [h] at hx
   have := Option.some.inj hx
   subst this; exact h3
  obtain ⟨x, v, hx, hix, hvx, hmx⟩ := hL.at (i := 0) (by omega)
  have hlx := hvx.len7
  have cx := hat0 x (mem_l hmx) _ hvx
  have dx := hat x (mem_l hmx) _ hvx
  obtain ⟨y, w, hy, hiy, hvy, hmy⟩ := hL.at (i := 1) (by omega)
  have hly := hvy.len7
  have cy := hat0 y (mem_l hmy) _ hvy
  have dy := hat y (mem_l hmy) _ hvy
  obtain ⟨z, u2, hz, hiz, hvz, hmz⟩ := hL.at (i := 2) (by omega)
  have hlz := hvz.len7
  have cz := hat0 z (mem_l hmz) _ hvz
  have dz := hat z (mem_l hmz) _ hvz
  rw [ptW_at hx, ptW_at hy, ptW_at hz, show (partW x).2 = textE x from rfl, show (partW y).2 = textE y from rfl, show (partW z).2 = textE z from rfl] at hlen ⊢
  have hsl := hf.s
  simp only [List.length_append, List.length_cons, List.length_nil] at hlen
  repeat' first
   | refine Opl.val (op_box rfl) rfl (Opl.cast (S' := U) ?_ hU)
   | refine Opl.val (op_load rfl (ld_bxA bx (by assumption) h7)) rfl ?_
   | refine Opl.val (op_load rfl (ld_bx bx (by assumption) _ rfl)) rfl ?_
   | refine Go.condT rfl ?_
   | refine Go.condF rfl ?_
   | refine Go.draw [0, 1, 3, 7, 15, 31, 63, 0, 128, 384, 896, 1951, 4095, 8191, 0, 16384, 49152, 114688, 249759, 524287, 1048575] [0, 1, 2, 3, 4, 7, 8, 9, 10, 11, 14, 15, 16, 17, 18, 5, 6, 12, 13, 19, 20] (by kernel_rfl) (Same U) ?_
   | refine Drw.c0 rfl rfl (op_move rfl) rfl ?_
   | refine Drw.c0 rfl rfl (op_assign rfl) rfl ?_
   | refine Drw.c0 rfl rfl (op_fld rfl rfl) rfl ?_
   | refine Drw.c0 rfl rfl (op_str rfl rfl (str_add (by (try simp only [List.length_append, List.length_cons, List.length_nil]); omega))) rfl ?_
   | refine Drw.c2g rfl rfl (by assumption) (by assumption) (fun U hU => op_load rfl (ld_bx bx hU _ rfl)) rfl ?_
   | refine Drw.c0 rfl rfl (op_ixaV (i := 0) hl rfl rfl hix) rfl ?_
   | refine Drw.c2g rfl rfl (by assumption) (by assumption) (fun U hU => op_load rfl (ld_agg (Pt.cptr _ _ _) hlx)) rfl ?_
   | refine Drw.c0 rfl rfl (op_ixaV (i := 1) hl rfl rfl hiy) rfl ?_
   | refine Drw.c2g rfl rfl (by assumption) (by assumption) (fun U hU => op_load rfl (ld_agg (Pt.cptr _ _ _) hly)) rfl ?_
   | refine Drw.c0 rfl rfl (op_ixaV (i := 2) hl rfl rfl hiz) rfl ?_
   | refine Drw.c2g rfl rfl (by assumption) (by assumption) (fun U hU => op_load rfl (ld_agg (Pt.cptr _ _ _) hlz)) rfl ?_
   | refine Drw.callS (by assumption) rfl rfl (by kernel_rfl) cx rfl (fun S4 k4 => ?_)
   | refine Drw.callS (by assumption) rfl rfl (by kernel_rfl) cy rfl (fun S4 k4 => ?_)
   | refine Drw.callS (by assumption) rfl rfl (by kernel_rfl) cz rfl (fun S4 k4 => ?_)
   | refine Drw.nil ?_
   | exact At.fnr rfl rfl rfl ⟨rfl, s0.trans (by assumption)⟩
   | refine .std ?_ | refine .nil ?_ | refine .seq ?_ | refine .region ?_ | refine .xs ?_ | refine .kb ?_ | refine .leaf ?_ | refine .block ?_ | refine .gn ?_ | refine .dr ?_ | fail
end Go.Proofs.YtodiioeddlmjhaaGreatDoor
