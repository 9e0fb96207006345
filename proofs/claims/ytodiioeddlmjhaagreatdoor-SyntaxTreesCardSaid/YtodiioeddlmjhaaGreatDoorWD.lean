import Derived.Test.YtodiioeddlmjhaaGreatDoorWA
set_option linter.unusedVariables false
set_option linter.unusedSimpArgs false
namespace Go.Proofs.YtodiioeddlmjhaaGreatDoor
open Go.RowKit Go.Ev
set_option maxRecDepth 100000
set_option linter.unusedVariables false
set_option linter.unusedSimpArgs false
attribute [local irreducible] Go.Ev.opE
set_option maxHeartbeats 32000000 in
theorem textB {e : Ex} {cs : List V} (he : ExC e cs) (hf : ExF e) (h0 : nodesE e = 0) (hok : ∀ x ∈ e.parts, nodesE x = 0) (hrec : ∀ x ∈ e.parts, ∀ cs, ExC x cs → Pu Tryz.prog 52 [.agg cs] (.str (textE x))) (hlen : (textE e).length ≤ 549755813888) (hk : e.kind = 10 ∨ e.kind = 11 ∨ e.kind = 12 ∨ e.kind = 13 ∨ e.kind = 14) : Pu Tryz.prog 52 [.agg cs] (.str (textE e)) := by
 obtain ⟨nv, lv, av, rfl, hk64, hn64, hs, ht, ⟨hnl, hnll, hnA⟩, hl, hll, ha, hal, hL, hA⟩ := he.inv
 have h7 : ([.int .i64 e.kind, .int .i64 e.n, .str e.s, .str e.t, nv, lv, av] : List V).length = 7 := rfl
 have e1 : e.l.length = (elems lv).length := hL.1
 have en : e.names.length = (elems nv).length := hnA.1
 have hat : ∀ x ∈ e.parts, ∀ cs, ExC x cs → ∀ n : Int, Pu Tryz.prog 108 [.agg cs, .int .i64 n] (.str ((partW x).at n)) := fun x hx cs hc n => by
  have hfx := (nodes_ok (hok x hx)).1
  have h1 := (part_inf h0 hx).len
  have h2 := Pw.at_len (partW x) n
  have h3 : (partW x).2.length = (textE x).length := rfl
  exact refAt hc hfx.k0 hfx.k1 n (by omega) (hrec x hx cs hc)
 have hat0 : ∀ x ∈ e.parts, ∀ cs, ExC x cs → Pu Tryz.prog 108 [.agg cs, .int .i64 0] (.str (textE x)) := fun x hx cs hc => by
  have := hat x hx cs hc 0
  rw [at_zero] at this
  exact this
 intro S
 obtain ⟨U, hU, bx, s0⟩ := box1 S 27 [.int .i64 e.kind, .int .i64 e.n, .str e.s, .str e.t, nv, lv, av]
 have k0 : Same U U := Same.refl U
 have hTE := hlen
 rw [textE_eq] at hlen ⊢
 refine CallTo.of (n := 310) Tryz.func52 rfl rfl ?_
 rcases hk with h | h | h | h | h
 ·rw [h] at hU bx h7 hlen ⊢
  rw [nw10] at hlen ⊢
  have hmm : (e.l.map partW).map Prod.snd = e.l.map textE := by rw [List.map_map]; rfl
  rw [hmm, List.length_map] at hlen ⊢
  have hl4 : e.l.length ≤ 4 := by
   obtain ⟨x, hx, _, _, _, _, _, _, _, h4⟩ := hf.shape
   rw [h] at hx
   have := Option.some.inj hx
   subst this; exact h4
  by_cases hz : e.l.length > 0
  ·rw [if_pos hz] at hlen ⊢
   have hJ : (joinW [44, 32] (e.l.map textE)).length ≤ 549755813888 := by simp only [List.length_append] at hlen; omega
   have cl := refListed hl hll hL (by omega) (fun x hx cs hc => hat0 x (mem_l hx) cs hc) (fun x hx => by have := (part_inf h0 (mem_l hx)).len; omega) (by omega)
   generalize joinW [44, 32] (e.l.map textE) = J at *
   simp only [List.length_append, List.length_cons, List.length_nil] at hlen
   repeat' first
    | refine Opl.val (op_box rfl) rfl (Opl.cast (S' := U) ?_ hU)
    | refine Opl.val (op_load rfl (ld_bxA bx (by assumption) h7)) rfl ?_
    | refine Opl.val (op_load rfl (ld_bx bx (by assumption) _ rfl)) rfl ?_
    | refine Go.condT rfl ?_
    | refine Go.condF rfl ?_
    | refine Opl.val (op_lenL rfl hl.isL rfl) rfl ?_
    | refine Opl.val (op_int rfl rfl rfl (eql_i (q := false) (decide_eq_false (by omega)))) rfl ?_
    | refine Go.draw [0, 1, 0, 4, 12, 31, 63] [2, 3, 4, 0, 1, 5, 6] (by kernel_rfl) (Same U) ?_
    | refine Drw.c0 rfl rfl (op_move rfl) rfl ?_
    | refine Drw.c0 rfl rfl (op_assign rfl) rfl ?_
    | refine Drw.c0 rfl rfl (op_fld rfl rfl) rfl ?_
    | refine Drw.c0 rfl rfl (op_str rfl rfl (str_add (by (try simp only [List.length_append, List.length_cons, List.length_nil]); omega))) rfl ?_
    | refine Drw.c2g rfl rfl (by assumption) (by assumption) (fun U hU => op_load rfl (ld_bx bx hU _ rfl)) rfl ?_
    | refine Drw.callS (by assumption) rfl rfl (by kernel_rfl) cl rfl (fun S4 k4 => ?_)
    | refine Drw.nil ?_
    | exact At.fnr rfl rfl rfl ⟨rfl, s0.trans (by assumption)⟩
    | refine .std ?_ | refine .nil ?_ | refine .seq ?_ | refine .region ?_ | refine .xs ?_ | refine .kb ?_ | refine .leaf ?_ | refine .block ?_ | refine .gn ?_ | refine .dr ?_ | fail
  ·rw [if_neg hz, List.append_nil]
   repeat' first
    | refine Opl.val (op_box rfl) rfl (Opl.cast (S' := U) ?_ hU)
    | refine Opl.val (op_load rfl (ld_bxA bx (by assumption) h7)) rfl ?_
    | refine Opl.val (op_load rfl (ld_bx bx (by assumption) _ rfl)) rfl ?_
    | refine Go.condT rfl ?_
    | refine Go.condF rfl ?_
    | refine Opl.val (op_lenL rfl hl.isL rfl) rfl ?_
    | refine Opl.val (op_int rfl rfl rfl (eql_i (q := true) (decide_eq_true (by omega)))) rfl ?_
    | exact At.fnr rfl rfl rfl ⟨rfl, s0.trans (by assumption)⟩
    | refine .std ?_ | refine .nil ?_ | refine .seq ?_ | refine .region ?_ | refine .xs ?_ | refine .kb ?_ | refine .leaf ?_ | refine .block ?_ | refine .gn ?_ | refine .dr ?_ | fail
 ·rw [h] at hU bx h7 hlen ⊢
  rw [nw11] at hlen ⊢
  have hl1 : 1 ≤ e.l.length := by
   obtain ⟨x, hx, _, _, _, _, _, _, h3, _⟩ := hf.shape
   rw [h] at hx
   have := Option.some.inj hx
   subst this; exact h3
  obtain ⟨x, v, hx, hix, hvx, hmx⟩ := hL.at (i := 0) (by omega)
  have hlx := hvx.len7
  have cx := hat0 x (mem_l hmx) _ hvx
  have dx := hat x (mem_l hmx) _ hvx
  rw [ptW_at hx, show (partW x).2 = textE x from rfl] at hlen ⊢
  have hbl : (brW (e.arms.map Ar.text)).length ≤ 549755813888 := by simp only [List.length_append] at hlen; omega
  have cc := refClauses ha hal hA (by have := hf.arc; omega) hf.ar (fun a h cs hc => hat0 _ (mem_arm h) cs hc) (fun a ha' => by have h1 := armW_len (hf.ar a ha'); have h2 := (part_inf h0 (mem_arm ha')).len; omega) (by omega)
  have hsl := hf.s
  simp only [List.length_append, List.length_cons, List.length_nil] at hlen
  repeat' first
   | refine Opl.val (op_box rfl) rfl (Opl.cast (S' := U) ?_ hU)
   | refine Opl.val (op_load rfl (ld_bxA bx (by assumption) h7)) rfl ?_
   | refine Opl.val (op_load rfl (ld_bx bx (by assumption) _ rfl)) rfl ?_
   | refine Go.condT rfl ?_
   | refine Go.condF rfl ?_
   | refine Go.draw [0, 1, 3, 7, 15, 31, 63, 0, 128, 415, 1023, 2047] [0, 1, 2, 3, 4, 7, 8, 9, 5, 6, 10, 11] (by kernel_rfl) (Same U) ?_
   | refine Drw.c0 rfl rfl (op_move rfl) rfl ?_
   | refine Drw.c0 rfl rfl (op_assign rfl) rfl ?_
   | refine Drw.c0 rfl rfl (op_fld rfl rfl) rfl ?_
   | refine Drw.c0 rfl rfl (op_str rfl rfl (str_add (by (try simp only [List.length_append, List.length_cons, List.length_nil]); omega))) rfl ?_
   | refine Drw.c2g rfl rfl (by assumption) (by assumption) (fun U hU => op_load rfl (ld_bx bx hU _ rfl)) rfl ?_
   | refine Drw.c0 rfl rfl (op_ixaV (i := 0) hl rfl rfl hix) rfl ?_
   | refine Drw.c2g rfl rfl (by assumption) (by assumption) (fun U hU => op_load rfl (ld_agg (Pt.cptr _ _ _) hlx)) rfl ?_
   | refine Drw.callS (by assumption) rfl rfl (by kernel_rfl) cx rfl (fun S4 k4 => ?_)
   | refine Drw.callS (by assumption) rfl rfl (by kernel_rfl) cc rfl (fun S4 k4 => ?_)
   | refine Drw.nil ?_
   | exact At.fnr rfl rfl rfl ⟨rfl, s0.trans (by assumption)⟩
   | refine .std ?_ | refine .nil ?_ | refine .seq ?_ | refine .region ?_ | refine .xs ?_ | refine .kb ?_ | refine .leaf ?_ | refine .block ?_ | refine .gn ?_ | refine .dr ?_ | fail
 ·rw [h] at hU bx h7 hlen ⊢
  rw [nw12] at hlen ⊢
  have hl1 : 1 ≤ e.l.length := by
   obtain ⟨x, hx, _, _, _, _, _, _, h3, _⟩ := hf.shape
   rw [h] at hx
   have := Option.some.inj hx
   subst this; exact h3
  obtain ⟨x, v, hx, hix, hvx, hmx⟩ := hL.at (i := 0) (by omega)
  have hlx := hvx.len7
  have cx := hat0 x (mem_l hmx) _ hvx
  have dx := hat x (mem_l hmx) _ hvx
  rw [ptW_at hx] at hlen ⊢
  have hsl := hf.s
  simp only [List.length_append, List.length_cons, List.length_nil] at hlen
  repeat' first
   | refine Opl.val (op_box rfl) rfl (Opl.cast (S' := U) ?_ hU)
   | refine Opl.val (op_load rfl (ld_bxA bx (by assumption) h7)) rfl ?_
   | refine Opl.val (op_load rfl (ld_bx bx (by assumption) _ rfl)) rfl ?_
   | refine Go.condT rfl ?_
   | refine Go.condF rfl ?_
   | refine Go.draw [0, 1, 3, 7, 0, 16, 48, 112, 240, 511, 1023] [4, 5, 6, 7, 8, 0, 1, 2, 3, 9, 10] (by kernel_rfl) (Same U) ?_
   | refine Drw.c0 rfl rfl (op_move rfl) rfl ?_
   | refine Drw.c0 rfl rfl (op_assign rfl) rfl ?_
   | refine Drw.c0 rfl rfl (op_fld rfl rfl) rfl ?_
   | refine Drw.c0 rfl rfl (op_str rfl rfl (str_add (by (try simp only [List.length_append, List.length_cons, List.length_nil]); omega))) rfl ?_
   | refine Drw.c2g rfl rfl (by assumption) (by assumption) (fun U hU => op_load rfl (ld_bx bx hU _ rfl)) rfl ?_
   | refine Drw.c0 rfl rfl (op_ixaV (i := 0) hl rfl rfl hix) rfl ?_
   | refine Drw.c2g rfl rfl (by assumption) (by assumption) (fun U hU => op_load rfl (ld_agg (Pt.cptr _ _ _) hlx)) rfl ?_
   | refine Drw.callS (by assumption) rfl rfl (by kernel_rfl) (dx 5) rfl (fun S4 k4 => ?_)
   | refine Drw.nil ?_
   | exact At.fnr rfl rfl rfl ⟨rfl, s0.trans (by assumption)⟩
   | refine .std ?_ | refine .nil ?_ | refine .seq ?_ | refine .region ?_ | refine .xs ?_ | refine .kb ?_ | refine .leaf ?_ | refine .block ?_ | refine .gn ?_ | refine .dr ?_ | fail
 ·rw [h] at hU bx h7 hlen ⊢
  rw [nw13] at hlen ⊢
  have hl1 : 1 ≤ e.l.length := by
   obtain ⟨x, hx, _, _, _, _, _, _, h3, _⟩ := hf.shape
   rw [h] at hx
   have := Option.some.inj hx
   subst this; exact h3
  obtain ⟨x, v, hx, hix, hvx, hmx⟩ := hL.at (i := 0) (by omega)
  have hlx := hvx.len7
  have cx := hat0 x (mem_l hmx) _ hvx
  have dx := hat x (mem_l hmx) _ hvx
  rw [ptW_at hx] at hlen ⊢
  have hsl := hf.s
  simp only [List.length_append, List.length_cons, List.length_nil] at hlen
  repeat' first
   | refine Opl.val (op_box rfl) rfl (Opl.cast (S' := U) ?_ hU)
   | refine Opl.val (op_load rfl (ld_bxA bx (by assumption) h7)) rfl ?_
   | refine Opl.val (op_load rfl (ld_bx bx (by assumption) _ rfl)) rfl ?_
   | refine Go.condT rfl ?_
   | refine Go.condF rfl ?_
   | refine Go.draw [0, 1, 3, 0, 8, 31, 63, 0, 128, 384, 896, 1920, 4095, 8191] [7, 8, 9, 10, 11, 0, 1, 2, 3, 4, 5, 6, 12, 13] (by kernel_rfl) (Same U) ?_
   | refine Drw.c0 rfl rfl (op_move rfl) rfl ?_
   | refine Drw.c0 rfl rfl (op_assign rfl) rfl ?_
   | refine Drw.c0 rfl rfl (op_fld rfl rfl) rfl ?_
   | refine Drw.c0 rfl rfl (op_str rfl rfl (str_add (by (try simp only [List.length_append, List.length_cons, List.length_nil]); omega))) rfl ?_
   | refine Drw.c2g rfl rfl (by assumption) (by assumption) (fun U hU => op_load rfl (ld_bx bx hU _ rfl)) rfl ?_
   | refine Drw.c0 rfl rfl (op_ixaV (i := 0) hl rfl rfl hix) rfl ?_
   | refine Drw.c2g rfl rfl (by assumption) (by assumption) (fun U hU => op_load rfl (ld_agg (Pt.cptr _ _ _) hlx)) rfl ?_
   | refine Drw.callS (by assumption) rfl rfl (by kernel_rfl) (dx 5) rfl (fun S4 k4 => ?_)
   | refine Drw.nil ?_
   | exact At.fnr rfl rfl rfl ⟨rfl, s0.trans (by assumption)⟩
   | refine .std ?_ | refine .nil ?_ | refine .seq ?_ | refine .region ?_ | refine .xs ?_ | refine .kb ?_ | refine .leaf ?_ | refine .block ?_ | refine .gn ?_ | refine .dr ?_ | fail
 ·rw [h] at hU bx h7 hlen ⊢
  rw [nw14] at hlen ⊢
  have hl1 : 1 ≤ e.l.length := by
   obtain ⟨x, hx, _, _, _, _, _, _, h3, _⟩ := hf.shape
   rw [h] at hx
   have := Option.some.inj hx
   subst this; exact h3
  obtain ⟨x, v, hx, hix, hvx, hmx⟩ := hL.at (i := 0) (by omega)
  have hlx := hvx.len7
  have cx := hat0 x (mem_l hmx) _ hvx
  have dx := hat x (mem_l hmx) _ hvx
  rw [ptW_at hx, show (partW x).2 = textE x from rfl] at hlen ⊢
  have hbl : (brW (e.arms.map Ar.text)).length ≤ 549755813888 := by simp only [List.length_append] at hlen; omega
  have cc := refClauses ha hal hA (by have := hf.arc; omega) hf.ar (fun a h cs hc => hat0 _ (mem_arm h) cs hc) (fun a ha' => by have h1 := armW_len (hf.ar a ha'); have h2 := (part_inf h0 (mem_arm ha')).len; omega) (by omega)
  have hsl := hf.s
  have hnr : 0 ≤ e.n ∧ e.n ≤ 1 := by
   obtain ⟨x, hx, g1, g2, _⟩ := hf.shape
   rw [h] at hx
   have := Option.some.inj hx
   subst this
   exact ⟨g1, g2⟩
  have hbs : buildSliceE Tryz.prog 23 2 [(0, .str [104, 97, 110, 100, 108, 101, 32]), (1, .str [115, 104, 97, 108, 108, 111, 119, 32])] = some (.list (some 9) 1 [.str [104, 97, 110, 100, 108, 101, 32], .str [115, 104, 97, 108, 108, 111, 119, 32]] .exact) := by kernel_rfl
  have hln : isLn 1 (.list (some 9) 1 [.str [104, 97, 110, 100, 108, 101, 32], .str [115, 104, 97, 108, 108, 111, 119, 32]] .exact) := .inr (.inr ⟨_, _, _, rfl⟩)
  have hn01 : e.n = 0 ∨ e.n = 1 := by omega
  rcases hn01 with hn0 | hn0
  ·rw [hn0] at hU bx h7 hlen ⊢
   simp only [if_true, if_false, Int.reduceEq, List.length_append, List.length_cons, List.length_nil] at hlen ⊢
   repeat' first
    | refine Opl.val (op_box rfl) rfl (Opl.cast (S' := U) ?_ hU)
    | refine Opl.val (op_load rfl (ld_bxA bx (by assumption) h7)) rfl ?_
    | refine Opl.val (op_load rfl (ld_bx bx (by assumption) _ rfl)) rfl ?_
    | refine Go.condT rfl ?_
    | refine Go.condF rfl ?_
    | refine Go.draw [0, 0, 2, 7, 15, 0, 32, 127, 255, 0, 512, 1536, 3584, 7680, 16383, 32767, 0, 65536, 212480, 524287, 1048575] [9, 10, 11, 12, 13, 16, 17, 18, 0, 1, 2, 3, 4, 5, 6, 7, 8, 14, 15, 19, 20] (by kernel_rfl) (Same U) ?_
    | refine Drw.c0 rfl rfl (op_move rfl) rfl ?_
    | refine Drw.c0 rfl rfl (op_assign rfl) rfl ?_
    | refine Drw.c0 rfl rfl (op_fld rfl rfl) rfl ?_
    | refine Drw.c0 rfl rfl (op_str rfl rfl (str_add (by (try simp only [List.length_append, List.length_cons, List.length_nil]); omega))) rfl ?_
    | refine Drw.c2g rfl rfl (by assumption) (by assumption) (fun U hU => op_load rfl (ld_bx bx hU _ rfl)) rfl ?_
    | refine Drw.c0 rfl rfl (op_bsG rfl hbs) rfl ?_
    | refine Drw.c0 rfl rfl (op_ixaV (i := 0) hln rfl rfl rfl) rfl ?_
    | refine Drw.c2g rfl rfl (by assumption) (by assumption) (fun U hU => op_load rfl (ld_one (Pt.cptr _ _ _))) rfl ?_
    | refine Drw.c0 rfl rfl (op_ixaV (i := 0) hl rfl rfl hix) rfl ?_
    | refine Drw.c2g rfl rfl (by assumption) (by assumption) (fun U hU => op_load rfl (ld_agg (Pt.cptr _ _ _) hlx)) rfl ?_
    | refine Drw.callS (by assumption) rfl rfl (by kernel_rfl) cx rfl (fun S4 k4 => ?_)
    | refine Drw.callS (by assumption) rfl rfl (by kernel_rfl) cc rfl (fun S4 k4 => ?_)
    | refine Drw.nil ?_
    | exact At.fnr rfl rfl rfl ⟨rfl, s0.trans (by assumption)⟩
    | refine .std ?_ | refine .nil ?_ | refine .seq ?_ | refine .region ?_ | refine .xs ?_ | refine .kb ?_ | refine .leaf ?_ | refine .block ?_ | refine .gn ?_ | refine .dr ?_ | fail
  ·rw [hn0] at hU bx h7 hlen ⊢
   simp only [if_true, if_false, Int.reduceEq, List.length_append, List.length_cons, List.length_nil] at hlen ⊢
   repeat' first
    | refine Opl.val (op_box rfl) rfl (Opl.cast (S' := U) ?_ hU)
    | refine Opl.val (op_load rfl (ld_bxA bx (by assumption) h7)) rfl ?_
    | refine Opl.val (op_load rfl (ld_bx bx (by assumption) _ rfl)) rfl ?_
    | refine Go.condT rfl ?_
    | refine Go.condF rfl ?_
    | refine Go.draw [0, 0, 2, 7, 15, 0, 32, 127, 255, 0, 512, 1536, 3584, 7680, 16383, 32767, 0, 65536, 212480, 524287, 1048575] [9, 10, 11, 12, 13, 16, 17, 18, 0, 1, 2, 3, 4, 5, 6, 7, 8, 14, 15, 19, 20] (by kernel_rfl) (Same U) ?_
    | refine Drw.c0 rfl rfl (op_move rfl) rfl ?_
    | refine Drw.c0 rfl rfl (op_assign rfl) rfl ?_
    | refine Drw.c0 rfl rfl (op_fld rfl rfl) rfl ?_
    | refine Drw.c0 rfl rfl (op_str rfl rfl (str_add (by (try simp only [List.length_append, List.length_cons, List.length_nil]); omega))) rfl ?_
    | refine Drw.c2g rfl rfl (by assumption) (by assumption) (fun U hU => op_load rfl (ld_bx bx hU _ rfl)) rfl ?_
    | refine Drw.c0 rfl rfl (op_bsG rfl hbs) rfl ?_
    | refine Drw.c0 rfl rfl (op_ixaV (i := 1) hln rfl rfl rfl) rfl ?_
    | refine Drw.c2g rfl rfl (by assumption) (by assumption) (fun U hU => op_load rfl (ld_one (Pt.cptr _ _ _))) rfl ?_
    | refine Drw.c0 rfl rfl (op_ixaV (i := 0) hl rfl rfl hix) rfl ?_
    | refine Drw.c2g rfl rfl (by assumption) (by assumption) (fun U hU => op_load rfl (ld_agg (Pt.cptr _ _ _) hlx)) rfl ?_
    | refine Drw.callS (by assumption) rfl rfl (by kernel_rfl) cx rfl (fun S4 k4 => ?_)
    | refine Drw.callS (by assumption) rfl rfl (by kernel_rfl) cc rfl (fun S4 k4 => ?_)
    | refine Drw.nil ?_
    | exact At.fnr rfl rfl rfl ⟨rfl, s0.trans (by assumption)⟩
    | refine .std ?_ | refine .nil ?_ | refine .seq ?_ | refine .region ?_ | refine .xs ?_ | refine .kb ?_ | refine .leaf ?_ | refine .block ?_ | refine .gn ?_ | refine .dr ?_ | fail
end Go.Proofs.YtodiioeddlmjhaaGreatDoor
