import Derived.Test.YtodiioeddlmjhaaGreatDoorWA
set_option linter.unusedVariables false
set_option linter.unusedSimpArgs false
namespace Go.Proofs.YtodiioeddlmjhaaGreatDoor
open Go.RowKit Go.Ev
set_option maxRecDepth 100000
set_option linter.unusedVariables false
set_option linter.unusedSimpArgs false
attribute [local irreducible] Go.Ev.opE
theorem u_strs3 : Tryz.prog.underlying 23 = some (.slice 9) := by kernel_rfl
theorem sz_str3 : szOf Tryz.prog 9 = some 1 := by kernel_rfl
set_option maxHeartbeats 32000000 in
theorem textC {e : Ex} {cs : List V} (he : ExC e cs) (hf : ExF e) (h0 : nodesE e = 0) (hok : ∀ x ∈ e.parts, nodesE x = 0) (hrec : ∀ x ∈ e.parts, ∀ cs, ExC x cs → Pu Tryz.prog 52 [.agg cs] (.str (textE x))) (hlen : (textE e).length ≤ 549755813888) (hk : e.kind = 15 ∨ e.kind = 16 ∨ e.kind = 17 ∨ e.kind = 18 ∨ e.kind = 19) : Pu Tryz.prog 52 [.agg cs] (.str (textE e)) := by
 obtain ⟨nv, lv, av, rfl, hk64, hn64, hs, ht, ⟨hnl, hnll, hnA⟩, hl, hll, ha, hal, hL, hA⟩ := he.inv
 have h7 : ([.int .i64 e.kind, .int .i64 e.n, .str e.s, .str e.t, nv, lv, av] : List V).length = 7 := rfl
 have e1 : e.l.length = (elems lv).length := hL.1
 have en : e.names.length = (elems nv).length := hnA.1
 have hat : ∀ x ∈ e.parts, ∀ cs, ExC x cs → ∀ n : Int, Pu Tryz.prog 108 [.agg cs, .int .i64 n] (.str ((partW x).at n)) := fun x hx cs hc n => by
  have hfx := (nodes_ok (hok x hx)).1
  have h1 := (part_inf h0 hx).len
  have h2 := Pw.at_len (partW x) n
  have h3 : (partW x).2.length = (textE x).length := rfl
  exact refAt hc hfx.k0 hfx.k1 n (by omega) (hrec x hx cs hc)
 have hat0 : ∀ x ∈ e.parts, ∀ cs, ExC x cs → Pu Tryz.prog 108 [.agg cs, .int .i64 0] (.str (textE x)) := fun x hx cs hc => by
  have := hat x hx cs hc 0
  rw [at_zero] at this
  exact this
 intro S
 obtain ⟨U, hU, bx, s0⟩ := box1 S 27 [.int .i64 e.kind, .int .i64 e.n, .str e.s, .str e.t, nv, lv, av]
 have k0 : Same U U := Same.refl U
 have hTE := hlen
 rw [textE_eq] at hlen ⊢
 refine CallTo.of (n := 310) Tryz.func52 rfl rfl ?_
 rcases hk with h | h | h | h | h
 ·rw [h] at hU bx h7 hlen ⊢
  rw [nw15] at hlen ⊢
  have hl1 : 1 ≤ e.l.length := by
   obtain ⟨x, hx, _, _, _, _, _, _, h3, _⟩ := hf.shape
   rw [h] at hx
   have := Option.some.inj hx
   subst this; exact h3
  obtain ⟨x, v, hx, hix, hvx, hmx⟩ := hL.at (i := 0) (by omega)
  have hlx := hvx.len7
  have cx := hat0 x (mem_l hmx) _ hvx
  have dx := hat x (mem_l hmx) _ hvx
  rw [ptW_at hx, show (partW x).2 = textE x from rfl] at hlen ⊢
  have hnn : 1 ≤ e.names.length := by
   obtain ⟨x, hx, _, _, _, _, h3, _⟩ := hf.shape
   rw [h] at hx
   have := Option.some.inj hx
   subst this; exact h3
  obtain ⟨nm, u, hnm, hinm, ⟨hcnm, hhnm⟩, hmnm⟩ := hnA.at (i := 0) (by omega)
  have hpnm : ∀ S, Pt S (.cptr none u.cells 0) [.str nm] := fun S => by rw [hcnm]; exact Pt.cptr _ _ _
  rw [nmW_at hnm] at hlen ⊢
  have hbl : (brW (e.arms.map Ar.text)).length ≤ 549755813888 := by simp only [List.length_append] at hlen; omega
  have cc := refClauses ha hal hA (by have := hf.arc; omega) hf.ar (fun a h cs hc => hat0 _ (mem_arm h) cs hc) (fun a ha' => by have h1 := armW_len (hf.ar a ha'); have h2 := (part_inf h0 (mem_arm ha')).len; omega) (by omega)
  have hsl := hf.s
  simp only [List.length_append, List.length_cons, List.length_nil] at hlen
  repeat' first
   | refine Opl.val (op_box rfl) rfl (Opl.cast (S' := U) ?_ hU)
   | refine Opl.val (op_load rfl (ld_bxA bx (by assumption) h7)) rfl ?_
   | refine Opl.val (op_load rfl (ld_bx bx (by assumption) _ rfl)) rfl ?_
   | refine Go.condT rfl ?_
   | refine Go.condF rfl ?_
   | refine Go.draw [0, 1, 3, 7, 15, 31, 0, 64, 255, 511, 0, 1024, 3072, 7168, 15360, 32767, 65535, 0, 131072, 424960, 1048575, 2097151] [10, 11, 12, 13, 14, 17, 18, 19, 0, 1, 2, 3, 4, 5, 6, 7, 8, 9, 15, 16, 20, 21] (by kernel_rfl) (Same U) ?_
   | refine Drw.c0 rfl rfl (op_move rfl) rfl ?_
   | refine Drw.c0 rfl rfl (op_assign rfl) rfl ?_
   | refine Drw.c0 rfl rfl (op_fld rfl rfl) rfl ?_
   | refine Drw.c0 rfl rfl (op_str rfl rfl (str_add (by (try simp only [List.length_append, List.length_cons, List.length_nil]); omega))) rfl ?_
   | refine Drw.c2g rfl rfl (by assumption) (by assumption) (fun U hU => op_load rfl (ld_bx bx hU _ rfl)) rfl ?_
   | refine Drw.c0 rfl rfl (op_ixaV (i := 0) hnl rfl rfl hinm) rfl ?_
   | refine Drw.c2g rfl rfl (by assumption) (by assumption) (fun U hU => op_load rfl (ld_one (hpnm _))) rfl ?_
   | refine Drw.c0 rfl rfl (op_ixaV (i := 0) hl rfl rfl hix) rfl ?_
   | refine Drw.c2g rfl rfl (by assumption) (by assumption) (fun U hU => op_load rfl (ld_agg (Pt.cptr _ _ _) hlx)) rfl ?_
   | refine Drw.callS (by assumption) rfl rfl (by kernel_rfl) cx rfl (fun S4 k4 => ?_)
   | refine Drw.callS (by assumption) rfl rfl (by kernel_rfl) cc rfl (fun S4 k4 => ?_)
   | refine Drw.nil ?_
   | exact At.fnr rfl rfl rfl ⟨rfl, s0.trans (by assumption)⟩
   | refine .std ?_ | refine .nil ?_ | refine .seq ?_ | refine .region ?_ | refine .xs ?_ | refine .kb ?_ | refine .leaf ?_ | refine .block ?_ | refine .gn ?_ | refine .dr ?_ | fail
 ·rw [h] at hU bx h7 hlen ⊢
  rw [nw16] at hlen ⊢
  have hl1 : 1 ≤ e.l.length := by
   obtain ⟨x, hx, _, _, _, _, _, _, h3, _⟩ := hf.shape
   rw [h] at hx
   have := Option.some.inj hx
   subst this; exact h3
  obtain ⟨x, v, hx, hix, hvx, hmx⟩ := hL.at (i := 0) (by omega)
  have hlx := hvx.len7
  have cx := hat0 x (mem_l hmx) _ hvx
  have dx := hat x (mem_l hmx) _ hvx
  rw [ptW_at hx] at hlen ⊢
  have hsl := hf.s
  simp only [List.length_append, List.length_cons, List.length_nil] at hlen
  repeat' first
   | refine Opl.val (op_box rfl) rfl (Opl.cast (S' := U) ?_ hU)
   | refine Opl.val (op_load rfl (ld_bxA bx (by assumption) h7)) rfl ?_
   | refine Opl.val (op_load rfl (ld_bx bx (by assumption) _ rfl)) rfl ?_
   | refine Go.condT rfl ?_
   | refine Go.condF rfl ?_
   | refine Go.draw [0, 1, 3, 7, 0, 16, 48, 112, 240, 511, 1023] [4, 5, 6, 7, 8, 0, 1, 2, 3, 9, 10] (by kernel_rfl) (Same U) ?_
   | refine Drw.c0 rfl rfl (op_move rfl) rfl ?_
   | refine Drw.c0 rfl rfl (op_assign rfl) rfl ?_
   | refine Drw.c0 rfl rfl (op_fld rfl rfl) rfl ?_
   | refine Drw.c0 rfl rfl (op_str rfl rfl (str_add (by (try simp only [List.length_append, List.length_cons, List.length_nil]); omega))) rfl ?_
   | refine Drw.c2g rfl rfl (by assumption) (by assumption) (fun U hU => op_load rfl (ld_bx bx hU _ rfl)) rfl ?_
   | refine Drw.c0 rfl rfl (op_ixaV (i := 0) hl rfl rfl hix) rfl ?_
   | refine Drw.c2g rfl rfl (by assumption) (by assumption) (fun U hU => op_load rfl (ld_agg (Pt.cptr _ _ _) hlx)) rfl ?_
   | refine Drw.callS (by assumption) rfl rfl (by kernel_rfl) (dx 5) rfl (fun S4 k4 => ?_)
   | refine Drw.nil ?_
   | exact At.fnr rfl rfl rfl ⟨rfl, s0.trans (by assumption)⟩
   | refine .std ?_ | refine .nil ?_ | refine .seq ?_ | refine .region ?_ | refine .xs ?_ | refine .kb ?_ | refine .leaf ?_ | refine .block ?_ | refine .gn ?_ | refine .dr ?_ | fail
 ·rw [h] at hU bx h7 hlen ⊢
  rw [nw17] at hlen ⊢
  have hl1 : 3 ≤ e.l.length := by
   obtain ⟨x, hx, _, _, _, _, _, _, h3, _⟩ := hf.shape
   rw [h] at hx
   have := Option.some.inj hx
   subst this; exact h3
  obtain ⟨x, v, hx, hix, hvx, hmx⟩ := hL.at (i := 0) (by omega)
  have hlx := hvx.len7
  have cx := hat0 x (mem_l hmx) _ hvx
  have dx := hat x (mem_l hmx) _ hvx
  obtain ⟨y, w, hy, hiy, hvy, hmy⟩ := hL.at (i := 1) (by omega)
  have hly := hvy.len7
  have cy := hat0 y (mem_l hmy) _ hvy
  have dy := hat y (mem_l hmy) _ hvy
  obtain ⟨z, u2, hz, hiz, hvz, hmz⟩ := hL.at (i := 2) (by omega)
  have hlz := hvz.len7
  have cz := hat0 z (mem_l hmz) _ hvz
  have dz := hat z (mem_l hmz) _ hvz
  rw [ptW_at hx, ptW_at hy, ptW_at hz, show (partW x).2 = textE x from rfl, show (partW y).2 = textE y from rfl, show (partW z).2 = textE z from rfl] at hlen ⊢
  have hnn : 1 ≤ e.names.length := by
   obtain ⟨x, hx, _, _, _, _, h3, _⟩ := hf.shape
   rw [h] at hx
   have := Option.some.inj hx
   subst this; exact h3
  obtain ⟨nm, u, hnm, hinm, ⟨hcnm, hhnm⟩, hmnm⟩ := hnA.at (i := 0) (by omega)
  have hpnm : ∀ S, Pt S (.cptr none u.cells 0) [.str nm] := fun S => by rw [hcnm]; exact Pt.cptr _ _ _
  rw [nmW_at hnm] at hlen ⊢
  obtain ⟨mv, hsl, hmv⟩ := strs_drop (T := 23) (e := 9) u_strs3 sz_str3 ⟨hnl, hnll, hnA⟩ 1 (by omega)
  have cj := joinedF hmv [44, 32] (by simp only [List.length_append] at hlen; omega)
  generalize joinW [44, 32] (e.names.drop 1) = J at *
  simp only [List.length_append, List.length_cons, List.length_nil] at hlen
  repeat' first
   | refine Opl.val (op_box rfl) rfl (Opl.cast (S' := U) ?_ hU)
   | refine Opl.val (op_load rfl (ld_bxA bx (by assumption) h7)) rfl ?_
   | refine Opl.val (op_load rfl (ld_bx bx (by assumption) _ rfl)) rfl ?_
   | refine Go.condT rfl ?_
   | refine Go.condF rfl ?_
   | refine Go.draw [0, 1, 3, 7, 15, 31, 0, 64, 192, 448, 1023, 2047, 0, 4096, 12288, 28672, 62400, 131071, 262143, 0, 524288, 1572864, 3670016, 7992256, 16777215, 33554431, 0, 67108864, 201326592, 469762048, 1023013824, 2147483647, 4294967295] [6, 7, 8, 9, 12, 13, 14, 15, 16, 19, 20, 21, 22, 23, 26, 27, 28, 29, 30, 0, 1, 2, 3, 4, 5, 10, 11, 17, 18, 24, 25, 31, 32] (by kernel_rfl) (Same U) ?_
   | refine Drw.c0 rfl rfl (op_move rfl) rfl ?_
   | refine Drw.c0 rfl rfl (op_assign rfl) rfl ?_
   | refine Drw.c0 rfl rfl (op_fld rfl rfl) rfl ?_
   | refine Drw.c0 rfl rfl (op_str rfl rfl (str_add (by (try simp only [List.length_append, List.length_cons, List.length_nil]); omega))) rfl ?_
   | refine Drw.c2g rfl rfl (by assumption) (by assumption) (fun U hU => op_load rfl (ld_bx bx hU _ rfl)) rfl ?_
   | refine Drw.c0 rfl rfl (op_ixaV (i := 0) hnl rfl rfl hinm) rfl ?_
   | refine Drw.c2g rfl rfl (by assumption) (by assumption) (fun U hU => op_load rfl (ld_one (hpnm _))) rfl ?_
   | refine Drw.c0 rfl rfl (op_slL rfl rfl hsl) rfl ?_
   | refine Drw.c0 rfl rfl (op_ixaV (i := 0) hl rfl rfl hix) rfl ?_
   | refine Drw.c2g rfl rfl (by assumption) (by assumption) (fun U hU => op_load rfl (ld_agg (Pt.cptr _ _ _) hlx)) rfl ?_
   | refine Drw.c0 rfl rfl (op_ixaV (i := 1) hl rfl rfl hiy) rfl ?_
   | refine Drw.c2g rfl rfl (by assumption) (by assumption) (fun U hU => op_load rfl (ld_agg (Pt.cptr _ _ _) hly)) rfl ?_
   | refine Drw.c0 rfl rfl (op_ixaV (i := 2) hl rfl rfl hiz) rfl ?_
   | refine Drw.c2g rfl rfl (by assumption) (by assumption) (fun U hU => op_load rfl (ld_agg (Pt.cptr _ _ _) hlz)) rfl ?_
   | refine Drw.callS (by assumption) rfl rfl (by kernel_rfl) cj rfl (fun S4 k4 => ?_)
   | refine Drw.callS (by assumption) rfl rfl (by kernel_rfl) cx rfl (fun S4 k4 => ?_)
   | refine Drw.callS (by assumption) rfl rfl (by kernel_rfl) cy rfl (fun S4 k4 => ?_)
   | refine Drw.callS (by assumption) rfl rfl (by kernel_rfl) cz rfl (fun S4 k4 => ?_)
   | refine Drw.nil ?_
   | exact At.fnr rfl rfl rfl ⟨rfl, s0.trans (by assumption)⟩
   | refine .std ?_ | refine .nil ?_ | refine .seq ?_ | refine .region ?_ | refine .xs ?_ | refine .kb ?_ | refine .leaf ?_ | refine .block ?_ | refine .gn ?_ | refine .dr ?_ | fail
 ·rw [h] at hU bx h7 hlen ⊢
  rw [nw18] at hlen ⊢
  have hl1 : 1 ≤ e.l.length := by
   obtain ⟨x, hx, _, _, _, _, _, _, h3, _⟩ := hf.shape
   rw [h] at hx
   have := Option.some.inj hx
   subst this; exact h3
  obtain ⟨x, v, hx, hix, hvx, hmx⟩ := hL.at (i := 0) (by omega)
  have hlx := hvx.len7
  have cx := hat0 x (mem_l hmx) _ hvx
  have dx := hat x (mem_l hmx) _ hvx
  rw [ptW_at hx] at hlen ⊢
  have hsl := hf.s
  simp only [List.length_append, List.length_cons, List.length_nil] at hlen
  repeat' first
   | refine Opl.val (op_box rfl) rfl (Opl.cast (S' := U) ?_ hU)
   | refine Opl.val (op_load rfl (ld_bxA bx (by assumption) h7)) rfl ?_
   | refine Opl.val (op_load rfl (ld_bx bx (by assumption) _ rfl)) rfl ?_
   | refine Go.condT rfl ?_
   | refine Go.condF rfl ?_
   | refine Go.draw [0, 1, 3, 7, 0, 16, 48, 112, 240, 511, 1023] [4, 5, 6, 7, 8, 0, 1, 2, 3, 9, 10] (by kernel_rfl) (Same U) ?_
   | refine Drw.c0 rfl rfl (op_move rfl) rfl ?_
   | refine Drw.c0 rfl rfl (op_assign rfl) rfl ?_
   | refine Drw.c0 rfl rfl (op_fld rfl rfl) rfl ?_
   | refine Drw.c0 rfl rfl (op_str rfl rfl (str_add (by (try simp only [List.length_append, List.length_cons, List.length_nil]); omega))) rfl ?_
   | refine Drw.c2g rfl rfl (by assumption) (by assumption) (fun U hU => op_load rfl (ld_bx bx hU _ rfl)) rfl ?_
   | refine Drw.c0 rfl rfl (op_ixaV (i := 0) hl rfl rfl hix) rfl ?_
   | refine Drw.c2g rfl rfl (by assumption) (by assumption) (fun U hU => op_load rfl (ld_agg (Pt.cptr _ _ _) hlx)) rfl ?_
   | refine Drw.callS (by assumption) rfl rfl (by kernel_rfl) (dx 5) rfl (fun S4 k4 => ?_)
   | refine Drw.nil ?_
   | exact At.fnr rfl rfl rfl ⟨rfl, s0.trans (by assumption)⟩
   | refine .std ?_ | refine .nil ?_ | refine .seq ?_ | refine .region ?_ | refine .xs ?_ | refine .kb ?_ | refine .leaf ?_ | refine .block ?_ | refine .gn ?_ | refine .dr ?_ | fail
 ·rw [h] at hU bx h7 hlen ⊢
  rw [nw19] at hlen ⊢
  have hsl := hf.s
  repeat' first
   | refine Opl.val (op_box rfl) rfl (Opl.cast (S' := U) ?_ hU)
   | refine Opl.val (op_load rfl (ld_bxA bx (by assumption) h7)) rfl ?_
   | refine Opl.val (op_load rfl (ld_bx bx (by assumption) _ rfl)) rfl ?_
   | refine Go.condT rfl ?_
   | refine Go.condF rfl ?_
   | refine Opl.val (op_str rfl rfl (str_add (by (try simp only [List.length_append, List.length_cons, List.length_nil]); omega))) rfl ?_
   | exact At.fnr rfl rfl rfl ⟨rfl, s0.trans (by assumption)⟩
   | refine .std ?_ | refine .nil ?_ | refine .seq ?_ | refine .region ?_ | refine .xs ?_ | refine .kb ?_ | refine .leaf ?_ | refine .block ?_ | refine .gn ?_ | refine .dr ?_ | fail
end Go.Proofs.YtodiioeddlmjhaaGreatDoor
