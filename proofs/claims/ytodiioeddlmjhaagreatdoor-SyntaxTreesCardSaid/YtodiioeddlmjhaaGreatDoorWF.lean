import Derived.Test.YtodiioeddlmjhaaGreatDoorWC
import Derived.Test.YtodiioeddlmjhaaGreatDoorWD
import Derived.Test.YtodiioeddlmjhaaGreatDoorWE
set_option linter.unusedVariables false
set_option linter.unusedSimpArgs false
namespace Go.Proofs.YtodiioeddlmjhaaGreatDoor
open Go.RowKit Go.Ev
set_option maxRecDepth 100000
set_option linter.unusedVariables false
set_option linter.unusedSimpArgs false
attribute [local irreducible] Go.Ev.opE
set_option maxHeartbeats 16000000 in
theorem refBinary {e : Ex} {cs : List V} (he : ExC e cs) (hf : ExF e) (h0 : nodesE e = 0) (hok : ∀ x ∈ e.parts, nodesE x = 0) (hrec : ∀ x ∈ e.parts, ∀ cs, ExC x cs → Pu Tryz.prog 52 [.agg cs] (.str (textE x))) (hlen : (textE e).length ≤ 549755813888) (h : e.kind = 9) : Pu Tryz.prog 109 [.agg cs] (.str (textE e)) := by
 have clv := refLevel he hf.k0 hf.k1
 have hl1 : 2 ≤ e.l.length := by
  obtain ⟨x, hx, _, _, _, _, _, _, h3, _⟩ := hf.shape
  rw [h] at hx
  have := Option.some.inj hx
  subst this; exact h3
 obtain ⟨nv, lv, av, rfl, hk64, hn64, hs, ht, ⟨hnl, hnll, hnA⟩, hl, hll, ha, hal, hL, hA⟩ := he.inv
 have h7 : ([.int .i64 e.kind, .int .i64 e.n, .str e.s, .str e.t, nv, lv, av] : List V).length = 7 := rfl
 have e1 : e.l.length = (elems lv).length := hL.1
 have hat : ∀ x ∈ e.parts, ∀ cs, ExC x cs → ∀ n : Int, Pu Tryz.prog 108 [.agg cs, .int .i64 n] (.str ((partW x).at n)) := fun x hx cs hc n => by
  have hfx := (nodes_ok (hok x hx)).1
  have h1 := (part_inf h0 hx).len
  have h2 := Pw.at_len (partW x) n
  have h3 : (partW x).2.length = (textE x).length := rfl
  exact refAt hc hfx.k0 hfx.k1 n (by omega) (hrec x hx cs hc)
 obtain ⟨x, v, hx, hix, hvx, hmx⟩ := hL.at (i := 0) (by omega)
 obtain ⟨y, w, hy, hiy, hvy, hmy⟩ := hL.at (i := 1) (by omega)
 have hlx := hvx.len7
 have hly := hvy.len7
 intro S
 obtain ⟨U, hU, bx, s0⟩ := box1 S 27 [.int .i64 e.kind, .int .i64 e.n, .str e.s, .str e.t, nv, lv, av]
 have k0 : Same U U := Same.refl U
 rw [textE_eq, h, nw9, ptW_at hx, ptW_at hy] at hlen ⊢
 rw [h] at clv
 obtain ⟨n, hn⟩ : ∃ n, levE 9 e.s = n := ⟨_, rfl⟩
 have hn13 : 1 ≤ n ∧ n ≤ 3 := by
  rw [← hn]
  show 1 ≤ (if e.s = [42] then (3 : Int) else if e.s = [43] ∨ e.s = [45] then 2 else 1) ∧ (if e.s = [42] then (3 : Int) else if e.s = [43] ∨ e.s = [45] then 2 else 1) ≤ 3
  split <;> (try split) <;> decide
 rw [hn] at clv hlen ⊢
 have hadd : intOp .add .i64 n 1 = some (.int .i64 (n + 1)) := by
  have : IntKind.wrap .i64 (n + 1) = n + 1 := wrap_i64_id (by constructor <;> omega)
  simp only [intOp, this]
 have cx := hat x (mem_l hmx) _ hvx (if n = 1 then 2 else n)
 have cy := hat y (mem_l hmy) _ hvy (n + 1)
 rw [h] at hU bx h7
 refine CallTo.of (n := 29) Tryz.func109 rfl rfl ?_
 by_cases h1 : n = 1
 ·rw [if_pos h1] at hlen cx ⊢
  simp only [List.length_append, List.length_cons, List.length_nil] at hlen
  repeat' first
   | refine Opl.val (op_box rfl) rfl (Opl.cast (S' := U) ?_ hU)
   | refine Opl.val (op_load rfl (ld_bxA bx (by assumption) h7)) rfl ?_
   | refine Opl.callS (U0 := U) (by assumption) rfl (by kernel_rfl) clv rfl (fun S8 k8 => ?_)
   | refine Opl.val (op_int rfl rfl rfl (eql_i (q := true) (decide_eq_true h1))) rfl ?_
   | refine Go.condT rfl ?_
   | refine Go.condF rfl ?_
   | refine Go.draw [0, 1, 3, 7, 0, 31, 63, 0, 128, 511, 1023, 0, 2048, 6144, 14336, 0, 32768, 129087, 262143, 524287] [0, 1, 2, 3, 4, 5, 11, 12, 13, 14, 15, 16, 17, 6, 7, 8, 9, 10, 18, 19] (by kernel_rfl) (Same U) ?_
   | refine Drw.c0 rfl rfl (op_move rfl) rfl ?_
   | refine Drw.c0 rfl rfl (op_assign rfl) rfl ?_
   | refine Drw.c0 rfl rfl (op_fld rfl rfl) rfl ?_
   | refine Drw.c0 rfl rfl (op_int rfl rfl rfl hadd) rfl ?_
   | refine Drw.c0 rfl rfl (op_str rfl rfl (str_add (by (try simp only [List.length_append, List.length_cons, List.length_nil]); omega))) rfl ?_
   | refine Drw.c0 rfl rfl (op_ixaV (i := 0) hl rfl rfl hix) rfl ?_
   | refine Drw.c0 rfl rfl (op_ixaV (i := 1) hl rfl rfl hiy) rfl ?_
   | refine Drw.c2g rfl rfl (by assumption) (by assumption) (fun U hU => op_load rfl (ld_agg (Pt.cptr _ _ _) hlx)) rfl ?_
   | refine Drw.c2g rfl rfl (by assumption) (by assumption) (fun U hU => op_load rfl (ld_agg (Pt.cptr _ _ _) hly)) rfl ?_
   | refine Drw.c2g rfl rfl (by assumption) (by assumption) (fun U hU => op_load rfl (ld_bx bx hU _ rfl)) rfl ?_
   | refine Drw.callS (by assumption) rfl rfl (by kernel_rfl) cx rfl (fun S4 k4 => ?_)
   | refine Drw.callS (by assumption) rfl rfl (by kernel_rfl) cy rfl (fun S4 k4 => ?_)
   | refine Drw.nil ?_
   | exact At.fnr rfl rfl rfl ⟨rfl, s0.trans (by assumption)⟩
   | refine .std ?_ | refine .nil ?_ | refine .seq ?_ | refine .region ?_ | refine .xs ?_ | refine .kb ?_ | refine .leaf ?_ | refine .block ?_ | refine .gn ?_ | refine .dr ?_ | fail
 ·rw [if_neg h1] at hlen cx ⊢
  simp only [List.length_append, List.length_cons, List.length_nil] at hlen
  repeat' first
   | refine Opl.val (op_box rfl) rfl (Opl.cast (S' := U) ?_ hU)
   | refine Opl.val (op_load rfl (ld_bxA bx (by assumption) h7)) rfl ?_
   | refine Opl.callS (U0 := U) (by assumption) rfl (by kernel_rfl) clv rfl (fun S8 k8 => ?_)
   | refine Opl.val (op_int rfl rfl rfl (eql_i (q := false) (decide_eq_false h1))) rfl ?_
   | refine Go.condT rfl ?_
   | refine Go.condF rfl ?_
   | refine Go.draw [0, 1, 3, 7, 0, 31, 63, 0, 128, 511, 1023, 0, 2048, 6144, 14336, 0, 32768, 129087, 262143, 524287] [0, 1, 2, 3, 4, 5, 11, 12, 13, 14, 15, 16, 17, 6, 7, 8, 9, 10, 18, 19] (by kernel_rfl) (Same U) ?_
   | refine Drw.c0 rfl rfl (op_move rfl) rfl ?_
   | refine Drw.c0 rfl rfl (op_assign rfl) rfl ?_
   | refine Drw.c0 rfl rfl (op_fld rfl rfl) rfl ?_
   | refine Drw.c0 rfl rfl (op_int rfl rfl rfl hadd) rfl ?_
   | refine Drw.c0 rfl rfl (op_str rfl rfl (str_add (by (try simp only [List.length_append, List.length_cons, List.length_nil]); omega))) rfl ?_
   | refine Drw.c0 rfl rfl (op_ixaV (i := 0) hl rfl rfl hix) rfl ?_
   | refine Drw.c0 rfl rfl (op_ixaV (i := 1) hl rfl rfl hiy) rfl ?_
   | refine Drw.c2g rfl rfl (by assumption) (by assumption) (fun U hU => op_load rfl (ld_agg (Pt.cptr _ _ _) hlx)) rfl ?_
   | refine Drw.c2g rfl rfl (by assumption) (by assumption) (fun U hU => op_load rfl (ld_agg (Pt.cptr _ _ _) hly)) rfl ?_
   | refine Drw.c2g rfl rfl (by assumption) (by assumption) (fun U hU => op_load rfl (ld_bx bx hU _ rfl)) rfl ?_
   | refine Drw.callS (by assumption) rfl rfl (by kernel_rfl) cx rfl (fun S4 k4 => ?_)
   | refine Drw.callS (by assumption) rfl rfl (by kernel_rfl) cy rfl (fun S4 k4 => ?_)
   | refine Drw.nil ?_
   | exact At.fnr rfl rfl rfl ⟨rfl, s0.trans (by assumption)⟩
   | refine .std ?_ | refine .nil ?_ | refine .seq ?_ | refine .region ?_ | refine .xs ?_ | refine .kb ?_ | refine .leaf ?_ | refine .block ?_ | refine .gn ?_ | refine .dr ?_ | fail
set_option maxHeartbeats 8000000 in
theorem textD {e : Ex} {cs : List V} (he : ExC e cs) (hf : ExF e) (h0 : nodesE e = 0) (hok : ∀ x ∈ e.parts, nodesE x = 0) (hrec : ∀ x ∈ e.parts, ∀ cs, ExC x cs → Pu Tryz.prog 52 [.agg cs] (.str (textE x))) (hlen : (textE e).length ≤ 549755813888) (h : e.kind = 9) : Pu Tryz.prog 52 [.agg cs] (.str (textE e)) := by
 have cb := refBinary he hf h0 hok hrec hlen h
 obtain ⟨nv, lv, av, rfl, hk64, hn64, hs, ht, ⟨hnl, hnll, hnA⟩, hl, hll, ha, hal, hL, hA⟩ := he.inv
 have h7 : ([.int .i64 e.kind, .int .i64 e.n, .str e.s, .str e.t, nv, lv, av] : List V).length = 7 := rfl
 intro S
 obtain ⟨U, hU, bx, s0⟩ := box1 S 27 [.int .i64 e.kind, .int .i64 e.n, .str e.s, .str e.t, nv, lv, av]
 have k0 : Same U U := Same.refl U
 rw [h] at hU bx h7 cb ⊢
 refine CallTo.of (n := 310) Tryz.func52 rfl rfl ?_
 repeat' first
  | refine Opl.val (op_box rfl) rfl (Opl.cast (S' := U) ?_ hU)
  | refine Opl.val (op_load rfl (ld_bxA bx (by assumption) h7)) rfl ?_
  | refine Opl.val (op_load rfl (ld_bx bx (by assumption) _ rfl)) rfl ?_
  | refine Opl.callS (U0 := U) (by assumption) rfl (by kernel_rfl) cb rfl (fun S8 k8 => ?_)
  | refine Go.condT rfl ?_
  | refine Go.condF rfl ?_
  | exact At.fnr rfl rfl rfl ⟨rfl, s0.trans (by assumption)⟩
  | refine .std ?_ | refine .nil ?_ | refine .seq ?_ | refine .region ?_ | refine .xs ?_ | refine .kb ?_ | refine .leaf ?_ | refine .block ?_ | refine .gn ?_ | refine .dr ?_ | fail
theorem refText : ∀ (N : Nat) (e : Ex) (cs : List V), e.nodes ≤ N → ExC e cs → nodesE e = 0 → (textE e).length ≤ 549755813888 → Pu Tryz.prog 52 [.agg cs] (.str (textE e)) := by
 intro N
 induction N with
 | zero => intro e cs hN; cases e; simp [Ex.nodes] at hN
 | succ N IHN =>
 intro e cs hN he h0 hlen
 obtain ⟨hf, hok⟩ := nodes_ok h0
 have hrec : ∀ x ∈ e.parts, ∀ cs, ExC x cs → Pu Tryz.prog 52 [.agg cs] (.str (textE x)) := fun x hx cs hc => IHN x cs (by have := Ex.parts_nodes hx; omega) hc (hok x hx) (by have := (part_inf h0 hx).len; omega)
 have hk0 := hf.k0
 have hk1 := hf.k1
 by_cases hA : e.kind = 0 ∨ e.kind = 1 ∨ e.kind = 2 ∨ e.kind = 3 ∨ e.kind = 4 ∨ e.kind = 5 ∨ e.kind = 6 ∨ e.kind = 7 ∨ e.kind = 8
 ·exact textA he hf h0 hok hrec hlen hA
 by_cases hB : e.kind = 10 ∨ e.kind = 11 ∨ e.kind = 12 ∨ e.kind = 13 ∨ e.kind = 14
 ·exact textB he hf h0 hok hrec hlen hB
 by_cases hD : e.kind = 9
 ·exact textD he hf h0 hok hrec hlen hD
 ·exact textC he hf h0 hok hrec hlen (by omega)
end Go.Proofs.YtodiioeddlmjhaaGreatDoor
