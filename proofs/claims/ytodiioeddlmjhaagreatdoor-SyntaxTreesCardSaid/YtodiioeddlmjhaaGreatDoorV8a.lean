import Derived.Test.YtodiioeddlmjhaaGreatDoorV6
import Derived.Test.YtodiioeddlmjhaaGreatDoorV5
set_option linter.unusedVariables false
set_option linter.unusedSimpArgs false
namespace Go.Proofs.YtodiioeddlmjhaaGreatDoor
open Go.RowKit Go.Ev
set_option maxRecDepth 100000
set_option linter.unusedVariables false
set_option linter.unusedSimpArgs false
attribute [local irreducible] Go.Ev.opE
theorem pc_nil (id : Nat) : isLn 1 .nils ∧ (elems .nils).length ≤ huge ∧ All2 (PcV id) [] (elems .nils) := ⟨.inl rfl, Nat.zero_le _, All2.nil _⟩
set_option maxHeartbeats 32000000 in
theorem exprA (id : Nat) {e : Ex} {cs : List V} (he : ExC e cs) (hf : ExF e) (hok : ∀ x ∈ e.parts, nodesE x = 0) (hrec : Rec id e) (hk : e.kind = 0 ∨ e.kind = 1 ∨ e.kind = 2 ∨ e.kind = 3 ∨ e.kind = 10 ∨ e.kind = 11 ∨ e.kind = 14 ∨ e.kind = 15 ∨ e.kind = 5 ∨ e.kind = 12 ∨ e.kind = 13 ∨ e.kind = 16 ∨ e.kind = 18 ∨ e.kind = 19 ∨ e.kind = 4) : Prc 50 [.ptr id 0, .agg cs] id (textE e) := by
 have ca := fun h => atomsT id he hf hrec h
 have cn := fun h => atomsN id he h
 have cc := fun h => callsT id he hf hok hrec h
 have cd := fun h => callsN id he h
 have clv := levelF he hf.k0 hf.k1
 have he' := he
 obtain ⟨nv, lv, av, rfl, hk64, hn64, hs, ht, ⟨hnl, hnll, hnA⟩, hl, hll, ha, hal, hL, hA⟩ := he.inv
 have h7 : ([.int .i64 e.kind, .int .i64 e.n, .str e.s, .str e.t, nv, lv, av] : List V).length = 7 := rfl
 intro S s hp _ hlen
 obtain ⟨U, hU, b2, ks, p0⟩ := box_ex hp [.int .i64 e.kind, .int .i64 e.n, .str e.s, .str e.t, nv, lv, av]
 have k0 : KeepB U U id := KeepB.refl U id
 have e1 : e.l.length = (elems lv).length := hL.1
 have en : e.names.length = (elems nv).length := hnA.1
 have hat : ∀ x ∈ e.l, ∀ cs, ExC x cs → ∀ n : Int, Prc 106 [.ptr id 0, .agg cs, .int .i64 n] id ((partW x).at n) := fun x hx cs hc n => by
  have hfx := (nodes_ok (hok x (mem_l hx))).1
  exact atF id hc hfx.k0 hfx.k1 n (hrec x (mem_l hx) cs hc)
 have hcs : [V.int .i64 e.kind, .int .i64 e.n, .str e.s, .str e.t, nv, lv, av] = [V.int .i64 e.kind, .int .i64 e.n, .str e.s, .str e.t, nv, lv, av] := rfl
 refine CallTo.of (n := 137) Tryz.func50 rfl rfl ?_
 rcases hk with h | h | h | h | h | h | h | h | h | h | h | h | h | h | h
 ·have cA := ca (by rw [h]; decide)
  rw [h] at hU b2 h7 cA
  repeat' first
   | refine Opl.val (op_box rfl) rfl (Opl.cast (S' := U) ?_ (by rw [h]; exact hU))
   | refine Opl.val (op_load rfl (ld_pA b2 (by assumption) h7)) rfl ?_
   | refine Opl.callV (U0 := U) p0 k0 rfl (by kernel_rfl) cA hlen rfl (fun S2 p2 k2 => ?_)
   | refine op_gyes rfl ?_ rfl
   | refine .gn ?_
   | refine Go.condT rfl ?_
   | refine Go.condF rfl ?_
   | exact At.fnr rfl rfl rfl ⟨p2, ks.trans k2⟩
   | refine .std ?_ | refine .nil ?_ | refine .seq ?_ | refine .region ?_ | refine .xs ?_ | refine .kb ?_ | refine .leaf ?_ | refine .block ?_ | refine .gn ?_ | refine .dr ?_ | fail
 ·have cA := ca (by rw [h]; decide)
  rw [h] at hU b2 h7 cA
  repeat' first
   | refine Opl.val (op_box rfl) rfl (Opl.cast (S' := U) ?_ (by rw [h]; exact hU))
   | refine Opl.val (op_load rfl (ld_pA b2 (by assumption) h7)) rfl ?_
   | refine Opl.callV (U0 := U) p0 k0 rfl (by kernel_rfl) cA hlen rfl (fun S2 p2 k2 => ?_)
   | refine op_gyes rfl ?_ rfl
   | refine .gn ?_
   | refine Go.condT rfl ?_
   | refine Go.condF rfl ?_
   | exact At.fnr rfl rfl rfl ⟨p2, ks.trans k2⟩
   | refine .std ?_ | refine .nil ?_ | refine .seq ?_ | refine .region ?_ | refine .xs ?_ | refine .kb ?_ | refine .leaf ?_ | refine .block ?_ | refine .gn ?_ | refine .dr ?_ | fail
 ·have cA := ca (by rw [h]; decide)
  rw [h] at hU b2 h7 cA
  repeat' first
   | refine Opl.val (op_box rfl) rfl (Opl.cast (S' := U) ?_ (by rw [h]; exact hU))
   | refine Opl.val (op_load rfl (ld_pA b2 (by assumption) h7)) rfl ?_
   | refine Opl.callV (U0 := U) p0 k0 rfl (by kernel_rfl) cA hlen rfl (fun S2 p2 k2 => ?_)
   | refine op_gyes rfl ?_ rfl
   | refine .gn ?_
   | refine Go.condT rfl ?_
   | refine Go.condF rfl ?_
   | exact At.fnr rfl rfl rfl ⟨p2, ks.trans k2⟩
   | refine .std ?_ | refine .nil ?_ | refine .seq ?_ | refine .region ?_ | refine .xs ?_ | refine .kb ?_ | refine .leaf ?_ | refine .block ?_ | refine .gn ?_ | refine .dr ?_ | fail
 ·have cA := ca (by rw [h]; decide)
  rw [h] at hU b2 h7 cA
  repeat' first
   | refine Opl.val (op_box rfl) rfl (Opl.cast (S' := U) ?_ (by rw [h]; exact hU))
   | refine Opl.val (op_load rfl (ld_pA b2 (by assumption) h7)) rfl ?_
   | refine Opl.callV (U0 := U) p0 k0 rfl (by kernel_rfl) cA hlen rfl (fun S2 p2 k2 => ?_)
   | refine op_gyes rfl ?_ rfl
   | refine .gn ?_
   | refine Go.condT rfl ?_
   | refine Go.condF rfl ?_
   | exact At.fnr rfl rfl rfl ⟨p2, ks.trans k2⟩
   | refine .std ?_ | refine .nil ?_ | refine .seq ?_ | refine .region ?_ | refine .xs ?_ | refine .kb ?_ | refine .leaf ?_ | refine .block ?_ | refine .gn ?_ | refine .dr ?_ | fail
 ·have cA := ca (by rw [h]; decide)
  rw [h] at hU b2 h7 cA
  repeat' first
   | refine Opl.val (op_box rfl) rfl (Opl.cast (S' := U) ?_ (by rw [h]; exact hU))
   | refine Opl.val (op_load rfl (ld_pA b2 (by assumption) h7)) rfl ?_
   | refine Opl.callV (U0 := U) p0 k0 rfl (by kernel_rfl) cA hlen rfl (fun S2 p2 k2 => ?_)
   | refine op_gyes rfl ?_ rfl
   | refine .gn ?_
   | refine Go.condT rfl ?_
   | refine Go.condF rfl ?_
   | exact At.fnr rfl rfl rfl ⟨p2, ks.trans k2⟩
   | refine .std ?_ | refine .nil ?_ | refine .seq ?_ | refine .region ?_ | refine .xs ?_ | refine .kb ?_ | refine .leaf ?_ | refine .block ?_ | refine .gn ?_ | refine .dr ?_ | fail
 ·have cA := ca (by rw [h]; decide)
  rw [h] at hU b2 h7 cA
  repeat' first
   | refine Opl.val (op_box rfl) rfl (Opl.cast (S' := U) ?_ (by rw [h]; exact hU))
   | refine Opl.val (op_load rfl (ld_pA b2 (by assumption) h7)) rfl ?_
   | refine Opl.callV (U0 := U) p0 k0 rfl (by kernel_rfl) cA hlen rfl (fun S2 p2 k2 => ?_)
   | refine op_gyes rfl ?_ rfl
   | refine .gn ?_
   | refine Go.condT rfl ?_
   | refine Go.condF rfl ?_
   | exact At.fnr rfl rfl rfl ⟨p2, ks.trans k2⟩
   | refine .std ?_ | refine .nil ?_ | refine .seq ?_ | refine .region ?_ | refine .xs ?_ | refine .kb ?_ | refine .leaf ?_ | refine .block ?_ | refine .gn ?_ | refine .dr ?_ | fail
 ·have cA := ca (by rw [h]; decide)
  rw [h] at hU b2 h7 cA
  repeat' first
   | refine Opl.val (op_box rfl) rfl (Opl.cast (S' := U) ?_ (by rw [h]; exact hU))
   | refine Opl.val (op_load rfl (ld_pA b2 (by assumption) h7)) rfl ?_
   | refine Opl.callV (U0 := U) p0 k0 rfl (by kernel_rfl) cA hlen rfl (fun S2 p2 k2 => ?_)
   | refine op_gyes rfl ?_ rfl
   | refine .gn ?_
   | refine Go.condT rfl ?_
   | refine Go.condF rfl ?_
   | exact At.fnr rfl rfl rfl ⟨p2, ks.trans k2⟩
   | refine .std ?_ | refine .nil ?_ | refine .seq ?_ | refine .region ?_ | refine .xs ?_ | refine .kb ?_ | refine .leaf ?_ | refine .block ?_ | refine .gn ?_ | refine .dr ?_ | fail
 ·have cA := ca (by rw [h]; decide)
  rw [h] at hU b2 h7 cA
  repeat' first
   | refine Opl.val (op_box rfl) rfl (Opl.cast (S' := U) ?_ (by rw [h]; exact hU))
   | refine Opl.val (op_load rfl (ld_pA b2 (by assumption) h7)) rfl ?_
   | refine Opl.callV (U0 := U) p0 k0 rfl (by kernel_rfl) cA hlen rfl (fun S2 p2 k2 => ?_)
   | refine op_gyes rfl ?_ rfl
   | refine .gn ?_
   | refine Go.condT rfl ?_
   | refine Go.condF rfl ?_
   | exact At.fnr rfl rfl rfl ⟨p2, ks.trans k2⟩
   | refine .std ?_ | refine .nil ?_ | refine .seq ?_ | refine .region ?_ | refine .xs ?_ | refine .kb ?_ | refine .leaf ?_ | refine .block ?_ | refine .gn ?_ | refine .dr ?_ | fail
 ·have cA := cn (by rw [h]; decide)
  have cC := cc (by rw [h]; decide)
  rw [h] at hU b2 h7 cA cC
  repeat' first
   | refine Opl.val (op_box rfl) rfl (Opl.cast (S' := U) ?_ (by rw [h]; exact hU))
   | refine Opl.val (op_load rfl (ld_pA b2 (by assumption) h7)) rfl ?_
   | refine Opl.callV (U0 := U) p0 k0 rfl (by kernel_rfl) cA (by simp only [List.length_nil]; omega) rfl (fun S2 p2 k2 => ?_)
   | refine Opl.callV (U0 := U) p2 k2 rfl (by kernel_rfl) cC (by simp only [List.append_nil]; exact hlen) rfl (fun S3 p3 k3 => ?_)
   | refine op_gyes rfl ?_ rfl
   | refine .gn ?_
   | refine Go.condT rfl ?_
   | refine Go.condF rfl ?_
   | exact At.fnr rfl rfl rfl ⟨Prn.eq p3 (by simp only [List.append_nil]), ks.trans k3⟩
   | refine .std ?_ | refine .nil ?_ | refine .seq ?_ | refine .region ?_ | refine .xs ?_ | refine .kb ?_ | refine .leaf ?_ | refine .block ?_ | refine .gn ?_ | refine .dr ?_ | fail
 ·have cA := cn (by rw [h]; decide)
  have cC := cc (by rw [h]; decide)
  rw [h] at hU b2 h7 cA cC
  repeat' first
   | refine Opl.val (op_box rfl) rfl (Opl.cast (S' := U) ?_ (by rw [h]; exact hU))
   | refine Opl.val (op_load rfl (ld_pA b2 (by assumption) h7)) rfl ?_
   | refine Opl.callV (U0 := U) p0 k0 rfl (by kernel_rfl) cA (by simp only [List.length_nil]; omega) rfl (fun S2 p2 k2 => ?_)
   | refine Opl.callV (U0 := U) p2 k2 rfl (by kernel_rfl) cC (by simp only [List.append_nil]; exact hlen) rfl (fun S3 p3 k3 => ?_)
   | refine op_gyes rfl ?_ rfl
   | refine .gn ?_
   | refine Go.condT rfl ?_
   | refine Go.condF rfl ?_
   | exact At.fnr rfl rfl rfl ⟨Prn.eq p3 (by simp only [List.append_nil]), ks.trans k3⟩
   | refine .std ?_ | refine .nil ?_ | refine .seq ?_ | refine .region ?_ | refine .xs ?_ | refine .kb ?_ | refine .leaf ?_ | refine .block ?_ | refine .gn ?_ | refine .dr ?_ | fail
 ·have cA := cn (by rw [h]; decide)
  have cC := cc (by rw [h]; decide)
  rw [h] at hU b2 h7 cA cC
  repeat' first
   | refine Opl.val (op_box rfl) rfl (Opl.cast (S' := U) ?_ (by rw [h]; exact hU))
   | refine Opl.val (op_load rfl (ld_pA b2 (by assumption) h7)) rfl ?_
   | refine Opl.callV (U0 := U) p0 k0 rfl (by kernel_rfl) cA (by simp only [List.length_nil]; omega) rfl (fun S2 p2 k2 => ?_)
   | refine Opl.callV (U0 := U) p2 k2 rfl (by kernel_rfl) cC (by simp only [List.append_nil]; exact hlen) rfl (fun S3 p3 k3 => ?_)
   | refine op_gyes rfl ?_ rfl
   | refine .gn ?_
   | refine Go.condT rfl ?_
   | refine Go.condF rfl ?_
   | exact At.fnr rfl rfl rfl ⟨Prn.eq p3 (by simp only [List.append_nil]), ks.trans k3⟩
   | refine .std ?_ | refine .nil ?_ | refine .seq ?_ | refine .region ?_ | refine .xs ?_ | refine .kb ?_ | refine .leaf ?_ | refine .block ?_ | refine .gn ?_ | refine .dr ?_ | fail
 ·have cA := cn (by rw [h]; decide)
  have cC := cc (by rw [h]; decide)
  rw [h] at hU b2 h7 cA cC
  repeat' first
   | refine Opl.val (op_box rfl) rfl (Opl.cast (S' := U) ?_ (by rw [h]; exact hU))
   | refine Opl.val (op_load rfl (ld_pA b2 (by assumption) h7)) rfl ?_
   | refine Opl.callV (U0 := U) p0 k0 rfl (by kernel_rfl) cA (by simp only [List.length_nil]; omega) rfl (fun S2 p2 k2 => ?_)
   | refine Opl.callV (U0 := U) p2 k2 rfl (by kernel_rfl) cC (by simp only [List.append_nil]; exact hlen) rfl (fun S3 p3 k3 => ?_)
   | refine op_gyes rfl ?_ rfl
   | refine .gn ?_
   | refine Go.condT rfl ?_
   | refine Go.condF rfl ?_
   | exact At.fnr rfl rfl rfl ⟨Prn.eq p3 (by simp only [List.append_nil]), ks.trans k3⟩
   | refine .std ?_ | refine .nil ?_ | refine .seq ?_ | refine .region ?_ | refine .xs ?_ | refine .kb ?_ | refine .leaf ?_ | refine .block ?_ | refine .gn ?_ | refine .dr ?_ | fail
 ·have cA := cn (by rw [h]; decide)
  have cC := cc (by rw [h]; decide)
  rw [h] at hU b2 h7 cA cC
  repeat' first
   | refine Opl.val (op_box rfl) rfl (Opl.cast (S' := U) ?_ (by rw [h]; exact hU))
   | refine Opl.val (op_load rfl (ld_pA b2 (by assumption) h7)) rfl ?_
   | refine Opl.callV (U0 := U) p0 k0 rfl (by kernel_rfl) cA (by simp only [List.length_nil]; omega) rfl (fun S2 p2 k2 => ?_)
   | refine Opl.callV (U0 := U) p2 k2 rfl (by kernel_rfl) cC (by simp only [List.append_nil]; exact hlen) rfl (fun S3 p3 k3 => ?_)
   | refine op_gyes rfl ?_ rfl
   | refine .gn ?_
   | refine Go.condT rfl ?_
   | refine Go.condF rfl ?_
   | exact At.fnr rfl rfl rfl ⟨Prn.eq p3 (by simp only [List.append_nil]), ks.trans k3⟩
   | refine .std ?_ | refine .nil ?_ | refine .seq ?_ | refine .region ?_ | refine .xs ?_ | refine .kb ?_ | refine .leaf ?_ | refine .block ?_ | refine .gn ?_ | refine .dr ?_ | fail
 ·have cA := cn (by rw [h]; decide)
  have cC := cc (by rw [h]; decide)
  rw [h] at hU b2 h7 cA cC
  repeat' first
   | refine Opl.val (op_box rfl) rfl (Opl.cast (S' := U) ?_ (by rw [h]; exact hU))
   | refine Opl.val (op_load rfl (ld_pA b2 (by assumption) h7)) rfl ?_
   | refine Opl.callV (U0 := U) p0 k0 rfl (by kernel_rfl) cA (by simp only [List.length_nil]; omega) rfl (fun S2 p2 k2 => ?_)
   | refine Opl.callV (U0 := U) p2 k2 rfl (by kernel_rfl) cC (by simp only [List.append_nil]; exact hlen) rfl (fun S3 p3 k3 => ?_)
   | refine op_gyes rfl ?_ rfl
   | refine .gn ?_
   | refine Go.condT rfl ?_
   | refine Go.condF rfl ?_
   | exact At.fnr rfl rfl rfl ⟨Prn.eq p3 (by simp only [List.append_nil]), ks.trans k3⟩
   | refine .std ?_ | refine .nil ?_ | refine .seq ?_ | refine .region ?_ | refine .xs ?_ | refine .kb ?_ | refine .leaf ?_ | refine .block ?_ | refine .gn ?_ | refine .dr ?_ | fail
 ·have cA := cn (by rw [h]; decide)
  have cC := cd (by rw [h]; decide)
  rw [h] at hU b2 h7 cA cC
  rw [textE_eq] at hlen ⊢
  rw [h] at hlen ⊢
  rw [nw4] at hlen ⊢
  have hl1 : 1 ≤ e.l.length := by
   obtain ⟨x, hx, _, _, _, _, _, _, h3, _⟩ := hf.shape
   rw [h] at hx
   have := Option.some.inj hx
   subst this; exact h3
  have hnn : 1 ≤ e.names.length := by
   obtain ⟨x, hx, _, _, _, _, h3, _⟩ := hf.shape
   rw [h] at hx
   have := Option.some.inj hx
   subst this; exact h3
  obtain ⟨x, v, hx, hix, hvx, hmx⟩ := hL.at (i := 0) (by omega)
  have hlx := hvx.len7
  have hox := hvx.ones
  have cx := hrec x (mem_l hmx) _ hvx
  obtain ⟨nm, u, hnm, hinm, ⟨hcn, hnml⟩, hmnm⟩ := hnA.at (i := 0) (by omega)
  have hpt : ∀ S, Pt S (.cptr none u.cells 0) [.str nm] := fun S => by rw [hcn]; exact Pt.cptr _ _ _
  have hnw := (hf.nm nm hmnm).1
  rw [ptW_at hx, show (partW x).2 = textE x from rfl, nmW_at hnm] at hlen ⊢
  simp only [List.length_append, List.length_cons, List.length_nil] at hlen
  have cw := wordsF id (w0 := [102, 117, 110, 32] ++ nm ++ [32, 45, 62, 32]) hlx (by simp only [List.length_append, List.length_cons, List.length_nil]; show _ ≤ 9223372036854775807; omega) cx (pc_nil id).1 (pc_nil id).2.1 (pc_nil id).2.2
  repeat' first
   | refine Opl.val (op_box rfl) rfl (Opl.cast (S' := U) ?_ hU)
   | refine Opl.val (op_load rfl (ld_pA b2 (by assumption) h7)) rfl ?_
   | refine Opl.val (op_load rfl (ld_p b2 (by assumption) _ rfl)) rfl ?_
   | refine Opl.callV (U0 := U) (by assumption) (by assumption) rfl (by kernel_rfl) cA (by simp only [List.length_nil]; omega) rfl (fun S2 p2 k2 => ?_)
   | refine Opl.callV (U0 := U) (by assumption) (by assumption) rfl (by kernel_rfl) cC (by simp only [List.length_append, List.length_nil]; omega) rfl (fun S3 p3 k3 => ?_)
   | refine Opl.val (op_ixaV (i := 0) hl rfl rfl hix) rfl ?_
   | refine Opl.val (op_load rfl (ld_agg (Pt.cptr _ _ _) hlx)) rfl ?_
   | refine Opl.val (op_ixaV (i := 0) hnl rfl rfl hinm) rfl ?_
   | refine Opl.val (op_load rfl (ld_one (hpt _))) rfl ?_
   | refine Opl.val (op_str rfl rfl (str_add (by (try simp only [List.length_append, List.length_cons, List.length_nil]); omega))) rfl ?_
   | refine Opl.callP (U0 := U) (by assumption) (by assumption) rfl (by kernel_rfl) cw trivial (by (try simp only [List.length_append, List.length_cons, List.length_nil, List.length_flatten, List.map_cons, List.map_nil, List.sum_cons, List.sum_nil]); omega) rfl (fun v S4 p4 k4 => ?_)
   | refine op_gyes rfl ?_ rfl
   | refine .gn ?_
   | refine Go.condT rfl ?_
   | refine Go.condF rfl ?_
   | exact At.fn rfl rfl rfl ⟨Prn.eq (by assumption) (by simp only [List.append_assoc, List.append_nil, List.nil_append, List.flatten_cons, List.flatten_nil]), ks.trans (by assumption)⟩
   | refine .std ?_ | refine .nil ?_ | refine .seq ?_ | refine .region ?_ | refine .xs ?_ | refine .kb ?_ | refine .leaf ?_ | refine .block ?_ | refine .gn ?_ | refine .dr ?_ | fail
end Go.Proofs.YtodiioeddlmjhaaGreatDoor
