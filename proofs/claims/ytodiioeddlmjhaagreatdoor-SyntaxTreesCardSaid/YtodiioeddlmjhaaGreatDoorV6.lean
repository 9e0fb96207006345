import Derived.Test.YtodiioeddlmjhaaGreatDoorV4
set_option linter.unusedVariables false
set_option linter.unusedSimpArgs false
namespace Go.Proofs.YtodiioeddlmjhaaGreatDoor
open Go.RowKit Go.Ev
set_option maxRecDepth 100000
set_option linter.unusedVariables false
set_option linter.unusedSimpArgs false
attribute [local irreducible] Go.Ev.opE
theorem box_ex {S : St} {id : Nat} {s : List UInt8} (hp : Prz S id s) (cs : List V) : ∃ U : St, U = S.new (.box 27 cs) ∧ Bp U id S.next 27 cs ∧ KeepB S U id ∧ Prz U id s := by
 obtain ⟨U, hU, bx, s0⟩ := box1 S 27 cs
 have hid := hp.lt
 exact ⟨U, hU, Bp.of (c := id) bx (by omega), s0.keepB id, hp.same s0⟩
set_option maxHeartbeats 8000000 in
theorem atomsN (id : Nat) {e : Ex} {cs : List V} (he : ExC e cs) (hk : e.kind = 4 ∨ e.kind = 5 ∨ e.kind = 6 ∨ e.kind = 7 ∨ e.kind = 8 ∨ e.kind = 9 ∨ e.kind = 12 ∨ e.kind = 13 ∨ e.kind = 16 ∨ e.kind = 17 ∨ e.kind = 18 ∨ e.kind = 19) : Prv 101 [.ptr id 0, .agg cs] id (.bool false) [] := by
 obtain ⟨nv, lv, av, rfl, hk64, hn64, hs, ht, hnm, hl, hll, ha, hal, hL, hA⟩ := he.inv
 intro S s hp hlen
 rw [List.append_nil]
 obtain ⟨U1, U, hU1, hU, b1, b2, ks, p0⟩ := box_arm (e := e) hp [.int .i64 e.kind, .int .i64 e.n, .str e.s, .str e.t, nv, lv, av]
 have k0 : KeepB U U id := KeepB.refl U id
 refine CallTo.of (n := 121) Tryz.func101 rfl rfl ?_
 rcases hk with h | h | h | h | h | h | h | h | h | h | h | h
 ·rw [h] at hU b2
  repeat' first
   | refine Opl.val (op_box rfl) rfl (Opl.cast (S' := U1) ?_ hU1)
   | refine Opl.val (op_box rfl) rfl (Opl.cast (S' := U) ?_ (by rw [h]; exact hU))
   | refine Opl.val (op_load rfl (ld_p b2 k0 _ rfl)) rfl ?_
   | refine Go.condT rfl ?_
   | refine Go.condF rfl ?_
   | exact At.fnr rfl rfl rfl ⟨rfl, p0, ks⟩
   | refine .std ?_ | refine .nil ?_ | refine .seq ?_ | refine .region ?_ | refine .xs ?_ | refine .kb ?_ | refine .leaf ?_ | refine .block ?_ | refine .gn ?_ | refine .dr ?_ | fail
 ·rw [h] at hU b2
  repeat' first
   | refine Opl.val (op_box rfl) rfl (Opl.cast (S' := U1) ?_ hU1)
   | refine Opl.val (op_box rfl) rfl (Opl.cast (S' := U) ?_ (by rw [h]; exact hU))
   | refine Opl.val (op_load rfl (ld_p b2 k0 _ rfl)) rfl ?_
   | refine Go.condT rfl ?_
   | refine Go.condF rfl ?_
   | exact At.fnr rfl rfl rfl ⟨rfl, p0, ks⟩
   | refine .std ?_ | refine .nil ?_ | refine .seq ?_ | refine .region ?_ | refine .xs ?_ | refine .kb ?_ | refine .leaf ?_ | refine .block ?_ | refine .gn ?_ | refine .dr ?_ | fail
 ·rw [h] at hU b2
  repeat' first
   | refine Opl.val (op_box rfl) rfl (Opl.cast (S' := U1) ?_ hU1)
   | refine Opl.val (op_box rfl) rfl (Opl.cast (S' := U) ?_ (by rw [h]; exact hU))
   | refine Opl.val (op_load rfl (ld_p b2 k0 _ rfl)) rfl ?_
   | refine Go.condT rfl ?_
   | refine Go.condF rfl ?_
   | exact At.fnr rfl rfl rfl ⟨rfl, p0, ks⟩
   | refine .std ?_ | refine .nil ?_ | refine .seq ?_ | refine .region ?_ | refine .xs ?_ | refine .kb ?_ | refine .leaf ?_ | refine .block ?_ | refine .gn ?_ | refine .dr ?_ | fail
 ·rw [h] at hU b2
  repeat' first
   | refine Opl.val (op_box rfl) rfl (Opl.cast (S' := U1) ?_ hU1)
   | refine Opl.val (op_box rfl) rfl (Opl.cast (S' := U) ?_ (by rw [h]; exact hU))
   | refine Opl.val (op_load rfl (ld_p b2 k0 _ rfl)) rfl ?_
   | refine Go.condT rfl ?_
   | refine Go.condF rfl ?_
   | exact At.fnr rfl rfl rfl ⟨rfl, p0, ks⟩
   | refine .std ?_ | refine .nil ?_ | refine .seq ?_ | refine .region ?_ | refine .xs ?_ | refine .kb ?_ | refine .leaf ?_ | refine .block ?_ | refine .gn ?_ | refine .dr ?_ | fail
 ·rw [h] at hU b2
  repeat' first
   | refine Opl.val (op_box rfl) rfl (Opl.cast (S' := U1) ?_ hU1)
   | refine Opl.val (op_box rfl) rfl (Opl.cast (S' := U) ?_ (by rw [h]; exact hU))
   | refine Opl.val (op_load rfl (ld_p b2 k0 _ rfl)) rfl ?_
   | refine Go.condT rfl ?_
   | refine Go.condF rfl ?_
   | exact At.fnr rfl rfl rfl ⟨rfl, p0, ks⟩
   | refine .std ?_ | refine .nil ?_ | refine .seq ?_ | refine .region ?_ | refine .xs ?_ | refine .kb ?_ | refine .leaf ?_ | refine .block ?_ | refine .gn ?_ | refine .dr ?_ | fail
 ·rw [h] at hU b2
  repeat' first
   | refine Opl.val (op_box rfl) rfl (Opl.cast (S' := U1) ?_ hU1)
   | refine Opl.val (op_box rfl) rfl (Opl.cast (S' := U) ?_ (by rw [h]; exact hU))
   | refine Opl.val (op_load rfl (ld_p b2 k0 _ rfl)) rfl ?_
   | refine Go.condT rfl ?_
   | refine Go.condF rfl ?_
   | exact At.fnr rfl rfl rfl ⟨rfl, p0, ks⟩
   | refine .std ?_ | refine .nil ?_ | refine .seq ?_ | refine .region ?_ | refine .xs ?_ | refine .kb ?_ | refine .leaf ?_ | refine .block ?_ | refine .gn ?_ | refine .dr ?_ | fail
 ·rw [h] at hU b2
  repeat' first
   | refine Opl.val (op_box rfl) rfl (Opl.cast (S' := U1) ?_ hU1)
   | refine Opl.val (op_box rfl) rfl (Opl.cast (S' := U) ?_ (by rw [h]; exact hU))
   | refine Opl.val (op_load rfl (ld_p b2 k0 _ rfl)) rfl ?_
   | refine Go.condT rfl ?_
   | refine Go.condF rfl ?_
   | exact At.fnr rfl rfl rfl ⟨rfl, p0, ks⟩
   | refine .std ?_ | refine .nil ?_ | refine .seq ?_ | refine .region ?_ | refine .xs ?_ | refine .kb ?_ | refine .leaf ?_ | refine .block ?_ | refine .gn ?_ | refine .dr ?_ | fail
 ·rw [h] at hU b2
  repeat' first
   | refine Opl.val (op_box rfl) rfl (Opl.cast (S' := U1) ?_ hU1)
   | refine Opl.val (op_box rfl) rfl (Opl.cast (S' := U) ?_ (by rw [h]; exact hU))
   | refine Opl.val (op_load rfl (ld_p b2 k0 _ rfl)) rfl ?_
   | refine Go.condT rfl ?_
   | refine Go.condF rfl ?_
   | exact At.fnr rfl rfl rfl ⟨rfl, p0, ks⟩
   | refine .std ?_ | refine .nil ?_ | refine .seq ?_ | refine .region ?_ | refine .xs ?_ | refine .kb ?_ | refine .leaf ?_ | refine .block ?_ | refine .gn ?_ | refine .dr ?_ | fail
 ·rw [h] at hU b2
  repeat' first
   | refine Opl.val (op_box rfl) rfl (Opl.cast (S' := U1) ?_ hU1)
   | refine Opl.val (op_box rfl) rfl (Opl.cast (S' := U) ?_ (by rw [h]; exact hU))
   | refine Opl.val (op_load rfl (ld_p b2 k0 _ rfl)) rfl ?_
   | refine Go.condT rfl ?_
   | refine Go.condF rfl ?_
   | exact At.fnr rfl rfl rfl ⟨rfl, p0, ks⟩
   | refine .std ?_ | refine .nil ?_ | refine .seq ?_ | refine .region ?_ | refine .xs ?_ | refine .kb ?_ | refine .leaf ?_ | refine .block ?_ | refine .gn ?_ | refine .dr ?_ | fail
 ·rw [h] at hU b2
  repeat' first
   | refine Opl.val (op_box rfl) rfl (Opl.cast (S' := U1) ?_ hU1)
   | refine Opl.val (op_box rfl) rfl (Opl.cast (S' := U) ?_ (by rw [h]; exact hU))
   | refine Opl.val (op_load rfl (ld_p b2 k0 _ rfl)) rfl ?_
   | refine Go.condT rfl ?_
   | refine Go.condF rfl ?_
   | exact At.fnr rfl rfl rfl ⟨rfl, p0, ks⟩
   | refine .std ?_ | refine .nil ?_ | refine .seq ?_ | refine .region ?_ | refine .xs ?_ | refine .kb ?_ | refine .leaf ?_ | refine .block ?_ | refine .gn ?_ | refine .dr ?_ | fail
 ·rw [h] at hU b2
  repeat' first
   | refine Opl.val (op_box rfl) rfl (Opl.cast (S' := U1) ?_ hU1)
   | refine Opl.val (op_box rfl) rfl (Opl.cast (S' := U) ?_ (by rw [h]; exact hU))
   | refine Opl.val (op_load rfl (ld_p b2 k0 _ rfl)) rfl ?_
   | refine Go.condT rfl ?_
   | refine Go.condF rfl ?_
   | exact At.fnr rfl rfl rfl ⟨rfl, p0, ks⟩
   | refine .std ?_ | refine .nil ?_ | refine .seq ?_ | refine .region ?_ | refine .xs ?_ | refine .kb ?_ | refine .leaf ?_ | refine .block ?_ | refine .gn ?_ | refine .dr ?_ | fail
 ·rw [h] at hU b2
  repeat' first
   | refine Opl.val (op_box rfl) rfl (Opl.cast (S' := U1) ?_ hU1)
   | refine Opl.val (op_box rfl) rfl (Opl.cast (S' := U) ?_ (by rw [h]; exact hU))
   | refine Opl.val (op_load rfl (ld_p b2 k0 _ rfl)) rfl ?_
   | refine Go.condT rfl ?_
   | refine Go.condF rfl ?_
   | exact At.fnr rfl rfl rfl ⟨rfl, p0, ks⟩
   | refine .std ?_ | refine .nil ?_ | refine .seq ?_ | refine .region ?_ | refine .xs ?_ | refine .kb ?_ | refine .leaf ?_ | refine .block ?_ | refine .gn ?_ | refine .dr ?_ | fail
set_option maxHeartbeats 8000000 in
theorem callsN (id : Nat) {e : Ex} {cs : List V} (he : ExC e cs) (hk : e.kind = 4 ∨ e.kind = 6 ∨ e.kind = 7 ∨ e.kind = 8 ∨ e.kind = 9 ∨ e.kind = 17) : Prv 102 [.ptr id 0, .agg cs] id (.bool false) [] := by
 obtain ⟨nv, lv, av, rfl, hk64, hn64, hs, ht, hnm, hl, hll, ha, hal, hL, hA⟩ := he.inv
 intro S s hp hlen
 rw [List.append_nil]
 obtain ⟨U, hU, b2, ks, p0⟩ := box_ex hp [.int .i64 e.kind, .int .i64 e.n, .str e.s, .str e.t, nv, lv, av]
 have k0 : KeepB U U id := KeepB.refl U id
 refine CallTo.of (n := 67) Tryz.func102 rfl rfl ?_
 rcases hk with h | h | h | h | h | h
 ·rw [h] at hU b2
  repeat' first
   | refine Opl.val (op_box rfl) rfl (Opl.cast (S' := U) ?_ (by rw [h]; exact hU))
   | refine Opl.val (op_load rfl (ld_p b2 k0 _ rfl)) rfl ?_
   | refine Go.condT rfl ?_
   | refine Go.condF rfl ?_
   | exact At.fnr rfl rfl rfl ⟨rfl, p0, ks⟩
   | refine .std ?_ | refine .nil ?_ | refine .seq ?_ | refine .region ?_ | refine .xs ?_ | refine .kb ?_ | refine .leaf ?_ | refine .block ?_ | refine .gn ?_ | refine .dr ?_ | fail
 ·rw [h] at hU b2
  repeat' first
   | refine Opl.val (op_box rfl) rfl (Opl.cast (S' := U) ?_ (by rw [h]; exact hU))
   | refine Opl.val (op_load rfl (ld_p b2 k0 _ rfl)) rfl ?_
   | refine Go.condT rfl ?_
   | refine Go.condF rfl ?_
   | exact At.fnr rfl rfl rfl ⟨rfl, p0, ks⟩
   | refine .std ?_ | refine .nil ?_ | refine .seq ?_ | refine .region ?_ | refine .xs ?_ | refine .kb ?_ | refine .leaf ?_ | refine .block ?_ | refine .gn ?_ | refine .dr ?_ | fail
 ·rw [h] at hU b2
  repeat' first
   | refine Opl.val (op_box rfl) rfl (Opl.cast (S' := U) ?_ (by rw [h]; exact hU))
   | refine Opl.val (op_load rfl (ld_p b2 k0 _ rfl)) rfl ?_
   | refine Go.condT rfl ?_
   | refine Go.condF rfl ?_
   | exact At.fnr rfl rfl rfl ⟨rfl, p0, ks⟩
   | refine .std ?_ | refine .nil ?_ | refine .seq ?_ | refine .region ?_ | refine .xs ?_ | refine .kb ?_ | refine .leaf ?_ | refine .block ?_ | refine .gn ?_ | refine .dr ?_ | fail
 ·rw [h] at hU b2
  repeat' first
   | refine Opl.val (op_box rfl) rfl (Opl.cast (S' := U) ?_ (by rw [h]; exact hU))
   | refine Opl.val (op_load rfl (ld_p b2 k0 _ rfl)) rfl ?_
   | refine Go.condT rfl ?_
   | refine Go.condF rfl ?_
   | exact At.fnr rfl rfl rfl ⟨rfl, p0, ks⟩
   | refine .std ?_ | refine .nil ?_ | refine .seq ?_ | refine .region ?_ | refine .xs ?_ | refine .kb ?_ | refine .leaf ?_ | refine .block ?_ | refine .gn ?_ | refine .dr ?_ | fail
 ·rw [h] at hU b2
  repeat' first
   | refine Opl.val (op_box rfl) rfl (Opl.cast (S' := U) ?_ (by rw [h]; exact hU))
   | refine Opl.val (op_load rfl (ld_p b2 k0 _ rfl)) rfl ?_
   | refine Go.condT rfl ?_
   | refine Go.condF rfl ?_
   | exact At.fnr rfl rfl rfl ⟨rfl, p0, ks⟩
   | refine .std ?_ | refine .nil ?_ | refine .seq ?_ | refine .region ?_ | refine .xs ?_ | refine .kb ?_ | refine .leaf ?_ | refine .block ?_ | refine .gn ?_ | refine .dr ?_ | fail
 ·rw [h] at hU b2
  repeat' first
   | refine Opl.val (op_box rfl) rfl (Opl.cast (S' := U) ?_ (by rw [h]; exact hU))
   | refine Opl.val (op_load rfl (ld_p b2 k0 _ rfl)) rfl ?_
   | refine Go.condT rfl ?_
   | refine Go.condF rfl ?_
   | exact At.fnr rfl rfl rfl ⟨rfl, p0, ks⟩
   | refine .std ?_ | refine .nil ?_ | refine .seq ?_ | refine .region ?_ | refine .xs ?_ | refine .kb ?_ | refine .leaf ?_ | refine .block ?_ | refine .gn ?_ | refine .dr ?_ | fail
set_option maxHeartbeats 16000000 in
theorem callsT (id : Nat) {e : Ex} {cs : List V} (he : ExC e cs) (hf : ExF e) (hok : ∀ x ∈ e.parts, nodesE x = 0) (hrec : Rec id e) (hk : e.kind = 5 ∨ e.kind = 12 ∨ e.kind = 13 ∨ e.kind = 16 ∨ e.kind = 18 ∨ e.kind = 19) : Prv 102 [.ptr id 0, .agg cs] id (.bool true) (textE e) := by
 obtain ⟨nv, lv, av, rfl, hk64, hn64, hs, ht, ⟨hnl, hnll, hnA⟩, hl, hll, ha, hal, hL, hA⟩ := he.inv
 intro S s hp hlen
 rw [textE_eq] at hlen ⊢
 obtain ⟨U, hU, b2, ks, p0⟩ := box_ex hp [.int .i64 e.kind, .int .i64 e.n, .str e.s, .str e.t, nv, lv, av]
 have k0 : KeepB U U id := KeepB.refl U id
 have e1 : e.l.length = (elems lv).length := hL.1
 have hat : ∀ x ∈ e.l, ∀ cs, ExC x cs → ∀ n : Int, Prc 106 [.ptr id 0, .agg cs, .int .i64 n] id ((partW x).at n) := fun x hx cs hc n => by
  have hfx := (nodes_ok (hok x (mem_l hx))).1
  exact atF id hc hfx.k0 hfx.k1 n (hrec x (mem_l hx) cs hc)
 refine CallTo.of (n := 67) Tryz.func102 rfl rfl ?_
 rcases hk with h | h | h | h | h | h
 ·rw [h] at hU b2 hlen ⊢
  rw [nw5] at hlen ⊢
  have hl1 : 2 ≤ e.l.length := by
   obtain ⟨x, hx, _, _, _, _, _, _, h3, _⟩ := hf.shape
   rw [h] at hx
   have := Option.some.inj hx
   subst this; exact h3
  obtain ⟨x, v, hx, hix, hvx, hmx⟩ := hL.at (i := 0) (by omega)
  have hlx := hvx.len7
  obtain ⟨y, w, hy, hiy, hvy, hmy⟩ := hL.at (i := 1) (by omega)
  have hly := hvy.len7
  rw [ptW_at hx, ptW_at hy] at hlen ⊢
  have cx := hat x hmx _ hvx 4
  have cy := hat y hmy _ hvy 5
  have f2 := put1F id (lt := some 9) (tk := .exact) (a := [32]) (by decide)
  simp only [List.length_append, List.length_cons, List.length_nil] at hlen
  repeat' first
   | refine Opl.val (op_box rfl) rfl (Opl.cast (S' := U) ?_ hU)
   | refine Opl.val (op_load rfl (ld_p b2 (by assumption) _ rfl)) rfl ?_
   | refine Opl.val (op_ixaV (i := 0) hl rfl rfl hix) rfl ?_
   | refine Opl.val (op_load rfl (ld_agg (Pt.cptr _ _ _) hlx)) rfl ?_
   | refine Opl.val (op_ixaV (i := 1) hl rfl rfl hiy) rfl ?_
   | refine Opl.val (op_load rfl (ld_agg (Pt.cptr _ _ _) hly)) rfl ?_
   | refine Opl.val (op_bsG rfl (bs1 _)) rfl ?_
   | refine Opl.val (op_bsG rfl (bs2 _ _)) rfl ?_
   | refine Opl.val (op_bsG rfl (bs3 _ _ _)) rfl ?_
   | refine Opl.val (op_bsG rfl (bs4 _ _ _ _)) rfl ?_
   | refine Opl.callP (U0 := U) (by assumption) (by assumption) rfl (by kernel_rfl) cx trivial (by (try simp only [List.length_append, List.length_cons, List.length_nil]); omega) rfl (fun v S2 p2 k2 => ?_)
   | refine Opl.callP (U0 := U) (by assumption) (by assumption) rfl (by kernel_rfl) f2 trivial (by (try simp only [List.length_append, List.length_cons, List.length_nil]); omega) rfl (fun v S3 p3 k3 => ?_)
   | refine Opl.callP (U0 := U) (by assumption) (by assumption) rfl (by kernel_rfl) cy trivial (by (try simp only [List.length_append, List.length_cons, List.length_nil]); omega) rfl (fun v S4 p4 k4 => ?_)
   | refine Go.condT rfl ?_
   | refine Go.condF rfl ?_
   | exact At.fnr rfl rfl rfl ⟨rfl, Prn.eq (by assumption) (by simp only [List.append_assoc]), ks.trans (by assumption)⟩
   | refine .std ?_ | refine .nil ?_ | refine .seq ?_ | refine .region ?_ | refine .xs ?_ | refine .kb ?_ | refine .leaf ?_ | refine .block ?_ | refine .gn ?_ | refine .dr ?_ | fail
 ·rw [h] at hU b2 hlen ⊢
  rw [nw12] at hlen ⊢
  have hl1 : 1 ≤ e.l.length := by
   obtain ⟨x, hx, _, _, _, _, _, _, h3, _⟩ := hf.shape
   rw [h] at hx
   have := Option.some.inj hx
   subst this; exact h3
  obtain ⟨x, v, hx, hix, hvx, hmx⟩ := hL.at (i := 0) (by omega)
  have hlx := hvx.len7
  rw [ptW_at hx] at hlen ⊢
  have cx := hat x hmx _ hvx 5
  have f2 := put3F id (lt := some 9) (tk := .exact) (a := [100, 111, 32]) (b := e.s) (c := [32]) (by decide) hs (by decide)
  simp only [List.length_append, List.length_cons, List.length_nil] at hlen
  repeat' first
   | refine Opl.val (op_box rfl) rfl (Opl.cast (S' := U) ?_ hU)
   | refine Opl.val (op_load rfl (ld_p b2 (by assumption) _ rfl)) rfl ?_
   | refine Opl.val (op_ixaV (i := 0) hl rfl rfl hix) rfl ?_
   | refine Opl.val (op_load rfl (ld_agg (Pt.cptr _ _ _) hlx)) rfl ?_
   | refine Opl.val (op_bsG rfl (bs1 _)) rfl ?_
   | refine Opl.val (op_bsG rfl (bs2 _ _)) rfl ?_
   | refine Opl.val (op_bsG rfl (bs3 _ _ _)) rfl ?_
   | refine Opl.val (op_bsG rfl (bs4 _ _ _ _)) rfl ?_
   | refine Opl.callP (U0 := U) (by assumption) (by assumption) rfl (by kernel_rfl) f2 trivial (by (try simp only [List.length_append, List.length_cons, List.length_nil]); omega) rfl (fun v S3 p3 k3 => ?_)
   | refine Opl.callP (U0 := U) (by assumption) (by assumption) rfl (by kernel_rfl) cx trivial (by (try simp only [List.length_append, List.length_cons, List.length_nil]); omega) rfl (fun v S4 p4 k4 => ?_)
   | refine Go.condT rfl ?_
   | refine Go.condF rfl ?_
   | exact At.fnr rfl rfl rfl ⟨rfl, Prn.eq (by assumption) (by simp only [List.append_assoc]), ks.trans (by assumption)⟩
   | refine .std ?_ | refine .nil ?_ | refine .seq ?_ | refine .region ?_ | refine .xs ?_ | refine .kb ?_ | refine .leaf ?_ | refine .block ?_ | refine .gn ?_ | refine .dr ?_ | fail
 ·rw [h] at hU b2 hlen ⊢
  rw [nw13] at hlen ⊢
  have hl1 : 1 ≤ e.l.length := by
   obtain ⟨x, hx, _, _, _, _, _, _, h3, _⟩ := hf.shape
   rw [h] at hx
   have := Option.some.inj hx
   subst this; exact h3
  obtain ⟨x, v, hx, hix, hvx, hmx⟩ := hL.at (i := 0) (by omega)
  have hlx := hvx.len7
  rw [ptW_at hx] at hlen ⊢
  have cx := hat x hmx _ hvx 5
  have f2 := put4F id (lt := some 9) (tk := .exact) (a := e.s) (b := [46]) (c := e.t) (d := [32]) hs (by decide) ht (by decide)
  simp only [List.length_append, List.length_cons, List.length_nil] at hlen
  repeat' first
   | refine Opl.val (op_box rfl) rfl (Opl.cast (S' := U) ?_ hU)
   | refine Opl.val (op_load rfl (ld_p b2 (by assumption) _ rfl)) rfl ?_
   | refine Opl.val (op_ixaV (i := 0) hl rfl rfl hix) rfl ?_
   | refine Opl.val (op_load rfl (ld_agg (Pt.cptr _ _ _) hlx)) rfl ?_
   | refine Opl.val (op_bsG rfl (bs1 _)) rfl ?_
   | refine Opl.val (op_bsG rfl (bs2 _ _)) rfl ?_
   | refine Opl.val (op_bsG rfl (bs3 _ _ _)) rfl ?_
   | refine Opl.val (op_bsG rfl (bs4 _ _ _ _)) rfl ?_
   | refine Opl.callP (U0 := U) (by assumption) (by assumption) rfl (by kernel_rfl) f2 trivial (by (try simp only [List.length_append, List.length_cons, List.length_nil]); omega) rfl (fun v S3 p3 k3 => ?_)
   | refine Opl.callP (U0 := U) (by assumption) (by assumption) rfl (by kernel_rfl) cx trivial (by (try simp only [List.length_append, List.length_cons, List.length_nil]); omega) rfl (fun v S4 p4 k4 => ?_)
   | refine Go.condT rfl ?_
   | refine Go.condF rfl ?_
   | exact At.fnr rfl rfl rfl ⟨rfl, Prn.eq (by assumption) (by simp only [List.append_assoc]), ks.trans (by assumption)⟩
   | refine .std ?_ | refine .nil ?_ | refine .seq ?_ | refine .region ?_ | refine .xs ?_ | refine .kb ?_ | refine .leaf ?_ | refine .block ?_ | refine .gn ?_ | refine .dr ?_ | fail
 ·rw [h] at hU b2 hlen ⊢
  rw [nw16] at hlen ⊢
  have hl1 : 1 ≤ e.l.length := by
   obtain ⟨x, hx, _, _, _, _, _, _, h3, _⟩ := hf.shape
   rw [h] at hx
   have := Option.some.inj hx
   subst this; exact h3
  obtain ⟨x, v, hx, hix, hvx, hmx⟩ := hL.at (i := 0) (by omega)
  have hlx := hvx.len7
  rw [ptW_at hx] at hlen ⊢
  have cx := hat x hmx _ hvx 5
  have f2 := put3F id (lt := some 9) (tk := .exact) (a := [109, 97, 115, 107, 32]) (b := e.s) (c := [32]) (by decide) hs (by decide)
  simp only [List.length_append, List.length_cons, List.length_nil] at hlen
  repeat' first
   | refine Opl.val (op_box rfl) rfl (Opl.cast (S' := U) ?_ hU)
   | refine Opl.val (op_load rfl (ld_p b2 (by assumption) _ rfl)) rfl ?_
   | refine Opl.val (op_ixaV (i := 0) hl rfl rfl hix) rfl ?_
   | refine Opl.val (op_load rfl (ld_agg (Pt.cptr _ _ _) hlx)) rfl ?_
   | refine Opl.val (op_bsG rfl (bs1 _)) rfl ?_
   | refine Opl.val (op_bsG rfl (bs2 _ _)) rfl ?_
   | refine Opl.val (op_bsG rfl (bs3 _ _ _)) rfl ?_
   | refine Opl.val (op_bsG rfl (bs4 _ _ _ _)) rfl ?_
   | refine Opl.callP (U0 := U) (by assumption) (by assumption) rfl (by kernel_rfl) f2 trivial (by (try simp only [List.length_append, List.length_cons, List.length_nil]); omega) rfl (fun v S3 p3 k3 => ?_)
   | refine Opl.callP (U0 := U) (by assumption) (by assumption) rfl (by kernel_rfl) cx trivial (by (try simp only [List.length_append, List.length_cons, List.length_nil]); omega) rfl (fun v S4 p4 k4 => ?_)
   | refine Go.condT rfl ?_
   | refine Go.condF rfl ?_
   | exact At.fnr rfl rfl rfl ⟨rfl, Prn.eq (by assumption) (by simp only [List.append_assoc]), ks.trans (by assumption)⟩
   | refine .std ?_ | refine .nil ?_ | refine .seq ?_ | refine .region ?_ | refine .xs ?_ | refine .kb ?_ | refine .leaf ?_ | refine .block ?_ | refine .gn ?_ | refine .dr ?_ | fail
 ·rw [h] at hU b2 hlen ⊢
  rw [nw18] at hlen ⊢
  have hl1 : 1 ≤ e.l.length := by
   obtain ⟨x, hx, _, _, _, _, _, _, h3, _⟩ := hf.shape
   rw [h] at hx
   have := Option.some.inj hx
   subst this; exact h3
  obtain ⟨x, v, hx, hix, hvx, hmx⟩ := hL.at (i := 0) (by omega)
  have hlx := hvx.len7
  rw [ptW_at hx] at hlen ⊢
  have cx := hat x hmx _ hvx 5
  have f2 := put3F id (lt := some 9) (tk := .exact) (a := [114, 101, 115, 117, 109, 101, 32]) (b := e.s) (c := [32]) (by decide) hs (by decide)
  simp only [List.length_append, List.length_cons, List.length_nil] at hlen
  repeat' first
   | refine Opl.val (op_box rfl) rfl (Opl.cast (S' := U) ?_ hU)
   | refine Opl.val (op_load rfl (ld_p b2 (by assumption) _ rfl)) rfl ?_
   | refine Opl.val (op_ixaV (i := 0) hl rfl rfl hix) rfl ?_
   | refine Opl.val (op_load rfl (ld_agg (Pt.cptr _ _ _) hlx)) rfl ?_
   | refine Opl.val (op_bsG rfl (bs1 _)) rfl ?_
   | refine Opl.val (op_bsG rfl (bs2 _ _)) rfl ?_
   | refine Opl.val (op_bsG rfl (bs3 _ _ _)) rfl ?_
   | refine Opl.val (op_bsG rfl (bs4 _ _ _ _)) rfl ?_
   | refine Opl.callP (U0 := U) (by assumption) (by assumption) rfl (by kernel_rfl) f2 trivial (by (try simp only [List.length_append, List.length_cons, List.length_nil]); omega) rfl (fun v S3 p3 k3 => ?_)
   | refine Opl.callP (U0 := U) (by assumption) (by assumption) rfl (by kernel_rfl) cx trivial (by (try simp only [List.length_append, List.length_cons, List.length_nil]); omega) rfl (fun v S4 p4 k4 => ?_)
   | refine Go.condT rfl ?_
   | refine Go.condF rfl ?_
   | exact At.fnr rfl rfl rfl ⟨rfl, Prn.eq (by assumption) (by simp only [List.append_assoc]), ks.trans (by assumption)⟩
   | refine .std ?_ | refine .nil ?_ | refine .seq ?_ | refine .region ?_ | refine .xs ?_ | refine .kb ?_ | refine .leaf ?_ | refine .block ?_ | refine .gn ?_ | refine .dr ?_ | fail
 ·rw [h] at hU b2 hlen ⊢
  rw [nw19] at hlen ⊢
  have f2 := put2F id (lt := some 9) (tk := .exact) (a := [100, 114, 111, 112, 32]) (b := e.s) (by decide) hs
  simp only [List.length_append, List.length_cons, List.length_nil] at hlen
  repeat' first
   | refine Opl.val (op_box rfl) rfl (Opl.cast (S' := U) ?_ hU)
   | refine Opl.val (op_load rfl (ld_p b2 (by assumption) _ rfl)) rfl ?_
   | refine Opl.val (op_bsG rfl (bs1 _)) rfl ?_
   | refine Opl.val (op_bsG rfl (bs2 _ _)) rfl ?_
   | refine Opl.val (op_bsG rfl (bs3 _ _ _)) rfl ?_
   | refine Opl.val (op_bsG rfl (bs4 _ _ _ _)) rfl ?_
   | refine Opl.callP (U0 := U) (by assumption) (by assumption) rfl (by kernel_rfl) f2 trivial (by (try simp only [List.length_append, List.length_cons, List.length_nil]); omega) rfl (fun v S3 p3 k3 => ?_)
   | refine Go.condT rfl ?_
   | refine Go.condF rfl ?_
   | exact At.fnr rfl rfl rfl ⟨rfl, Prn.eq (by assumption) (by simp only [List.append_assoc]), ks.trans (by assumption)⟩
   | refine .std ?_ | refine .nil ?_ | refine .seq ?_ | refine .region ?_ | refine .xs ?_ | refine .kb ?_ | refine .leaf ?_ | refine .block ?_ | refine .gn ?_ | refine .dr ?_ | fail
end Go.Proofs.YtodiioeddlmjhaaGreatDoor
namespace Go.Proofs.YtodiioeddlmjhaaGreatDoor
open Go.RowKit Go.Ev
set_option maxRecDepth 100000
set_option linter.unusedVariables false
set_option linter.unusedSimpArgs false
attribute [local irreducible] Go.Ev.opE
def PcV (id : Nat) (w : List UInt8) (v : V) : Prop := (v = .iface 9 (.str w) ∧ w.length ≤ huge) ∨ ∃ cs, v = .iface 27 (.agg cs) ∧ cs.length = 7 ∧ cs.all V.one = true ∧ Prc 50 [.ptr id 0, .agg cs] id w
theorem as1 (w : List UInt8) : assertE Tryz.prog (.iface 9 (.str w)) 9 true = some (.tup [.str w, .bool true]) := by kernel_rfl
theorem as2 (cs : List V) : assertE Tryz.prog (.iface 27 (.agg cs)) 9 true = some (.tup [.str [], .bool false]) := by kernel_rfl
theorem as3 (cs : List V) : assertE Tryz.prog (.iface 27 (.agg cs)) 27 true = some (.tup [.agg cs, .bool true]) := by kernel_rfl
theorem bsA2 (a : List UInt8) (cs : List V) : buildSliceE Tryz.prog 202 2 [(0, .iface 9 (.str a)), (1, .iface 27 (.agg cs))] = some (.list (some 20) 1 [.iface 9 (.str a), .iface 27 (.agg cs)] .exact) := by kernel_rfl
theorem bsA4 (a : List UInt8) (cs : List V) (c : List UInt8) (ds : List V) : buildSliceE Tryz.prog 202 4 [(0, .iface 9 (.str a)), (1, .iface 27 (.agg cs)), (2, .iface 9 (.str c)), (3, .iface 27 (.agg ds))] = some (.list (some 20) 1 [.iface 9 (.str a), .iface 27 (.agg cs), .iface 9 (.str c), .iface 27 (.agg ds)] .exact) := by kernel_rfl
set_option maxHeartbeats 8000000 in
theorem wordsF (id : Nat) {w0 w1 : List UInt8} {cs0 : List V} (hc0 : cs0.length = 7) (h0 : w0.length ≤ huge) (c1 : Prc 50 [.ptr id 0, .agg cs0] id w1) {ws : List (List UInt8)} {mv : V} (hml : isLn 1 mv) (hmll : (elems mv).length ≤ huge) (hmA : All2 (PcV id) ws (elems mv)) :
 Prc 103 [.ptr id 0, .str w0, .agg cs0, mv] id (w0 ++ w1 ++ ws.flatten) := by
 intro S s hp _ hlen
 have hmll : (elems mv).length ≤ 9223372036854775807 := hmll
 obtain ⟨U, hU, b0, ks, p0⟩ := box_ex hp cs0
 have k0 : KeepB U U id := KeepB.refl U id
 have f1 := put1F id (lt := some 9) (tk := .exact) (a := w0) h0
 simp only [List.length_append] at hlen
 refine CallTo.of (n := 40) Tryz.func103 rfl rfl ?_
 repeat' first
  | refine Opl.val (op_box rfl) rfl (Opl.cast (S' := U) ?_ hU)
  | refine Opl.val (op_load rfl (ld_pA b0 (by assumption) hc0)) rfl ?_
  | refine Opl.val (op_bsG rfl (bs1 _)) rfl ?_
  | refine Opl.callP (U0 := U) (by assumption) (by assumption) rfl (by kernel_rfl) f1 trivial (by omega) rfl (fun v S2 p2 k2 => ?_)
  | refine Opl.callP (U0 := U) (by assumption) (by assumption) rfl (by kernel_rfl) c1 trivial (by simp only [List.length_append]; omega) rfl (fun v S3 p3 k3 => ?_)
  | refine Opl.val (op_lenL rfl hml.isL rfl) rfl ?_
  | refine .std ?_ | refine .nil ?_ | refine .seq ?_ | refine .region ?_ | refine .xs ?_ | refine .kb ?_ | refine .leaf ?_ | refine .block ?_ | refine .gn ?_ | refine .dr ?_ | fail
 refine Go.weaken (E' := [(0, .ptr id 0), (19, mv), (20, .int .i64 (elems mv).length), (21, .int .i64 (0 : Nat))]) ?_ ⟨rfl, rfl, rfl, rfl, trivial⟩
 refine Go.loop_ind (α := Nat) (fun i => (elems mv).length - i) (fun i E S' => E = [(0, .ptr id 0), (19, mv), (20, .int .i64 (elems mv).length), (21, .int .i64 i)] ∧ i ≤ (elems mv).length ∧ Prz S' id (s ++ w0 ++ w1 ++ (ws.take i).flatten) ∧ KeepB U S' id) ?_ 0 _ _ ⟨rfl, Nat.zero_le _, Prn.eq (by assumption) (by simp), by assumption⟩
 rintro i E S3 ⟨rfl, hi, p3, k3⟩ IH
 repeat' first
  | refine Opl.fresh (op_int rfl rfl rfl rfl) rfl (fun q hq => ?_)
  | refine .std ?_ | refine .nil ?_ | refine .seq ?_ | refine .region ?_ | refine .xs ?_ | refine .kb ?_ | refine .leaf ?_ | refine .block ?_ | refine .gn ?_ | refine .dr ?_ | fail
 refine Go.cond rfl (fun hq => ?_) (fun hq => ?_)
 ·subst hq
  have hq : i < (elems mv).length := by have := of_decide_eq_true (by assumption : decide ((i : Int) < ((elems mv).length : Nat)) = true); omega
  obtain ⟨x, v, hx, hix, hv, hm⟩ := hmA.at hq
  have hst := flatten_step hx
  have hle := flatten_le ws (i + 1)
  rw [hst, List.length_append] at hle
  rcases hv with ⟨rfl, hxl⟩ | ⟨cs, rfl, hcl, hone, cx⟩
  ·have f3 := put1F id (lt := some 9) (tk := .exact) (a := x) hxl
   repeat' first
    | refine Opl.val (op_ixaV hml rfl rfl hix) rfl ?_
    | refine Opl.val (op_load rfl (ld_one (Pt.cptr _ _ _))) rfl ?_
    | refine Opl.val (op_asT rfl (as1 _)) rfl ?_
    | refine Opl.val (op_bsG rfl (bs1 _)) rfl ?_
    | refine Opl.callP (U0 := U) p3 k3 rfl (by kernel_rfl) f3 trivial (by simp only [List.length_append]; omega) rfl (fun v S5 p5 k5 => ?_)
    | refine Opl.val (op_int rfl rfl rfl (inc_ok (i := i) (by omega))) rfl ?_
    | refine Go.condT rfl ?_
    | refine Go.condF rfl ?_
    | refine .std ?_ | refine .nil ?_ | refine .seq ?_ | refine .region ?_ | refine .xs ?_ | refine .kb ?_ | refine .leaf ?_ | refine .block ?_ | refine .gn ?_ | refine .dr ?_ | fail
   exact (IH (i + 1) _ _ (by omega) ⟨rfl, by omega, Prn.eq p5 (by rw [hst]; simp only [List.append_assoc]), k5⟩).weaken ⟨rfl, rfl, rfl, rfl, trivial⟩
  ·obtain ⟨W, st1, b1, k4⟩ := lay (P := Tryz.prog) (T := 27) [.int .i64 0, .int .i64 0, .str [], .str [], .nils, .nils, .nils] S3 hcl hone
   have hne1 : S3.next ≠ id := by have := p3.lt; omega
   have b2 := Bp.of b1 hne1
   have kW : KeepB W W id := KeepB.refl W id
   have pW := p3.same k4
   have kUW : KeepB U W id := k3.then k4
   repeat' first
    | refine Opl.val (op_ixaV hml rfl rfl hix) rfl ?_
    | refine Opl.val (op_load rfl (ld_one (Pt.cptr _ _ _))) rfl ?_
    | refine Opl.val (op_asT rfl (as2 _)) rfl ?_
    | refine Opl.val (op_asT rfl (as3 _)) rfl ?_
    | refine Opl.val op_alloc rfl ?_
    | refine Opl.eff (op_store rfl rfl st1) ?_
    | refine Opl.val (op_load rfl (ld_pA b2 (by assumption) hcl)) rfl ?_
    | refine Opl.callP (U0 := W) pW kW rfl (by kernel_rfl) cx trivial (by simp only [List.length_append]; omega) rfl (fun v S5 p5 k5 => ?_)
    | refine Opl.val (op_int rfl rfl rfl (inc_ok (i := i) (by omega))) rfl ?_
    | refine Go.condT rfl ?_
    | refine Go.condF rfl ?_
    | refine .std ?_ | refine .nil ?_ | refine .seq ?_ | refine .region ?_ | refine .xs ?_ | refine .kb ?_ | refine .leaf ?_ | refine .block ?_ | refine .gn ?_ | refine .dr ?_ | fail
   exact (IH (i + 1) _ _ (by omega) ⟨rfl, by omega, Prn.eq p5 (by rw [hst]; simp only [List.append_assoc]), kUW.trans k5⟩).weaken ⟨rfl, rfl, rfl, rfl, trivial⟩
 ·subst hq
  have hq : (elems mv).length ≤ i := by have := of_decide_eq_false (by assumption : decide ((i : Int) < ((elems mv).length : Nat)) = false); omega
  have hnil : ws.take i = ws := List.take_of_length_le (by rw [hmA.1]; omega)
  rw [hnil] at p3
  repeat' first | refine .std ?_ | refine .nil ?_ | refine .seq ?_ | refine .region ?_ | refine .xs ?_ | refine .kb ?_ | refine .leaf ?_ | refine .block ?_ | refine .gn ?_ | refine .dr ?_ | fail
  exact At.fn rfl rfl rfl ⟨Prn.eq p3 (by simp only [List.append_assoc]), ks.trans k3⟩
end Go.Proofs.YtodiioeddlmjhaaGreatDoor
