import Derived.Test.YtodiioeddlmjhaaGreatDoorV4
import Derived.Test.YtodiioeddlmjhaaGreatDoorU3
set_option linter.unusedVariables false
set_option linter.unusedSimpArgs false
namespace Go.Proofs.YtodiioeddlmjhaaGreatDoor
open Go.RowKit Go.Ev
set_option maxRecDepth 100000
set_option linter.unusedVariables false
set_option linter.unusedSimpArgs false
attribute [local irreducible] Go.Ev.opE
set_option maxHeartbeats 4000000 in
theorem clausesF (id : Nat) {l : List Ar} {av : V} (ha : isLn 9 av) (hal : (elems av).length ≤ huge) (hA : All2 ArV l (elems av)) (hf : ∀ a ∈ l, ArF a) (hrec : ∀ a ∈ l, ∀ cs, ExC a.body cs → Prc 50 [.ptr id 0, .agg cs] id (textE a.body)) :
 Prc 173 [.ptr id 0, av] id (brW (l.map Ar.text)) := by
 intro S s hp _ hlen
 obtain ⟨U1, U, hU1, hU, x1, x2, s0⟩ := box2 S 81 25 [.ptr id 0] [av]
 have hid := hp.lt
 have hn1 : U1.next = S.next + 1 := by rw [hU1]; rfl
 have b1 := Bp.of (c := id) x1 (by omega)
 have b2 := Bp.of (c := id) x2 (by omega)
 have ks : KeepB S U id := s0.keepB id
 have p0 : Prz U id s := hp.same s0
 have k0 : KeepB U U id := KeepB.refl U id
 have hlw : (l.map Ar.text).length = (elems av).length := by rw [List.length_map]; exact hA.1
 have cb := bracesF id (ws := l.map Ar.text) (by rw [hlw]; exact hal) (g := 206) (caps := [.ptr S.next 0, .ptr U1.next 0]) (by kernel_rfl) (I := Kpb U id) (fun A B h k => KeepB.trans h k)
  (fun i w hw => by
   rw [List.getElem?_map] at hw
   obtain ⟨a, hx, rfl⟩ := Option.map_eq_some_iff.1 hw
   have hm := List.mem_of_getElem? hx
   exact clauseF id ha hA b1 b2 hx (hf a hm) (hrec a hm))
 rw [hlw] at cb
 refine CallTo.of (n := 9) Tryz.func173 rfl rfl ?_
 repeat' first
  | refine Opl.val (op_box rfl) rfl (Opl.cast (S' := U1) ?_ hU1)
  | refine Opl.val (op_box rfl) rfl (Opl.cast (S' := U) ?_ (by rw [ha.cells]; exact hU))
  | refine Opl.val (op_load rfl (ld_p1 b1 (by assumption))) rfl ?_
  | refine Opl.val (op_load rfl (ld_p1 b2 (by assumption))) rfl ?_
  | refine Opl.val (op_lenL rfl ha.isL rfl) rfl ?_
  | refine Opl.callP (U0 := U) (by assumption) (by assumption) rfl (by kernel_rfl) cb (by assumption) hlen rfl (fun v S3 p3 k3 => ?_)
  | exact At.fn rfl rfl rfl ⟨by assumption, ks.trans (by assumption)⟩
  | refine .std ?_ | refine .nil ?_ | refine .seq ?_ | refine .region ?_ | refine .xs ?_ | refine .kb ?_ | refine .leaf ?_ | refine .block ?_ | refine .gn ?_ | refine .dr ?_ | fail
set_option maxHeartbeats 4000000 in
theorem itemF (id : Nat) {e : Ex} {nv lv av : V} (hl : isLn 7 lv) (hL : All2 ExV e.l (elems lv)) (hrec : Rec id e) {U : St} {j1 j2 : Nat} (b1 : Bp U id j1 81 [.ptr id 0]) (b2 : Bp U id j2 27 [.int .i64 e.kind, .int .i64 e.n, .str e.s, .str e.t, nv, lv, av])
 {i : Nat} {x : Ex} (hx : e.l[i]? = some x) : Pri 172 [.int .i64 (i : Nat), .ptr j1 0, .ptr j2 0] id (fun S => KeepB U S id) (textE x) := by
 intro S s hp k0 hlen
 have hq : i < (elems lv).length := by rw [← hL.1]; exact (List.getElem?_eq_some_iff.1 hx).1
 obtain ⟨x', v, hx', hix, hv, hm⟩ := hL.at hq
 obtain rfl : x' = x := by rw [hx] at hx'; exact (Option.some.inj hx').symm
 have c1 := hrec x' (mem_l hm) _ hv
 have hvl := hv.len7
 refine CallTo.of (n := 11) Tryz.func172 rfl rfl ?_
 repeat' first
  | refine Opl.val (op_load rfl (ld_p1 b1 (by assumption))) rfl ?_
  | refine Opl.val (op_load rfl (ld_p b2 (by assumption) _ rfl)) rfl ?_
  | refine Opl.val (op_ixaV hl rfl rfl hix) rfl ?_
  | refine Opl.val (op_load rfl (ld_agg (Pt.cptr _ _ _) hvl)) rfl ?_
  | refine Opl.callP (U0 := S) hp (KeepB.refl S id) rfl (by kernel_rfl) c1 trivial hlen rfl (fun v S3 p3 k3 => ?_)
  | exact At.fn rfl rfl rfl ⟨by assumption, by assumption⟩
  | refine .std ?_ | refine .nil ?_ | refine .seq ?_ | refine .region ?_ | refine .xs ?_ | refine .kb ?_ | refine .leaf ?_ | refine .block ?_ | refine .gn ?_ | refine .dr ?_ | fail
set_option maxHeartbeats 16000000 in
theorem atomsT (id : Nat) {e : Ex} {cs : List V} (he : ExC e cs) (hf : ExF e) (hrec : Rec id e) (hk : e.kind = 0 ∨ e.kind = 1 ∨ e.kind = 2 ∨ e.kind = 3 ∨ e.kind = 10 ∨ e.kind = 11 ∨ e.kind = 14 ∨ e.kind = 15) : Prv 101 [.ptr id 0, .agg cs] id (.bool true) (textE e) := by
 obtain ⟨nv, lv, av, rfl, hk64, hn64, hs, ht, ⟨hnl, hnll, hnA⟩, hl, hll, ha, hal, hL, hA⟩ := he.inv
 intro S s hp hlen
 rw [textE_eq] at hlen ⊢
 obtain ⟨U1, U, hU1, hU, b1, b2, ks, p0⟩ := box_arm (e := e) hp [.int .i64 e.kind, .int .i64 e.n, .str e.s, .str e.t, nv, lv, av]
 have k0 : KeepB U U id := KeepB.refl U id
 have hd := digI_len (n := e.n) hf.n.1 hf.n.2
 have hdh : (digI e.n).length ≤ huge := by show _ ≤ 9223372036854775807; omega
 have f0 := itoaF (n := e.n) hf.n.1 hf.n.2
 have f1 := put1F id (lt := some 9) (tk := .exact) (a := e.s) hs
 have cc := clausesF id ha hal hA hf.ar (fun a h => hrec _ (mem_arm h))
 have hlw : (e.l.map textE).length = (elems lv).length := by rw [List.length_map]; exact hL.1
 have e1 : e.l.length = (elems lv).length := hL.1
 refine CallTo.of (n := 121) Tryz.func101 rfl rfl ?_
 rcases hk with h | h | h | h | h | h | h | h
 ·rw [h] at hU b2 hlen ⊢
  rw [nw0] at hlen ⊢
  repeat' first
   | refine Opl.val (op_box rfl) rfl (Opl.cast (S' := U1) ?_ hU1)
   | refine Opl.val (op_box rfl) rfl (Opl.cast (S' := U) ?_ hU)
   | refine Opl.val (op_load rfl (ld_p b2 (by assumption) _ rfl)) rfl ?_
   | refine Opl.val (op_load rfl (ld_p1 b1 (by assumption))) rfl ?_
   | refine Opl.val (op_bsG rfl (bs1 _)) rfl ?_
   | refine Opl.callP (U0 := U) (by assumption) (by assumption) rfl (by kernel_rfl) f1 trivial hlen rfl (fun v S2 p2 k2 => ?_)
   | refine Go.condT rfl ?_
   | refine Go.condF rfl ?_
   | exact At.fnr rfl rfl rfl ⟨rfl, by assumption, ks.trans (by assumption)⟩
   | refine .std ?_ | refine .nil ?_ | refine .seq ?_ | refine .region ?_ | refine .xs ?_ | refine .kb ?_ | refine .leaf ?_ | refine .block ?_ | refine .gn ?_ | refine .dr ?_ | fail
 ·rw [h] at hU b2 hlen ⊢
  rw [nw1] at hlen ⊢
  have f2 := put3F id (lt := some 9) (tk := .exact) (a := [40]) (b := digI e.n) (c := [41]) (by decide) hdh (by decide)
  have f3 := put1F id (lt := some 9) (tk := .exact) (a := digI e.n) hdh
  by_cases hn0 : e.n < 0
  ·rw [if_pos hn0] at hlen ⊢
   repeat' first
    | refine Opl.val (op_box rfl) rfl (Opl.cast (S' := U1) ?_ hU1)
    | refine Opl.val (op_box rfl) rfl (Opl.cast (S' := U) ?_ hU)
    | refine Opl.val (op_load rfl (ld_p b2 (by assumption) _ rfl)) rfl ?_
    | refine Opl.val (op_int rfl rfl rfl (lss_i (q := true) (decide_eq_true hn0))) rfl ?_
    | refine Go.condT rfl ?_
    | refine Go.condF rfl ?_
    | refine Go.draw [0, 0, 2, 6, 14, 31] [1, 2, 3, 0, 4, 5] (by kernel_rfl) (Kpb U id) ?_
    | refine Drw.c0 rfl rfl (op_fld rfl rfl) rfl ?_
    | refine Drw.c0 rfl rfl (op_bsG rfl (bs3 _ _ _)) rfl ?_
    | refine Drw.c2g rfl rfl (by assumption) (by assumption) (fun U hU => op_load rfl (ld_p b2 hU _ rfl)) rfl ?_
    | refine Drw.c2g rfl rfl (by assumption) (by assumption) (fun U hU => op_load rfl (ld_p1 b1 hU)) rfl ?_
    | refine Drw.callU (U0 := U) (by assumption) (by assumption) rfl rfl (by kernel_rfl) f0 rfl (fun S8 p8 k8 => ?_)
    | refine Drw.callP (U0 := U) (by assumption) (by assumption) rfl rfl (by kernel_rfl) f2 trivial hlen rfl (fun v S9 p9 k9 => ?_)
    | refine Drw.nil ?_
    | exact At.fnr rfl rfl rfl ⟨rfl, by assumption, ks.trans (by assumption)⟩
    | refine .std ?_ | refine .nil ?_ | refine .seq ?_ | refine .region ?_ | refine .xs ?_ | refine .kb ?_ | refine .leaf ?_ | refine .block ?_ | refine .gn ?_ | refine .dr ?_ | fail
  ·rw [if_neg hn0] at hlen ⊢
   repeat' first
    | refine Opl.val (op_box rfl) rfl (Opl.cast (S' := U1) ?_ hU1)
    | refine Opl.val (op_box rfl) rfl (Opl.cast (S' := U) ?_ hU)
    | refine Opl.val (op_load rfl (ld_p b2 (by assumption) _ rfl)) rfl ?_
    | refine Opl.val (op_int rfl rfl rfl (lss_i (q := false) (decide_eq_false hn0))) rfl ?_
    | refine Go.condT rfl ?_
    | refine Go.condF rfl ?_
    | refine Go.draw [0, 0, 2, 6, 14, 31] [1, 2, 3, 0, 4, 5] (by kernel_rfl) (Kpb U id) ?_
    | refine Drw.c0 rfl rfl (op_fld rfl rfl) rfl ?_
    | refine Drw.c0 rfl rfl (op_bsG rfl (bs1 _)) rfl ?_
    | refine Drw.c2g rfl rfl (by assumption) (by assumption) (fun U hU => op_load rfl (ld_p b2 hU _ rfl)) rfl ?_
    | refine Drw.c2g rfl rfl (by assumption) (by assumption) (fun U hU => op_load rfl (ld_p1 b1 hU)) rfl ?_
    | refine Drw.callU (U0 := U) (by assumption) (by assumption) rfl rfl (by kernel_rfl) f0 rfl (fun S8 p8 k8 => ?_)
    | refine Drw.callP (U0 := U) (by assumption) (by assumption) rfl rfl (by kernel_rfl) f3 trivial hlen rfl (fun v S9 p9 k9 => ?_)
    | refine Drw.nil ?_
    | exact At.fnr rfl rfl rfl ⟨rfl, by assumption, ks.trans (by assumption)⟩
    | refine .std ?_ | refine .nil ?_ | refine .seq ?_ | refine .region ?_ | refine .xs ?_ | refine .kb ?_ | refine .leaf ?_ | refine .block ?_ | refine .gn ?_ | refine .dr ?_ | fail
 ·rw [h] at hU b2 hlen ⊢
  rw [nw2] at hlen ⊢
  obtain ⟨q, hq⟩ : ∃ q, decide (e.n = 1) = q := ⟨_, rfl⟩
  have i1 : (e.n = 1) ↔ q = true := by rw [← hq]; simp
  simp only [i1] at hlen ⊢
  have fb := fmtBoolF q
  have f3 := put1F id (lt := some 9) (tk := .exact) (a := if q = true then [116, 114, 117, 101] else [102, 97, 108, 115, 101]) (by cases q <;> decide)
  repeat' first
   | refine Opl.val (op_box rfl) rfl (Opl.cast (S' := U1) ?_ hU1)
   | refine Opl.val (op_box rfl) rfl (Opl.cast (S' := U) ?_ hU)
   | refine Opl.val (op_load rfl (ld_p b2 (by assumption) _ rfl)) rfl ?_
   | refine Go.condT rfl ?_
   | refine Go.condF rfl ?_
   | refine Go.draw [0, 0, 2, 6, 14, 30, 63] [1, 2, 3, 4, 0, 5, 6] (by kernel_rfl) (Kpb U id) ?_
   | refine Drw.c0 rfl rfl (op_fld rfl rfl) rfl ?_
   | refine Drw.c0 rfl rfl (op_int rfl rfl rfl (eql_i hq)) rfl ?_
   | refine Drw.c0 rfl rfl (op_bsG rfl (bs1 _)) rfl ?_
   | refine Drw.c2g rfl rfl (by assumption) (by assumption) (fun U hU => op_load rfl (ld_p b2 hU _ rfl)) rfl ?_
   | refine Drw.c2g rfl rfl (by assumption) (by assumption) (fun U hU => op_load rfl (ld_p1 b1 hU)) rfl ?_
   | refine Drw.callU (U0 := U) (by assumption) (by assumption) rfl rfl (by kernel_rfl) fb rfl (fun S8 p8 k8 => ?_)
   | refine Drw.callP (U0 := U) (by assumption) (by assumption) rfl rfl (by kernel_rfl) f3 trivial hlen rfl (fun v S9 p9 k9 => ?_)
   | refine Drw.nil ?_
   | exact At.fnr rfl rfl rfl ⟨rfl, by assumption, ks.trans (by assumption)⟩
   | refine .std ?_ | refine .nil ?_ | refine .seq ?_ | refine .region ?_ | refine .xs ?_ | refine .kb ?_ | refine .leaf ?_ | refine .block ?_ | refine .gn ?_ | refine .dr ?_ | fail
 ·rw [h] at hU b2 hlen ⊢
  rw [nw3] at hlen ⊢
  have f3 := put1F id (lt := some 9) (tk := .exact) (a := [40, 41]) (by decide)
  repeat' first
   | refine Opl.val (op_box rfl) rfl (Opl.cast (S' := U1) ?_ hU1)
   | refine Opl.val (op_box rfl) rfl (Opl.cast (S' := U) ?_ hU)
   | refine Opl.val (op_load rfl (ld_p b2 (by assumption) _ rfl)) rfl ?_
   | refine Opl.val (op_load rfl (ld_p1 b1 (by assumption))) rfl ?_
   | refine Opl.val (op_bsG rfl (bs1 _)) rfl ?_
   | refine Opl.callP (U0 := U) (by assumption) (by assumption) rfl (by kernel_rfl) f3 trivial hlen rfl (fun v S2 p2 k2 => ?_)
   | refine Go.condT rfl ?_
   | refine Go.condF rfl ?_
   | exact At.fnr rfl rfl rfl ⟨rfl, by assumption, ks.trans (by assumption)⟩
   | refine .std ?_ | refine .nil ?_ | refine .seq ?_ | refine .region ?_ | refine .xs ?_ | refine .kb ?_ | refine .leaf ?_ | refine .block ?_ | refine .gn ?_ | refine .dr ?_ | fail
 ·rw [h] at hU b2 hlen ⊢
  rw [nw10] at hlen ⊢
  have hmm : (e.l.map partW).map Prod.snd = e.l.map textE := by rw [List.map_map]; rfl
  rw [hmm, List.length_map] at hlen ⊢
  have cl := listF id (by_ := [44, 32]) (by decide) (ws := e.l.map textE) (by rw [hlw]; exact hll) (g := 172) (caps := [.ptr S.next 0, .ptr U1.next 0]) (by kernel_rfl) (I := Kpb U id) (fun A B h k => KeepB.trans h k)
   (fun i w hw => by
    rw [List.getElem?_map] at hw
    obtain ⟨x, hx, rfl⟩ := Option.map_eq_some_iff.1 hw
    have b2' : Bp U id U1.next 27 [.int .i64 e.kind, .int .i64 e.n, .str e.s, .str e.t, nv, lv, av] := by rw [h]; exact b2
    exact itemF id hl hL hrec b1 b2' hx)
  rw [hlw] at cl
  generalize joinW [44, 32] (e.l.map textE) = J at cl hlen ⊢
  have f2 := put1F id (lt := some 9) (tk := .exact) (a := [91]) (by decide)
  have f3 := put1F id (lt := some 9) (tk := .exact) (a := [93]) (by decide)
  obtain ⟨q, hq⟩ : ∃ q, decide (((elems lv).length : Int) > 0) = q := ⟨_, rfl⟩
  have i1 : (e.l.length > 0) ↔ q = true := by rw [← hq, e1]; simp
  simp only [i1] at hlen ⊢
  repeat' first
   | refine Opl.val (op_box rfl) rfl (Opl.cast (S' := U1) ?_ hU1)
   | refine Opl.val (op_box rfl) rfl (Opl.cast (S' := U) ?_ hU)
   | refine Opl.val (op_load rfl (ld_p b2 (by assumption) _ rfl)) rfl ?_
   | refine Opl.val (op_load rfl (ld_p1 b1 (by assumption))) rfl ?_
   | refine Opl.val (op_lenL rfl hl.isL rfl) rfl ?_
   | refine Opl.val (op_int rfl rfl rfl (gtr_i hq)) rfl ?_
   | refine Opl.val (op_bsG rfl (bs1 _)) rfl ?_
   | refine Opl.callP (U0 := U) (by assumption) (by assumption) rfl (by kernel_rfl) f1 trivial (by simp at hlen ⊢; omega) rfl (fun v S2 p2 k2 => ?_)
   | refine Opl.callP (U0 := U) (by assumption) (by assumption) rfl (by kernel_rfl) f2 trivial (by simp at hlen ⊢; omega) rfl (fun v S3 p3 k3 => ?_)
   | refine Opl.callP (U0 := U) (by assumption) (by assumption) rfl (by kernel_rfl) cl (by assumption) (by simp at hlen ⊢; omega) rfl (fun v S4 p4 k4 => ?_)
   | refine Opl.callP (U0 := U) (by assumption) (by assumption) rfl (by kernel_rfl) f3 trivial (by simp at hlen ⊢; omega) rfl (fun v S5 p5 k5 => ?_)
   | refine Go.condT rfl ?_
   | refine Go.condF rfl ?_
   | (refine Go.condV rfl (fun hq => ?_) (fun hq => ?_) <;> subst hq)
   | exact At.fnr rfl rfl rfl ⟨rfl, Prn.eq (by assumption) (by simp), ks.trans (by assumption)⟩
   | refine .std ?_ | refine .nil ?_ | refine .seq ?_ | refine .region ?_ | refine .xs ?_ | refine .kb ?_ | refine .leaf ?_ | refine .block ?_ | refine .gn ?_ | refine .dr ?_ | fail
 ·rw [h] at hU b2 hlen ⊢
  rw [nw11] at hlen ⊢
  have hl1 : 1 ≤ e.l.length := by
   obtain ⟨x, hx, _, _, _, _, _, _, h3, _⟩ := hf.shape
   rw [h] at hx
   have := Option.some.inj hx
   subst this; exact h3
  obtain ⟨x, v, hx, hix, hv, hm⟩ := hL.at (i := 0) (by omega)
  have cx := hrec x (mem_l hm) _ hv
  have hvl := hv.len7
  rw [ptW_at hx, show (partW x).2 = textE x from rfl] at hlen ⊢
  have f2 := put1F id (lt := some 9) (tk := .exact) (a := [109, 97, 116, 99, 104, 32]) (by decide)
  have f3 := put1F id (lt := some 9) (tk := .exact) (a := [32]) (by decide)
  simp only [List.length_append, List.length_cons, List.length_nil] at hlen
  repeat' first
   | refine Opl.val (op_box rfl) rfl (Opl.cast (S' := U1) ?_ hU1)
   | refine Opl.val (op_box rfl) rfl (Opl.cast (S' := U) ?_ hU)
   | refine Opl.val (op_load rfl (ld_p b2 (by assumption) _ rfl)) rfl ?_
   | refine Opl.val (op_load rfl (ld_p1 b1 (by assumption))) rfl ?_
   | refine Opl.val (op_ixaV (i := 0) hl rfl rfl hix) rfl ?_
   | refine Opl.val (op_load rfl (ld_agg (Pt.cptr _ _ _) hvl)) rfl ?_
   | refine Opl.val (op_bsG rfl (bs1 _)) rfl ?_
   | refine Opl.callP (U0 := U) (by assumption) (by assumption) rfl (by kernel_rfl) f2 trivial (by (try simp only [List.length_append, List.length_cons, List.length_nil]); omega) rfl (fun v S2 p2 k2 => ?_)
   | refine Opl.callP (U0 := U) (by assumption) (by assumption) rfl (by kernel_rfl) cx trivial (by (try simp only [List.length_append, List.length_cons, List.length_nil]); omega) rfl (fun v S3 p3 k3 => ?_)
   | refine Opl.callP (U0 := U) (by assumption) (by assumption) rfl (by kernel_rfl) f3 trivial (by (try simp only [List.length_append, List.length_cons, List.length_nil]); omega) rfl (fun v S4 p4 k4 => ?_)
   | refine Opl.callP (U0 := U) (by assumption) (by assumption) rfl (by kernel_rfl) cc trivial (by (try simp only [List.length_append, List.length_cons, List.length_nil]); omega) rfl (fun v S5 p5 k5 => ?_)
   | refine Go.condT rfl ?_
   | refine Go.condF rfl ?_
   | exact At.fnr rfl rfl rfl ⟨rfl, Prn.eq (by assumption) (by simp only [List.append_assoc]), ks.trans (by assumption)⟩
   | refine .std ?_ | refine .nil ?_ | refine .seq ?_ | refine .region ?_ | refine .xs ?_ | refine .kb ?_ | refine .leaf ?_ | refine .block ?_ | refine .gn ?_ | refine .dr ?_ | fail
 ·rw [h] at hU b2 hlen ⊢
  rw [nw14] at hlen ⊢
  have hl1 : 1 ≤ e.l.length := by
   obtain ⟨x, hx, _, _, _, _, _, _, h3, _⟩ := hf.shape
   rw [h] at hx
   have := Option.some.inj hx
   subst this; exact h3
  obtain ⟨x, v, hx, hix, hv, hm⟩ := hL.at (i := 0) (by omega)
  have cx := hrec x (mem_l hm) _ hv
  have hvl := hv.len7
  rw [ptW_at hx, show (partW x).2 = textE x from rfl] at hlen ⊢
  have f4 := put1F id (lt := some 9) (tk := .exact) (a := [32]) (by decide)
  by_cases hn1 : e.n = 1
  ·rw [if_pos hn1] at hlen ⊢
   have f2 := put3F id (lt := some 9) (tk := .exact) (a := [115, 104, 97, 108, 108, 111, 119, 32]) (b := e.s) (c := [32]) (by decide) hs (by decide)
   simp only [List.length_append, List.length_cons, List.length_nil] at hlen
   repeat' first
    | refine Opl.val (op_box rfl) rfl (Opl.cast (S' := U1) ?_ hU1)
    | refine Opl.val (op_box rfl) rfl (Opl.cast (S' := U) ?_ hU)
    | refine Opl.val (op_load rfl (ld_p b2 (by assumption) _ rfl)) rfl ?_
    | refine Opl.val (op_load rfl (ld_p1 b1 (by assumption))) rfl ?_
    | refine Opl.val (op_int rfl rfl rfl (eql_i (q := true) (decide_eq_true hn1))) rfl ?_
    | refine Opl.val (op_ixaV (i := 0) hl rfl rfl hix) rfl ?_
    | refine Opl.val (op_load rfl (ld_agg (Pt.cptr _ _ _) hvl)) rfl ?_
    | refine Opl.val (op_bsG rfl (bs1 _)) rfl ?_
    | refine Opl.val (op_bsG rfl (bs3 _ _ _)) rfl ?_
    | refine Opl.callP (U0 := U) (by assumption) (by assumption) rfl (by kernel_rfl) f2 trivial (by (try simp only [List.length_append, List.length_cons, List.length_nil]); omega) rfl (fun v S2 p2 k2 => ?_)
    | refine Opl.callP (U0 := U) (by assumption) (by assumption) rfl (by kernel_rfl) cx trivial (by (try simp only [List.length_append, List.length_cons, List.length_nil]); omega) rfl (fun v S3 p3 k3 => ?_)
    | refine Opl.callP (U0 := U) (by assumption) (by assumption) rfl (by kernel_rfl) f4 trivial (by (try simp only [List.length_append, List.length_cons, List.length_nil]); omega) rfl (fun v S4 p4 k4 => ?_)
    | refine Opl.callP (U0 := U) (by assumption) (by assumption) rfl (by kernel_rfl) cc trivial (by (try simp only [List.length_append, List.length_cons, List.length_nil]); omega) rfl (fun v S5 p5 k5 => ?_)
    | refine Go.condT rfl ?_
    | refine Go.condF rfl ?_
    | exact At.fnr rfl rfl rfl ⟨rfl, Prn.eq (by assumption) (by simp only [List.append_assoc]), ks.trans (by assumption)⟩
    | refine .std ?_ | refine .nil ?_ | refine .seq ?_ | refine .region ?_ | refine .xs ?_ | refine .kb ?_ | refine .leaf ?_ | refine .block ?_ | refine .gn ?_ | refine .dr ?_ | fail
  ·rw [if_neg hn1] at hlen ⊢
   have f2 := put3F id (lt := some 9) (tk := .exact) (a := [104, 97, 110, 100, 108, 101, 32]) (b := e.s) (c := [32]) (by decide) hs (by decide)
   simp only [List.length_append, List.length_cons, List.length_nil] at hlen
   repeat' first
    | refine Opl.val (op_box rfl) rfl (Opl.cast (S' := U1) ?_ hU1)
    | refine Opl.val (op_box rfl) rfl (Opl.cast (S' := U) ?_ hU)
    | refine Opl.val (op_load rfl (ld_p b2 (by assumption) _ rfl)) rfl ?_
    | refine Opl.val (op_load rfl (ld_p1 b1 (by assumption))) rfl ?_
    | refine Opl.val (op_int rfl rfl rfl (eql_i (q := false) (decide_eq_false hn1))) rfl ?_
    | refine Opl.val (op_ixaV (i := 0) hl rfl rfl hix) rfl ?_
    | refine Opl.val (op_load rfl (ld_agg (Pt.cptr _ _ _) hvl)) rfl ?_
    | refine Opl.val (op_bsG rfl (bs1 _)) rfl ?_
    | refine Opl.val (op_bsG rfl (bs3 _ _ _)) rfl ?_
    | refine Opl.callP (U0 := U) (by assumption) (by assumption) rfl (by kernel_rfl) f2 trivial (by (try simp only [List.length_append, List.length_cons, List.length_nil]); omega) rfl (fun v S2 p2 k2 => ?_)
    | refine Opl.callP (U0 := U) (by assumption) (by assumption) rfl (by kernel_rfl) cx trivial (by (try simp only [List.length_append, List.length_cons, List.length_nil]); omega) rfl (fun v S3 p3 k3 => ?_)
    | refine Opl.callP (U0 := U) (by assumption) (by assumption) rfl (by kernel_rfl) f4 trivial (by (try simp only [List.length_append, List.length_cons, List.length_nil]); omega) rfl (fun v S4 p4 k4 => ?_)
    | refine Opl.callP (U0 := U) (by assumption) (by assumption) rfl (by kernel_rfl) cc trivial (by (try simp only [List.length_append, List.length_cons, List.length_nil]); omega) rfl (fun v S5 p5 k5 => ?_)
    | refine Go.condT rfl ?_
    | refine Go.condF rfl ?_
    | exact At.fnr rfl rfl rfl ⟨rfl, Prn.eq (by assumption) (by simp only [List.append_assoc]), ks.trans (by assumption)⟩
    | refine .std ?_ | refine .nil ?_ | refine .seq ?_ | refine .region ?_ | refine .xs ?_ | refine .kb ?_ | refine .leaf ?_ | refine .block ?_ | refine .gn ?_ | refine .dr ?_ | fail
 ·rw [h] at hU b2 hlen ⊢
  rw [nw15] at hlen ⊢
  have hl1 : 1 ≤ e.l.length := by
   obtain ⟨x, hx, _, _, _, _, _, _, h3, _⟩ := hf.shape
   rw [h] at hx
   have := Option.some.inj hx
   subst this; exact h3
  obtain ⟨x, v, hx, hix, hv, hm⟩ := hL.at (i := 0) (by omega)
  have cx := hrec x (mem_l hm) _ hv
  have hvl := hv.len7
  rw [ptW_at hx, show (partW x).2 = textE x from rfl] at hlen ⊢
  have f4 := put1F id (lt := some 9) (tk := .exact) (a := [32]) (by decide)
  have hn1 : ¬ e.n = 1 := by
   obtain ⟨x, hx, g1, g2, _⟩ := hf.shape
   rw [h] at hx
   have := Option.some.inj hx
   subst this
   have g2 : e.n ≤ 0 := g2
   omega
  have hnn : 1 ≤ e.names.length := by
   obtain ⟨x, hx, _, _, _, _, h3, _⟩ := hf.shape
   rw [h] at hx
   have := Option.some.inj hx
   subst this; exact h3
  have en : e.names.length = (elems nv).length := hnA.1
  obtain ⟨y, u, hy, hiy, ⟨hc, hyl⟩, hmy⟩ := hnA.at (i := 0) (by omega)
  have hpt : ∀ S, Pt S (.cptr none u.cells 0) [.str y] := fun S => by rw [hc]; exact Pt.cptr _ _ _
  have hyw := (hf.nm y hmy).1
  rw [nmW_at hy] at hlen ⊢
  have f2 := put3F id (lt := some 9) (tk := .exact) (a := [110, 97, 109, 101, 100, 32] ++ y ++ [32]) (b := e.s) (c := [32]) (by simp only [List.length_append, List.length_cons, List.length_nil]; show _ ≤ 9223372036854775807; omega) hs (by decide)
  simp only [List.length_append, List.length_cons, List.length_nil] at hlen
  repeat' first
   | refine Opl.val (op_box rfl) rfl (Opl.cast (S' := U1) ?_ hU1)
   | refine Opl.val (op_box rfl) rfl (Opl.cast (S' := U) ?_ hU)
   | refine Opl.val (op_load rfl (ld_p b2 (by assumption) _ rfl)) rfl ?_
   | refine Opl.val (op_load rfl (ld_p1 b1 (by assumption))) rfl ?_
   | refine Opl.val (op_int rfl rfl rfl (eql_i (q := false) (decide_eq_false hn1))) rfl ?_
   | refine Opl.val (op_ixaV (i := 0) hnl rfl rfl hiy) rfl ?_
   | refine Opl.val (op_load rfl (ld_one (hpt _))) rfl ?_
   | refine Opl.val (op_str rfl rfl (str_add (by (try simp only [List.length_append, List.length_cons, List.length_nil]); omega))) rfl ?_
   | refine Opl.val (op_ixaV (i := 0) hl rfl rfl hix) rfl ?_
   | refine Opl.val (op_load rfl (ld_agg (Pt.cptr _ _ _) hvl)) rfl ?_
   | refine Opl.val (op_bsG rfl (bs1 _)) rfl ?_
   | refine Opl.val (op_bsG rfl (bs3 _ _ _)) rfl ?_
   | refine Opl.callP (U0 := U) (by assumption) (by assumption) rfl (by kernel_rfl) f2 trivial (by (try simp only [List.length_append, List.length_cons, List.length_nil]); omega) rfl (fun v S2 p2 k2 => ?_)
   | refine Opl.callP (U0 := U) (by assumption) (by assumption) rfl (by kernel_rfl) cx trivial (by (try simp only [List.length_append, List.length_cons, List.length_nil]); omega) rfl (fun v S3 p3 k3 => ?_)
   | refine Opl.callP (U0 := U) (by assumption) (by assumption) rfl (by kernel_rfl) f4 trivial (by (try simp only [List.length_append, List.length_cons, List.length_nil]); omega) rfl (fun v S4 p4 k4 => ?_)
   | refine Opl.callP (U0 := U) (by assumption) (by assumption) rfl (by kernel_rfl) cc trivial (by (try simp only [List.length_append, List.length_cons, List.length_nil]); omega) rfl (fun v S5 p5 k5 => ?_)
   | refine Go.condT rfl ?_
   | refine Go.condF rfl ?_
   | exact At.fnr rfl rfl rfl ⟨rfl, Prn.eq (by assumption) (by simp only [List.append_assoc]), ks.trans (by assumption)⟩
   | refine .std ?_ | refine .nil ?_ | refine .seq ?_ | refine .region ?_ | refine .xs ?_ | refine .kb ?_ | refine .leaf ?_ | refine .block ?_ | refine .gn ?_ | refine .dr ?_ | fail
end Go.Proofs.YtodiioeddlmjhaaGreatDoor
