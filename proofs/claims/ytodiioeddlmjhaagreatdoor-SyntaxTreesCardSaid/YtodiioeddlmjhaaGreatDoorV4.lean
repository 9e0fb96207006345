import Derived.Test.YtodiioeddlmjhaaGreatDoorV3
import Derived.Test.YtodiioeddlmjhaaGreatDoorU4
set_option linter.unusedVariables false
set_option linter.unusedSimpArgs false
namespace Go.Proofs.YtodiioeddlmjhaaGreatDoor
open Go.RowKit Go.Ev
set_option maxRecDepth 100000
set_option linter.unusedVariables false
set_option linter.unusedSimpArgs false
attribute [local irreducible] Go.Ev.opE
abbrev Prv (g : FuncId) (l : List V) (id : Nat) (r : V) (w : List UInt8) : Prop := PrV Tryz.prog 86 5 g l id r w
theorem bs3 (a b c : List UInt8) : buildSliceE Tryz.prog 23 3 [(0, .str a), (1, .str b), (2, .str c)] = some (.list (some 9) 1 [.str a, .str b, .str c] .exact) := by kernel_rfl
theorem bs4 (a b c d : List UInt8) : buildSliceE Tryz.prog 23 4 [(0, .str a), (1, .str b), (2, .str c), (3, .str d)] = some (.list (some 9) 1 [.str a, .str b, .str c, .str d] .exact) := by kernel_rfl
theorem put3F (id : Nat) {lt : Option TypeId} {tk : Tk} {a b c : List UInt8} (ha : a.length ≤ huge) (hb : b.length ≤ huge) (hc : c.length ≤ huge) : Prc 85 [.ptr id 0, .list lt 1 [.str a, .str b, .str c] tk] id (a ++ b ++ c) := by
 have := putF id (ws := [a, b, c]) (lv := .list lt 1 [.str a, .str b, .str c] tk) ⟨.inr (.inr ⟨_, _, _, rfl⟩), by show 3 ≤ huge; decide, All2.cons ⟨rfl, ha⟩ (All2.cons ⟨rfl, hb⟩ (All2.cons ⟨rfl, hc⟩ (All2.nil _)))⟩
 simpa using this
theorem put4F (id : Nat) {lt : Option TypeId} {tk : Tk} {a b c d : List UInt8} (ha : a.length ≤ huge) (hb : b.length ≤ huge) (hc : c.length ≤ huge) (hd : d.length ≤ huge) : Prc 85 [.ptr id 0, .list lt 1 [.str a, .str b, .str c, .str d] tk] id (a ++ b ++ c ++ d) := by
 have := putF id (ws := [a, b, c, d]) (lv := .list lt 1 [.str a, .str b, .str c, .str d] tk) ⟨.inr (.inr ⟨_, _, _, rfl⟩), by show 4 ≤ huge; decide, All2.cons ⟨rfl, ha⟩ (All2.cons ⟨rfl, hb⟩ (All2.cons ⟨rfl, hc⟩ (All2.cons ⟨rfl, hd⟩ (All2.nil _))))⟩
 simpa using this
set_option maxHeartbeats 4000000 in
theorem atF (id : Nat) {e : Ex} {cs : List V} (he : ExC e cs) (h0 : 0 ≤ e.kind) (h1 : e.kind ≤ 19) (least : Int) (c1 : Prc 50 [.ptr id 0, .agg cs] id (textE e)) : Prc 106 [.ptr id 0, .agg cs, .int .i64 least] id ((partW e).at least) := by
 intro S s hp _ hlen
 obtain ⟨U, hU, bx, s0⟩ := box1 S 27 cs
 have hne : S.next ≠ id := by have := hp.lt; omega
 have b0 := Bp.of bx hne
 have ks : KeepB S U id := s0.keepB id
 have p0 : Prz U id s := hp.same s0
 have k0 : KeepB U U id := KeepB.refl U id
 have cv := levelF he h0 h1
 obtain ⟨q, hq⟩ : ∃ q, decide (levE e.kind e.s ≥ least) = q := ⟨_, rfl⟩
 have hspec : (partW e).at least = if q then textE e else [40] ++ textE e ++ [41] := by
  have i1 : (levE e.kind e.s ≥ least) ↔ q = true := by rw [← hq]; simp
  unfold Pw.at partW
  simp only [i1]
 rw [hspec] at hlen ⊢
 have co := put1F id (lt := some 9) (tk := .exact) (a := [40]) (by decide)
 have cc := put1F id (lt := some 9) (tk := .exact) (a := [41]) (by decide)
 refine CallTo.of (n := 22) Tryz.func106 rfl rfl ?_
 repeat' first
  | refine Opl.val (op_box rfl) rfl (Opl.cast (S' := U) ?_ hU)
  | refine Opl.val (op_load rfl (ld_pA b0 (by assumption) he.len7)) rfl ?_
  | refine Opl.callU (U0 := U) (by assumption) (by assumption) rfl (by kernel_rfl) cv rfl (fun S8 p8 k8 => ?_)
  | refine Opl.val (op_int rfl rfl rfl (geq_i hq)) rfl ?_
  | refine Opl.val (op_bsG rfl (bs1 _)) rfl ?_
  | refine Opl.callP (U0 := U) (by assumption) (by assumption) rfl (by kernel_rfl) co trivial (by simp at hlen ⊢; omega) rfl (fun v S2 p2 k2 => ?_)
  | refine Opl.callP (U0 := U) (by assumption) (by assumption) rfl (by kernel_rfl) c1 trivial (by simp at hlen ⊢; omega) rfl (fun v S3 p3 k3 => ?_)
  | refine Opl.callP (U0 := U) (by assumption) (by assumption) rfl (by kernel_rfl) cc trivial (by simp at hlen ⊢; omega) rfl (fun v S4 p4 k4 => ?_)
  | (refine Go.condV rfl (fun hq => ?_) (fun hq => ?_) <;> subst hq)
  | exact At.fnr rfl rfl rfl ⟨Prn.eq (by assumption) (by simp), ks.trans (by assumption)⟩
  | exact At.fn rfl rfl rfl ⟨Prn.eq (by assumption) (by simp), ks.trans (by assumption)⟩
  | refine .std ?_ | refine .nil ?_ | refine .seq ?_ | refine .region ?_ | refine .xs ?_ | refine .kb ?_ | refine .leaf ?_ | refine .block ?_ | refine .gn ?_ | refine .dr ?_ | fail
set_option maxHeartbeats 4000000 in
theorem bracesF (id : Nat) {ws : List (List UInt8)} (hws : ws.length ≤ huge) {g : FuncId} {caps : List V} (hb : hasBody Tryz.prog g = true) {I : St → Prop} (hI : ∀ S S', I S → KeepB S S' id → I S')
 (hf : ∀ i w, ws[i]? = some w → Pri g (.int .i64 (i : Nat) :: caps) id I w) : Pri 146 [.ptr id 0, .int .i64 (ws.length : Nat), .func g [] caps] id I (brW ws) := by
 intro S s hp hIS hlen
 have cl := listF id (by_ := [59, 32]) (by decide) hws hb hI hf
 have f1 := put1F id (lt := some 9) (tk := .exact) (a := [123, 32, 125]) (by decide)
 have f2 := put1F id (lt := some 9) (tk := .exact) (a := [123, 32]) (by decide)
 have f3 := put1F id (lt := some 9) (tk := .exact) (a := [32, 125]) (by decide)
 have k0 : KeepB S S id := KeepB.refl S id
 refine CallTo.of (n := 21) Tryz.func146 rfl rfl ?_
 by_cases h0 : ws.length = 0
 ·have hspec : brW ws = [123, 32, 125] := if_pos h0
  rw [hspec] at hlen ⊢
  repeat' first
   | refine Opl.val (op_int rfl rfl rfl (eql_i (q := true) (decide_eq_true (by omega)))) rfl ?_
   | refine Opl.val (op_bsG rfl (bs1 _)) rfl ?_
   | refine Opl.callP (U0 := S) (by assumption) (by assumption) rfl (by kernel_rfl) f1 trivial hlen rfl (fun v S2 p2 k2 => ?_)
   | refine Go.condT rfl ?_
   | exact At.fnr rfl rfl rfl ⟨by assumption, by assumption⟩
   | refine .std ?_ | refine .nil ?_ | refine .seq ?_ | refine .region ?_ | refine .xs ?_ | refine .kb ?_ | refine .leaf ?_ | refine .block ?_ | refine .gn ?_ | refine .dr ?_ | fail
 ·have hspec : brW ws = [123, 32] ++ joinW [59, 32] ws ++ [32, 125] := if_neg h0
  rw [hspec] at hlen ⊢
  simp only [List.length_append, List.length_cons, List.length_nil] at hlen
  repeat' first
   | refine Opl.val (op_int rfl rfl rfl (eql_i (q := false) (decide_eq_false (by omega)))) rfl ?_
   | refine Opl.val (op_bsG rfl (bs1 _)) rfl ?_
   | refine Opl.callP (U0 := S) (by assumption) (by assumption) rfl (by kernel_rfl) f2 trivial (by simp only [List.length_cons, List.length_nil]; omega) rfl (fun v S2 p2 k2 => ?_)
   | refine Opl.callP (U0 := S) p2 k2 rfl (by kernel_rfl) cl (hI _ _ hIS k2) (by simp only [List.length_append, List.length_cons, List.length_nil]; omega) rfl (fun v S3 p3 k3 => ?_)
   | refine Opl.callP (U0 := S) (by assumption) (by assumption) rfl (by kernel_rfl) f3 trivial (by simp only [List.length_append, List.length_cons, List.length_nil]; omega) rfl (fun v S4 p4 k4 => ?_)
   | refine Go.condF rfl ?_
   | exact At.fn rfl rfl rfl ⟨Prn.eq (by assumption) (by simp only [List.append_assoc]), by assumption⟩
   | refine .std ?_ | refine .nil ?_ | refine .seq ?_ | refine .region ?_ | refine .xs ?_ | refine .kb ?_ | refine .leaf ?_ | refine .block ?_ | refine .gn ?_ | refine .dr ?_ | fail
set_option maxHeartbeats 8000000 in
theorem clauseF (id : Nat) {l : List Ar} {av : V} (ha : isLn 9 av) (hA : All2 ArV l (elems av)) {U : St} {j1 j2 : Nat} (b1 : Bp U id j1 81 [.ptr id 0]) (b2 : Bp U id j2 25 [av])
 {i : Nat} {a : Ar} (hx : l[i]? = some a) (hf : ArF a) (hrec : ∀ cs, ExC a.body cs → Prc 50 [.ptr id 0, .agg cs] id (textE a.body)) : Pri 206 [.int .i64 (i : Nat), .ptr j1 0, .ptr j2 0] id (fun S => KeepB U S id) a.text := by
 intro S s hp k0 hlen
 have hq : i < (elems av).length := by rw [← hA.1]; exact (List.getElem?_eq_some_iff.1 hx).1
 obtain ⟨a', v, hx', hix, hv, hm⟩ := hA.at hq
 obtain rfl : a' = a := by rw [hx] at hx'; exact (Option.some.inj hx').symm
 obtain ⟨nv, cs, hcv, ho, hn, hbd⟩ := hv
 have hpt : ∀ S, Pt S (.cptr none v.cells 0) (.str a'.op :: nv :: cs) := fun S => by rw [hcv]; exact Pt.cptr _ _ _
 have c1 := hrec cs hbd
 obtain ⟨hnl, hnll, hnA⟩ := hn
 have hnll : (elems nv).length ≤ 9223372036854775807 := hnll
 have f1 := put1F id (lt := some 9) (tk := .exact) (a := a'.op) ho
 have f2 := put1F id (lt := some 9) (tk := .exact) (a := [32, 45, 62, 32]) (by decide)
 have hspec : a'.text = a'.op ++ a'.names.flatMap (fun s => [32] ++ s) ++ [32, 45, 62, 32] ++ textE a'.body := rfl
 rw [hspec] at hlen ⊢
 simp only [List.length_append, List.length_cons, List.length_nil] at hlen
 refine CallTo.of (n := 39) Tryz.func206 rfl rfl ?_
 repeat' first
  | refine Opl.val (op_load rfl (ld_p1 b1 (by assumption))) rfl ?_
  | refine Opl.val (op_load rfl (ld_p1 b2 (by assumption))) rfl ?_
  | refine Opl.val (op_ixaV ha rfl rfl hix) rfl ?_
  | refine Opl.val (op_load rfl (ld_one ((hpt _).at _ rfl))) rfl ?_
  | refine Opl.val (op_lenL rfl hnl.isL rfl) rfl ?_
  | refine Opl.val (op_bsG rfl (bs1 _)) rfl ?_
  | (refine Opl.callP (U0 := S) hp (KeepB.refl S id) rfl (by kernel_rfl) f1 trivial (by omega) rfl (fun v S2 p2 ks2 => ?_); have k2 := k0.trans ks2)
  | refine .std ?_ | refine .nil ?_ | refine .seq ?_ | refine .region ?_ | refine .xs ?_ | refine .kb ?_ | refine .leaf ?_ | refine .block ?_ | refine .gn ?_ | refine .dr ?_ | fail
 refine Go.weaken (E' := [(0, .int .i64 (i : Nat)), (1, .ptr j1 0), (2, .ptr j2 0), (18, nv), (19, .int .i64 (elems nv).length), (20, .int .i64 (0 : Nat))]) ?_ ⟨rfl, rfl, rfl, rfl, rfl, rfl, trivial⟩
 refine Go.loop_ind (α := Nat) (fun i => (elems nv).length - i) (fun k E S' => E = [(0, .int .i64 (i : Nat)), (1, .ptr j1 0), (2, .ptr j2 0), (18, nv), (19, .int .i64 (elems nv).length), (20, .int .i64 k)] ∧ k ≤ (elems nv).length ∧ Prz S' id (s ++ a'.op ++ (a'.names.take k).flatMap (fun s => [32] ++ s)) ∧ KeepB U S' id ∧ KeepB S S' id) ?_ 0 _ _ ⟨rfl, Nat.zero_le _, Prn.eq (by assumption) (by simp), k2, ks2⟩
 rintro k E S3 ⟨rfl, hk, p3, k3, ks3⟩ IH
 repeat' first
  | refine Opl.fresh (op_int rfl rfl rfl rfl) rfl (fun q hq => ?_)
  | refine .std ?_ | refine .nil ?_ | refine .seq ?_ | refine .region ?_ | refine .xs ?_ | refine .kb ?_ | refine .leaf ?_ | refine .block ?_ | refine .gn ?_ | refine .dr ?_ | fail
 refine Go.cond rfl (fun hq => ?_) (fun hq => ?_)
 ·subst hq
  have hq : k < (elems nv).length := by have := of_decide_eq_true (by assumption : decide ((k : Int) < ((elems nv).length : Nat)) = true); omega
  obtain ⟨x, u, hx2, hix2, ⟨hc, hxl⟩, hm2⟩ := hnA.at hq
  have hpt2 : ∀ S, Pt S (.cptr none u.cells 0) [.str x] := fun S => by rw [hc]; exact Pt.cptr _ _ _
  have f3 := put2F id (lt := some 9) (tk := .exact) (a := [32]) (b := x) (by decide) hxl
  have hst : (a'.names.take (k + 1)).flatMap (fun s => [32] ++ s) = (a'.names.take k).flatMap (fun s => [32] ++ s) ++ ([32] ++ x) := by
   obtain ⟨hlt, rfl⟩ := List.getElem?_eq_some_iff.1 hx2
   rw [List.take_succ_eq_append_getElem hlt, List.flatMap_append]; simp
  have hle : ((a'.names.take (k + 1)).flatMap (fun s : List UInt8 => [32] ++ s)).length ≤ (a'.names.flatMap (fun s => [32] ++ s)).length := by
   have e : a'.names.flatMap (fun s : List UInt8 => [32] ++ s) = (a'.names.take (k + 1)).flatMap (fun s => [32] ++ s) ++ (a'.names.drop (k + 1)).flatMap (fun s => [32] ++ s) := by rw [← List.flatMap_append, List.take_append_drop]
   rw [e, List.length_append]; omega
  rw [hst] at hle
  simp only [List.length_append, List.length_cons, List.length_nil] at hle
  have kk : KeepB S3 S3 id := KeepB.refl S3 id
  repeat' first
   | refine Opl.val (op_ixaV hnl rfl rfl hix2) rfl ?_
   | refine Opl.val (op_load rfl (ld_one (hpt2 _))) rfl ?_
   | refine Opl.val (op_load rfl (ld_p1 b1 k3)) rfl ?_
   | refine Opl.val (op_bsG rfl (bs2 _ _)) rfl ?_
   | refine Opl.callP (U0 := S3) p3 kk rfl (by kernel_rfl) f3 trivial (by simp only [List.length_append, List.length_cons, List.length_nil]; omega) rfl (fun v S5 p5 k5 => ?_)
   | refine Opl.val (op_int rfl rfl rfl (inc_ok (i := k) (by omega))) rfl ?_
   | refine .std ?_ | refine .nil ?_ | refine .seq ?_ | refine .region ?_ | refine .xs ?_ | refine .kb ?_ | refine .leaf ?_ | refine .block ?_ | refine .gn ?_ | refine .dr ?_ | fail
  exact (IH (k + 1) _ _ (by omega) ⟨rfl, by omega, Prn.eq p5 (by rw [hst]; simp only [List.append_assoc]), k3.trans k5, ks3.trans k5⟩).weaken ⟨rfl, rfl, rfl, rfl, rfl, rfl, trivial⟩
 ·subst hq
  have hq : (elems nv).length ≤ k := by have := of_decide_eq_false (by assumption : decide ((k : Int) < ((elems nv).length : Nat)) = false); omega
  have hnil : a'.names.take k = a'.names := List.take_of_length_le (by rw [hnA.1]; omega)
  rw [hnil] at p3
  have kk : KeepB S3 S3 id := KeepB.refl S3 id
  have b1' := b1.keep k3
  have b2' := b2.keep k3
  repeat' first
   | refine Opl.val (op_load rfl (ld_p1 b1' (by assumption))) rfl ?_
   | refine Opl.val (op_load rfl (ld_p1 b2' (by assumption))) rfl ?_
   | refine Opl.val (op_ixaV ha rfl rfl hix) rfl ?_
   | refine Opl.val (op_load rfl (ld_agg ((hpt _).drop 2) hbd.len7)) rfl ?_
   | refine Opl.val (op_bsG rfl (bs1 _)) rfl ?_
   | refine Opl.callP (U0 := S3) (by assumption) (by assumption) rfl (by kernel_rfl) f2 trivial (by simp only [List.length_append, List.length_cons, List.length_nil]; omega) rfl (fun v S5 p5 k5 => ?_)
   | refine Opl.callP (U0 := S3) (by assumption) (by assumption) rfl (by kernel_rfl) c1 trivial (by simp only [List.length_append, List.length_cons, List.length_nil]; omega) rfl (fun v S6 p6 k6 => ?_)
   | exact At.fn rfl rfl rfl ⟨Prn.eq (by assumption) (by simp only [List.append_assoc]), ks3.trans (by assumption)⟩
   | refine .std ?_ | refine .nil ?_ | refine .seq ?_ | refine .region ?_ | refine .xs ?_ | refine .kb ?_ | refine .leaf ?_ | refine .block ?_ | refine .gn ?_ | refine .dr ?_ | fail
def Rec (id : Nat) (e : Ex) : Prop := ∀ x ∈ e.parts, ∀ cs, ExC x cs → Prc 50 [.ptr id 0, .agg cs] id (textE x)
theorem box_arm {e : Ex} {S : St} {id : Nat} {s : List UInt8} (hp : Prz S id s) (cs : List V) : ∃ U1 U : St, U1 = S.new (.box 81 [.ptr id 0]) ∧ U = U1.new (.box 27 cs) ∧ Bp U id S.next 81 [.ptr id 0] ∧ Bp U id U1.next 27 cs ∧ KeepB S U id ∧ Prz U id s := by
 obtain ⟨U1, U, hU1, hU, x1, x2, s0⟩ := box2 S 81 27 [.ptr id 0] cs
 have hid := hp.lt
 have hn1 : U1.next = S.next + 1 := by rw [hU1]; rfl
 exact ⟨U1, U, hU1, hU, Bp.of (c := id) x1 (by omega), Bp.of (c := id) x2 (by omega), s0.keepB id, hp.same s0⟩
end Go.Proofs.YtodiioeddlmjhaaGreatDoor
