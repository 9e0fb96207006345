import Derived.Test.YtodiioeddlmjhaaGreatDoorT0
import Derived.Test.YtodiioeddlmjhaaGreatDoorE11
set_option linter.unusedVariables false
set_option linter.unusedSimpArgs false
namespace Go.Proofs.YtodiioeddlmjhaaGreatDoor
open Go.RowKit Go.Ev
set_option maxRecDepth 100000
set_option linter.unusedVariables false
set_option linter.unusedSimpArgs false
attribute [local irreducible] Go.Ev.opE
abbrev Prz (S : St) (id : Nat) (s : List UInt8) : Prop := Prn 86 5 S id s
abbrev Prc (g : FuncId) (l : List V) (id : Nat) (w : List UInt8) : Prop := PrC Tryz.prog 86 5 g l id w
abbrev Pri (g : FuncId) (l : List V) (id : Nat) (I : St → Prop) (w : List UInt8) : Prop := PrI Tryz.prog 86 5 g l id I w
theorem u_pbld : Tryz.prog.underlying 82 = some (.pointer 84) := by kernel_rfl
theorem sz_bld : szOf Tryz.prog 84 = some 2 := by kernel_rfl
theorem u_unsafe : Tryz.prog.underlying 232 = some .unsafePointer := by kernel_rfl
theorem lies_bld : liesAt Tryz.prog Tryz.prog.depth 86 (2 / Tryz.prog.cellsOf 86) 0 84 1 = true := by kernel_rfl
theorem u_pu8 : Tryz.prog.underlying 157 = some (.pointer 5) := by kernel_rfl
theorem u_u8 : Tryz.prog.underlying 5 = some (.int .u8) := by kernel_rfl
theorem c_u8' : Tryz.prog.cellsOf 5 = 1 := by kernel_rfl
set_option maxHeartbeats 2000000 in
theorem copyCheckF {S : St} {id : Nat} {a b : V} (hlt : id < S.next) (hb : S.h.find id = some (.box 86 [a, b])) (ha : a = .nilp ∨ a = .ptr id 0) :
 CallTo Tryz.prog 196 [.ptr id 0] S (fun _ S' => Wr S S' id 86 [.ptr id 0, b]) (fun _ _ => False) := by
 have hp : Pt S (.ptr id 0) [a, b] := pt_box hb
 refine CallTo.of (n := 20) Tryz.func196 rfl rfl ?_
 rcases ha with rfl | rfl
 ·skip
  repeat' first
   | refine Opl.val (op_pnil u_pbld rfl rfl) rfl ?_
   | refine Opl.val (op_conv rfl (conv_toU u_pbld u_unsafe sz_bld hb (by simp))) rfl ?_
   | refine Opl.noesc rfl Tryz.func217 rfl rfl rfl ?_
   | refine Opl.val (op_conv rfl (conv_ofU u_unsafe u_pbld sz_bld hb rfl lies_bld)) rfl ?_
   | refine Opl.eff (op_store rfl rfl (st_one (cs' := [.ptr id 0, b]) hb rfl rfl)) ?_
   | refine Go.condT rfl ?_
   | exact At.fn rfl rfl rfl ⟨by simp [Tr.find_put], rfl, fun j hj => by simp only [Tr.find_put]; rw [if_neg hj]⟩
   | refine .std ?_ | refine .nil ?_ | refine .seq ?_ | refine .region ?_ | refine .xs ?_ | refine .kb ?_ | refine .leaf ?_ | refine .block ?_ | refine .gn ?_ | refine .dr ?_ | fail
 ·skip
  repeat' first
   | refine Opl.val (op_pptr u_pbld rfl rfl) rfl ?_
   | refine Opl.val (op_pneq u_pbld sz_bld rfl rfl) rfl ?_
   | refine Go.condF rfl ?_
   | exact At.fn rfl rfl rfl ⟨hb, rfl, fun j hj => rfl⟩
   | refine .std ?_ | refine .nil ?_ | refine .seq ?_ | refine .region ?_ | refine .xs ?_ | refine .kb ?_ | refine .leaf ?_ | refine .block ?_ | refine .gn ?_ | refine .dr ?_ | fail
set_option maxHeartbeats 2000000 in
theorem writeStringF (id : Nat) (w : List UInt8) : Prc 149 [.ptr id 0, .str w] id w := by
 intro S s hp _ hl
 obtain ⟨a, b, hb, ha, hbuf⟩ := hp.box
 have c1 := copyCheckF hp.lt hb ha
 refine CallTo.of (n := 19) Tryz.func149 rfl rfl ?_
 repeat' first
  | refine Opl.call rfl (by kernel_rfl) c1 rfl (fun v S1 hw => ?_) (fun _ _ h => h.elim)
  | refine .std ?_ | refine .nil ?_ | refine .seq ?_ | refine .region ?_ | refine .xs ?_ | refine .kb ?_ | refine .leaf ?_ | refine .block ?_ | refine .gn ?_ | refine .dr ?_ | fail
 obtain ⟨hb1, hn1, hk1⟩ := hw
 have hbuf1 : BufV 5 S1 b s := by
  rcases hbuf with h | ⟨k, h1, h2, h3, h4⟩
  ·exact .inl h
  ·exact .inr ⟨k, h1, by omega, by rw [hk1 k (fun e => by rw [e, hb] at h3; cases h3)]; exact h3, h4⟩
 have hpt : Pt S1 (.ptr id 0) [.ptr id 0, b] := pt_box hb1
 obtain ⟨b', S2, happ, hbuf2, hn2, hk2⟩ := app_buf (P := Tryz.prog) (t := 66) (u := 9) hbuf1 w hl
 have hb2 := hk2 _ _ _ (by have := hp.lt; omega) hb1
 have ho : b'.one = true := by
  rcases hbuf2 with ⟨_, rfl⟩ | ⟨k, rfl, _⟩ <;> rfl
 have hb3 : (S2.h.put id (.box 86 [.ptr id 0, b'])).find id = some (.box 86 [.ptr id 0, b']) := by simp [Tr.find_put]
 repeat' first
  | refine Opl.val (op_app rfl rfl happ) rfl ?_
  | refine Opl.eff (op_store rfl rfl (st_one (cs' := [.ptr id 0, b']) hb2 ho rfl)) ?_
  | refine .std ?_ | refine .nil ?_ | refine .seq ?_ | refine .region ?_ | refine .xs ?_ | refine .kb ?_ | refine .leaf ?_ | refine .block ?_ | refine .gn ?_ | refine .dr ?_ | fail
 refine At.fnr rfl rfl rfl ⟨⟨?_, _, _, hb3, .inr rfl, hbuf2.put hb2 _⟩, ⟨?_, fun j t cs h1 h2 h3 => ?_⟩⟩
 ·have := hp.lt; show id < S2.next; omega
 ·show S.next ≤ S2.next; omega
 ·show (S2.h.put id _).find j = _
  rw [Tr.find_put, if_neg h2]
  exact hk2 _ _ _ (by omega) (by rw [hk1 j h2]; exact h3)
set_option maxHeartbeats 2000000 in
theorem stringF {S : St} {id : Nat} {s : List UInt8} (hp : Prz S id s) (hl : s.length ≤ 1099511627776) :
 CallTo Tryz.prog 51 [.ptr id 0] S (fun v S' => v = .str s ∧ S' = S) (fun _ _ => False) := by
 obtain ⟨a, b, hb, ha, hbuf⟩ := hp.box
 have hpt : Pt S (.ptr id 0) [a, b] := pt_box hb
 refine CallTo.of (n := 14) Tryz.func51 rfl rfl ?_
 rcases hbuf with ⟨rfl, rfl⟩ | ⟨k, rfl, _, _, hne⟩
 ·skip
  repeat' first
   | refine Opl.val (op_lenL rfl rfl rfl) rfl ?_
   | refine Opl.val (op_bltn rfl usl_nil) rfl ?_
   | refine Opl.val (op_bltn rfl (uss_nil u_pu8)) rfl ?_
   | exact At.fnr rfl rfl rfl ⟨rfl, rfl⟩
   | refine .std ?_ | refine .nil ?_ | refine .seq ?_ | refine .region ?_ | refine .xs ?_ | refine .kb ?_ | refine .leaf ?_ | refine .block ?_ | refine .gn ?_ | refine .dr ?_ | fail
 ·have hlen : ((elems (V.list (some 5) 1 (ofBytes s) (.own k))).length : Nat) = s.length := ofBytes_length s
  repeat' first
   | refine Opl.val (op_lenE (n := s.length) rfl rfl hlen rfl) rfl ?_
   | refine Opl.val (op_bltn rfl (usl_list hne)) rfl ?_
   | refine Opl.val (op_bltn rfl (uss_list u_pu8 u_u8 c_u8' hne hl)) rfl ?_
   | exact At.fnr rfl rfl rfl ⟨rfl, rfl⟩
   | refine .std ?_ | refine .nil ?_ | refine .seq ?_ | refine .region ?_ | refine .xs ?_ | refine .kb ?_ | refine .leaf ?_ | refine .block ?_ | refine .gn ?_ | refine .dr ?_ | fail
set_option maxHeartbeats 2000000 in
theorem putF (id : Nat) {ws : List (List UInt8)} {lv : V} (h : StrsV ws lv) : Prc 85 [.ptr id 0, lv] id ws.flatten := by
 obtain ⟨hl, hll, hA⟩ := h
 intro S s hp _ hlen
 have hll : (elems lv).length ≤ 9223372036854775807 := hll
 refine CallTo.of (n := 18) Tryz.func85 rfl rfl ?_
 repeat' first
  | refine Opl.val (op_lenL rfl hl.isL rfl) rfl ?_
  | refine .std ?_ | refine .nil ?_ | refine .seq ?_ | refine .region ?_ | refine .xs ?_ | refine .kb ?_ | refine .leaf ?_ | refine .block ?_ | refine .gn ?_ | refine .dr ?_ | fail
 refine Go.weaken (E' := [(0, .ptr id 0), (6, lv), (7, .int .i64 (elems lv).length), (8, .int .i64 (0 : Nat))]) ?_ ⟨rfl, rfl, rfl, rfl, trivial⟩
 refine Go.loop_ind (α := Nat) (fun i => (elems lv).length - i) (fun i E S' => E = [(0, .ptr id 0), (6, lv), (7, .int .i64 (elems lv).length), (8, .int .i64 i)] ∧ i ≤ (elems lv).length ∧ Prz S' id (s ++ (ws.take i).flatten) ∧ KeepB S S' id) ?_ 0 _ _ ⟨rfl, Nat.zero_le _, by simpa using hp, KeepB.refl S id⟩
 rintro i E S1 ⟨rfl, hi, p1, k1⟩ IH
 repeat' first
  | refine Opl.fresh (op_int rfl rfl rfl rfl) rfl (fun q hq => ?_)
  | refine .std ?_ | refine .nil ?_ | refine .seq ?_ | refine .region ?_ | refine .xs ?_ | refine .kb ?_ | refine .leaf ?_ | refine .block ?_ | refine .gn ?_ | refine .dr ?_ | fail
 refine Go.cond rfl (fun hq => ?_) (fun hq => ?_)
 ·subst hq
  have hq : i < (elems lv).length := by have := of_decide_eq_true (by assumption : decide ((i : Int) < ((elems lv).length : Nat)) = true); omega
  obtain ⟨x, v, hx, hix, hv, hm⟩ := hA.at hq
  obtain ⟨hc, hxl⟩ := hv
  have hpt : ∀ S, Pt S (.cptr none v.cells 0) [.str x] := fun S => by rw [hc]; exact Pt.cptr _ _ _
  have hws : (ws.take (i + 1)).flatten = (ws.take i).flatten ++ x := flatten_step hx
  have hle : ((ws.take i).flatten ++ x).length ≤ ws.flatten.length := by rw [← hws]; exact flatten_le ws (i + 1)
  have hlx : (s ++ (ws.take i).flatten).length + x.length ≤ 1099511627776 := by
   simp only [List.length_append] at hle ⊢
   omega
  have c1 := writeStringF id x
  repeat' first
   | refine Opl.val (op_ixaV hl rfl rfl hix) rfl ?_
   | refine Opl.val (op_load rfl (ld_one (hpt _))) rfl ?_
   | refine Opl.callP p1 k1 rfl (by kernel_rfl) c1 trivial hlx rfl (fun v2 S2 p2 k2 => ?_)
   | refine Opl.val (op_int rfl rfl rfl (inc_ok (i := i) (by omega))) rfl ?_
   | refine .std ?_ | refine .nil ?_ | refine .seq ?_ | refine .region ?_ | refine .xs ?_ | refine .kb ?_ | refine .leaf ?_ | refine .block ?_ | refine .gn ?_ | refine .dr ?_ | fail
  exact (IH (i + 1) _ S2 (by omega) ⟨rfl, by omega, by rw [hws, ← List.append_assoc]; exact p2, k2⟩).weaken ⟨rfl, rfl, rfl, rfl, trivial⟩
 ·subst hq
  have hq : (elems lv).length ≤ i := by have := of_decide_eq_false (by assumption : decide ((i : Int) < ((elems lv).length : Nat)) = false); omega
  have hnil : ws.take i = ws := List.take_of_length_le (by rw [hA.1]; omega)
  rw [hnil] at p1
  repeat' first | refine .std ?_ | refine .nil ?_ | refine .seq ?_ | refine .region ?_ | refine .xs ?_ | refine .kb ?_ | refine .leaf ?_ | refine .block ?_ | refine .gn ?_ | refine .dr ?_ | fail
  exact At.fn rfl rfl rfl ⟨p1, k1⟩
theorem put1F (id : Nat) {lt : Option TypeId} {tk : Tk} {a : List UInt8} (ha : a.length ≤ huge) : Prc 85 [.ptr id 0, .list lt 1 [.str a] tk] id a := by
 have := putF id (ws := [a]) (lv := .list lt 1 [.str a] tk) ⟨.inr (.inr ⟨_, _, _, rfl⟩), by show 1 ≤ huge; decide, All2.cons ⟨rfl, ha⟩ (All2.nil _)⟩
 simpa using this
theorem put2F (id : Nat) {lt : Option TypeId} {tk : Tk} {a b : List UInt8} (ha : a.length ≤ huge) (hb : b.length ≤ huge) : Prc 85 [.ptr id 0, .list lt 1 [.str a, .str b] tk] id (a ++ b) := by
 have := putF id (ws := [a, b]) (lv := .list lt 1 [.str a, .str b] tk) ⟨.inr (.inr ⟨_, _, _, rfl⟩), by show 2 ≤ huge; decide, All2.cons ⟨rfl, ha⟩ (All2.cons ⟨rfl, hb⟩ (All2.nil _))⟩
 simpa using this
end Go.Proofs.YtodiioeddlmjhaaGreatDoor
namespace Go.Proofs.YtodiioeddlmjhaaGreatDoor
open Go.RowKit Go.Ev
set_option maxRecDepth 100000
set_option linter.unusedVariables false
set_option linter.unusedSimpArgs false
attribute [local irreducible] Go.Ev.opE
theorem bs1 (a : List UInt8) : buildSliceE Tryz.prog 23 1 [(0, .str a)] = some (.list (some 9) 1 [.str a] .exact) := by kernel_rfl
theorem bs2 (a b : List UInt8) : buildSliceE Tryz.prog 23 2 [(0, .str a), (1, .str b)] = some (.list (some 9) 1 [.str a, .str b] .exact) := by kernel_rfl
set_option maxHeartbeats 4000000 in
theorem listF (id : Nat) {by_ : List UInt8} (hby : by_.length ≤ huge) {ws : List (List UInt8)} (hws : ws.length ≤ huge) {g : FuncId} {caps : List V} (hb : hasBody Tryz.prog g = true) {I : St → Prop} (hI : ∀ S S', I S → KeepB S S' id → I S')
 (hf : ∀ i w, ws[i]? = some w → Pri g (.int .i64 (i : Nat) :: caps) id I w) : Pri 171 [.ptr id 0, .int .i64 (ws.length : Nat), .str by_, .func g [] caps] id I (joinW by_ ws) := by
 intro S s hp hIS hlen
 have hws : ws.length ≤ 9223372036854775807 := hws
 have c1 := put1F id (lt := some 9) (tk := .exact) hby
 refine CallTo.of (n := 23) Tryz.func171 rfl rfl ?_
 repeat' first | refine .std ?_ | refine .nil ?_ | refine .seq ?_ | refine .region ?_ | refine .xs ?_ | refine .kb ?_ | refine .leaf ?_ | refine .block ?_ | refine .gn ?_ | refine .dr ?_ | fail
 refine Go.weaken (E' := [(0, .ptr id 0), (2, .str by_), (3, .func g [] caps), (9, .int .i64 (ws.length : Nat)), (10, .int .i64 (0 : Nat))]) ?_ ⟨rfl, rfl, rfl, rfl, rfl, trivial⟩
 refine Go.loop_ind (α := Nat) (fun i => ws.length - i) (fun i E S' => E = [(0, .ptr id 0), (2, .str by_), (3, .func g [] caps), (9, .int .i64 (ws.length : Nat)), (10, .int .i64 i)] ∧ i ≤ ws.length ∧ Prz S' id (s ++ joinW by_ (ws.take i)) ∧ KeepB S S' id) ?_ 0 _ _ ⟨rfl, Nat.zero_le _, by simpa [joinW] using hp, KeepB.refl S id⟩
 rintro i E S1 ⟨rfl, hi, p1, k1⟩ IH
 repeat' first
  | refine Opl.fresh (op_int rfl rfl rfl rfl) rfl (fun q hq => ?_)
  | refine .std ?_ | refine .nil ?_ | refine .seq ?_ | refine .region ?_ | refine .xs ?_ | refine .kb ?_ | refine .leaf ?_ | refine .block ?_ | refine .gn ?_ | refine .dr ?_ | fail
 refine Go.cond rfl (fun hq => ?_) (fun hq => ?_)
 ·subst hq
  have hq : i < ws.length := by have := of_decide_eq_true (by assumption : decide ((i : Int) < (ws.length : Nat)) = true); omega
  have hx : ws[i]? = some ws[i] := List.getElem?_eq_getElem hq
  generalize ws[i] = x at hx
  have hj := joinW_take (by_ := by_) hx
  have hle : s.length + (joinW by_ (ws.take (i + 1))).length ≤ 1099511627776 := by have := joinW_le by_ ws (i + 1); omega
  rw [hj] at hle
  have c2 := hf i x hx
  by_cases h0 : i = 0
  ·subst h0
   simp only [if_true, List.length_append, List.length_nil] at hle
   repeat' first
    | refine Opl.val (op_int rfl rfl rfl (gtr_i (q := false) (decide_eq_false (by decide)))) rfl ?_
    | refine Go.condF rfl ?_
    | refine Opl.callP (U0 := S) p1 k1 rfl hb c2 (hI _ _ hIS k1) (by simp only [List.length_append]; omega) rfl (fun v S2 p2 k2 => ?_)
    | refine Opl.val (op_int rfl rfl rfl (inc_ok (i := 0) (by decide))) rfl ?_
    | refine .std ?_ | refine .nil ?_ | refine .seq ?_ | refine .region ?_ | refine .xs ?_ | refine .kb ?_ | refine .leaf ?_ | refine .block ?_ | refine .gn ?_ | refine .dr ?_ | fail
   exact (IH 1 _ S2 (by omega) ⟨rfl, by omega, p2.eq (by rw [hj]; simp), k2⟩).weaken ⟨rfl, rfl, rfl, rfl, rfl, trivial⟩
  ·simp only [if_neg h0, List.length_append] at hle
   repeat' first
    | refine Opl.val (op_int rfl rfl rfl (gtr_i (q := true) (decide_eq_true (by omega)))) rfl ?_
    | refine Go.condT rfl ?_
    | refine Opl.val (op_bsG rfl (bs1 _)) rfl ?_
    | refine Opl.callP (U0 := S) p1 k1 rfl (by kernel_rfl) c1 trivial (by simp only [List.length_append]; omega) rfl (fun v S2 p2 k2 => ?_)
    | refine Opl.callP (U0 := S) p2 k2 rfl hb c2 (hI _ _ hIS k2) (by simp only [List.length_append]; omega) rfl (fun v S3 p3 k3 => ?_)
    | refine Opl.val (op_int rfl rfl rfl (inc_ok (i := i) (by omega))) rfl ?_
    | refine .std ?_ | refine .nil ?_ | refine .seq ?_ | refine .region ?_ | refine .xs ?_ | refine .kb ?_ | refine .leaf ?_ | refine .block ?_ | refine .gn ?_ | refine .dr ?_ | fail
   exact (IH (i + 1) _ S3 (by omega) ⟨rfl, by omega, p3.eq (by rw [hj, if_neg h0]; simp), k3⟩).weaken ⟨rfl, rfl, rfl, rfl, rfl, trivial⟩
 ·subst hq
  have hq : ws.length ≤ i := by have := of_decide_eq_false (by assumption : decide ((i : Int) < (ws.length : Nat)) = false); omega
  have hnil : ws.take i = ws := List.take_of_length_le hq
  rw [hnil] at p1
  repeat' first | refine .std ?_ | refine .nil ?_ | refine .seq ?_ | refine .region ?_ | refine .xs ?_ | refine .kb ?_ | refine .leaf ?_ | refine .block ?_ | refine .gn ?_ | refine .dr ?_ | fail
  exact At.fn rfl rfl rfl ⟨p1, k1⟩
end Go.Proofs.YtodiioeddlmjhaaGreatDoor
