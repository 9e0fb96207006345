import Derived.Test.YtodiioeddlmjhaaGreatDoorV1
import Derived.Test.YtodiioeddlmjhaaGreatDoorU4
import Derived.Test.YtodiioeddlmjhaaGreatDoorE12
set_option linter.unusedVariables false
set_option linter.unusedSimpArgs false
namespace Go.Proofs.YtodiioeddlmjhaaGreatDoor
open Go.RowKit Go.Ev
set_option maxRecDepth 100000
set_option linter.unusedVariables false
set_option linter.unusedSimpArgs false
attribute [local irreducible] Go.Ev.opE
theorem lies_bld2 : liesAt Tryz.prog Tryz.prog.depth 84 (2 / Tryz.prog.cellsOf 84) 0 84 1 = true := by kernel_rfl
theorem u_bytes : Tryz.prog.underlying 66 = some (.slice 5) := by kernel_rfl
theorem el_bytes : elemT Tryz.prog 66 = some 5 := by kernel_rfl
theorem sz_u8' : szOf Tryz.prog 5 = some 1 := by kernel_rfl
theorem ag_u8 : aggT Tryz.prog 5 = some false := by kernel_rfl
theorem u_strs : Tryz.prog.underlying 23 = some (.slice 9) := by kernel_rfl
theorem sz_str : szOf Tryz.prog 9 = some 1 := by kernel_rfl
theorem ext_mk (n : Nat) (hn : n ≤ 1099511627776) (S : St) : extE Tryz.prog Tryz.f221 [.int .i64 (n : Int)] S = some (.raw 5 S.next n, S.new .tok) := by
 have h1 : Tryz.f221.name = "internal/bytealg.MakeNoZero" := by kernel_rfl
 have h2 : Tryz.f221.resultTypes[0]? = some 66 := by kernel_rfl
 have h3 : (decide (0 ≤ (n : Int)) && decide ((n : Int) ≤ 1099511627776)) = true := by simp only [Bool.and_eq_true, decide_eq_true_eq]; omega
 simp only [extE, h1, h2, el_bytes, h3]
 simp
def Bdr (S0 S : St) (id : Nat) (s : List UInt8) : Prop := id < S.next ∧ S0.next ≤ id ∧ Same S0 S ∧ ∃ b, S.h.find id = some (.box 84 [.ptr id 0, b]) ∧ BufJ 5 S0 S b s
set_option maxHeartbeats 2000000 in
theorem copyCheckJ {S : St} {id : Nat} {a b : V} (hlt : id < S.next) (hb : S.h.find id = some (.box 84 [a, b])) (ha : a = .nilp ∨ a = .ptr id 0) :
 CallTo Tryz.prog 196 [.ptr id 0] S (fun _ S' => Wr S S' id 84 [.ptr id 0, b]) (fun _ _ => False) := by
 have hp : Pt S (.ptr id 0) [a, b] := pt_box hb
 refine CallTo.of (n := 20) Tryz.func196 rfl rfl ?_
 rcases ha with rfl | rfl
 ·skip
  repeat' first
   | refine Opl.val (op_pnil u_pbld rfl rfl) rfl ?_
   | refine Opl.val (op_conv rfl (conv_toU u_pbld u_unsafe sz_bld hb (by simp))) rfl ?_
   | refine Opl.noesc rfl Tryz.func217 rfl rfl rfl ?_
   | refine Opl.val (op_conv rfl (conv_ofU u_unsafe u_pbld sz_bld hb rfl lies_bld2)) rfl ?_
   | refine Opl.eff (op_store rfl rfl (st_one (cs' := [.ptr id 0, b]) hb rfl rfl)) ?_
   | refine Go.condT rfl ?_
   | exact At.fn rfl rfl rfl ⟨by simp [Tr.find_put], rfl, fun j hj => by simp only [Tr.find_put]; rw [if_neg hj]⟩
   | refine .std ?_ | refine .nil ?_ | refine .seq ?_ | refine .region ?_ | refine .xs ?_ | refine .kb ?_ | refine .leaf ?_ | refine .block ?_ | refine .gn ?_ | refine .dr ?_ | fail
 ·skip
  repeat' first
   | refine Opl.val (op_pptr u_pbld rfl rfl) rfl ?_
   | refine Opl.val (op_pneq u_pbld sz_bld rfl rfl) rfl ?_
   | refine Go.condF rfl ?_
   | exact At.fn rfl rfl rfl ⟨hb, rfl, fun j hj => rfl⟩
   | refine .std ?_ | refine .nil ?_ | refine .seq ?_ | refine .region ?_ | refine .xs ?_ | refine .kb ?_ | refine .leaf ?_ | refine .block ?_ | refine .gn ?_ | refine .dr ?_ | fail
theorem wr_same {S0 S S' : St} {id : Nat} {t : TypeId} {cs : List V} (h : Wr S S' id t cs) (k : Same S0 S) (hid : S0.next ≤ id) : Same S0 S' :=
 ⟨by rw [h.2.1]; exact k.next, fun j hj => by rw [h.2.2 j (by omega), k.find j hj]⟩
theorem wr_buf {e : TypeId} {S0 S S' : St} {id : Nat} {t : TypeId} {cs ds : List V} {b : V} {s : List UInt8} (h : Wr S S' id t cs) (hb : BufJ e S0 S b s) (hid : S.h.find id = some (.box t ds)) : BufJ e S0 S' b s := by
 obtain ⟨k, h1, h2, h3, h4⟩ := hb
 exact ⟨k, h1, h2, by rw [h.2.1]; exact h3, by rw [h.2.2 k (fun e => by rw [e, hid] at h4; cases h4)]; exact h4⟩
set_option maxHeartbeats 2000000 in
theorem writeStringJ {S0 S : St} {id : Nat} {s : List UInt8} (hp : Bdr S0 S id s) (w : List UInt8) (hl : s.length + w.length ≤ 1099511627776) :
 CallTo Tryz.prog 149 [.ptr id 0, .str w] S (fun _ S' => Bdr S0 S' id (s ++ w)) (fun _ _ => False) := by
 obtain ⟨hlt, hid, ks, b, hb, hbuf⟩ := hp
 have c1 := copyCheckJ hlt hb (.inr rfl)
 refine CallTo.of (n := 19) Tryz.func149 rfl rfl ?_
 repeat' first
  | refine Opl.call rfl (by kernel_rfl) c1 rfl (fun v S1 hw => ?_) (fun _ _ h => h.elim)
  | refine .std ?_ | refine .nil ?_ | refine .seq ?_ | refine .region ?_ | refine .xs ?_ | refine .kb ?_ | refine .leaf ?_ | refine .block ?_ | refine .gn ?_ | refine .dr ?_ | fail
 have ks1 := wr_same hw ks hid
 have hbuf1 := wr_buf hw hbuf hb
 obtain ⟨hb1, hn1, hk1⟩ := hw
 have hpt : Pt S1 (.ptr id 0) [.ptr id 0, b] := pt_box hb1
 obtain ⟨b', S2, happ, hbuf2, ks2, hn2, hk2⟩ := app_bufJ (P := Tryz.prog) (t := 66) (u := 9) hbuf1 ks1 w hl
 have hb2 := hk2 _ _ _ (by omega) hb1
 have ho : b'.one = true := by obtain ⟨k, rfl, _⟩ := hbuf2; rfl
 have hb3 : (S2.h.put id (.box 84 [.ptr id 0, b'])).find id = some (.box 84 [.ptr id 0, b']) := by simp [Tr.find_put]
 repeat' first
  | refine Opl.val (op_app rfl rfl happ) rfl ?_
  | refine Opl.eff (op_store rfl rfl (st_one (cs' := [.ptr id 0, b']) hb2 ho rfl)) ?_
  | refine .std ?_ | refine .nil ?_ | refine .seq ?_ | refine .region ?_ | refine .xs ?_ | refine .kb ?_ | refine .leaf ?_ | refine .block ?_ | refine .gn ?_ | refine .dr ?_ | fail
 obtain ⟨k, e1, e2, e3, e4⟩ := hbuf2
 refine At.fnr rfl rfl rfl ⟨?_, hid, ks2.put hid _, b', hb3, k, e1, e2, e3, ?_⟩
 ·show id < S2.next; omega
 ·show (S2.h.put id _).find k = _
  rw [Tr.find_put, if_neg (fun e => by rw [e, hb2] at e4; cases e4)]; exact e4
set_option maxHeartbeats 2000000 in
theorem stringJ {S0 S : St} {id : Nat} {s : List UInt8} (hp : Bdr S0 S id s) (hne : s ≠ []) (hl : s.length ≤ 1099511627776) :
 CallTo Tryz.prog 51 [.ptr id 0] S (fun v S' => v = .str s ∧ S' = S) (fun _ _ => False) := by
 obtain ⟨hlt, hid, ks, b, hb, k, rfl, _, _, _⟩ := hp
 have hpt : Pt S (.ptr id 0) [.ptr id 0, .list (some 5) 1 (ofBytes s) (.own k)] := pt_box hb
 refine CallTo.of (n := 14) Tryz.func51 rfl rfl ?_
 have hlen : ((elems (V.list (some 5) 1 (ofBytes s) (.own k))).length : Nat) = s.length := ofBytes_length s
 repeat' first
  | refine Opl.val (op_lenE (n := s.length) rfl rfl hlen rfl) rfl ?_
  | refine Opl.val (op_bltn rfl (usl_list hne)) rfl ?_
  | refine Opl.val (op_bltn rfl (uss_list u_pu8 u_u8 c_u8' hne hl)) rfl ?_
  | exact At.fnr rfl rfl rfl ⟨rfl, rfl⟩
  | refine .std ?_ | refine .nil ?_ | refine .seq ?_ | refine .region ?_ | refine .xs ?_ | refine .kb ?_ | refine .leaf ?_ | refine .block ?_ | refine .gn ?_ | refine .dr ?_ | fail
set_option maxHeartbeats 4000000 in
theorem growJ {S0 S : St} {id n : Nat} (hlt : id < S.next) (hid : S0.next ≤ id) (ks : Same S0 S) (hb : S.h.find id = some (.box 84 [.ptr id 0, .nils])) (hn : n ≤ 1099511627776) :
 CallTo Tryz.prog 207 [.ptr id 0, .int .i64 (n : Int)] S (fun _ S' => Bdr S0 S' id []) (fun _ _ => False) := by
 have hpt : ∀ U : St, U.h.find id = some (.box 84 [.ptr id 0, .nils]) → Pt U (.ptr id 0) [.ptr id 0, .nils] := fun U h => pt_box h
 have hb1 : (S.new .tok).h.find id = some (.box 84 [.ptr id 0, .nils]) := by rw [find_old hlt]; exact hb
 have hp1 := hpt _ hb1
 have hx := ext_mk (0 + n) (by omega) S
 refine CallTo.of (n := 30) Tryz.func207 rfl rfl ?_
 repeat' first
  | refine Go.draw [0, 1, 3, 7, 15, 31, 0, 127, 255, 0, 512, 1536, 3584, 7680, 16383, 32767] [0, 1, 2, 3, 4, 5, 6, 7, 8, 9, 10, 11, 12, 13, 14, 15] (by kernel_rfl) (fun U => U.h.find id = some (.box 84 [.ptr id 0, .nils])) ?_
  | refine Drw.c0 rfl rfl (op_move rfl) rfl ?_
  | refine Drw.c0 rfl rfl (op_assign rfl) rfl ?_
  | refine Drw.c0 rfl rfl (op_nilP rfl rfl) rfl ?_
  | refine Drw.c2g rfl rfl (by assumption) (by assumption) (fun U hU => op_nilP rfl rfl) rfl ?_
  | refine Drw.c0 rfl rfl (op_fld rfl rfl) rfl ?_
  | refine Drw.c2g rfl rfl (by assumption) (by assumption) (fun U hU => op_load rfl (ld_one ((hpt U hU).at 1 rfl))) rfl ?_
  | refine Drw.c3 rfl rfl (op_cap0 rfl rfl) (by assumption) rfl ?_
  | refine Drw.c0 rfl rfl (op_int rfl rfl rfl (n_mulii (a := 2) (b := 0) (by decide))) rfl ?_
  | refine Drw.c0 rfl rfl (op_int rfl rfl rfl (add_nat (a := 2 * 0) (b := n) (by omega))) rfl ?_
  | refine Drw.ext rfl rfl Tryz.func221 rfl (ext_mk (2 * 0 + n) (by omega) S) hb1 rfl ?_
  | refine Drw.c0 rfl rfl (op_lenE (n := 0) rfl rfl rfl rfl) rfl ?_
  | refine Drw.c0 rfl rfl (op_slH rfl rfl (slice_raw u_bytes sz_u8')) rfl ?_
  | refine Drw.c2g rfl rfl (by assumption) (by assumption) (fun U hU => op_slH rfl rfl (slice_raw u_bytes sz_u8')) rfl ?_
  | refine Drw.nil ?_
  | refine Opl.val (op_bltn rfl (bt_copy0 el_bytes sz_u8' ag_u8)) rfl ?_
  | refine Opl.eff (op_store rfl rfl (st_one (cs' := [.ptr id 0, .list (some 5) 1 [] (.own S.next)]) hb1 rfl rfl)) ?_
  | refine .std ?_ | refine .nil ?_ | refine .seq ?_ | refine .region ?_ | refine .xs ?_ | refine .kb ?_ | refine .leaf ?_ | refine .block ?_ | refine .gn ?_ | refine .dr ?_ | fail
 have hne : id ≠ S.next := by omega
 refine At.fn rfl rfl rfl ⟨?_, hid, (ks.trans (Same.new S .tok)).put hid _, _, by simp [Tr.find_put]; rfl, S.next, rfl, ks.next, by simp [St.new], ?_⟩
 ·show id < S.next + 1; omega
 ·show ((S.new .tok).h.put id _).find S.next = _
  rw [Tr.find_put, if_neg (fun e => hne e.symm)]
  exact find_new S _
set_option maxHeartbeats 4000000 in
theorem GrowJ {S0 S : St} {id n : Nat} (hlt : id < S.next) (hid : S0.next ≤ id) (ks : Same S0 S) (hb : S.h.find id = some (.box 84 [.nilp, .nils])) (h0 : 0 < n) (hn : n ≤ 1099511627776) :
 CallTo Tryz.prog 174 [.ptr id 0, .int .i64 (n : Int)] S (fun _ S' => Bdr S0 S' id []) (fun _ _ => False) := by
 have c1 := copyCheckJ hlt hb (.inl rfl)
 refine CallTo.of (n := 25) Tryz.func174 rfl rfl ?_
 repeat' first
  | refine Opl.call rfl (by kernel_rfl) c1 rfl (fun v S1 hw => ?_) (fun _ _ h => h.elim)
  | refine .std ?_ | refine .nil ?_ | refine .seq ?_ | refine .region ?_ | refine .xs ?_ | refine .kb ?_ | refine .leaf ?_ | refine .block ?_ | refine .gn ?_ | refine .dr ?_ | fail
 have ks1 := wr_same hw ks hid
 obtain ⟨hb1, hn1, hk1⟩ := hw
 have hpt : ∀ U : St, U.h.find id = some (.box 84 [.ptr id 0, .nils]) → Pt U (.ptr id 0) [.ptr id 0, .nils] := fun U h => pt_box h
 have c2 := growJ (S0 := S0) (n := n) (by omega) hid ks1 hb1 hn
 repeat' first
  | refine Opl.val (op_int rfl rfl rfl (lss_i (q := false) (decide_eq_false (by omega)))) rfl ?_
  | refine Go.draw [0, 1, 3, 7, 15, 0, 32, 96, 224, 480, 1023, 0, 4095] [0, 1, 2, 3, 4, 5, 6, 7, 8, 9, 10, 11, 12] (by kernel_rfl) (fun U => U.h.find id = some (.box 84 [.ptr id 0, .nils])) ?_
  | refine Drw.c0 rfl rfl (op_move rfl) rfl ?_
  | refine Drw.c0 rfl rfl (op_nilP rfl rfl) rfl ?_
  | refine Drw.c2g rfl rfl (by assumption) (by assumption) (fun U hU => op_nilP rfl rfl) rfl ?_
  | refine Drw.c0 rfl rfl (op_fld rfl rfl) rfl ?_
  | refine Drw.c2g rfl rfl (by assumption) (by assumption) (fun U hU => op_load rfl (ld_one ((hpt U hU).at 1 rfl))) rfl ?_
  | refine Drw.c3 rfl rfl (op_cap0 rfl rfl) (by assumption) rfl ?_
  | refine Drw.c0 rfl rfl (op_lenE (n := 0) rfl rfl rfl rfl) rfl ?_
  | refine Drw.c0 rfl rfl (op_int rfl rfl rfl (sub_n (a := 0) 0 (by decide) (by decide))) rfl ?_
  | refine Drw.c0 rfl rfl (op_int rfl rfl rfl (lss_i (q := true) (decide_eq_true (by omega)))) rfl ?_
  | refine Drw.nil ?_
  | refine Go.condT rfl ?_
  | refine Go.condF rfl ?_
  | refine Opl.call rfl (by kernel_rfl) c2 rfl (fun v S2 hw => ?_) (fun _ _ h => h.elim)
  | exact At.fn rfl rfl rfl hw
  | refine .std ?_ | refine .nil ?_ | refine .seq ?_ | refine .region ?_ | refine .xs ?_ | refine .kb ?_ | refine .leaf ?_ | refine .block ?_ | refine .gn ?_ | refine .dr ?_ | fail
set_option maxHeartbeats 16000000 in
theorem joinF {ws : List (List UInt8)} {lv : V} (h : StrsV ws lv) (hw : ∀ w ∈ ws, w.length ≤ 12 ∧ w ≠ []) (hn : ws.length ≤ 13) {by_ : List UInt8} (hby : by_.length ≤ 2 ∧ by_ ≠ []) : Pu Tryz.prog 104 [lv, .str by_] (.str (joinW by_ ws)) := by
 obtain ⟨hl, hll, hA⟩ := h
 have e1 : ws.length = (elems lv).length := hA.1
 have hb0 : 0 < by_.length := List.length_pos_iff.2 hby.2
 have hb2 := hby.1
 intro S
 refine CallTo.of (n := 75) Tryz.func104 rfl rfl ?_
 by_cases h0 : ws.length = 0
 ·have hws : ws = [] := List.length_eq_zero_iff.1 h0
  subst hws
  repeat' first
   | refine Opl.val (op_lenL rfl hl.isL rfl) rfl ?_
   | refine Opl.val (op_int rfl rfl rfl (eql_i (q := true) (decide_eq_true (by omega)))) rfl ?_
   | refine Go.condT rfl ?_
   | exact At.fnr rfl rfl rfl ⟨rfl, Same.refl _⟩
   | refine .std ?_ | refine .nil ?_ | refine .seq ?_ | refine .region ?_ | refine .xs ?_ | refine .kb ?_ | refine .leaf ?_ | refine .block ?_ | refine .gn ?_ | refine .dr ?_ | fail
 obtain ⟨x0, v0, hx0, hix0, ⟨hc0, hxl0⟩, hm0⟩ := hA.at (i := 0) (by omega)
 have hpt0 : ∀ S, Pt S (.cptr none v0.cells 0) [.str x0] := fun S => by rw [hc0]; exact Pt.cptr _ _ _
 by_cases h1 : ws.length = 1
 ·have hws : joinW by_ ws = x0 := by
   obtain ⟨a, rfl⟩ := List.length_eq_one_iff.1 h1
   simp at hx0
   subst hx0
   simp [joinW]
  rw [hws]
  repeat' first
   | refine Opl.val (op_lenL rfl hl.isL rfl) rfl ?_
   | refine Opl.val (op_int rfl rfl rfl (eql_i (q := false) (decide_eq_false (by omega)))) rfl ?_
   | refine Opl.val (op_int rfl rfl rfl (eql_i (q := true) (decide_eq_true (by omega)))) rfl ?_
   | refine Go.condT rfl ?_
   | refine Go.condF rfl ?_
   | refine Opl.val (op_ixaV (i := 0) hl rfl rfl hix0) rfl ?_
   | refine Opl.val (op_load rfl (ld_one (hpt0 _))) rfl ?_
   | exact At.fnr rfl rfl rfl ⟨rfl, Same.refl _⟩
   | refine .std ?_ | refine .nil ?_ | refine .seq ?_ | refine .region ?_ | refine .xs ?_ | refine .kb ?_ | refine .leaf ?_ | refine .block ?_ | refine .gn ?_ | refine .dr ?_ | fail
 obtain ⟨mv, hsl, hmv⟩ := strs_drop (T := 23) (e := 9) u_strs sz_str ⟨hl, hll, hA⟩ 1 (by omega)
 obtain ⟨hml, hmll, hmA⟩ := hmv
 have hmll : (elems mv).length ≤ 9223372036854775807 := hmll
 have em : ws.length - 1 = (elems mv).length := by have := hmA.1; rw [List.length_drop] at this; exact this
 obtain ⟨n, hN⟩ : ∃ n, (elems lv).length = n := ⟨_, rfl⟩
 rw [hN] at e1
 have hq1 : 700000000000000000 ≤ 9223372036854775807 / (n - 1) := by
  have : 9223372036854775807 / 12 ≤ 9223372036854775807 / (n - 1) := Nat.div_le_div_left (by omega) (by omega)
  omega
 have hmul : by_.length * (n - 1) ≤ 26 ∧ 1 ≤ by_.length * (n - 1) := by
  have a1 : by_.length * (n - 1) ≤ 2 * 12 := Nat.mul_le_mul (by omega) (by omega)
  have a2 : 1 * 1 ≤ by_.length * (n - 1) := Nat.mul_le_mul (by omega) (by omega)
  omega
 repeat' first
  | refine Opl.val (op_lenE rfl hl.isL hN rfl) rfl ?_
  | refine Opl.val (op_int rfl rfl rfl (eql_i (q := false) (decide_eq_false (by omega)))) rfl ?_
  | refine Opl.val (op_int rfl rfl rfl (gtr_i (q := true) (decide_eq_true (by omega)))) rfl ?_
  | refine Opl.val (op_int rfl rfl rfl (sub_n (a := n) 1 (by omega) (by omega))) rfl ?_
  | refine Opl.val (op_int rfl rfl rfl (quo_max (k := n - 1) (by omega))) rfl ?_
  | refine Opl.val (op_int rfl rfl rfl (geq_i (q := false) (decide_eq_false (by omega)))) rfl ?_
  | refine Opl.val (op_int rfl rfl rfl (n_mulii (a := by_.length) (b := n - 1) (by omega))) rfl ?_
  | refine Opl.val (op_int rfl rfl rfl (add_nat (a := 0) (b := by_.length * (n - 1)) (by omega))) rfl ?_
  | refine Go.condT rfl ?_
  | refine Go.condF rfl ?_
  | refine .std ?_ | refine .nil ?_ | refine .seq ?_ | refine .region ?_ | refine .xs ?_ | refine .kb ?_ | refine .leaf ?_ | refine .block ?_ | refine .gn ?_ | refine .dr ?_ | fail
 refine Go.weaken (E' := [(0, lv), (1, .str by_), (5, .int .i64 ((0 + by_.length * (n - 1) : Nat) : Int)), (39, lv), (40, .int .i64 (n : Nat)), (41, .int .i64 (0 : Nat))]) ?_ ⟨rfl, rfl, rfl, rfl, rfl, rfl, trivial⟩
 refine Go.loop_ind (α := Nat) (fun i => n - i) (fun i E S' => (∃ m : Nat, E = [(0, lv), (1, .str by_), (5, .int .i64 (m : Int)), (39, lv), (40, .int .i64 (n : Nat)), (41, .int .i64 i)] ∧ 1 ≤ m ∧ m ≤ 30 + 12 * i) ∧ i ≤ n ∧ S' = S) ?_ 0 _ _ ⟨⟨_, rfl, by omega, by omega⟩, Nat.zero_le _, rfl⟩
 rintro i E S1 ⟨⟨m, rfl, hm1, hm2⟩, hi, rfl⟩ IH
 repeat' first
  | refine Opl.fresh (op_int rfl rfl rfl rfl) rfl (fun q hq => ?_)
  | refine .std ?_ | refine .nil ?_ | refine .seq ?_ | refine .region ?_ | refine .xs ?_ | refine .kb ?_ | refine .leaf ?_ | refine .block ?_ | refine .gn ?_ | refine .dr ?_ | fail
 refine Go.cond rfl (fun hq => ?_) (fun hq => ?_)
 ·subst hq
  have hq : i < n := by have := of_decide_eq_true (by assumption : decide ((i : Int) < (n : Nat)) = true); omega
  obtain ⟨x, v, hx, hix, ⟨hc, hxl⟩, hm⟩ := hA.at (i := i) (by omega)
  have hpt : ∀ S, Pt S (.cptr none v.cells 0) [.str x] := fun S => by rw [hc]; exact Pt.cptr _ _ _
  have hxw := (hw x hm).1
  repeat' first
   | refine Opl.val (op_ixaV hl rfl rfl hix) rfl ?_
   | refine Opl.val (op_load rfl (ld_one (hpt _))) rfl ?_
   | refine Opl.val (op_int rfl rfl rfl (sub_max (m := m) (by omega))) rfl ?_
   | refine Opl.val (op_int rfl rfl rfl (gtr_i (q := false) (decide_eq_false (by omega)))) rfl ?_
   | refine Opl.val (op_int rfl rfl rfl (add_nat (a := m) (b := x.length) (by omega))) rfl ?_
   | refine Opl.val (op_int rfl rfl rfl (inc_ok (i := i) (by omega))) rfl ?_
   | refine Go.condF rfl ?_
   | refine .std ?_ | refine .nil ?_ | refine .seq ?_ | refine .region ?_ | refine .xs ?_ | refine .kb ?_ | refine .leaf ?_ | refine .block ?_ | refine .gn ?_ | refine .dr ?_ | fail
  exact (IH (i + 1) [(0, lv), (1, .str by_), (5, .int .i64 ((m + x.length : Nat) : Int)), (39, lv), (40, .int .i64 (n : Nat)), (41, .int .i64 ((i + 1 : Nat) : Int))] _ (by omega) ⟨⟨_, rfl, by omega, by omega⟩, by omega, rfl⟩).weaken ⟨rfl, rfl, rfl, rfl, rfl, rfl, trivial⟩
 ·subst hq
  obtain ⟨U, hU, bx, s0⟩ := box1 S1 84 [.nilp, .nils]
  have hlt : S1.next < U.next := bx.lt
  have cg := GrowJ (S0 := S1) (S := U) (id := S1.next) (n := m) hlt (Nat.le_refl _) s0 bx.box (by omega) (by omega)
  repeat' first
   | refine Opl.val op_alloc rfl (Opl.cast (S' := U) ?_ hU)
   | refine Opl.call rfl (by kernel_rfl) cg rfl (fun v S2 p2 => ?_) (fun _ _ h => h.elim)
   | refine Opl.val (op_ixaV (i := 0) hl rfl rfl hix0) rfl ?_
   | refine Opl.val (op_load rfl (ld_one (hpt0 _))) rfl ?_
   | refine Opl.call rfl (by kernel_rfl) (writeStringJ p2 x0 (by have := (hw x0 hm0).1; simp; omega)) rfl (fun v S3 p3 => ?_) (fun _ _ h => h.elim)
   | refine Opl.val (op_slL rfl rfl hsl) rfl ?_
   | refine Opl.val (op_lenL rfl hml.isL rfl) rfl ?_
   | refine .std ?_ | refine .nil ?_ | refine .seq ?_ | refine .region ?_ | refine .xs ?_ | refine .kb ?_ | refine .leaf ?_ | refine .block ?_ | refine .gn ?_ | refine .dr ?_ | fail
  refine Go.weaken (E' := [(1, .str by_), (8, .ptr S1.next 0), (63, mv), (64, .int .i64 (elems mv).length), (65, .int .i64 (0 : Nat))]) ?_ ⟨rfl, rfl, rfl, rfl, rfl, trivial⟩
  have hlen : ∀ k, (joinW by_ (ws.take k)).length ≤ 200 := fun k => by
   have a1 := joinW_le by_ ws k
   have a2 := joinW_len by_ 12 ws fun w h => (hw w h).1
   have a3 : ws.length * (by_.length + 12) ≤ 13 * 14 := Nat.mul_le_mul hn (by omega)
   omega
  have hj1 : joinW by_ (ws.take 1) = x0 := by
   match ws, hx0 with
   | a :: l, h => simp at h; subst h; simp [joinW]
  have p3' : Bdr S1 S3 S1.next (joinW by_ (ws.take (0 + 1))) := by
   rw [show 0 + 1 = 1 from rfl, hj1]; exact p3
  refine Go.loop_ind (α := Nat) (fun i => (elems mv).length - i) (fun i E S' => E = [(1, .str by_), (8, .ptr S1.next 0), (63, mv), (64, .int .i64 (elems mv).length), (65, .int .i64 i)] ∧ i ≤ (elems mv).length ∧ Bdr S1 S' S1.next (joinW by_ (ws.take (i + 1)))) ?_ 0 _ _ ⟨rfl, Nat.zero_le _, p3'⟩
  rintro i E S4 ⟨rfl, hi, p4⟩ IH
  repeat' first
   | refine Opl.fresh (op_int rfl rfl rfl rfl) rfl (fun q hq => ?_)
   | refine .std ?_ | refine .nil ?_ | refine .seq ?_ | refine .region ?_ | refine .xs ?_ | refine .kb ?_ | refine .leaf ?_ | refine .block ?_ | refine .gn ?_ | refine .dr ?_ | fail
  refine Go.cond rfl (fun hq => ?_) (fun hq => ?_)
  ·subst hq
   have hq : i < (elems mv).length := by have := of_decide_eq_true (by assumption : decide ((i : Int) < ((elems mv).length : Nat)) = true); omega
   obtain ⟨x, v, hx, hix, ⟨hc, hxl⟩, hm⟩ := hmA.at (i := i) hq
   have hpt : ∀ S, Pt S (.cptr none v.cells 0) [.str x] := fun S => by rw [hc]; exact Pt.cptr _ _ _
   rw [List.getElem?_drop, Nat.add_comm 1 i] at hx
   have hj := joinW_take (by_ := by_) hx
   rw [if_neg (by omega)] at hj
   have hl1 := hlen (i + 1)
   have hl2 := hlen (i + 1 + 1)
   rw [hj] at hl2
   simp only [List.length_append] at hl2
   repeat' first
    | refine Opl.val (op_ixaV hml rfl rfl hix) rfl ?_
    | refine Opl.val (op_load rfl (ld_one (hpt _))) rfl ?_
    | refine Opl.call rfl (by kernel_rfl) (writeStringJ p4 by_ (by omega)) rfl (fun v S5 p5 => ?_) (fun _ _ h => h.elim)
    | refine Opl.call rfl (by kernel_rfl) (writeStringJ p5 x (by simp only [List.length_append]; omega)) rfl (fun v S6 p6 => ?_) (fun _ _ h => h.elim)
    | refine Opl.val (op_int rfl rfl rfl (inc_ok (i := i) (by omega))) rfl ?_
    | refine .std ?_ | refine .nil ?_ | refine .seq ?_ | refine .region ?_ | refine .xs ?_ | refine .kb ?_ | refine .leaf ?_ | refine .block ?_ | refine .gn ?_ | refine .dr ?_ | fail
   exact (IH (i + 1) _ _ (by omega) ⟨rfl, by omega, by rw [hj, ← List.append_assoc]; exact p6⟩).weaken ⟨rfl, rfl, rfl, rfl, rfl, trivial⟩
  ·subst hq
   have hq : (elems mv).length ≤ i := by have := of_decide_eq_false (by assumption : decide ((i : Int) < ((elems mv).length : Nat)) = false); omega
   have hnil : ws.take (i + 1) = ws := List.take_of_length_le (by omega)
   rw [hnil] at p4
   have hl1 := hlen (i + 1)
   rw [hnil] at hl1
   have hne : joinW by_ ws ≠ [] := by
    intro e
    have := joinW_ge by_ ws fun w h => (hw w h).2
    rw [e, List.length_nil] at this
    omega
   repeat' first
    | (refine Opl.call rfl (by kernel_rfl) (stringJ p4 hne (by omega)) rfl (fun v S7 hv => ?_) (fun _ _ h => h.elim); obtain ⟨rfl, rfl⟩ := hv)
    | exact At.fnr rfl rfl rfl ⟨rfl, p4.2.2.1⟩
    | refine .std ?_ | refine .nil ?_ | refine .seq ?_ | refine .region ?_ | refine .xs ?_ | refine .kb ?_ | refine .leaf ?_ | refine .block ?_ | refine .gn ?_ | refine .dr ?_ | fail
end Go.Proofs.YtodiioeddlmjhaaGreatDoor
