import Derived.Test.YtodiioeddlmjhaaGreatDoorU2a
import Derived.Test.YtodiioeddlmjhaaGreatDoorU2b
import Derived.Test.YtodiioeddlmjhaaGreatDoorU2c
import Derived.Test.YtodiioeddlmjhaaGreatDoorU2d
import Derived.Test.YtodiioeddlmjhaaGreatDoorE11
set_option linter.unusedVariables false
set_option linter.unusedSimpArgs false
namespace Go.Proofs.YtodiioeddlmjhaaGreatDoor
open Go.RowKit Go.Ev
set_option maxRecDepth 100000
set_option linter.unusedVariables false
set_option linter.unusedSimpArgs false
attribute [local irreducible] Go.Ev.opE
theorem Wrote.same {S U S8 S9 : St} {t : TypeId} {cs : List V} (h : Wrote S8 S9 S.next t cs) (k : Same U S8) (k0 : Same S U) : Same S S9 :=
 ⟨by rw [h.2.1]; exact Nat.le_trans k0.next k.next, fun id hi => by rw [h.2.2 id (by omega), (k0.trans k).find id hi]⟩
theorem arr24 : Tryz.prog.underlying 236 = some (.array 24 5) := by kernel_rfl
theorem sz_u8 : szOf Tryz.prog 5 = some 1 := by kernel_rfl
set_option maxHeartbeats 2000000 in
theorem smallF {i : Nat} (h : i < 100) : Pu Tryz.prog 223 [.int .i64 (i : Int)] (.str (digN i)) := by
 intro S
 refine CallTo.of (n := 15) Tryz.func223 rfl rfl ?_
 by_cases h10 : i < 10
 ·skip
  repeat' first
   | refine Opl.val (op_int rfl rfl rfl (lss_i (q := true) (decide_eq_true (by omega)))) rfl ?_
   | refine Opl.val (op_int rfl rfl rfl (add_nat (a := i) (b := 1) (by omega))) rfl ?_
   | refine Opl.val (op_slLH rfl rfl rfl (slice_str (i := i) (j := i + 1) (by omega) (by show i + 1 ≤ 36; omega))) rfl ?_
   | refine Go.condT rfl ?_
   | exact At.fnr rfl rfl rfl ⟨congrArg V.str (dg_lo h10), Same.refl _⟩
   | refine .std ?_ | refine .nil ?_ | refine .seq ?_ | refine .region ?_ | refine .xs ?_ | refine .kb ?_ | refine .leaf ?_ | refine .block ?_ | refine .gn ?_ | refine .dr ?_ | fail
 ·skip
  repeat' first
   | refine Opl.val (op_int rfl rfl rfl (lss_i (q := false) (decide_eq_false (by omega)))) rfl ?_
   | refine Opl.val (op_int rfl rfl rfl (n_muli (a := i) 2 (by omega))) rfl ?_
   | refine Opl.val (op_int rfl rfl rfl (add_nat (a := i * 2) (b := 2) (by omega))) rfl ?_
   | refine Opl.val (op_slLH rfl rfl rfl (slice_str (i := i * 2) (j := i * 2 + 2) (by omega) (by show i * 2 + 2 ≤ 200; omega))) rfl ?_
   | refine Go.condF rfl ?_
   | exact At.fnr rfl rfl rfl ⟨congrArg V.str (dg_hi h10 h), Same.refl _⟩
   | refine .std ?_ | refine .nil ?_ | refine .seq ?_ | refine .region ?_ | refine .xs ?_ | refine .kb ?_ | refine .leaf ?_ | refine .block ?_ | refine .gn ?_ | refine .dr ?_ | fail
theorem box24 (S : St) : ∃ U : St, U = S.new (.box 236 [.int .u8 0, .int .u8 0, .int .u8 0, .int .u8 0, .int .u8 0, .int .u8 0, .int .u8 0, .int .u8 0, .int .u8 0, .int .u8 0, .int .u8 0, .int .u8 0, .int .u8 0, .int .u8 0, .int .u8 0, .int .u8 0, .int .u8 0, .int .u8 0, .int .u8 0, .int .u8 0, .int .u8 0, .int .u8 0, .int .u8 0, .int .u8 0]) ∧ U.h.find S.next = some (.box 236 (List.replicate 24 (.int .u8 0))) ∧ S.next < U.next ∧ Same S U :=
 ⟨_, rfl, find_new S _, by simp [St.new], Same.new S _⟩
set_option maxHeartbeats 2000000 in
theorem fmtP3 {d : Nat} (h0 : 100 ≤ d) (h1 : d < 1000) (c1 : Pu Tryz.prog 224 [.int .u64 (d : Int)] (.int .i64 ((3 : Nat) : Int))) : Pu Tryz.prog 209 [.int .i64 (d : Int), .int .i64 10] (.str (digN d)) := by
 intro S
 rw [digN_digs 2 d h1 (.inl h0)]
 obtain ⟨U, hU, hb, hlt, s0⟩ := box24 S
 have k0 : Same U U := Same.refl U
 refine CallTo.of (n := 54) Tryz.func209 rfl rfl ?_
 repeat' first
  | refine Opl.val op_alloc rfl (Opl.cast (S' := U) ?_ hU)
  | refine Opl.val (op_int rfl rfl rfl (leq_i (q := true) (decide_eq_true (by omega)))) rfl ?_
  | refine Opl.val (op_int rfl rfl rfl (lss_i (q := false) (decide_eq_false (by omega)))) rfl ?_
  | refine op_gyes rfl ?_ rfl
  | refine Opl.val (op_convN rfl (c_u64 (by omega))) rfl ?_
  | refine Opl.callS (by assumption) rfl (by kernel_rfl) c1 rfl (fun S8 k8 => ?_)
  | (refine Opl.call rfl (by kernel_rfl) (fmtB3 h1 S8 S.next 236 ((k8.find _ hlt).trans hb)) rfl (fun v S9 hw => ?_) (fun _ _ h => h.elim); have k9 := hw.same k8 s0)
  | refine Opl.val (op_int rfl rfl rfl (add_nat (a := 1) (b := 3) (by decide))) rfl ?_
  | refine Opl.val (op_slLH rfl rfl rfl (slice_arr arr24 sz_u8 (i := 1) (j := 1 + 3) (by decide) (by decide) (by decide))) rfl ?_
  | refine Opl.val (op_conv rfl (conv_bytesA (rd_fcells hw.1) (toBytes_of _))) rfl ?_
  | refine Go.condT rfl ?_
  | refine Go.condF rfl ?_
  | exact At.fnr rfl rfl rfl ⟨rfl, k9⟩
  | refine .std ?_ | refine .nil ?_ | refine .seq ?_ | refine .region ?_ | refine .xs ?_ | refine .kb ?_ | refine .leaf ?_ | refine .block ?_ | refine .gn ?_ | refine .dr ?_ | fail
set_option maxHeartbeats 2000000 in
theorem fmtP4 {d : Nat} (h0 : 1000 ≤ d) (h1 : d < 10000) (c1 : Pu Tryz.prog 224 [.int .u64 (d : Int)] (.int .i64 ((4 : Nat) : Int))) : Pu Tryz.prog 209 [.int .i64 (d : Int), .int .i64 10] (.str (digN d)) := by
 intro S
 rw [digN_digs 3 d h1 (.inl h0)]
 obtain ⟨U, hU, hb, hlt, s0⟩ := box24 S
 have k0 : Same U U := Same.refl U
 refine CallTo.of (n := 54) Tryz.func209 rfl rfl ?_
 repeat' first
  | refine Opl.val op_alloc rfl (Opl.cast (S' := U) ?_ hU)
  | refine Opl.val (op_int rfl rfl rfl (leq_i (q := true) (decide_eq_true (by omega)))) rfl ?_
  | refine Opl.val (op_int rfl rfl rfl (lss_i (q := false) (decide_eq_false (by omega)))) rfl ?_
  | refine op_gyes rfl ?_ rfl
  | refine Opl.val (op_convN rfl (c_u64 (by omega))) rfl ?_
  | refine Opl.callS (by assumption) rfl (by kernel_rfl) c1 rfl (fun S8 k8 => ?_)
  | (refine Opl.call rfl (by kernel_rfl) (fmtB4 h1 S8 S.next 236 ((k8.find _ hlt).trans hb)) rfl (fun v S9 hw => ?_) (fun _ _ h => h.elim); have k9 := hw.same k8 s0)
  | refine Opl.val (op_int rfl rfl rfl (add_nat (a := 1) (b := 4) (by decide))) rfl ?_
  | refine Opl.val (op_slLH rfl rfl rfl (slice_arr arr24 sz_u8 (i := 1) (j := 1 + 4) (by decide) (by decide) (by decide))) rfl ?_
  | refine Opl.val (op_conv rfl (conv_bytesA (rd_fcells hw.1) (toBytes_of _))) rfl ?_
  | refine Go.condT rfl ?_
  | refine Go.condF rfl ?_
  | exact At.fnr rfl rfl rfl ⟨rfl, k9⟩
  | refine .std ?_ | refine .nil ?_ | refine .seq ?_ | refine .region ?_ | refine .xs ?_ | refine .kb ?_ | refine .leaf ?_ | refine .block ?_ | refine .gn ?_ | refine .dr ?_ | fail
set_option maxHeartbeats 2000000 in
theorem fmtP5 {d : Nat} (h0 : 10000 ≤ d) (h1 : d < 100000) (c1 : Pu Tryz.prog 224 [.int .u64 (d : Int)] (.int .i64 ((5 : Nat) : Int))) : Pu Tryz.prog 209 [.int .i64 (d : Int), .int .i64 10] (.str (digN d)) := by
 intro S
 rw [digN_digs 4 d h1 (.inl h0)]
 obtain ⟨U, hU, hb, hlt, s0⟩ := box24 S
 have k0 : Same U U := Same.refl U
 refine CallTo.of (n := 54) Tryz.func209 rfl rfl ?_
 repeat' first
  | refine Opl.val op_alloc rfl (Opl.cast (S' := U) ?_ hU)
  | refine Opl.val (op_int rfl rfl rfl (leq_i (q := true) (decide_eq_true (by omega)))) rfl ?_
  | refine Opl.val (op_int rfl rfl rfl (lss_i (q := false) (decide_eq_false (by omega)))) rfl ?_
  | refine op_gyes rfl ?_ rfl
  | refine Opl.val (op_convN rfl (c_u64 (by omega))) rfl ?_
  | refine Opl.callS (by assumption) rfl (by kernel_rfl) c1 rfl (fun S8 k8 => ?_)
  | (refine Opl.call rfl (by kernel_rfl) (fmtB5 h1 S8 S.next 236 ((k8.find _ hlt).trans hb)) rfl (fun v S9 hw => ?_) (fun _ _ h => h.elim); have k9 := hw.same k8 s0)
  | refine Opl.val (op_int rfl rfl rfl (add_nat (a := 1) (b := 5) (by decide))) rfl ?_
  | refine Opl.val (op_slLH rfl rfl rfl (slice_arr arr24 sz_u8 (i := 1) (j := 1 + 5) (by decide) (by decide) (by decide))) rfl ?_
  | refine Opl.val (op_conv rfl (conv_bytesA (rd_fcells hw.1) (toBytes_of _))) rfl ?_
  | refine Go.condT rfl ?_
  | refine Go.condF rfl ?_
  | exact At.fnr rfl rfl rfl ⟨rfl, k9⟩
  | refine .std ?_ | refine .nil ?_ | refine .seq ?_ | refine .region ?_ | refine .xs ?_ | refine .kb ?_ | refine .leaf ?_ | refine .block ?_ | refine .gn ?_ | refine .dr ?_ | fail
set_option maxHeartbeats 2000000 in
theorem fmtP6 {d : Nat} (h0 : 100000 ≤ d) (h1 : d < 1000000) (c1 : Pu Tryz.prog 224 [.int .u64 (d : Int)] (.int .i64 ((6 : Nat) : Int))) : Pu Tryz.prog 209 [.int .i64 (d : Int), .int .i64 10] (.str (digN d)) := by
 intro S
 rw [digN_digs 5 d h1 (.inl h0)]
 obtain ⟨U, hU, hb, hlt, s0⟩ := box24 S
 have k0 : Same U U := Same.refl U
 refine CallTo.of (n := 54) Tryz.func209 rfl rfl ?_
 repeat' first
  | refine Opl.val op_alloc rfl (Opl.cast (S' := U) ?_ hU)
  | refine Opl.val (op_int rfl rfl rfl (leq_i (q := true) (decide_eq_true (by omega)))) rfl ?_
  | refine Opl.val (op_int rfl rfl rfl (lss_i (q := false) (decide_eq_false (by omega)))) rfl ?_
  | refine op_gyes rfl ?_ rfl
  | refine Opl.val (op_convN rfl (c_u64 (by omega))) rfl ?_
  | refine Opl.callS (by assumption) rfl (by kernel_rfl) c1 rfl (fun S8 k8 => ?_)
  | (refine Opl.call rfl (by kernel_rfl) (fmtB6 h1 S8 S.next 236 ((k8.find _ hlt).trans hb)) rfl (fun v S9 hw => ?_) (fun _ _ h => h.elim); have k9 := hw.same k8 s0)
  | refine Opl.val (op_int rfl rfl rfl (add_nat (a := 1) (b := 6) (by decide))) rfl ?_
  | refine Opl.val (op_slLH rfl rfl rfl (slice_arr arr24 sz_u8 (i := 1) (j := 1 + 6) (by decide) (by decide) (by decide))) rfl ?_
  | refine Opl.val (op_conv rfl (conv_bytesA (rd_fcells hw.1) (toBytes_of _))) rfl ?_
  | refine Go.condT rfl ?_
  | refine Go.condF rfl ?_
  | exact At.fnr rfl rfl rfl ⟨rfl, k9⟩
  | refine .std ?_ | refine .nil ?_ | refine .seq ?_ | refine .region ?_ | refine .xs ?_ | refine .kb ?_ | refine .leaf ?_ | refine .block ?_ | refine .gn ?_ | refine .dr ?_ | fail
set_option maxHeartbeats 2000000 in
theorem fmtP7 {d : Nat} (h0 : 1000000 ≤ d) (h1 : d < 10000000) (c1 : Pu Tryz.prog 224 [.int .u64 (d : Int)] (.int .i64 ((7 : Nat) : Int))) : Pu Tryz.prog 209 [.int .i64 (d : Int), .int .i64 10] (.str (digN d)) := by
 intro S
 rw [digN_digs 6 d h1 (.inl h0)]
 obtain ⟨U, hU, hb, hlt, s0⟩ := box24 S
 have k0 : Same U U := Same.refl U
 refine CallTo.of (n := 54) Tryz.func209 rfl rfl ?_
 repeat' first
  | refine Opl.val op_alloc rfl (Opl.cast (S' := U) ?_ hU)
  | refine Opl.val (op_int rfl rfl rfl (leq_i (q := true) (decide_eq_true (by omega)))) rfl ?_
  | refine Opl.val (op_int rfl rfl rfl (lss_i (q := false) (decide_eq_false (by omega)))) rfl ?_
  | refine op_gyes rfl ?_ rfl
  | refine Opl.val (op_convN rfl (c_u64 (by omega))) rfl ?_
  | refine Opl.callS (by assumption) rfl (by kernel_rfl) c1 rfl (fun S8 k8 => ?_)
  | (refine Opl.call rfl (by kernel_rfl) (fmtB7 h1 S8 S.next 236 ((k8.find _ hlt).trans hb)) rfl (fun v S9 hw => ?_) (fun _ _ h => h.elim); have k9 := hw.same k8 s0)
  | refine Opl.val (op_int rfl rfl rfl (add_nat (a := 1) (b := 7) (by decide))) rfl ?_
  | refine Opl.val (op_slLH rfl rfl rfl (slice_arr arr24 sz_u8 (i := 1) (j := 1 + 7) (by decide) (by decide) (by decide))) rfl ?_
  | refine Opl.val (op_conv rfl (conv_bytesA (rd_fcells hw.1) (toBytes_of _))) rfl ?_
  | refine Go.condT rfl ?_
  | refine Go.condF rfl ?_
  | exact At.fnr rfl rfl rfl ⟨rfl, k9⟩
  | refine .std ?_ | refine .nil ?_ | refine .seq ?_ | refine .region ?_ | refine .xs ?_ | refine .kb ?_ | refine .leaf ?_ | refine .block ?_ | refine .gn ?_ | refine .dr ?_ | fail
set_option maxHeartbeats 2000000 in
theorem fmtP8 {d : Nat} (h0 : 10000000 ≤ d) (h1 : d < 100000000) (c1 : Pu Tryz.prog 224 [.int .u64 (d : Int)] (.int .i64 ((8 : Nat) : Int))) : Pu Tryz.prog 209 [.int .i64 (d : Int), .int .i64 10] (.str (digN d)) := by
 intro S
 rw [digN_digs 7 d h1 (.inl h0)]
 obtain ⟨U, hU, hb, hlt, s0⟩ := box24 S
 have k0 : Same U U := Same.refl U
 refine CallTo.of (n := 54) Tryz.func209 rfl rfl ?_
 repeat' first
  | refine Opl.val op_alloc rfl (Opl.cast (S' := U) ?_ hU)
  | refine Opl.val (op_int rfl rfl rfl (leq_i (q := true) (decide_eq_true (by omega)))) rfl ?_
  | refine Opl.val (op_int rfl rfl rfl (lss_i (q := false) (decide_eq_false (by omega)))) rfl ?_
  | refine op_gyes rfl ?_ rfl
  | refine Opl.val (op_convN rfl (c_u64 (by omega))) rfl ?_
  | refine Opl.callS (by assumption) rfl (by kernel_rfl) c1 rfl (fun S8 k8 => ?_)
  | (refine Opl.call rfl (by kernel_rfl) (fmtB8 h1 S8 S.next 236 ((k8.find _ hlt).trans hb)) rfl (fun v S9 hw => ?_) (fun _ _ h => h.elim); have k9 := hw.same k8 s0)
  | refine Opl.val (op_int rfl rfl rfl (add_nat (a := 1) (b := 8) (by decide))) rfl ?_
  | refine Opl.val (op_slLH rfl rfl rfl (slice_arr arr24 sz_u8 (i := 1) (j := 1 + 8) (by decide) (by decide) (by decide))) rfl ?_
  | refine Opl.val (op_conv rfl (conv_bytesA (rd_fcells hw.1) (toBytes_of _))) rfl ?_
  | refine Go.condT rfl ?_
  | refine Go.condF rfl ?_
  | exact At.fnr rfl rfl rfl ⟨rfl, k9⟩
  | refine .std ?_ | refine .nil ?_ | refine .seq ?_ | refine .region ?_ | refine .xs ?_ | refine .kb ?_ | refine .leaf ?_ | refine .block ?_ | refine .gn ?_ | refine .dr ?_ | fail
set_option maxHeartbeats 2000000 in
theorem fmtP9 {d : Nat} (h0 : 100000000 ≤ d) (h1 : d < 1000000000) (c1 : Pu Tryz.prog 224 [.int .u64 (d : Int)] (.int .i64 ((9 : Nat) : Int))) : Pu Tryz.prog 209 [.int .i64 (d : Int), .int .i64 10] (.str (digN d)) := by
 intro S
 rw [digN_digs 8 d h1 (.inl h0)]
 obtain ⟨U, hU, hb, hlt, s0⟩ := box24 S
 have k0 : Same U U := Same.refl U
 refine CallTo.of (n := 54) Tryz.func209 rfl rfl ?_
 repeat' first
  | refine Opl.val op_alloc rfl (Opl.cast (S' := U) ?_ hU)
  | refine Opl.val (op_int rfl rfl rfl (leq_i (q := true) (decide_eq_true (by omega)))) rfl ?_
  | refine Opl.val (op_int rfl rfl rfl (lss_i (q := false) (decide_eq_false (by omega)))) rfl ?_
  | refine op_gyes rfl ?_ rfl
  | refine Opl.val (op_convN rfl (c_u64 (by omega))) rfl ?_
  | refine Opl.callS (by assumption) rfl (by kernel_rfl) c1 rfl (fun S8 k8 => ?_)
  | (refine Opl.call rfl (by kernel_rfl) (fmtB9 h1 S8 S.next 236 ((k8.find _ hlt).trans hb)) rfl (fun v S9 hw => ?_) (fun _ _ h => h.elim); have k9 := hw.same k8 s0)
  | refine Opl.val (op_int rfl rfl rfl (add_nat (a := 1) (b := 9) (by decide))) rfl ?_
  | refine Opl.val (op_slLH rfl rfl rfl (slice_arr arr24 sz_u8 (i := 1) (j := 1 + 9) (by decide) (by decide) (by decide))) rfl ?_
  | refine Opl.val (op_conv rfl (conv_bytesA (rd_fcells hw.1) (toBytes_of _))) rfl ?_
  | refine Go.condT rfl ?_
  | refine Go.condF rfl ?_
  | exact At.fnr rfl rfl rfl ⟨rfl, k9⟩
  | refine .std ?_ | refine .nil ?_ | refine .seq ?_ | refine .region ?_ | refine .xs ?_ | refine .kb ?_ | refine .leaf ?_ | refine .block ?_ | refine .gn ?_ | refine .dr ?_ | fail
set_option maxHeartbeats 2000000 in
theorem fmtN1 {d : Nat} (h0 : 1 ≤ d) (h1 : d < 10) (c1 : Pu Tryz.prog 224 [.int .u64 (d : Int)] (.int .i64 ((1 : Nat) : Int))) : Pu Tryz.prog 209 [.int .i64 (-(d : Int)), .int .i64 10] (.str (45 :: digN d)) := by
 intro S
 rw [digN_digs 0 d h1 (.inr rfl)]
 obtain ⟨U, hU, hb, hlt, s0⟩ := box24 S
 have k0 : Same U U := Same.refl U
 refine CallTo.of (n := 54) Tryz.func209 rfl rfl ?_
 repeat' first
  | refine Opl.val op_alloc rfl (Opl.cast (S' := U) ?_ hU)
  | refine Opl.val (op_int rfl rfl rfl (leq_i (q := false) (decide_eq_false (by omega)))) rfl ?_
  | refine Opl.val (op_int rfl rfl rfl (lss_i (q := true) (decide_eq_true (by omega)))) rfl ?_
  | refine op_gyes rfl ?_ rfl
  | refine Opl.val (op_convN rfl (neg64 (d := d) (by omega) (by omega))) rfl ?_
  | refine Opl.val (op_un rfl (neg64b (d := d) (by omega) (by omega))) rfl ?_
  | refine Opl.callS (by assumption) rfl (by kernel_rfl) c1 rfl (fun S8 k8 => ?_)
  | (refine Opl.call rfl (by kernel_rfl) (fmtB1 h1 S8 S.next 236 ((k8.find _ hlt).trans hb)) rfl (fun v S9 hw => ?_) (fun _ _ h => h.elim); have k9 := hw.same k8 s0)
  | refine Opl.val (op_int rfl rfl rfl (add_nat (a := 1) (b := 1) (by decide))) rfl ?_
  | refine Opl.val (op_slLH rfl rfl rfl (slice_arr arr24 sz_u8 (i := 1) (j := 1 + 1) (by decide) (by decide) (by decide))) rfl ?_
  | refine Opl.val (op_slH rfl rfl (slice_arr0 arr24 sz_u8 (j := 1 + 1) (by decide) (by decide))) rfl ?_
  | refine Opl.val (op_ixaR arr24 sz_u8 (i := 0) rfl rfl (by decide)) rfl ?_
  | (refine Opl.set hw.1 rfl rfl rfl (by unfold fcells; simp) (fun S10 hb10 hn10 hk10 => ?_); have hc10 : S10.h.find S.next = some (.box 236 (fcells (.int .u8 ((45 : UInt8).toNat : Int)) 1 d)) := hb10; have k10 : Same S S10 := ⟨(hn10 ▸ k9.next), fun id hi => (hk10 id (by omega)).trans (k9.find id hi)⟩)
  | refine Opl.val (op_conv rfl (conv_bytesA (rd_fcells0 hc10) (toBytes_of _))) rfl ?_
  | refine Go.condT rfl ?_
  | refine Go.condF rfl ?_
  | exact At.fnr rfl rfl rfl ⟨rfl, k10⟩
  | refine .std ?_ | refine .nil ?_ | refine .seq ?_ | refine .region ?_ | refine .xs ?_ | refine .kb ?_ | refine .leaf ?_ | refine .block ?_ | refine .gn ?_ | refine .dr ?_ | fail
set_option maxHeartbeats 2000000 in
theorem fmtN2 {d : Nat} (h0 : 10 ≤ d) (h1 : d < 100) (c1 : Pu Tryz.prog 224 [.int .u64 (d : Int)] (.int .i64 ((2 : Nat) : Int))) : Pu Tryz.prog 209 [.int .i64 (-(d : Int)), .int .i64 10] (.str (45 :: digN d)) := by
 intro S
 rw [digN_digs 1 d h1 (.inl h0)]
 obtain ⟨U, hU, hb, hlt, s0⟩ := box24 S
 have k0 : Same U U := Same.refl U
 refine CallTo.of (n := 54) Tryz.func209 rfl rfl ?_
 repeat' first
  | refine Opl.val op_alloc rfl (Opl.cast (S' := U) ?_ hU)
  | refine Opl.val (op_int rfl rfl rfl (leq_i (q := false) (decide_eq_false (by omega)))) rfl ?_
  | refine Opl.val (op_int rfl rfl rfl (lss_i (q := true) (decide_eq_true (by omega)))) rfl ?_
  | refine op_gyes rfl ?_ rfl
  | refine Opl.val (op_convN rfl (neg64 (d := d) (by omega) (by omega))) rfl ?_
  | refine Opl.val (op_un rfl (neg64b (d := d) (by omega) (by omega))) rfl ?_
  | refine Opl.callS (by assumption) rfl (by kernel_rfl) c1 rfl (fun S8 k8 => ?_)
  | (refine Opl.call rfl (by kernel_rfl) (fmtB2 h1 S8 S.next 236 ((k8.find _ hlt).trans hb)) rfl (fun v S9 hw => ?_) (fun _ _ h => h.elim); have k9 := hw.same k8 s0)
  | refine Opl.val (op_int rfl rfl rfl (add_nat (a := 1) (b := 2) (by decide))) rfl ?_
  | refine Opl.val (op_slLH rfl rfl rfl (slice_arr arr24 sz_u8 (i := 1) (j := 1 + 2) (by decide) (by decide) (by decide))) rfl ?_
  | refine Opl.val (op_slH rfl rfl (slice_arr0 arr24 sz_u8 (j := 1 + 2) (by decide) (by decide))) rfl ?_
  | refine Opl.val (op_ixaR arr24 sz_u8 (i := 0) rfl rfl (by decide)) rfl ?_
  | (refine Opl.set hw.1 rfl rfl rfl (by unfold fcells; simp) (fun S10 hb10 hn10 hk10 => ?_); have hc10 : S10.h.find S.next = some (.box 236 (fcells (.int .u8 ((45 : UInt8).toNat : Int)) 2 d)) := hb10; have k10 : Same S S10 := ⟨(hn10 ▸ k9.next), fun id hi => (hk10 id (by omega)).trans (k9.find id hi)⟩)
  | refine Opl.val (op_conv rfl (conv_bytesA (rd_fcells0 hc10) (toBytes_of _))) rfl ?_
  | refine Go.condT rfl ?_
  | refine Go.condF rfl ?_
  | exact At.fnr rfl rfl rfl ⟨rfl, k10⟩
  | refine .std ?_ | refine .nil ?_ | refine .seq ?_ | refine .region ?_ | refine .xs ?_ | refine .kb ?_ | refine .leaf ?_ | refine .block ?_ | refine .gn ?_ | refine .dr ?_ | fail
set_option maxHeartbeats 2000000 in
theorem fmtN3 {d : Nat} (h0 : 100 ≤ d) (h1 : d < 1000) (c1 : Pu Tryz.prog 224 [.int .u64 (d : Int)] (.int .i64 ((3 : Nat) : Int))) : Pu Tryz.prog 209 [.int .i64 (-(d : Int)), .int .i64 10] (.str (45 :: digN d)) := by
 intro S
 rw [digN_digs 2 d h1 (.inl h0)]
 obtain ⟨U, hU, hb, hlt, s0⟩ := box24 S
 have k0 : Same U U := Same.refl U
 refine CallTo.of (n := 54) Tryz.func209 rfl rfl ?_
 repeat' first
  | refine Opl.val op_alloc rfl (Opl.cast (S' := U) ?_ hU)
  | refine Opl.val (op_int rfl rfl rfl (leq_i (q := false) (decide_eq_false (by omega)))) rfl ?_
  | refine Opl.val (op_int rfl rfl rfl (lss_i (q := true) (decide_eq_true (by omega)))) rfl ?_
  | refine op_gyes rfl ?_ rfl
  | refine Opl.val (op_convN rfl (neg64 (d := d) (by omega) (by omega))) rfl ?_
  | refine Opl.val (op_un rfl (neg64b (d := d) (by omega) (by omega))) rfl ?_
  | refine Opl.callS (by assumption) rfl (by kernel_rfl) c1 rfl (fun S8 k8 => ?_)
  | (refine Opl.call rfl (by kernel_rfl) (fmtB3 h1 S8 S.next 236 ((k8.find _ hlt).trans hb)) rfl (fun v S9 hw => ?_) (fun _ _ h => h.elim); have k9 := hw.same k8 s0)
  | refine Opl.val (op_int rfl rfl rfl (add_nat (a := 1) (b := 3) (by decide))) rfl ?_
  | refine Opl.val (op_slLH rfl rfl rfl (slice_arr arr24 sz_u8 (i := 1) (j := 1 + 3) (by decide) (by decide) (by decide))) rfl ?_
  | refine Opl.val (op_slH rfl rfl (slice_arr0 arr24 sz_u8 (j := 1 + 3) (by decide) (by decide))) rfl ?_
  | refine Opl.val (op_ixaR arr24 sz_u8 (i := 0) rfl rfl (by decide)) rfl ?_
  | (refine Opl.set hw.1 rfl rfl rfl (by unfold fcells; simp) (fun S10 hb10 hn10 hk10 => ?_); have hc10 : S10.h.find S.next = some (.box 236 (fcells (.int .u8 ((45 : UInt8).toNat : Int)) 3 d)) := hb10; have k10 : Same S S10 := ⟨(hn10 ▸ k9.next), fun id hi => (hk10 id (by omega)).trans (k9.find id hi)⟩)
  | refine Opl.val (op_conv rfl (conv_bytesA (rd_fcells0 hc10) (toBytes_of _))) rfl ?_
  | refine Go.condT rfl ?_
  | refine Go.condF rfl ?_
  | exact At.fnr rfl rfl rfl ⟨rfl, k10⟩
  | refine .std ?_ | refine .nil ?_ | refine .seq ?_ | refine .region ?_ | refine .xs ?_ | refine .kb ?_ | refine .leaf ?_ | refine .block ?_ | refine .gn ?_ | refine .dr ?_ | fail
set_option maxHeartbeats 2000000 in
theorem fmtN4 {d : Nat} (h0 : 1000 ≤ d) (h1 : d < 10000) (c1 : Pu Tryz.prog 224 [.int .u64 (d : Int)] (.int .i64 ((4 : Nat) : Int))) : Pu Tryz.prog 209 [.int .i64 (-(d : Int)), .int .i64 10] (.str (45 :: digN d)) := by
 intro S
 rw [digN_digs 3 d h1 (.inl h0)]
 obtain ⟨U, hU, hb, hlt, s0⟩ := box24 S
 have k0 : Same U U := Same.refl U
 refine CallTo.of (n := 54) Tryz.func209 rfl rfl ?_
 repeat' first
  | refine Opl.val op_alloc rfl (Opl.cast (S' := U) ?_ hU)
  | refine Opl.val (op_int rfl rfl rfl (leq_i (q := false) (decide_eq_false (by omega)))) rfl ?_
  | refine Opl.val (op_int rfl rfl rfl (lss_i (q := true) (decide_eq_true (by omega)))) rfl ?_
  | refine op_gyes rfl ?_ rfl
  | refine Opl.val (op_convN rfl (neg64 (d := d) (by omega) (by omega))) rfl ?_
  | refine Opl.val (op_un rfl (neg64b (d := d) (by omega) (by omega))) rfl ?_
  | refine Opl.callS (by assumption) rfl (by kernel_rfl) c1 rfl (fun S8 k8 => ?_)
  | (refine Opl.call rfl (by kernel_rfl) (fmtB4 h1 S8 S.next 236 ((k8.find _ hlt).trans hb)) rfl (fun v S9 hw => ?_) (fun _ _ h => h.elim); have k9 := hw.same k8 s0)
  | refine Opl.val (op_int rfl rfl rfl (add_nat (a := 1) (b := 4) (by decide))) rfl ?_
  | refine Opl.val (op_slLH rfl rfl rfl (slice_arr arr24 sz_u8 (i := 1) (j := 1 + 4) (by decide) (by decide) (by decide))) rfl ?_
  | refine Opl.val (op_slH rfl rfl (slice_arr0 arr24 sz_u8 (j := 1 + 4) (by decide) (by decide))) rfl ?_
  | refine Opl.val (op_ixaR arr24 sz_u8 (i := 0) rfl rfl (by decide)) rfl ?_
  | (refine Opl.set hw.1 rfl rfl rfl (by unfold fcells; simp) (fun S10 hb10 hn10 hk10 => ?_); have hc10 : S10.h.find S.next = some (.box 236 (fcells (.int .u8 ((45 : UInt8).toNat : Int)) 4 d)) := hb10; have k10 : Same S S10 := ⟨(hn10 ▸ k9.next), fun id hi => (hk10 id (by omega)).trans (k9.find id hi)⟩)
  | refine Opl.val (op_conv rfl (conv_bytesA (rd_fcells0 hc10) (toBytes_of _))) rfl ?_
  | refine Go.condT rfl ?_
  | refine Go.condF rfl ?_
  | exact At.fnr rfl rfl rfl ⟨rfl, k10⟩
  | refine .std ?_ | refine .nil ?_ | refine .seq ?_ | refine .region ?_ | refine .xs ?_ | refine .kb ?_ | refine .leaf ?_ | refine .block ?_ | refine .gn ?_ | refine .dr ?_ | fail
set_option maxHeartbeats 2000000 in
theorem fmtN5 {d : Nat} (h0 : 10000 ≤ d) (h1 : d < 100000) (c1 : Pu Tryz.prog 224 [.int .u64 (d : Int)] (.int .i64 ((5 : Nat) : Int))) : Pu Tryz.prog 209 [.int .i64 (-(d : Int)), .int .i64 10] (.str (45 :: digN d)) := by
 intro S
 rw [digN_digs 4 d h1 (.inl h0)]
 obtain ⟨U, hU, hb, hlt, s0⟩ := box24 S
 have k0 : Same U U := Same.refl U
 refine CallTo.of (n := 54) Tryz.func209 rfl rfl ?_
 repeat' first
  | refine Opl.val op_alloc rfl (Opl.cast (S' := U) ?_ hU)
  | refine Opl.val (op_int rfl rfl rfl (leq_i (q := false) (decide_eq_false (by omega)))) rfl ?_
  | refine Opl.val (op_int rfl rfl rfl (lss_i (q := true) (decide_eq_true (by omega)))) rfl ?_
  | refine op_gyes rfl ?_ rfl
  | refine Opl.val (op_convN rfl (neg64 (d := d) (by omega) (by omega))) rfl ?_
  | refine Opl.val (op_un rfl (neg64b (d := d) (by omega) (by omega))) rfl ?_
  | refine Opl.callS (by assumption) rfl (by kernel_rfl) c1 rfl (fun S8 k8 => ?_)
  | (refine Opl.call rfl (by kernel_rfl) (fmtB5 h1 S8 S.next 236 ((k8.find _ hlt).trans hb)) rfl (fun v S9 hw => ?_) (fun _ _ h => h.elim); have k9 := hw.same k8 s0)
  | refine Opl.val (op_int rfl rfl rfl (add_nat (a := 1) (b := 5) (by decide))) rfl ?_
  | refine Opl.val (op_slLH rfl rfl rfl (slice_arr arr24 sz_u8 (i := 1) (j := 1 + 5) (by decide) (by decide) (by decide))) rfl ?_
  | refine Opl.val (op_slH rfl rfl (slice_arr0 arr24 sz_u8 (j := 1 + 5) (by decide) (by decide))) rfl ?_
  | refine Opl.val (op_ixaR arr24 sz_u8 (i := 0) rfl rfl (by decide)) rfl ?_
  | (refine Opl.set hw.1 rfl rfl rfl (by unfold fcells; simp) (fun S10 hb10 hn10 hk10 => ?_); have hc10 : S10.h.find S.next = some (.box 236 (fcells (.int .u8 ((45 : UInt8).toNat : Int)) 5 d)) := hb10; have k10 : Same S S10 := ⟨(hn10 ▸ k9.next), fun id hi => (hk10 id (by omega)).trans (k9.find id hi)⟩)
  | refine Opl.val (op_conv rfl (conv_bytesA (rd_fcells0 hc10) (toBytes_of _))) rfl ?_
  | refine Go.condT rfl ?_
  | refine Go.condF rfl ?_
  | exact At.fnr rfl rfl rfl ⟨rfl, k10⟩
  | refine .std ?_ | refine .nil ?_ | refine .seq ?_ | refine .region ?_ | refine .xs ?_ | refine .kb ?_ | refine .leaf ?_ | refine .block ?_ | refine .gn ?_ | refine .dr ?_ | fail
set_option maxHeartbeats 2000000 in
theorem fmtN6 {d : Nat} (h0 : 100000 ≤ d) (h1 : d < 1000000) (c1 : Pu Tryz.prog 224 [.int .u64 (d : Int)] (.int .i64 ((6 : Nat) : Int))) : Pu Tryz.prog 209 [.int .i64 (-(d : Int)), .int .i64 10] (.str (45 :: digN d)) := by
 intro S
 rw [digN_digs 5 d h1 (.inl h0)]
 obtain ⟨U, hU, hb, hlt, s0⟩ := box24 S
 have k0 : Same U U := Same.refl U
 refine CallTo.of (n := 54) Tryz.func209 rfl rfl ?_
 repeat' first
  | refine Opl.val op_alloc rfl (Opl.cast (S' := U) ?_ hU)
  | refine Opl.val (op_int rfl rfl rfl (leq_i (q := false) (decide_eq_false (by omega)))) rfl ?_
  | refine Opl.val (op_int rfl rfl rfl (lss_i (q := true) (decide_eq_true (by omega)))) rfl ?_
  | refine op_gyes rfl ?_ rfl
  | refine Opl.val (op_convN rfl (neg64 (d := d) (by omega) (by omega))) rfl ?_
  | refine Opl.val (op_un rfl (neg64b (d := d) (by omega) (by omega))) rfl ?_
  | refine Opl.callS (by assumption) rfl (by kernel_rfl) c1 rfl (fun S8 k8 => ?_)
  | (refine Opl.call rfl (by kernel_rfl) (fmtB6 h1 S8 S.next 236 ((k8.find _ hlt).trans hb)) rfl (fun v S9 hw => ?_) (fun _ _ h => h.elim); have k9 := hw.same k8 s0)
  | refine Opl.val (op_int rfl rfl rfl (add_nat (a := 1) (b := 6) (by decide))) rfl ?_
  | refine Opl.val (op_slLH rfl rfl rfl (slice_arr arr24 sz_u8 (i := 1) (j := 1 + 6) (by decide) (by decide) (by decide))) rfl ?_
  | refine Opl.val (op_slH rfl rfl (slice_arr0 arr24 sz_u8 (j := 1 + 6) (by decide) (by decide))) rfl ?_
  | refine Opl.val (op_ixaR arr24 sz_u8 (i := 0) rfl rfl (by decide)) rfl ?_
  | (refine Opl.set hw.1 rfl rfl rfl (by unfold fcells; simp) (fun S10 hb10 hn10 hk10 => ?_); have hc10 : S10.h.find S.next = some (.box 236 (fcells (.int .u8 ((45 : UInt8).toNat : Int)) 6 d)) := hb10; have k10 : Same S S10 := ⟨(hn10 ▸ k9.next), fun id hi => (hk10 id (by omega)).trans (k9.find id hi)⟩)
  | refine Opl.val (op_conv rfl (conv_bytesA (rd_fcells0 hc10) (toBytes_of _))) rfl ?_
  | refine Go.condT rfl ?_
  | refine Go.condF rfl ?_
  | exact At.fnr rfl rfl rfl ⟨rfl, k10⟩
  | refine .std ?_ | refine .nil ?_ | refine .seq ?_ | refine .region ?_ | refine .xs ?_ | refine .kb ?_ | refine .leaf ?_ | refine .block ?_ | refine .gn ?_ | refine .dr ?_ | fail
set_option maxHeartbeats 2000000 in
theorem fmtN7 {d : Nat} (h0 : 1000000 ≤ d) (h1 : d < 10000000) (c1 : Pu Tryz.prog 224 [.int .u64 (d : Int)] (.int .i64 ((7 : Nat) : Int))) : Pu Tryz.prog 209 [.int .i64 (-(d : Int)), .int .i64 10] (.str (45 :: digN d)) := by
 intro S
 rw [digN_digs 6 d h1 (.inl h0)]
 obtain ⟨U, hU, hb, hlt, s0⟩ := box24 S
 have k0 : Same U U := Same.refl U
 refine CallTo.of (n := 54) Tryz.func209 rfl rfl ?_
 repeat' first
  | refine Opl.val op_alloc rfl (Opl.cast (S' := U) ?_ hU)
  | refine Opl.val (op_int rfl rfl rfl (leq_i (q := false) (decide_eq_false (by omega)))) rfl ?_
  | refine Opl.val (op_int rfl rfl rfl (lss_i (q := true) (decide_eq_true (by omega)))) rfl ?_
  | refine op_gyes rfl ?_ rfl
  | refine Opl.val (op_convN rfl (neg64 (d := d) (by omega) (by omega))) rfl ?_
  | refine Opl.val (op_un rfl (neg64b (d := d) (by omega) (by omega))) rfl ?_
  | refine Opl.callS (by assumption) rfl (by kernel_rfl) c1 rfl (fun S8 k8 => ?_)
  | (refine Opl.call rfl (by kernel_rfl) (fmtB7 h1 S8 S.next 236 ((k8.find _ hlt).trans hb)) rfl (fun v S9 hw => ?_) (fun _ _ h => h.elim); have k9 := hw.same k8 s0)
  | refine Opl.val (op_int rfl rfl rfl (add_nat (a := 1) (b := 7) (by decide))) rfl ?_
  | refine Opl.val (op_slLH rfl rfl rfl (slice_arr arr24 sz_u8 (i := 1) (j := 1 + 7) (by decide) (by decide) (by decide))) rfl ?_
  | refine Opl.val (op_slH rfl rfl (slice_arr0 arr24 sz_u8 (j := 1 + 7) (by decide) (by decide))) rfl ?_
  | refine Opl.val (op_ixaR arr24 sz_u8 (i := 0) rfl rfl (by decide)) rfl ?_
  | (refine Opl.set hw.1 rfl rfl rfl (by unfold fcells; simp) (fun S10 hb10 hn10 hk10 => ?_); have hc10 : S10.h.find S.next = some (.box 236 (fcells (.int .u8 ((45 : UInt8).toNat : Int)) 7 d)) := hb10; have k10 : Same S S10 := ⟨(hn10 ▸ k9.next), fun id hi => (hk10 id (by omega)).trans (k9.find id hi)⟩)
  | refine Opl.val (op_conv rfl (conv_bytesA (rd_fcells0 hc10) (toBytes_of _))) rfl ?_
  | refine Go.condT rfl ?_
  | refine Go.condF rfl ?_
  | exact At.fnr rfl rfl rfl ⟨rfl, k10⟩
  | refine .std ?_ | refine .nil ?_ | refine .seq ?_ | refine .region ?_ | refine .xs ?_ | refine .kb ?_ | refine .leaf ?_ | refine .block ?_ | refine .gn ?_ | refine .dr ?_ | fail
set_option maxHeartbeats 2000000 in
theorem fmtN8 {d : Nat} (h0 : 10000000 ≤ d) (h1 : d < 100000000) (c1 : Pu Tryz.prog 224 [.int .u64 (d : Int)] (.int .i64 ((8 : Nat) : Int))) : Pu Tryz.prog 209 [.int .i64 (-(d : Int)), .int .i64 10] (.str (45 :: digN d)) := by
 intro S
 rw [digN_digs 7 d h1 (.inl h0)]
 obtain ⟨U, hU, hb, hlt, s0⟩ := box24 S
 have k0 : Same U U := Same.refl U
 refine CallTo.of (n := 54) Tryz.func209 rfl rfl ?_
 repeat' first
  | refine Opl.val op_alloc rfl (Opl.cast (S' := U) ?_ hU)
  | refine Opl.val (op_int rfl rfl rfl (leq_i (q := false) (decide_eq_false (by omega)))) rfl ?_
  | refine Opl.val (op_int rfl rfl rfl (lss_i (q := true) (decide_eq_true (by omega)))) rfl ?_
  | refine op_gyes rfl ?_ rfl
  | refine Opl.val (op_convN rfl (neg64 (d := d) (by omega) (by omega))) rfl ?_
  | refine Opl.val (op_un rfl (neg64b (d := d) (by omega) (by omega))) rfl ?_
  | refine Opl.callS (by assumption) rfl (by kernel_rfl) c1 rfl (fun S8 k8 => ?_)
  | (refine Opl.call rfl (by kernel_rfl) (fmtB8 h1 S8 S.next 236 ((k8.find _ hlt).trans hb)) rfl (fun v S9 hw => ?_) (fun _ _ h => h.elim); have k9 := hw.same k8 s0)
  | refine Opl.val (op_int rfl rfl rfl (add_nat (a := 1) (b := 8) (by decide))) rfl ?_
  | refine Opl.val (op_slLH rfl rfl rfl (slice_arr arr24 sz_u8 (i := 1) (j := 1 + 8) (by decide) (by decide) (by decide))) rfl ?_
  | refine Opl.val (op_slH rfl rfl (slice_arr0 arr24 sz_u8 (j := 1 + 8) (by decide) (by decide))) rfl ?_
  | refine Opl.val (op_ixaR arr24 sz_u8 (i := 0) rfl rfl (by decide)) rfl ?_
  | (refine Opl.set hw.1 rfl rfl rfl (by unfold fcells; simp) (fun S10 hb10 hn10 hk10 => ?_); have hc10 : S10.h.find S.next = some (.box 236 (fcells (.int .u8 ((45 : UInt8).toNat : Int)) 8 d)) := hb10; have k10 : Same S S10 := ⟨(hn10 ▸ k9.next), fun id hi => (hk10 id (by omega)).trans (k9.find id hi)⟩)
  | refine Opl.val (op_conv rfl (conv_bytesA (rd_fcells0 hc10) (toBytes_of _))) rfl ?_
  | refine Go.condT rfl ?_
  | refine Go.condF rfl ?_
  | exact At.fnr rfl rfl rfl ⟨rfl, k10⟩
  | refine .std ?_ | refine .nil ?_ | refine .seq ?_ | refine .region ?_ | refine .xs ?_ | refine .kb ?_ | refine .leaf ?_ | refine .block ?_ | refine .gn ?_ | refine .dr ?_ | fail
set_option maxHeartbeats 2000000 in
theorem fmtN9 {d : Nat} (h0 : 100000000 ≤ d) (h1 : d < 1000000000) (c1 : Pu Tryz.prog 224 [.int .u64 (d : Int)] (.int .i64 ((9 : Nat) : Int))) : Pu Tryz.prog 209 [.int .i64 (-(d : Int)), .int .i64 10] (.str (45 :: digN d)) := by
 intro S
 rw [digN_digs 8 d h1 (.inl h0)]
 obtain ⟨U, hU, hb, hlt, s0⟩ := box24 S
 have k0 : Same U U := Same.refl U
 refine CallTo.of (n := 54) Tryz.func209 rfl rfl ?_
 repeat' first
  | refine Opl.val op_alloc rfl (Opl.cast (S' := U) ?_ hU)
  | refine Opl.val (op_int rfl rfl rfl (leq_i (q := false) (decide_eq_false (by omega)))) rfl ?_
  | refine Opl.val (op_int rfl rfl rfl (lss_i (q := true) (decide_eq_true (by omega)))) rfl ?_
  | refine op_gyes rfl ?_ rfl
  | refine Opl.val (op_convN rfl (neg64 (d := d) (by omega) (by omega))) rfl ?_
  | refine Opl.val (op_un rfl (neg64b (d := d) (by omega) (by omega))) rfl ?_
  | refine Opl.callS (by assumption) rfl (by kernel_rfl) c1 rfl (fun S8 k8 => ?_)
  | (refine Opl.call rfl (by kernel_rfl) (fmtB9 h1 S8 S.next 236 ((k8.find _ hlt).trans hb)) rfl (fun v S9 hw => ?_) (fun _ _ h => h.elim); have k9 := hw.same k8 s0)
  | refine Opl.val (op_int rfl rfl rfl (add_nat (a := 1) (b := 9) (by decide))) rfl ?_
  | refine Opl.val (op_slLH rfl rfl rfl (slice_arr arr24 sz_u8 (i := 1) (j := 1 + 9) (by decide) (by decide) (by decide))) rfl ?_
  | refine Opl.val (op_slH rfl rfl (slice_arr0 arr24 sz_u8 (j := 1 + 9) (by decide) (by decide))) rfl ?_
  | refine Opl.val (op_ixaR arr24 sz_u8 (i := 0) rfl rfl (by decide)) rfl ?_
  | (refine Opl.set hw.1 rfl rfl rfl (by unfold fcells; simp) (fun S10 hb10 hn10 hk10 => ?_); have hc10 : S10.h.find S.next = some (.box 236 (fcells (.int .u8 ((45 : UInt8).toNat : Int)) 9 d)) := hb10; have k10 : Same S S10 := ⟨(hn10 ▸ k9.next), fun id hi => (hk10 id (by omega)).trans (k9.find id hi)⟩)
  | refine Opl.val (op_conv rfl (conv_bytesA (rd_fcells0 hc10) (toBytes_of _))) rfl ?_
  | refine Go.condT rfl ?_
  | refine Go.condF rfl ?_
  | exact At.fnr rfl rfl rfl ⟨rfl, k10⟩
  | refine .std ?_ | refine .nil ?_ | refine .seq ?_ | refine .region ?_ | refine .xs ?_ | refine .kb ?_ | refine .leaf ?_ | refine .block ?_ | refine .gn ?_ | refine .dr ?_ | fail
set_option maxHeartbeats 2000000 in
theorem fmtS {d : Nat} (h1 : d < 100) : Pu Tryz.prog 209 [.int .i64 (d : Int), .int .i64 10] (.str (digN d)) := by
 intro S
 have k0 : Same S S := Same.refl S
 have c1 := smallF h1
 refine CallTo.of (n := 54) Tryz.func209 rfl rfl ?_
 repeat' first
  | refine Opl.val (op_int rfl rfl rfl (leq_i (q := true) (decide_eq_true (by omega)))) rfl ?_
  | refine Opl.val (op_int rfl rfl rfl (lss_i (q := true) (decide_eq_true (by omega)))) rfl ?_
  | refine op_gyes rfl ?_ rfl
  | refine Opl.callS (by assumption) rfl (by kernel_rfl) c1 rfl (fun S8 k8 => ?_)
  | refine Go.condT rfl ?_
  | refine Go.condF rfl ?_
  | exact At.fnr rfl rfl rfl ⟨rfl, by assumption⟩
  | refine .std ?_ | refine .nil ?_ | refine .seq ?_ | refine .region ?_ | refine .xs ?_ | refine .kb ?_ | refine .leaf ?_ | refine .block ?_ | refine .gn ?_ | refine .dr ?_ | fail
theorem fmtInt {n : Int} (h : -1000000000 < n) (h2 : n < 1000000000) : Pu Tryz.prog 209 [.int .i64 n, .int .i64 10] (.str (digI n)) := by
 by_cases h0 : n < 0
 ·obtain ⟨d, hd⟩ := Int.eq_ofNat_of_zero_le (show 0 ≤ -n by omega)
  have hn : n = -(d : Int) := by omega
  subst hn
  obtain ⟨r, g1, g9, g3, g4, c1⟩ := numDigitsF (d := d) (by omega) (by omega)
  have e : digI (-(d : Int)) = 45 :: digN d := by unfold digI; rw [if_pos h0, Int.natAbs_neg]; rfl
  rw [e]
  have hr : r = 1 ∨ r = 2 ∨ r = 3 ∨ r = 4 ∨ r = 5 ∨ r = 6 ∨ r = 7 ∨ r = 8 ∨ r = 9 := by omega
  rcases hr with rfl | rfl | rfl | rfl | rfl | rfl | rfl | rfl | rfl
  ·exact fmtN1 g4 g3 c1
  ·exact fmtN2 g4 g3 c1
  ·exact fmtN3 g4 g3 c1
  ·exact fmtN4 g4 g3 c1
  ·exact fmtN5 g4 g3 c1
  ·exact fmtN6 g4 g3 c1
  ·exact fmtN7 g4 g3 c1
  ·exact fmtN8 g4 g3 c1
  ·exact fmtN9 g4 g3 c1
 ·obtain ⟨d, rfl⟩ := Int.eq_ofNat_of_zero_le (show 0 ≤ n by omega)
  rw [show digI (d : Int) = digN d from digI_nat d]
  by_cases hs : d < 100
  ·exact fmtS hs
  ·obtain ⟨r, g1, g9, g3, g4, c1⟩ := numDigitsF (d := d) (by omega) (by omega)
   have hr : r = 1 ∨ r = 2 ∨ r = 3 ∨ r = 4 ∨ r = 5 ∨ r = 6 ∨ r = 7 ∨ r = 8 ∨ r = 9 := by omega
   rcases hr with rfl | rfl | rfl | rfl | rfl | rfl | rfl | rfl | rfl
   ·simp at g3; omega
   ·simp at g3; omega
   ·exact fmtP3 g4 g3 c1
   ·exact fmtP4 g4 g3 c1
   ·exact fmtP5 g4 g3 c1
   ·exact fmtP6 g4 g3 c1
   ·exact fmtP7 g4 g3 c1
   ·exact fmtP8 g4 g3 c1
   ·exact fmtP9 g4 g3 c1
theorem itoaF {n : Int} (h : -1000000000 < n) (h2 : n < 1000000000) : Pu Tryz.prog 125 [.int .i64 n] (.str (digI n)) := by
 have c1 := fmtInt h h2
 have c2 : Pu Tryz.prog 185 [.int .i64 n] (.str (digI n)) := by
  intro S
  have k0 : Same S S := Same.refl S
  refine CallTo.of (n := 5) Tryz.func185 rfl rfl ?_
  repeat' first
   | refine Opl.callS (by assumption) rfl (by kernel_rfl) c1 rfl (fun S8 k8 => ?_)
   | exact At.fnr rfl rfl rfl ⟨rfl, by assumption⟩
   | refine .std ?_ | refine .nil ?_ | refine .seq ?_ | refine .region ?_ | refine .xs ?_ | refine .kb ?_ | refine .leaf ?_ | refine .block ?_ | refine .gn ?_ | refine .dr ?_ | fail
 intro S
 have k0 : Same S S := Same.refl S
 refine CallTo.of (n := 5) Tryz.func125 rfl rfl ?_
 repeat' first
  | refine Opl.callS (by assumption) rfl (by kernel_rfl) c2 rfl (fun S8 k8 => ?_)
  | exact At.fnr rfl rfl rfl ⟨rfl, by assumption⟩
  | refine .std ?_ | refine .nil ?_ | refine .seq ?_ | refine .region ?_ | refine .xs ?_ | refine .kb ?_ | refine .leaf ?_ | refine .block ?_ | refine .gn ?_ | refine .dr ?_ | fail
end Go.Proofs.YtodiioeddlmjhaaGreatDoor
