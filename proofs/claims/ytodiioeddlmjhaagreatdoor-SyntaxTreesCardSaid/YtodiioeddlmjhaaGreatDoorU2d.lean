import Derived.Test.YtodiioeddlmjhaaGreatDoorU1
set_option linter.unusedVariables false
set_option linter.unusedSimpArgs false
namespace Go.Proofs.YtodiioeddlmjhaaGreatDoor
open Go.RowKit Go.Ev
set_option maxRecDepth 100000
set_option linter.unusedVariables false
set_option linter.unusedSimpArgs false
attribute [local irreducible] Go.Ev.opE
set_option maxHeartbeats 8000000 in
theorem fmtB6 {d : Nat} (h1 : d < 1000000) (S : St) (id : Nat) (t : TypeId) (hb : S.h.find id = some (.box t (List.replicate 24 (.int .u8 0)))) :
 CallTo Tryz.prog 225 [.arr id 1 6 23, .int .u64 (d : Int)] S (fun _ S' => Wrote S S' id t (fcells (.int .u8 0) 6 d)) (fun _ _ => False) := by
 have hw : S.next = S.next ∧ ∀ j, j ≠ id → S.h.find j = S.h.find j := ⟨rfl, fun _ _ => rfl⟩
 refine CallTo.of (n := 167) Tryz.func225 rfl rfl ?_
 repeat' first
  | refine Opl.val (op_lenA rfl rfl) rfl ?_
  | refine Go.loop ?_
  | refine Opl.val (op_int rfl rfl rfl (n_rem 100000000 (by decide))) rfl ?_
  | refine Opl.val (op_int rfl rfl rfl (n_rem 10000 (by decide))) rfl ?_
  | refine Opl.val (op_int rfl rfl rfl (n_rem 100 (by decide))) rfl ?_
  | refine Opl.val (op_int rfl rfl rfl (n_quo64 100000000 (by decide) (by omega))) rfl ?_
  | refine Opl.val (op_int rfl rfl rfl (n_quo32 10000 (by decide) (by omega))) rfl ?_
  | refine Opl.val (op_int rfl rfl rfl (n_quo32 100 (by decide) (by omega))) rfl ?_
  | refine Opl.val (op_int rfl rfl rfl (n_mul2 (by omega))) rfl ?_
  | refine Opl.val (op_int rfl rfl rfl (n_add1 (by omega))) rfl ?_
  | refine Opl.val (op_int rfl rfl rfl (n_48 (by omega))) rfl ?_
  | refine Opl.val (op_convN rfl (c_u32 (by omega))) rfl ?_
  | refine Opl.val (op_int rfl rfl rfl (sub_n 1 (by decide) (by decide))) rfl ?_
  | refine Opl.val (op_int rfl rfl rfl (sub_n 2 (by decide) (by decide))) rfl ?_
  | refine Opl.val (op_int rfl rfl rfl (sub_n 3 (by decide) (by decide))) rfl ?_
  | refine Opl.val (op_int rfl rfl rfl (sub_n 4 (by decide) (by decide))) rfl ?_
  | refine Opl.val (op_int rfl rfl rfl (sub_n 5 (by decide) (by decide))) rfl ?_
  | refine Opl.val (op_int rfl rfl rfl (sub_n 6 (by decide) (by decide))) rfl ?_
  | refine Opl.val (op_int rfl rfl rfl (sub_n 7 (by decide) (by decide))) rfl ?_
  | refine Opl.val (op_int rfl rfl rfl (sub_n 8 (by decide) (by decide))) rfl ?_
  | refine Opl.val (op_ixaA rfl rfl (by decide)) rfl ?_
  | refine Opl.val (op_ixaA (i := 0) rfl rfl (by decide)) rfl ?_
  | (refine Opl.set (by assumption) rfl rfl rfl (by simp) (fun S1 hb1 hn1 hk1 => ?_); have hw := (⟨hn1.trans hw.1, fun j hj => (hk1 j hj).trans (hw.2 j hj)⟩ : S1.next = S.next ∧ ∀ j, j ≠ id → S1.h.find j = S.h.find j); clear hn1 hk1)
  | refine Opl.val (op_idxS rfl rfl (sm_hiD (e := d % 10) (by omega) (by omega))) rfl ?_
  | refine Opl.val (op_idxS rfl rfl (sm_loD (e := d / 10 % 10) (by omega) (by omega))) rfl ?_
  | refine Opl.val (op_idxS rfl rfl (sm_hiD (e := d / 10 / 10 % 10) (by omega) (by omega))) rfl ?_
  | refine Opl.val (op_idxS rfl rfl (sm_loD (e := d / 10 / 10 / 10 % 10) (by omega) (by omega))) rfl ?_
  | refine Opl.val (op_idxS rfl rfl (sm_hiD (e := d / 10 / 10 / 10 / 10 % 10) (by omega) (by omega))) rfl ?_
  | refine Opl.val (op_idxS rfl rfl (sm_loD (e := d / 10 / 10 / 10 / 10 / 10 % 10) (by omega) (by omega))) rfl ?_
  | refine Opl.val (op_idxS rfl rfl (sm_hiD (e := d / 10 / 10 / 10 / 10 / 10 / 10 % 10) (by omega) (by omega))) rfl ?_
  | refine Opl.val (op_idxS rfl rfl (sm_loD (e := d / 10 / 10 / 10 / 10 / 10 / 10 / 10 % 10) (by omega) (by omega))) rfl ?_
  | refine Opl.val (op_convN rfl (c_u8D (e := d % 10) (by omega) (by omega))) rfl ?_
  | refine Opl.val (op_convN rfl (c_u8D (e := d / 10 / 10 % 10) (by omega) (by omega))) rfl ?_
  | refine Opl.val (op_convN rfl (c_u8D (e := d / 10 / 10 / 10 / 10 % 10) (by omega) (by omega))) rfl ?_
  | refine Opl.val (op_convN rfl (c_u8D (e := d / 10 / 10 / 10 / 10 / 10 / 10 % 10) (by omega) (by omega))) rfl ?_
  | refine Opl.val (op_convN rfl (c_u8D (e := d / 10 / 10 / 10 / 10 / 10 / 10 / 10 / 10 % 10) (by omega) (by omega))) rfl ?_
  | refine Go.condT rfl ?_
  | refine Go.condF rfl ?_
  | refine Go.drawAt [0, 1, 2, 6, 7, 8, 11, 12, 3, 4, 5, 9, 10, 13, 14] (by kernel_rfl) ?_
  | refine .std ?_ | refine .nil ?_ | refine .seq ?_ | refine .region ?_ | refine .xs ?_ | refine .kb ?_ | refine .leaf ?_ | refine .block ?_ | refine .gn ?_ | refine .dr ?_ | fail
 exact At.fn rfl rfl rfl ⟨hb1, hw⟩
set_option maxHeartbeats 8000000 in
theorem fmtB5 {d : Nat} (h1 : d < 100000) (S : St) (id : Nat) (t : TypeId) (hb : S.h.find id = some (.box t (List.replicate 24 (.int .u8 0)))) :
 CallTo Tryz.prog 225 [.arr id 1 5 23, .int .u64 (d : Int)] S (fun _ S' => Wrote S S' id t (fcells (.int .u8 0) 5 d)) (fun _ _ => False) := by
 have hw : S.next = S.next ∧ ∀ j, j ≠ id → S.h.find j = S.h.find j := ⟨rfl, fun _ _ => rfl⟩
 refine CallTo.of (n := 167) Tryz.func225 rfl rfl ?_
 repeat' first
  | refine Opl.val (op_lenA rfl rfl) rfl ?_
  | refine Go.loop ?_
  | refine Opl.val (op_int rfl rfl rfl (n_rem 100000000 (by decide))) rfl ?_
  | refine Opl.val (op_int rfl rfl rfl (n_rem 10000 (by decide))) rfl ?_
  | refine Opl.val (op_int rfl rfl rfl (n_rem 100 (by decide))) rfl ?_
  | refine Opl.val (op_int rfl rfl rfl (n_quo64 100000000 (by decide) (by omega))) rfl ?_
  | refine Opl.val (op_int rfl rfl rfl (n_quo32 10000 (by decide) (by omega))) rfl ?_
  | refine Opl.val (op_int rfl rfl rfl (n_quo32 100 (by decide) (by omega))) rfl ?_
  | refine Opl.val (op_int rfl rfl rfl (n_mul2 (by omega))) rfl ?_
  | refine Opl.val (op_int rfl rfl rfl (n_add1 (by omega))) rfl ?_
  | refine Opl.val (op_int rfl rfl rfl (n_48 (by omega))) rfl ?_
  | refine Opl.val (op_convN rfl (c_u32 (by omega))) rfl ?_
  | refine Opl.val (op_int rfl rfl rfl (sub_n 1 (by decide) (by decide))) rfl ?_
  | refine Opl.val (op_int rfl rfl rfl (sub_n 2 (by decide) (by decide))) rfl ?_
  | refine Opl.val (op_int rfl rfl rfl (sub_n 3 (by decide) (by decide))) rfl ?_
  | refine Opl.val (op_int rfl rfl rfl (sub_n 4 (by decide) (by decide))) rfl ?_
  | refine Opl.val (op_int rfl rfl rfl (sub_n 5 (by decide) (by decide))) rfl ?_
  | refine Opl.val (op_int rfl rfl rfl (sub_n 6 (by decide) (by decide))) rfl ?_
  | refine Opl.val (op_int rfl rfl rfl (sub_n 7 (by decide) (by decide))) rfl ?_
  | refine Opl.val (op_int rfl rfl rfl (sub_n 8 (by decide) (by decide))) rfl ?_
  | refine Opl.val (op_ixaA rfl rfl (by decide)) rfl ?_
  | refine Opl.val (op_ixaA (i := 0) rfl rfl (by decide)) rfl ?_
  | (refine Opl.set (by assumption) rfl rfl rfl (by simp) (fun S1 hb1 hn1 hk1 => ?_); have hw := (⟨hn1.trans hw.1, fun j hj => (hk1 j hj).trans (hw.2 j hj)⟩ : S1.next = S.next ∧ ∀ j, j ≠ id → S1.h.find j = S.h.find j); clear hn1 hk1)
  | refine Opl.val (op_idxS rfl rfl (sm_hiD (e := d % 10) (by omega) (by omega))) rfl ?_
  | refine Opl.val (op_idxS rfl rfl (sm_loD (e := d / 10 % 10) (by omega) (by omega))) rfl ?_
  | refine Opl.val (op_idxS rfl rfl (sm_hiD (e := d / 10 / 10 % 10) (by omega) (by omega))) rfl ?_
  | refine Opl.val (op_idxS rfl rfl (sm_loD (e := d / 10 / 10 / 10 % 10) (by omega) (by omega))) rfl ?_
  | refine Opl.val (op_idxS rfl rfl (sm_hiD (e := d / 10 / 10 / 10 / 10 % 10) (by omega) (by omega))) rfl ?_
  | refine Opl.val (op_idxS rfl rfl (sm_loD (e := d / 10 / 10 / 10 / 10 / 10 % 10) (by omega) (by omega))) rfl ?_
  | refine Opl.val (op_idxS rfl rfl (sm_hiD (e := d / 10 / 10 / 10 / 10 / 10 / 10 % 10) (by omega) (by omega))) rfl ?_
  | refine Opl.val (op_idxS rfl rfl (sm_loD (e := d / 10 / 10 / 10 / 10 / 10 / 10 / 10 % 10) (by omega) (by omega))) rfl ?_
  | refine Opl.val (op_convN rfl (c_u8D (e := d % 10) (by omega) (by omega))) rfl ?_
  | refine Opl.val (op_convN rfl (c_u8D (e := d / 10 / 10 % 10) (by omega) (by omega))) rfl ?_
  | refine Opl.val (op_convN rfl (c_u8D (e := d / 10 / 10 / 10 / 10 % 10) (by omega) (by omega))) rfl ?_
  | refine Opl.val (op_convN rfl (c_u8D (e := d / 10 / 10 / 10 / 10 / 10 / 10 % 10) (by omega) (by omega))) rfl ?_
  | refine Opl.val (op_convN rfl (c_u8D (e := d / 10 / 10 / 10 / 10 / 10 / 10 / 10 / 10 % 10) (by omega) (by omega))) rfl ?_
  | refine Go.condT rfl ?_
  | refine Go.condF rfl ?_
  | refine Go.drawAt [0, 1, 2, 6, 7, 8, 11, 12, 3, 4, 5, 9, 10, 13, 14] (by kernel_rfl) ?_
  | refine .std ?_ | refine .nil ?_ | refine .seq ?_ | refine .region ?_ | refine .xs ?_ | refine .kb ?_ | refine .leaf ?_ | refine .block ?_ | refine .gn ?_ | refine .dr ?_ | fail
 exact At.fn rfl rfl rfl ⟨hb1, hw⟩
end Go.Proofs.YtodiioeddlmjhaaGreatDoor
