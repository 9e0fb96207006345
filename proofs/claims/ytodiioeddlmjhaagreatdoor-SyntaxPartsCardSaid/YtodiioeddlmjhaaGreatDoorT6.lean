import Derived.Test.YtodiioeddlmjhaaGreatDoorT4N
import Derived.Test.YtodiioeddlmjhaaGreatDoorT5
set_option linter.unusedVariables false
set_option linter.unusedSimpArgs false
namespace Go.Proofs.YtodiioeddlmjhaaGreatDoor
open Go.RowKit Go.Ev
set_option maxRecDepth 100000
set_option linter.unusedVariables false
set_option linter.unusedSimpArgs false
attribute [local irreducible] Go.Ev.opE
def ErrB (id : Nat) (n : Int) (S : St) : Prop := id < S.next ∧ S.h.find id = some (.box 30 [.int .i64 n])
theorem ErrB.same {id : Nat} {n : Int} {S S' : St} (h : ErrB id n S) (k : Same S S') : ErrB id n S' := ⟨Nat.lt_of_lt_of_le h.1 k.next, by rw [k.find _ h.1]; exact h.2⟩
theorem nodesC {x : Ex} {xs : List V} (hx : ExC x xs) (hn : Pu Tryz.prog 82 [.agg xs] (.int .i64 (nodesE x))) (id : Nat) (n : Int) (S : St) (hb : ErrB id n S) :
    CallTo Tryz.prog 145 [.agg xs, .ptr id 0] S (fun u S' => u = .bool (nodeStep x n).1 ∧ ErrB id (nodeStep x n).2 S' ∧ Kp (some id) S S') (fun _ _ => False) := by
  obtain ⟨U, hU, bx, s0⟩ := box1 S 27 xs
  have k0 : Same U U := Same.refl U
  obtain ⟨q, hq⟩ : ∃ q, decide (nodesE x = 0) = q := ⟨_, rfl⟩
  refine CallTo.of (n := 8) Tryz.func145 rfl rfl ?_
  repeat' first
   | refine Opl.val (op_box rfl) rfl (Opl.cast (S' := U) ?_ hU)
   | refine Opl.val (op_load rfl (ld_bxA bx (by assumption) hx.len7)) rfl ?_
   | refine Opl.callS k0 rfl (by kernel_rfl) hn rfl (fun S4 k4 => ?_)
   | refine .std ?_ | refine .nil ?_ | refine .seq ?_ | refine .region ?_ | refine .xs ?_ | refine .kb ?_ | refine .leaf ?_ | refine .block ?_ | refine .gn ?_ | refine .dr ?_ | fail
  have b4 : ErrB id n S4 := (hb.same s0).same k4
  obtain ⟨S5, h5⟩ : ∃ S5 : St, S5 = { S4 with h := S4.h.put id (.box 30 [.int .i64 (nodesE x)]) } := ⟨_, rfl⟩
  have hst := st_box1 (P := Tryz.prog) (T := 30) (v := .int .i64 (nodesE x)) b4.2 rfl
  rw [← h5] at hst
  have b5 : S5.h.find id = some (.box 30 [.int .i64 (nodesE x)]) := by rw [h5]; simp [Tr.find_put]
  have k5 : Kp (some id) S S5 := by rw [h5]; exact ((s0.trans k4).kp _).put _
  repeat' first
   | refine Opl.eff (op_store rfl rfl hst) ?_
   | refine Opl.val (op_load rfl (ld_one (pt_box b5))) rfl ?_
   | refine Opl.val (op_int rfl rfl rfl (eql_i hq)) rfl ?_
   | exact At.fnr rfl rfl rfl ⟨pack_b hq.symm, ⟨by rw [h5]; exact b4.1, b5⟩, k5⟩
   | refine .std ?_ | refine .nil ?_ | refine .seq ?_ | refine .region ?_ | refine .xs ?_ | refine .kb ?_ | refine .leaf ?_ | refine .block ?_ | refine .gn ?_ | refine .dr ?_ | fail
set_option maxHeartbeats 4000000 in
theorem nodesF : ∀ (N : Nat) (e : Ex) (cs : List V), e.nodes ≤ N → ExC e cs → Pu Tryz.prog 82 [.agg cs] (.int .i64 (nodesE e)) := by
  intro N
  induction N with
  | zero => intro e cs hN; cases e; simp [Ex.nodes] at hN
  | succ N IHN =>
    intro e cs hN he S
    obtain ⟨U, hU, bx, s0⟩ := box1 S 27 cs
    have k0 : Same U U := Same.refl U
    have hnode := nodeF he
    obtain ⟨r, hr⟩ : ∃ r, nodeE e = r := ⟨_, rfl⟩
    have hspec := nodesE_eq e
    rw [hr] at hnode hspec
    refine CallTo.of (n := 12) Tryz.func82 rfl rfl ?_
    repeat' first
     | refine Opl.val (op_box rfl) rfl (Opl.cast (S' := U) ?_ hU)
     | refine Opl.val (op_load rfl (ld_bxA bx (by assumption) he.len7)) rfl ?_
     | refine Opl.callS k0 rfl (by kernel_rfl) hnode rfl (fun S4 k4 => ?_)
     | refine .std ?_ | refine .nil ?_ | refine .seq ?_ | refine .region ?_ | refine .xs ?_ | refine .kb ?_ | refine .leaf ?_ | refine .block ?_ | refine .gn ?_ | refine .dr ?_ | fail
    obtain ⟨W, st1, b1, k5⟩ := lay1 (P := Tryz.prog) (T := 30) [.int .i64 0] S4 (v := .int .i64 r) rfl
    obtain ⟨q, hq⟩ : ∃ q, decide (r = 0) = q := ⟨_, rfl⟩
    have kW : Same W W := Same.refl W
    have kUW : Same U W := k4.trans k5
    have hlt : S4.next < W.next := b1.lt
    have hst := eachF he 145 [.ptr S4.next 0] (by kernel_rfl) nodeStep (fun n S' => ErrB S4.next n S') (some S4.next) W (fun d hd => by cases hd; exact hlt) (fun s S1 S2 h k => h.same k)
      (fun x hx xs hxs s S1 k1 hJ => nodesC hxs (IHN x xs (by have := Ex.parts_nodes hx; omega) hxs) S4.next s S1 hJ)
    have hle : S.next ≤ S4.next := (s0.trans k4).next
    cases q with
    | false =>
      have hr0 : r ≠ 0 := of_decide_eq_false hq
      rw [show thenE r (errsE e.parts) = r from if_neg hr0] at hspec
      repeat' first
       | refine Opl.val op_alloc rfl ?_
       | refine Opl.eff (op_store rfl rfl st1) ?_
       | refine Opl.val (op_load rfl (ld_b1 b1 (by assumption))) rfl ?_
       | refine Opl.val (op_int rfl rfl rfl (eql_i hq)) rfl ?_
       | refine Go.condF rfl ?_
       | exact At.fnr rfl rfl rfl ⟨pack_n hspec.symm, s0.trans kUW⟩
       | refine .std ?_ | refine .nil ?_ | refine .seq ?_ | refine .region ?_ | refine .xs ?_ | refine .kb ?_ | refine .leaf ?_ | refine .block ?_ | refine .gn ?_ | refine .dr ?_ | fail
    | true =>
      have hr0 : r = 0 := of_decide_eq_true hq
      subst hr0
      have hst := hst 0 ⟨hlt, b1.box⟩
      rw [run_nodes] at hst
      rw [thenE_zero] at hspec
      rw [← hspec] at hst
      repeat' first
       | refine Opl.val op_alloc rfl ?_
       | refine Opl.eff (op_store rfl rfl st1) ?_
       | refine Opl.val (op_load rfl (ld_b1 b1 (by assumption))) rfl ?_
       | refine Opl.val (op_load rfl (ld_bxA bx kUW he.len7)) rfl ?_
       | refine Opl.val (op_int rfl rfl rfl (eql_i hq)) rfl ?_
       | refine Go.condT rfl ?_
       | refine Opl.callv rfl (by kernel_rfl) hst rfl (fun S6 h => ?_) (fun _ _ h => h.elim)
       | refine .std ?_ | refine .nil ?_ | refine .seq ?_ | refine .region ?_ | refine .xs ?_ | refine .kb ?_ | refine .leaf ?_ | refine .block ?_ | refine .gn ?_ | refine .dr ?_ | fail
      obtain ⟨j6, k6⟩ := h
      repeat' first
       | refine Opl.val (op_load rfl (ld_one (pt_box j6.2))) rfl ?_
       | exact At.fnr rfl rfl rfl ⟨rfl, k6.after (s0.trans kUW) hle⟩
       | refine .std ?_ | refine .nil ?_ | refine .seq ?_ | refine .region ?_ | refine .xs ?_ | refine .kb ?_ | refine .leaf ?_ | refine .block ?_ | refine .gn ?_ | refine .dr ?_ | fail
end Go.Proofs.YtodiioeddlmjhaaGreatDoor
