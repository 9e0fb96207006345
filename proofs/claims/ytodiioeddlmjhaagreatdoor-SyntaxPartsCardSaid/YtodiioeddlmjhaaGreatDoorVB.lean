import Derived.Test.YtodiioeddlmjhaaGreatDoorY2
import Derived.Test.YtodiioeddlmjhaaGreatDoorVA
import Derived.Test.YtodiioeddlmjhaaGreatDoorSho
set_option linter.unusedVariables false
set_option linter.unusedSimpArgs false
namespace Go.Proofs.YtodiioeddlmjhaaGreatDoor
open Go.RowKit Go.Ev
set_option maxRecDepth 100000
set_option linter.unusedVariables false
set_option linter.unusedSimpArgs false
attribute [local irreducible] Go.Ev.opE
theorem showsTp : ClosedT Tryz.prog 14 := closedT_of 3000 shows_run
theorem showsSp : Pu Tryz.prog 14 [] (.bool true) := fun S => .inl ⟨_, S, lim_closed showsTp S, rfl, Same.refl S⟩
theorem max_nat (a b : Nat) {l : List TypeId} {S : St} : builtinE Tryz.prog .max l [.int .i64 (a : Int), .int .i64 (b : Int)] S = some (.int .i64 ((max a b : Nat) : Int), S) := by
  have e : (if (b : Int) > (a : Int) then (b : Int) else (a : Int)) = ((max a b : Nat) : Int) := by
    split <;> omega
  unfold builtinE
  simp only [foldMax, decide_true, if_true, e, Option.map]
theorem Opl.callQB [Glob] {P : Program} {ops : Array Oper} {os : List Oper} {F : Sh} {E : Env} {U0 S : St} {k : K} {d : Nat} {ty : TypeId} {pos : String} {after : Array Edge} {f : Operand} {args : Array Operand} {ats : Array TypeId} {g : FuncId} {l : List V} {Q : V → Prop}
    (k0 : Sb U0 S) (hf : calleeE (Env.opd E) f args = some (g, l)) (hb : hasBody P g = true) (hc : PuQ P g l Q) (hd : Nat.blt d F.n = true) (h1 : ∀ v S', Q v → Sb U0 S' → Opl P ops os F ((d, v) :: E) S' k) :
    Opl P ops (⟨some d, .call { callee := .value f, args, argTypes := ats }, ty, pos, after, none⟩ :: os) F E S k :=
  Opl.call hf hb (hc S) hd (fun v S' h => h1 v S' h.1 (k0.trans h.2.sb)) (fun _ _ h => h.elim)
set_option maxHeartbeats 16000000 in
theorem parts {e : Ex} {cs : List V} (he : ExC e cs) (S : St) :
    CallTo Tryz.prog 5 [.agg cs] S (fun v _ => v = .bool true) (fun _ _ => False) := by
  obtain ⟨U, hU, bx, s0⟩ := box1 S 27 cs
  have k0 : Sb U U := Sb.refl U
  have kk : Same U U := Same.refl U
  have cG := fGreat he
  have cC := (checkF he).pb
  have cS := syntaxShow he
  have cZ := (fSize he).pb
  have cD := (fDepth he).pb
  have cw := showsSp.pb
  refine CallTo.of (n := 98) Tryz.func5 rfl rfl ?_
  by_cases h0 : checkE e = 0
  · obtain ⟨hok, hTl⟩ := check_textE h0
    obtain ⟨hf, _⟩ := nodes_ok hok
    have hv : showV e = .tup [.str (textE e), .int .i64 0] := if_pos h0
    rw [hv] at cS
    rw [h0] at cC
    have hne : 0 < (textE e).length := List.length_pos_iff.2 (textE_ne hf)
    have hsz : sizeE e = (e.nodes : Int) := if_pos h0
    have hdz : depthE e = (e.depth : Int) := if_pos h0
    rw [hsz] at cZ
    rw [hdz] at cD
    have hnd := check_fits h0
    have cP := partsF he (by
      obtain ⟨x, hx, _, _, _, _, _, _, _, h4⟩ := hf.shape
      have : ∀ x ∈ shps, x.parts + x.plus ≤ 4 := by decide
      have := this x (List.mem_of_getElem? hx)
      have := hf.arc
      omega)
    repeat' first
     | refine Opl.val (op_box rfl) rfl (Opl.cast (S' := U) ?_ hU)
     | refine Opl.val (op_load rfl (ld_sA bx (by assumption) he.len7)) rfl ?_
     | (refine Opl.callQB (U0 := U) (by assumption) rfl (by kernel_rfl) cG rfl (fun v S1 hv k1 => ?_); obtain ⟨q, rfl⟩ := hv)
     | refine op_gyes rfl ?_ rfl
     | refine .gn ?_
     | (refine Opl.gonTN rfl rfl (fun hq => ?_) (fun hq => ?_) <;> subst hq)
     | (refine Opl.gonFN rfl rfl (fun hq => ?_) (fun hq => ?_) <;> subst hq)
     | (refine Opl.gonT rfl rfl (fun hq => ?_) (fun hq => ?_) <;> subst hq)
     | (refine Opl.gonF rfl rfl (fun hq => ?_) (fun hq => ?_) <;> subst hq)
     | refine Go.condT rfl ?_
     | refine Go.condF rfl ?_
     | (refine Go.condN rfl (fun hq => ?_) (fun hq => ?_) <;> subst hq)
     | (refine Go.condV rfl (fun hq => ?_) (fun hq => ?_) <;> subst hq)
     | refine Opl.callB (U0 := U) (by assumption) rfl (by kernel_rfl) cw rfl (fun S4 k4 => ?_)
     | refine Opl.callB (U0 := U) (by assumption) rfl (by kernel_rfl) cC rfl (fun S4 k4 => ?_)
     | refine Opl.callB (U0 := U) (by assumption) rfl (by kernel_rfl) cS rfl (fun S4 k4 => ?_)
     | refine Opl.val (op_int rfl rfl rfl (neq_i (q := false) (by decide))) rfl ?_
     | refine Opl.val (op_int rfl rfl rfl (eql_i (q := false) (decide_eq_false (by omega)))) rfl ?_
     | (refine Opl.callQB (U0 := U) (by assumption) rfl (by kernel_rfl) cP rfl (fun pv S5 hpv k5 => ?_); obtain ⟨es, tk, rfl, hE⟩ := hpv)
     | exact At.fnr rfl rfl rfl rfl
     | refine .std ?_ | refine .nil ?_ | refine .seq ?_ | refine .region ?_ | refine .xs ?_ | refine .kb ?_ | refine .leaf ?_ | refine .block ?_ | refine .gn ?_ | refine .dr ?_ | fail
    refine Go.weaken (E' := [(1, .ptr S.next 0), (3, .str (textE e)), (5, .list (some 27) 7 es tk), (6, .int .i64 ((1 + Exs.nodes (e.parts.take 0) : Nat) : Int)), (7, .int .i64 ((Exs.depth (e.parts.take 0) : Nat) : Int)), (8, .int .i64 ((0 : Nat) : Int))]) ?_ ⟨rfl, rfl, rfl, rfl, rfl, rfl, trivial⟩
    have hEl : e.parts.length = es.length := hE.1
    have hln : isLn 7 (.list (some 27) 7 es tk) := .inr (.inr ⟨_, _, _, rfl⟩)
    have hpl : es.length ≤ 1000000 := by
      have h1 := e.nodes_parts
      have h2 : ∀ l : List Ex, l.length ≤ Exs.nodes l := by
        intro l
        induction l with
        | nil => simp
        | cons y l ih => have : 1 ≤ y.nodes := (by have := y.nodes_parts; omega); simp only [List.length_cons, Exs.nodes]; omega
      have := h2 e.parts
      omega
    refine Go.loop_ind (α := Nat) (fun i => es.length - i) (fun i E S' => E = [(1, .ptr S.next 0), (3, .str (textE e)), (5, .list (some 27) 7 es tk), (6, .int .i64 ((1 + Exs.nodes (e.parts.take i) : Nat) : Int)), (7, .int .i64 ((Exs.depth (e.parts.take i) : Nat) : Int)), (8, .int .i64 (i : Int))] ∧ i ≤ es.length ∧ Sb U S') ?_ 0 _ _ ⟨rfl, Nat.zero_le _, by assumption⟩
    rintro i E S6 ⟨rfl, hi, k6⟩ IH
    repeat' first
     | refine Opl.val (op_lenL rfl rfl rfl) rfl ?_
     | refine Opl.fresh (op_int rfl rfl rfl rfl) rfl (fun q hq => ?_)
     | refine .std ?_ | refine .nil ?_ | refine .seq ?_ | refine .region ?_ | refine .xs ?_ | refine .kb ?_ | refine .leaf ?_ | refine .block ?_ | refine .gn ?_ | refine .dr ?_ | fail
    refine Go.cond rfl (fun hq => ?_) (fun hq => ?_)
    · subst hq
      have hq : i < es.length := by have := of_decide_eq_true (by assumption : decide ((i : Int) < ((elems (V.list (some 27) 7 es tk)).length : Nat)) = true); simp only [elems] at this; omega
      obtain ⟨x, v, hx, hix, hvx, hm⟩ := hE.at hq
      have hvl := hvx.len7
      have hc := part_check h0 hm
      have hinf := part_inf hok hm
      have hlt := hinf.len
      have hxS := syntaxShow hvx
      rw [show showV x = .tup [.str (textE x), .int .i64 0] from if_pos hc] at hxS
      have hxC := (checkF hvx).pb
      rw [hc] at hxC
      have hxZ := (fSize hvx).pb
      rw [show sizeE x = (x.nodes : Int) from if_pos hc] at hxZ
      have hxD := (fDepth hvx).pb
      rw [show depthE x = (x.depth : Int) from if_pos hc] at hxD
      have hxW := (withinF hinf.inf (by omega)).pb
      have hn1 := nodes_step hx
      have hd1 := depth_step hx
      have hnb : Exs.nodes (e.parts.take (i + 1)) ≤ Exs.nodes e.parts := by
        have : Exs.nodes e.parts = Exs.nodes (e.parts.take (i + 1)) + Exs.nodes (e.parts.drop (i + 1)) := by rw [← Exs.nodes_append, List.take_append_drop]
        omega
      have hnp := e.nodes_parts
      repeat' first
       | refine Opl.val (op_ixaV hln rfl rfl hix) rfl ?_
       | refine Opl.val (op_load rfl (ld_agg (Pt.cptr _ _ _) hvl)) rfl ?_
       | refine Opl.callB (U0 := U) (by assumption) rfl (by kernel_rfl) hxS rfl (fun S4 k4 => ?_)
       | refine Opl.callB (U0 := U) (by assumption) rfl (by kernel_rfl) hxC rfl (fun S4 k4 => ?_)
       | refine Opl.callB (U0 := U) (by assumption) rfl (by kernel_rfl) hxW rfl (fun S4 k4 => ?_)
       | refine Opl.val (op_int rfl rfl rfl (neq_i (q := false) (by decide))) rfl ?_
       | refine Opl.val (op_int rfl rfl rfl (geq_i (q := false) (decide_eq_false (by omega)))) rfl ?_
       | refine Opl.val (op_int rfl rfl rfl (inc_ok (i := i) (by omega))) rfl ?_
       | refine op_gyes rfl ?_ rfl
       | refine .gn ?_
       | refine Go.condT rfl ?_
       | refine Go.condF rfl ?_
       | refine Go.draw [0, 0, 0, 6, 14, 30, 63, 0, 0, 0, 768, 1792, 3902, 8126, 8063, 32767] [1, 2, 3, 4, 5, 8, 9, 10, 11, 12, 0, 6, 7, 13, 14, 15] (by kernel_rfl) (Sb U) ?_
       | refine Drw.c0 rfl rfl (op_move rfl) rfl ?_
       | refine Drw.c0 rfl rfl (op_assign rfl) rfl ?_
       | refine Drw.c0 rfl rfl (op_ixaV hln rfl rfl hix) rfl ?_
       | refine Drw.c2g rfl rfl (by assumption) (by assumption) (fun U hU => op_load rfl (ld_agg (Pt.cptr _ _ _) hvl)) rfl ?_
       | refine Drw.c0 rfl rfl (op_int rfl rfl rfl (add_nat (a := 1 + Exs.nodes (e.parts.take i)) (b := x.nodes) (by omega))) rfl ?_
       | refine Drw.c0 rfl rfl (op_bltn rfl (max_nat (Exs.depth (e.parts.take i)) x.depth)) rfl ?_
       | refine Drw.callB (by assumption) rfl rfl (by kernel_rfl) hxZ rfl (fun S4 k4 => ?_)
       | refine Drw.callB (by assumption) rfl rfl (by kernel_rfl) hxD rfl (fun S4 k4 => ?_)
       | refine Drw.nil ?_
       | refine .std ?_ | refine .nil ?_ | refine .seq ?_ | refine .region ?_ | refine .xs ?_ | refine .kb ?_ | refine .leaf ?_ | refine .block ?_ | refine .gn ?_ | refine .dr ?_ | fail
      exact (IH (i + 1) [(1, .ptr S.next 0), (3, .str (textE e)), (5, .list (some 27) 7 es tk), (6, .int .i64 ((1 + Exs.nodes (e.parts.take i) + x.nodes : Nat) : Int)), (7, .int .i64 ((max (Exs.depth (e.parts.take i)) x.depth : Nat) : Int)), (8, .int .i64 ((i + 1 : Nat) : Int))] _ (by omega) ⟨by rw [hn1, hd1, Nat.add_assoc], by omega, by assumption⟩).weaken ⟨rfl, rfl, rfl, rfl, rfl, rfl, trivial⟩
    · subst hq
      have hq : es.length ≤ i := by have := of_decide_eq_false (by assumption : decide ((i : Int) < ((elems (V.list (some 27) 7 es tk)).length : Nat)) = false); simp only [elems] at this; omega
      have hnil : e.parts.take i = e.parts := List.take_of_length_le (by omega)
      rw [hnil]
      have hnp := e.nodes_parts
      have hdp := e.depth_parts
      rw [hnp] at cZ
      rw [hdp, Nat.add_comm 1] at cD
      repeat' first
       | refine Opl.val (op_load rfl (ld_sA bx (by assumption) he.len7)) rfl ?_
       | refine Opl.callB (U0 := U) (by assumption) rfl (by kernel_rfl) cZ rfl (fun S4 k4 => ?_)
       | refine Opl.callB (U0 := U) (by assumption) rfl (by kernel_rfl) cD rfl (fun S4 k4 => ?_)
       | refine Opl.callB (U0 := U) (by assumption) rfl (by kernel_rfl) cw rfl (fun S4 k4 => ?_)
       | refine Opl.val (op_int rfl rfl rfl (int_eql _)) rfl ?_
       | refine Opl.val (op_int rfl rfl rfl (add_nat (a := Exs.depth e.parts) (b := 1) (by omega))) rfl ?_
       | refine op_gyes rfl ?_ rfl
       | refine .gn ?_
       | refine Go.condT rfl ?_
       | refine Go.condF rfl ?_
       | exact At.fnr rfl rfl rfl rfl
       | refine .std ?_ | refine .nil ?_ | refine .seq ?_ | refine .region ?_ | refine .xs ?_ | refine .kb ?_ | refine .leaf ?_ | refine .block ?_ | refine .gn ?_ | refine .dr ?_ | fail
  · skip
    repeat' first
     | refine Opl.val (op_box rfl) rfl (Opl.cast (S' := U) ?_ hU)
     | refine Opl.val (op_load rfl (ld_sA bx (by assumption) he.len7)) rfl ?_
     | (refine Opl.callQB (U0 := U) (by assumption) rfl (by kernel_rfl) cG rfl (fun v S1 hv k1 => ?_); obtain ⟨q, rfl⟩ := hv)
     | refine op_gyes rfl ?_ rfl
     | refine .gn ?_
     | (refine Opl.gonTN rfl rfl (fun hq => ?_) (fun hq => ?_) <;> subst hq)
     | (refine Opl.gonFN rfl rfl (fun hq => ?_) (fun hq => ?_) <;> subst hq)
     | (refine Opl.gonT rfl rfl (fun hq => ?_) (fun hq => ?_) <;> subst hq)
     | (refine Opl.gonF rfl rfl (fun hq => ?_) (fun hq => ?_) <;> subst hq)
     | refine Go.condT rfl ?_
     | refine Go.condF rfl ?_
     | (refine Go.condN rfl (fun hq => ?_) (fun hq => ?_) <;> subst hq)
     | (refine Go.condV rfl (fun hq => ?_) (fun hq => ?_) <;> subst hq)
     | refine Opl.callB (U0 := U) (by assumption) rfl (by kernel_rfl) cw rfl (fun S4 k4 => ?_)
     | refine Opl.callB (U0 := U) (by assumption) rfl (by kernel_rfl) cC rfl (fun S4 k4 => ?_)
     | refine Opl.val (op_int rfl rfl rfl (neq_i (q := true) (by rw [decide_eq_false h0]; rfl))) rfl ?_
     | exact At.fnr rfl rfl rfl rfl
     | refine .std ?_ | refine .nil ?_ | refine .seq ?_ | refine .region ?_ | refine .xs ?_ | refine .kb ?_ | refine .leaf ?_ | refine .block ?_ | refine .gn ?_ | refine .dr ?_ | fail
end Go.Proofs.YtodiioeddlmjhaaGreatDoor
