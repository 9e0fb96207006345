import Derived.Test.YtilldjgagokcfaaGreatX2
set_option linter.unusedVariables false
set_option linter.unusedSimpArgs false
namespace Go.Ev
open Go.RowKit
variable {P : Program}
theorem rL_le {s : List UInt8} {r : RS} : (rL s r).1 ≤ s.length := by
  cases r with
  | error b => exact Nat.zero_le _
  | ok i =>
    simp only [rL]
    cases hd : rdLen s i with
    | none => exact Nat.zero_le _
    | some p =>
      obtain ⟨_, hle⟩ := rdLen_some hd
      simp only; omega
theorem Go.holdB {P : Program} {F : Sh} {E : Env} {S : St} {B : Nat} {c : Code} {k : K} (h : Hold (Go P F E S (.block B c) k)) : Go P F E S (.block B c) k := h.1
end Go.Ev
namespace Go.Proofs.YtilldjgagokcfaaGreat
open Go.RowKit Go.Ev
set_option maxRecDepth 100000
set_option linter.unusedVariables false
theorem RGC.sub {g : FuncId} {k : Nat} {s : List UInt8} {t n : Nat} {ag : Bool} (hn : n = szs t) (h : RGC g k s (sch t) n ag 0) : RGC g (k + 1) s [.sub t] n ag 1 := .mk fun {S c r} hS hm => by
  have e : ∀ r, lift (scanF (scan s (k + 1)) s [.sub t]) r = lift (scanF (scan s k) s (sch t)) r := by
    intro r
    cases r with
    | error b => rfl
    | ok i => simp only [lift, scanF_sub]; rfl
  rw [e]
  refine (h.h hS (by omega)).mono (fun v S' hv => ?_) (fun _ _ hf => hf)
  obtain ⟨q1, q2, q3, q4⟩ := hv
  refine ⟨q1, q2, fun i j hi hj => ?_, q4⟩
  obtain ⟨e1, e2⟩ := q3 i j hi hj
  exact ⟨e1.sub (q2.len.trans hn), e2⟩
theorem grow_up {S S' : St} {lo te n q c : Nat} {s : List UInt8} {r : RS} {v : V} (h : Grow S lo te n q v) (k : Keep2 S S' c c) (hs : RSt S c s r) : Grow S' lo te n q v :=
  h.keep k fun id hi => by
    have : id ≠ c := by rintro rfl; rw [hs.box] at hi; cases hi
    exact ⟨this, this⟩
theorem xtexts (k : Nat) (s : List UInt8) (he : 0 < k → RGC 90 k s [.sub 1] 1 false 1) : RGC 131 k s [.list 1] 1 false 0 := .mk fun {S c r} h hfu => by
  refine CallTo.of (n := 20) Tryz.func131 rfl rfl ?_
  have hsm := h.small
  have hle := rL_le (s := s) (r := r)
  repeat' first
   | refine Opl.callv rfl (by kernel_rfl) h.long rfl (fun S1 h1 => ?_) (fun _ _ hf => hf.elim)
   | refine Go.rloop c (rL s r).1 s (fun q r' S' Fx => ∃ v, Fx = [(0, .ptr c 0), (3, v), (4, .int .i64 ((rL s r).1 : Nat))] ∧ RLp k S.next S' c s r 1 9 1 q r' v ∧ Keep2 S S' c c) ?_ (by omega) (by rfl) (by rfl) ?_ ?_ ?_
   | refine .std ?_ | refine .nil ?_ | refine .seq ?_ | refine .region ?_ | refine .xs ?_ | refine .kb ?_ | refine .leaf ?_ | refine .block ?_ | refine .gn ?_ | refine .dr ?_ | fail
  · rintro q r' S' Fx ⟨v, rfl, hp, hk⟩
    exact ⟨rfl, rfl, hp.st, rfl, rfl⟩
  · exact ⟨_, _, ⟨.nils, rfl, RLp.start h1.1 hfu, h1.2⟩, rfl, rfl, rfl, rfl, trivial⟩
  · rintro q j S2 Fx E1 kx hq ⟨v, rfl, hp, hk⟩ hsub hK
    refine Go.weaken ?_ hsub
    obtain ⟨hmu, hk0, i1, hi1, hqj⟩ := hp.pos rfl
    have hcnt := hp.cnt (Nat.le_of_lt hq)
    repeat' first
     | refine Opl.call rfl (by kernel_rfl) ((he hk0).h hp.st hmu) rfl (fun xv S3 hx => ?_) (fun _ _ hf => hf.elim)
     | refine .std ?_ | refine .nil ?_ | refine .seq ?_ | refine .region ?_ | refine .xs ?_ | refine .kb ?_ | refine .leaf ?_ | refine .block ?_ | refine .gn ?_ | refine .dr ?_ | fail
    obtain ⟨q1, q2, q3, q4⟩ := hx
    obtain ⟨v', S4, happ, hg4, hel, hn4, hold, hbx⟩ := grow_tmp (P := Tryz.prog) (xv := xv) (App.of (P := Tryz.prog) (t := 26) (u := 26) (e := 9) (n := 1) (ag := false) (bytes := 16) (by kernel_rfl)) (by decide) (by omega) (grow_up hp.grow q4 hp.st) (Nat.le_trans hk.next q4.next) q2.len q2.ones
    have hbs := bsl_one (P := Tryz.prog) (v := xv) (App.of (P := Tryz.prog) (t := 26) (u := 26) (e := 9) (n := 1) (ag := false) (bytes := 16) (by kernel_rfl)) (by decide) q2.len q2.one
    have hp' := RLp.next hp rfl rfl (q1.ofBox hn4 fun t cs hb => hbx c t cs q1.lt hb) q3 hg4 hel
    have hn3 := q4.next
    have hk' : Keep2 S S4 c c := ⟨Nat.le_trans hk.next (Nat.le_trans q4.next hn4), fun id a1 a2 a3 => by rw [hold id (Nat.lt_of_lt_of_le a1 (Nat.le_trans hk.next q4.next)) a1, q4.find id (Nat.lt_of_lt_of_le a1 hk.next) a2 a3]; exact hk.find id a1 a2 a3⟩
    repeat' first
     | refine Opl.val (op_buildSlice1 rfl hbs) rfl ?_
     | refine Opl.val (op_app rfl rfl happ) rfl ?_
     | exact hK _ _ _ _ ⟨v', rfl, hp', hk'⟩ ⟨rfl, rfl, rfl, rfl, trivial⟩
     | refine .std ?_ | refine .nil ?_ | refine .seq ?_ | refine .region ?_ | refine .xs ?_ | refine .kb ?_ | refine .leaf ?_ | refine .block ?_ | refine .gn ?_ | refine .dr ?_ | fail
  · rintro q r' S2 Fx ⟨v, rfl, hp, hk⟩ hqn hend
    obtain ⟨d1, d2, d3⟩ := hp.done hqn hend
    repeat' first | refine .std ?_ | refine .nil ?_ | refine .seq ?_ | refine .region ?_ | refine .xs ?_ | refine .kb ?_ | refine .leaf ?_ | refine .block ?_ | refine .gn ?_ | refine .dr ?_ | fail
    refine At.fnr rfl rfl rfl ?_
    rw [d1]
    exact ⟨hp.st, d2, d3, hk⟩
theorem xnumbers (k : Nat) (s : List UInt8) (he : 0 < k → RGC 93 k s [.sub 0] 1 false 1) : RGC 102 k s [.list 0] 1 false 0 := .mk fun {S c r} h hfu => by
  refine CallTo.of (n := 20) Tryz.func102 rfl rfl ?_
  have hsm := h.small
  have hle := rL_le (s := s) (r := r)
  repeat' first
   | refine Opl.callv rfl (by kernel_rfl) h.long rfl (fun S1 h1 => ?_) (fun _ _ hf => hf.elim)
   | refine Go.rloop c (rL s r).1 s (fun q r' S' Fx => ∃ v, Fx = [(0, .ptr c 0), (3, v), (4, .int .i64 ((rL s r).1 : Nat))] ∧ RLp k S.next S' c s r 0 3 1 q r' v ∧ Keep2 S S' c c) ?_ (by omega) (by rfl) (by rfl) ?_ ?_ ?_
   | refine .std ?_ | refine .nil ?_ | refine .seq ?_ | refine .region ?_ | refine .xs ?_ | refine .kb ?_ | refine .leaf ?_ | refine .block ?_ | refine .gn ?_ | refine .dr ?_ | fail
  · rintro q r' S' Fx ⟨v, rfl, hp, hk⟩
    exact ⟨rfl, rfl, hp.st, rfl, rfl⟩
  · exact ⟨_, _, ⟨.nils, rfl, RLp.start h1.1 hfu, h1.2⟩, rfl, rfl, rfl, rfl, trivial⟩
  · rintro q j S2 Fx E1 kx hq ⟨v, rfl, hp, hk⟩ hsub hK
    refine Go.weaken ?_ hsub
    obtain ⟨hmu, hk0, i1, hi1, hqj⟩ := hp.pos rfl
    have hcnt := hp.cnt (Nat.le_of_lt hq)
    repeat' first
     | refine Opl.call rfl (by kernel_rfl) ((he hk0).h hp.st hmu) rfl (fun xv S3 hx => ?_) (fun _ _ hf => hf.elim)
     | refine .std ?_ | refine .nil ?_ | refine .seq ?_ | refine .region ?_ | refine .xs ?_ | refine .kb ?_ | refine .leaf ?_ | refine .block ?_ | refine .gn ?_ | refine .dr ?_ | fail
    obtain ⟨q1, q2, q3, q4⟩ := hx
    obtain ⟨v', S4, happ, hg4, hel, hn4, hold, hbx⟩ := grow_tmp (P := Tryz.prog) (xv := xv) (App.of (P := Tryz.prog) (t := 49) (u := 49) (e := 3) (n := 1) (ag := false) (bytes := 8) (by kernel_rfl)) (by decide) (by omega) (grow_up hp.grow q4 hp.st) (Nat.le_trans hk.next q4.next) q2.len q2.ones
    have hbs := bsl_one (P := Tryz.prog) (v := xv) (App.of (P := Tryz.prog) (t := 49) (u := 49) (e := 3) (n := 1) (ag := false) (bytes := 8) (by kernel_rfl)) (by decide) q2.len q2.one
    have hp' := RLp.next hp rfl rfl (q1.ofBox hn4 fun t cs hb => hbx c t cs q1.lt hb) q3 hg4 hel
    have hn3 := q4.next
    have hk' : Keep2 S S4 c c := ⟨Nat.le_trans hk.next (Nat.le_trans q4.next hn4), fun id a1 a2 a3 => by rw [hold id (Nat.lt_of_lt_of_le a1 (Nat.le_trans hk.next q4.next)) a1, q4.find id (Nat.lt_of_lt_of_le a1 hk.next) a2 a3]; exact hk.find id a1 a2 a3⟩
    repeat' first
     | refine Opl.val (op_buildSlice1 rfl hbs) rfl ?_
     | refine Opl.val (op_app rfl rfl happ) rfl ?_
     | exact hK _ _ _ _ ⟨v', rfl, hp', hk'⟩ ⟨rfl, rfl, rfl, rfl, trivial⟩
     | refine .std ?_ | refine .nil ?_ | refine .seq ?_ | refine .region ?_ | refine .xs ?_ | refine .kb ?_ | refine .leaf ?_ | refine .block ?_ | refine .gn ?_ | refine .dr ?_ | fail
  · rintro q r' S2 Fx ⟨v, rfl, hp, hk⟩ hqn hend
    obtain ⟨d1, d2, d3⟩ := hp.done hqn hend
    repeat' first | refine .std ?_ | refine .nil ?_ | refine .seq ?_ | refine .region ?_ | refine .xs ?_ | refine .kb ?_ | refine .leaf ?_ | refine .block ?_ | refine .gn ?_ | refine .dr ?_ | fail
    refine At.fnr rfl rfl rfl ?_
    rw [d1]
    exact ⟨hp.st, d2, d3, hk⟩
theorem xtypes (k : Nat) (s : List UInt8) (he : 0 < k → RGC 133 k s [.sub 5] 6 true 1) : RGC 132 k s [.list 5] 1 false 0 := .mk fun {S c r} h hfu => by
  refine CallTo.of (n := 20) Tryz.func132 rfl rfl ?_
  have hsm := h.small
  have hle := rL_le (s := s) (r := r)
  repeat' first
   | refine Opl.callv rfl (by kernel_rfl) h.long rfl (fun S1 h1 => ?_) (fun _ _ hf => hf.elim)
   | refine Go.rloop c (rL s r).1 s (fun q r' S' Fx => ∃ v, Fx = [(0, .ptr c 0), (3, v), (4, .int .i64 ((rL s r).1 : Nat))] ∧ RLp k S.next S' c s r 5 221 6 q r' v ∧ Keep2 S S' c c) ?_ (by omega) (by rfl) (by rfl) ?_ ?_ ?_
   | refine .std ?_ | refine .nil ?_ | refine .seq ?_ | refine .region ?_ | refine .xs ?_ | refine .kb ?_ | refine .leaf ?_ | refine .block ?_ | refine .gn ?_ | refine .dr ?_ | fail
  · rintro q r' S' Fx ⟨v, rfl, hp, hk⟩
    exact ⟨rfl, rfl, hp.st, rfl, rfl⟩
  · exact ⟨_, _, ⟨.nils, rfl, RLp.start h1.1 hfu, h1.2⟩, rfl, rfl, rfl, rfl, trivial⟩
  · rintro q j S2 Fx E1 kx hq ⟨v, rfl, hp, hk⟩ hsub hK
    refine Go.weaken ?_ hsub
    obtain ⟨hmu, hk0, i1, hi1, hqj⟩ := hp.pos rfl
    have hcnt := hp.cnt (Nat.le_of_lt hq)
    repeat' first
     | refine Opl.call rfl (by kernel_rfl) ((he hk0).h hp.st hmu) rfl (fun xv S3 hx => ?_) (fun _ _ hf => hf.elim)
     | refine .std ?_ | refine .nil ?_ | refine .seq ?_ | refine .region ?_ | refine .xs ?_ | refine .kb ?_ | refine .leaf ?_ | refine .block ?_ | refine .gn ?_ | refine .dr ?_ | fail
    obtain ⟨q1, q2, q3, q4⟩ := hx
    obtain ⟨v', S4, happ, hg4, hel, hn4, hold, hbx⟩ := grow_tmp (P := Tryz.prog) (xv := xv) (App.of (P := Tryz.prog) (t := 210) (u := 210) (e := 221) (n := 6) (ag := true) (bytes := 88) (by kernel_rfl)) (by decide) (by omega) (grow_up hp.grow q4 hp.st) (Nat.le_trans hk.next q4.next) q2.len q2.ones
    have hbs := bsl_one (P := Tryz.prog) (v := xv) (App.of (P := Tryz.prog) (t := 210) (u := 210) (e := 221) (n := 6) (ag := true) (bytes := 88) (by kernel_rfl)) (by decide) q2.len q2.one
    have hp' := RLp.next hp rfl rfl (q1.ofBox hn4 fun t cs hb => hbx c t cs q1.lt hb) q3 hg4 hel
    have hn3 := q4.next
    have hk' : Keep2 S S4 c c := ⟨Nat.le_trans hk.next (Nat.le_trans q4.next hn4), fun id a1 a2 a3 => by rw [hold id (Nat.lt_of_lt_of_le a1 (Nat.le_trans hk.next q4.next)) a1, q4.find id (Nat.lt_of_lt_of_le a1 hk.next) a2 a3]; exact hk.find id a1 a2 a3⟩
    repeat' first
     | refine Opl.val (op_buildSlice1 rfl hbs) rfl ?_
     | refine Opl.val (op_app rfl rfl happ) rfl ?_
     | exact hK _ _ _ _ ⟨v', rfl, hp', hk'⟩ ⟨rfl, rfl, rfl, rfl, trivial⟩
     | refine .std ?_ | refine .nil ?_ | refine .seq ?_ | refine .region ?_ | refine .xs ?_ | refine .kb ?_ | refine .leaf ?_ | refine .block ?_ | refine .gn ?_ | refine .dr ?_ | fail
  · rintro q r' S2 Fx ⟨v, rfl, hp, hk⟩ hqn hend
    obtain ⟨d1, d2, d3⟩ := hp.done hqn hend
    repeat' first | refine .std ?_ | refine .nil ?_ | refine .seq ?_ | refine .region ?_ | refine .xs ?_ | refine .kb ?_ | refine .leaf ?_ | refine .block ?_ | refine .gn ?_ | refine .dr ?_ | fail
    refine At.fnr rfl rfl rfl ?_
    rw [d1]
    exact ⟨hp.st, d2, d3, hk⟩
theorem xvalues (k : Nat) (s : List UInt8) (he : 0 < k → RGC 49 k s [.sub 2] 5 true 1) : RGC 107 k s [.list 2] 1 false 0 := .mk fun {S c r} h hfu => by
  refine CallTo.of (n := 20) Tryz.func107 rfl rfl ?_
  have hsm := h.small
  have hle := rL_le (s := s) (r := r)
  repeat' first
   | refine Opl.callv rfl (by kernel_rfl) h.long rfl (fun S1 h1 => ?_) (fun _ _ hf => hf.elim)
   | refine Go.rloop c (rL s r).1 s (fun q r' S' Fx => ∃ v, Fx = [(0, .ptr c 0), (3, v), (4, .int .i64 ((rL s r).1 : Nat))] ∧ RLp k S.next S' c s r 2 62 5 q r' v ∧ Keep2 S S' c c) ?_ (by omega) (by rfl) (by rfl) ?_ ?_ ?_
   | refine .std ?_ | refine .nil ?_ | refine .seq ?_ | refine .region ?_ | refine .xs ?_ | refine .kb ?_ | refine .leaf ?_ | refine .block ?_ | refine .gn ?_ | refine .dr ?_ | fail
  · rintro q r' S' Fx ⟨v, rfl, hp, hk⟩
    exact ⟨rfl, rfl, hp.st, rfl, rfl⟩
  · exact ⟨_, _, ⟨.nils, rfl, RLp.start h1.1 hfu, h1.2⟩, rfl, rfl, rfl, rfl, trivial⟩
  · rintro q j S2 Fx E1 kx hq ⟨v, rfl, hp, hk⟩ hsub hK
    refine Go.weaken ?_ hsub
    obtain ⟨hmu, hk0, i1, hi1, hqj⟩ := hp.pos rfl
    have hcnt := hp.cnt (Nat.le_of_lt hq)
    repeat' first
     | refine Opl.call rfl (by kernel_rfl) ((he hk0).h hp.st hmu) rfl (fun xv S3 hx => ?_) (fun _ _ hf => hf.elim)
     | refine .std ?_ | refine .nil ?_ | refine .seq ?_ | refine .region ?_ | refine .xs ?_ | refine .kb ?_ | refine .leaf ?_ | refine .block ?_ | refine .gn ?_ | refine .dr ?_ | fail
    obtain ⟨q1, q2, q3, q4⟩ := hx
    obtain ⟨v', S4, happ, hg4, hel, hn4, hold, hbx⟩ := grow_tmp (P := Tryz.prog) (xv := xv) (App.of (P := Tryz.prog) (t := 60) (u := 60) (e := 62) (n := 5) (ag := true) (bytes := 80) (by kernel_rfl)) (by decide) (by omega) (grow_up hp.grow q4 hp.st) (Nat.le_trans hk.next q4.next) q2.len q2.ones
    have hbs := bsl_one (P := Tryz.prog) (v := xv) (App.of (P := Tryz.prog) (t := 60) (u := 60) (e := 62) (n := 5) (ag := true) (bytes := 80) (by kernel_rfl)) (by decide) q2.len q2.one
    have hp' := RLp.next hp rfl rfl (q1.ofBox hn4 fun t cs hb => hbx c t cs q1.lt hb) q3 hg4 hel
    have hn3 := q4.next
    have hk' : Keep2 S S4 c c := ⟨Nat.le_trans hk.next (Nat.le_trans q4.next hn4), fun id a1 a2 a3 => by rw [hold id (Nat.lt_of_lt_of_le a1 (Nat.le_trans hk.next q4.next)) a1, q4.find id (Nat.lt_of_lt_of_le a1 hk.next) a2 a3]; exact hk.find id a1 a2 a3⟩
    repeat' first
     | refine Opl.val (op_buildSlice1 rfl hbs) rfl ?_
     | refine Opl.val (op_app rfl rfl happ) rfl ?_
     | exact hK _ _ _ _ ⟨v', rfl, hp', hk'⟩ ⟨rfl, rfl, rfl, rfl, trivial⟩
     | refine .std ?_ | refine .nil ?_ | refine .seq ?_ | refine .region ?_ | refine .xs ?_ | refine .kb ?_ | refine .leaf ?_ | refine .block ?_ | refine .gn ?_ | refine .dr ?_ | fail
  · rintro q r' S2 Fx ⟨v, rfl, hp, hk⟩ hqn hend
    obtain ⟨d1, d2, d3⟩ := hp.done hqn hend
    repeat' first | refine .std ?_ | refine .nil ?_ | refine .seq ?_ | refine .region ?_ | refine .xs ?_ | refine .kb ?_ | refine .leaf ?_ | refine .block ?_ | refine .gn ?_ | refine .dr ?_ | fail
    refine At.fnr rfl rfl rfl ?_
    rw [d1]
    exact ⟨hp.st, d2, d3, hk⟩
end Go.Proofs.YtilldjgagokcfaaGreat
