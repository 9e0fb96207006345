import Derived.Test.YtilldjgagokcfaaGreatD3
set_option linter.unusedVariables false
set_option linter.unusedSimpArgs false
namespace Go.Proofs.YtilldjgagokcfaaGreat
open Go.RowKit Go.Ev
set_option maxRecDepth 100000
set_option linter.unusedVariables false
def dfn : Nat → FuncId
  | 0 => 99
  | 1 => 114
  | 2 => 48
  | 3 => 97
  | 4 => 137
  | 5 => 118
  | 6 => 146
  | 7 => 60
  | 8 => 116
  | 9 => 62
  | 10 => 120
  | 11 => 66
  | 12 => 125
  | 13 => 64
  | 14 => 26
  | 15 => 30
  | 16 => 76
  | 17 => 80
  | 18 => 140
  | 19 => 100
  | 20 => 44
  | _ => 0
def DAll (k : Nat) (s : List UInt8) : Prop := ∀ t, t < 21 → GC (dfn t) (fun c p => [c, p]) k s [.sub t] (zc t) 1
structure Prog (k : Nat) (S0 S : St) (c x : Nat) (s : List UInt8) (i0 i : Nat) (T : TypeId) (L : List V) (o : Nat) (fs : List Ev.Fd) (n : Nat) (rest : List V) : Prop where
  ex : ∃ cs, S.h.find x = some (.box T (L ++ (cs ++ rest))) ∧ cs.length = n ∧ Enc fs cs (slc s i0 i)
  sc : scanF (scan s k) s fs i0 = .ok i
  cod : CodR S c s i
  keep : Keep2 S0 S c x
  le : i0 ≤ i
  lt : fs.isEmpty = false → i0 < i
  xc : x ≠ c
  xlt : x < S.next
  ho : o = L.length
section
variable {k0 : Nat} {S0 S : St} {c x : Nat} {s : List UInt8} {i0 i : Nat} {T : TypeId} {L : List V} {o : Nat} {fs : List Ev.Fd} {n : Nat} {rest R : List V}
theorem Prog.fuel0 (p : Prog k0 S0 S c x s i0 i T L o fs n rest) (hk : s.length - i0 + 1 ≤ k0 + 1) : s.length - i + 0 ≤ k0 := by
  have := p.le; omega
theorem Prog.fuel1 (p : Prog k0 S0 S c x s i0 i T L o fs n rest) (hk : s.length - i0 + 1 ≤ k0 + 1) (h : fs.isEmpty = false) : s.length - i + 1 ≤ k0 := by
  have := p.lt h; have := p.cod.le; omega
theorem Prog.done (p : Prog k0 S0 S c x s i0 i T L o fs n R) {t : Nat} (hf : sch t = fs) (hn : (zc t).length = n) (hne : (sch t).isEmpty = false := by rfl) :
    ∃ j cs, scanF (scan s (k0 + 1)) s [.sub t] i0 = .ok j ∧ CodR S c s j ∧ S.h.find x = some (.box T (L ++ (cs ++ R))) ∧ cs.length = (zc t).length ∧ Enc [.sub t] cs (slc s i0 j) ∧ i0 < j ∧ Keep2 S0 S c x := by
  obtain ⟨cs, h1, h2, h3⟩ := p.ex
  subst hf
  have hz := zc_len t
  refine ⟨i, cs, by rw [scanF_sub]; exact p.sc, p.cod, h1, by rw [h2, hn], Enc.sub h3 (by rw [h2, ← hn, hz]), ?_, p.keep⟩
  exact p.lt hne
theorem Prog.bad {v : V} {S' : St} (h : ∃ b, scanF (scan s k0) s fs i0 = .error b ∧ v = malV b ∧ Keep2 S0 S' c x) {t : Nat} (gs : List Ev.Fd) (hf : sch t = fs ++ gs) : ∃ b, scanF (scan s (k0 + 1)) s [.sub t] i0 = .error b ∧ v = malV b ∧ Keep2 S0 S' c x := by
  obtain ⟨b, h1, h2, h3⟩ := h
  exact ⟨b, by rw [scanF_sub]; exact scanF_err h1 gs hf, h2, h3⟩
theorem Opl.callP {F : Sh} {E : Env} {k : K} {ops : Array Oper} {os : List Oper} {d : Nat} {ty : TypeId} {pos : String} {after : Array Edge} {f : Operand} {args : Array Operand} {ats : Array TypeId} {g : FuncId} {l : List V} {mk : V → V → List V} {grp : List Ev.Fd} {zs : List V} {m : Nat} (fs2 : List Ev.Fd) (n2 : Nat)
    (p : Prog k0 S0 S c x s i0 i T L o fs n (zs ++ rest)) (hf : calleeE (Env.opd E) f args = some (g, l)) (hb : hasBody Tryz.prog g = true) (hc : GC g mk k0 s grp zs m) (hl : l = mk (.ptr c 0) (.ptr x (o + n))) (hfs : fs2 = fs ++ grp) (hn : n2 = n + zs.length)
    (hm : s.length - i + m ≤ k0) (hd : Nat.blt d F.n = true) (h1 : ∀ S' i', Prog k0 S0 S' c x s i0 i' T L o fs2 n2 rest → ∀ v, Opl Tryz.prog ops os F ((d, v) :: E) S' k)
    (h2 : ∀ v S', (∃ b, scanF (scan s k0) s fs2 i0 = .error b ∧ v = malV b ∧ Keep2 S0 S' c x) → At (.panic v) k F E S') :
    Opl Tryz.prog ops (⟨some d, .call { callee := .value f, args, argTypes := ats }, ty, pos, after, none⟩ :: os) F E S k := by
  subst hl hfs hn
  obtain ⟨cs, hbx, hcl, henc⟩ := p.ex
  have hbx2 : S.h.find x = some (.box T ((L ++ cs) ++ (zs ++ rest))) := by rw [hbx]; simp
  refine .call hf hb (hc.h p.cod (L := L ++ cs) (R := rest) (off := o + n) (by rw [p.ho]; simp [hcl]) p.xc p.xlt hm hbx2) hd (fun v S' h => ?_) (fun v S' h => ?_)
  · obtain ⟨j, ds, q1, q2, q3, q4, q5, q6, q7⟩ := h
    refine h1 S' j ⟨⟨cs ++ ds, by rw [q3]; simp, by simp [hcl, q4], ?_⟩, by rw [scanF_app, p.sc]; exact q1, q2, p.keep.trans q7, by have := p.le; omega, fun _ => by have := p.le; omega, p.xc, Nat.lt_of_lt_of_le p.xlt q7.next, p.ho⟩ v
    rw [← slc_app p.le (Nat.le_of_lt q6)]
    exact henc.app q5
  · obtain ⟨b, q1, q2, q3⟩ := h
    exact h2 v S' ⟨b, by rw [scanF_app, p.sc]; exact q1, q2, p.keep.trans q3⟩
end
theorem rd0 {k : Nat} {s : List UInt8} (IH : DAll k s) : GC 99 (fun c p => [c, p]) (k + 1) s [.sub 0] (zc 0) 1 := by
  refine ⟨?_⟩
  intro S c x i T L R o h ho hxc hx hk hbox
  refine CallTo.of (n := 8) Tryz.func99 rfl rfl ?_
  have p0 : Prog k S S c x s i i T L o [] 0 (zs (.int .i64 0) 1 ++ R) := ⟨⟨[], hbox, rfl, by rw [slc_self]; exact Enc.nil⟩, rfl, h, Keep2.refl _ _ _, Nat.le_refl _, (fun h => by cases h), hxc, hx, ho⟩
  have hb0 : buildSliceE Tryz.prog 249 1 [(0, .ptr x o)] = some (.list (some 152) 1 (pts (.ptr x (o + 0)) 1) .exact) := by kernel_rfl
  repeat' first
   | refine Opl.val (op_buildSlice1 rfl hb0) rfl ?_
   | refine Opl.callP [.int] 1 p0 rfl (by kernel_rfl) (rints k s _ _ 1 (by decide) (by decide)) rfl rfl rfl (p0.fuel0 hk) rfl (fun S1 i1 p1 v => ?_) (fun v S2 hb => ?_)
   | refine At.fnp rfl ?_
   | refine At.fn rfl rfl rfl ?_
   | refine .std ?_ | refine .nil ?_ | refine .seq ?_ | refine .region ?_ | refine .xs ?_ | refine .kb ?_ | refine .leaf ?_ | refine .block ?_ | refine .gn ?_ | refine .dr ?_ | fail
  all_goals first
    | exact p1.done rfl rfl
    | exact Prog.bad hb [] rfl
theorem rd1 {k : Nat} {s : List UInt8} (IH : DAll k s) : GC 114 (fun c p => [c, p]) (k + 1) s [.sub 1] (zc 1) 1 := by
  refine ⟨?_⟩
  intro S c x i T L R o h ho hxc hx hk hbox
  refine CallTo.of (n := 8) Tryz.func114 rfl rfl ?_
  have p0 : Prog k S S c x s i i T L o [] 0 (zs (.str []) 1 ++ R) := ⟨⟨[], hbox, rfl, by rw [slc_self]; exact Enc.nil⟩, rfl, h, Keep2.refl _ _ _, Nat.le_refl _, (fun h => by cases h), hxc, hx, ho⟩
  have hb0 : buildSliceE Tryz.prog 233 1 [(0, .ptr x o)] = some (.list (some 136) 1 (pts (.ptr x (o + 0)) 1) .exact) := by kernel_rfl
  repeat' first
   | refine Opl.val (op_buildSlice1 rfl hb0) rfl ?_
   | refine Opl.callP [.str] 1 p0 rfl (by kernel_rfl) (rstrings k s _ _ 1 (by decide) (by decide)) rfl rfl rfl (p0.fuel0 hk) rfl (fun S1 i1 p1 v => ?_) (fun v S2 hb => ?_)
   | refine At.fnp rfl ?_
   | refine At.fn rfl rfl rfl ?_
   | refine .std ?_ | refine .nil ?_ | refine .seq ?_ | refine .region ?_ | refine .xs ?_ | refine .kb ?_ | refine .leaf ?_ | refine .block ?_ | refine .gn ?_ | refine .dr ?_ | fail
  all_goals first
    | exact p1.done rfl rfl
    | exact Prog.bad hb [] rfl
theorem rd2 {k : Nat} {s : List UInt8} (IH : DAll k s) : GC 48 (fun c p => [c, p]) (k + 1) s [.sub 2] (zc 2) 1 := by
  refine ⟨?_⟩
  intro S c x i T L R o h ho hxc hx hk hbox
  refine CallTo.of (n := 31) Tryz.func48 rfl rfl ?_
  have p0 : Prog k S S c x s i i T L o [] 0 ([.int .i64 0] ++ (zs (.int .i64 0) 1 ++ (zs (.str []) 1 ++ ([.nils] ++ ([.nils] ++ R))))) := ⟨⟨[], hbox, rfl, by rw [slc_self]; exact Enc.nil⟩, rfl, h, Keep2.refl _ _ _, Nat.le_refl _, (fun h => by cases h), hxc, hx, ho⟩
  have hb1 : buildSliceE Tryz.prog 249 1 [(0, padd (.ptr x o) 1)] = some (.list (some 152) 1 (pts (.ptr x (o + 1)) 1) .exact) := by kernel_rfl
  have hb2 : buildSliceE Tryz.prog 233 1 [(0, padd (.ptr x o) 2)] = some (.list (some 136) 1 (pts (.ptr x (o + 2)) 1) .exact) := by kernel_rfl
  repeat' first
   | refine Opl.callP [.int] 1 p0 rfl (by kernel_rfl) (rkindValueKind k s) rfl rfl rfl (p0.fuel0 hk) rfl (fun S1 i1 p1 v => ?_) (fun v S2 hb => ?_)
   | refine Opl.val (op_buildSlice1 rfl hb1) rfl ?_
   | refine Opl.callP [.int, .int] 2 p1 rfl (by kernel_rfl) (rints k s _ _ 1 (by decide) (by decide)) rfl rfl rfl (p1.fuel0 hk) rfl (fun S2 i2 p2 v => ?_) (fun v S2 hb => ?_)
   | refine Opl.val (op_buildSlice1 rfl hb2) rfl ?_
   | refine Opl.callP [.int, .int, .str] 3 p2 rfl (by kernel_rfl) (rstrings k s _ _ 1 (by decide) (by decide)) rfl rfl rfl (p2.fuel0 hk) rfl (fun S3 i3 p3 v => ?_) (fun v S2 hb => ?_)
   | refine Opl.callP [.int, .int, .str, .list 2] 4 p3 rfl (by kernel_rfl) (rlist62 k s (by kernel_rfl) (IH 2 (by decide))) rfl rfl rfl (p3.fuel0 hk) rfl (fun S4 i4 p4 v => ?_) (fun v S2 hb => ?_)
   | refine Opl.callP [.int, .int, .str, .list 2, .list 3] 5 p4 rfl (by kernel_rfl) (rlist181 k s (by kernel_rfl) (IH 3 (by decide))) rfl rfl rfl (p4.fuel0 hk) rfl (fun S5 i5 p5 v => ?_) (fun v S2 hb => ?_)
   | refine At.fnp rfl ?_
   | refine At.fn rfl rfl rfl ?_
   | refine .std ?_ | refine .nil ?_ | refine .seq ?_ | refine .region ?_ | refine .xs ?_ | refine .kb ?_ | refine .leaf ?_ | refine .block ?_ | refine .gn ?_ | refine .dr ?_ | fail
  all_goals first
    | exact p5.done rfl rfl
    | exact Prog.bad hb [.int, .str, .list 2, .list 3] rfl
    | exact Prog.bad hb [.str, .list 2, .list 3] rfl
    | exact Prog.bad hb [.list 2, .list 3] rfl
    | exact Prog.bad hb [.list 3] rfl
    | exact Prog.bad hb [] rfl
theorem rd3 {k : Nat} {s : List UInt8} (IH : DAll k s) : GC 97 (fun c p => [c, p]) (k + 1) s [.sub 3] (zc 3) 1 := by
  refine ⟨?_⟩
  intro S c x i T L R o h ho hxc hx hk hbox
  refine CallTo.of (n := 31) Tryz.func97 rfl rfl ?_
  have p0 : Prog k S S c x s i i T L o [] 0 ([.int .i64 0] ++ (zs (.str []) 1 ++ (zs (.int .i64 0) 1 ++ ([.nils] ++ ([.nils] ++ R))))) := ⟨⟨[], hbox, rfl, by rw [slc_self]; exact Enc.nil⟩, rfl, h, Keep2.refl _ _ _, Nat.le_refl _, (fun h => by cases h), hxc, hx, ho⟩
  have hb1 : buildSliceE Tryz.prog 233 1 [(0, padd (.ptr x o) 1)] = some (.list (some 136) 1 (pts (.ptr x (o + 1)) 1) .exact) := by kernel_rfl
  have hb2 : buildSliceE Tryz.prog 249 1 [(0, padd (.ptr x o) 2)] = some (.list (some 152) 1 (pts (.ptr x (o + 2)) 1) .exact) := by kernel_rfl
  repeat' first
   | refine Opl.callP [.int] 1 p0 rfl (by kernel_rfl) (rkindSegKind k s) rfl rfl rfl (p0.fuel0 hk) rfl (fun S1 i1 p1 v => ?_) (fun v S2 hb => ?_)
   | refine Opl.val (op_buildSlice1 rfl hb1) rfl ?_
   | refine Opl.callP [.int, .str] 2 p1 rfl (by kernel_rfl) (rstrings k s _ _ 1 (by decide) (by decide)) rfl rfl rfl (p1.fuel0 hk) rfl (fun S2 i2 p2 v => ?_) (fun v S2 hb => ?_)
   | refine Opl.val (op_buildSlice1 rfl hb2) rfl ?_
   | refine Opl.callP [.int, .str, .int] 3 p2 rfl (by kernel_rfl) (rints k s _ _ 1 (by decide) (by decide)) rfl rfl rfl (p2.fuel0 hk) rfl (fun S3 i3 p3 v => ?_) (fun v S2 hb => ?_)
   | refine Opl.callP [.int, .str, .int, .list 2] 4 p3 rfl (by kernel_rfl) (rlist62 k s (by kernel_rfl) (IH 2 (by decide))) rfl rfl rfl (p3.fuel0 hk) rfl (fun S4 i4 p4 v => ?_) (fun v S2 hb => ?_)
   | refine Opl.callP [.int, .str, .int, .list 2, .list 4] 5 p4 rfl (by kernel_rfl) (rlist259 k s (by kernel_rfl) (IH 4 (by decide))) rfl rfl rfl (p4.fuel0 hk) rfl (fun S5 i5 p5 v => ?_) (fun v S2 hb => ?_)
   | refine At.fnp rfl ?_
   | refine At.fn rfl rfl rfl ?_
   | refine .std ?_ | refine .nil ?_ | refine .seq ?_ | refine .region ?_ | refine .xs ?_ | refine .kb ?_ | refine .leaf ?_ | refine .block ?_ | refine .gn ?_ | refine .dr ?_ | fail
  all_goals first
    | exact p5.done rfl rfl
    | exact Prog.bad hb [.str, .int, .list 2, .list 4] rfl
    | exact Prog.bad hb [.int, .list 2, .list 4] rfl
    | exact Prog.bad hb [.list 2, .list 4] rfl
    | exact Prog.bad hb [.list 4] rfl
    | exact Prog.bad hb [] rfl
theorem rd4 {k : Nat} {s : List UInt8} (IH : DAll k s) : GC 137 (fun c p => [c, p]) (k + 1) s [.sub 4] (zc 4) 1 := by
  refine ⟨?_⟩
  intro S c x i T L R o h ho hxc hx hk hbox
  refine CallTo.of (n := 23) Tryz.func137 rfl rfl ?_
  have p0 : Prog k S S c x s i i T L o [] 0 (zs (.int .i64 0) 2 ++ ([.nils] ++ ([.nils] ++ R))) := ⟨⟨[], hbox, rfl, by rw [slc_self]; exact Enc.nil⟩, rfl, h, Keep2.refl _ _ _, Nat.le_refl _, (fun h => by cases h), hxc, hx, ho⟩
  have hb0 : buildSliceE Tryz.prog 249 2 [(0, padd (.ptr x o) 0), (1, padd (.ptr x o) 1)] = some (.list (some 152) 1 (pts (.ptr x (o + 0)) 2) .exact) := by kernel_rfl
  repeat' first
   | refine Opl.val (op_bs2 rfl rfl hb0) rfl ?_
   | refine Opl.callP [.int, .int] 2 p0 rfl (by kernel_rfl) (rints k s _ _ 2 (by decide) (by decide)) rfl rfl rfl (p0.fuel0 hk) rfl (fun S1 i1 p1 v => ?_) (fun v S2 hb => ?_)
   | refine Opl.callP [.int, .int, .list 2] 3 p1 rfl (by kernel_rfl) (rlist62 k s (by kernel_rfl) (IH 2 (by decide))) rfl rfl rfl (p1.fuel0 hk) rfl (fun S2 i2 p2 v => ?_) (fun v S2 hb => ?_)
   | refine Opl.callP [.int, .int, .list 2, .list 2] 4 p2 rfl (by kernel_rfl) (rlist62 k s (by kernel_rfl) (IH 2 (by decide))) rfl rfl rfl (p2.fuel0 hk) rfl (fun S3 i3 p3 v => ?_) (fun v S2 hb => ?_)
   | refine At.fnp rfl ?_
   | refine At.fn rfl rfl rfl ?_
   | refine .std ?_ | refine .nil ?_ | refine .seq ?_ | refine .region ?_ | refine .xs ?_ | refine .kb ?_ | refine .leaf ?_ | refine .block ?_ | refine .gn ?_ | refine .dr ?_ | fail
  all_goals first
    | exact p3.done rfl rfl
    | exact Prog.bad hb [.list 2, .list 2] rfl
    | exact Prog.bad hb [.list 2] rfl
    | exact Prog.bad hb [] rfl
theorem rd5 {k : Nat} {s : List UInt8} (IH : DAll k s) : GC 118 (fun c p => [c, p]) (k + 1) s [.sub 5] (zc 5) 1 := by
  refine ⟨?_⟩
  intro S c x i T L R o h ho hxc hx hk hbox
  refine CallTo.of (n := 39) Tryz.func118 rfl rfl ?_
  have p0 : Prog k S S c x s i i T L o [] 0 ([.int .i64 0] ++ (zs (.int .i64 0) 1 ++ (zs (.str []) 1 ++ ([.nils] ++ ([.nils] ++ (zs (.int .i64 0) 1 ++ R)))))) := ⟨⟨[], hbox, rfl, by rw [slc_self]; exact Enc.nil⟩, rfl, h, Keep2.refl _ _ _, Nat.le_refl _, (fun h => by cases h), hxc, hx, ho⟩
  have hb1 : buildSliceE Tryz.prog 249 1 [(0, padd (.ptr x o) 1)] = some (.list (some 152) 1 (pts (.ptr x (o + 1)) 1) .exact) := by kernel_rfl
  have hb2 : buildSliceE Tryz.prog 233 1 [(0, padd (.ptr x o) 2)] = some (.list (some 136) 1 (pts (.ptr x (o + 2)) 1) .exact) := by kernel_rfl
  have hb5 : buildSliceE Tryz.prog 249 1 [(0, padd (.ptr x o) 5)] = some (.list (some 152) 1 (pts (.ptr x (o + 5)) 1) .exact) := by kernel_rfl
  repeat' first
   | refine Opl.callP [.int] 1 p0 rfl (by kernel_rfl) (rkindTypeKind k s) rfl rfl rfl (p0.fuel0 hk) rfl (fun S1 i1 p1 v => ?_) (fun v S2 hb => ?_)
   | refine Opl.val (op_buildSlice1 rfl hb1) rfl ?_
   | refine Opl.callP [.int, .int] 2 p1 rfl (by kernel_rfl) (rints k s _ _ 1 (by decide) (by decide)) rfl rfl rfl (p1.fuel0 hk) rfl (fun S2 i2 p2 v => ?_) (fun v S2 hb => ?_)
   | refine Opl.val (op_buildSlice1 rfl hb2) rfl ?_
   | refine Opl.callP [.int, .int, .str] 3 p2 rfl (by kernel_rfl) (rstrings k s _ _ 1 (by decide) (by decide)) rfl rfl rfl (p2.fuel0 hk) rfl (fun S3 i3 p3 v => ?_) (fun v S2 hb => ?_)
   | refine Opl.callP [.int, .int, .str, .list 5] 4 p3 rfl (by kernel_rfl) (rlist221 k s (by kernel_rfl) (IH 5 (by decide))) rfl rfl rfl (p3.fuel0 hk) rfl (fun S4 i4 p4 v => ?_) (fun v S2 hb => ?_)
   | refine Opl.callP [.int, .int, .str, .list 5, .list 6] 5 p4 rfl (by kernel_rfl) (rlist276 k s (by kernel_rfl) (IH 6 (by decide))) rfl rfl rfl (p4.fuel0 hk) rfl (fun S5 i5 p5 v => ?_) (fun v S2 hb => ?_)
   | refine Opl.val (op_buildSlice1 rfl hb5) rfl ?_
   | refine Opl.callP [.int, .int, .str, .list 5, .list 6, .int] 6 p5 rfl (by kernel_rfl) (rints k s _ _ 1 (by decide) (by decide)) rfl rfl rfl (p5.fuel0 hk) rfl (fun S6 i6 p6 v => ?_) (fun v S2 hb => ?_)
   | refine At.fnp rfl ?_
   | refine At.fn rfl rfl rfl ?_
   | refine .std ?_ | refine .nil ?_ | refine .seq ?_ | refine .region ?_ | refine .xs ?_ | refine .kb ?_ | refine .leaf ?_ | refine .block ?_ | refine .gn ?_ | refine .dr ?_ | fail
  all_goals first
    | exact p6.done rfl rfl
    | exact Prog.bad hb [.int, .str, .list 5, .list 6, .int] rfl
    | exact Prog.bad hb [.str, .list 5, .list 6, .int] rfl
    | exact Prog.bad hb [.list 5, .list 6, .int] rfl
    | exact Prog.bad hb [.list 6, .int] rfl
    | exact Prog.bad hb [.int] rfl
    | exact Prog.bad hb [] rfl
theorem rd6 {k : Nat} {s : List UInt8} (IH : DAll k s) : GC 146 (fun c p => [c, p]) (k + 1) s [.sub 6] (zc 6) 1 := by
  refine ⟨?_⟩
  intro S c x i T L R o h ho hxc hx hk hbox
  refine CallTo.of (n := 16) Tryz.func146 rfl rfl ?_
  have p0 : Prog k S S c x s i i T L o [] 0 (zs (.str []) 1 ++ (zs (.int .i64 0) 1 ++ R)) := ⟨⟨[], hbox, rfl, by rw [slc_self]; exact Enc.nil⟩, rfl, h, Keep2.refl _ _ _, Nat.le_refl _, (fun h => by cases h), hxc, hx, ho⟩
  have hb0 : buildSliceE Tryz.prog 233 1 [(0, padd (.ptr x o) 0)] = some (.list (some 136) 1 (pts (.ptr x (o + 0)) 1) .exact) := by kernel_rfl
  have hb1 : buildSliceE Tryz.prog 249 1 [(0, padd (.ptr x o) 1)] = some (.list (some 152) 1 (pts (.ptr x (o + 1)) 1) .exact) := by kernel_rfl
  repeat' first
   | refine Opl.val (op_buildSlice1 rfl hb0) rfl ?_
   | refine Opl.callP [.str] 1 p0 rfl (by kernel_rfl) (rstrings k s _ _ 1 (by decide) (by decide)) rfl rfl rfl (p0.fuel0 hk) rfl (fun S1 i1 p1 v => ?_) (fun v S2 hb => ?_)
   | refine Opl.val (op_buildSlice1 rfl hb1) rfl ?_
   | refine Opl.callP [.str, .int] 2 p1 rfl (by kernel_rfl) (rints k s _ _ 1 (by decide) (by decide)) rfl rfl rfl (p1.fuel0 hk) rfl (fun S2 i2 p2 v => ?_) (fun v S2 hb => ?_)
   | refine At.fnp rfl ?_
   | refine At.fn rfl rfl rfl ?_
   | refine .std ?_ | refine .nil ?_ | refine .seq ?_ | refine .region ?_ | refine .xs ?_ | refine .kb ?_ | refine .leaf ?_ | refine .block ?_ | refine .gn ?_ | refine .dr ?_ | fail
  all_goals first
    | exact p2.done rfl rfl
    | exact Prog.bad hb [.int] rfl
    | exact Prog.bad hb [] rfl
theorem rd7 {k : Nat} {s : List UInt8} (IH : DAll k s) : GC 60 (fun c p => [c, p]) (k + 1) s [.sub 7] (zc 7) 1 := by
  refine ⟨?_⟩
  intro S c x i T L R o h ho hxc hx hk hbox
  refine CallTo.of (n := 20) Tryz.func60 rfl rfl ?_
  have p0 : Prog k S S c x s i i T L o [] 0 (zs (.str []) 1 ++ ([.nils] ++ ([.nils] ++ R))) := ⟨⟨[], hbox, rfl, by rw [slc_self]; exact Enc.nil⟩, rfl, h, Keep2.refl _ _ _, Nat.le_refl _, (fun h => by cases h), hxc, hx, ho⟩
  have hb0 : buildSliceE Tryz.prog 233 1 [(0, padd (.ptr x o) 0)] = some (.list (some 136) 1 (pts (.ptr x (o + 0)) 1) .exact) := by kernel_rfl
  repeat' first
   | refine Opl.val (op_buildSlice1 rfl hb0) rfl ?_
   | refine Opl.callP [.str] 1 p0 rfl (by kernel_rfl) (rstrings k s _ _ 1 (by decide) (by decide)) rfl rfl rfl (p0.fuel0 hk) rfl (fun S1 i1 p1 v => ?_) (fun v S2 hb => ?_)
   | refine Opl.callP [.str, .list 1] 2 p1 rfl (by kernel_rfl) (rlist9 k s (by kernel_rfl) (IH 1 (by decide))) rfl rfl rfl (p1.fuel0 hk) rfl (fun S2 i2 p2 v => ?_) (fun v S2 hb => ?_)
   | refine Opl.callP [.str, .list 1, .list 8] 3 p2 rfl (by kernel_rfl) (rlist212 k s (by kernel_rfl) (IH 8 (by decide))) rfl rfl rfl (p2.fuel0 hk) rfl (fun S3 i3 p3 v => ?_) (fun v S2 hb => ?_)
   | refine At.fnp rfl ?_
   | refine At.fn rfl rfl rfl ?_
   | refine .std ?_ | refine .nil ?_ | refine .seq ?_ | refine .region ?_ | refine .xs ?_ | refine .kb ?_ | refine .leaf ?_ | refine .block ?_ | refine .gn ?_ | refine .dr ?_ | fail
  all_goals first
    | exact p3.done rfl rfl
    | exact Prog.bad hb [.list 1, .list 8] rfl
    | exact Prog.bad hb [.list 8] rfl
    | exact Prog.bad hb [] rfl
theorem rd8 {k : Nat} {s : List UInt8} (IH : DAll k s) : GC 116 (fun c p => [c, p]) (k + 1) s [.sub 8] (zc 8) 1 := by
  refine ⟨?_⟩
  intro S c x i T L R o h ho hxc hx hk hbox
  refine CallTo.of (n := 15) Tryz.func116 rfl rfl ?_
  have p0 : Prog k S S c x s i i T L o [] 0 (zs (.str []) 1 ++ ([.nils] ++ R)) := ⟨⟨[], hbox, rfl, by rw [slc_self]; exact Enc.nil⟩, rfl, h, Keep2.refl _ _ _, Nat.le_refl _, (fun h => by cases h), hxc, hx, ho⟩
  have hb0 : buildSliceE Tryz.prog 233 1 [(0, padd (.ptr x o) 0)] = some (.list (some 136) 1 (pts (.ptr x (o + 0)) 1) .exact) := by kernel_rfl
  repeat' first
   | refine Opl.val (op_buildSlice1 rfl hb0) rfl ?_
   | refine Opl.callP [.str] 1 p0 rfl (by kernel_rfl) (rstrings k s _ _ 1 (by decide) (by decide)) rfl rfl rfl (p0.fuel0 hk) rfl (fun S1 i1 p1 v => ?_) (fun v S2 hb => ?_)
   | refine Opl.callP [.str, .list 5] 2 p1 rfl (by kernel_rfl) (rlist221 k s (by kernel_rfl) (IH 5 (by decide))) rfl rfl rfl (p1.fuel0 hk) rfl (fun S2 i2 p2 v => ?_) (fun v S2 hb => ?_)
   | refine At.fnp rfl ?_
   | refine At.fn rfl rfl rfl ?_
   | refine .std ?_ | refine .nil ?_ | refine .seq ?_ | refine .region ?_ | refine .xs ?_ | refine .kb ?_ | refine .leaf ?_ | refine .block ?_ | refine .gn ?_ | refine .dr ?_ | fail
  all_goals first
    | exact p2.done rfl rfl
    | exact Prog.bad hb [.list 5] rfl
    | exact Prog.bad hb [] rfl
theorem rd9 {k : Nat} {s : List UInt8} (IH : DAll k s) : GC 62 (fun c p => [c, p]) (k + 1) s [.sub 9] (zc 9) 1 := by
  refine ⟨?_⟩
  intro S c x i T L R o h ho hxc hx hk hbox
  refine CallTo.of (n := 15) Tryz.func62 rfl rfl ?_
  have p0 : Prog k S S c x s i i T L o [] 0 (zs (.str []) 1 ++ ([.nils] ++ R)) := ⟨⟨[], hbox, rfl, by rw [slc_self]; exact Enc.nil⟩, rfl, h, Keep2.refl _ _ _, Nat.le_refl _, (fun h => by cases h), hxc, hx, ho⟩
  have hb0 : buildSliceE Tryz.prog 233 1 [(0, padd (.ptr x o) 0)] = some (.list (some 136) 1 (pts (.ptr x (o + 0)) 1) .exact) := by kernel_rfl
  repeat' first
   | refine Opl.val (op_buildSlice1 rfl hb0) rfl ?_
   | refine Opl.callP [.str] 1 p0 rfl (by kernel_rfl) (rstrings k s _ _ 1 (by decide) (by decide)) rfl rfl rfl (p0.fuel0 hk) rfl (fun S1 i1 p1 v => ?_) (fun v S2 hb => ?_)
   | refine Opl.callP [.str, .list 10] 2 p1 rfl (by kernel_rfl) (rlist228 k s (by kernel_rfl) (IH 10 (by decide))) rfl rfl rfl (p1.fuel0 hk) rfl (fun S2 i2 p2 v => ?_) (fun v S2 hb => ?_)
   | refine At.fnp rfl ?_
   | refine At.fn rfl rfl rfl ?_
   | refine .std ?_ | refine .nil ?_ | refine .seq ?_ | refine .region ?_ | refine .xs ?_ | refine .kb ?_ | refine .leaf ?_ | refine .block ?_ | refine .gn ?_ | refine .dr ?_ | fail
  all_goals first
    | exact p2.done rfl rfl
    | exact Prog.bad hb [.list 10] rfl
    | exact Prog.bad hb [] rfl
theorem rd10 {k : Nat} {s : List UInt8} (IH : DAll k s) : GC 120 (fun c p => [c, p]) (k + 1) s [.sub 10] (zc 10) 1 := by
  refine ⟨?_⟩
  intro S c x i T L R o h ho hxc hx hk hbox
  refine CallTo.of (n := 26) Tryz.func120 rfl rfl ?_
  have p0 : Prog k S S c x s i i T L o [] 0 (zs (.str []) 1 ++ (zc 5 ++ (zc 5 ++ (zs (.bool false) 1 ++ R)))) := ⟨⟨[], hbox, rfl, by rw [slc_self]; exact Enc.nil⟩, rfl, h, Keep2.refl _ _ _, Nat.le_refl _, (fun h => by cases h), hxc, hx, ho⟩
  have hb0 : buildSliceE Tryz.prog 233 1 [(0, padd (.ptr x o) 0)] = some (.list (some 136) 1 (pts (.ptr x (o + 0)) 1) .exact) := by kernel_rfl
  have hb3 : buildSliceE Tryz.prog 250 1 [(0, padd (.ptr x o) 13)] = some (.list (some 154) 1 (pts (.ptr x (o + 13)) 1) .exact) := by kernel_rfl
  repeat' first
   | refine Opl.val (op_buildSlice1 rfl hb0) rfl ?_
   | refine Opl.callP [.str] 1 p0 rfl (by kernel_rfl) (rstrings k s _ _ 1 (by decide) (by decide)) rfl rfl rfl (p0.fuel0 hk) rfl (fun S1 i1 p1 v => ?_) (fun v S2 hb => ?_)
   | refine Opl.callP [.str, .sub 5] 7 p1 rfl (by kernel_rfl) (IH 5 (by decide)) rfl rfl rfl (p1.fuel1 hk rfl) rfl (fun S2 i2 p2 v => ?_) (fun v S2 hb => ?_)
   | refine Opl.callP [.str, .sub 5, .sub 5] 13 p2 rfl (by kernel_rfl) (IH 5 (by decide)) rfl rfl rfl (p2.fuel1 hk rfl) rfl (fun S3 i3 p3 v => ?_) (fun v S2 hb => ?_)
   | refine Opl.val (op_buildSlice1 rfl hb3) rfl ?_
   | refine Opl.callP [.str, .sub 5, .sub 5, .bool] 14 p3 rfl (by kernel_rfl) (rbools k s _ _ 1 (by decide) (by decide)) rfl rfl rfl (p3.fuel0 hk) rfl (fun S4 i4 p4 v => ?_) (fun v S2 hb => ?_)
   | refine At.fnp rfl ?_
   | refine At.fn rfl rfl rfl ?_
   | refine .std ?_ | refine .nil ?_ | refine .seq ?_ | refine .region ?_ | refine .xs ?_ | refine .kb ?_ | refine .leaf ?_ | refine .block ?_ | refine .gn ?_ | refine .dr ?_ | fail
  all_goals first
    | exact p4.done rfl rfl
    | exact Prog.bad hb [.sub 5, .sub 5, .bool] rfl
    | exact Prog.bad hb [.sub 5, .bool] rfl
    | exact Prog.bad hb [.bool] rfl
    | exact Prog.bad hb [] rfl
theorem rd11 {k : Nat} {s : List UInt8} (IH : DAll k s) : GC 66 (fun c p => [c, p]) (k + 1) s [.sub 11] (zc 11) 1 := by
  refine ⟨?_⟩
  intro S c x i T L R o h ho hxc hx hk hbox
  refine CallTo.of (n := 39) Tryz.func66 rfl rfl ?_
  have p0 : Prog k S S c x s i i T L o [] 0 ([.int .i64 0] ++ (zs (.int .i64 0) 1 ++ (zs (.str []) 2 ++ ([.nils] ++ ([.nils] ++ ([.nils] ++ R)))))) := ⟨⟨[], hbox, rfl, by rw [slc_self]; exact Enc.nil⟩, rfl, h, Keep2.refl _ _ _, Nat.le_refl _, (fun h => by cases h), hxc, hx, ho⟩
  have hb1 : buildSliceE Tryz.prog 249 1 [(0, padd (.ptr x o) 1)] = some (.list (some 152) 1 (pts (.ptr x (o + 1)) 1) .exact) := by kernel_rfl
  have hb2 : buildSliceE Tryz.prog 233 2 [(0, padd (.ptr x o) 2), (1, padd (.ptr x o) 3)] = some (.list (some 136) 1 (pts (.ptr x (o + 2)) 2) .exact) := by kernel_rfl
  repeat' first
   | refine Opl.callP [.int] 1 p0 rfl (by kernel_rfl) (rkindKind k s) rfl rfl rfl (p0.fuel0 hk) rfl (fun S1 i1 p1 v => ?_) (fun v S2 hb => ?_)
   | refine Opl.val (op_buildSlice1 rfl hb1) rfl ?_
   | refine Opl.callP [.int, .int] 2 p1 rfl (by kernel_rfl) (rints k s _ _ 1 (by decide) (by decide)) rfl rfl rfl (p1.fuel0 hk) rfl (fun S2 i2 p2 v => ?_) (fun v S2 hb => ?_)
   | refine Opl.val (op_bs2 rfl rfl hb2) rfl ?_
   | refine Opl.callP [.int, .int, .str, .str] 4 p2 rfl (by kernel_rfl) (rstrings k s _ _ 2 (by decide) (by decide)) rfl rfl rfl (p2.fuel0 hk) rfl (fun S3 i3 p3 v => ?_) (fun v S2 hb => ?_)
   | refine Opl.callP [.int, .int, .str, .str, .list 1] 5 p3 rfl (by kernel_rfl) (rlist9 k s (by kernel_rfl) (IH 1 (by decide))) rfl rfl rfl (p3.fuel0 hk) rfl (fun S4 i4 p4 v => ?_) (fun v S2 hb => ?_)
   | refine Opl.callP [.int, .int, .str, .str, .list 1, .list 11] 6 p4 rfl (by kernel_rfl) (rlist30 k s (by kernel_rfl) (IH 11 (by decide))) rfl rfl rfl (p4.fuel0 hk) rfl (fun S5 i5 p5 v => ?_) (fun v S2 hb => ?_)
   | refine Opl.callP [.int, .int, .str, .str, .list 1, .list 11, .list 12] 7 p5 rfl (by kernel_rfl) (rlist241 k s (by kernel_rfl) (IH 12 (by decide))) rfl rfl rfl (p5.fuel0 hk) rfl (fun S6 i6 p6 v => ?_) (fun v S2 hb => ?_)
   | refine At.fnp rfl ?_
   | refine At.fn rfl rfl rfl ?_
   | refine .std ?_ | refine .nil ?_ | refine .seq ?_ | refine .region ?_ | refine .xs ?_ | refine .kb ?_ | refine .leaf ?_ | refine .block ?_ | refine .gn ?_ | refine .dr ?_ | fail
  all_goals first
    | exact p6.done rfl rfl
    | exact Prog.bad hb [.int, .str, .str, .list 1, .list 11, .list 12] rfl
    | exact Prog.bad hb [.str, .str, .list 1, .list 11, .list 12] rfl
    | exact Prog.bad hb [.list 1, .list 11, .list 12] rfl
    | exact Prog.bad hb [.list 11, .list 12] rfl
    | exact Prog.bad hb [.list 12] rfl
    | exact Prog.bad hb [] rfl
theorem rd12 {k : Nat} {s : List UInt8} (IH : DAll k s) : GC 125 (fun c p => [c, p]) (k + 1) s [.sub 12] (zc 12) 1 := by
  refine ⟨?_⟩
  intro S c x i T L R o h ho hxc hx hk hbox
  refine CallTo.of (n := 20) Tryz.func125 rfl rfl ?_
  have p0 : Prog k S S c x s i i T L o [] 0 (zs (.str []) 1 ++ ([.nils] ++ (zc 11 ++ R))) := ⟨⟨[], hbox, rfl, by rw [slc_self]; exact Enc.nil⟩, rfl, h, Keep2.refl _ _ _, Nat.le_refl _, (fun h => by cases h), hxc, hx, ho⟩
  have hb0 : buildSliceE Tryz.prog 233 1 [(0, padd (.ptr x o) 0)] = some (.list (some 136) 1 (pts (.ptr x (o + 0)) 1) .exact) := by kernel_rfl
  repeat' first
   | refine Opl.val (op_buildSlice1 rfl hb0) rfl ?_
   | refine Opl.callP [.str] 1 p0 rfl (by kernel_rfl) (rstrings k s _ _ 1 (by decide) (by decide)) rfl rfl rfl (p0.fuel0 hk) rfl (fun S1 i1 p1 v => ?_) (fun v S2 hb => ?_)
   | refine Opl.callP [.str, .list 1] 2 p1 rfl (by kernel_rfl) (rlist9 k s (by kernel_rfl) (IH 1 (by decide))) rfl rfl rfl (p1.fuel0 hk) rfl (fun S2 i2 p2 v => ?_) (fun v S2 hb => ?_)
   | refine Opl.callP [.str, .list 1, .sub 11] 9 p2 rfl (by kernel_rfl) (IH 11 (by decide)) rfl rfl rfl (p2.fuel1 hk rfl) rfl (fun S3 i3 p3 v => ?_) (fun v S2 hb => ?_)
   | refine At.fnp rfl ?_
   | refine At.fn rfl rfl rfl ?_
   | refine .std ?_ | refine .nil ?_ | refine .seq ?_ | refine .region ?_ | refine .xs ?_ | refine .kb ?_ | refine .leaf ?_ | refine .block ?_ | refine .gn ?_ | refine .dr ?_ | fail
  all_goals first
    | exact p3.done rfl rfl
    | exact Prog.bad hb [.list 1, .sub 11] rfl
    | exact Prog.bad hb [.sub 11] rfl
    | exact Prog.bad hb [] rfl
theorem rd13 {k : Nat} {s : List UInt8} (IH : DAll k s) : GC 64 (fun c p => [c, p]) (k + 1) s [.sub 13] (zc 13) 1 := by
  refine ⟨?_⟩
  intro S c x i T L R o h ho hxc hx hk hbox
  refine CallTo.of (n := 15) Tryz.func64 rfl rfl ?_
  have p0 : Prog k S S c x s i i T L o [] 0 (zs (.str []) 1 ++ (zc 11 ++ R)) := ⟨⟨[], hbox, rfl, by rw [slc_self]; exact Enc.nil⟩, rfl, h, Keep2.refl _ _ _, Nat.le_refl _, (fun h => by cases h), hxc, hx, ho⟩
  have hb0 : buildSliceE Tryz.prog 233 1 [(0, padd (.ptr x o) 0)] = some (.list (some 136) 1 (pts (.ptr x (o + 0)) 1) .exact) := by kernel_rfl
  repeat' first
   | refine Opl.val (op_buildSlice1 rfl hb0) rfl ?_
   | refine Opl.callP [.str] 1 p0 rfl (by kernel_rfl) (rstrings k s _ _ 1 (by decide) (by decide)) rfl rfl rfl (p0.fuel0 hk) rfl (fun S1 i1 p1 v => ?_) (fun v S2 hb => ?_)
   | refine Opl.callP [.str, .sub 11] 8 p1 rfl (by kernel_rfl) (IH 11 (by decide)) rfl rfl rfl (p1.fuel1 hk rfl) rfl (fun S2 i2 p2 v => ?_) (fun v S2 hb => ?_)
   | refine At.fnp rfl ?_
   | refine At.fn rfl rfl rfl ?_
   | refine .std ?_ | refine .nil ?_ | refine .seq ?_ | refine .region ?_ | refine .xs ?_ | refine .kb ?_ | refine .leaf ?_ | refine .block ?_ | refine .gn ?_ | refine .dr ?_ | fail
  all_goals first
    | exact p2.done rfl rfl
    | exact Prog.bad hb [.sub 11] rfl
    | exact Prog.bad hb [] rfl
theorem rd14 {k : Nat} {s : List UInt8} (IH : DAll k s) : GC 26 (fun c p => [c, p]) (k + 1) s [.sub 14] (zc 14) 1 := by
  refine ⟨?_⟩
  intro S c x i T L R o h ho hxc hx hk hbox
  refine CallTo.of (n := 24) Tryz.func26 rfl rfl ?_
  have p0 : Prog k S S c x s i i T L o [] 0 ([.nils] ++ ([.nils] ++ ([.nils] ++ (zc 11 ++ R)))) := ⟨⟨[], hbox, rfl, by rw [slc_self]; exact Enc.nil⟩, rfl, h, Keep2.refl _ _ _, Nat.le_refl _, (fun h => by cases h), hxc, hx, ho⟩
  repeat' first
   | refine Opl.callP [.list 7] 1 p0 rfl (by kernel_rfl) (rlist121 k s (by kernel_rfl) (IH 7 (by decide))) rfl rfl rfl (p0.fuel0 hk) rfl (fun S1 i1 p1 v => ?_) (fun v S2 hb => ?_)
   | refine Opl.callP [.list 7, .list 9] 2 p1 rfl (by kernel_rfl) (rlist127 k s (by kernel_rfl) (IH 9 (by decide))) rfl rfl rfl (p1.fuel0 hk) rfl (fun S2 i2 p2 v => ?_) (fun v S2 hb => ?_)
   | refine Opl.callP [.list 7, .list 9, .list 13] 3 p2 rfl (by kernel_rfl) (rlist132 k s (by kernel_rfl) (IH 13 (by decide))) rfl rfl rfl (p2.fuel0 hk) rfl (fun S3 i3 p3 v => ?_) (fun v S2 hb => ?_)
   | refine Opl.callP [.list 7, .list 9, .list 13, .sub 11] 10 p3 rfl (by kernel_rfl) (IH 11 (by decide)) rfl rfl rfl (p3.fuel1 hk rfl) rfl (fun S4 i4 p4 v => ?_) (fun v S2 hb => ?_)
   | refine At.fnp rfl ?_
   | refine At.fn rfl rfl rfl ?_
   | refine .std ?_ | refine .nil ?_ | refine .seq ?_ | refine .region ?_ | refine .xs ?_ | refine .kb ?_ | refine .leaf ?_ | refine .block ?_ | refine .gn ?_ | refine .dr ?_ | fail
  all_goals first
    | exact p4.done rfl rfl
    | exact Prog.bad hb [.list 9, .list 13, .sub 11] rfl
    | exact Prog.bad hb [.list 13, .sub 11] rfl
    | exact Prog.bad hb [.sub 11] rfl
    | exact Prog.bad hb [] rfl
theorem rd15 {k : Nat} {s : List UInt8} (IH : DAll k s) : GC 30 (fun c p => [c, p]) (k + 1) s [.sub 15] (zc 15) 1 := by
  refine ⟨?_⟩
  intro S c x i T L R o h ho hxc hx hk hbox
  refine CallTo.of (n := 19) Tryz.func30 rfl rfl ?_
  have p0 : Prog k S S c x s i i T L o [] 0 ([.nils] ++ ([.nils] ++ ([.nils] ++ R))) := ⟨⟨[], hbox, rfl, by rw [slc_self]; exact Enc.nil⟩, rfl, h, Keep2.refl _ _ _, Nat.le_refl _, (fun h => by cases h), hxc, hx, ho⟩
  repeat' first
   | refine Opl.callP [.list 7] 1 p0 rfl (by kernel_rfl) (rlist121 k s (by kernel_rfl) (IH 7 (by decide))) rfl rfl rfl (p0.fuel0 hk) rfl (fun S1 i1 p1 v => ?_) (fun v S2 hb => ?_)
   | refine Opl.callP [.list 7, .list 9] 2 p1 rfl (by kernel_rfl) (rlist127 k s (by kernel_rfl) (IH 9 (by decide))) rfl rfl rfl (p1.fuel0 hk) rfl (fun S2 i2 p2 v => ?_) (fun v S2 hb => ?_)
   | refine Opl.callP [.list 7, .list 9, .list 16] 3 p2 rfl (by kernel_rfl) (rlist148 k s (by kernel_rfl) (IH 16 (by decide))) rfl rfl rfl (p2.fuel0 hk) rfl (fun S3 i3 p3 v => ?_) (fun v S2 hb => ?_)
   | refine At.fnp rfl ?_
   | refine At.fn rfl rfl rfl ?_
   | refine .std ?_ | refine .nil ?_ | refine .seq ?_ | refine .region ?_ | refine .xs ?_ | refine .kb ?_ | refine .leaf ?_ | refine .block ?_ | refine .gn ?_ | refine .dr ?_ | fail
  all_goals first
    | exact p3.done rfl rfl
    | exact Prog.bad hb [.list 9, .list 16] rfl
    | exact Prog.bad hb [.list 16] rfl
    | exact Prog.bad hb [] rfl
theorem rd16 {k : Nat} {s : List UInt8} (IH : DAll k s) : GC 76 (fun c p => [c, p]) (k + 1) s [.sub 16] (zc 16) 1 := by
  refine ⟨?_⟩
  intro S c x i T L R o h ho hxc hx hk hbox
  refine CallTo.of (n := 27) Tryz.func76 rfl rfl ?_
  have p0 : Prog k S S c x s i i T L o [] 0 (zs (.int .i64 0) 3 ++ (zs (.bool false) 1 ++ ([.nils] ++ R))) := ⟨⟨[], hbox, rfl, by rw [slc_self]; exact Enc.nil⟩, rfl, h, Keep2.refl _ _ _, Nat.le_refl _, (fun h => by cases h), hxc, hx, ho⟩
  have hb0 : buildSliceE Tryz.prog 249 3 [(0, padd (.ptr x o) 0), (1, padd (.ptr x o) 1), (2, padd (.ptr x o) 2)] = some (.list (some 152) 1 (pts (.ptr x (o + 0)) 3) .exact) := by kernel_rfl
  have hb1 : buildSliceE Tryz.prog 250 1 [(0, padd (.ptr x o) 3)] = some (.list (some 154) 1 (pts (.ptr x (o + 3)) 1) .exact) := by kernel_rfl
  repeat' first
   | refine Opl.val (op_bs3 rfl rfl rfl hb0) rfl ?_
   | refine Opl.callP [.int, .int, .int] 3 p0 rfl (by kernel_rfl) (rints k s _ _ 3 (by decide) (by decide)) rfl rfl rfl (p0.fuel0 hk) rfl (fun S1 i1 p1 v => ?_) (fun v S2 hb => ?_)
   | refine Opl.val (op_buildSlice1 rfl hb1) rfl ?_
   | refine Opl.callP [.int, .int, .int, .bool] 4 p1 rfl (by kernel_rfl) (rbools k s _ _ 1 (by decide) (by decide)) rfl rfl rfl (p1.fuel0 hk) rfl (fun S2 i2 p2 v => ?_) (fun v S2 hb => ?_)
   | refine Opl.callP [.int, .int, .int, .bool, .list 17] 5 p2 rfl (by kernel_rfl) (rlist158 k s (by kernel_rfl) (IH 17 (by decide))) rfl rfl rfl (p2.fuel0 hk) rfl (fun S3 i3 p3 v => ?_) (fun v S2 hb => ?_)
   | refine At.fnp rfl ?_
   | refine At.fn rfl rfl rfl ?_
   | refine .std ?_ | refine .nil ?_ | refine .seq ?_ | refine .region ?_ | refine .xs ?_ | refine .kb ?_ | refine .leaf ?_ | refine .block ?_ | refine .gn ?_ | refine .dr ?_ | fail
  all_goals first
    | exact p3.done rfl rfl
    | exact Prog.bad hb [.bool, .list 17] rfl
    | exact Prog.bad hb [.list 17] rfl
    | exact Prog.bad hb [] rfl
theorem rd17 {k : Nat} {s : List UInt8} (IH : DAll k s) : GC 80 (fun c p => [c, p]) (k + 1) s [.sub 17] (zc 17) 1 := by
  refine ⟨?_⟩
  intro S c x i T L R o h ho hxc hx hk hbox
  refine CallTo.of (n := 24) Tryz.func80 rfl rfl ?_
  have p0 : Prog k S S c x s i i T L o [] 0 ([.int .i64 0] ++ (zs (.int .i64 0) 2 ++ (zs (.str []) 1 ++ R))) := ⟨⟨[], hbox, rfl, by rw [slc_self]; exact Enc.nil⟩, rfl, h, Keep2.refl _ _ _, Nat.le_refl _, (fun h => by cases h), hxc, hx, ho⟩
  have hb1 : buildSliceE Tryz.prog 249 2 [(0, padd (.ptr x o) 1), (1, padd (.ptr x o) 2)] = some (.list (some 152) 1 (pts (.ptr x (o + 1)) 2) .exact) := by kernel_rfl
  have hb2 : buildSliceE Tryz.prog 233 1 [(0, padd (.ptr x o) 3)] = some (.list (some 136) 1 (pts (.ptr x (o + 3)) 1) .exact) := by kernel_rfl
  repeat' first
   | refine Opl.callP [.int] 1 p0 rfl (by kernel_rfl) (rkindOpcode k s) rfl rfl rfl (p0.fuel0 hk) rfl (fun S1 i1 p1 v => ?_) (fun v S2 hb => ?_)
   | refine Opl.val (op_bs2 rfl rfl hb1) rfl ?_
   | refine Opl.callP [.int, .int, .int] 3 p1 rfl (by kernel_rfl) (rints k s _ _ 2 (by decide) (by decide)) rfl rfl rfl (p1.fuel0 hk) rfl (fun S2 i2 p2 v => ?_) (fun v S2 hb => ?_)
   | refine Opl.val (op_buildSlice1 rfl hb2) rfl ?_
   | refine Opl.callP [.int, .int, .int, .str] 4 p2 rfl (by kernel_rfl) (rstrings k s _ _ 1 (by decide) (by decide)) rfl rfl rfl (p2.fuel0 hk) rfl (fun S3 i3 p3 v => ?_) (fun v S2 hb => ?_)
   | refine At.fnp rfl ?_
   | refine At.fn rfl rfl rfl ?_
   | refine .std ?_ | refine .nil ?_ | refine .seq ?_ | refine .region ?_ | refine .xs ?_ | refine .kb ?_ | refine .leaf ?_ | refine .block ?_ | refine .gn ?_ | refine .dr ?_ | fail
  all_goals first
    | exact p3.done rfl rfl
    | exact Prog.bad hb [.int, .int, .str] rfl
    | exact Prog.bad hb [.str] rfl
    | exact Prog.bad hb [] rfl
theorem rd18 {k : Nat} {s : List UInt8} (IH : DAll k s) : GC 140 (fun c p => [c, p]) (k + 1) s [.sub 18] (zc 18) 1 := by
  refine ⟨?_⟩
  intro S c x i T L R o h ho hxc hx hk hbox
  refine CallTo.of (n := 19) Tryz.func140 rfl rfl ?_
  have p0 : Prog k S S c x s i i T L o [] 0 (zs (.str []) 1 ++ (zs (.int .i64 0) 2 ++ R)) := ⟨⟨[], hbox, rfl, by rw [slc_self]; exact Enc.nil⟩, rfl, h, Keep2.refl _ _ _, Nat.le_refl _, (fun h => by cases h), hxc, hx, ho⟩
  have hb0 : buildSliceE Tryz.prog 233 1 [(0, padd (.ptr x o) 0)] = some (.list (some 136) 1 (pts (.ptr x (o + 0)) 1) .exact) := by kernel_rfl
  have hb1 : buildSliceE Tryz.prog 249 2 [(0, padd (.ptr x o) 1), (1, padd (.ptr x o) 2)] = some (.list (some 152) 1 (pts (.ptr x (o + 1)) 2) .exact) := by kernel_rfl
  repeat' first
   | refine Opl.val (op_buildSlice1 rfl hb0) rfl ?_
   | refine Opl.callP [.str] 1 p0 rfl (by kernel_rfl) (rstrings k s _ _ 1 (by decide) (by decide)) rfl rfl rfl (p0.fuel0 hk) rfl (fun S1 i1 p1 v => ?_) (fun v S2 hb => ?_)
   | refine Opl.val (op_bs2 rfl rfl hb1) rfl ?_
   | refine Opl.callP [.str, .int, .int] 3 p1 rfl (by kernel_rfl) (rints k s _ _ 2 (by decide) (by decide)) rfl rfl rfl (p1.fuel0 hk) rfl (fun S2 i2 p2 v => ?_) (fun v S2 hb => ?_)
   | refine At.fnp rfl ?_
   | refine At.fn rfl rfl rfl ?_
   | refine .std ?_ | refine .nil ?_ | refine .seq ?_ | refine .region ?_ | refine .xs ?_ | refine .kb ?_ | refine .leaf ?_ | refine .block ?_ | refine .gn ?_ | refine .dr ?_ | fail
  all_goals first
    | exact p2.done rfl rfl
    | exact Prog.bad hb [.int, .int] rfl
    | exact Prog.bad hb [] rfl
theorem rd19 {k : Nat} {s : List UInt8} (IH : DAll k s) : GC 100 (fun c p => [c, p]) (k + 1) s [.sub 19] (zc 19) 1 := by
  refine ⟨?_⟩
  intro S c x i T L R o h ho hxc hx hk hbox
  refine CallTo.of (n := 32) Tryz.func100 rfl rfl ?_
  have p0 : Prog k S S c x s i i T L o [] 0 ([.int .i64 0] ++ (zs (.str []) 1 ++ ([.nils] ++ (zs (.int .i64 0) 3 ++ R)))) := ⟨⟨[], hbox, rfl, by rw [slc_self]; exact Enc.nil⟩, rfl, h, Keep2.refl _ _ _, Nat.le_refl _, (fun h => by cases h), hxc, hx, ho⟩
  have hb1 : buildSliceE Tryz.prog 233 1 [(0, padd (.ptr x o) 1)] = some (.list (some 136) 1 (pts (.ptr x (o + 1)) 1) .exact) := by kernel_rfl
  have hb3 : buildSliceE Tryz.prog 249 3 [(0, padd (.ptr x o) 3), (1, padd (.ptr x o) 4), (2, padd (.ptr x o) 5)] = some (.list (some 152) 1 (pts (.ptr x (o + 3)) 3) .exact) := by kernel_rfl
  repeat' first
   | refine Opl.callP [.int] 1 p0 rfl (by kernel_rfl) (rkindEnd k s) rfl rfl rfl (p0.fuel0 hk) rfl (fun S1 i1 p1 v => ?_) (fun v S2 hb => ?_)
   | refine Opl.val (op_buildSlice1 rfl hb1) rfl ?_
   | refine Opl.callP [.int, .str] 2 p1 rfl (by kernel_rfl) (rstrings k s _ _ 1 (by decide) (by decide)) rfl rfl rfl (p1.fuel0 hk) rfl (fun S2 i2 p2 v => ?_) (fun v S2 hb => ?_)
   | refine Opl.callP [.int, .str, .list 18] 3 p2 rfl (by kernel_rfl) (rlist192 k s (by kernel_rfl) (IH 18 (by decide))) rfl rfl rfl (p2.fuel0 hk) rfl (fun S3 i3 p3 v => ?_) (fun v S2 hb => ?_)
   | refine Opl.val (op_bs3 rfl rfl rfl hb3) rfl ?_
   | refine Opl.callP [.int, .str, .list 18, .int, .int, .int] 6 p3 rfl (by kernel_rfl) (rints k s _ _ 3 (by decide) (by decide)) rfl rfl rfl (p3.fuel0 hk) rfl (fun S4 i4 p4 v => ?_) (fun v S2 hb => ?_)
   | refine At.fnp rfl ?_
   | refine At.fn rfl rfl rfl ?_
   | refine .std ?_ | refine .nil ?_ | refine .seq ?_ | refine .region ?_ | refine .xs ?_ | refine .kb ?_ | refine .leaf ?_ | refine .block ?_ | refine .gn ?_ | refine .dr ?_ | fail
  all_goals first
    | exact p4.done rfl rfl
    | exact Prog.bad hb [.str, .list 18, .int, .int, .int] rfl
    | exact Prog.bad hb [.list 18, .int, .int, .int] rfl
    | exact Prog.bad hb [.int, .int, .int] rfl
    | exact Prog.bad hb [] rfl
theorem rd20 {k : Nat} {s : List UInt8} (IH : DAll k s) : GC 44 (fun c p => [c, p]) (k + 1) s [.sub 20] (zc 20) 1 := by
  refine ⟨?_⟩
  intro S c x i T L R o h ho hxc hx hk hbox
  refine CallTo.of (n := 31) Tryz.func44 rfl rfl ?_
  have p0 : Prog k S S c x s i i T L o [] 0 ([.nils] ++ ([.nils] ++ (zs (.int .i64 0) 1 ++ (zc 19 ++ (zs (.bool false) 1 ++ R))))) := ⟨⟨[], hbox, rfl, by rw [slc_self]; exact Enc.nil⟩, rfl, h, Keep2.refl _ _ _, Nat.le_refl _, (fun h => by cases h), hxc, hx, ho⟩
  have hb2 : buildSliceE Tryz.prog 249 1 [(0, padd (.ptr x o) 2)] = some (.list (some 152) 1 (pts (.ptr x (o + 2)) 1) .exact) := by kernel_rfl
  have hb4 : buildSliceE Tryz.prog 250 1 [(0, padd (.ptr x o) 9)] = some (.list (some 154) 1 (pts (.ptr x (o + 9)) 1) .exact) := by kernel_rfl
  repeat' first
   | refine Opl.callP [.list 3] 1 p0 rfl (by kernel_rfl) (rlist181 k s (by kernel_rfl) (IH 3 (by decide))) rfl rfl rfl (p0.fuel0 hk) rfl (fun S1 i1 p1 v => ?_) (fun v S2 hb => ?_)
   | refine Opl.callP [.list 3, .list 0] 2 p1 rfl (by kernel_rfl) (rlist3 k s (by kernel_rfl) (IH 0 (by decide))) rfl rfl rfl (p1.fuel0 hk) rfl (fun S2 i2 p2 v => ?_) (fun v S2 hb => ?_)
   | refine Opl.val (op_buildSlice1 rfl hb2) rfl ?_
   | refine Opl.callP [.list 3, .list 0, .int] 3 p2 rfl (by kernel_rfl) (rints k s _ _ 1 (by decide) (by decide)) rfl rfl rfl (p2.fuel0 hk) rfl (fun S3 i3 p3 v => ?_) (fun v S2 hb => ?_)
   | refine Opl.callP [.list 3, .list 0, .int, .sub 19] 9 p3 rfl (by kernel_rfl) (IH 19 (by decide)) rfl rfl rfl (p3.fuel1 hk rfl) rfl (fun S4 i4 p4 v => ?_) (fun v S2 hb => ?_)
   | refine Opl.val (op_buildSlice1 rfl hb4) rfl ?_
   | refine Opl.callP [.list 3, .list 0, .int, .sub 19, .bool] 10 p4 rfl (by kernel_rfl) (rbools k s _ _ 1 (by decide) (by decide)) rfl rfl rfl (p4.fuel0 hk) rfl (fun S5 i5 p5 v => ?_) (fun v S2 hb => ?_)
   | refine At.fnp rfl ?_
   | refine At.fn rfl rfl rfl ?_
   | refine .std ?_ | refine .nil ?_ | refine .seq ?_ | refine .region ?_ | refine .xs ?_ | refine .kb ?_ | refine .leaf ?_ | refine .block ?_ | refine .gn ?_ | refine .dr ?_ | fail
  all_goals first
    | exact p5.done rfl rfl
    | exact Prog.bad hb [.list 0, .int, .sub 19, .bool] rfl
    | exact Prog.bad hb [.int, .sub 19, .bool] rfl
    | exact Prog.bad hb [.sub 19, .bool] rfl
    | exact Prog.bad hb [.bool] rfl
    | exact Prog.bad hb [] rfl
theorem dAll (s : List UInt8) : ∀ k, DAll k s := by
  intro k
  induction k with
  | zero =>
    intro t ht
    refine ⟨?_⟩
    intro S c x i T L R o h ho hxc hx hk
    omega
  | succ k IH =>
    intro t ht
    match t, ht with
    | 0, _ => exact rd0 IH
    | 1, _ => exact rd1 IH
    | 2, _ => exact rd2 IH
    | 3, _ => exact rd3 IH
    | 4, _ => exact rd4 IH
    | 5, _ => exact rd5 IH
    | 6, _ => exact rd6 IH
    | 7, _ => exact rd7 IH
    | 8, _ => exact rd8 IH
    | 9, _ => exact rd9 IH
    | 10, _ => exact rd10 IH
    | 11, _ => exact rd11 IH
    | 12, _ => exact rd12 IH
    | 13, _ => exact rd13 IH
    | 14, _ => exact rd14 IH
    | 15, _ => exact rd15 IH
    | 16, _ => exact rd16 IH
    | 17, _ => exact rd17 IH
    | 18, _ => exact rd18 IH
    | 19, _ => exact rd19 IH
    | 20, _ => exact rd20 IH
    | n + 21, ht => omega
end Go.Proofs.YtilldjgagokcfaaGreat
