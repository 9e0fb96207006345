/-
  Ev, texts EvCgo, EvCgr, EvNum, EvEnc, EvDrw, EvIn, EvScan.
-/
import Derived.Test.YtodiioeddlmjhaaGreatDoorE8
import Derived.ChangeArms
import Derived.ReadAgain
set_option linter.unusedVariables false
set_option linter.unusedSimpArgs false
namespace Go.Ev
open Go.RowKit

section
variable {P : Program} {rec : Rec} {ops : Array Oper} {S S' : St} {fr : Fr}

theorem opsL_put [Glob] {op : Op} {ty : TypeId} {pos : String} {after : Array Edge} {d : Tmp} {v : V} {l : List Oper} (h : opE P op fr.opd S = some (v, S')) (hd : d < fr.n) :
    opsL rec P ops (⟨some d, op, ty, pos, after, none⟩ :: l) fr S = opsL rec P ops l { fr with t := fr.t.put d v } S' := by
  simp only [opsL, oneE, wantE, opE_act h rec fr.pan, putE, Fr.put]
  rw [show Nat.blt d fr.n = true by simpa using hd]
  rfl

theorem opsL_eff [Glob] {op : Op} {ty : TypeId} {pos : String} {after : Array Edge} {v : V} {l : List Oper} (h : opE P op fr.opd S = some (v, S')) :
    opsL rec P ops (⟨none, op, ty, pos, after, none⟩ :: l) fr S = opsL rec P ops l fr S' := by
  simp only [opsL, oneE, wantE, opE_act h rec fr.pan, putE, Fr.put]

end

/-- Way B, operation by operation. -/
theorem wayB_run [Glob] {P : Program} {opsB : Array Oper} {l x : Operand} {T E : TypeId} {db : List Tmp} {fr : Fr} {S S2 S3 : St} (hc : calmAt opsB [1, 2, 3, 4, 5, 6, 0, 7, 8] = true) (hB : wayB opsB.toList = some (l, x, T, E, db)) (hnd : db.Nodup) (hdl : ∀ t ∈ db, t < fr.n) (hld : ∀ t ∈ db, l ≠ .tmp t) (hxd : ∀ t ∈ db, x ≠ .tmp t)
    {il ol ix ox : Nat} {lv xv v : V} {i : TypeInfo} (hl : fr.opd l = some (.ptr il ol)) (hx : fr.opd x = some (.ptr ix ox)) (hbs : buildSliceE P T 1 [(0, xv)] = some (.list (some E) i.size [xv] .exact)) (h1 : loadE P T (.ptr il ol) S = some lv) (h2 : loadE P E (.ptr ix ox) S = some xv)
    (ha : appendE P T T lv (.list (some E) i.size [xv] .exact) S = some (v, S2)) (hs : storeE P T (.ptr il ol) v S2 = some S3) :
    ∃ frB, regionE none3 P opsB true fr S = some (.code .normal frB S3) ∧ frB.n = fr.n ∧ frB.ds = fr.ds ∧ frB.pan = fr.pan ∧ ∀ t, t ∉ db → frB.t.find t = fr.t.find t := by
  unfold wayB at hB
  split at hB
  · rename_i a0 l0 y0 p0 f0 a1 l1 y1 p1 f1 a2 q1 y2 p2 f2 a3 T' q2 y3 p3 f3 a4 E' x' y4 p4 f4 a5 T2 q4 y5 p5 f5 a6 r3 r5 T3 T4 y6 p6 f6 a7 r0 y7 p7 f7 T5 r7 r6 y8 p8 f8 hop
    split at hB
    · rename_i hc'
      simp only [all2, List.all_cons, List.all_nil, Bool.and_true, Bool.and_eq_true] at hc'
      obtain ⟨⟨c1, c2, c3, c4, c5, c6, c7, c8, c9, c10, c11, c12⟩, c13⟩ := hc'
      have c13 : l0 = l1 := by
        unfold eqO at c13
        split at c13
        · rw [Nat.eq_of_beq_eq_true c13]
        · cases c13
      subst c13
      have c1 := (Nat.eq_of_beq_eq_true c1).symm; subst c1
      have c2 := (Nat.eq_of_beq_eq_true c2).symm; subst c2
      have c3 := (Nat.eq_of_beq_eq_true c3).symm; subst c3
      have c4 := (Nat.eq_of_beq_eq_true c4).symm; subst c4
      have c5 := (Nat.eq_of_beq_eq_true c5).symm; subst c5
      have c6 := (Nat.eq_of_beq_eq_true c6).symm; subst c6
      have c7 := (Nat.eq_of_beq_eq_true c7).symm; subst c7
      have c8 := (Nat.eq_of_beq_eq_true c8).symm; subst c8
      have c9 := (Nat.eq_of_beq_eq_true c9).symm; subst c9
      have c10 := (Nat.eq_of_beq_eq_true c10).symm; subst c10
      have c11 := (Nat.eq_of_beq_eq_true c11).symm; subst c11
      have c12 := (Nat.eq_of_beq_eq_true c12).symm; subst c12
      simp only [Option.some.injEq, Prod.mk.injEq] at hB
      obtain ⟨g1, g2, g3, g4, rfl⟩ := hB
      have g1 := g1.symm; subst g1
      have g2 := g2.symm; subst g2
      have g3 := g3.symm; subst g3
      have g4 := g4.symm; subst g4
      simp only [List.nodup_cons, List.mem_cons, List.not_mem_nil, or_false, not_or, List.nodup_nil, and_true, not_false_eq_true] at hnd
      obtain ⟨⟨n01, n02, n03, n04, n05, n06, n07⟩, ⟨n12, n13, n14, n15, n16, n17⟩, ⟨n23, n24, n25, n26, n27⟩, ⟨n34, n35, n36, n37⟩, ⟨n45, n46, n47⟩, ⟨n56, n57⟩, n67⟩ := hnd
      simp only [List.mem_cons, List.not_mem_nil, or_false, forall_eq_or_imp, forall_eq] at hdl hld hxd
      obtain ⟨d0, d1, d2, d3, d4, d5, d6, d7⟩ := hdl
      have opl : ∀ (fr' : Fr) (d : Tmp) (u : V) (y : Operand) (w : V), y ≠ .tmp d → fr'.opd y = some w → Fr.opd { fr' with t := fr'.t.put d u } y = some w := by
        intro fr' d u y w hne h
        cases y with
        | tmp t => simp only [Fr.opd, Tr.find_put] at h ⊢; rw [if_neg (fun e => hne (by rw [e]))]; exact h
        | _ => exact h
      refine ⟨{ fr with t := (((((((fr.t.put a1 (.ptr il ol)).put a2 (.ptr il ol)).put a3 lv).put a4 xv).put a5 (.list (some E) i.size [xv] .exact)).put a6 v).put a0 (.ptr il ol)).put a7 (.ptr il ol) }, region_calmAt hc ?_, rfl, rfl, rfl, fun t ht => ?_⟩
      · obtain ⟨lo⟩ := opsB
        have hop : lo = _ := hop
        subst hop
        show opsL none3 P _ [_, _, _, _, _, _, _, _, _] fr S = _
        refine (opsL_put (v := .ptr il ol) (S' := S) (by simp [opE, hl]) (by exact d1)).trans ?_
        refine (opsL_put (v := .ptr il ol) (S' := S) (by simp [opE, Fr.opd, Tr.find_put]) (by exact d2)).trans ?_
        refine (opsL_put (v := lv) (S' := S) (by simp [opE, Fr.opd, Tr.find_put, h1]) (by exact d3)).trans ?_
        refine (opsL_put (v := xv) (S' := S) (by
          have := opl _ a3 lv _ _ hxd.2.2.2.1 (opl _ a2 (.ptr il ol) _ _ hxd.2.2.1 (opl _ a1 (.ptr il ol) _ _ hxd.2.1 hx))
          simp only [opE]; rw [this]; simp [h2]) (by exact d4)).trans ?_
        refine (opsL_put (v := .list (some E) i.size [xv] .exact) (S' := S) (by simp [opE, Fr.opd, Tr.find_put, mapO, hbs]) (by exact d5)).trans ?_
        refine (opsL_put (v := v) (S' := S2) (by simp [opE, Fr.opd, Tr.find_put, mapO, builtinE, n34, n35, ha]) (by exact d6)).trans ?_
        refine (opsL_put (v := .ptr il ol) (S' := S2) (by
          have := opl _ a6 v _ _ hld.2.2.2.2.2.2.1 (opl _ a5 (.list (some E) i.size [xv] .exact) _ _ hld.2.2.2.2.2.1 (opl _ a4 xv _ _ hld.2.2.2.2.1 (opl _ a3 lv _ _ hld.2.2.2.1 (opl _ a2 (.ptr il ol) _ _ hld.2.2.1 (opl _ a1 (.ptr il ol) _ _ hld.2.1 hl)))))
          simp only [opE]; rw [this]; simp) (by exact d0)).trans ?_
        refine (opsL_put (v := .ptr il ol) (S' := S2) (by simp [opE, Fr.opd, Tr.find_put]) (by exact d7)).trans ?_
        refine (opsL_eff (v := .tup []) (S' := S3) (by simp [opE, Fr.opd, Tr.find_put, n67, Ne.symm n06, hs])).trans ?_
        rfl
      · simp only [List.mem_cons, List.not_mem_nil, or_false, not_or] at ht
        simp [Tr.find_put, ht]
    · cases hB
  · cases hB

end Go.Ev

namespace Go.Ev
open Go.RowKit

def notT (o : Operand) (t : Tmp) : Bool := match o with
  | .tmp a => !Nat.beq a t
  | _ => true

theorem notT_ne {o : Operand} {t : Tmp} (h : notT o t = true) : o ≠ .tmp t := by
  rintro rfl
  simp [notT] at h

def ndB : List Tmp → Bool
  | [] => true
  | t :: l => l.all (fun u => !Nat.beq t u) && ndB l

theorem ndB_nodup : ∀ {l : List Tmp}, ndB l = true → l.Nodup
  | [], _ => .nil
  | t :: l, h => by
    simp only [ndB, Bool.and_eq_true, List.all_eq_true] at h
    refine List.nodup_cons.2 ⟨fun hm => ?_, ndB_nodup h.2⟩
    have := h.1 t hm
    simp at this

def choS (n b d : Nat) (l x z : Operand) (da db : List Tmp) : Bool :=
  Nat.blt b n && Nat.blt d n && ndB da && ndB db && (da ++ db).all (fun t => Nat.blt t n) && (b :: d :: (da ++ db)).all (fun t => notT l t && notT x t && notT z t)

theorem Go.cho [Glob] {P : Program} {F : Sh} {E E' : Env} {S S2 S3 : St} {k : K} {i0 i1 i2 i3 : Nat} {opsC opsA opsX opsB : Array Oper} {e : TypeId} {b d : Tmp} {l x z : Operand} {T Et : TypeId} {da db : List Tmp} {il ol ix ox : Nat} {lv xv zv v : V} {i : TypeInfo} {n : Int}
    (hP : (planOf opsC).ok = false) (hC : boolP opsC.toList = some (e, b, d)) (h4 : edges4 opsC = true) (hk : boolOk P e = true) (hA : wayA opsA.toList opsX.toList = some (l, x, T, Et, z, da)) (hB : wayB opsB.toList = some (l, x, T, Et, db)) (hc : calmAt opsB [1, 2, 3, 4, 5, 6, 0, 7, 8] = true)
    (hst : choS F.n b d l x z da db = true) (hl : Env.opd E l = some (.ptr il ol)) (hx : Env.opd E x = some (.ptr ix ox)) (hz : Env.opd E z = some zv) (he : elemT P T = some Et) (hi : P.info? Et = some i)
    (hbs : buildSliceE P T 1 [(0, zv)] = some (.list (some Et) i.size [zv] .exact)) (hbx : buildSliceE P T 1 [(0, xv)] = some (.list (some Et) i.size [xv] .exact)) (hlen : lenE P T lv = some (.int .i64 n))
    (h1 : loadE P T (.ptr il ol) S.up = some lv) (h2 : loadE P Et (.ptr ix ox) S.up = some xv) (h2' : loadE P Et (.ptr ix ox) S2 = some xv) (hne : ix ≠ il)
    (ha : appendE P T T lv (.list (some Et) i.size [xv] .exact) S.up = some (v, S2)) (hs : storeE P T (.ptr il ol) v S2 = some S3)
    (hxl : xv.cells.length = i.size) (hx1 : xv.cells.all V.one = true) (hzl : zv.cells.length = i.size) (hz1 : zv.cells.all V.one = true)
    (hE : E'.all (fun p => (b :: d :: (da ++ db)).all fun t => !Nat.beq p.1 t) = true) (hsub : Sub E' E) (hgo : At .normal k F E' S3) :
    Go P F E S (.seq (.region i0 opsC true) (.cond (.tmp d) (.seq (.region i1 opsA false) (.region i2 opsX false)) (.region i3 opsB true))) k := .mk fun fr hf => by
  simp only [choS, Bool.and_eq_true, List.all_eq_true] at hst
  obtain ⟨⟨⟨⟨⟨s1, s2⟩, s3⟩, s4⟩, s5⟩, s6⟩ := hst
  have hbn : b < fr.n := by rw [hf.n]; simpa using s1
  have hdn : d < fr.n := by rw [hf.n]; simpa using s2
  have hln : ∀ t ∈ b :: d :: (da ++ db), l ≠ .tmp t ∧ x ≠ .tmp t ∧ z ≠ .tmp t := fun t ht =>
    have := s6 t ht
    ⟨notT_ne this.1.1, notT_ne this.1.2, notT_ne this.2⟩
  have hm : ∀ t, t ∈ da ∨ t ∈ db → t < fr.n := fun t ht => by
    rw [hf.n]; simpa using s5 t (by simpa using ht)
  have hmem : ∀ {t}, t ∈ [b, d] → t ∈ b :: d :: (da ++ db) := fun {t} ht => by simp at ht ⊢; rcases ht with rfl | rfl <;> simp
  obtain ⟨frB, r1, r2, r3, r4, r5⟩ := wayB_run (fr := fr.cut [b, d]) hc hB (ndB_nodup s4) (fun t ht => hm t (.inr ht)) (fun t ht => (hln t (by simp [ht])).1) (fun t ht => (hln t (by simp [ht])).2.1)
    (cut_opd (hf.opd hl) fun t ht => (hln t (hmem ht)).1) (cut_opd (hf.opd hx) fun t ht => (hln t (hmem ht)).2.1) hbx h1 h2 ha hs
  have hr : ChoR P fr S (.region i0 opsC true) (.cond (.tmp d) (.seq (.region i1 opsA false) (.region i2 opsX false)) (.region i3 opsB true)) (.code .normal (fr.cut (b :: d :: (da ++ db))) S3) :=
    .mk hP hC h4 hk hbn hdn hA hB (ndB_nodup s3) (fun t ht => hm t (.inl ht)) (fun t ht => (hln t (by simp at ht ⊢; rcases ht with h | h | h <;> simp [h])).2.1) (fun t ht => (hln t (by simp at ht ⊢; rcases ht with h | h | h <;> simp [h])).2.2) (fun t ht => (hln t (hmem ht)).1)
      (hf.opd hl) (hf.opd hx) (hf.opd hz) he hi hbs hlen h1 h2 h2' hne ha hs hxl hx1 hzl hz1 r1 (fun t u ht => by
        simp only [Fr.cut, delAll_find] at ht
        split at ht
        · cases ht
        · rename_i hnm
          simp only [List.mem_cons, List.mem_append, not_or] at hnm
          rw [r5 t hnm.2.2.2]
          simp only [Fr.cut, delAll_find]
          rw [if_neg (by simp; exact ⟨hnm.1, hnm.2.1⟩)]
          exact ht) r2 r3 r4
  refine ⟨.normal, _, S3, lim_cho hr, hgo.h _ ⟨hf.n, hf.ds, hf.pan, fun q u hq => ?_⟩⟩
  have hfd := (hf.sub hsub).t q u hq
  simp only [Fr.cut, delAll_find]
  rw [if_neg]
  · exact hfd
  · intro hmq
    have key : ∀ (E' : Env), E'.all (fun p => (b :: d :: (da ++ db)).all fun t => !Nat.beq p.1 t) = true → Env.get E' q = some u → False := by
      intro E'
      induction E' with
      | nil => intro _ h; cases h
      | cons p E' ih =>
        intro h1 h2
        obtain ⟨pk, pv⟩ := p
        simp only [List.all_cons, Bool.and_eq_true] at h1
        rw [Env.get_cons] at h2
        split at h2
        · rename_i hpk
          subst hpk
          have h3 : ((b :: d :: (da ++ db)).all fun t => !Nat.beq pk t) = true := by simpa only [List.all_cons, Bool.and_eq_true] using h1.1
          have := List.all_eq_true.1 h3 pk hmq
          simp at this
        · exact ih h1.2 h2
    exact key E' hE hq

end Go.Ev

namespace Go.Ev
open Go.RowKit

/-- A number's bytes. -/
def vb (n : Nat) : List UInt8 := if n < 128 then [UInt8.ofNat n] else UInt8.ofNat (n % 128 + 128) :: vb (n / 128)
termination_by n
decreasing_by omega

theorem vb_lt {n : Nat} (h : n < 128) : vb n = [UInt8.ofNat n] := by rw [vb, if_pos h]
theorem vb_ge {n : Nat} (h : ¬ n < 128) : vb n = UInt8.ofNat (n % 128 + 128) :: vb (n / 128) := by rw [vb, if_neg h]

theorem vb_pos (n : Nat) : 1 ≤ (vb n).length := by
  by_cases h : n < 128
  · rw [vb_lt h]; simp
  · rw [vb_ge h]; simp

theorem vb_le : ∀ (k n : Nat), n < 128 ^ (k + 1) → (vb n).length ≤ k + 1
  | 0, n, h => by rw [vb_lt (by simpa using h)]; simp
  | k + 1, n, h => by
    by_cases h1 : n < 128
    · rw [vb_lt h1]; simp
    · rw [vb_ge h1]
      have := vb_le k (n / 128) (by rw [Nat.div_lt_iff_lt_mul (by omega)]; rw [Nat.pow_succ] at h; exact h)
      simpa using this

theorem vb_ten {n : Nat} (h : n < 18446744073709551616) : (vb n).length ≤ 10 := vb_le 9 n (by omega)

/-- A number with a sign, as one without. -/
def zig (n : Int) : Nat := if 0 ≤ n then 2 * n.toNat else 2 * (-(n + 1)).toNat + 1

theorem zig_lt {n : Int} (h : -9223372036854775808 ≤ n) (h2 : n < 9223372036854775808) : zig n < 18446744073709551616 := by
  unfold zig; split <;> omega

def encI (n : Int) : List UInt8 := vb (zig n)
def encS (s : List UInt8) : List UInt8 := encI s.length ++ s
def encB (b : Bool) : List UInt8 := encI (if b then 1 else 0)

def in64 (n : Int) : Prop := -9223372036854775808 ≤ n ∧ n < 9223372036854775808

theorem wrap_u8 (n : Int) : IntKind.wrap .u8 n = n % 256 := by simp [IntKind.wrap, IntKind.bits, IntKind.signed]
theorem wrap_u64 (n : Int) : IntKind.wrap .u64 n = n % 18446744073709551616 := by simp [IntKind.wrap, IntKind.bits, IntKind.signed]
theorem wrap_i64 (n : Int) : IntKind.wrap .i64 n = if n % 18446744073709551616 ≥ 9223372036854775808 then n % 18446744073709551616 - 18446744073709551616 else n % 18446744073709551616 := by
  simp [IntKind.wrap, IntKind.bits, IntKind.signed]

theorem wrap_i64_id {n : Int} (h : in64 n) : IntKind.wrap .i64 n = n := by
  obtain ⟨h1, h2⟩ := h
  rw [wrap_i64]; split <;> omega

theorem u8_nat (n : Nat) (h : n < 256) : ((UInt8.ofNat n).toNat : Int) = n := by
  rw [UInt8.toNat_ofNat_of_lt' h]

theorem bitE_or8 (x y : Int) : bitE .or .u8 x y = IntKind.wrap .u8 ((BitVec.ofInt 8 x ||| BitVec.ofInt 8 y).toNat : Nat) := rfl
theorem bitE_xor64 (x y : Int) : bitE .xor .u64 x y = IntKind.wrap .u64 ((BitVec.ofInt 64 x ^^^ BitVec.ofInt 64 y).toNat : Nat) := rfl
theorem bitE_and64 (x y : Int) : bitE .and .u64 x y = IntKind.wrap .u64 ((BitVec.ofInt 64 x &&& BitVec.ofInt 64 y).toNat : Nat) := rfl
theorem bitE_xori (x y : Int) : bitE .xor .i64 x y = IntKind.wrap .i64 ((BitVec.ofInt 64 x ^^^ BitVec.ofInt 64 y).toNat : Nat) := rfl

/-- byte(n) | 128 -/
theorem byte_or (n : Nat) : bitE .or .u8 (IntKind.wrap .u8 n) 128 = ((UInt8.ofNat (n % 128 + 128)).toNat : Int) := by
  rw [u8_nat _ (by omega), wrap_u8, bitE_or8]
  have e1 : BitVec.ofInt 8 ((n : Int) % 256) = BitVec.ofNat 8 n := by
    apply BitVec.eq_of_toNat_eq
    simp [BitVec.toNat_ofInt]
    omega
  have e2 : (BitVec.ofNat 8 n ||| BitVec.ofInt 8 128).toNat = n % 128 + 128 := by
    have : ∀ m : BitVec 8, (m ||| 128#8).toNat = m.toNat % 128 + 128 := by decide +kernel
    have h := this (BitVec.ofNat 8 n)
    have h3 : (BitVec.ofInt 8 128) = 128#8 := by decide
    rw [h3, h]
    simp only [BitVec.toNat_ofNat]
    omega
  rw [e1, wrap_u8, e2]
  omega

theorem byte_small (n : Nat) (h : n < 128) : IntKind.wrap .u8 n = ((UInt8.ofNat n).toNat : Int) := by
  rw [u8_nat _ (by omega), wrap_u8]; omega

theorem shr7 (n : Nat) : shiftE .shr .u64 (n : Int) 7 = some (.int .u64 ((n / 128 : Nat) : Int)) := by
  simp only [shiftE]
  rw [if_neg (by decide)]
  simp only [IntKind.bits]
  have : ((n : Int).fdiv (2 ^ (min (7 : Int).toNat 64))) = ((n / 128 : Nat) : Int) := by
    rw [Int.fdiv_eq_ediv_of_nonneg _ (by decide)]
    simp
  rw [this]

/-- uint64(n) << 1, turned over where n is below zero. -/
theorem shl1 (n : Int) : shiftE .shl .u64 (IntKind.wrap .u64 n) 1 = some (.int .u64 ((2 * n) % 18446744073709551616)) := by
  simp only [shiftE]
  rw [if_neg (by decide), wrap_u64, wrap_u64]
  simp only [IntKind.bits]
  have : (n % 18446744073709551616 * 2 ^ (min (1 : Int).toNat 64)) % 18446744073709551616 = (2 * n) % 18446744073709551616 := by
    have : (2 : Int) ^ (min (1 : Int).toNat 64) = 2 := by decide
    rw [this]; omega
  rw [this]

theorem zig_pos {n : Int} (h : in64 n) (h0 : 0 ≤ n) : (2 * n) % 18446744073709551616 = (zig n : Int) := by
  obtain ⟨h1, h2⟩ := h
  unfold zig; rw [if_pos h0]; omega

theorem not64 (x : Nat) (h : x < 18446744073709551616) : bitE .xor .u64 18446744073709551615 (x : Int) = ((18446744073709551615 - x : Nat) : Int) := by
  rw [bitE_xor64]
  have e1 : BitVec.ofInt 64 18446744073709551615 = BitVec.allOnes 64 := by decide
  have e2 : BitVec.ofInt 64 (x : Int) = BitVec.ofNat 64 x := by
    apply BitVec.eq_of_toNat_eq
    simp [BitVec.toNat_ofInt]
  rw [e1, e2, BitVec.allOnes_xor, wrap_u64, BitVec.toNat_not, BitVec.toNat_ofNat]
  omega

theorem zig_neg {n : Int} (h : in64 n) (h0 : ¬ 0 ≤ n) : bitE .xor .u64 18446744073709551615 ((2 * n) % 18446744073709551616) = (zig n : Int) := by
  obtain ⟨h1, h2⟩ := h
  have : (2 * n) % 18446744073709551616 = ((18446744073709551616 + 2 * n).toNat : Nat) := by omega
  rw [this, not64 _ (by omega)]
  unfold zig; rw [if_neg h0]; omega

/-- int(u >> 1), turned over where u is odd. -/
theorem shr1 (n : Nat) : shiftE .shr .u64 (n : Int) 1 = some (.int .u64 ((n / 2 : Nat) : Int)) := by
  simp only [shiftE]
  rw [if_neg (by decide)]
  simp only [IntKind.bits]
  have : ((n : Int).fdiv (2 ^ (min (1 : Int).toNat 64))) = ((n / 2 : Nat) : Int) := by
    rw [Int.fdiv_eq_ediv_of_nonneg _ (by decide)]
    simp
  rw [this]

theorem and1 (n : Nat) (h : n < 18446744073709551616) : bitE .and .u64 (n : Int) 1 = ((n % 2 : Nat) : Int) := by
  rw [bitE_and64]
  have e2 : BitVec.ofInt 64 (n : Int) = BitVec.ofNat 64 n := by
    apply BitVec.eq_of_toNat_eq
    simp [BitVec.toNat_ofInt]
  have e1 : BitVec.ofInt 64 1 = 1#64 := by decide
  rw [e1, e2, wrap_u64, BitVec.toNat_and]
  simp only [BitVec.toNat_ofNat]
  have : n % 2 ^ 64 &&& 1 % 2 ^ 64 = n % 2 := by
    rw [show (1 % 2 ^ 64 : Nat) = 1 by decide, Nat.and_one_is_mod]; omega
  rw [this]; omega

theorem not_i64 (n : Int) (h : 0 ≤ n ∧ n < 9223372036854775808) : bitE .xor .i64 (-1) n = -(n + 1) := by
  rw [bitE_xori]
  have e1 : BitVec.ofInt 64 (-1) = BitVec.allOnes 64 := by decide
  have e2 : (BitVec.ofInt 64 n).toNat = n.toNat := by
    simp [BitVec.toNat_ofInt]; omega
  rw [e1, BitVec.allOnes_xor, wrap_i64, BitVec.toNat_not, e2]
  split <;> omega

end Go.Ev

namespace Go.Ev
open Go.RowKit

inductive Fd where
  | int | str | bool
  | list (t : Nat)
  | sub (t : Nat)

/-- The structs: 0 a number, 1 a string, 2 Value, 3 Segment, 4 Frame, 5 Type, 6 Label, 7 Data, 8 Cons, 9 Effect, 10 Op, 11 Expr, 12 Arm, 13 Def, 14 Program, 15 Code, 16 Func, 17 Ins, 18 Event, 19 Outcome, 20 State. -/
def sch : Nat → List Fd
  | 0 => [.int]
  | 1 => [.str]
  | 2 => [.int, .int, .str, .list 2, .list 3]
  | 3 => [.int, .str, .int, .list 2, .list 4]
  | 4 => [.int, .int, .list 2, .list 2]
  | 5 => [.int, .int, .str, .list 5, .list 6, .int]
  | 6 => [.str, .int]
  | 7 => [.str, .list 1, .list 8]
  | 8 => [.str, .list 5]
  | 9 => [.str, .list 10]
  | 10 => [.str, .sub 5, .sub 5, .bool]
  | 11 => [.int, .int, .str, .str, .list 1, .list 11, .list 12]
  | 12 => [.str, .list 1, .sub 11]
  | 13 => [.str, .sub 11]
  | 14 => [.list 7, .list 9, .list 13, .sub 11]
  | 15 => [.list 7, .list 9, .list 16]
  | 16 => [.int, .int, .int, .bool, .list 17]
  | 17 => [.int, .int, .int, .str]
  | 18 => [.str, .int, .int]
  | 19 => [.int, .str, .list 18, .int, .int, .int]
  | 20 => [.list 3, .list 0, .int, .sub 19, .bool]
  | _ => []

def szs : Nat → Nat
  | 0 => 1 | 1 => 1 | 2 => 5 | 3 => 5 | 4 => 4 | 5 => 6 | 6 => 2 | 7 => 3 | 8 => 2 | 9 => 2 | 10 => 14 | 11 => 7 | 12 => 9 | 13 => 8 | 14 => 10 | 15 => 3 | 16 => 5 | 17 => 4 | 18 => 3 | 19 => 6 | 20 => 10 | _ => 0

/-- A list of so many cells an element, or nil. -/
def isLn (n : Nat) (v : V) : Prop := v = .nils ∨ v = .mt ∨ ∃ lt es tk, v = .list lt n es tk

theorem isLn.isL {n : Nat} {v : V} (h : isLn n v) : isL v = true := by
  rcases h with rfl | rfl | ⟨lt, es, tk, rfl⟩ <;> rfl

theorem isLn.el {n : Nat} {v e : V} {i : Nat} (h : isLn n v) (he : (elems v)[i]? = some e) : ∃ lt tk, v = .list lt n (elems v) tk := by
  rcases h with rfl | rfl | ⟨lt, es, tk, rfl⟩
  · simp [elems] at he
  · simp [elems] at he
  · exact ⟨lt, tk, rfl⟩

mutual
inductive EncF : Nat → List Fd → List V → List UInt8 → Prop
  | nil (d : Nat) : EncF d [] [] []
  | int {d : Nat} {n : Int} {fs : List Fd} {cs : List V} {bs : List UInt8} (hn : in64 n) (h : EncF d fs cs bs) : EncF d (.int :: fs) (.int .i64 n :: cs) (encI n ++ bs)
  | str {d : Nat} {s : List UInt8} {fs : List Fd} {cs : List V} {bs : List UInt8} (hs : s.length < 4611686018427387904) (h : EncF d fs cs bs) : EncF d (.str :: fs) (.str s :: cs) (encS s ++ bs)
  | bool {d : Nat} {b : Bool} {fs : List Fd} {cs : List V} {bs : List UInt8} (h : EncF d fs cs bs) : EncF d (.bool :: fs) (.bool b :: cs) (encB b ++ bs)
  | list {d t : Nat} {v : V} {bl : List UInt8} {fs : List Fd} {cs : List V} {bs : List UInt8} (hv : isLn (szs t) v) (hl : (elems v).length < 4611686018427387904) (he : EncL d t (elems v) bl) (h : EncF (d + 1) fs cs bs) :
      EncF (d + 1) (.list t :: fs) (v :: cs) (encI ((elems v).length : Nat) ++ bl ++ bs)
  | sub {d t : Nat} {c1 cs : List V} {b1 bs : List UInt8} {fs : List Fd} (h1 : EncF d (sch t) c1 b1) (hc : c1.length = szs t) (h : EncF (d + 1) fs cs bs) : EncF (d + 1) (.sub t :: fs) (c1 ++ cs) (b1 ++ bs)
inductive EncL : Nat → Nat → List V → List UInt8 → Prop
  | nil (d t : Nat) : EncL d t [] []
  | cons {d t : Nat} {e : V} {b1 bs : List UInt8} {es : List V} (h1 : EncF d (sch t) e.cells b1) (h2 : EncL d t es bs) : EncL d t (e :: es) (b1 ++ bs)
end

theorem EncF.invN {d : Nat} {cs : List V} {bs : List UInt8} (h : EncF d [] cs bs) : cs = [] ∧ bs = [] := by cases h; exact ⟨rfl, rfl⟩
theorem EncF.invI {d : Nat} {fs : List Fd} {cs : List V} {bs : List UInt8} (h : EncF d (.int :: fs) cs bs) : ∃ n cs' bs', in64 n ∧ cs = .int .i64 n :: cs' ∧ bs = encI n ++ bs' ∧ EncF d fs cs' bs' := by
  cases h with | int hn h => exact ⟨_, _, _, hn, rfl, rfl, h⟩
theorem EncF.invS {d : Nat} {fs : List Fd} {cs : List V} {bs : List UInt8} (h : EncF d (.str :: fs) cs bs) : ∃ s cs' bs', s.length < 4611686018427387904 ∧ cs = .str s :: cs' ∧ bs = encS s ++ bs' ∧ EncF d fs cs' bs' := by
  cases h with | str hn h => exact ⟨_, _, _, hn, rfl, rfl, h⟩
theorem EncF.invB {d : Nat} {fs : List Fd} {cs : List V} {bs : List UInt8} (h : EncF d (.bool :: fs) cs bs) : ∃ b cs' bs', cs = .bool b :: cs' ∧ bs = encB b ++ bs' ∧ EncF d fs cs' bs' := by
  cases h with | bool h => exact ⟨_, _, _, rfl, rfl, h⟩
theorem EncF.invL {d t : Nat} {fs : List Fd} {cs : List V} {bs : List UInt8} (h : EncF d (.list t :: fs) cs bs) : ∃ d' v bl cs' bs', d' < d ∧ isLn (szs t) v ∧ (elems v).length < 4611686018427387904 ∧ EncL d' t (elems v) bl ∧ cs = v :: cs' ∧ bs = encI ((elems v).length : Nat) ++ bl ++ bs' ∧ EncF d fs cs' bs' := by
  cases h with | list hv hl he h => exact ⟨_, _, _, _, _, Nat.lt_succ_self _, hv, hl, he, rfl, rfl, h⟩
theorem EncF.invT {d t : Nat} {fs : List Fd} {cs : List V} {bs : List UInt8} (h : EncF d (.sub t :: fs) cs bs) : ∃ d' c1 b1 cs' bs', d' < d ∧ EncF d' (sch t) c1 b1 ∧ c1.length = szs t ∧ cs = c1 ++ cs' ∧ bs = b1 ++ bs' ∧ EncF d fs cs' bs' := by
  cases h with | sub h1 hc h => exact ⟨_, _, _, _, _, Nat.lt_succ_self _, h1, hc, rfl, rfl, h⟩

section
variable {P : Program} {ev : Operand → Option V} {S S' : St} {x y z : Operand} {t : TypeId} {u v w r : V} {n i j k : Nat}
theorem op_bs2 (h : ev x = some v) (h2 : ev y = some w) (hb : buildSliceE P t n [(i, v), (j, w)] = some r) : opE P (.buildSlice t n #[(i, x), (j, y)]) ev S = some (r, S) := by
  simp [opE, mapO, h, h2, hb]
theorem op_bs3 (h : ev x = some v) (h2 : ev y = some w) (h3 : ev z = some u) (hb : buildSliceE P t n [(i, v), (j, w), (k, u)] = some r) : opE P (.buildSlice t n #[(i, x), (j, y), (k, z)]) ev S = some (r, S) := by
  simp [opE, mapO, h, h2, h3, hb]
end

end Go.Ev

namespace Go.Ev
open Go.RowKit

section
variable {P : Program}

/-- All states behind operations of class 3 are of this kind. -/
def Tg (I : St → Prop) : List En → Prop
  | [] => True
  | .mild _ _ _ _ ob :: T => ob = none ∧ Tg I T
  | .act _ _ _ _ S :: T => I S ∧ Tg I T

structure Drw [Glob] (P : Program) (ops : Array Oper) (ms : List Nat) (S0 : St) (I : St → Prop) (l : List Nat) (F : Sh) (E : Env) (S : St) (k : K) : Prop where
  h : ∀ fr T, Has F E fr → Tg I T → ∃ x fr' S', drawE (lim P) P ops ms S0 l T fr S = some (.code x fr' S') ∧ k x fr' S'

variable {ops : Array Oper} {ms : List Nat} {S0 S S' : St} {I : St → Prop} {l : List Nat} {F : Sh} {E : Env} {k : K} {i d : Nat} {op : Op} {ty : TypeId} {pos : String} {after : Array Edge} {v : V}

/-- Is an operation wanted? -/
def gOk (ops : Array Oper) (E : Env) : Option (Nat × Bool) → Option Bool
  | none => some true
  | some (j, w) => gd ops E j w

theorem gOk_want {fr : Fr} (hf : Has F E fr) {g : Option (Nat × Bool)} {q : Bool} (h : gOk ops E g = some q) : wantE ops ⟨some d, op, ty, pos, after, g⟩ fr = some q := by
  cases g with
  | none => cases h; rfl
  | some jw =>
    obtain ⟨j, w⟩ := jw
    exact gd_want hf h

theorem Drw.nil [Glob] (h : At .normal k F E S) : Drw P ops ms S0 I [] F E S k := .mk fun fr _ hf _ => ⟨.normal, fr, S, rfl, h.h fr hf⟩

theorem Drw.c0 [Glob] {g : Option (Nat × Bool)} (ho : ops[i]? = some ⟨some d, op, ty, pos, after, g⟩) (hc : clsE op = 0) (h : opE P op (Env.opd E) S = some (v, S')) (hd : Nat.blt d F.n = true) (hk : Drw P ops ms S0 I l F ((d, v) :: E) S k) (hg : gOk ops E g = some true := by rfl) : Drw P ops ms S0 I (i :: l) F E S k := .mk fun fr T hf hT => by
  obtain ⟨fr', h1, h2⟩ := hf.put v hd
  have hS := cls0_state (.inl hc) h
  subst hS
  have h3 := opE_mono (fun x v => hf.opd) h
  have hw := gOk_want (d := d) (op := op) (ty := ty) (pos := pos) (after := after) hf hg
  have h4 : opE P op (viewE fr (looks ops ⟨some d, op, ty, pos, after, g⟩)) S' = some (v, S') := (opE_congr (fun x hx => viewE_opd (o := ⟨some d, op, ty, pos, after, g⟩) hx) S').trans h3
  have hb : Nat.beq (clsE op) 3 = false := by rw [hc]; rfl
  obtain ⟨x, fr2, S2, h5, h6⟩ := hk.h fr' (.mild i ⟨some d, op, ty, pos, after, g⟩ v S'.next none :: T) h2 ⟨rfl, hT⟩
  refine ⟨x, fr2, S2, ?_, h6⟩
  simp only [drawE, ho, hb, Bool.false_and, Bool.false_eq_true, if_false, mildE, hw, h4, hc, h1]
  exact h5

/-- An operation that is not wanted. -/
theorem Drw.gn [Glob] {g : Option (Nat × Bool)} (ho : ops[i]? = some ⟨some d, op, ty, pos, after, g⟩) (hd : Nat.blt d F.n = true) (hk : Drw P ops ms S0 I l F ((d, .tup []) :: E) S k) (hg : gOk ops E g = some false := by rfl) : Drw P ops ms S0 I (i :: l) F E S k := .mk fun fr T hf hT => by
  obtain ⟨fr', h1, h2⟩ := hf.put (.tup []) hd
  have hw := gOk_want (d := d) (op := op) (ty := ty) (pos := pos) (after := after) hf hg
  obtain ⟨x, fr2, S2, h5, h6⟩ := hk.h fr' (.mild i ⟨some d, op, ty, pos, after, g⟩ (.tup []) S.next none :: T) h2 ⟨rfl, hT⟩
  refine ⟨x, fr2, S2, ?_, h6⟩
  simp only [drawE, ho, hw, isT, Bool.and_false, Bool.false_eq_true, if_false, mildE, h1]
  exact h5

theorem sameE_all {op : Op} {ev : Operand → Option V} (h0 : opE P op ev S0 = some (v, S0)) (h : ∀ U, I U → opE P op ev U = some (v, U)) : ∀ (T : List En), Tg I T → sameE P ms i op ev v S0 T [] = true
  | [], _ => by simp only [sameE, sameAt, withs]; rw [h0]; exact V.beq_refl v
  | .mild j o u n ob :: T, hT => by
    obtain ⟨rfl, hT⟩ := hT
    simp only [sameE]
    exact sameE_all h0 h T hT
  | .act j o u n S1 :: T, hT => by
    simp only [sameE, sameAt, withs]
    rw [h S1 hT.1, sameE_all h0 h T hT.2]
    simp [V.beq_refl]

theorem Drw.c2 [Glob] (ho : ops[i]? = some ⟨some d, op, ty, pos, after, none⟩) (hc : clsE op = 2) (h0 : I S0) (hS : I S) (h : ∀ U, I U → opE P op (Env.opd E) U = some (v, U)) (hd : Nat.blt d F.n = true) (hk : Drw P ops ms S0 I l F ((d, v) :: E) S k) : Drw P ops ms S0 I (i :: l) F E S k := .mk fun fr T hf hT => by
  obtain ⟨fr', h1, h2⟩ := hf.put v hd
  have h4 : ∀ U, I U → opE P op (viewE fr (looks ops ⟨some d, op, ty, pos, after, none⟩)) U = some (v, U) := fun U hU =>
    (opE_congr (fun x hx => viewE_opd (o := ⟨some d, op, ty, pos, after, none⟩) hx) U).trans (opE_mono (fun x v => hf.opd) (h U hU))
  have hb : Nat.beq (clsE op) 3 = false := by rw [hc]; rfl
  obtain ⟨x, fr2, S2, h5, h6⟩ := hk.h fr' (.mild i ⟨some d, op, ty, pos, after, none⟩ v S.next none :: T) h2 ⟨rfl, hT⟩
  refine ⟨x, fr2, S2, ?_, h6⟩
  simp only [drawE, ho, hb, Bool.false_and, Bool.false_eq_true, if_false, mildE, wantE, h4 S hS, hc, sameE_all (h4 S0 h0) h4 T hT, if_true, h1]
  exact h5

theorem Drw.call [Glob] {f : Operand} {args : Array Operand} {ats : Array TypeId} {g : FuncId} {m : List V} {Q : V → St → Prop} {gg : Option (Nat × Bool)} (ho : ops[i]? = some ⟨some d, .call { callee := .value f, args, argTypes := ats }, ty, pos, after, gg⟩)
    (hf : calleeE (Env.opd E) f args = some (g, m)) (hb : hasBody P g = true) (hc : CallTo P g m S Q (fun _ _ => False)) (hd : Nat.blt d F.n = true) (hk : ∀ v S', Q v S' → I S' ∧ Drw P ops ms S0 I l F ((d, v) :: E) S' k) (hg : gOk ops E gg = some true := by rfl) :
    Drw P ops ms S0 I (i :: l) F E S k := .mk fun fr T hfr hT => by
  rcases hc with ⟨v, S', h3, h4⟩ | ⟨v, S', h3, h4⟩
  · obtain ⟨hI, hk⟩ := hk v S' h4
    obtain ⟨fr', h5, h6⟩ := hfr.put v hd
    have hw := gOk_want (d := d) (op := .call { callee := .value f, args, argTypes := ats }) (ty := ty) (pos := pos) (after := after) hfr hg
    have hcal := calleeE_mono (fun x v => hfr.opd) hf
    have hact : actE (lim P) P (.call { callee := .value f, args, argTypes := ats }) (viewE fr (looks ops ⟨some d, .call { callee := .value f, args, argTypes := ats }, ty, pos, after, gg⟩)) fr.pan S = some (.val v S') :=
      (actE_congr (fun x hx => viewE_opd (o := ⟨some d, .call { callee := .value f, args, argTypes := ats }, ty, pos, after, gg⟩) hx) _ _).trans (act_ret hb hcal h3)
    obtain ⟨x, fr2, S2, h7, h8⟩ := hk.h fr' (.act i ⟨some d, .call { callee := .value f, args, argTypes := ats }, ty, pos, after, gg⟩ v S.next S' :: T) h6 ⟨hI, hT⟩
    refine ⟨x, fr2, S2, ?_, h8⟩
    have hcls : Nat.beq (clsE (.call { callee := .value f, args, argTypes := ats })) 3 = true := rfl
    simp only [drawE, ho, hcls, hw, isT, Bool.and_self, if_true, hact, h5]
    exact h7
  · exact h4.elim

/-- An operation of class 3 that runs no code. -/
theorem Drw.c3 [Glob] {g : Option (Nat × Bool)} (ho : ops[i]? = some ⟨some d, op, ty, pos, after, g⟩) (hc : clsE op = 3) (h : opE P op (Env.opd E) S = some (v, S')) (hI : I S') (hd : Nat.blt d F.n = true) (hk : Drw P ops ms S0 I l F ((d, v) :: E) S' k) (hg : gOk ops E g = some true := by rfl) : Drw P ops ms S0 I (i :: l) F E S k := .mk fun fr T hf hT => by
  obtain ⟨fr', h1, h2⟩ := hf.put v hd
  have hw := gOk_want (d := d) (op := op) (ty := ty) (pos := pos) (after := after) hf hg
  have hact : actE (lim P) P op (viewE fr (looks ops ⟨some d, op, ty, pos, after, g⟩)) fr.pan S = some (.val v S') :=
    (actE_congr (fun x hx => viewE_opd (o := ⟨some d, op, ty, pos, after, g⟩) hx) _ _).trans (opE_act (opE_mono (fun x v => hf.opd) h) (lim P) fr.pan)
  have hb : Nat.beq (clsE op) 3 = true := by rw [hc]; rfl
  obtain ⟨x, fr2, S2, h5, h6⟩ := hk.h fr' (.act i ⟨some d, op, ty, pos, after, g⟩ v S.next S' :: T) h2 ⟨hI, hT⟩
  refine ⟨x, fr2, S2, ?_, h6⟩
  simp only [drawE, ho, hb, hw, isT, Bool.and_self, if_true, hact, h1]
  exact h5

/-- The last one, which lays something down. -/
theorem Drw.last [Glob] (ho : ops[i]? = some ⟨none, op, ty, pos, after, none⟩) (hc : clsE op = 3) (h : opE P op (Env.opd E) S = some (v, S')) (hk : At .normal k F E S') : Drw P ops ms S0 I [i] F E S k := .mk fun fr T hf hT => by
  have hact : actE (lim P) P op (viewE fr (looks ops ⟨none, op, ty, pos, after, none⟩)) fr.pan S = some (.val v S') :=
    (actE_congr (fun x hx => viewE_opd (o := ⟨none, op, ty, pos, after, none⟩) hx) _ _).trans (opE_act (opE_mono (fun x v => hf.opd) h) (lim P) fr.pan)
  have hb : Nat.beq (clsE op) 3 = true := by rw [hc]; rfl
  refine ⟨.normal, fr, S', ?_, hk.h fr hf⟩
  simp only [drawE, ho, hb, wantE, isT, Bool.and_self, if_true, hact, Fr.put]

theorem Go.draw [Glob] {id : Nat} (ms : List Nat) (ord : List Nat) (hp : planOf ops = ⟨ms, ord, true⟩) (I : St → Prop) (h : Drw P ops ms S I ord F E S k) : Go P F E S (.region id ops true) k := .mk fun fr hf => by
  obtain ⟨x, fr', S', h1, h2⟩ := h.h fr [] hf trivial
  refine .of_step ?_ h2
  simp only [stepT, regionE, hp, if_true]
  exact h1

/-! ### Deferred calls -/

def DcallTo [Glob] (P : Program) (g : FuncId) (l : List V) (p : Pan) (S : St) (Q : Pan → St → Prop) : Prop := ∃ p' S', lim P (.dcall g l p) S = some (.dret p' S') ∧ Q p' S'

def Kd (P : Program) (fn : Func) (Q : Pan → St → Prop) : K := fun x fr S => match x with
  | .normal => fr.ds = [] ∧ (resultsE P fn fr S).isSome = true ∧ Q fr.pan S
  | .ret => fr.ds = [] ∧ (resultsE P fn fr S).isSome = true ∧ Q fr.pan S
  | _ => False

theorem DcallTo.of [Glob] {g : FuncId} {l : List V} {p : Pan} {fn : Func} {c : Code} {Q : Pan → St → Prop} {n : Nat} (hf : P.funcs[g]? = some fn) (hb : fn.body = some c) (hn : max l.length fn.ntmps = n) (h : Go P ⟨n, [], p⟩ (envOf 0 l) S c (Kd P fn Q)) : DcallTo P g l p S Q := by
  obtain ⟨x, fr, S', h1, h2⟩ := h.h _ (start_has fn l p hn)
  cases x with
  | normal =>
    obtain ⟨h3, h4, h5⟩ := h2
    refine ⟨fr.pan, S', lim_of_step ?_, h5⟩
    cases hr : resultsE P fn fr S' with
    | none => rw [hr] at h4; cases h4
    | some v => simp only [stepT, hf, hb, h1, h3, hr]
  | ret =>
    obtain ⟨h3, h4, h5⟩ := h2
    refine ⟨fr.pan, S', lim_of_step ?_, h5⟩
    cases hr : resultsE P fn fr S' with
    | none => rw [hr] at h4; cases h4
    | some v => simp only [stepT, hf, hb, h1, h3, hr]
  | panic v => exact h2.elim
  | goto m => exact h2.elim
  | exit m => exact h2.elim

theorem At.dn {fn : Func} {Q : Pan → St → Prop} {rs : List ResultVar} {vs : List V} (hrs : fn.results.toList = rs) (hd : F.ds = []) (h : resV P E S rs = some vs) (hq : Q F.pan S) : At .normal (Kd P fn Q) F E S := .mk fun fr hf =>
  ⟨by rw [hf.ds, hd], by rw [res_of hf hrs h]; rfl, by rw [hf.pan]; exact hq⟩

/-- A function's end, where calls have been deferred. -/
def Kl [Glob] (P : Program) (fn : Func) (Qr Qp : V → St → Prop) : K := fun x fr S =>
  ∃ p, (match x with
    | .normal => p = none
    | .ret => p = none
    | .panic v => p = some v
    | .exit _ => False
    | .goto _ => False) ∧
    ((∃ v S', leaveE (lim P) P fn fr fr.ds p S = some (.ret v S') ∧ Qr v S') ∨ (∃ v S', leaveE (lim P) P fn fr fr.ds p S = some (.pan v S') ∧ Qp v S'))

theorem CallTo.ofD [Glob] {g : FuncId} {l : List V} {fn : Func} {c : Code} {Qr Qp : V → St → Prop} {n : Nat} (hf : P.funcs[g]? = some fn) (hb : fn.body = some c) (hn : max l.length fn.ntmps = n) (h : Go P ⟨n, [], .norm⟩ (envOf 0 l) S c (Kl P fn Qr Qp)) (hl : orc P (.call g l) S = none := by rfl) : CallTo P g l S Qr Qp := by
  obtain ⟨x, fr, S1, h1, p, hp, h2⟩ := h.h _ (start_has fn l .norm hn)
  cases x with
  | normal =>
    subst hp
    rcases h2 with ⟨v, S', h3, h4⟩ | ⟨v, S', h3, h4⟩
    · exact .inl ⟨v, S', lim_of_step (by simp only [stepT, hf, hb, h1]; exact h3) hl, h4⟩
    · exact .inr ⟨v, S', lim_of_step (by simp only [stepT, hf, hb, h1]; exact h3) hl, h4⟩
  | ret =>
    subst hp
    rcases h2 with ⟨v, S', h3, h4⟩ | ⟨v, S', h3, h4⟩
    · exact .inl ⟨v, S', lim_of_step (by simp only [stepT, hf, hb, h1]; exact h3) hl, h4⟩
    · exact .inr ⟨v, S', lim_of_step (by simp only [stepT, hf, hb, h1]; exact h3) hl, h4⟩
  | panic v0 =>
    subst hp
    rcases h2 with ⟨v, S', h3, h4⟩ | ⟨v, S', h3, h4⟩
    · exact .inl ⟨v, S', lim_of_step (by simp only [stepT, hf, hb, h1]; exact h3) hl, h4⟩
    · exact .inr ⟨v, S', lim_of_step (by simp only [stepT, hf, hb, h1]; exact h3) hl, h4⟩
  | exit m => exact hp.elim
  | goto m => exact hp.elim

/-- One deferred call, behind which the function's results stand in the same frame. -/
theorem At.lret [Glob] {fn : Func} {Qr Qp : V → St → Prop} {g : FuncId} {m : List V} {rs : List ResultVar} {Q : Pan → St → Prop} (hrs : fn.results.toList = rs) (hds : F.ds = [(g, m)]) (hc : DcallTo P g m .quiet S Q)
    (hq : ∀ p S', Q p S' → p = .quiet ∧ ∃ vs, resV P E S' rs = some vs ∧ Qr (packV vs) S') (hmk : markOf m = none := by rfl) : At .ret (Kl P fn Qr Qp) F E S := .mk fun fr hf => by
  obtain ⟨p', S', h1, h2⟩ := hc
  obtain ⟨rfl, vs, h3, h4⟩ := hq p' S' h2
  refine ⟨none, rfl, .inl ⟨packV vs, S', ?_, h4⟩⟩
  rw [hf.ds, hds]
  simp only [leaveE, hmk, h1, res_of hf hrs h3, Option.map]

theorem At.lpan [Glob] {fn : Func} {Qr Qp : V → St → Prop} {g : FuncId} {m : List V} {rs : List ResultVar} {Q : Pan → St → Prop} {u : V} (hrs : fn.results.toList = rs) (hds : F.ds = [(g, m)]) (hc : DcallTo P g m (.live u) S Q)
    (hq : ∀ p S', Q p S' → (∃ w, p = .done w) ∧ ∃ vs, resV P E S' rs = some vs ∧ Qr (packV vs) S') (hmk : markOf m = none := by rfl) : At (.panic u) (Kl P fn Qr Qp) F E S := .mk fun fr hf => by
  obtain ⟨p', S', h1, h2⟩ := hc
  obtain ⟨⟨w, rfl⟩, vs, h3, h4⟩ := hq p' S' h2
  refine ⟨some u, rfl, .inl ⟨packV vs, S', ?_, h4⟩⟩
  rw [hf.ds, hds]
  simp only [leaveE, hmk, h1, res_of hf hrs h3, Option.map]

end
end Go.Ev

namespace Go.Ev
open Go.RowKit

/-! ### Depths -/

mutual
theorem EncF.succ : ∀ {d : Nat} {fs : List Fd} {cs : List V} {bs : List UInt8}, EncF d fs cs bs → EncF (d + 1) fs cs bs
  | _, _, _, _, .nil d => .nil (d + 1)
  | _, _, _, _, .int hn h => .int hn h.succ
  | _, _, _, _, .str hs h => .str hs h.succ
  | _, _, _, _, .bool h => .bool h.succ
  | _, _, _, _, .list hv hl he h => .list hv hl he.succ h.succ
  | _, _, _, _, .sub h1 hc h => .sub h1.succ hc h.succ
theorem EncL.succ : ∀ {d t : Nat} {es : List V} {bs : List UInt8}, EncL d t es bs → EncL (d + 1) t es bs
  | _, _, _, _, .nil d t => .nil (d + 1) t
  | _, _, _, _, .cons h1 h2 => .cons h1.succ h2.succ
end

theorem EncF.le {d d' : Nat} {fs : List Fd} {cs : List V} {bs : List UInt8} (h : EncF d fs cs bs) (hd : d ≤ d') : EncF d' fs cs bs := by
  induction hd with
  | refl => exact h
  | step _ ih => exact ih.succ
theorem EncL.le {d d' t : Nat} {es : List V} {bs : List UInt8} (h : EncL d t es bs) (hd : d ≤ d') : EncL d' t es bs := by
  induction hd with
  | refl => exact h
  | step _ ih => exact ih.succ

theorem EncF.append : ∀ {d : Nat} {fs gs : List Fd} {cs ds : List V} {bs es : List UInt8}, EncF d fs cs bs → EncF d gs ds es → EncF d (fs ++ gs) (cs ++ ds) (bs ++ es)
  | _, _, _, _, _, _, _, .nil _, k => k
  | _, _, _, _, _, _, _, .int hn h, k => by rw [List.append_assoc]; exact .int hn (h.append k)
  | _, _, _, _, _, _, _, .str hs h, k => by rw [List.append_assoc]; exact .str hs (h.append k)
  | _, _, _, _, _, _, _, .bool h, k => by rw [List.append_assoc]; exact .bool (h.append k)
  | _, _, _, _, _, _, _, .list hv hl he h, k => by rw [List.append_assoc]; exact .list hv hl he (h.append k)
  | _, _, _, _, _, _, _, .sub h1 hc h, k => by rw [List.append_assoc, List.append_assoc]; exact .sub h1 hc (h.append k)

/-! ### The memory of a call's arguments -/

def Sg.of (W : World) : Sg := ⟨fun _ => Option.none, fun b o => if b < W.heap.size then W.cell? ⟨b, o, Option.none⟩ else Option.none, fun _ => Option.none⟩

theorem rel_of [Glob] (W : World) (hv : VarsOk W) : Rel none2 W.heap.size W (Sg.of W) S0 W where
  below := Below.refl _ _
  hb := Nat.le_refl _
  imm := fun b o v h _ => by
    simp only [Sg.of] at h
    split at h
    · exact h
    · cases h
  cur := fun b o v h => by
    simp only [Sg.of] at h
    split at h
    · assumption
    · cases h
  ty := fun _ _ h => by cases h
  ob := fun id o h => by simp only [S0, Tr.find_leaf] at h; cases h
  inj := fun i j o o' x y h => by simp only [S0, Tr.find_leaf] at h; cases h
  gl := by
    intro g cs hg
    have key : ∀ (l : List V) (k : Nat), (∀ i v, l[i]? = some v → cs[k + i]? = some v) → CR (Sg.of W) l g k := by
      intro l
      induction l with
      | nil => intro k _; exact .nil _ _
      | cons x l ih =>
        intro k hk
        obtain ⟨y, h1, h2⟩ := hv g cs hg k x (hk 0 x rfl)
        refine .cons (y := y) ?_ (h2.mono ⟨fun _ _ e => (by cases e), fun _ _ _ e => (by cases e), fun _ _ e => (by cases e)⟩) (ih (k + 1) fun i v hi => by rw [Nat.add_right_comm, Nat.add_assoc]; exact hk (i + 1) v hi)
        simp only [Sg.of]
        rw [if_pos]
        · exact h1
        · unfold World.cell? at h1
          simp only at h1
          rcases Nat.lt_or_ge g W.heap.size with h' | h'
          · exact h'
          · rw [Array.getElem?_eq_none h'] at h1; cases h1
    exact key cs 0 fun i v hi => by rw [Nat.zero_add]; exact hi

/-! ### Types -/

def flT (P : Program) (f : TypeId → Option (List Fd)) (tot : Nat) : List Field → Nat → Option (List Fd)
  | [], o => if o = tot then some [] else none
  | x :: l, o => if x.offset = o then
      match f x.type, flT P f tot l (o + P.cellsOf x.type) with
      | some a, some b => some (a ++ b)
      | _, _ => none
    else none

def fdT (P : Program) (num : TypeId → Option Nat) : Nat → TypeId → Option (List Fd)
  | 0, _ => none
  | d + 1, t => match P.underlying t with
    | some (.int .i64) => some [.int]
    | some .string => some [.str]
    | some .bool => some [.bool]
    | some (.slice e) => (num e).map fun n => [.list n]
    | some (.struct fs) => match num t with
      | some n => some [.sub n]
      | none => flT P (fdT P num d) (P.cellsOf t) fs.toList 0
    | _ => none

def topT (P : Program) (num : TypeId → Option Nat) (t : TypeId) : Option (List Fd) := match P.underlying t with
  | some (.int .i64) => some [.int]
  | some .string => some [.str]
  | some (.struct fs) => flT P (fdT P num 3) (P.cellsOf t) fs.toList 0
  | _ => none

structure Tys (P : Program) (num : TypeId → Option Nat) : Prop where
  top : ∀ t n, num t = some n → topT P num t = some (sch n) ∧ P.cellsOf t = szs n ∧ 1 ≤ szs n

mutual
def blk {H : Type} : DataW H → Nat
  | .lit (.string b) => b.length + 1
  | .lit _ => 1
  | .slice a b => blks a + blks b + 1
  | .agg l => blks l + 1
  | _ => 1
def blks {H : Type} : List (DataW H) → Nat
  | [] => 0
  | d :: r => blk d + blks r
end

theorem blk_pos {H : Type} (d : DataW H) : 1 ≤ blk d := by
  match d with
  | .lit (.string b) => unfold blk; omega
  | .lit (.bool b) => unfold blk; omega
  | .lit (.int k n) => unfold blk; omega
  | .lit (.float k n) => unfold blk; omega
  | .lit .nil => unfold blk; omega
  | .nil => unfold blk; omega
  | .ptr d => unfold blk; omega
  | .slice a b => unfold blk; omega
  | .agg l => unfold blk; omega
  | .iface t d => unfold blk; omega
  | .map e => unfold blk; omega
  | .held h => unfold blk; omega

theorem encI_le10 {n : Int} (h : in64 n) : (encI n).length ≤ 10 := vb_ten (zig_lt h.1 h.2)

theorem encB_le (b : Bool) : (encB b).length ≤ 10 := by cases b <;> exact encI_le10 (by constructor <;> decide)

theorem wf_in64 {n : Int} (h : (Lit.int .i64 n).wf = true) : in64 n := by
  simp [Lit.wf, IntKind.min, IntKind.max, IntKind.signed, IntKind.bits] at h
  constructor <;> omega

section
variable {H : Type} {enc : TypeId × Value → H} {P : Program} {W : World} {base : Nat} {held : Bool} {num : TypeId → Option Nat}

/-- As much as an argument may hold. -/
abbrev bulkMost : Nat := 1048576

/-- What reading comes to. -/
def Got (W : World) (fs : List Fd) (cs : List Value) (m : Nat) : Prop := ∃ vs bs k, VRs (Sg.of W) vs cs ∧ EncF k fs vs bs ∧ bs.length ≤ 11 * m

theorem Got.append {fs gs : List Fd} {cs ds : List Value} {m n : Nat} (h : Got W fs cs m) (k : Got W gs ds n) : Got W (fs ++ gs) (cs ++ ds) (m + n) := by
  obtain ⟨vs, bs, a, h1, h2, h3⟩ := h
  obtain ⟨us, es, b, k1, k2, k3⟩ := k
  exact ⟨vs ++ us, bs ++ es, max a b, h1.append k1, (h2.le (Nat.le_max_left _ _)).append (k2.le (Nat.le_max_right _ _)), by simp; omega⟩

theorem got_fields {f : TypeId → Option (List Fd)} {n : Nat} (hA : ∀ t fds cs (x : DataW H × List MemPlace), f t = some fds → DataW.trod enc P W base (fun _ => true) held n t cs = some x → blk x.1 ≤ bulkMost → Got W fds cs (blk x.1)) {cs : List Value} {tot : Nat} (htot : cs.length = tot) :
    ∀ (l : List Field) (o : Nat) (fds : List Fd) (xs : List (DataW H × List MemPlace)), flT P f tot l o = some fds → xs.length = l.length →
      (∀ (i : Nat) (g : Field), l[i]? = some g → DataW.trod enc P W base (fun _ => true) held n g.type ((cs.drop g.offset).take (P.cellsOf g.type)) = xs[i]?) → blks (xs.map (·.1)) ≤ bulkMost → Got W fds (cs.drop o) (blks (xs.map (·.1)))
  | [], o, fds, xs, hf, hl, _, _ => by
    simp only [flT] at hf
    split at hf
    · rename_i ho
      cases hf
      subst ho
      rw [← htot, List.drop_length]
      have : xs = [] := by simpa using hl
      subst this
      exact ⟨[], [], 0, .nil, .nil 0, by simp [blks]⟩
    · cases hf
  | g :: l, o, fds, xs, hf, hl, hx, hbm => by
    simp only [flT] at hf
    split at hf
    · rename_i ho
      cases h1 : f g.type with
      | none => rw [h1] at hf; cases hf
      | some a =>
        cases h2 : flT P f tot l (o + P.cellsOf g.type) with
        | none => rw [h1, h2] at hf; cases hf
        | some b =>
          rw [h1, h2] at hf
          cases hf
          cases xs with
          | nil => simp at hl
          | cons y ys =>
            have hy := hx 0 g rfl
            simp only [List.getElem?_cons_zero] at hy
            simp only [List.map_cons, blks] at hbm
            have hrest := got_fields hA htot l (o + P.cellsOf g.type) b ys h2 (by simpa using hl) (fun i g' hg => by simpa using hx (i + 1) g' (by simpa using hg)) (by omega)
            have hg := (hA g.type a _ y h1 hy (by omega)).append hrest
            rw [ho] at hg
            have he : (cs.drop o).take (P.cellsOf g.type) ++ cs.drop (o + P.cellsOf g.type) = cs.drop o := by
              rw [← List.drop_drop]; exact List.take_append_drop _ _
            rw [he] at hg
            exact hg
    · cases hf

theorem cells_get {a : Addr} {n : Nat} {cs : List Value} (h : W.cells? base a n = some cs) : cs.length = n ∧ ∀ i v, cs[i]? = some v → W.cell? (a.add i) = some v := by
  unfold World.cells? at h
  split at h
  · have hl := mapM_some_length h
    refine ⟨by simpa using hl, fun i v hv => ?_⟩
    have hi : i < n := by have := (List.getElem?_eq_some_iff.1 hv).1; simp at hl; omega
    have := mapM_some_get h i i (by simp [hi])
    rw [this, hv]
  · cases h

theorem spot_none {a : Addr} {v : Value} (h : W.cell? a = some v) : a.spot = none := by
  unfold World.cell? at h
  split at h
  · split at h
    · cases h
    · rename_i hs; simpa using hs
  · cases h

theorem cell_lt {a : Addr} {v : Value} (h : W.cell? a = some v) : a.block < W.heap.size := by
  unfold World.cell? at h
  split at h
  · rename_i hb
    rcases Nat.lt_or_ge a.block W.heap.size with h1 | h1
    · exact h1
    · simp [Array.getElem?_eq_none h1] at hb
  · cases h

theorem I_of {b o : Nat} {v : Value} (h : W.cell? ⟨b, o, none⟩ = some v) : (Sg.of W).I b o = some v := by
  simp only [Sg.of]
  rw [if_pos (cell_lt h)]; exact h

theorem got_elems {n m sz : Nat} {e : TypeId} {a : Addr} (ha : a.spot = none) (hsz : P.cellsOf e = sz) (hB : ∀ cs (x : DataW H × List MemPlace), DataW.trod enc P W base (fun _ => true) held n e cs = some x → blk x.1 ≤ bulkMost → Got W (sch m) cs (blk x.1)) :
    ∀ (elems : List (DataW H × List MemPlace)) (j : Nat), (∀ i, i < elems.length → (W.cells? base (a.add ((j + i) * sz)) sz).bind (DataW.trod enc P W base (fun _ => true) held n e) = elems[i]?) → blks (elems.map (·.1)) ≤ bulkMost →
      ∃ es bl k, es.length = elems.length ∧ LR (Sg.of W) sz es a.block (a.off + j * sz) ∧ EncL k m es bl ∧ bl.length ≤ 11 * blks (elems.map (·.1))
  | [], j, _, _ => ⟨[], [], 0, rfl, .nil _ _ _, .nil 0 m, by simp [blks]⟩
  | x :: xs, j, h, hbm => by
    simp only [List.map_cons, blks] at hbm
    have h0 := h 0 (by simp)
    simp only [Nat.add_zero, List.getElem?_cons_zero, Option.bind_eq_some_iff] at h0
    obtain ⟨cs, hc, hx⟩ := h0
    obtain ⟨vs, bs, k, g1, g2, g3⟩ := hB cs x hx (by omega)
    obtain ⟨hl, hget⟩ := cells_get hc
    obtain ⟨es, bl, k2, e1, e2, e3, e4⟩ := got_elems ha hsz hB xs (j + 1) (fun i hi => by
      have := h (i + 1) (by simpa using hi)
      simp only [List.getElem?_cons_succ] at this
      rw [← this]
      have : (j + 1 + i) = (j + (i + 1)) := by omega
      rw [this]) (by omega)
    have hcr : CR (Sg.of W) vs a.block (a.off + j * sz) := CR.of_vals g1 fun i v hv => by
      have := hget i v hv
      apply I_of
      have he : (a.add (j * sz)).add i = ⟨a.block, a.off + j * sz + i, none⟩ := by
        obtain ⟨b, o, s⟩ := a
        simp only at ha
        subst ha
        unfold Addr.add
        by_cases h1 : j * sz = 0
        · by_cases h2 : i = 0 <;> simp [h1, h2]
        · by_cases h2 : i = 0 <;> simp [h1, h2]
      rw [he] at this
      exact this
    refine ⟨.agg vs :: es, bs ++ bl, max k k2, by simp [e1], ?_, .cons (g2.le (Nat.le_max_left _ _)) (e3.le (Nat.le_max_right _ _)), by simp [blks]; omega⟩
    refine .cons (by show vs.length = sz; rw [g1.length, hl]) hcr ?_
    have : a.off + (j + 1) * sz = a.off + j * sz + sz := by rw [Nat.succ_mul]; omega
    rw [← this]
    exact e2

theorem got_all (hT : Tys P num) : ∀ (n : Nat), (∀ (d : Nat) t fds cs (x : DataW H × List MemPlace), fdT P num d t = some fds → DataW.trod enc P W base (fun _ => true) held n t cs = some x → blk x.1 ≤ bulkMost → Got W fds cs (blk x.1)) ∧
    (∀ t m cs (x : DataW H × List MemPlace), num t = some m → DataW.trod enc P W base (fun _ => true) held n t cs = some x → blk x.1 ≤ bulkMost → Got W (sch m) cs (blk x.1)) := by
  intro n
  induction n with
  | zero => exact ⟨fun d t fds cs x _ h _ => by simp [DataW.trod] at h, fun t m cs x _ h _ => by simp [DataW.trod] at h⟩
  | succ n ih =>
    obtain ⟨ihA, ihB⟩ := ih
    have hint : ∀ t cs (x : DataW H × List MemPlace), P.underlying t = some (.int .i64) → DataW.trod enc P W base (fun _ => true) held (n + 1) t cs = some x → blk x.1 ≤ bulkMost → Got W [.int] cs (blk x.1) := by
      intro t cs x hu h hbm
      obtain ⟨k, rfl, rfl, hw⟩ := DataW.trod_int hu h
      have hi := wf_in64 hw
      refine ⟨[.int .i64 k], encI k ++ [], 0, .cons (.int _ _) .nil, .int hi (.nil 0), ?_⟩
      have := encI_le10 hi
      simp [blk]; omega
    have hstr : ∀ t cs (x : DataW H × List MemPlace), P.underlying t = some .string → DataW.trod enc P W base (fun _ => true) held (n + 1) t cs = some x → blk x.1 ≤ bulkMost → Got W [.str] cs (blk x.1) := by
      intro t cs x hu h hbm
      obtain ⟨s, rfl, rfl, hs⟩ := DataW.trod_string hu h
      have hl : s.data.toList.length < 4611686018427387904 := by
        simp only [blk, bulkMost] at hbm
        omega
      refine ⟨[.str s.data.toList], encS s.data.toList ++ [], 0, .cons (.str s rfl) .nil, .str hl (.nil 0), ?_⟩
      have := encI_le10 (n := (s.data.toList.length : Nat)) (by constructor <;> omega)
      simp only [encS, blk, List.append_nil, List.length_append]; omega
    have hstruct : ∀ (d : Nat) t (fs : Array Field) fds cs (x : DataW H × List MemPlace), P.underlying t = some (.struct fs) → flT P (fdT P num d) (P.cellsOf t) fs.toList 0 = some fds → DataW.trod enc P W base (fun _ => true) held (n + 1) t cs = some x → blk x.1 ≤ bulkMost → Got W fds cs (blk x.1) := by
      intro d t fs fds cs x hu hf h hbm
      obtain ⟨xs, m, hm, rfl, hl, hxl, hx⟩ := DataW.trod_struct hu h
      cases hm
      have := got_fields (ihA d) hl fs.toList 0 fds xs hf (by simpa using hxl) (fun i g hg => hx i g (by simpa using hg)) (by simp only [blk] at hbm; omega)
      rw [List.drop_zero] at this
      obtain ⟨vs, bs, k, g1, g2, g3⟩ := this
      exact ⟨vs, bs, k, g1, g2, by simp only [blk]; omega⟩
    have hB : ∀ t m cs (x : DataW H × List MemPlace), num t = some m → DataW.trod enc P W base (fun _ => true) held (n + 1) t cs = some x → blk x.1 ≤ bulkMost → Got W (sch m) cs (blk x.1) := by
      intro t m cs x hn h hbm
      obtain ⟨htop, _, _⟩ := hT.top t m hn
      unfold topT at htop
      split at htop
      · rename_i hu; rw [← Option.some.inj htop]; exact hint t cs x hu h hbm
      · rename_i hu; rw [← Option.some.inj htop]; exact hstr t cs x hu h hbm
      · rename_i fs hu; exact hstruct 3 t fs _ cs x hu htop h hbm
      · cases htop
    refine ⟨fun d t fds cs x hf h hbm => ?_, hB⟩
    cases d with
    | zero => cases hf
    | succ d =>
      simp only [fdT] at hf
      split at hf
      · rename_i hu; cases hf; exact hint t cs x hu h hbm
      · rename_i hu; cases hf; exact hstr t cs x hu h hbm
      · rename_i hu
        cases hf
        obtain ⟨b, rfl, rfl⟩ := DataW.trod_bool hu h
        refine ⟨[.bool b], encB b ++ [], 0, .cons (.bool _) .nil, .bool (.nil 0), ?_⟩
        have := encB_le b
        simp [blk]; omega
      · rename_i e hu
        cases hn : num e with
        | none => rw [hn] at hf; cases hf
        | some m =>
          rw [hn] at hf
          cases hf
          obtain ⟨_, hsz, hpos⟩ := hT.top e m hn
          rcases DataW.trod_slice hu h with ⟨rfl, rfl⟩ | ⟨a, len, cap, elems, rest, n', hn', rfl, rfl, hb, hlc, hcm, hel, hget, hsp, _⟩
          · refine ⟨[.nils], encI (0 : Nat) ++ [] ++ [], 1, .cons .nils .nil, .list (v := .nils) (.inl rfl) (by simp [elems]) (.nil 0 m) (.nil 1), ?_⟩
            have := encI_le10 (n := (0 : Nat)) (by constructor <;> omega)
            simp [blk] at this ⊢; omega
          · cases hn'
            obtain ⟨hrl, hrget⟩ := hsp rfl
            by_cases hc0 : cap = 0
            · subst hc0
              have : len = 0 := by omega
              subst this
              have : elems = [] := by simpa using hel
              subst this
              refine ⟨[.mt], encI (0 : Nat) ++ [] ++ [], 1, .cons (.mt a) .nil, .list (v := .mt) (.inr (.inl rfl)) (by simp [Ev.elems]) (.nil 0 m) (.nil 1), ?_⟩
              have := encI_le10 (n := (0 : Nat)) (by constructor <;> omega)
              simp [blk] at this ⊢; omega
            · have hspot : a.spot = none := by
                have key : ∀ y, (W.cells? base (a.add (0 * P.cellsOf e)) (P.cellsOf e)).bind (DataW.trod enc P W base (fun _ => true) held n e) = some y → a.spot = none := by
                  intro y hy
                  simp only [Option.bind_eq_some_iff] at hy
                  obtain ⟨cs, hc, _⟩ := hy
                  obtain ⟨hl, hg⟩ := cells_get hc
                  have h0 : 0 < cs.length := by omega
                  have := spot_none (hg 0 cs[0] (List.getElem?_eq_getElem h0))
                  simpa [Addr.add] using this
                by_cases hl0 : len = 0
                · have h0 : 0 < rest.length := by omega
                  subst hl0; exact key rest[0] ((hrget 0 (by omega)).trans (List.getElem?_eq_getElem h0))
                · have h0 : 0 < elems.length := by omega
                  exact key elems[0] ((hget 0 (by omega)).trans (List.getElem?_eq_getElem h0))
              obtain ⟨es, bl, k, e1, e2, e3, e4⟩ := got_elems (m := m) hspot hsz (fun cs x hx hq => ihB e m cs x hn hx hq) elems 0 (fun i hi => by
                have := hget i (by omega)
                rw [hsz] at this
                simpa using this) (by simp only [blk] at hbm; omega)
              have hes : (Ev.elems (.list none (szs m) es .no)).length = es.length := rfl
              have hlen : es.length < 4611686018427387904 := by
                rw [e1]
                have hle : ∀ (l : List (DataW H × List MemPlace)), l.length ≤ blks (l.map (·.1)) := by
                  intro l
                  induction l with
                  | nil => simp
                  | cons y ys ih =>
                    have := blk_pos y.1
                    simp only [List.length_cons, List.map_cons, blks]; omega
                have := hle elems
                simp only [blk, bulkMost] at hbm
                omega
              refine ⟨[.list none (szs m) es .no], encI ((Ev.elems (.list none (szs m) es .no)).length : Nat) ++ bl ++ [], k + 1, .cons ?_ .nil, .list (.inr (.inr ⟨_, _, _, rfl⟩)) hlen e3 (.nil _), ?_⟩
              · have ha : a = ⟨a.block, a.off, none⟩ := by cases a; simp at hspot; subst hspot; rfl
                have hlen2 : len = es.length := by omega
                rw [ha, hlen2]
                refine .list (fun _ ht => by cases ht) ?_ (by omega) trivial
                rw [← hsz]
                simpa [hsz] using e2
              · have := encI_le10 (n := (es.length : Nat)) (by constructor <;> omega)
                simp only [blk, hes, List.append_nil, List.length_append]
                omega
      · rename_i fs hu
        cases hn : num t with
        | some m =>
          rw [hn] at hf
          cases hf
          obtain ⟨_, hsz, _⟩ := hT.top t m hn
          obtain ⟨vs, bs, k, g1, g2, g3⟩ := hB t m cs x hn h hbm
          obtain ⟨_, _, _, _, hl, _⟩ := DataW.trod_struct hu h
          refine ⟨vs ++ [], bs ++ [], k + 1, by simpa using g1, .sub g2 (by rw [g1.length, hl, hsz]) (.nil _), by simpa using g3⟩
        | none =>
          rw [hn] at hf
          exact hstruct d t fs _ cs x hu hf h hbm
      · cases hf

end
end Go.Ev

namespace Go.Ev
open Go.RowKit

/-- A number without a sign, from a byte on; so many bytes at most, and what has been read of it. -/
def numAt (s : List UInt8) : Nat → Nat → Nat → Option (Nat × Nat)
  | 0, _, _ => none
  | f + 1, u, i => match s[i]? with
    | none => none
    | some c => if (f = 0 ∧ 1 < c.toNat) ∨ (f < 9 ∧ c.toNat = 0) then none else
      if c.toNat < 128 then some (u + c.toNat % 128 * 128 ^ (9 - f), i + 1) else numAt s f (u + c.toNat % 128 * 128 ^ (9 - f)) (i + 1)

def unz (u : Nat) : Int := if u % 2 = 1 then -((u / 2 : Nat) : Int) - 1 else ((u / 2 : Nat) : Int)

def rdI (s : List UInt8) (i : Nat) : Option (Int × Nat) := (numAt s 10 0 i).map fun r => (unz r.1, r.2)

def rdLen (s : List UInt8) (i : Nat) : Option (Nat × Nat) := match rdI s i with
  | none => none
  | some r => if r.1 < 0 ∨ (s.length : Int) - r.2 < r.1 then none else some (r.1.toNat, r.2)

def scanL (f : Nat → Except Nat Nat) : Nat → Nat → Except Nat Nat
  | 0, i => .ok i
  | n + 1, i => match f i with
    | .error e => .error e
    | .ok j => scanL f n j

def scanF (rec : Nat → Nat → Except Nat Nat) (s : List UInt8) : List Fd → Nat → Except Nat Nat
  | [], i => .ok i
  | .int :: fs, i => match rdI s i with
    | none => .error i
    | some r => scanF rec s fs r.2
  | .str :: fs, i => match rdLen s i with
    | none => .error i
    | some r => scanF rec s fs (r.2 + r.1)
  | .bool :: fs, i => match rdI s i with
    | none => .error i
    | some r => if r.1 = 0 ∨ r.1 = 1 then scanF rec s fs r.2 else .error i
  | .list t :: fs, i => match rdLen s i with
    | none => .error i
    | some r => match scanL (rec t) r.1 r.2 with
      | .error e => .error e
      | .ok j => scanF rec s fs j
  | .sub t :: fs, i => match rec t i with
    | .error e => .error e
    | .ok j => scanF rec s fs j

/-- A struct's end, or the first byte that is not as stated. -/
def scan (s : List UInt8) : Nat → Nat → Nat → Except Nat Nat
  | 0, _, i => .error i
  | k + 1, t, i => scanF (scan s k) s (sch t) i

theorem scanF_app (rec : Nat → Nat → Except Nat Nat) (s : List UInt8) (gs : List Fd) : ∀ (fs : List Fd) (i : Nat), scanF rec s (fs ++ gs) i = (match scanF rec s fs i with | .error e => .error e | .ok j => scanF rec s gs j)
  | [], i => rfl
  | .int :: fs, i => by
    simp only [List.cons_append, scanF]
    cases rdI s i with
    | none => rfl
    | some r => exact scanF_app rec s gs fs r.2
  | .str :: fs, i => by
    simp only [List.cons_append, scanF]
    cases rdLen s i with
    | none => rfl
    | some r => exact scanF_app rec s gs fs _
  | .bool :: fs, i => by
    simp only [List.cons_append, scanF]
    cases rdI s i with
    | none => rfl
    | some r =>
      simp only
      split
      · exact scanF_app rec s gs fs r.2
      · rfl
  | .list t :: fs, i => by
    simp only [List.cons_append, scanF]
    cases rdLen s i with
    | none => rfl
    | some r =>
      simp only
      cases scanL (rec t) r.1 r.2 with
      | error e => rfl
      | ok j => exact scanF_app rec s gs fs j
  | .sub t :: fs, i => by
    simp only [List.cons_append, scanF]
    cases rec t i with
    | error e => rfl
    | ok j => exact scanF_app rec s gs fs j

/-! ### Parts of a list -/

def slc (s : List UInt8) (i j : Nat) : List UInt8 := (s.drop i).take (j - i)

theorem slc_self (s : List UInt8) (i : Nat) : slc s i i = [] := by simp [slc]
theorem slc_app {s : List UInt8} {i j k : Nat} (h1 : i ≤ j) (h2 : j ≤ k) : slc s i j ++ slc s j k = slc s i k := by
  unfold slc
  have e : k - i = (j - i) + (k - j) := by omega
  rw [e, List.take_add, List.drop_drop]
  congr 3
  omega
theorem slc_len {s : List UInt8} {i j : Nat} (h2 : j ≤ s.length) : (slc s i j).length = j - i := by
  simp [slc]; omega
theorem slc_cons {s : List UInt8} {i j : Nat} {c : UInt8} (hc : s[i]? = some c) (h : i < j) : slc s i j = c :: slc s (i + 1) j := by
  have hlt := (List.getElem?_eq_some_iff.1 hc).1
  have he := (List.getElem?_eq_some_iff.1 hc).2
  unfold slc
  rw [List.drop_eq_getElem_cons hlt, he]
  have : j - i = (j - (i + 1)) + 1 := by omega
  rw [this, List.take_succ_cons]
theorem slc_pre (a b c : List UInt8) : slc (a ++ (b ++ c)) a.length (a.length + b.length) = b := by
  simp [slc]

/-! ### Numbers -/

theorem numAt_some {s : List UInt8} : ∀ {f u i : Nat} {r : Nat × Nat}, f ≤ 10 → numAt s f u i = some r →
    ∃ w, r.1 = u + w * 128 ^ (10 - f) ∧ slc s i r.2 = vb w ∧ i < r.2 ∧ r.2 ≤ s.length ∧ (f = 10 ∨ w ≠ 0) ∧ w < 2 * 128 ^ (f - 1)
  | 0, _, _, _, _, h => by cases h
  | f + 1, u, i, r, hf, h => by
    simp only [numAt] at h
    cases hc : s[i]? with
    | none => rw [hc] at h; cases h
    | some c =>
      rw [hc] at h
      simp only at h
      have hlt := (List.getElem?_eq_some_iff.1 hc).1
      split at h
      · cases h
      · rename_i hbad
        have h256 := c.toNat_lt
        split at h
        · rename_i hs
          cases h
          have e9 : 10 - (f + 1) = 9 - f := by omega
          refine ⟨c.toNat, by rw [e9, Nat.mod_eq_of_lt hs], ?_, by simp, hlt, ?_, ?_⟩
          · simp only
            rw [slc_cons hc (by omega), slc_self, vb_lt hs]
            simp
          · by_cases h9 : f = 9
            · left; omega
            · right; omega
          · simp only [Nat.add_sub_cancel]
            by_cases h0 : f = 0
            · subst h0; simp; omega
            · have : 128 ^ f = 128 ^ (f - 1) * 128 := by rw [← Nat.pow_succ]; congr 1; omega
              have hp : 0 < 128 ^ (f - 1) := Nat.pow_pos (by omega)
              omega
        · rename_i hs
          obtain ⟨w, h1, h2, h3, h4, h5, h6⟩ := numAt_some (by omega) h
          have hf0 : f ≠ 0 := by
            rintro rfl
            simp only [numAt] at h
            cases h
          have hw : w ≠ 0 := by rcases h5 with h5 | h5 <;> omega
          have e9 : 10 - (f + 1) = 9 - f := by omega
          have e10 : 10 - f = (9 - f) + 1 := by omega
          have hwm : (c.toNat % 128 + w * 128) % 128 = c.toNat % 128 := by omega
          have hwd : (c.toNat % 128 + w * 128) / 128 = w := by omega
          refine ⟨c.toNat % 128 + w * 128, ?_, ?_, by omega, h4, .inr (by omega), ?_⟩
          · rw [h1, e9, e10, Nat.pow_succ, Nat.add_mul, Nat.add_assoc]
            congr 2
            rw [Nat.mul_assoc, Nat.mul_comm (128 ^ (9 - f)) 128]
          · rw [slc_cons hc (by omega), h2, vb_ge (n := c.toNat % 128 + w * 128) (by omega), hwm, hwd]
            congr 1
            apply UInt8.toNat.inj
            rw [UInt8.toNat_ofNat']
            omega
          · simp only [Nat.add_sub_cancel]
            have : 128 ^ f = 128 ^ (f - 1) * 128 := by rw [← Nat.pow_succ]; congr 1; omega
            omega

theorem numAt_vb {s : List UInt8} : ∀ {f u i w : Nat} {post : List UInt8}, f ≤ 10 → s.drop i = vb w ++ post → w < 2 * 128 ^ (f - 1) → 0 < f → (f = 10 ∨ w ≠ 0) →
    numAt s f u i = some (u + w * 128 ^ (10 - f), i + (vb w).length)
  | 0, _, _, _, _, _, _, _, h, _ => by omega
  | f + 1, u, i, w, post, hf, hs, hw, _, h0 => by
    have e9 : 10 - (f + 1) = 9 - f := by omega
    have hget : ∀ {c : UInt8} {r : List UInt8}, s.drop i = c :: r → s[i]? = some c ∧ s.drop (i + 1) = r := by
      intro c r h
      have : (s.drop i)[0]? = some c := by rw [h]; rfl
      rw [List.getElem?_drop] at this
      refine ⟨by simpa using this, ?_⟩
      have h2 := congrArg (List.drop 1) h
      rw [List.drop_drop] at h2
      simpa [Nat.add_comm] using h2
    simp only [Nat.add_sub_cancel] at hw
    by_cases h128 : w < 128
    · rw [vb_lt h128, List.singleton_append] at hs
      obtain ⟨g1, _⟩ := hget hs
      have hn : (UInt8.ofNat w).toNat = w := by rw [UInt8.toNat_ofNat']; omega
      simp only [numAt, g1, hn]
      rw [if_neg, if_pos h128, vb_lt h128, e9, Nat.mod_eq_of_lt h128]
      · rfl
      · rintro (⟨rfl, h⟩ | ⟨h, rfl⟩)
        · simp at hw; omega
        · rcases h0 with h0 | h0 <;> omega
    · rw [vb_ge h128, List.cons_append] at hs
      obtain ⟨g1, g2⟩ := hget hs
      have hn : (UInt8.ofNat (w % 128 + 128)).toNat = w % 128 + 128 := by rw [UInt8.toNat_ofNat']; omega
      have hf0 : f ≠ 0 := by rintro rfl; simp at hw; omega
      have hp : 128 ^ f = 128 ^ (f - 1) * 128 := by rw [← Nat.pow_succ]; congr 1; omega
      have e10 : 10 - f = (9 - f) + 1 := by omega
      simp only [numAt, g1, hn]
      rw [if_neg (by omega), if_neg (by omega), numAt_vb (w := w / 128) (by omega) g2 (by omega) (by omega) (.inr (by omega)), vb_ge h128, e9]
      congr 2
      · have : (w % 128 + 128) % 128 = w % 128 := by omega
        rw [this, e10, Nat.pow_succ, Nat.add_assoc]
        congr 1
        rw [Nat.mul_comm (128 ^ (9 - f)) 128, ← Nat.mul_assoc, ← Nat.add_mul]
        congr 1
        omega
      · simp; omega

theorem zig_unz (u : Nat) : zig (unz u) = u := by
  unfold zig unz
  by_cases h : u % 2 = 1
  · rw [if_pos h, if_neg (by omega)]; omega
  · rw [if_neg h, if_pos (by omega)]; omega

theorem unz_zig (n : Int) : unz (zig n) = n := by
  unfold zig unz
  by_cases h : 0 ≤ n
  · rw [if_pos h, if_neg (by omega)]; omega
  · rw [if_neg h, if_pos (by omega)]; omega

theorem unz_in {u : Nat} (h : u < 18446744073709551616) : in64 (unz u) := by
  unfold in64 unz
  split <;> omega

structure RdI (s : List UInt8) (i : Nat) (n : Int) (j : Nat) : Prop where
  lt : i < j
  le : j ≤ s.length
  enc : slc s i j = encI n
  n : in64 n

theorem rdI_some {s : List UInt8} {i : Nat} {r : Int × Nat} (h : rdI s i = some r) : RdI s i r.1 r.2 := by
  unfold rdI at h
  cases h1 : numAt s 10 0 i with
  | none => rw [h1] at h; cases h
  | some q =>
    rw [h1] at h
    cases h
    obtain ⟨w, h2, h3, h4, h5, _, h7⟩ := numAt_some (by omega) h1
    have e : q.1 = w := by rw [h2]; simp
    refine ⟨h4, h5, ?_, ?_⟩
    · simp only [encI, zig_unz]; rw [e]; exact h3
    · simp only; rw [e]; exact unz_in (by simp at h7; omega)

theorem rdI_enc {s : List UInt8} {i : Nat} {n : Int} {post : List UInt8} (hn : in64 n) (h : s.drop i = encI n ++ post) : rdI s i = some (n, i + (encI n).length) := by
  have hz := zig_lt hn.1 hn.2
  unfold rdI
  rw [numAt_vb (w := zig n) (by omega) h (by simp; omega) (by omega) (.inl rfl)]
  simp only [Option.map]
  congr 2
  simp [unz_zig]

theorem rdLen_some {s : List UInt8} {i : Nat} {r : Nat × Nat} (h : rdLen s i = some r) : RdI s i (r.1 : Nat) r.2 ∧ r.2 + r.1 ≤ s.length := by
  unfold rdLen at h
  cases h1 : rdI s i with
  | none => rw [h1] at h; cases h
  | some q =>
    rw [h1] at h
    simp only at h
    split at h
    · cases h
    · rename_i hb
      cases h
      have hr := rdI_some h1
      have hle := hr.le
      refine ⟨?_, by simp only; omega⟩
      have : ((q.1.toNat : Nat) : Int) = q.1 := by omega
      simp only [this]
      exact hr

theorem rdLen_enc {s : List UInt8} {i n : Nat} {post : List UInt8} (hn : n < 4611686018427387904) (h : s.drop i = encI (n : Nat) ++ post) (hl : n ≤ post.length) : rdLen s i = some (n, i + (encI (n : Nat)).length) := by
  unfold rdLen
  rw [rdI_enc (by constructor <;> omega) h]
  simp only
  rw [if_neg]
  · simp
  · have h2 := congrArg List.length h
    simp only [List.length_drop, List.length_append] at h2
    have := vb_pos (zig (n : Int))
    have : 1 ≤ (encI (n : Int)).length := this
    omega

theorem encI_pos (n : Int) : 1 ≤ (encI n).length := vb_pos _

/-! ### What has been written is read -/

def guarded : List Fd → Bool
  | .sub _ :: _ => false
  | _ => true

theorem sch_guarded : ∀ t, guarded (sch t) = true := by
  intro t
  unfold sch
  split <;> rfl

theorem EncL.len {d t : Nat} : ∀ {es : List V} {bl : List UInt8}, (∀ {cs : List V} {b : List UInt8}, EncF d (sch t) cs b → 1 ≤ b.length) → EncL d t es bl → es.length ≤ bl.length
  | _, _, _, .nil _ _ => by simp
  | _, _, H, .cons h1 h2 => by
    have := H h1
    have := EncL.len H h2
    simp; omega

theorem EncF.pos {d : Nat} {fs : List Fd} {cs : List V} {bs : List UInt8} (h : EncF d fs cs bs) (hg : guarded fs = true) (hne : fs ≠ []) : 1 ≤ bs.length := by
  cases h with
  | nil => exact absurd rfl hne
  | int hn h => have := encI_pos; simp; have := this ‹Int›; omega
  | str hs h => rename_i s _ _ _; have := encI_pos (s.length : Int); simp [encS]; omega
  | bool h => rename_i b _ _ _; have := encI_pos (if b then 1 else 0); simp only [encB, List.length_append]; omega
  | list hv hl he h => rename_i v _ _ _ _; have := encI_pos ((elems v).length : Nat); simp; omega
  | sub h1 hc h => cases hg

theorem scanL_enc {s : List UInt8} {d t k : Nat} (H : ∀ {cs : List V} {b pre post : List UInt8}, EncF d (sch t) cs b → s = pre ++ (b ++ post) → b.length ≤ k → scan s k t pre.length = .ok (pre.length + b.length)) :
    ∀ {es : List V} {bl pre post : List UInt8}, EncL d t es bl → s = pre ++ (bl ++ post) → bl.length ≤ k → scanL (scan s k t) es.length pre.length = .ok (pre.length + bl.length)
  | _, _, pre, post, .nil _ _, _, _ => rfl
  | _, _, pre, post, .cons (b1 := b1) (bs := bs) h1 h2, hs, hk => by
    simp only [List.length_append] at hk
    simp only [List.length_cons, scanL]
    rw [H h1 (post := bs ++ post) (by rw [hs, List.append_assoc]) (by omega)]
    simp only
    have := scanL_enc H h2 (pre := pre ++ b1) (post := post) (by rw [hs]; simp) (by omega)
    rw [List.length_append] at this
    rw [this, List.length_append, Nat.add_assoc]

theorem scan_enc_aux {s : List UInt8} (hsl : s.length < 4611686018427387904) : ∀ (d : Nat), (∀ d' < d, ∀ {t : Nat} {cs : List V} {b pre post : List UInt8} {k : Nat}, sch t ≠ [] → EncF d' (sch t) cs b → s = pre ++ (b ++ post) → b.length ≤ k → scan s k t pre.length = .ok (pre.length + b.length)) →
    ∀ {fs : List Fd} {cs : List V} {bs pre post : List UInt8} {k : Nat}, (∀ t, (.list t) ∈ fs → sch t ≠ []) → (∀ t, (.sub t) ∈ fs → sch t ≠ []) → EncF d fs cs bs → s = pre ++ (bs ++ post) → (bs.length ≤ k ∨ (guarded fs = true ∧ bs.length ≤ k + 1)) → scanF (scan s k) s fs pre.length = .ok (pre.length + bs.length) := by
  intro d IH fs
  induction fs with
  | nil =>
    intro cs bs pre post k _ _ h _ _
    obtain ⟨_, rfl⟩ := h.invN
    rfl
  | cons f fs ih =>
    intro cs bs pre post k hl hu h hs hk
    have hl' : ∀ t, (.list t) ∈ fs → sch t ≠ [] := fun t ht => hl t (by simp [ht])
    have hu' : ∀ t, (.sub t) ∈ fs → sch t ≠ [] := fun t ht => hu t (by simp [ht])
    have hdrop : s.drop pre.length = bs ++ post := by rw [hs]; simp
    cases f with
    | int =>
      obtain ⟨n, cs', bs', hn, rfl, rfl, h'⟩ := h.invI
      have := encI_pos n
      simp only [List.length_append] at hk
      simp only [scanF]
      rw [rdI_enc hn (post := bs' ++ post) (by rw [hdrop, List.append_assoc])]
      simp only
      have := ih (pre := pre ++ encI n) (post := post) (k := k) hl' hu' h' (by rw [hs]; simp) (.inl (by omega))
      rw [List.length_append] at this
      rw [this, List.length_append, Nat.add_assoc]
    | str =>
      obtain ⟨x, cs', bs', hx, rfl, rfl, h'⟩ := h.invS
      have := encI_pos (x.length : Int)
      simp only [List.length_append, encS] at hk
      simp only [scanF]
      rw [rdLen_enc (n := x.length) (post := x ++ (bs' ++ post)) hx (by rw [hdrop]; simp [encS]) (by simp)]
      simp only
      have := ih (pre := pre ++ encS x) (post := post) (k := k) hl' hu' h' (by rw [hs]; simp) (.inl (by omega))
      simp only [List.length_append, encS] at this
      rw [show pre.length + (encI ((x.length : Nat) : Int)).length + x.length = pre.length + ((encI ((x.length : Nat) : Int)).length + x.length) by omega, this]
      simp only [List.length_append, encS]
      congr 1; omega
    | bool =>
      obtain ⟨q, cs', bs', rfl, rfl, h'⟩ := h.invB
      have := encI_pos (if q then 1 else 0)
      simp only [List.length_append, encB] at hk
      simp only [scanF]
      rw [rdI_enc (n := if q then 1 else 0) (post := bs' ++ post) (by cases q <;> constructor <;> simp) (by rw [hdrop]; simp [encB])]
      simp only
      rw [if_pos (by cases q <;> simp)]
      have := ih (pre := pre ++ encB q) (post := post) (k := k) hl' hu' h' (by rw [hs]; simp) (.inl (by omega))
      simp only [List.length_append, encB] at this ⊢
      rw [this]
      congr 1; omega
    | list t =>
      obtain ⟨d', v, bl, cs', bs', hd, hv, hvl, hel, rfl, rfl, h'⟩ := h.invL
      have := encI_pos ((elems v).length : Nat)
      have hne := hl t (by simp)
      have hll := EncL.len (fun h => h.pos (sch_guarded t) hne) hel
      simp only [List.length_append] at hk
      simp only [scanF]
      rw [rdLen_enc (n := (elems v).length) (post := bl ++ (bs' ++ post)) hvl (by rw [hdrop]; simp) (by simp; omega)]
      simp only
      have h1 := scanL_enc (k := k) (fun h hs hk => IH d' hd hne h hs hk) hel (pre := pre ++ encI ((elems v).length : Nat)) (post := bs' ++ post) (by rw [hs]; simp) (by omega)
      rw [List.length_append] at h1
      rw [h1]
      simp only
      have := ih (pre := pre ++ encI ((elems v).length : Nat) ++ bl) (post := post) (k := k) hl' hu' h' (by rw [hs]; simp) (.inl (by omega))
      simp only [List.length_append] at this ⊢
      rw [this]
      congr 1; omega
    | sub t =>
      obtain ⟨d', c1, b1, cs', bs', hd, h1, hc1, rfl, rfl, h'⟩ := h.invT
      have hne := hu t (by simp)
      have hp := h1.pos (sch_guarded t) hne
      simp only [List.length_append] at hk
      simp only [scanF]
      have hk' : b1.length + bs'.length ≤ k := by
        rcases hk with hk | ⟨hk, _⟩
        · exact hk
        · cases hk
      rw [IH d' hd hne h1 (pre := pre) (post := bs' ++ post) (by rw [hs]; simp) (by omega)]
      simp only
      have := ih (pre := pre ++ b1) (post := post) (k := k) hl' hu' h' (by rw [hs]; simp) (.inl (by omega))
      simp only [List.length_append] at this ⊢
      rw [this]
      congr 1; omega

theorem sch_list {u t : Nat} (h : (Fd.list t) ∈ sch u) : sch t ≠ [] := by
  unfold sch at h
  split at h <;> simp at h
  all_goals first
    | (subst h; simp [sch]; done)
    | (rcases h with rfl | rfl <;> simp [sch]; done)
    | (rcases h with rfl | rfl | rfl <;> simp [sch])

theorem sch_sub {u t : Nat} (h : (Fd.sub t) ∈ sch u) : sch t ≠ [] := by
  unfold sch at h
  split at h <;> simp at h
  all_goals (subst h; simp [sch])

/-- What has been written of a struct is read to its end. -/
theorem scan_enc {s : List UInt8} (hsl : s.length < 4611686018427387904) : ∀ (d : Nat) {t : Nat} {cs : List V} {b pre post : List UInt8} {k : Nat}, sch t ≠ [] → EncF d (sch t) cs b → s = pre ++ (b ++ post) → b.length ≤ k → scan s k t pre.length = .ok (pre.length + b.length) := by
  intro d
  induction d using Nat.strongRecOn with
  | _ d IH =>
    intro t cs b pre post k hne h hs hk
    have hp := h.pos (sch_guarded t) hne
    cases k with
    | zero => omega
    | succ k =>
      exact scan_enc_aux hsl d (fun d' hd => fun hne h hs hk => IH d' hd hne h hs hk) (fun t h => sch_list h) (fun t h => sch_sub h) h hs (.inr ⟨sch_guarded t, hk⟩)

/-! ### Deeper, and one behind the other -/

theorem EncL.mono {d d' t : Nat} (H : ∀ {cs : List V} {b : List UInt8}, EncF d (sch t) cs b → EncF d' (sch t) cs b) : ∀ {es : List V} {bl : List UInt8}, EncL d t es bl → EncL d' t es bl
  | _, _, .nil _ _ => .nil _ _
  | _, _, .cons h1 h2 => .cons (H h1) (EncL.mono H h2)

theorem EncF.mono : ∀ (d : Nat) {fs : List Fd} {cs : List V} {bs : List UInt8} {d' : Nat}, d ≤ d' → EncF d fs cs bs → EncF d' fs cs bs := by
  intro d
  induction d using Nat.strongRecOn with
  | _ d IH =>
    intro fs
    induction fs with
    | nil =>
      intro cs bs d' _ h
      obtain ⟨rfl, rfl⟩ := h.invN
      exact .nil _
    | cons f fs ih =>
      intro cs bs d' hd h
      cases h with
      | int hn h => exact .int hn (ih hd h)
      | str hn h => exact .str hn (ih hd h)
      | bool h => exact .bool (ih hd h)
      | list hv hl he h =>
        rename_i e _ _ _ _ _
        obtain ⟨e', rfl⟩ : ∃ e', d' = e' + 1 := ⟨d' - 1, by omega⟩
        exact .list hv hl (EncL.mono (fun h => IH e (by omega) (by omega) h) he) (ih hd h)
      | sub h1 hc h =>
        rename_i e _ _ _ _ _
        obtain ⟨e', rfl⟩ : ∃ e', d' = e' + 1 := ⟨d' - 1, by omega⟩
        exact .sub (IH e (by omega) (by omega) h1) hc (ih hd h)

theorem EncF.app {d : Nat} {gs : List Fd} {ds : List V} {es : List UInt8} (k : EncF d gs ds es) : ∀ {fs : List Fd} {cs : List V} {bs : List UInt8}, EncF d fs cs bs → EncF d (fs ++ gs) (cs ++ ds) (bs ++ es)
  | [], cs, bs, h => by
    obtain ⟨rfl, rfl⟩ := h.invN
    exact k
  | f :: fs, cs, bs, h => by
    cases h with
    | int hn h => rw [List.append_assoc]; exact .int hn (EncF.app k h)
    | str hn h => rw [List.append_assoc]; exact .str hn (EncF.app k h)
    | bool h => rw [List.append_assoc]; exact .bool (EncF.app k h)
    | list hv hl he h => rw [List.append_assoc]; exact .list hv hl he (EncF.app k h)
    | sub h1 hc h => rw [List.append_assoc, List.append_assoc]; exact .sub h1 hc (EncF.app k h)

/-- These cells are written as those bytes. -/
def Enc (fs : List Fd) (cs : List V) (bs : List UInt8) : Prop := ∃ d, EncF d fs cs bs

theorem Enc.nil : Enc [] [] [] := ⟨0, .nil 0⟩
theorem Enc.app {fs gs : List Fd} {cs ds : List V} {bs es : List UInt8} (h : Enc fs cs bs) (k : Enc gs ds es) : Enc (fs ++ gs) (cs ++ ds) (bs ++ es) := by
  obtain ⟨d, h⟩ := h
  obtain ⟨e, k⟩ := k
  exact ⟨max d e, EncF.app (EncF.mono e (by omega) k) (EncF.mono d (by omega) h)⟩
theorem Enc.int {n : Int} (hn : in64 n) : Enc [.int] [.int .i64 n] (encI n) := ⟨0, by simpa using EncF.int hn (.nil 0)⟩
theorem Enc.str {s : List UInt8} (hs : s.length < 4611686018427387904) : Enc [.str] [.str s] (encS s) := ⟨0, by simpa using EncF.str hs (.nil 0)⟩
theorem Enc.bool (b : Bool) : Enc [.bool] [.bool b] (encB b) := ⟨0, by simpa using EncF.bool (b := b) (.nil 0)⟩
theorem Enc.sub {t : Nat} {cs : List V} {bs : List UInt8} (h : Enc (sch t) cs bs) (hc : cs.length = szs t) : Enc [.sub t] cs bs := by
  obtain ⟨d, h⟩ := h
  exact ⟨d + 1, by simpa using EncF.sub h hc (.nil (d + 1))⟩

/-- Elements one behind the other. -/
def EncE (t : Nat) (es : List V) (bl : List UInt8) : Prop := ∃ d, EncL d t es bl
theorem EncL.snoc {d t : Nat} {e : V} {b : List UInt8} (h : EncF d (sch t) e.cells b) : ∀ {es : List V} {bl : List UInt8}, EncL d t es bl → EncL d t (es ++ [e]) (bl ++ b)
  | _, _, .nil _ _ => by simpa using EncL.cons h (.nil d t)
  | _, _, .cons h1 h2 => by rw [List.append_assoc]; exact .cons h1 (EncL.snoc h h2)
theorem EncE.nil (t : Nat) : EncE t [] [] := ⟨0, .nil 0 t⟩
theorem EncE.snoc {t : Nat} {e : V} {b bl : List UInt8} {es : List V} (k : EncE t es bl) (h : Enc (sch t) e.cells b) : EncE t (es ++ [e]) (bl ++ b) := by
  obtain ⟨d, k⟩ := k
  obtain ⟨d', h⟩ := h
  exact ⟨max d d', EncL.snoc (EncF.mono d' (by omega) h) (EncL.mono (fun h => EncF.mono d (by omega) h) k)⟩
theorem Enc.list {t : Nat} {v : V} {bl : List UInt8} (hv : isLn (szs t) v) (hl : (elems v).length < 4611686018427387904) (he : EncE t (elems v) bl) : Enc [.list t] [v] (encI ((elems v).length : Nat) ++ bl) := by
  obtain ⟨d, he⟩ := he
  exact ⟨d + 1, by simpa using EncF.list hv hl he (.nil (d + 1))⟩

theorem scanF_err {rec : Nat → Nat → Except Nat Nat} {s : List UInt8} {fs full : List Fd} {i b : Nat} (h : scanF rec s fs i = .error b) (gs : List Fd) (hf : full = fs ++ gs) : scanF rec s full i = .error b := by
  rw [hf, scanF_app, h]

theorem scanF_sub (rec : Nat → Nat → Except Nat Nat) (s : List UInt8) (t i : Nat) : scanF rec s [.sub t] i = rec t i := by
  simp only [scanF]
  cases rec t i <;> rfl

/-- A list's scan, from the middle. -/
theorem scanL_snoc (f : Nat → Except Nat Nat) : ∀ (n i j : Nat), scanL f n i = .ok j → scanL f (n + 1) i = f j
  | 0, i, j, h => by
    cases h
    simp only [scanL]
    cases f i <;> rfl
  | n + 1, i, j, h => by
    rw [scanL] at h ⊢
    cases hf : f i with
    | error e => rw [hf] at h; cases h
    | ok a =>
      rw [hf] at h
      exact scanL_snoc f n a j h
theorem scanL_err (f : Nat → Except Nat Nat) (m : Nat) : ∀ (n i b : Nat), scanL f n i = .error b → scanL f (n + m) i = .error b
  | 0, i, b, h => by cases h
  | n + 1, i, b, h => by
    rw [show n + 1 + m = (n + m) + 1 by omega]
    rw [scanL] at h ⊢
    cases hf : f i with
    | error e => rw [hf] at h; exact h
    | ok a =>
      rw [hf] at h
      exact scanL_err f m n a b h

/-! ### Cells in the middle -/

theorem splice_mid {A B : List V} {z v : V} {o : Nat} (ho : o = A.length) : splice (A ++ z :: B) o [v] = some (A ++ v :: B) := by
  subst ho
  unfold splice
  rw [if_pos (Nat.ble_eq_true_of_le (by simp))]
  simp

theorem pt_mid {S : St} {x : Nat} {T : TypeId} {A B : List V} {z : V} {o : Nat} (ho : o = A.length) (h : S.h.find x = some (.box T (A ++ z :: B))) : Pt S (.ptr x o) [z] := by
  subst ho
  refine ⟨_, _, h, fun i v hv => ?_⟩
  cases i with
  | zero => simp at hv; subst hv; simp
  | succ i => simp at hv

/-- A struct's cells as they are before anything has been read. -/
def zc : Nat → List V
  | 0 => [.int .i64 0]
  | 1 => [.str []]
  | 2 => [.int .i64 0, .int .i64 0, .str [], .nils, .nils]
  | 3 => [.int .i64 0, .str [], .int .i64 0, .nils, .nils]
  | 4 => [.int .i64 0, .int .i64 0, .nils, .nils]
  | 5 => [.int .i64 0, .int .i64 0, .str [], .nils, .nils, .int .i64 0]
  | 6 => [.str [], .int .i64 0]
  | 7 => [.str [], .nils, .nils]
  | 8 => [.str [], .nils]
  | 9 => [.str [], .nils]
  | 10 => [.str [], .int .i64 0, .int .i64 0, .str [], .nils, .nils, .int .i64 0, .int .i64 0, .int .i64 0, .str [], .nils, .nils, .int .i64 0, .bool false]
  | 11 => [.int .i64 0, .int .i64 0, .str [], .str [], .nils, .nils, .nils]
  | 12 => [.str [], .nils, .int .i64 0, .int .i64 0, .str [], .str [], .nils, .nils, .nils]
  | 13 => [.str [], .int .i64 0, .int .i64 0, .str [], .str [], .nils, .nils, .nils]
  | 14 => [.nils, .nils, .nils, .int .i64 0, .int .i64 0, .str [], .str [], .nils, .nils, .nils]
  | 15 => [.nils, .nils, .nils]
  | 16 => [.int .i64 0, .int .i64 0, .int .i64 0, .bool false, .nils]
  | 17 => [.int .i64 0, .int .i64 0, .int .i64 0, .str []]
  | 18 => [.str [], .int .i64 0, .int .i64 0]
  | 19 => [.int .i64 0, .str [], .nils, .int .i64 0, .int .i64 0, .int .i64 0]
  | 20 => [.nils, .nils, .int .i64 0, .int .i64 0, .str [], .nils, .int .i64 0, .int .i64 0, .int .i64 0, .bool false]
  | _ => []

theorem zc_len : ∀ t, (zc t).length = szs t
  | 0 => rfl
  | 1 => rfl
  | 2 => rfl
  | 3 => rfl
  | 4 => rfl
  | 5 => rfl
  | 6 => rfl
  | 7 => rfl
  | 8 => rfl
  | 9 => rfl
  | 10 => rfl
  | 11 => rfl
  | 12 => rfl
  | 13 => rfl
  | 14 => rfl
  | 15 => rfl
  | 16 => rfl
  | 17 => rfl
  | 18 => rfl
  | 19 => rfl
  | 20 => rfl
  | _ + 21 => rfl

theorem zc_ones : ∀ t, (zc t).all V.one = true
  | 0 => rfl
  | 1 => rfl
  | 2 => rfl
  | 3 => rfl
  | 4 => rfl
  | 5 => rfl
  | 6 => rfl
  | 7 => rfl
  | 8 => rfl
  | 9 => rfl
  | 10 => rfl
  | 11 => rfl
  | 12 => rfl
  | 13 => rfl
  | 14 => rfl
  | 15 => rfl
  | 16 => rfl
  | 17 => rfl
  | 18 => rfl
  | 19 => rfl
  | 20 => rfl
  | _ + 21 => rfl

theorem lss_yes {i n : Nat} (h : i < n) : intOp .lss .i64 (i : Int) (n : Int) = some (.bool true) := by
  simp only [intOp]; rw [decide_eq_true (by omega)]
theorem lss_no {i n : Nat} (h : ¬ i < n) : intOp .lss .i64 (i : Int) (n : Int) = some (.bool false) := by
  simp only [intOp]; rw [decide_eq_false (by omega)]
theorem EncF.len : ∀ {d : Nat} {fs : List Fd} {cs : List V} {bs : List UInt8}, EncF d fs cs bs → cs.length = (fs.map fun f => match f with | .sub t => szs t | _ => 1).sum
  | _, _, _, _, .nil _ => rfl
  | _, _, _, _, .int _ h => by simp [EncF.len h]; omega
  | _, _, _, _, .str _ h => by simp [EncF.len h]; omega
  | _, _, _, _, .bool h => by simp [EncF.len h]; omega
  | _, _, _, _, .list _ _ _ h => by simp [EncF.len h]; omega
  | _, _, _, _, .sub _ hc h => by simp [EncF.len h, hc]

theorem EncL.drop {d t : Nat} : ∀ {es : List V} {bs : List UInt8}, EncL d t es bs → ∀ {e : V} {es' : List V}, es = e :: es' → ∃ b1 b2, bs = b1 ++ b2 ∧ EncF d (sch t) e.cells b1 ∧ EncL d t es' b2
  | _, _, .cons h1 h2, _, _, rfl => ⟨_, _, rfl, h1, h2⟩

theorem EncL.nil_inv {d t : Nat} {bs : List UInt8} (h : EncL d t [] bs) : bs = [] := by cases h; rfl

theorem EncF.ones : ∀ {d : Nat} {fs : List Fd} {cs : List V} {bs : List UInt8}, EncF d fs cs bs → cs.all V.one = true
  | _, _, _, _, .nil _ => rfl
  | _, _, _, _, .int _ h => by simp [V.one, EncF.ones h]
  | _, _, _, _, .str _ h => by simp [V.one, EncF.ones h]
  | _, _, _, _, .bool h => by simp [V.one, EncF.ones h]
  | _, _, _, _, .list hv _ _ h => by
    rcases hv with rfl | rfl | ⟨lt, es, tk, rfl⟩ <;> simp [V.one, EncF.ones h]
  | _, _, _, _, .sub h1 _ h => by simp [EncF.ones h1, EncF.ones h]

end Go.Ev

