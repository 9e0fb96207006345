/-
  Ev, part 16: a region that draws its order, in whatever order.
-/
import Derived.Test.YtilldjgagokcfaaGreatEvInv
set_option linter.unusedVariables false
set_option linter.unusedSimpArgs false
namespace Go.Ev
open Go.RowKit

theorem dstOk_spec {ms : List Nat} {ops : Array Oper} (h : dstOk ms ops = true) {i k : Nat} {o' o : Oper} (hi : ops[i]? = some o') (hk : ops[k]? = some o) (hne : i ≠ k) {d : Tmp} (hd : o'.dst = some d) :
    o.dst ≠ some d ∧ (d ∈ looks ops o → ancOf ms i k = true ∨ ancOf ms k i = true) := by
  unfold dstOk at h
  simp only [List.all_eq_true] at h
  have m1 : (o', i) ∈ ops.toList.zipIdx := by rw [List.mem_zipIdx_iff_getElem?]; simpa using hi
  have m2 : (o, k) ∈ ops.toList.zipIdx := by rw [List.mem_zipIdx_iff_getElem?]; simpa using hk
  have h1 := h (o', i) m1
  simp only [hd, List.all_eq_true] at h1
  have h2 := h1 (o, k) m2
  simp only [Bool.or_eq_true, Bool.and_eq_true, Bool.not_eq_true', bne_iff_ne] at h2
  rcases h2 with h2 | ⟨h2, h3⟩
  · exact absurd (Nat.eq_of_beq_eq_true h2) hne
  · refine ⟨h2, fun hm => ?_⟩
    rcases h3 with (h3 | h3) | h3
    · rw [List.contains_iff_mem.2 hm] at h3; cases h3
    · exact .inl h3
    · exact .inr h3

section
variable {rec : Rec} {P : Program} {ops : Array Oper} {S0 : St} {fr0 : Fr} {T : List En} {N fx1 fx2 : Nat} {D : Nat → Bool}

structure Ctx (rec : Rec) (P : Program) (ops : Array Oper) (S0 : St) (fr0 : Fr) (T : List En) (N fx1 fx2 : Nat) : Prop where
  hl : LeOk rec
  edges : edgesOk ops = true
  dst : dstOk (masks ops.toList []) ops = true
  tra : ∃ fr S, Tra rec P ops S0 fr0 T fr S ∧ S.next ≤ N
  fresh : ∀ id, S0.next ≤ id → id < N → S0.h.find id = none
  fxo : ∀ e ∈ T, e.hi ≤ fx1 ∨ fx2 ≤ e.lo
  low : S0.next ≤ N

structure Inv (base : Nat) (w₀ : World) (σ0 : Sg) (w1 : World) (S0 : St) (fr0 : Fr) (T : List En) (N fx1 fx2 : Nat) (D : Nat → Bool) (σ : Sg) (a : Act) (w : World) : Prop where
  rel : RelF none2 base w₀ σ (hd D S0.h.find T) w
  hs : HS S0.next N σ0 S0.h.find w1 σ (hd D S0.h.find T) w
  free : ∀ e ∈ T, D e.i = false → Free σ e.lo e.hi
  fx : Free σ fx1 fx2
  n : a.tmps.size = fr0.n
  ds : DsR σ fr0.ds a.defers
  t1 : ∀ e ∈ T, D e.i = true → ∀ d, e.o.dst = some d → ∃ y, a.tmps[d]? = some y ∧ VR σ e.v y
  t0 : ∀ t v, fr0.t.find t = some v → (∀ e ∈ T, D e.i = true → e.o.dst ≠ some t) → ∃ y, a.tmps[t]? = some y ∧ VR σ v y

theorem Tra.op (hl : LeOk rec) {fr : Fr} {S : St} (h : Tra rec P ops S0 fr0 T fr S) {e : En} (he : e ∈ T) : ops[e.i]? = some e.o := by
  obtain ⟨R, T1, rfl⟩ := List.append_of_mem he
  obtain ⟨_, _, _, f, _⟩ := h.split hl rfl
  exact f.ho

theorem Tra.pre (hl : LeOk rec) {fr : Fr} {S : St} (h : Tra rec P ops S0 fr0 T fr S) {e : En} (he : e ∈ T) {j : Nat} (hj : anc ops j e.i = true) : j ∈ idx T := by
  obtain ⟨R, T1, rfl⟩ := List.append_of_mem he
  obtain ⟨_, _, _, f, _⟩ := h.split hl rfl
  have := f.ha j hj
  simp only [idx, List.map_append, List.mem_append, List.map_cons, List.mem_cons]
  exact .inr (.inr this)

variable {base : Nat} {w₀ w w1 : World} {σ σ0 : Sg} {a : Act} {b : Frame} {k : List Item} {cs : List Frame} {rest : List Nat}

/-- What an operation looks at, stands in the frame. -/
theorem view_tmp (C : Ctx rec P ops S0 fr0 T N fx1 fx2) (I : Inv base w₀ σ0 w1 S0 fr0 T N fx1 fx2 D σ a w) (hcl : Closed ops D) {R T1 : List En} (hT : T = R ++ T1) {fr1 : Fr} {S1 : St} (h1 : Tra rec P ops S0 fr0 T1 fr1 S1)
    {m : Nat} {o : Oper} (ho : ops[m]? = some o) (ha : ∀ j, anc ops j m = true → j ∈ idx T1) (hm1 : m ∉ idx T1) (hDm : D m = false) (hanc : ∀ j, anc ops j m = true → D j = true) :
    ∀ t ∈ looks ops o, ∀ u, fr1.t.find t = some u → ∃ y, a.tmps[t]? = some y ∧ VR σ u y := by
  intro t ht u hu
  obtain ⟨fr, S, hTra, hN⟩ := C.tra
  have hmem : ∀ e ∈ T1, e ∈ T := fun e he => by rw [hT]; exact List.mem_append_right _ he
  rcases h1.look hu with ⟨e', g1, g2, rfl⟩ | ⟨g1, g2⟩
  · have hne : e'.i ≠ m := fun h => hm1 (by rw [← h]; exact List.mem_map.2 ⟨e', g1, rfl⟩)
    obtain ⟨_, q⟩ := dstOk_spec C.dst (h1.op C.hl g1) ho hne g2
    rcases q ht with q | q
    · exact I.t1 e' (hmem e' g1) (hanc _ q) t g2
    · exact absurd (h1.pre C.hl g1 q) hm1
  · refine I.t0 t u g2 fun e' he' hDe hd => ?_
    have hne : e'.i ≠ m := fun h => by rw [h, hDm] at hDe; cases hDe
    obtain ⟨_, q⟩ := dstOk_spec C.dst (hTra.op C.hl he') ho hne hd
    rcases q ht with q | q
    · obtain ⟨e'', x1, x2⟩ := List.mem_map.1 (ha _ q)
      have := idx_inj hTra.nodup (hmem e'' x1) he' x2
      subst this
      exact g1 e'' x1 hd
    · have hlt : e'.i < ops.size := (Array.getElem?_eq_some_iff.1 (hTra.op C.hl he')).1
      rw [hcl.anc C.edges hDe hlt q] at hDm; cases hDm

theorem view_sound {fr : Fr} {l : List Tmp} (h : ∀ t ∈ l, ∀ u, fr.t.find t = some u → ∃ y, a.tmps[t]? = some y ∧ VR σ u y) : ∀ x u, viewE fr l x = some u → VR σ u (a.eval x) := by
  intro x u hu
  cases x with
  | tmp t =>
    simp only [viewE] at hu
    split at hu
    · rename_i hc
      obtain ⟨y, h1, h2⟩ := h t (List.contains_iff_mem.1 hc) u hu
      have : a.eval (.tmp t) = y := by simp [Act.eval, h1]
      rwa [this]
    · cases hu
  | const v => exact ofVal_sound σ _ _ _ hu
  | global g => simp [viewE, Fr.opd] at hu
  | func f =>
    simp [viewE, Fr.opd] at hu
    subst hu
    exact VR.func (vs := []) (ws := []) .nil .nil

theorem view_want {fr : Fr} {o : Oper} (h : ∀ t ∈ looks ops o, ∀ u, fr.t.find t = some u → ∃ y, a.tmps[t]? = some y ∧ VR σ u y) {c : Bool} (hw : wantE ops o fr = some c) : Region.wanted o (yielded ops a.tmps) = c := by
  unfold wantE at hw
  unfold Region.wanted
  split at hw
  · rename_i hg; rw [hg]; cases hw; rfl
  · rename_i j want hg
    rw [hg]
    simp only
    split at hw
    · cases hw
    · rename_i d hd
      have hm : d ∈ looks ops o := by
        unfold looks Oper.looksAt
        rw [hg]
        simp only
        rw [hd]
        simp
      unfold yielded
      rw [hd]
      simp only [Option.bind_some]
      split at hw
      · rename_i b' hf
        obtain ⟨y, h1, h2⟩ := h d hm _ hf
        cases h2
        cases hw
        rw [h1]
        cases b' <;> cases want <;> rfl
      · rename_i hf
        obtain ⟨y, h1, h2⟩ := h d hm _ hf
        cases hw
        rw [h1]
        cases h2
        cases want <;> rfl
      · cases hw

theorem mildE_cases {ms : List Nat} {i : Nat} {o : Oper} {v : V} {ob : Option Ob} {fr : Fr} {S : St} (h : mildE P ops ms S0 i o T fr S = some (v, ob)) (rec : Rec) (pan : Pan) :
    (wantE ops o fr = some false ∧ v = .tup [] ∧ ob = none) ∨
    (wantE ops o fr = some true ∧
      ((ob = none ∧ ∀ U, actE rec P o.op (viewE fr (looks ops o)) pan U = some (.val v U)) ∨
       (∃ t cs, ob = some (.box t cs) ∧ ∀ U, U.next = S.next → actE rec P o.op (viewE fr (looks ops o)) pan U = some (.val v (U.new (.box t cs)))) ∨
       (ob = none ∧ clsE o.op = 2 ∧ sameE P ms i o.op (viewE fr (looks ops o)) v S0 T [] = true))) := by
  unfold mildE at h
  split at h
  · cases h
  · rename_i hw; cases h; exact .inl ⟨hw, rfl, rfl⟩
  · rename_i hw
    refine .inr ⟨hw, ?_⟩
    split at h
    · cases h
    · rename_i u S' hop
      split at h
      · rename_i hc
        cases h
        exact .inl ⟨rfl, fun U => act_of_op (by omega) (cls0 hc hop U)⟩
      · rename_i hc
        obtain ⟨k1, k2⟩ := cls1 hc hop
        split at h
        · rename_i hn
          cases h
          exact .inl ⟨rfl, fun U => act_of_op (by omega) (k1 (Nat.eq_of_beq_eq_true hn) U)⟩
        · rename_i hn
          split at h
          · rename_i t cs hb
            cases h
            exact .inr (.inl ⟨t, cs, rfl, fun U hU => act_of_op (by omega) (k2 t cs hb (fun e => hn (by rw [e]; exact Nat.beq_refl _)) U hU)⟩)
          · cases h
      · rename_i hc
        split at h
        · rename_i hs; cases h; exact .inr (.inr ⟨rfl, hc, hs⟩)
        · cases h
      · cases h

theorem sameAt_act {op : Op} {ev : Operand → Option V} {v : V} {U : St} {pan : Pan} (hc : clsE op = 2) (h : sameAt P op ev v U = true) : actE rec P op ev pan U = some (.val v U) := by
  unfold sameAt at h
  split at h
  · rename_i u U' ho
    have := V.beq_eq h
    subst this
    have := cls2 hc ho
    subst this
    exact act_of_op (by omega) ho
  · cases h

/-- An operation has been carried out. -/
theorem Inv.add (C : Ctx rec P ops S0 fr0 T N fx1 fx2) (I : Inv base w₀ σ0 w1 S0 fr0 T N fx1 fx2 D σ a w) {e : En} (he : e ∈ T) (hD : D e.i = false) {σ' : Sg} {w' : World} {r : Value} (hv : VR σ' e.v r)
    (hR : RelF none2 base w₀ σ' (hd (fun j => D j || j == e.i) S0.h.find T) w') (hS : HS e.lo e.hi σ (hd D S0.h.find T) w σ' (hd (fun j => D j || j == e.i) S0.h.find T) w') :
    Inv base w₀ σ0 w1 S0 fr0 T N fx1 fx2 (fun j => D j || j == e.i) σ' (a.put e.o.dst r) w' := by
  obtain ⟨fr, S, hTra, hN⟩ := C.tra
  obtain ⟨l1, l2, l3⟩ := hTra.range C.hl he
  have keepT : ∀ t, e.o.dst ≠ some t → (a.put e.o.dst r).tmps[t]? = a.tmps[t]? := by
    intro t ht
    cases hd : e.o.dst with
    | none => rfl
    | some d =>
      simp only [Act.put]
      rw [Array.getElem?_setIfInBounds_ne (fun h => ht (by rw [hd, h]))]
  refine ⟨hR, I.hs.trans (hS.wide l1 (Nat.le_trans l3 hN)), ?_, ?_, ?_, ?_, ?_, ?_⟩
  · intro e' he' hDe'
    simp only [Bool.or_eq_false_iff, beq_eq_false_iff_ne] at hDe'
    have hap := hTra.apart C.hl he' he hDe'.2
    intro id q1 q2
    cases hk : σ'.ρ id with
    | none => rfl
    | some x =>
      have h0 := I.free e' he' hDe'.1 id q1 q2
      obtain ⟨z1, z2, _⟩ := hS.newK id x h0 hk
      omega
  · intro id q1 q2
    cases hk : σ'.ρ id with
    | none => rfl
    | some x =>
      have h0 := I.fx id q1 q2
      obtain ⟨z1, z2, _⟩ := hS.newK id x h0 hk
      have := C.fxo e he
      omega
  · rw [← I.n]; cases e.o.dst <;> simp [Act.put]
  · have : (a.put e.o.dst r).defers = a.defers := by cases e.o.dst <;> rfl
    rw [this]
    exact I.ds.mono hS.le
  · intro e' he' hDe' d hd
    by_cases hi : e'.i = e.i
    · have := idx_inj hTra.nodup he' he hi
      subst this
      have hlt := hTra.dst_lt e' he d hd
      refine ⟨r, ?_, hv⟩
      rw [hd]
      simp [Act.put, I.n, hlt]
    · have hDe : D e'.i = true := by
        simp only [Bool.or_eq_true, beq_iff_eq] at hDe'
        exact hDe'.resolve_right hi
      obtain ⟨y, y1, y2⟩ := I.t1 e' he' hDe d hd
      have hne := (dstOk_spec C.dst (hTra.op C.hl he') (hTra.op C.hl he) hi hd).1
      exact ⟨y, by rw [keepT d hne]; exact y1, y2.mono hS.le⟩
  · intro t v ht hno
    obtain ⟨y, y1, y2⟩ := I.t0 t v ht fun e' he' hDe' => hno e' he' (by rw [hDe']; rfl)
    exact ⟨y, by rw [keepT t (hno e he (by simp))]; exact y1, y2.mono hS.le⟩

theorem step_any (hG : Good P) (hrec : CallOk P rec) (C : Ctx rec P ops S0 fr0 T N fx1 fx2) (hcl : Closed ops D) (I : Inv base w₀ σ0 w1 S0 fr0 T N fx1 fx2 D σ a w) (hp : PanR σ0 fr0.pan b cs) (hro : b.roundOf = none)
    {e : En} (he : e ∈ T) (hD : D e.i = false) (hr : ∀ ed ∈ e.o.after, Region.binds .any ed = true → D ed.on = true) :
    ∃ r w' σ', Steps P (lone (b.at a (.inRegion ops (e.i :: rest) :: k)) cs w) (lone (b.at (a.put e.o.dst r) (.inRegion ops rest :: k)) cs w') ∧
      Inv base w₀ σ0 w1 S0 fr0 T N fx1 fx2 (fun j => D j || j == e.i) σ' (a.put e.o.dst r) w' := by
  obtain ⟨fr, S, hTra, hN⟩ := C.tra
  obtain ⟨R, T1, hT⟩ := List.append_of_mem he
  obtain ⟨fr1, S1, h1, f, f3, f4⟩ := hTra.split C.hl hT
  obtain ⟨l1, l2, l3⟩ := hTra.range C.hl he
  have hop := f.ho
  have hanc : ∀ j, anc ops j e.i = true → D j = true := fun j hj => anc_closed C.edges hcl e.i hop hr hj
  have hRne : ∀ e' ∈ R, e'.i ≠ e.i := fun e' he' h => by
    have hnd := hTra.nodup
    rw [hT] at hnd
    simp only [idx, List.map_append, List.map_cons] at hnd
    have := (List.nodup_append.1 hnd).2.2 e'.i (List.mem_map.2 ⟨e', he', rfl⟩) e.i List.mem_cons_self
    exact this h
  have hT1ne : ∀ e' ∈ T1, e'.i ≠ e.i := fun e' he' h => f.hn (by rw [← h]; exact List.mem_map.2 ⟨e', he', rfl⟩)
  -- none of class 3 behind it has been carried out
  have hRD : ∀ e' ∈ R, D e'.i = true → e'.isMild = true := by
    intro e' he' hDe
    obtain ⟨R1, R2, hR⟩ := List.append_of_mem he'
    have hT' : T = R1 ++ e' :: (R2 ++ e :: T1) := by rw [hT, hR]; simp
    obtain ⟨_, _, _, f', _⟩ := hTra.split C.hl hT'
    cases f' with
    | mild => rfl
    | act ho hw hx ha hn hb =>
      exfalso
      have hq := hb e.i (by simp)
      have hlt := (Array.getElem?_eq_some_iff.1 ho).1
      rw [hcl.anc C.edges hDe hlt hq] at hD
      cases hD
  have hcR : ∀ e' ∈ R, D e'.i = (fun j => D j || j == e.i) e'.i := fun e' he' => by
    have : (e'.i == e.i) = false := by simpa using hRne e' he'
    simp [this]
  have hcT : ∀ e' ∈ T1, D e'.i = (fun j => D j || j == e.i) e'.i := fun e' he' => by
    have : (e'.i == e.i) = false := by simpa using hT1ne e' he'
    simp [this]
  have hD' : (fun j => D j || j == e.i) e.i = true := by simp
  have hRD' : ∀ e' ∈ R, (fun j => D j || j == e.i) e'.i = true → e'.isMild = true := fun e' he' h => hRD e' he' (by rw [hcR e' he']; exact h)
  have hview := view_tmp C I hcl (R := R ++ [e]) (T1 := T1) (by rw [hT]; simp) h1 hop f.ha f.hn hD hanc
  have hev := view_sound hview
  have hpan : fr1.pan = fr0.pan := h1.same.1
  have hpσ : PanR σ fr1.pan b cs := by rw [hpan]; exact hp.mono I.hs.le
  have hT1c : hd D S0.h.find T1 = hd (fun j => D j || j == e.i) S0.h.find T1 := hd_congr hcT
  -- the finish
  have finish : ∀ (U U' : St), Region.wanted e.o (yielded ops a.tmps) = true → actE rec P e.o.op (viewE fr1 (looks ops e.o)) fr1.pan U = some (.val e.v U') → (∀ id o, U.h.find id = some o → hd D S0.h.find T id = some o) →
      (U'.next ≤ U.next ∨ (e.lo = U.next ∧ e.hi = U'.next)) →
      (∀ id o, hd (fun j => D j || j == e.i) S0.h.find T id = some o → U'.h.find id = some o ∨ (hd D S0.h.find T id = some o ∧ U.h.find id = none ∧ ∃ t cs, o = .box t cs)) →
      ∃ r w' σ', Steps P (lone (b.at a (.inRegion ops (e.i :: rest) :: k)) cs w) (lone (b.at (a.put e.o.dst r) (.inRegion ops rest :: k)) cs w') ∧
        Inv base w₀ σ0 w1 S0 fr0 T N fx1 fx2 (fun j => D j || j == e.i) σ' (a.put e.o.dst r) w' := by
    intro U U' hw hx hU hrange hJ
    have hfree : Free σ U.next U'.next := by
      rcases hrange with h | ⟨h, h'⟩
      · exact fun id q1 q2 => by omega
      · rw [← h, ← h']; exact I.free e he hD
    obtain ⟨r, w', σ', s1, s2, s3, s4⟩ := val_steps (rest := rest) (k := k) hG hrec (I.rel.less hU : Rel none2 base w₀ σ U w) hev hpσ hro hop hw hx hfree
    obtain ⟨o1, o2⟩ := over I.rel hU s3 s4 hfree hJ
    refine ⟨r, w', σ', s1, I.add C he hD s2 o1 ?_⟩
    rcases hrange with h | ⟨h, h'⟩
    · exact o2.void h
    · rw [h, h']; exact o2
  cases f with
  | mild ho hm ha hn =>
    rename_i i o v ob
    have hlo : S1.next = (En.mild i o v S1.next ob).lo := rfl
    -- the new map
    have hmap : ∀ id, (ob = none ∨ id ≠ S1.next) → hd (fun j => D j || j == i) S0.h.find T id = hd D S0.h.find T id := by
      intro id hid
      rw [hT]
      refine (hd_app ?_ hcR).symm
      cases ob with
      | none => simp only [hd]; rw [hT1c]; rfl
      | some ob =>
        have hne : id ≠ S1.next := hid.resolve_left (by simp)
        simp only [hd, hne, and_false, if_false]
        rw [hT1c]; rfl
    have hbase : baseOf D S0 T = baseOf D S0 T1 := by
      rw [hT, baseOf_app hRD]; rfl
    have hjin : ∀ id o, jin D T1 id o → jin D T id o := fun id o h => by
      rw [hT]; exact jin_app hRD (.inr h)
    have hbin : ∀ id o, (baseOf D S0 T).h.find id = some o → hd D S0.h.find T id = some o := fun id o h => hTra.base_in C.hl hN C.fresh h
    rcases mildE_cases hm rec fr1.pan with ⟨hw, rfl, rfl⟩ | ⟨hw, hcase⟩
    · refine ⟨undef, w, σ, step_unwanted hop (view_want hview hw), I.add C he hD (undef_VR σ) ?_ ?_⟩
      · exact I.rel.less fun id o h => by rw [← hmap id (.inl rfl)]; exact h
      · refine (HS.refl _ _ σ _ w).less fun id o h => by rw [← hmap id (.inl rfl)]; exact h
    · have hw' := view_want hview hw
      rcases hcase with ⟨rfl, hx⟩ | ⟨t, cl, rfl, hx⟩ | ⟨rfl, hc, hs⟩
      · refine finish (baseOf D S0 T) (baseOf D S0 T) hw' (hx _) (hbin) (.inl (Nat.le_refl _)) fun id o h => ?_
        have h : hd (fun j => D j || j == i) S0.h.find T id = some o := h
        rw [hmap id (.inl rfl)] at h
        rcases hd_out h with h2 | h2
        · exact .inl h2
        · cases hq : (baseOf D S0 T).h.find id with
          | none => exact .inr ⟨h, rfl, hTra.jin_box h2⟩
          | some o' =>
            have := hbin id o' hq
            rw [h] at this; cases this
            exact .inl rfl
      · refine finish { baseOf D S0 T with next := S1.next } _ hw' (hx _ rfl) (hbin) (.inr ⟨rfl, rfl⟩) fun id o h => ?_
        have h : hd (fun j => D j || j == i) S0.h.find T id = some o := h
        simp only [St.new, Tr.find_put]
        by_cases hid : id = S1.next
        · subst hid
          rw [if_pos rfl]
          left
          rw [hT, hd_skip hRD'] at h
          · simpa [hd] using h
          · intro e' he' _
            have := f4 e' he'
            simp [En.st, St.plus, St.new] at this
            omega
        · rw [if_neg hid]
          rw [hmap id (.inr hid)] at h
          rcases hd_out h with h2 | h2
          · exact .inl h2
          · cases hq : (baseOf D S0 T).h.find id with
            | none => exact .inr ⟨h, rfl, hTra.jin_box h2⟩
            | some o' =>
              have := hbin id o' hq
              rw [h] at this; cases this
              exact .inl rfl
      · obtain ⟨acc, k1, k2⟩ := sameE_at (S0 := S0) (P := P) hanc hs
        rw [← hbase] at k2
        have hin : ∀ id o, (withs (baseOf D S0 T).h acc).find id = some o → hd D S0.h.find T id = some o := by
          intro id o h
          rcases withs_find h with h2 | h2
          · exact hbin id o h2
          · rcases k1 _ h2 with h3 | h3
            · cases h3
            · exact hTra.jin_in C.hl (hjin _ _ h3)
        refine finish _ _ hw' (sameAt_act hc k2) hin (.inl (Nat.le_refl _)) fun id o h => ?_
        have h : hd (fun j => D j || j == i) S0.h.find T id = some o := h
        rw [hmap id (.inl rfl)] at h
        simp only
        cases hq : (withs (baseOf D S0 T).h acc).find id with
        | some o' =>
          have := hin id o' hq
          rw [h] at this; cases this
          exact .inl rfl
        | none =>
          refine .inr ⟨h, rfl, ?_⟩
          rcases hd_out h with h2 | h2
          · obtain ⟨o', h3⟩ := withs_old (l := acc) ⟨o, h2⟩
            rw [hq] at h3; cases h3
          · exact hTra.jin_box h2
  | act ho hw hx ha hn hb =>
    rename_i i o0 v S'
    have hT1D : ∀ e' ∈ T1, D e'.i = true := fun e' he' => hanc _ (hb _ (List.mem_map.2 ⟨e', he', rfl⟩))
    have hall := h1.hd_all hT1D
    have hle : S1.next ≤ S'.next := (actE_le C.hl hx : StLe S1 S').next
    have hle0 := h1.le C.hl
    have hin : ∀ id o, S1.h.find id = some o → hd D S0.h.find T id = some o := by
      intro id o h
      have h' : hd D S0.h.find T1 id = some o := by rw [← hall id]; exact h
      rw [hT, hd_skip hRD]
      · simp only [hd]
        rw [if_neg (by have : D i = false := hD; rw [this]; simp)]
        exact h'
      · intro e' he' hlt heq
        have q1 : S'.next ≤ e'.lo := f4 e' he'
        have q2 := (hTra.range C.hl (by rw [hT]; exact List.mem_append_left _ he')).2.2
        rcases hle0.dom id o h with ⟨o', z⟩ | ⟨_, z⟩
        · rw [C.fresh id (by have := hle0.next; omega) (by omega)] at z; cases z
        · omega
    refine finish S1 S' (view_want hview hw) hx hin (.inr ⟨rfl, rfl⟩) fun id o h => ?_
    rw [hT] at h ⊢
    rcases hd_cases (D' := fun j => D j || j == i) (id := id) hRD hcR with hc | ⟨i', o', v', n', ob', q1, q2, q3⟩
    · left
      have h : hd (fun j => D j || j == i) S0.h.find (R ++ En.act i o0 v S1.next S' :: T1) id = some o := h
      rw [(hc _ _).2] at h
      simp only [hd] at h
      rw [if_pos (by simp)] at h
      exact h
    · right
      obtain ⟨z1, z2⟩ := q3 S0.h.find (En.act i o0 v S1.next S' :: T1)
      have h : hd (fun j => D j || j == i) S0.h.find (R ++ En.act i o0 v S1.next S' :: T1) id = some o := h
      have z2 : hd (fun j => D j || j == i) S0.h.find (R ++ En.act i o0 v S1.next S' :: T1) id = some ob' := z2
      rw [h] at z2
      cases z2
      subst q2
      have hmem : En.mild i' o' v' id (some o) ∈ T := by rw [hT]; exact List.mem_append_left _ q1
      refine ⟨z1, ?_, ?_⟩
      · have y1 : S'.next ≤ id := f4 _ q1
        have y2 : id + 1 ≤ S.next := (hTra.range C.hl hmem).2.2
        cases hq : S1.h.find id with
        | none => rfl
        | some x =>
          rcases hle0.dom id x hq with ⟨o', z⟩ | ⟨_, z⟩
          · rw [C.fresh id (by have := hle0.next; omega) (by omega)] at z; cases z
          · omega
      · obtain ⟨R', T', hT'⟩ := List.append_of_mem hmem
        obtain ⟨_, S2, _, f2, _⟩ := hTra.split C.hl hT'
        generalize hE : En.mild i' o' v' id (some o) = E at f2
        cases f2 with
        | mild _ hm' _ _ => cases hE; exact mildE_box hm'
        | act => cases hE

theorem dropT_find : ∀ (l : List Nat) {fr : Fr} {t : Tmp} {v : V}, (dropT ops l fr).t.find t = some v → fr.t.find t = some v ∧ ∀ i ∈ l, ∀ o, ops[i]? = some o → o.dst ≠ some t
  | [], fr, t, v, h => ⟨h, fun _ h => (by cases h)⟩
  | i :: l, fr, t, v, h => by
    simp only [dropT] at h
    split at h
    · rename_i d hd
      obtain ⟨h1, h2⟩ := dropT_find l h
      simp only [Tr.find_del] at h1
      split at h1
      · cases h1
      · rename_i hne
        refine ⟨h1, fun j hj o ho => ?_⟩
        rcases List.mem_cons.1 hj with rfl | hj
        · rw [ho] at hd
          simp only [Option.bind_some] at hd
          rw [hd]
          exact fun h => hne (by cases h; rfl)
        · exact h2 j hj o ho
    · rename_i hd
      obtain ⟨h1, h2⟩ := dropT_find l h
      refine ⟨h1, fun j hj o ho => ?_⟩
      rcases List.mem_cons.1 hj with rfl | hj
      · rw [ho] at hd
        simp only [Option.bind_some] at hd
        rw [hd]; simp
      · exact h2 j hj o ho

theorem dropT_same : ∀ (l : List Nat) (fr : Fr), (dropT ops l fr).pan = fr.pan ∧ (dropT ops l fr).ds = fr.ds ∧ (dropT ops l fr).n = fr.n
  | [], fr => ⟨rfl, rfl, rfl⟩
  | i :: l, fr => by
    simp only [dropT]
    split
    · exact dropT_same l _
    · exact dropT_same l fr

/-- What is left of a region whose operations have all been carried out, or that panics. -/
structure Fate (rec : Rec) (P : Program) (ops : Array Oper) (S0 : St) (fr0 : Fr) (T : List En) (fx1 fx2 : Nat) (x : X) (fr' : Fr) (S' : St) : Prop where
  or : (x = .normal ∧ Tra rec P ops S0 fr0 T fr' S' ∧ ∀ i, i < ops.size → i ∈ idx T) ∨
    ∃ (m : Nat) (v : V) (o : Oper) (R T0 : List En) (frm frR : Fr) (Sm Sa SR : St) (l2 : List Nat), x = .panic v ∧ T = R ++ T0 ∧ Tra rec P ops S0 fr0 T0 frm Sm ∧ ops[m]? = some o ∧ wantE ops o frm = some true ∧
    actE rec P o.op (viewE frm (looks ops o)) frm.pan Sm = some (.pan v Sa) ∧ (∀ j, anc ops j m = true → j ∈ idx T0) ∧ (∀ j ∈ idx T0, anc ops j m = true) ∧ m ∉ idx T ∧
    Tra rec P ops S0 fr0 T frR SR ∧ (∀ e ∈ R, e.isMild = true ∧ Sa.next ≤ e.lo ∧ e.i ∈ l2) ∧ (∀ j ∈ l2, anc ops m j = false) ∧ (∀ i, i < ops.size → i ∈ idx T ∨ i = m ∨ anc ops m i = true) ∧
    fr' = dropT ops l2 frm ∧ S' = { Sa with next := SR.next } ∧ Sa.next ≤ SR.next ∧ fx1 = Sm.next ∧ fx2 = Sa.next

/-- What of the frame is known, holds. -/
theorem Inv.frame (C : Ctx rec P ops S0 fr0 T N fx1 fx2) (I : Inv base w₀ σ0 w1 S0 fr0 T N fx1 fx2 D σ a w) {T0 : List En} {fr : Fr} {S : St} (h : Tra rec P ops S0 fr0 T0 fr S) (hsub : ∀ e ∈ T0, e ∈ T ∧ D e.i = true)
    {t : Tmp} {v : V} (hv : fr.t.find t = some v) (hno : ∀ e ∈ T, D e.i = true → e ∈ T0 ∨ e.o.dst ≠ some t) : ∃ y, a.tmps[t]? = some y ∧ VR σ v y := by
  rcases h.look hv with ⟨e, g1, g2, rfl⟩ | ⟨g1, g2⟩
  · exact I.t1 e (hsub e g1).1 (hsub e g1).2 t g2
  · refine I.t0 t v g2 fun e he hDe => ?_
    rcases hno e he hDe with h1 | h1
    · exact g1 e h1
    · exact h1

theorem draw_run (hG : Good P) (hrec : CallOk P rec) (C : Ctx rec P ops S0 fr0 T N fx1 fx2) {x : X} {fr' : Fr} {S' : St} (F : Fate rec P ops S0 fr0 T fx1 fx2 x fr' S') (hN : N = S'.next) (hp : PanR σ0 fr0.pan b cs) (hro : b.roundOf = none) :
    ∀ {L : List Nat} {D : Nat → Bool}, Lin ops D L → ∀ {σ : Sg} {a : Act} {w : World}, Closed ops D → (∀ i, D i = true → i ∈ idx T) → Inv base w₀ σ0 w1 S0 fr0 T N fx1 fx2 D σ a w →
      Comes' P base w₀ σ0 S0 w1 (lone (b.at a (.inRegion ops L :: k)) cs w) b k cs x fr' S' := by
  obtain ⟨frT, ST, hTra, hTN⟩ := C.tra
  intro L D hL
  induction hL with
  | nil hall =>
    rename_i D
    intro σ a w hcl hDT I
    rcases F.or with ⟨rfl, hF, _⟩ | ⟨m, v, o, R, T0, frm, frR, Sm, Sa, SR, l2, rfl, hT, h0, ho, hw, hx, ha, hb, hm, hTR, hR, hl2, hcov, rfl, rfl, hSN, rfl, rfl⟩
    · have hDe : ∀ e ∈ T, D e.i = true := fun e he => hall _ (Array.getElem?_eq_some_iff.1 (hTra.op C.hl he)).1
      have hmap := hF.hd_all hDe
      have hin : ∀ id o, S'.h.find id = some o → hd D S0.h.find T id = some o := fun id o h => by rw [← hmap id]; exact h
      obtain ⟨e1, e2, e3⟩ := hF.same
      refine ⟨.normal, a, cs, w, σ, .normal, ⟨?_, fun t v hv => ?_, ?_⟩, ?_, .refl _, I.rel.less hin, I.hs.toStp hin (Nat.le_refl _) (by omega) (by have := C.low; omega), Steps.one step_region_end⟩
      · rw [e3]; exact I.n
      · exact I.frame C hF (fun e he => ⟨he, hDe e he⟩) hv fun e he _ => .inl he
      · rw [e2]; exact I.ds
      · rw [e1]; exact hp.mono I.hs.le
    · exact absurd (hDT m (hall m (Array.getElem?_eq_some_iff.1 ho).1)) hm
  | cons ho hn hr hL ih =>
    rename_i D i l o
    intro σ a w hcl hDT I
    have hlt := (Array.getElem?_eq_some_iff.1 ho).1
    -- an operation of the record
    have go : i ∈ idx T → Comes' P base w₀ σ0 S0 w1 (lone (b.at a (.inRegion ops (i :: l) :: k)) cs w) b k cs x fr' S' := by
      intro hi
      obtain ⟨e, he, rfl⟩ := List.mem_map.1 hi
      have hop := hTra.op C.hl he
      rw [ho] at hop
      cases hop
      obtain ⟨r, w', σ', s1, s2⟩ := step_any (rest := l) (k := k) hG hrec C hcl I hp hro he hn hr
      obtain ⟨ex, a', cs', w'', σ'', z0, z1, z2, z3, z4, z5, z6⟩ := ih (hcl.add ho hr) (fun j hj => by
        simp only [Bool.or_eq_true, beq_iff_eq] at hj
        rcases hj with hj | rfl
        · exact hDT j hj
        · exact hi) s2
      exact ⟨ex, a', cs', w'', σ'', z0, z1, z2, z3, z4, z5, .of_steps s1 z6⟩
    rcases F.or with ⟨rfl, hF, hcov⟩ | ⟨m, v, o', R, T0, frm, frR, Sm, Sa, SR, l2, rfl, hT, h0, ho', hw, hx, ha, hb, hm, hTR, hR, hl2, hcov, rfl, rfl, hSN, rfl, rfl⟩
    · exact go (hcov i hlt)
    · rcases hcov i hlt with hi | rfl | hi
      · exact go hi
      · -- the panic
        rw [ho] at ho'
        cases ho'
        have hanc : ∀ j, anc ops j i = true → D j = true := fun j hj => anc_closed C.edges hcl i ho hr hj
        have hsub : ∀ e ∈ T0, e ∈ T ∧ D e.i = true := fun e he => ⟨by rw [hT]; exact List.mem_append_right _ he, hanc _ (hb _ (List.mem_map.2 ⟨e, he, rfl⟩))⟩
        have hall := h0.hd_all fun e he => (hsub e he).2
        have hi0 : i ∉ idx T0 := fun h => hm (by rw [hT]; simp only [idx, List.map_append, List.mem_append]; exact .inr h)
        have hview := view_tmp C I hcl hT h0 ho ha hi0 hn hanc
        have hpan : frm.pan = fr0.pan := h0.same.1
        have hle : Sm.next ≤ Sa.next := (actE_le C.hl hx : StLe Sm Sa).next
        have hle0 := h0.le C.hl
        have hin : ∀ id o, Sm.h.find id = some o → hd D S0.h.find T id = some o := by
          intro id o h
          have h' : hd D S0.h.find T0 id = some o := by rw [← hall id]; exact h
          rw [hT, hd_skip (fun e he _ => (hR e he).1)]
          · exact h'
          · intro e' he' hlt heq
            have q1 := (hR e' he').2.1
            have q2 := (hTra.range C.hl (by rw [hT]; exact List.mem_append_left _ he')).2.2
            rcases hle0.dom id o h with ⟨o', z⟩ | ⟨_, z⟩
            · rw [C.fresh id (by have := hle0.next; omega) (by omega)] at z; cases z
            · omega
        obtain ⟨y, w', σ', s1, s2, s3, s4⟩ := pan_steps (rest := l) (k := k) (b := b) (cs := cs) hG hrec (I.rel.less hin : Rel none2 base w₀ σ Sm w) (view_sound hview) ho (view_want hview hw) hx I.fx
        have hS := (over I.rel hin s3 s4 I.fx (H' := Sa.h.find) fun id o h => .inl h).2
        have hs2 := I.hs.trans (hS.wide (by have := hle0.next; omega) (by rw [hN]; exact hSN))
        have hA : AR σ (dropT ops l2 frm) a := by
          obtain ⟨d1, d2, d3⟩ := dropT_same (ops := ops) l2 frm
          refine ⟨by rw [d3, h0.same.2.2]; exact I.n, fun t u hu => ?_, by rw [d2, h0.same.2.1]; exact I.ds⟩
          obtain ⟨u1, u2⟩ := dropT_find l2 hu
          refine I.frame C h0 hsub u1 fun e he hDe => ?_
          rw [hT] at he
          rcases List.mem_append.1 he with he | he
          · exact .inr (u2 e.i (hR e he).2.2 e.o (hTra.op C.hl (by rw [hT]; exact List.mem_append_left _ he)))
          · exact .inl he
        refine ⟨_, a, cs, w', σ', .panic s2, hA.mono s4.le, ?_, .refl _, s3, hs2.toStp (fun id o h => h) (Nat.le_refl _) (by omega) (by have := C.low; omega), _, s1⟩
        rw [(dropT_same (ops := ops) l2 frm).1, hpan]
        exact (hp.mono I.hs.le).mono s4.le
      · have := anc_closed C.edges hcl i ho hr hi
        exact absurd (hDT m this) hm

theorem drawE_sound (hG : Good P) (hl : LeOk rec) (hrec : CallOk P rec) {S : St} {fr : Fr} (h : Rel none2 base w₀ σ S w) (hA : AR σ fr a) (hp : PanR σ fr.pan b cs) (hro : b.roundOf = none) (hok : (planOf ops).ok = true) {r : Rs}
    (hE : drawE rec P ops (planOf ops).ms S (planOf ops).ord [] fr S = some r) :
    ∃ x fr' S', r = .code x fr' S' ∧ (Free σ S.next S'.next → ∀ t, Comes' P base w₀ σ S w (lone (b.at a (.inRegion ops (Region.schedule true ops t) :: k)) cs w) b k cs x fr' S') := by
  have hok' : edgesOk ops = true ∧ dstOk (masks ops.toList []) ops = true ∧ ordOk (masks ops.toList []) ops 0 (planOf ops).ord = true := by
    have : (edgesOk ops && dstOk (masks ops.toList []) ops && ordOk (masks ops.toList []) ops 0 (planOf ops).ord) = true := hok
    simp only [Bool.and_eq_true] at this
    exact ⟨this.1.1, this.1.2, this.2⟩
  obtain ⟨k1, k2, k3⟩ := hok'
  have hE : drawE rec P ops (masks ops.toList []) S (planOf ops).ord [] fr S = some r := hE
  have inv0 : ∀ (T : List En) (N fx1 fx2 : Nat), (∀ e ∈ T, Free σ e.lo e.hi) → Free σ fx1 fx2 → Inv base w₀ σ w S fr T N fx1 fx2 (fun _ => false) σ a w := by
    intro T N fx1 fx2 hf hfx
    have hh : hd (fun _ => false) S.h.find T = S.h.find := hd_none fun _ _ => rfl
    refine ⟨by rw [hh]; exact h, by rw [hh]; exact HS.refl _ _ _ _ _, fun e he _ => hf e he, hfx, hA.n, hA.ds, (fun e he h => by cases h), fun t v ht _ => hA.t t v ht⟩
  have fresh : ∀ N, Free σ S.next N → ∀ id, S.next ≤ id → id < N → S.h.find id = none := by
    intro N hf id h1 h2
    cases hq : S.h.find id with
    | none => rfl
    | some o =>
      obtain ⟨y, hy, _⟩ := (h.ob id o hq).key
      rw [hf id h1 h2] at hy; cases hy
  have hcl : Closed ops (fun _ => false) := fun k o hk => by cases hk
  rcases drawE_tra hl (planOf ops).ord .nil .nil k3 hE with ⟨T, fr', S', rfl, hT, hcov⟩ | ⟨T, m, v, fr', S', rfl, ⟨o, R, T0, frm, frR, Sm, Sa, SR, l2, hTe, h0, ho, hw, hx, ha, hb, hm, hTR, hR, hl2, hcov, rfl, rfl, hSN⟩⟩
  · refine ⟨_, _, _, rfl, fun hf t => ?_⟩
    have C : Ctx rec P ops S fr T S'.next 0 0 := ⟨hl, k1, k2, ⟨fr', S', hT, Nat.le_refl _⟩, fresh _ hf, fun e _ => .inr (Nat.zero_le _), (hT.le hl).next⟩
    refine draw_run hG hrec C ⟨.inl ⟨rfl, hT, hcov⟩⟩ rfl hp hro (lin_schedule k1 t) hcl (fun i h => by cases h) (inv0 T _ 0 0 (fun e he => ?_) fun id _ h2 => by omega)
    obtain ⟨q1, _, q3⟩ := hT.range hl he
    exact hf.mono q1 q3
  · refine ⟨_, _, _, rfl, fun hf t => ?_⟩
    have hf : Free σ S.next SR.next := hf
    have hle : Sm.next ≤ Sa.next := (actE_le hl hx : StLe Sm Sa).next
    have hle0 := (h0.le hl).next
    have C : Ctx rec P ops S fr T SR.next Sm.next Sa.next := by
      refine ⟨hl, k1, k2, ⟨frR, SR, hTR, Nat.le_refl _⟩, fresh _ hf, fun e he => ?_, (hTR.le hl).next⟩
      rw [hTe] at he
      rcases List.mem_append.1 he with he | he
      · exact .inr (hR e he).2.1
      · exact .inl (h0.range hl he).2.2
    refine draw_run hG hrec C ⟨.inr ⟨m, v, o, R, T0, frm, frR, Sm, Sa, SR, l2, rfl, hTe, h0, ho, hw, hx, ha, hb, hm, hTR, hR, hl2, hcov, rfl, rfl, hSN, rfl, rfl⟩⟩ rfl hp hro (lin_schedule k1 t) hcl (fun i h => by cases h) (inv0 T _ _ _ (fun e he => ?_) (hf.mono hle0 hSN))
    obtain ⟨q1, _, q3⟩ := hTR.range hl he
    exact hf.mono q1 q3

end
end Go.Ev
