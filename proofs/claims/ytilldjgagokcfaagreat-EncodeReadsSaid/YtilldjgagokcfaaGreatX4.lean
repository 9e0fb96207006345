import Derived.Test.YtilldjgagokcfaaGreatX3
set_option linter.unusedVariables false
set_option linter.unusedSimpArgs false
namespace Go.Proofs.YtilldjgagokcfaaGreat
open Go.RowKit Go.Ev
set_option maxRecDepth 100000
set_option linter.unusedVariables false
structure RLc (k : Nat) (S0 S : St) (c x : Nat) (s : List UInt8) (r rq : RS) (t te sz q : Nat) (T : TypeId) (A rest : List V) (v : V) : Prop where
  lp : RLp k S0.next S c s r t te sz q rq v
  box : S.h.find x = some (.box T (A ++ v :: rest))
  keep : Keep2 S0 S c x
  xc : x ≠ c
  xlt : x < S.next
section
variable {k k0 : Nat} {S0 S S1 S3 : St} {c x lo n q j : Nat} {s : List UInt8} {r0 r rq r' : RS} {t te sz : Nat} {T TL : TypeId} {L A rest : List V} {fs : List Ev.Fd} {v : V}
theorem RLc.start (p : RProg k S0 S c x s r0 r T L lo fs n (.nils :: rest)) (h1 : RSt S1 c s (rL s r).2 ∧ Keep2 S S1 c c) (hf : mu s r ≤ k + 1) :
    ∃ cs, (cs.length = n ∧ cs.all V.one = true ∧ (∀ i j, r0 = .ok i → r = .ok j → Enc fs cs (slc s i j))) ∧ RLc k S0 S1 c x s r (rL s r).2 t te sz 0 T (L ++ cs) rest .nils := by
  obtain ⟨cs, b1, b2, b3, b4⟩ := p.ex
  obtain ⟨h1, k1⟩ := h1
  refine ⟨cs, ⟨b2, b3, b4⟩, RLp.start h1 hf, by rw [k1.find x p.xlt p.xc p.xc]; exact b1, ⟨Nat.le_trans p.keep.next k1.next, fun id i1 i2 i3 => ?_⟩, p.xc, Nat.lt_of_lt_of_le p.xlt k1.next⟩
  rw [k1.find id (Nat.lt_of_lt_of_le i1 p.keep.next) i2 i2, p.keep.find id i1 i2 i3]
theorem RLc.done {cs : List V} (p : RProg k S0 S c x s r0 r T L lo fs n (.nils :: rest)) (hcs : cs.length = n ∧ cs.all V.one = true ∧ (∀ i j, r0 = .ok i → r = .ok j → Enc fs cs (slc s i j)))
    (h : RLc k S0 S1 c x s r rq t te (szs t) q T (L ++ cs) rest v) (hq : q ≤ (rL s r).1) (he : q = (rL s r).1 ∨ ∃ b, rq = .error b) : RProg k S0 S1 c x s r0 rq T L lo (fs ++ [.list t]) (n + 1) rest := by
  obtain ⟨d1, d2, d3⟩ := h.lp.done hq he
  have hv : v.cells = [v] := by have := h.lp.grow.one; cases v <;> first | rfl | (cases this; done)
  obtain ⟨c1, c2, c3⟩ := hcs
  have back : ∀ j, rq = .ok j → ∃ a i, r = .ok a ∧ r0 = .ok i ∧ i ≤ a ∧ Enc [.list t] v.cells (slc s a j) ∧ a < j := by
    intro j hj
    cases hr : r with
    | error b => rw [hr] at d1; simp only [lift] at d1; rw [← d1] at hj; cases hj
    | ok a =>
      obtain ⟨i, hi, hle, _⟩ := p.mono a hr
      obtain ⟨e1, e2⟩ := d3 a j hr hj
      exact ⟨a, i, rfl, hi, hle, e1, e2⟩
  refine ⟨⟨cs ++ [v], by rw [h.box]; simp [List.append_assoc], by simp [c1], by rw [List.all_append, c2]; simp [h.lp.grow.one], fun i j hi hj => ?_⟩, fun j hj => ?_, by rw [lift_app, ← p.sc, d1], h.lp.st, h.keep, h.xc, h.xlt, p.lo⟩
  · obtain ⟨a, i', ha, hi', hle, e1, e2⟩ := back j hj
    rw [hi] at hi'
    cases hi'
    rw [← slc_app hle (Nat.le_of_lt e2)]
    rw [hv] at e1
    exact (c3 i a hi ha).app e1
  · obtain ⟨a, i, ha, hi, hle, e1, e2⟩ := back j hj
    exact ⟨i, hi, by omega, fun _ => by omega⟩
theorem Keep2.newE {S0 S : St} {c x : Nat} (h : Keep2 S0 S c x) (o : Ob) : Keep2 S0 (S.new o) c x :=
  ⟨Nat.le_trans h.next (by simp [St.new]), fun id i1 i2 i3 => by
    have : id ≠ S.next := by have := h.next; omega
    simp only [St.new, Tr.find_put, if_neg this]; exact h.find id i1 i2 i3⟩
theorem RSt.newE (h : RSt S c s r) (o : Ob) : RSt (S.new o) c s r :=
  h.ofBox (by simp [St.new]) fun t cs hb => by simp only [St.new, Tr.find_put, if_neg (Nat.ne_of_lt h.lt)]; exact hb
theorem RProg.alloc {z : List V} (h : RSt S c s r) (T : TypeId) : RProg k (S.new (.box T z)) (S.new (.box T z)) c S.next s r r T [] 0 [] 0 z :=
  RProg.start (h.newE _) (by have := h.lt; omega) (by simp [St.new]) (by simp [St.new, Tr.find_put]) rfl
theorem RProg.whole (p : RProg k S0 S c x s r0 r T [] 0 fs n []) : ∃ cs, S.h.find x = some (.box T cs) ∧ cs.length = n ∧ cs.all V.one = true ∧ (∀ i j, r0 = .ok i → r = .ok j → Enc fs cs (slc s i j)) := by
  obtain ⟨cs, b1, b2⟩ := p.ex
  exact ⟨cs, by simpa using b1, b2⟩
theorem RProg.subE (p : RProg k0 S0 S c x s r0 r T [] 0 (sch t) n []) : lift (scanF (scan s (k0 + 1)) s [.sub t]) r0 = r := by
  rw [p.sc]
  cases r0 with
  | error b => rfl
  | ok i => simp only [lift, scanF_sub]; rfl
theorem grow_past (h : Grow S lo te sz q v) {z : List V} {tz : TypeId} (k : Keep2 (S.new (.box tz z)) S3 c S.next) (hs : RSt S c s r) : Grow S3 lo te sz q v := by
  have hn3 := k.next
  simp only [St.new] at hn3
  rcases h with hg | ⟨es, tid, g1, g2, g3, g4, g5⟩
  · exact .inl hg
  · refine .inr ⟨es, tid, g1, ?_, g3, by omega, g5⟩
    have hne : tid ≠ c := by rintro rfl; rw [hs.box] at g2; cases g2
    rw [k.find tid (by simp [St.new]; omega) hne (by omega)]
    simp only [St.new, Tr.find_put, if_neg (Nat.ne_of_lt g4)]; exact g2
theorem RLc.step {bytes off : Nat} (h : RLc (k0 + 1) S0 S c x s r (.ok j) t te sz q T A rest v) (p : RProg k0 (S.new (.box te (zc t))) S3 c S.next s (.ok j) r' te [] 0 (sch t) sz []) (hf : (sch t).isEmpty = false) (hsz : sz = szs t)
    (ha : App Tryz.prog TL TL te sz true bytes) (hz : SzN Tryz.prog TL 1) (hby : bytes ≤ 1000) (hs1 : sz ≤ 1000) (hq : q ≤ 200000) (ho : off = A.length) :
    ∃ cs v' S4 S5, cs.length = sz ∧ Pt S3 (.ptr S.next 0) cs ∧ Pt S3 (.ptr x off) [v] ∧ v.one = true ∧ buildSliceE Tryz.prog TL 1 [(0, .agg cs)] = some (.list (some te) sz [.agg cs] .exact) ∧
      appendE Tryz.prog TL TL v (.list (some te) sz [.agg cs] .exact) S3 = some (v', S4) ∧ storeE Tryz.prog TL (.ptr x off) v' S4 = some S5 ∧ RLc (k0 + 1) S0 S5 c x s r r' t te sz (q + 1) T A rest v' := by
  obtain ⟨cs, b1, b2, b3, b4⟩ := p.whole
  have hk := p.keep
  have hn3 := hk.next
  simp only [St.new] at hn3
  have hxl := h.xlt
  have hn0 := h.keep.next
  have hx3 : S3.h.find x = some (.box T (A ++ v :: rest)) := by
    rw [hk.find x (by simp [St.new]; omega) h.xc (by omega)]
    simp only [St.new, Tr.find_put, if_neg (Nat.ne_of_lt hxl)]; exact h.box
  have hg3 := grow_past h.lp.grow hk h.lp.st
  obtain ⟨v', S4, S5, happ, hk4, hst, hb5, hg5, hel, hn5, hold, hbx5⟩ := grow_app (P := Tryz.prog) (xv := .agg cs) ha hz hby hq hg3 (by omega) ho (by omega) hx3 b2 b3
  refine ⟨cs, v', S4, S5, b2, ⟨_, _, b1, fun i v h => by simpa using h⟩, pt_mid ho hx3, h.lp.grow.one, bsl_one (P := Tryz.prog) (v := .agg cs) ha hs1 b2 rfl, happ, hst, ?_⟩
  have hst3 := p.st
  refine ⟨RLp.next h.lp rfl p.subE (hst3.ofBox (by omega) fun t cs hb => hbx5 c t cs hst3.lt h.xc.symm hb) (fun i j' hi hj' => ?_) hg5 hel, hb5, ⟨by omega, fun id h4 h5 h6 => ?_⟩, h.xc, by omega⟩
  · obtain ⟨i2, hi2, _, hlt⟩ := p.mono j' hj'
    rw [hi] at hi2
    cases hi2
    exact ⟨(b4 i j' hi hj').sub (b2.trans hsz), hlt hf⟩
  · rw [hold id (by omega) h4 h6, hk.find id (by simp [St.new]; omega) h5 (by omega), ← h.keep.find id h4 h5 h6]
    have : id ≠ S.next := by omega
    simp only [St.new, Tr.find_put, if_neg this]
theorem RLp.step {bytes : Nat} (h : RLp (k0 + 1) S0.next S c s r t te sz q (.ok j) v) (hk0 : Keep2 S0 S c c) (p : RProg k0 (S.new (.box te (zc t))) S3 c S.next s (.ok j) r' te [] 0 (sch t) sz []) (hf : (sch t).isEmpty = false) (hsz : sz = szs t)
    (ha : App Tryz.prog TL TL te sz true bytes) (hby : bytes ≤ 1000) (hs1 : sz ≤ 1000) (hq : q ≤ 200000) :
    ∃ cs v' S4, cs.length = sz ∧ Pt S3 (.ptr S.next 0) cs ∧ buildSliceE Tryz.prog TL 1 [(0, .agg cs)] = some (.list (some te) sz [.agg cs] .exact) ∧
      appendE Tryz.prog TL TL v (.list (some te) sz [.agg cs] .exact) S3 = some (v', S4) ∧ RLp (k0 + 1) S0.next S4 c s r t te sz (q + 1) r' v' ∧ Keep2 S0 S4 c c := by
  obtain ⟨cs, b1, b2, b3, b4⟩ := p.whole
  have hk := p.keep
  have hn3 := hk.next
  simp only [St.new] at hn3
  have hn0 := hk0.next
  have hg3 := grow_past h.grow hk h.st
  obtain ⟨v', S4, happ, hg4, hel, hn4, hold, hbx⟩ := grow_tmp (P := Tryz.prog) (xv := .agg cs) ha hby hq hg3 (by omega) b2 b3
  refine ⟨cs, v', S4, b2, ⟨_, _, b1, fun i v h => by simpa using h⟩, bsl_one (P := Tryz.prog) (v := .agg cs) ha hs1 b2 rfl, happ, ?_, ⟨by omega, fun id h4 h5 h6 => ?_⟩⟩
  · refine RLp.next h rfl p.subE (p.st.ofBox hn4 fun t cs hb => hbx c t cs p.st.lt hb) (fun i j' hi hj' => ?_) hg4 hel
    obtain ⟨i2, hi2, _, hlt⟩ := p.mono j' hj'
    rw [hi] at hi2
    cases hi2
    exact ⟨(b4 i j' hi hj').sub (b2.trans hsz), hlt hf⟩
  · rw [hold id (by omega) h4, hk.find id (by simp [St.new]; omega) h5 (by omega), ← hk0.find id h4 h5 h6]
    have : id ≠ S.next := by omega
    simp only [St.new, Tr.find_put, if_neg this]
theorem RProg.inner {z : List V} (p : RProg (k0 + 1) S0 S c x s r0 r T [] 0 fs n (z ++ rest)) : ∃ cs, (cs.length = n ∧ cs.all V.one = true ∧ (∀ i j, r0 = .ok i → r = .ok j → Enc fs cs (slc s i j))) ∧ RProg k0 S S c x s r r T cs n [] 0 (z ++ rest) := by
  obtain ⟨cs, b1, b2⟩ := p.ex
  exact ⟨cs, b2, RProg.start p.st p.xc p.xlt b1 b2.1⟩
theorem RProg.outer {cs : List V} {m : Nat} (z : List V) (p : RProg (k0 + 1) S0 S c x s r0 r T [] 0 fs n (z ++ rest)) (hcs : cs.length = n ∧ cs.all V.one = true ∧ (∀ i j, r0 = .ok i → r = .ok j → Enc fs cs (slc s i j)))
    (p2 : RProg k0 S S1 c x s r r' T cs n (sch t) m rest) (hf : (sch t).isEmpty = false) (hm : m = szs t) : RProg (k0 + 1) S0 S1 c x s r0 r' T [] 0 (fs ++ [.sub t]) (n + m) rest := by
  obtain ⟨ds, b1, b2, b3, b4⟩ := p2.ex
  obtain ⟨c1, c2, c3⟩ := hcs
  have hsc : lift (scanF (scan s (k0 + 1)) s [.sub t]) r = r' := by
    rw [p2.sc]
    cases r with
    | error b => rfl
    | ok i => simp only [lift, scanF_sub]; rfl
  refine ⟨⟨cs ++ ds, by simpa using b1, by rw [List.length_append, c1, b2], by rw [List.all_append, c2, b3]; rfl, fun i j hi hj => ?_⟩, fun j hj => ?_, by rw [lift_app, ← p.sc, hsc], p2.st, ⟨Nat.le_trans p.keep.next p2.keep.next, fun id i1 i2 i3 => by rw [p2.keep.find id (Nat.lt_of_lt_of_le i1 p.keep.next) i2 i3, p.keep.find id i1 i2 i3]⟩, p.xc, p2.xlt, rfl⟩
  · obtain ⟨a, ha, hle, hlt⟩ := p2.mono j hj
    obtain ⟨i', hi', hle', _⟩ := p.mono a ha
    rw [hi] at hi'
    cases hi'
    rw [← slc_app hle' hle]
    exact (c3 i a hi ha).app ((b4 a j ha hj).sub (b2.trans hm))
  · obtain ⟨a, ha, hle, hlt⟩ := p2.mono j hj
    obtain ⟨i, hi, hle', _⟩ := p.mono a ha
    have := hlt hf
    exact ⟨i, hi, by omega, fun _ => by omega⟩
theorem RProg.ret {z z2 : List V} (p : RProg k ((S.new (.box T z)).new (.box T z2)) S3 c (S.new (.box T z)).next s r0 r T [] 0 fs n []) (h : RSt S c s r0) (hz : z.length = n) (hf : fs.isEmpty = false) [hs : SzN Tryz.prog T n] :
    ∃ cs W, cs.length = n ∧ Pt S3 (.ptr (S.new (.box T z)).next 0) cs ∧ storeE Tryz.prog T (.ptr S.next 0) (.agg cs) S3 = some W ∧ Pt W (.ptr S.next 0) cs ∧ RSt W c s r ∧ Shape (.agg cs) n true ∧ (∀ i j, r0 = .ok i → r = .ok j → Enc fs (V.agg cs).cells (slc s i j) ∧ i < j) ∧ Keep2 S W c c := by
  obtain ⟨cs, b1, b2, b3, b4⟩ := p.whole
  have hk := p.keep
  have hn := hk.next
  simp only [St.new] at hn
  have hlt := h.lt
  have hy : S3.h.find S.next = some (.box T ([] ++ (z ++ []))) := by
    rw [hk.find S.next (by simp [St.new]; omega) (by omega) (by simp [St.new])]
    simp only [St.new, Tr.find_put, if_neg (show ¬ S.next = S.next + 1 by omega), if_true, List.nil_append, List.append_nil]
  obtain ⟨W, hst, hb2, k2⟩ := storeE_mid (P := Tryz.prog) (U := T) (o := 0) (v := .agg cs) hs rfl hz b2 b3 hy
  refine ⟨cs, W, b2, ⟨_, _, b1, fun i v h => by simpa using h⟩, hst, ⟨_, _, hb2, fun i v h => by simpa [V.cells] using h⟩, p.st.keep k2 (by omega), .agg b2 b3, fun i j hi hj => ?_, ⟨Nat.le_trans (by omega) k2.next, fun id i1 i2 i3 => ?_⟩⟩
  · obtain ⟨i2, hi2, _, hlt⟩ := p.mono j hj
    rw [hi] at hi2
    cases hi2
    exact ⟨b4 i j hi hj, hlt hf⟩
  · rw [k2.find id (by omega) (by omega) (by omega), hk.find id (by simp [St.new]; omega) i2 (by simp [St.new]; omega)]
    simp only [St.new, Tr.find_put, if_neg (show ¬ id = S.next + 1 by omega), if_neg (show ¬ id = S.next by omega)]
theorem resV1 {W : St} {E : Env} {a i : Nat} {u : TypeId} {v : V} (ha : Env.get E a = some (.ptr i 0)) (h1 : loadE Tryz.prog u (.ptr i 0) W = some v) : resV Tryz.prog E W [.cell a u] = some [v] := by
  simp only [resV, ha, h1]
theorem Go.holdF {P : Program} {F : Sh} {E : Env} {S : St} {k : K} {i d fi : Nat} {T ty : TypeId} {x : Operand} {pos : String} {a : Array Edge} {g : Option (Nat × Bool)} {os : List Oper} {q : Bool}
    (h : Hold (Go P F E S (.region i (List.toArray (⟨some d, .fieldAddr T x fi, ty, pos, a, g⟩ :: os)) q) k)) : Go P F E S (.region i (List.toArray (⟨some d, .fieldAddr T x fi, ty, pos, a, g⟩ :: os)) q) k := h.h
theorem Go.holdL {P : Program} {F : Sh} {E : Env} {S : St} {k : K} {i d : Nat} {T ty : TypeId} {x : Operand} {pos : String} {a : Array Edge} {g : Option (Nat × Bool)} {os : List Oper} {q : Bool}
    (h : Hold (Go P F E S (.region i (List.toArray (⟨some d, .load T x, ty, pos, a, g⟩ :: os)) q) k)) : Go P F E S (.region i (List.toArray (⟨some d, .load T x, ty, pos, a, g⟩ :: os)) q) k := h.h
theorem RGC.subAny {g : FuncId} {k : Nat} {s : List UInt8} {t n : Nat} {ag : Bool} (hn : n = szs t) (h : RGC g (k - 1) s (sch t) n ag 0) : RGC g k s [.sub t] n ag 1 := by
  cases k with
  | succ k => exact h.sub hn
  | zero =>
    refine .mk fun {S c r} hS hm => ?_
    cases r with
    | ok i => simp only [mu] at hm; omega
    | error b =>
      refine (h.h hS (by simp only [mu]; omega)).mono (fun v S' hv => ?_) (fun _ _ hf => hf)
      obtain ⟨q1, q2, q3, q4⟩ := hv
      exact ⟨q1, q2, fun i j hi => (by cases hi), q4⟩
theorem xtextsK (k : Nat) (s : List UInt8) : RGC 131 k s [.list 1] 1 false 0 := xtexts k s fun _ => RGC.subAny (t := 1) rfl (xtext (k - 1) s)
theorem xnumbersK (k : Nat) (s : List UInt8) : RGC 102 k s [.list 0] 1 false 0 := xnumbers k s fun _ => RGC.subAny (t := 0) rfl (xnumber (k - 1) s)
theorem xtypesK (k : Nat) (s : List UInt8) (h : ∀ j, j < k → RGC 133 j s (sch 5) 6 true 0) : RGC 132 k s [.list 5] 1 false 0 := xtypes k s fun hk => RGC.subAny (t := 5) rfl (h (k - 1) (by omega))
theorem xvaluesK (k : Nat) (s : List UInt8) (h : ∀ j, j < k → RGC 49 j s (sch 2) 5 true 0) : RGC 107 k s [.list 2] 1 false 0 := xvalues k s fun hk => RGC.subAny (t := 2) rfl (h (k - 1) (by omega))
end
end Go.Proofs.YtilldjgagokcfaaGreat
