import Derived.Test.YtilldjgagokcfaaGreatD1
set_option linter.unusedVariables false
set_option linter.unusedSimpArgs false
namespace Go.Proofs.YtilldjgagokcfaaGreat
open Go.RowKit Go.Ev
set_option maxRecDepth 100000
set_option linter.unusedVariables false
structure GC (g : FuncId) (mk : V → V → List V) (k : Nat) (s : List UInt8) (grp : List Ev.Fd) (zs : List V) (m : Nat) : Prop where
  h : ∀ {S : St} {c x i : Nat} {T : TypeId} {L R : List V} {off : Nat}, CodR S c s i → off = L.length → x ≠ c → x < S.next → s.length - i + m ≤ k → S.h.find x = some (.box T (L ++ (zs ++ R))) →
    CallTo Tryz.prog g (mk (.ptr c 0) (.ptr x off)) S
      (fun _ S' => ∃ j cs, scanF (scan s k) s grp i = .ok j ∧ CodR S' c s j ∧ S'.h.find x = some (.box T (L ++ (cs ++ R))) ∧ cs.length = zs.length ∧ Enc grp cs (slc s i j) ∧ i < j ∧ Keep2 S S' c x)
      (fun v S' => ∃ b, scanF (scan s k) s grp i = .error b ∧ v = malV b ∧ Keep2 S S' c x)
def zs (z : V) (n : Nat) : List V := List.replicate n z
def pts (p : V) (n : Nat) : List V := (List.range n).map fun q => padd p q
theorem pts_get {x off n q : Nat} (hq : q < n) : (pts (.ptr x off) n)[q]? = some (.ptr x (off + q)) := by
  unfold pts
  rw [List.getElem?_map, List.getElem?_range hq]; rfl
theorem zs_split {z : V} {n q : Nat} (hq : q < n) : zs z (n - q) = z :: zs z (n - (q + 1)) := by
  unfold zs
  rw [show n - q = (n - (q + 1)) + 1 by omega, List.replicate_succ]
theorem CodR.other {S S' : St} {c : Nat} {s : List UInt8} {i x : Nat} (h : CodR S c s i) (k : Keep2 S S' c x) {y : Nat} (hy : y < S.next) (h1 : y ≠ c) (h2 : y ≠ x) : S'.h.find y = S.h.find y := k.find y hy h1 h2
theorem lay1 {S : St} {x : Nat} {T U : TypeId} {A B : List V} {z v : V} {o : Nat} (hU : SzN Tryz.prog U 1) (ho : o = A.length) (h : S.h.find x = some (.box T (A ++ z :: B))) (hv : v.one = true) :
    ∃ S', storeE Tryz.prog U (.ptr x o) v S = some S' ∧ S'.h.find x = some (.box T (A ++ v :: B)) ∧ Keep2 S S' x x :=
  ⟨_, st_one h hv (splice_mid ho), by simp [Tr.find_put], Keep2.put _ _ _ _⟩
theorem scanF_rep {rec : Nat → Nat → Except Nat Nat} {s : List UInt8} {f : Ev.Fd} {q i j : Nat} (h : scanF rec s (List.replicate q f) i = .ok j) : scanF rec s (List.replicate (q + 1) f) i = scanF rec s [f] j := by
  rw [List.replicate_succ', scanF_app, h]
theorem scanF_int (rec : Nat → Nat → Except Nat Nat) (s : List UInt8) (i : Nat) : scanF rec s [.int] i = (match rdI s i with | none => .error i | some r => .ok r.2) := by
  simp only [scanF]; cases rdI s i <;> rfl
theorem scanF_str (rec : Nat → Nat → Except Nat Nat) (s : List UInt8) (i : Nat) : scanF rec s [.str] i = (match rdLen s i with | none => .error i | some r => .ok (r.2 + r.1)) := by
  simp only [scanF]; cases rdLen s i <;> rfl
theorem scanF_bool (rec : Nat → Nat → Except Nat Nat) (s : List UInt8) (i : Nat) : scanF rec s [.bool] i = (match rdI s i with | none => .error i | some r => if r.1 = 0 ∨ r.1 = 1 then .ok r.2 else .error i) := by
  simp only [scanF]; cases rdI s i <;> rfl
theorem scanF_more {rec : Nat → Nat → Except Nat Nat} {s : List UInt8} {f : Ev.Fd} {q n i b : Nat} (hq : q ≤ n) (h : scanF rec s (List.replicate q f) i = .error b) : scanF rec s (List.replicate n f) i = .error b :=
  scanF_err h (List.replicate (n - q) f) (by rw [List.replicate_append_replicate]; congr 1; omega)
structure RdN (S0 S : St) (c x : Nat) (s : List UInt8) (rec : Nat → Nat → Except Nat Nat) (f : Ev.Fd) (z : V) (T : TypeId) (L R : List V) (n i q j : Nat) (cs : List V) : Prop where
  cod : CodR S c s j
  sc : scanF rec s (List.replicate q f) i = .ok j
  box : S.h.find x = some (.box T ((L ++ cs) ++ (zs z (n - q) ++ R)))
  len : cs.length = q
  enc : Enc (List.replicate q f) cs (slc s i j)
  le : i + q ≤ j
  keep : Keep2 S0 S c x
theorem RdN.next {S0 S S' : St} {c x : Nat} {s : List UInt8} {rec : Nat → Nat → Except Nat Nat} {f : Ev.Fd} {z v : V} {T : TypeId} {L R : List V} {n i q j j' : Nat} {cs : List V} (h : RdN S0 S c x s rec f z T L R n i q j cs) (hq : q < n)
    (hc : CodR S' c s j') (hs : scanF rec s [f] j = .ok j') (hb : S'.h.find x = some (.box T ((L ++ cs) ++ v :: (zs z (n - (q + 1)) ++ R)))) (he : Enc [f] [v] (slc s j j')) (hl : j < j') (hk : Keep2 S S' c x) : RdN S0 S' c x s rec f z T L R n i (q + 1) j' (cs ++ [v]) :=
  ⟨hc, by rw [scanF_rep h.sc]; exact hs, by rw [hb]; simp, by simp [h.len], by
    rw [List.replicate_succ', ← slc_app (Nat.le_trans (Nat.le_add_right i q) h.le) (Nat.le_of_lt hl)]
    exact h.enc.app he, by have := h.le; omega, h.keep.trans hk⟩
theorem tk_len {α : Type} (l : List α) : l.length = l.length := rfl
theorem rints (k : Nat) (s : List UInt8) (lt : Option TypeId) (tk : Tk) (n : Nat) (hn : 0 < n) (hn2 : n < 1000) : GC 77 (fun c p => [c, .list lt 1 (pts p n) tk]) k s (List.replicate n .int) (zs (.int .i64 0) n) 0 := by
  refine ⟨?_⟩
  intro S c x i T L R off h ho hxc hx _ hbox
  refine CallTo.of (n := 26) Tryz.func77 rfl rfl ?_
  have hpl : (pts (.ptr x off) n).length = n := by simp [pts]
  repeat' first
   | refine Opl.val (op_lenL rfl rfl rfl) rfl ?_
   | refine .std ?_ | refine .nil ?_ | refine .seq ?_ | refine .region ?_ | refine .xs ?_ | refine .kb ?_ | refine .leaf ?_ | refine .block ?_ | refine .gn ?_ | refine .dr ?_ | fail
  have hE : Sub [(0, .ptr c 0), (7, .list lt 1 (pts (.ptr x off) n) tk), (8, .int .i64 n), (9, .int .i64 (0 : Nat))] ((9, V.int .i64 0) :: (8, V.int .i64 ↑(elems (.list lt 1 (pts (.ptr x off) n) tk)).length) :: (7, .list lt 1 (pts (.ptr x off) n) tk) :: envOf 0 [.ptr c 0, .list lt 1 (pts (.ptr x off) n) tk]) :=
    ⟨rfl, rfl, by simp [Env.get, elems, hpl], rfl, trivial⟩
  refine Go.weaken ?_ hE
  refine Go.loop_ind (α := Nat) (fun q => n - q) (fun q E S' => E = [(0, .ptr c 0), (7, .list lt 1 (pts (.ptr x off) n) tk), (8, .int .i64 n), (9, .int .i64 q)] ∧ q ≤ n ∧ ∃ j cs, RdN S S' c x s (scan s k) .int (.int .i64 0) T L R n i q j cs) ?_ 0 _ _ ⟨rfl, Nat.zero_le _, i, [], h, rfl, by simpa using hbox, rfl, by rw [slc_self]; exact Enc.nil, by simp, Keep2.refl _ _ _⟩
  rintro q E S1 ⟨rfl, hq, j, cs, h1⟩ IH
  repeat' first | refine .std ?_ | refine .nil ?_ | refine .seq ?_ | refine .region ?_ | refine .xs ?_ | refine .kb ?_ | refine .leaf ?_ | refine .block ?_ | refine .gn ?_ | refine .dr ?_ | fail
  refine Go.cond rfl (fun hq2 => ?_) (fun hq2 => ?_)
  · have hq2 : q < n := by have := of_decide_eq_true hq2; omega
    have hix := pts_get (x := x) (off := off) hq2
    have hbx := h1.box
    rw [zs_split hq2, List.cons_append] at hbx
    have hoq : off + q = (L ++ cs).length := by simp [ho, h1.len]
    have hpt := pt_mid hoq hbx
    have hpc : Pt S1 (.cptr none (V.ptr x (off + q)).cells 0) [.ptr x (off + q)] := Pt.cptr _ _ _
    repeat' first
     | refine Opl.val (op_ixaL rfl rfl hix) rfl ?_
     | refine Opl.call rfl (by kernel_rfl) (h1.cod.int 0 (by omega)) rfl (fun v S2 h2 => ?_) (fun v S2 h2 => ?_)
     | refine .std ?_ | refine .nil ?_ | refine .seq ?_ | refine .region ?_ | refine .xs ?_ | refine .kb ?_ | refine .leaf ?_ | refine .block ?_ | refine .gn ?_ | refine .dr ?_ | fail
    · obtain ⟨⟨m, j2⟩, hr, rfl, h2, k2⟩ := h2
      have hR := rdI_some hr
      have hpt2 := h2.pt
      have hb2 : S2.h.find x = some (.box T ((L ++ cs) ++ V.int .i64 0 :: (zs (.int .i64 0) (n - (q + 1)) ++ R))) := by rw [k2.find x (Nat.lt_of_lt_of_le hx h1.keep.next) hxc hxc]; exact hbx
      obtain ⟨S3, hst, hb3, k3⟩ := lay1 (U := 3) (v := .int .i64 m) inferInstance hoq hb2 rfl
      have h3 : CodR S3 c s j2 := h2.keep k3 hxc.symm
      repeat' first
       | refine Go.condT rfl ?_
       | refine Opl.eff (op_store rfl rfl hst) ?_
       | refine Opl.val (op_int rfl rfl rfl (inc_ok (i := q) (by omega))) rfl ?_
       | refine .std ?_ | refine .nil ?_ | refine .seq ?_ | refine .region ?_ | refine .xs ?_ | refine .kb ?_ | refine .leaf ?_ | refine .block ?_ | refine .gn ?_ | refine .dr ?_ | fail
      exact (IH (q + 1) _ S3 (by omega) ⟨rfl, by omega, j2, _, h1.next hq2 h3 (by rw [scanF_int, hr]) hb3 (by rw [hR.enc]; exact Enc.int hR.n) hR.lt ((k2.one x).trans ((k3.one c).swap))⟩).weaken ⟨rfl, rfl, rfl, rfl, trivial⟩
    · obtain ⟨hr, rfl, k2⟩ := h2
      exact At.fnp rfl ⟨j, scanF_more (q := q + 1) (by omega) (by rw [scanF_rep h1.sc, scanF_int, hr]), rfl, h1.keep.trans (k2.one x)⟩
  · have hq : q = n := by have := of_decide_eq_false hq2; omega
    subst hq
    repeat' first
     | refine At.fn rfl rfl rfl ?_
     | refine .std ?_ | refine .nil ?_ | refine .seq ?_ | refine .region ?_ | refine .xs ?_ | refine .kb ?_ | refine .leaf ?_ | refine .block ?_ | refine .gn ?_ | refine .dr ?_ | fail
    have hb := h1.box
    simp only [Nat.sub_self, zs, List.replicate_zero, List.nil_append, List.append_assoc] at hb
    exact ⟨j, cs, h1.sc, h1.cod, hb, by rw [h1.len]; simp [zs], h1.enc, by have := h1.le; omega, h1.keep⟩
theorem rkindValueKind (k : Nat) (s : List UInt8) : GC 105 (fun c p => [c, p]) k s [.int] [.int .i64 0] 0 := by
  refine ⟨?_⟩
  intro S c x i T L R off h ho hxc hx _ hbox
  refine CallTo.of (n := 17) Tryz.func105 rfl rfl ?_
  have hpt := pt_mid ho hbox
  repeat' first
   | refine Opl.call rfl (by kernel_rfl) (h.int 0 (by omega)) rfl (fun v S2 h2 => ?_) (fun v S2 h2 => ?_)
   | refine .std ?_ | refine .nil ?_ | refine .seq ?_ | refine .region ?_ | refine .xs ?_ | refine .kb ?_ | refine .leaf ?_ | refine .block ?_ | refine .gn ?_ | refine .dr ?_ | fail
  · obtain ⟨⟨m, j2⟩, hr, rfl, h2, k2⟩ := h2
    have hR := rdI_some hr
    have hpt2 := h2.pt
    have hb2 : S2.h.find x = some (.box T (L ++ V.int .i64 0 :: R)) := by rw [k2.find x hx hxc hxc]; exact hbox
    obtain ⟨S3, hst, hb3, k3⟩ := lay1 (U := 59) (v := .int .i64 m) inferInstance ho hb2 rfl
    repeat' first
     | refine Go.condT rfl ?_
     | refine Opl.eff (op_store rfl rfl hst) ?_
     | refine .std ?_ | refine .nil ?_ | refine .seq ?_ | refine .region ?_ | refine .xs ?_ | refine .kb ?_ | refine .leaf ?_ | refine .block ?_ | refine .gn ?_ | refine .dr ?_ | fail
    refine At.fn rfl rfl rfl ⟨j2, [.int .i64 m], by rw [scanF_int, hr], h2.keep k3 hxc.symm, hb3, rfl, by rw [hR.enc]; exact Enc.int hR.n, hR.lt, (k2.one x).trans ((k3.one c).swap)⟩
  · obtain ⟨hr, rfl, k2⟩ := h2
    exact At.fnp rfl ⟨i, by rw [scanF_int, hr], rfl, k2.one x⟩
theorem rkindSegKind (k : Nat) (s : List UInt8) : GC 135 (fun c p => [c, p]) k s [.int] [.int .i64 0] 0 := by
  refine ⟨?_⟩
  intro S c x i T L R off h ho hxc hx _ hbox
  refine CallTo.of (n := 17) Tryz.func135 rfl rfl ?_
  have hpt := pt_mid ho hbox
  repeat' first
   | refine Opl.call rfl (by kernel_rfl) (h.int 0 (by omega)) rfl (fun v S2 h2 => ?_) (fun v S2 h2 => ?_)
   | refine .std ?_ | refine .nil ?_ | refine .seq ?_ | refine .region ?_ | refine .xs ?_ | refine .kb ?_ | refine .leaf ?_ | refine .block ?_ | refine .gn ?_ | refine .dr ?_ | fail
  · obtain ⟨⟨m, j2⟩, hr, rfl, h2, k2⟩ := h2
    have hR := rdI_some hr
    have hpt2 := h2.pt
    have hb2 : S2.h.find x = some (.box T (L ++ V.int .i64 0 :: R)) := by rw [k2.find x hx hxc hxc]; exact hbox
    obtain ⟨S3, hst, hb3, k3⟩ := lay1 (U := 178) (v := .int .i64 m) inferInstance ho hb2 rfl
    repeat' first
     | refine Go.condT rfl ?_
     | refine Opl.eff (op_store rfl rfl hst) ?_
     | refine .std ?_ | refine .nil ?_ | refine .seq ?_ | refine .region ?_ | refine .xs ?_ | refine .kb ?_ | refine .leaf ?_ | refine .block ?_ | refine .gn ?_ | refine .dr ?_ | fail
    refine At.fn rfl rfl rfl ⟨j2, [.int .i64 m], by rw [scanF_int, hr], h2.keep k3 hxc.symm, hb3, rfl, by rw [hR.enc]; exact Enc.int hR.n, hR.lt, (k2.one x).trans ((k3.one c).swap)⟩
  · obtain ⟨hr, rfl, k2⟩ := h2
    exact At.fnp rfl ⟨i, by rw [scanF_int, hr], rfl, k2.one x⟩
theorem rkindOpcode (k : Nat) (s : List UInt8) : GC 81 (fun c p => [c, p]) k s [.int] [.int .i64 0] 0 := by
  refine ⟨?_⟩
  intro S c x i T L R off h ho hxc hx _ hbox
  refine CallTo.of (n := 17) Tryz.func81 rfl rfl ?_
  have hpt := pt_mid ho hbox
  repeat' first
   | refine Opl.call rfl (by kernel_rfl) (h.int 0 (by omega)) rfl (fun v S2 h2 => ?_) (fun v S2 h2 => ?_)
   | refine .std ?_ | refine .nil ?_ | refine .seq ?_ | refine .region ?_ | refine .xs ?_ | refine .kb ?_ | refine .leaf ?_ | refine .block ?_ | refine .gn ?_ | refine .dr ?_ | fail
  · obtain ⟨⟨m, j2⟩, hr, rfl, h2, k2⟩ := h2
    have hR := rdI_some hr
    have hpt2 := h2.pt
    have hb2 : S2.h.find x = some (.box T (L ++ V.int .i64 0 :: R)) := by rw [k2.find x hx hxc hxc]; exact hbox
    obtain ⟨S3, hst, hb3, k3⟩ := lay1 (U := 156) (v := .int .i64 m) inferInstance ho hb2 rfl
    repeat' first
     | refine Go.condT rfl ?_
     | refine Opl.eff (op_store rfl rfl hst) ?_
     | refine .std ?_ | refine .nil ?_ | refine .seq ?_ | refine .region ?_ | refine .xs ?_ | refine .kb ?_ | refine .leaf ?_ | refine .block ?_ | refine .gn ?_ | refine .dr ?_ | fail
    refine At.fn rfl rfl rfl ⟨j2, [.int .i64 m], by rw [scanF_int, hr], h2.keep k3 hxc.symm, hb3, rfl, by rw [hR.enc]; exact Enc.int hR.n, hR.lt, (k2.one x).trans ((k3.one c).swap)⟩
  · obtain ⟨hr, rfl, k2⟩ := h2
    exact At.fnp rfl ⟨i, by rw [scanF_int, hr], rfl, k2.one x⟩
theorem rkindEnd (k : Nat) (s : List UInt8) : GC 138 (fun c p => [c, p]) k s [.int] [.int .i64 0] 0 := by
  refine ⟨?_⟩
  intro S c x i T L R off h ho hxc hx _ hbox
  refine CallTo.of (n := 17) Tryz.func138 rfl rfl ?_
  have hpt := pt_mid ho hbox
  repeat' first
   | refine Opl.call rfl (by kernel_rfl) (h.int 0 (by omega)) rfl (fun v S2 h2 => ?_) (fun v S2 h2 => ?_)
   | refine .std ?_ | refine .nil ?_ | refine .seq ?_ | refine .region ?_ | refine .xs ?_ | refine .kb ?_ | refine .leaf ?_ | refine .block ?_ | refine .gn ?_ | refine .dr ?_ | fail
  · obtain ⟨⟨m, j2⟩, hr, rfl, h2, k2⟩ := h2
    have hR := rdI_some hr
    have hpt2 := h2.pt
    have hb2 : S2.h.find x = some (.box T (L ++ V.int .i64 0 :: R)) := by rw [k2.find x hx hxc hxc]; exact hbox
    obtain ⟨S3, hst, hb3, k3⟩ := lay1 (U := 50) (v := .int .i64 m) inferInstance ho hb2 rfl
    repeat' first
     | refine Go.condT rfl ?_
     | refine Opl.eff (op_store rfl rfl hst) ?_
     | refine .std ?_ | refine .nil ?_ | refine .seq ?_ | refine .region ?_ | refine .xs ?_ | refine .kb ?_ | refine .leaf ?_ | refine .block ?_ | refine .gn ?_ | refine .dr ?_ | fail
    refine At.fn rfl rfl rfl ⟨j2, [.int .i64 m], by rw [scanF_int, hr], h2.keep k3 hxc.symm, hb3, rfl, by rw [hR.enc]; exact Enc.int hR.n, hR.lt, (k2.one x).trans ((k3.one c).swap)⟩
  · obtain ⟨hr, rfl, k2⟩ := h2
    exact At.fnp rfl ⟨i, by rw [scanF_int, hr], rfl, k2.one x⟩
theorem rkindKind (k : Nat) (s : List UInt8) : GC 122 (fun c p => [c, p]) k s [.int] [.int .i64 0] 0 := by
  refine ⟨?_⟩
  intro S c x i T L R off h ho hxc hx _ hbox
  refine CallTo.of (n := 17) Tryz.func122 rfl rfl ?_
  have hpt := pt_mid ho hbox
  repeat' first
   | refine Opl.call rfl (by kernel_rfl) (h.int 0 (by omega)) rfl (fun v S2 h2 => ?_) (fun v S2 h2 => ?_)
   | refine .std ?_ | refine .nil ?_ | refine .seq ?_ | refine .region ?_ | refine .xs ?_ | refine .kb ?_ | refine .leaf ?_ | refine .block ?_ | refine .gn ?_ | refine .dr ?_ | fail
  · obtain ⟨⟨m, j2⟩, hr, rfl, h2, k2⟩ := h2
    have hR := rdI_some hr
    have hpt2 := h2.pt
    have hb2 : S2.h.find x = some (.box T (L ++ V.int .i64 0 :: R)) := by rw [k2.find x hx hxc hxc]; exact hbox
    obtain ⟨S3, hst, hb3, k3⟩ := lay1 (U := 25) (v := .int .i64 m) inferInstance ho hb2 rfl
    repeat' first
     | refine Go.condT rfl ?_
     | refine Opl.eff (op_store rfl rfl hst) ?_
     | refine .std ?_ | refine .nil ?_ | refine .seq ?_ | refine .region ?_ | refine .xs ?_ | refine .kb ?_ | refine .leaf ?_ | refine .block ?_ | refine .gn ?_ | refine .dr ?_ | fail
    refine At.fn rfl rfl rfl ⟨j2, [.int .i64 m], by rw [scanF_int, hr], h2.keep k3 hxc.symm, hb3, rfl, by rw [hR.enc]; exact Enc.int hR.n, hR.lt, (k2.one x).trans ((k3.one c).swap)⟩
  · obtain ⟨hr, rfl, k2⟩ := h2
    exact At.fnp rfl ⟨i, by rw [scanF_int, hr], rfl, k2.one x⟩
theorem rkindTypeKind (k : Nat) (s : List UInt8) : GC 144 (fun c p => [c, p]) k s [.int] [.int .i64 0] 0 := by
  refine ⟨?_⟩
  intro S c x i T L R off h ho hxc hx _ hbox
  refine CallTo.of (n := 17) Tryz.func144 rfl rfl ?_
  have hpt := pt_mid ho hbox
  repeat' first
   | refine Opl.call rfl (by kernel_rfl) (h.int 0 (by omega)) rfl (fun v S2 h2 => ?_) (fun v S2 h2 => ?_)
   | refine .std ?_ | refine .nil ?_ | refine .seq ?_ | refine .region ?_ | refine .xs ?_ | refine .kb ?_ | refine .leaf ?_ | refine .block ?_ | refine .gn ?_ | refine .dr ?_ | fail
  · obtain ⟨⟨m, j2⟩, hr, rfl, h2, k2⟩ := h2
    have hR := rdI_some hr
    have hpt2 := h2.pt
    have hb2 : S2.h.find x = some (.box T (L ++ V.int .i64 0 :: R)) := by rw [k2.find x hx hxc hxc]; exact hbox
    obtain ⟨S3, hst, hb3, k3⟩ := lay1 (U := 216) (v := .int .i64 m) inferInstance ho hb2 rfl
    repeat' first
     | refine Go.condT rfl ?_
     | refine Opl.eff (op_store rfl rfl hst) ?_
     | refine .std ?_ | refine .nil ?_ | refine .seq ?_ | refine .region ?_ | refine .xs ?_ | refine .kb ?_ | refine .leaf ?_ | refine .block ?_ | refine .gn ?_ | refine .dr ?_ | fail
    refine At.fn rfl rfl rfl ⟨j2, [.int .i64 m], by rw [scanF_int, hr], h2.keep k3 hxc.symm, hb3, rfl, by rw [hR.enc]; exact Enc.int hR.n, hR.lt, (k2.one x).trans ((k3.one c).swap)⟩
  · obtain ⟨hr, rfl, k2⟩ := h2
    exact At.fnp rfl ⟨i, by rw [scanF_int, hr], rfl, k2.one x⟩
theorem rbools (k : Nat) (s : List UInt8) (lt : Option TypeId) (tk : Tk) (n : Nat) (hn : 0 < n) (hn2 : n < 1000) : GC 78 (fun c p => [c, .list lt 1 (pts p n) tk]) k s (List.replicate n .bool) (zs (.bool false) n) 0 := by
  refine ⟨?_⟩
  intro S c x i T L R off h ho hxc hx _ hbox
  refine CallTo.of (n := 44) Tryz.func78 rfl rfl ?_
  have hpl : (pts (.ptr x off) n).length = n := by simp [pts]
  repeat' first
   | refine Opl.val (op_lenL rfl rfl rfl) rfl ?_
   | refine .std ?_ | refine .nil ?_ | refine .seq ?_ | refine .region ?_ | refine .xs ?_ | refine .kb ?_ | refine .leaf ?_ | refine .block ?_ | refine .gn ?_ | refine .dr ?_ | fail
  have hE : Sub [(0, .ptr c 0), (8, .list lt 1 (pts (.ptr x off) n) tk), (9, .int .i64 n), (10, .int .i64 (0 : Nat))] ((10, V.int .i64 0) :: (9, V.int .i64 ↑(elems (.list lt 1 (pts (.ptr x off) n) tk)).length) :: (8, .list lt 1 (pts (.ptr x off) n) tk) :: envOf 0 [.ptr c 0, .list lt 1 (pts (.ptr x off) n) tk]) :=
    ⟨rfl, rfl, by simp [Env.get, elems, hpl], rfl, trivial⟩
  refine Go.weaken ?_ hE
  refine Go.loop_ind (α := Nat) (fun q => n - q) (fun q E S' => E = [(0, .ptr c 0), (8, .list lt 1 (pts (.ptr x off) n) tk), (9, .int .i64 n), (10, .int .i64 q)] ∧ q ≤ n ∧ ∃ j cs, RdN S S' c x s (scan s k) .bool (.bool false) T L R n i q j cs) ?_ 0 _ _ ⟨rfl, Nat.zero_le _, i, [], h, rfl, by simpa using hbox, rfl, by rw [slc_self]; exact Enc.nil, by simp, Keep2.refl _ _ _⟩
  rintro q E S1 ⟨rfl, hq, j, cs, h1⟩ IH
  repeat' first | refine .std ?_ | refine .nil ?_ | refine .seq ?_ | refine .region ?_ | refine .xs ?_ | refine .kb ?_ | refine .leaf ?_ | refine .block ?_ | refine .gn ?_ | refine .dr ?_ | fail
  refine Go.cond rfl (fun hq2 => ?_) (fun hq2 => ?_)
  · have hq2 : q < n := by have := of_decide_eq_true hq2; omega
    have hix := pts_get (x := x) (off := off) hq2
    have hbx := h1.box
    rw [zs_split hq2, List.cons_append] at hbx
    have hoq : off + q = (L ++ cs).length := by simp [ho, h1.len]
    have hpt := pt_mid hoq hbx
    have hcpt := h1.cod.pt
    have hpc : Pt S1 (.cptr none (V.ptr x (off + q)).cells 0) [.ptr x (off + q)] := Pt.cptr _ _ _
    repeat' first
     | refine Opl.val (op_ixaL rfl rfl hix) rfl ?_
     | refine Go.condF rfl ?_
     | refine Opl.call rfl (by kernel_rfl) (h1.cod.int 0 (by omega)) rfl (fun v S2 h2 => ?_) (fun v S2 h2 => ?_)
     | refine .std ?_ | refine .nil ?_ | refine .seq ?_ | refine .region ?_ | refine .xs ?_ | refine .kb ?_ | refine .leaf ?_ | refine .block ?_ | refine .gn ?_ | refine .dr ?_ | fail
    · obtain ⟨⟨m, j2⟩, hr, rfl, h2, k2⟩ := h2
      have hR := rdI_some hr
      have hpt2 := h2.pt
      have hb2 : S2.h.find x = some (.box T ((L ++ cs) ++ V.bool false :: (zs (.bool false) (n - (q + 1)) ++ R))) := by rw [k2.find x (Nat.lt_of_lt_of_le hx h1.keep.next) hxc hxc]; exact hbx
      have hone : intOp .eql .i64 m 1 = some (.bool (decide (m = 1))) := eql_i rfl
      obtain ⟨S3, hst, hb3, k3⟩ := lay1 (U := 4) (v := .bool (decide (m = 1))) inferInstance hoq hb2 rfl
      have h3 : CodR S3 c s j2 := h2.keep k3 hxc.symm
      have rest : (m = 0 ∨ m = 1) → RdN S S3 c x s (scan s k) .bool (.bool false) T L R n i (q + 1) j2 (cs ++ [.bool (decide (m = 1))]) := fun hm =>
        h1.next hq2 h3 (by rw [scanF_bool, hr]; exact if_pos hm) hb3 (by
          rw [hR.enc]
          have : encI m = encB (decide (m = 1)) := by rcases hm with rfl | rfl <;> rfl
          simp only
          rw [this]; exact Enc.bool _) hR.lt ((k2.one x).trans ((k3.one c).swap))
      by_cases m0 : m = 0
      · have n0 : intOp .neq .i64 m 0 = some (.bool false) := neq_i (by rw [m0]; rfl)
        repeat' first
         | refine Opl.val (op_int rfl rfl rfl n0) rfl ?_
         | refine Opl.val (op_int rfl rfl rfl hone) rfl ?_
         | refine Go.condF rfl ?_
         | refine Opl.eff (op_store rfl rfl hst) ?_
         | refine Opl.val (op_int rfl rfl rfl (inc_ok (i := q) (by omega))) rfl ?_
         | refine .std ?_ | refine .nil ?_ | refine .seq ?_ | refine .region ?_ | refine .xs ?_ | refine .kb ?_ | refine .leaf ?_ | refine .block ?_ | refine .gn ?_ | refine .dr ?_ | fail
        exact (IH (q + 1) _ S3 (by omega) ⟨rfl, by omega, j2, _, rest (.inl m0)⟩).weaken ⟨rfl, rfl, rfl, rfl, trivial⟩
      · have n0 : intOp .neq .i64 m 0 = some (.bool true) := neq_i (by rw [decide_eq_false m0]; rfl)
        by_cases m1 : m = 1
        · have n1 : intOp .neq .i64 m 1 = some (.bool false) := neq_i (by rw [m1]; rfl)
          repeat' first
           | refine op_gyes rfl ?_ rfl
           | refine Opl.val (op_int rfl rfl rfl n0) rfl ?_
           | refine Opl.val (op_int rfl rfl rfl n1) rfl ?_
           | refine Opl.val (op_int rfl rfl rfl hone) rfl ?_
           | refine Go.condF rfl ?_
           | refine Opl.eff (op_store rfl rfl hst) ?_
           | refine Opl.val (op_int rfl rfl rfl (inc_ok (i := q) (by omega))) rfl ?_
           | refine .std ?_ | refine .nil ?_ | refine .seq ?_ | refine .region ?_ | refine .xs ?_ | refine .kb ?_ | refine .leaf ?_ | refine .block ?_ | refine .gn ?_ | refine .dr ?_ | fail
          exact (IH (q + 1) _ S3 (by omega) ⟨rfl, by omega, j2, _, rest (.inr m1)⟩).weaken ⟨rfl, rfl, rfl, rfl, trivial⟩
        · have n1 : intOp .neq .i64 m 1 = some (.bool true) := neq_i (by rw [decide_eq_false m1]; rfl)
          repeat' first
           | refine op_gyes rfl ?_ rfl
           | refine Opl.val (op_int rfl rfl rfl n0) rfl ?_
           | refine Opl.val (op_int rfl rfl rfl n1) rfl ?_
           | refine Go.condF rfl ?_
           | refine Go.condT rfl ?_
           | refine Opl.val (op_build1 rfl (bMal _)) rfl ?_
           | refine Opl.panic rfl ?_
           | refine .std ?_ | refine .nil ?_ | refine .seq ?_ | refine .region ?_ | refine .xs ?_ | refine .kb ?_ | refine .leaf ?_ | refine .block ?_ | refine .gn ?_ | refine .dr ?_ | fail
          exact At.fnp rfl ⟨j, scanF_more (q := q + 1) (by omega) (by rw [scanF_rep h1.sc, scanF_bool, hr]; exact if_neg (by simp only; omega)), rfl, h1.keep.trans (k2.one x)⟩
    · obtain ⟨hr, rfl, k2⟩ := h2
      exact At.fnp rfl ⟨j, scanF_more (q := q + 1) (by omega) (by rw [scanF_rep h1.sc, scanF_bool, hr]), rfl, h1.keep.trans (k2.one x)⟩
  · have hq : q = n := by have := of_decide_eq_false hq2; omega
    subst hq
    repeat' first
     | refine At.fn rfl rfl rfl ?_
     | refine .std ?_ | refine .nil ?_ | refine .seq ?_ | refine .region ?_ | refine .xs ?_ | refine .kb ?_ | refine .leaf ?_ | refine .block ?_ | refine .gn ?_ | refine .dr ?_ | fail
    have hb := h1.box
    simp only [Nat.sub_self, zs, List.replicate_zero, List.nil_append, List.append_assoc] at hb
    exact ⟨j, cs, h1.sc, h1.cod, hb, by rw [h1.len]; simp [zs], h1.enc, by have := h1.le; omega, h1.keep⟩
theorem op_slcS {ev : Operand → Option V} {S : St} {x y z : Operand} {t : TypeId} {s : List UInt8} {a b : Nat} [hs : IsStr Tryz.prog t] (h : ev x = some (.str s)) (h1 : ev y = some (.int .i64 a)) (h2 : ev z = some (.int .i64 b)) (hb : b ≤ s.length) (ha : a ≤ b) :
    opE Tryz.prog (.slice t x (some y) (some z) none) ev S = some (.str (slc s a b), S) := by
  have e : sliceE Tryz.prog t (.str s) (some (.int .i64 a)) (some (.int .i64 b)) none = some (.str (slc s a b)) := by
    simp only [sliceE, hs.h, sliceB, boundB]
    have : (s.take b).drop a = slc s a b := by unfold slc; rw [List.drop_take]
    rw [if_pos (by simp; omega), ]
    simp only [Int.toNat_natCast]
    rw [if_pos (by simp; omega)]
    simp only [Option.map, this]
  simp only [opE, h, h1, h2, Option.toList, mapO, List.head?, e, Option.map]
theorem rstrings (k : Nat) (s : List UInt8) (lt : Option TypeId) (tk : Tk) (n : Nat) (hn : 0 < n) (hn2 : n < 1000) : GC 65 (fun c p => [c, .list lt 1 (pts p n) tk]) k s (List.replicate n .str) (zs (.str []) n) 0 := by
  refine ⟨?_⟩
  intro S c x i T L R off h ho hxc hx _ hbox
  refine CallTo.of (n := 67) Tryz.func65 rfl rfl ?_
  have hpl : (pts (.ptr x off) n).length = n := by simp [pts]
  repeat' first
   | refine Opl.val (op_lenL rfl rfl rfl) rfl ?_
   | refine .std ?_ | refine .nil ?_ | refine .seq ?_ | refine .region ?_ | refine .xs ?_ | refine .kb ?_ | refine .leaf ?_ | refine .block ?_ | refine .gn ?_ | refine .dr ?_ | fail
  have hE : Sub [(0, .ptr c 0), (8, .list lt 1 (pts (.ptr x off) n) tk), (9, .int .i64 n), (10, .int .i64 (0 : Nat))] ((10, V.int .i64 0) :: (9, V.int .i64 ↑(elems (.list lt 1 (pts (.ptr x off) n) tk)).length) :: (8, .list lt 1 (pts (.ptr x off) n) tk) :: envOf 0 [.ptr c 0, .list lt 1 (pts (.ptr x off) n) tk]) :=
    ⟨rfl, rfl, by simp [Env.get, elems, hpl], rfl, trivial⟩
  refine Go.weaken ?_ hE
  refine Go.loop_ind (α := Nat) (fun q => n - q) (fun q E S' => E = [(0, .ptr c 0), (8, .list lt 1 (pts (.ptr x off) n) tk), (9, .int .i64 n), (10, .int .i64 q)] ∧ q ≤ n ∧ ∃ j cs, RdN S S' c x s (scan s k) .str (.str []) T L R n i q j cs) ?_ 0 _ _ ⟨rfl, Nat.zero_le _, i, [], h, rfl, by simpa using hbox, rfl, by rw [slc_self]; exact Enc.nil, by simp, Keep2.refl _ _ _⟩
  rintro q E S1 ⟨rfl, hq, j, cs, h1⟩ IH
  repeat' first | refine .std ?_ | refine .nil ?_ | refine .seq ?_ | refine .region ?_ | refine .xs ?_ | refine .kb ?_ | refine .leaf ?_ | refine .block ?_ | refine .gn ?_ | refine .dr ?_ | fail
  refine Go.cond rfl (fun hq2 => ?_) (fun hq2 => ?_)
  · have hq2 : q < n := by have := of_decide_eq_true hq2; omega
    have hix := pts_get (x := x) (off := off) hq2
    have hbx := h1.box
    rw [zs_split hq2, List.cons_append] at hbx
    have hoq : off + q = (L ++ cs).length := by simp [ho, h1.len]
    have hpt := pt_mid hoq hbx
    have hpc : Pt S1 (.cptr none (V.ptr x (off + q)).cells 0) [.ptr x (off + q)] := Pt.cptr _ _ _
    repeat' first
     | refine Opl.val (op_ixaL rfl rfl hix) rfl ?_
     | refine Opl.call rfl (by kernel_rfl) (h1.cod.length 0 (by omega)) rfl (fun v S2 h2 => ?_) (fun v S2 h2 => ?_)
     | refine .std ?_ | refine .nil ?_ | refine .seq ?_ | refine .region ?_ | refine .xs ?_ | refine .kb ?_ | refine .leaf ?_ | refine .block ?_ | refine .gn ?_ | refine .dr ?_ | fail
    · obtain ⟨⟨m, j2⟩, hr, rfl, h2, k2⟩ := h2
      obtain ⟨hR, hle⟩ := rdLen_some hr
      simp only at hR hle h2
      have hpt2 := h2.pt
      have hsm := h2.small
      have hb2 : S2.h.find x = some (.box T ((L ++ cs) ++ V.str [] :: (zs (.str []) (n - (q + 1)) ++ R))) := by rw [k2.find x (Nat.lt_of_lt_of_le hx h1.keep.next) hxc hxc]; exact hbx
      obtain ⟨S3, hst, hb3, k3⟩ := lay1 (U := 9) (v := .str (slc s j2 (j2 + m))) inferInstance hoq hb2 rfl
      have h3 : CodR S3 c s j2 := h2.keep k3 hxc.symm
      have hpt3 := h3.pt
      obtain ⟨S4, hst4, h4, k4⟩ := h3.set (j2 + m) hle
      have hb4 : S4.h.find x = some (.box T ((L ++ cs) ++ V.str (slc s j2 (j2 + m)) :: (zs (.str []) (n - (q + 1)) ++ R))) := by
        rw [k4.find x (Nat.lt_of_lt_of_le (Nat.lt_of_lt_of_le hx h1.keep.next) (Nat.le_trans k2.next k3.next)) hxc hxc]; exact hb3
      have hadd : intOp .add .i64 (j2 : Int) (m : Int) = some (.int .i64 ((j2 + m : Nat) : Int)) := by
        simp only [intOp]; rw [wrap_i64_id (by constructor <;> omega)]; rfl
      repeat' first
       | refine Go.condT rfl ?_
       | refine Opl.val (op_int rfl rfl rfl hadd) rfl ?_
       | refine Opl.val (op_slcS rfl rfl rfl hle (Nat.le_add_right _ _)) rfl ?_
       | refine Opl.eff (op_store rfl rfl hst) ?_
       | refine Opl.eff (op_store rfl rfl hst4) ?_
       | refine Opl.val (op_int rfl rfl rfl (inc_ok (i := q) (by omega))) rfl ?_
       | refine .std ?_ | refine .nil ?_ | refine .seq ?_ | refine .region ?_ | refine .xs ?_ | refine .kb ?_ | refine .leaf ?_ | refine .block ?_ | refine .gn ?_ | refine .dr ?_ | fail
      refine (IH (q + 1) _ S4 (by omega) ⟨rfl, by omega, j2 + m, _, h1.next hq2 h4 (by rw [scanF_str, hr]) hb4 ?_ (by have := hR.lt; omega) (((k2.one x).trans ((k3.one c).swap)).trans (k4.one x))⟩).weaken ⟨rfl, rfl, rfl, rfl, trivial⟩
      rw [← slc_app (Nat.le_of_lt hR.lt) (Nat.le_add_right j2 m), hR.enc]
      have hl : (slc s j2 (j2 + m)).length = m := by rw [slc_len hle]; omega
      have he := Enc.str (s := slc s j2 (j2 + m)) (by omega)
      unfold encS at he
      rw [hl] at he
      exact he
    · obtain ⟨hr, rfl, k2⟩ := h2
      exact At.fnp rfl ⟨j, scanF_more (q := q + 1) (by omega) (by rw [scanF_rep h1.sc, scanF_str, hr]), rfl, h1.keep.trans (k2.one x)⟩
  · have hq : q = n := by have := of_decide_eq_false hq2; omega
    subst hq
    repeat' first
     | refine At.fn rfl rfl rfl ?_
     | refine .std ?_ | refine .nil ?_ | refine .seq ?_ | refine .region ?_ | refine .xs ?_ | refine .kb ?_ | refine .leaf ?_ | refine .block ?_ | refine .gn ?_ | refine .dr ?_ | fail
    have hb := h1.box
    simp only [Nat.sub_self, zs, List.replicate_zero, List.nil_append, List.append_assoc] at hb
    exact ⟨j, cs, h1.sc, h1.cod, hb, by rw [h1.len]; simp [zs], h1.enc, by have := h1.le; omega, h1.keep⟩
end Go.Proofs.YtilldjgagokcfaaGreat
