import Derived.Test.YtilldjgagokcfaaGreatD2
import Derived.Test.YtilldjgagokcfaaGreatE9
set_option linter.unusedVariables false
set_option linter.unusedSimpArgs false
namespace Go.Ev
open Go.RowKit
theorem Enc.unsub {t : Nat} {cs : List V} {bs : List UInt8} (h : Enc [.sub t] cs bs) : Enc (sch t) cs bs := by
  obtain ⟨d, h⟩ := h
  obtain ⟨d', c1, b1, cs', bs', hd, h1, hc, rfl, rfl, h2⟩ := h.invT
  obtain ⟨rfl, rfl⟩ := h2.invN
  exact ⟨d', by simpa using h1⟩
theorem Enc.ones {fs : List Fd} {cs : List V} {bs : List UInt8} (h : Enc fs cs bs) : cs.all V.one = true := by
  obtain ⟨d, h⟩ := h
  exact h.ones
theorem cells1 {cs : List V} (h : cs.length = 1) (h1 : cs.all V.one = true) : ∃ u, cs = [u] ∧ u.cells = [u] ∧ u.one = true := by
  match cs, h with
  | [u], _ =>
    have hu : u.one = true := by simpa using h1
    exact ⟨u, rfl, by cases u <;> first | rfl | (cases hu; done), hu⟩
theorem mapO_one {α β : Type} {f : α → Option β} {a : α} {b : β} (h : f a = some b) : mapO f [a] = some [b] := by simp [mapO, h]
section
variable {P : Program}
theorem bsl_one {T u e : TypeId} {n bytes : Nat} {a : Bool} (ha : App P T u e n a bytes) {v : V} (hn : n ≤ 1000) (hv : v.cells.length = n) (h : if a = true then V.agg v.cells = v else v.one = true) : buildSliceE P T 1 [(0, v)] = some (.list (some e) n [v] .exact) := by
  obtain ⟨i, ud, z, h1, h2, h3, h4, h5, h6, h7, h8, h9⟩ := ha.inf
  subst h2 h3
  have hs : szOf P e = some i.size := by simp [szOf, h1]
  unfold buildSliceE
  simp only [ha.el, hs, h4, h7, h8, Nat.beq_refl, Nat.ble_eq_true_of_le h9, Bool.true_and]
  rw [if_pos (by simp; omega)]
  have hf : fillE (fun j => some (j * i.size, i.size)) (reps z.cells 1) [(0, v)] = some v.cells := by
    simp only [fillE, reps, Nat.zero_mul, hv, Nat.beq_refl, if_true, List.append_nil]
    have : splice z.cells 0 v.cells = some v.cells := by
      unfold splice
      rw [if_pos (Nat.ble_eq_true_of_le (by omega))]
      simp only [List.take_zero, List.nil_append, Nat.zero_add, hv, ← h8, List.drop_length, List.append_nil]
    rw [this]
  rw [hf]
  have hc : cut v.cells 0 i.size = some v.cells := by simp [cut, ← hv]
  have hch : chunk a i.size v.cells 1 = some [v] := by
    cases a with
    | true =>
      simp only [if_true] at h
      simp only [chunk, hc, h]
    | false =>
      simp only [Bool.false_eq_true, if_false] at h
      have hcell : v.cells = [v] := by cases v <;> first | rfl | (cases h; done)
      rw [hcell] at hc ⊢
      simp only [chunk, hc, h, if_true]
  simp only [hch, Option.map]
def Grow (S : St) (lo : Nat) (te n q : Nat) (v : V) : Prop := (q = 0 ∧ v = .nils) ∨ ∃ es id, v = .list (some te) n es (.own id) ∧ S.h.find id = some .tok ∧ lo ≤ id ∧ id < S.next ∧ es.length = q ∧ 0 < q
theorem Grow.one {S : St} {lo te n q : Nat} {v : V} (h : Grow S lo te n q v) : v.one = true := by
  rcases h with ⟨_, rfl⟩ | ⟨es, id, rfl, _⟩ <;> rfl
theorem Grow.isL {S : St} {lo te n q : Nat} {v : V} (h : Grow S lo te n q v) : isL v = true := by
  rcases h with ⟨_, rfl⟩ | ⟨es, id, rfl, _⟩ <;> rfl
theorem Grow.isLn {S : St} {lo te n q : Nat} {v : V} (h : Grow S lo te n q v) : isLn n v := by
  rcases h with ⟨_, rfl⟩ | ⟨es, id, rfl, _⟩
  · exact .inl rfl
  · exact .inr (.inr ⟨_, _, _, rfl⟩)
theorem Grow.len {S : St} {lo te n q : Nat} {v : V} (h : Grow S lo te n q v) : (elems v).length = q := by
  rcases h with ⟨rfl, rfl⟩ | ⟨es, id, rfl, _, _, _, h, _⟩
  · rfl
  · exact h
theorem Grow.keep {S S' : St} {lo te n q c x : Nat} {v : V} (h : Grow S lo te n q v) (k : Keep2 S S' c x) (hc : ∀ id, S.h.find id = some .tok → id ≠ c ∧ id ≠ x) : Grow S' lo te n q v := by
  rcases h with h | ⟨es, id, h1, h2, h3, h4, h5⟩
  · exact .inl h
  · exact .inr ⟨es, id, h1, by rw [k.find id h4 (hc id h2).1 (hc id h2).2]; exact h2, h3, Nat.lt_of_lt_of_le h4 k.next, h5⟩
theorem Grow.lenE {S : St} {lo te n q : Nat} {v : V} (h : Grow S lo te n q v) {T u : TypeId} [ht : ElT P T u] : lenE P T v = some (.int .i64 (((elems v).length : Nat) : Int)) := by
  rcases h with ⟨_, rfl⟩ | ⟨es, id, rfl, _⟩
  · simp only [Ev.lenE, ht.h, elems]; rfl
  · simp only [Ev.lenE, ht.h, elems]
theorem grow_app {S : St} {lo q x off : Nat} {te TL T : TypeId} {n bytes : Nat} {a : Bool} (ha : App P TL TL te n a bytes) (hz : SzN P TL 1) (hby : bytes ≤ 1000) (hq : q ≤ 200000) {L R : List V} {v xv : V} (hv : Grow S lo te n q v) (hlo : lo ≤ S.next)
    (ho : off = L.length) (hx : x < S.next) (hb : S.h.find x = some (.box T (L ++ v :: R))) (hc : xv.cells.length = n) (h1 : xv.cells.all V.one = true) :
    ∃ v' S3 S4, appendE P TL TL v (.list (some te) n [xv] .exact) S = some (v', S3) ∧ (∀ id t cs, id < S.next → S.h.find id = some (.box t cs) → S3.h.find id = some (.box t cs)) ∧ storeE P TL (.ptr x off) v' S3 = some S4 ∧ S4.h.find x = some (.box T (L ++ v' :: R)) ∧
      Grow S4 lo te n (q + 1) v' ∧ elems v' = elems v ++ [xv] ∧ S.next ≤ S4.next ∧ (∀ id, id < S.next → id < lo → id ≠ x → S4.h.find id = S.h.find id) ∧ (∀ id t cs, id < S.next → id ≠ x → S.h.find id = some (.box t cs) → S4.h.find id = some (.box t cs)) := by
  have hrd : readS S a n (.list (some te) n [xv] .exact) = some [xv] := by simp only [readS, Nat.beq_refl, if_true]
  have hall : ∀ z ∈ [xv], z.cells.length = n ∧ z.cells.all V.one = true := by
    intro z hz; simp only [List.mem_cons, List.not_mem_nil, or_false] at hz; subst hz; exact ⟨hc, h1⟩
  have hroom : ∀ m, m ≤ 1000000 → roomOk m bytes = true := fun m hm => by
    unfold roomOk
    have : m * bytes ≤ 1000000 * 1000 := Nat.mul_le_mul hm hby
    simp only [Bool.and_eq_true]
    exact ⟨Nat.ble_eq_true_of_le (by omega), Nat.ble_eq_true_of_le (by omega)⟩
  rcases hv with ⟨rfl, rfl⟩ | ⟨es, tid, rfl, htok, hid1, hid2, hlen, hq0⟩
  · have happ := app_nil (P := P) (t := TL) (u := TL) (S := S) hrd hall rfl (hroom 1 (by omega))
    have hb3 : (S.new .tok).h.find x = some (.box T (L ++ V.nils :: R)) := by simp only [St.new, Tr.find_put, if_neg (Nat.ne_of_lt hx)]; exact hb
    have hnx : S.next ≠ x := by omega
    refine ⟨_, _, _, happ, fun id t cs hl h => ?_, st_one hb3 rfl (splice_mid ho), by simp [Tr.find_put], .inr ⟨[xv], S.next, rfl, ?_, hlo, by simp [St.new], rfl, by omega⟩, rfl, by simp [St.new], fun id h2 h3 h4 => ?_, fun id t cs hl h2 h3 => ?_⟩
    · simp only [St.new, Tr.find_put, if_neg (Nat.ne_of_lt hl)]; exact h
    · simp only [St.new, Tr.find_put, if_neg hnx, if_true]
    · simp only [St.new, Tr.find_put, if_neg h4, if_neg (Nat.ne_of_lt h2)]
    · simp only [St.new, Tr.find_put, if_neg h2, if_neg (Nat.ne_of_lt hl)]; exact h3
  · have happ := app_own (P := P) (t := TL) (u := TL) (es := es) htok hrd hall rfl (hroom (es.length + 1) (by omega))
    have htx : x ≠ tid := by rintro rfl; rw [hb] at htok; cases htok
    have hbt : ∀ id t cs, S.h.find id = some (.box t cs) → id ≠ tid := fun id t cs h => by rintro rfl; rw [h] at htok; cases htok
    have hb3 : (St.new { S with h := S.h.del tid } .tok).h.find x = some (.box T (L ++ V.list (some te) n es (.own tid) :: R)) := by simp only [St.new, Tr.find_put, if_neg (Nat.ne_of_lt hx), Tr.find_del, if_neg htx]; exact hb
    have hnx : S.next ≠ x := by omega
    refine ⟨_, _, _, happ, fun id t cs hl h => ?_, st_one hb3 rfl (splice_mid ho), by simp [Tr.find_put], .inr ⟨es ++ [xv], S.next, rfl, ?_, hlo, by simp [St.new], by simp [hlen], by omega⟩, rfl, by simp [St.new], fun id h2 h3 h4 => ?_, fun id t cs hl h2 h3 => ?_⟩
    · simp only [St.new, Tr.find_put, if_neg (Nat.ne_of_lt hl), Tr.find_del, if_neg (hbt id t cs h)]; exact h
    · simp only [St.new, Tr.find_put, if_neg hnx, if_true]
    · have : id ≠ tid := by omega
      simp only [St.new, Tr.find_put, if_neg h4, if_neg (Nat.ne_of_lt h2), Tr.find_del, if_neg this]
    · simp only [St.new, Tr.find_put, if_neg h2, if_neg (Nat.ne_of_lt hl), Tr.find_del, if_neg (hbt id t cs h3)]; exact h3
end
end Go.Ev
namespace Go.Proofs.YtilldjgagokcfaaGreat
open Go.RowKit Go.Ev
set_option maxRecDepth 100000
set_option linter.unusedVariables false
structure RdL (S0 S : St) (c x : Nat) (s : List UInt8) (f : Nat → Except Nat Nat) (t te n : Nat) (T : TypeId) (L R : List V) (i1 q j : Nat) (v : V) : Prop where
  cod : CodR S c s j
  sc : scanL f q i1 = .ok j
  box : S.h.find x = some (.box T (L ++ v :: R))
  grow : Grow S S0.next te n q v
  enc : EncE t (elems v) (slc s i1 j)
  le : i1 + q ≤ j
  keep : Keep2 S0 S c x
theorem RdL.done {S0 S : St} {c x : Nat} {s : List UInt8} {k t te i0 i1 q j : Nat} {T : TypeId} {L R : List V} {v : V} (h : RdL S0 S c x s (scan s k t) t te (szs t) T L R i1 q j v) (hr : rdLen s i0 = some (q, i1)) :
    ∃ j' cs, scanF (scan s k) s [.list t] i0 = .ok j' ∧ CodR S c s j' ∧ S.h.find x = some (.box T (L ++ (cs ++ R))) ∧ cs.length = [V.nils].length ∧ Enc [.list t] cs (slc s i0 j') ∧ i0 < j' ∧ Keep2 S0 S c x := by
  obtain ⟨hR, hle⟩ := rdLen_some hr
  have hlt := hR.lt
  have hlej := h.le
  have hsm := h.cod.small
  simp only at hR hle hlt
  refine ⟨j, [v], ?_, h.cod, h.box, rfl, ?_, by omega, h.keep⟩
  · simp only [scanF, hr, h.sc]
  · rw [← slc_app (Nat.le_of_lt hlt) (by omega : i1 ≤ j), hR.enc]
    have hl := h.grow.len
    have := Enc.list (t := t) h.grow.isLn (by omega) h.enc
    rw [hl] at this
    exact this
theorem scanF_lerr {s : List UInt8} {k t i0 i1 n q b : Nat} (hr : rdLen s i0 = some (n, i1)) (hq : q < n) {j : Nat} (h1 : scanL (scan s k t) q i1 = .ok j) (h2 : scan s k t j = .error b) : scanF (scan s k) s [.list t] i0 = .error b := by
  have h3 := scanL_snoc _ _ _ _ h1
  rw [h2] at h3
  have h4 := scanL_err _ (n - (q + 1)) _ _ _ h3
  rw [show q + 1 + (n - (q + 1)) = n by omega] at h4
  simp only [scanF, hr, h4]
theorem CodR.ofBox {S S' : St} {c : Nat} {s : List UInt8} {i : Nat} (h : CodR S c s i) (hn : S.next ≤ S'.next) (hb : ∀ t cs, S.h.find c = some (.box t cs) → S'.h.find c = some (.box t cs)) : CodR S' c s i :=
  ⟨Nat.lt_of_lt_of_le h.lt hn, h.le, h.small, hb _ _ h.box⟩
theorem rlist181 (k : Nat) (s : List UInt8) {g : FuncId} (hg : hasBody Tryz.prog g = true) (he : GC g (fun c p => [c, p]) k s [.sub 3] (zc 3) 1) : GC 96 (fun c p => [c, p, .func g [] []]) k s [.list 3] [.nils] 0 := by
  refine ⟨?_⟩
  intro S c x i T L R off h ho hxc hx hk hbox
  refine CallTo.of (n := 48) Tryz.func96 rfl rfl ?_
  have hcpt := h.pt
  have hpt := pt_mid (z := .nils) ho hbox
  repeat' first
   | refine Opl.val (op_lenL rfl rfl rfl) rfl ?_
   | refine Opl.call rfl (by kernel_rfl) (h.length _ (Int.natCast_nonneg _)) rfl (fun v S1 h1 => ?_) (fun v S1 h1 => ?_)
   | refine .std ?_ | refine .nil ?_ | refine .seq ?_ | refine .region ?_ | refine .xs ?_ | refine .kb ?_ | refine .leaf ?_ | refine .block ?_ | refine .gn ?_ | refine .dr ?_ | fail
  · obtain ⟨⟨n, i1⟩, hr, rfl, h1, k1⟩ := h1
    obtain ⟨hR, hle⟩ := rdLen_some hr
    simp only at hR hle h1
    have hlt := hR.lt
    have hsm := h1.small
    have hpt1 := h1.pt
    repeat' first
     | refine Go.condF rfl ?_
     | refine .std ?_ | refine .nil ?_ | refine .seq ?_ | refine .region ?_ | refine .xs ?_ | refine .kb ?_ | refine .leaf ?_ | refine .block ?_ | refine .gn ?_ | refine .dr ?_ | fail
    refine Go.weaken (E' := [(0, .ptr c 0), (1, .ptr x off), (2, .func g [] []), (33, .int .i64 n), (34, .int .i64 (0 : Nat))]) ?_ ⟨rfl, rfl, rfl, rfl, rfl, trivial⟩
    refine Go.loop_ind (α := Nat) (fun q => n - q) (fun q E S' => E = [(0, .ptr c 0), (1, .ptr x off), (2, .func g [] []), (33, .int .i64 n), (34, .int .i64 q)] ∧ q ≤ n ∧ ∃ j v, RdL S S' c x s (scan s k 3) 3 181 5 T L R i1 q j v) ?_ 0 _ _
      ⟨rfl, Nat.zero_le _, i1, .nils, h1, rfl, by rw [k1.find x hx hxc hxc]; exact hbox, .inl ⟨rfl, rfl⟩, by rw [slc_self]; exact EncE.nil _, by omega, k1.one x⟩
    rintro q E S2 ⟨rfl, hq, j, v, h2⟩ IH
    repeat' first | refine .std ?_ | refine .nil ?_ | refine .seq ?_ | refine .region ?_ | refine .xs ?_ | refine .kb ?_ | refine .leaf ?_ | refine .block ?_ | refine .gn ?_ | refine .dr ?_ | fail
    refine Go.cond rfl (fun hq2 => ?_) (fun hq2 => ?_)
    · have hq2 : q < n := by have := of_decide_eq_true hq2; omega
      have hxl2 : x < S2.next := Nat.lt_of_lt_of_le hx h2.keep.next
      have hc2 : CodR (S2.new (.box 181 (zc 3))) c s j := h2.cod.ofBox (by simp [St.new]) fun t cs hb => by simp only [St.new, Tr.find_put, if_neg (Nat.ne_of_lt h2.cod.lt)]; exact hb
      have hzb : (S2.new (.box 181 (zc 3))).h.find S2.next = some (.box 181 ([] ++ (zc 3 ++ []))) := by simp [St.new, Tr.find_put]
      have hlej := h2.le
      have hjle := h2.cod.le
      have hcall := he.h hc2 (x := S2.next) (off := 0) rfl (by have := h2.cod.lt; omega) (by simp [St.new]) (by omega) hzb
      repeat' first
       | refine Go.hold 11 ?_
       | refine Opl.val op_alloc rfl ?_
       | refine Opl.call rfl hg hcall rfl (fun v3 S3 h3 => ?_) (fun v3 S3 h3 => ?_)
       | refine .std ?_ | refine .nil ?_ | refine .seq ?_ | refine .region ?_ | refine .xs ?_ | refine .kb ?_ | refine .leaf ?_ | refine .block ?_ | refine .gn ?_ | refine .dr ?_ | fail
      · refine ⟨?_⟩
        obtain ⟨j3, cs, hsc, hc3, hb3, hcl, henc, hlt3, k3⟩ := h3
        simp only [List.nil_append, List.append_nil] at hb3
        rw [scanF_sub] at hsc
        have hn3 := k3.next
        simp only [St.new] at hn3
        have hx3 : S3.h.find x = some (.box T (L ++ v :: R)) := by
          rw [k3.find x (by simp [St.new]; omega) hxc (by omega)]
          simp only [St.new, Tr.find_put, if_neg (Nat.ne_of_lt hxl2)]; exact h2.box
        have hg3 : Grow S3 S.next 181 5 q v := by
          rcases h2.grow with hg | ⟨es, tid, g1, g2, g3, g4, g5⟩
          · exact .inl hg
          · refine .inr ⟨es, tid, g1, ?_, g3, by omega, g5⟩
            have hne : tid ≠ c := by rintro rfl; rw [h2.cod.box] at g2; cases g2
            rw [k3.find tid (by simp [St.new]; omega) hne (by omega)]
            simp only [St.new, Tr.find_put, if_neg (Nat.ne_of_lt g4)]; exact g2
        have hn0 := h2.keep.next
        have henc1 := henc.unsub
        have hcl2 : cs.length = 5 := hcl
        skip
        obtain ⟨v', S4, S5, happ, hk4, hst, hb5, hg5, hel, hn5, hold, hbx5⟩ := grow_app (P := Tryz.prog) (xv := .agg cs) (App.of (P := Tryz.prog) (t := 48) (u := 48) (e := 181) (n := 5) (ag := true) (bytes := 80) (by kernel_rfl)) inferInstance (by decide) (by omega) hg3 (by omega) ho (by omega) hx3 hcl2 henc1.ones
        have hptl := pt_mid (z := v) ho hx3
        have hpte : Pt S3 (.ptr S2.next 0) cs := ⟨_, _, hb3, fun i v h => by simpa using h⟩
        have hbs := bsl_one (P := Tryz.prog) (v := .agg cs) (App.of (P := Tryz.prog) (t := 48) (u := 48) (e := 181) (n := 5) (ag := true) (bytes := 80) (by kernel_rfl)) (by decide) hcl2 rfl
        repeat' first
         | refine Opl.val (op_load rfl (ld_agg hpte hcl2)) rfl ?_
         | refine Opl.val (op_buildSlice1 rfl hbs) rfl ?_
         | refine Opl.val (op_app rfl rfl happ) rfl ?_
         | refine Opl.eff (op_store rfl rfl hst) ?_
         | refine Opl.val (op_int rfl rfl rfl (inc_ok (i := q) (by omega))) rfl ?_
         | refine Go.drawAt [1, 2, 3, 4, 5, 6, 0, 7, 8] (by kernel_rfl) ?_
         | refine .std ?_ | refine .nil ?_ | refine .seq ?_ | refine .region ?_ | refine .xs ?_ | refine .kb ?_ | refine .leaf ?_ | refine .block ?_ | refine .gn ?_ | refine .dr ?_ | fail
        refine (IH (q + 1) _ S5 (by omega) ⟨rfl, by omega, j3, v', hc3.ofBox (by omega) fun t cs hb => hbx5 c t cs (by have := hc3.lt; omega) hxc.symm hb, by rw [scanL_snoc _ _ _ _ h2.sc]; exact hsc, hb5, hg5, ?_, by omega, ?_⟩).weaken ⟨rfl, rfl, rfl, rfl, rfl, trivial⟩
        · rw [hel, ← slc_app (by omega : i1 ≤ j) (Nat.le_of_lt hlt3)]
          exact h2.enc.snoc henc1
        · refine ⟨by omega, fun id h4 h5 h6 => ?_⟩
          rw [hold id (by omega) (by omega) h6, k3.find id (by simp [St.new]; omega) h5 (by omega), ← h2.keep.find id h4 h5 h6]
          have : id ≠ S2.next := by omega
          simp only [St.new, Tr.find_put, if_neg this]
      · obtain ⟨b, hsc, rfl, k3⟩ := h3
        rw [scanF_sub] at hsc
        refine At.fnp rfl ⟨b, scanF_lerr hr hq2 h2.sc hsc, rfl, ?_⟩
        have hn3 := k3.next
        simp only [St.new] at hn3
        have hn0 := h2.keep.next
        refine ⟨by omega, fun id h4 h5 h6 => ?_⟩
        rw [k3.find id (by simp [St.new]; omega) h5 (by omega), ← h2.keep.find id h4 h5 h6]
        have : id ≠ S2.next := by omega
        simp only [St.new, Tr.find_put, if_neg this]
    · have hq : q = n := by have := of_decide_eq_false hq2; omega
      subst hq
      repeat' first
       | refine At.fn rfl rfl rfl ?_
       | refine .std ?_ | refine .nil ?_ | refine .seq ?_ | refine .region ?_ | refine .xs ?_ | refine .kb ?_ | refine .leaf ?_ | refine .block ?_ | refine .gn ?_ | refine .dr ?_ | fail
      exact h2.done hr
  · obtain ⟨hr, rfl, k1⟩ := h1
    exact At.fnp rfl ⟨i, by simp only [scanF, hr], rfl, k1.one x⟩
theorem rlist259 (k : Nat) (s : List UInt8) {g : FuncId} (hg : hasBody Tryz.prog g = true) (he : GC g (fun c p => [c, p]) k s [.sub 4] (zc 4) 1) : GC 136 (fun c p => [c, p, .func g [] []]) k s [.list 4] [.nils] 0 := by
  refine ⟨?_⟩
  intro S c x i T L R off h ho hxc hx hk hbox
  refine CallTo.of (n := 48) Tryz.func136 rfl rfl ?_
  have hcpt := h.pt
  have hpt := pt_mid (z := .nils) ho hbox
  repeat' first
   | refine Opl.val (op_lenL rfl rfl rfl) rfl ?_
   | refine Opl.call rfl (by kernel_rfl) (h.length _ (Int.natCast_nonneg _)) rfl (fun v S1 h1 => ?_) (fun v S1 h1 => ?_)
   | refine .std ?_ | refine .nil ?_ | refine .seq ?_ | refine .region ?_ | refine .xs ?_ | refine .kb ?_ | refine .leaf ?_ | refine .block ?_ | refine .gn ?_ | refine .dr ?_ | fail
  · obtain ⟨⟨n, i1⟩, hr, rfl, h1, k1⟩ := h1
    obtain ⟨hR, hle⟩ := rdLen_some hr
    simp only at hR hle h1
    have hlt := hR.lt
    have hsm := h1.small
    have hpt1 := h1.pt
    repeat' first
     | refine Go.condF rfl ?_
     | refine .std ?_ | refine .nil ?_ | refine .seq ?_ | refine .region ?_ | refine .xs ?_ | refine .kb ?_ | refine .leaf ?_ | refine .block ?_ | refine .gn ?_ | refine .dr ?_ | fail
    refine Go.weaken (E' := [(0, .ptr c 0), (1, .ptr x off), (2, .func g [] []), (33, .int .i64 n), (34, .int .i64 (0 : Nat))]) ?_ ⟨rfl, rfl, rfl, rfl, rfl, trivial⟩
    refine Go.loop_ind (α := Nat) (fun q => n - q) (fun q E S' => E = [(0, .ptr c 0), (1, .ptr x off), (2, .func g [] []), (33, .int .i64 n), (34, .int .i64 q)] ∧ q ≤ n ∧ ∃ j v, RdL S S' c x s (scan s k 4) 4 259 4 T L R i1 q j v) ?_ 0 _ _
      ⟨rfl, Nat.zero_le _, i1, .nils, h1, rfl, by rw [k1.find x hx hxc hxc]; exact hbox, .inl ⟨rfl, rfl⟩, by rw [slc_self]; exact EncE.nil _, by omega, k1.one x⟩
    rintro q E S2 ⟨rfl, hq, j, v, h2⟩ IH
    repeat' first | refine .std ?_ | refine .nil ?_ | refine .seq ?_ | refine .region ?_ | refine .xs ?_ | refine .kb ?_ | refine .leaf ?_ | refine .block ?_ | refine .gn ?_ | refine .dr ?_ | fail
    refine Go.cond rfl (fun hq2 => ?_) (fun hq2 => ?_)
    · have hq2 : q < n := by have := of_decide_eq_true hq2; omega
      have hxl2 : x < S2.next := Nat.lt_of_lt_of_le hx h2.keep.next
      have hc2 : CodR (S2.new (.box 259 (zc 4))) c s j := h2.cod.ofBox (by simp [St.new]) fun t cs hb => by simp only [St.new, Tr.find_put, if_neg (Nat.ne_of_lt h2.cod.lt)]; exact hb
      have hzb : (S2.new (.box 259 (zc 4))).h.find S2.next = some (.box 259 ([] ++ (zc 4 ++ []))) := by simp [St.new, Tr.find_put]
      have hlej := h2.le
      have hjle := h2.cod.le
      have hcall := he.h hc2 (x := S2.next) (off := 0) rfl (by have := h2.cod.lt; omega) (by simp [St.new]) (by omega) hzb
      repeat' first
       | refine Go.hold 11 ?_
       | refine Opl.val op_alloc rfl ?_
       | refine Opl.call rfl hg hcall rfl (fun v3 S3 h3 => ?_) (fun v3 S3 h3 => ?_)
       | refine .std ?_ | refine .nil ?_ | refine .seq ?_ | refine .region ?_ | refine .xs ?_ | refine .kb ?_ | refine .leaf ?_ | refine .block ?_ | refine .gn ?_ | refine .dr ?_ | fail
      · refine ⟨?_⟩
        obtain ⟨j3, cs, hsc, hc3, hb3, hcl, henc, hlt3, k3⟩ := h3
        simp only [List.nil_append, List.append_nil] at hb3
        rw [scanF_sub] at hsc
        have hn3 := k3.next
        simp only [St.new] at hn3
        have hx3 : S3.h.find x = some (.box T (L ++ v :: R)) := by
          rw [k3.find x (by simp [St.new]; omega) hxc (by omega)]
          simp only [St.new, Tr.find_put, if_neg (Nat.ne_of_lt hxl2)]; exact h2.box
        have hg3 : Grow S3 S.next 259 4 q v := by
          rcases h2.grow with hg | ⟨es, tid, g1, g2, g3, g4, g5⟩
          · exact .inl hg
          · refine .inr ⟨es, tid, g1, ?_, g3, by omega, g5⟩
            have hne : tid ≠ c := by rintro rfl; rw [h2.cod.box] at g2; cases g2
            rw [k3.find tid (by simp [St.new]; omega) hne (by omega)]
            simp only [St.new, Tr.find_put, if_neg (Nat.ne_of_lt g4)]; exact g2
        have hn0 := h2.keep.next
        have henc1 := henc.unsub
        have hcl2 : cs.length = 4 := hcl
        skip
        obtain ⟨v', S4, S5, happ, hk4, hst, hb5, hg5, hel, hn5, hold, hbx5⟩ := grow_app (P := Tryz.prog) (xv := .agg cs) (App.of (P := Tryz.prog) (t := 179) (u := 179) (e := 259) (n := 4) (ag := true) (bytes := 64) (by kernel_rfl)) inferInstance (by decide) (by omega) hg3 (by omega) ho (by omega) hx3 hcl2 henc1.ones
        have hptl := pt_mid (z := v) ho hx3
        have hpte : Pt S3 (.ptr S2.next 0) cs := ⟨_, _, hb3, fun i v h => by simpa using h⟩
        have hbs := bsl_one (P := Tryz.prog) (v := .agg cs) (App.of (P := Tryz.prog) (t := 179) (u := 179) (e := 259) (n := 4) (ag := true) (bytes := 64) (by kernel_rfl)) (by decide) hcl2 rfl
        repeat' first
         | refine Opl.val (op_load rfl (ld_agg hpte hcl2)) rfl ?_
         | refine Opl.val (op_buildSlice1 rfl hbs) rfl ?_
         | refine Opl.val (op_app rfl rfl happ) rfl ?_
         | refine Opl.eff (op_store rfl rfl hst) ?_
         | refine Opl.val (op_int rfl rfl rfl (inc_ok (i := q) (by omega))) rfl ?_
         | refine Go.drawAt [1, 2, 3, 4, 5, 6, 0, 7, 8] (by kernel_rfl) ?_
         | refine .std ?_ | refine .nil ?_ | refine .seq ?_ | refine .region ?_ | refine .xs ?_ | refine .kb ?_ | refine .leaf ?_ | refine .block ?_ | refine .gn ?_ | refine .dr ?_ | fail
        refine (IH (q + 1) _ S5 (by omega) ⟨rfl, by omega, j3, v', hc3.ofBox (by omega) fun t cs hb => hbx5 c t cs (by have := hc3.lt; omega) hxc.symm hb, by rw [scanL_snoc _ _ _ _ h2.sc]; exact hsc, hb5, hg5, ?_, by omega, ?_⟩).weaken ⟨rfl, rfl, rfl, rfl, rfl, trivial⟩
        · rw [hel, ← slc_app (by omega : i1 ≤ j) (Nat.le_of_lt hlt3)]
          exact h2.enc.snoc henc1
        · refine ⟨by omega, fun id h4 h5 h6 => ?_⟩
          rw [hold id (by omega) (by omega) h6, k3.find id (by simp [St.new]; omega) h5 (by omega), ← h2.keep.find id h4 h5 h6]
          have : id ≠ S2.next := by omega
          simp only [St.new, Tr.find_put, if_neg this]
      · obtain ⟨b, hsc, rfl, k3⟩ := h3
        rw [scanF_sub] at hsc
        refine At.fnp rfl ⟨b, scanF_lerr hr hq2 h2.sc hsc, rfl, ?_⟩
        have hn3 := k3.next
        simp only [St.new] at hn3
        have hn0 := h2.keep.next
        refine ⟨by omega, fun id h4 h5 h6 => ?_⟩
        rw [k3.find id (by simp [St.new]; omega) h5 (by omega), ← h2.keep.find id h4 h5 h6]
        have : id ≠ S2.next := by omega
        simp only [St.new, Tr.find_put, if_neg this]
    · have hq : q = n := by have := of_decide_eq_false hq2; omega
      subst hq
      repeat' first
       | refine At.fn rfl rfl rfl ?_
       | refine .std ?_ | refine .nil ?_ | refine .seq ?_ | refine .region ?_ | refine .xs ?_ | refine .kb ?_ | refine .leaf ?_ | refine .block ?_ | refine .gn ?_ | refine .dr ?_ | fail
      exact h2.done hr
  · obtain ⟨hr, rfl, k1⟩ := h1
    exact At.fnp rfl ⟨i, by simp only [scanF, hr], rfl, k1.one x⟩
theorem rlist276 (k : Nat) (s : List UInt8) {g : FuncId} (hg : hasBody Tryz.prog g = true) (he : GC g (fun c p => [c, p]) k s [.sub 6] (zc 6) 1) : GC 145 (fun c p => [c, p, .func g [] []]) k s [.list 6] [.nils] 0 := by
  refine ⟨?_⟩
  intro S c x i T L R off h ho hxc hx hk hbox
  refine CallTo.of (n := 48) Tryz.func145 rfl rfl ?_
  have hcpt := h.pt
  have hpt := pt_mid (z := .nils) ho hbox
  repeat' first
   | refine Opl.val (op_lenL rfl rfl rfl) rfl ?_
   | refine Opl.call rfl (by kernel_rfl) (h.length _ (Int.natCast_nonneg _)) rfl (fun v S1 h1 => ?_) (fun v S1 h1 => ?_)
   | refine .std ?_ | refine .nil ?_ | refine .seq ?_ | refine .region ?_ | refine .xs ?_ | refine .kb ?_ | refine .leaf ?_ | refine .block ?_ | refine .gn ?_ | refine .dr ?_ | fail
  · obtain ⟨⟨n, i1⟩, hr, rfl, h1, k1⟩ := h1
    obtain ⟨hR, hle⟩ := rdLen_some hr
    simp only at hR hle h1
    have hlt := hR.lt
    have hsm := h1.small
    have hpt1 := h1.pt
    repeat' first
     | refine Go.condF rfl ?_
     | refine .std ?_ | refine .nil ?_ | refine .seq ?_ | refine .region ?_ | refine .xs ?_ | refine .kb ?_ | refine .leaf ?_ | refine .block ?_ | refine .gn ?_ | refine .dr ?_ | fail
    refine Go.weaken (E' := [(0, .ptr c 0), (1, .ptr x off), (2, .func g [] []), (33, .int .i64 n), (34, .int .i64 (0 : Nat))]) ?_ ⟨rfl, rfl, rfl, rfl, rfl, trivial⟩
    refine Go.loop_ind (α := Nat) (fun q => n - q) (fun q E S' => E = [(0, .ptr c 0), (1, .ptr x off), (2, .func g [] []), (33, .int .i64 n), (34, .int .i64 q)] ∧ q ≤ n ∧ ∃ j v, RdL S S' c x s (scan s k 6) 6 276 2 T L R i1 q j v) ?_ 0 _ _
      ⟨rfl, Nat.zero_le _, i1, .nils, h1, rfl, by rw [k1.find x hx hxc hxc]; exact hbox, .inl ⟨rfl, rfl⟩, by rw [slc_self]; exact EncE.nil _, by omega, k1.one x⟩
    rintro q E S2 ⟨rfl, hq, j, v, h2⟩ IH
    repeat' first | refine .std ?_ | refine .nil ?_ | refine .seq ?_ | refine .region ?_ | refine .xs ?_ | refine .kb ?_ | refine .leaf ?_ | refine .block ?_ | refine .gn ?_ | refine .dr ?_ | fail
    refine Go.cond rfl (fun hq2 => ?_) (fun hq2 => ?_)
    · have hq2 : q < n := by have := of_decide_eq_true hq2; omega
      have hxl2 : x < S2.next := Nat.lt_of_lt_of_le hx h2.keep.next
      have hc2 : CodR (S2.new (.box 276 (zc 6))) c s j := h2.cod.ofBox (by simp [St.new]) fun t cs hb => by simp only [St.new, Tr.find_put, if_neg (Nat.ne_of_lt h2.cod.lt)]; exact hb
      have hzb : (S2.new (.box 276 (zc 6))).h.find S2.next = some (.box 276 ([] ++ (zc 6 ++ []))) := by simp [St.new, Tr.find_put]
      have hlej := h2.le
      have hjle := h2.cod.le
      have hcall := he.h hc2 (x := S2.next) (off := 0) rfl (by have := h2.cod.lt; omega) (by simp [St.new]) (by omega) hzb
      repeat' first
       | refine Go.hold 11 ?_
       | refine Opl.val op_alloc rfl ?_
       | refine Opl.call rfl hg hcall rfl (fun v3 S3 h3 => ?_) (fun v3 S3 h3 => ?_)
       | refine .std ?_ | refine .nil ?_ | refine .seq ?_ | refine .region ?_ | refine .xs ?_ | refine .kb ?_ | refine .leaf ?_ | refine .block ?_ | refine .gn ?_ | refine .dr ?_ | fail
      · refine ⟨?_⟩
        obtain ⟨j3, cs, hsc, hc3, hb3, hcl, henc, hlt3, k3⟩ := h3
        simp only [List.nil_append, List.append_nil] at hb3
        rw [scanF_sub] at hsc
        have hn3 := k3.next
        simp only [St.new] at hn3
        have hx3 : S3.h.find x = some (.box T (L ++ v :: R)) := by
          rw [k3.find x (by simp [St.new]; omega) hxc (by omega)]
          simp only [St.new, Tr.find_put, if_neg (Nat.ne_of_lt hxl2)]; exact h2.box
        have hg3 : Grow S3 S.next 276 2 q v := by
          rcases h2.grow with hg | ⟨es, tid, g1, g2, g3, g4, g5⟩
          · exact .inl hg
          · refine .inr ⟨es, tid, g1, ?_, g3, by omega, g5⟩
            have hne : tid ≠ c := by rintro rfl; rw [h2.cod.box] at g2; cases g2
            rw [k3.find tid (by simp [St.new]; omega) hne (by omega)]
            simp only [St.new, Tr.find_put, if_neg (Nat.ne_of_lt g4)]; exact g2
        have hn0 := h2.keep.next
        have henc1 := henc.unsub
        have hcl2 : cs.length = 2 := hcl
        skip
        obtain ⟨v', S4, S5, happ, hk4, hst, hb5, hg5, hel, hn5, hold, hbx5⟩ := grow_app (P := Tryz.prog) (xv := .agg cs) (App.of (P := Tryz.prog) (t := 217) (u := 217) (e := 276) (n := 2) (ag := true) (bytes := 24) (by kernel_rfl)) inferInstance (by decide) (by omega) hg3 (by omega) ho (by omega) hx3 hcl2 henc1.ones
        have hptl := pt_mid (z := v) ho hx3
        have hpte : Pt S3 (.ptr S2.next 0) cs := ⟨_, _, hb3, fun i v h => by simpa using h⟩
        have hbs := bsl_one (P := Tryz.prog) (v := .agg cs) (App.of (P := Tryz.prog) (t := 217) (u := 217) (e := 276) (n := 2) (ag := true) (bytes := 24) (by kernel_rfl)) (by decide) hcl2 rfl
        repeat' first
         | refine Opl.val (op_load rfl (ld_agg hpte hcl2)) rfl ?_
         | refine Opl.val (op_buildSlice1 rfl hbs) rfl ?_
         | refine Opl.val (op_app rfl rfl happ) rfl ?_
         | refine Opl.eff (op_store rfl rfl hst) ?_
         | refine Opl.val (op_int rfl rfl rfl (inc_ok (i := q) (by omega))) rfl ?_
         | refine Go.drawAt [1, 2, 3, 4, 5, 6, 0, 7, 8] (by kernel_rfl) ?_
         | refine .std ?_ | refine .nil ?_ | refine .seq ?_ | refine .region ?_ | refine .xs ?_ | refine .kb ?_ | refine .leaf ?_ | refine .block ?_ | refine .gn ?_ | refine .dr ?_ | fail
        refine (IH (q + 1) _ S5 (by omega) ⟨rfl, by omega, j3, v', hc3.ofBox (by omega) fun t cs hb => hbx5 c t cs (by have := hc3.lt; omega) hxc.symm hb, by rw [scanL_snoc _ _ _ _ h2.sc]; exact hsc, hb5, hg5, ?_, by omega, ?_⟩).weaken ⟨rfl, rfl, rfl, rfl, rfl, trivial⟩
        · rw [hel, ← slc_app (by omega : i1 ≤ j) (Nat.le_of_lt hlt3)]
          exact h2.enc.snoc henc1
        · refine ⟨by omega, fun id h4 h5 h6 => ?_⟩
          rw [hold id (by omega) (by omega) h6, k3.find id (by simp [St.new]; omega) h5 (by omega), ← h2.keep.find id h4 h5 h6]
          have : id ≠ S2.next := by omega
          simp only [St.new, Tr.find_put, if_neg this]
      · obtain ⟨b, hsc, rfl, k3⟩ := h3
        rw [scanF_sub] at hsc
        refine At.fnp rfl ⟨b, scanF_lerr hr hq2 h2.sc hsc, rfl, ?_⟩
        have hn3 := k3.next
        simp only [St.new] at hn3
        have hn0 := h2.keep.next
        refine ⟨by omega, fun id h4 h5 h6 => ?_⟩
        rw [k3.find id (by simp [St.new]; omega) h5 (by omega), ← h2.keep.find id h4 h5 h6]
        have : id ≠ S2.next := by omega
        simp only [St.new, Tr.find_put, if_neg this]
    · have hq : q = n := by have := of_decide_eq_false hq2; omega
      subst hq
      repeat' first
       | refine At.fn rfl rfl rfl ?_
       | refine .std ?_ | refine .nil ?_ | refine .seq ?_ | refine .region ?_ | refine .xs ?_ | refine .kb ?_ | refine .leaf ?_ | refine .block ?_ | refine .gn ?_ | refine .dr ?_ | fail
      exact h2.done hr
  · obtain ⟨hr, rfl, k1⟩ := h1
    exact At.fnp rfl ⟨i, by simp only [scanF, hr], rfl, k1.one x⟩
theorem rlist121 (k : Nat) (s : List UInt8) {g : FuncId} (hg : hasBody Tryz.prog g = true) (he : GC g (fun c p => [c, p]) k s [.sub 7] (zc 7) 1) : GC 59 (fun c p => [c, p, .func g [] []]) k s [.list 7] [.nils] 0 := by
  refine ⟨?_⟩
  intro S c x i T L R off h ho hxc hx hk hbox
  refine CallTo.of (n := 48) Tryz.func59 rfl rfl ?_
  have hcpt := h.pt
  have hpt := pt_mid (z := .nils) ho hbox
  repeat' first
   | refine Opl.val (op_lenL rfl rfl rfl) rfl ?_
   | refine Opl.call rfl (by kernel_rfl) (h.length _ (Int.natCast_nonneg _)) rfl (fun v S1 h1 => ?_) (fun v S1 h1 => ?_)
   | refine .std ?_ | refine .nil ?_ | refine .seq ?_ | refine .region ?_ | refine .xs ?_ | refine .kb ?_ | refine .leaf ?_ | refine .block ?_ | refine .gn ?_ | refine .dr ?_ | fail
  · obtain ⟨⟨n, i1⟩, hr, rfl, h1, k1⟩ := h1
    obtain ⟨hR, hle⟩ := rdLen_some hr
    simp only at hR hle h1
    have hlt := hR.lt
    have hsm := h1.small
    have hpt1 := h1.pt
    repeat' first
     | refine Go.condF rfl ?_
     | refine .std ?_ | refine .nil ?_ | refine .seq ?_ | refine .region ?_ | refine .xs ?_ | refine .kb ?_ | refine .leaf ?_ | refine .block ?_ | refine .gn ?_ | refine .dr ?_ | fail
    refine Go.weaken (E' := [(0, .ptr c 0), (1, .ptr x off), (2, .func g [] []), (33, .int .i64 n), (34, .int .i64 (0 : Nat))]) ?_ ⟨rfl, rfl, rfl, rfl, rfl, trivial⟩
    refine Go.loop_ind (α := Nat) (fun q => n - q) (fun q E S' => E = [(0, .ptr c 0), (1, .ptr x off), (2, .func g [] []), (33, .int .i64 n), (34, .int .i64 q)] ∧ q ≤ n ∧ ∃ j v, RdL S S' c x s (scan s k 7) 7 121 3 T L R i1 q j v) ?_ 0 _ _
      ⟨rfl, Nat.zero_le _, i1, .nils, h1, rfl, by rw [k1.find x hx hxc hxc]; exact hbox, .inl ⟨rfl, rfl⟩, by rw [slc_self]; exact EncE.nil _, by omega, k1.one x⟩
    rintro q E S2 ⟨rfl, hq, j, v, h2⟩ IH
    repeat' first | refine .std ?_ | refine .nil ?_ | refine .seq ?_ | refine .region ?_ | refine .xs ?_ | refine .kb ?_ | refine .leaf ?_ | refine .block ?_ | refine .gn ?_ | refine .dr ?_ | fail
    refine Go.cond rfl (fun hq2 => ?_) (fun hq2 => ?_)
    · have hq2 : q < n := by have := of_decide_eq_true hq2; omega
      have hxl2 : x < S2.next := Nat.lt_of_lt_of_le hx h2.keep.next
      have hc2 : CodR (S2.new (.box 121 (zc 7))) c s j := h2.cod.ofBox (by simp [St.new]) fun t cs hb => by simp only [St.new, Tr.find_put, if_neg (Nat.ne_of_lt h2.cod.lt)]; exact hb
      have hzb : (S2.new (.box 121 (zc 7))).h.find S2.next = some (.box 121 ([] ++ (zc 7 ++ []))) := by simp [St.new, Tr.find_put]
      have hlej := h2.le
      have hjle := h2.cod.le
      have hcall := he.h hc2 (x := S2.next) (off := 0) rfl (by have := h2.cod.lt; omega) (by simp [St.new]) (by omega) hzb
      repeat' first
       | refine Go.hold 11 ?_
       | refine Opl.val op_alloc rfl ?_
       | refine Opl.call rfl hg hcall rfl (fun v3 S3 h3 => ?_) (fun v3 S3 h3 => ?_)
       | refine .std ?_ | refine .nil ?_ | refine .seq ?_ | refine .region ?_ | refine .xs ?_ | refine .kb ?_ | refine .leaf ?_ | refine .block ?_ | refine .gn ?_ | refine .dr ?_ | fail
      · refine ⟨?_⟩
        obtain ⟨j3, cs, hsc, hc3, hb3, hcl, henc, hlt3, k3⟩ := h3
        simp only [List.nil_append, List.append_nil] at hb3
        rw [scanF_sub] at hsc
        have hn3 := k3.next
        simp only [St.new] at hn3
        have hx3 : S3.h.find x = some (.box T (L ++ v :: R)) := by
          rw [k3.find x (by simp [St.new]; omega) hxc (by omega)]
          simp only [St.new, Tr.find_put, if_neg (Nat.ne_of_lt hxl2)]; exact h2.box
        have hg3 : Grow S3 S.next 121 3 q v := by
          rcases h2.grow with hg | ⟨es, tid, g1, g2, g3, g4, g5⟩
          · exact .inl hg
          · refine .inr ⟨es, tid, g1, ?_, g3, by omega, g5⟩
            have hne : tid ≠ c := by rintro rfl; rw [h2.cod.box] at g2; cases g2
            rw [k3.find tid (by simp [St.new]; omega) hne (by omega)]
            simp only [St.new, Tr.find_put, if_neg (Nat.ne_of_lt g4)]; exact g2
        have hn0 := h2.keep.next
        have henc1 := henc.unsub
        have hcl2 : cs.length = 3 := hcl
        skip
        obtain ⟨v', S4, S5, happ, hk4, hst, hb5, hg5, hel, hn5, hold, hbx5⟩ := grow_app (P := Tryz.prog) (xv := .agg cs) (App.of (P := Tryz.prog) (t := 22) (u := 22) (e := 121) (n := 3) (ag := true) (bytes := 64) (by kernel_rfl)) inferInstance (by decide) (by omega) hg3 (by omega) ho (by omega) hx3 hcl2 henc1.ones
        have hptl := pt_mid (z := v) ho hx3
        have hpte : Pt S3 (.ptr S2.next 0) cs := ⟨_, _, hb3, fun i v h => by simpa using h⟩
        have hbs := bsl_one (P := Tryz.prog) (v := .agg cs) (App.of (P := Tryz.prog) (t := 22) (u := 22) (e := 121) (n := 3) (ag := true) (bytes := 64) (by kernel_rfl)) (by decide) hcl2 rfl
        repeat' first
         | refine Opl.val (op_load rfl (ld_agg hpte hcl2)) rfl ?_
         | refine Opl.val (op_buildSlice1 rfl hbs) rfl ?_
         | refine Opl.val (op_app rfl rfl happ) rfl ?_
         | refine Opl.eff (op_store rfl rfl hst) ?_
         | refine Opl.val (op_int rfl rfl rfl (inc_ok (i := q) (by omega))) rfl ?_
         | refine Go.drawAt [1, 2, 3, 4, 5, 6, 0, 7, 8] (by kernel_rfl) ?_
         | refine .std ?_ | refine .nil ?_ | refine .seq ?_ | refine .region ?_ | refine .xs ?_ | refine .kb ?_ | refine .leaf ?_ | refine .block ?_ | refine .gn ?_ | refine .dr ?_ | fail
        refine (IH (q + 1) _ S5 (by omega) ⟨rfl, by omega, j3, v', hc3.ofBox (by omega) fun t cs hb => hbx5 c t cs (by have := hc3.lt; omega) hxc.symm hb, by rw [scanL_snoc _ _ _ _ h2.sc]; exact hsc, hb5, hg5, ?_, by omega, ?_⟩).weaken ⟨rfl, rfl, rfl, rfl, rfl, trivial⟩
        · rw [hel, ← slc_app (by omega : i1 ≤ j) (Nat.le_of_lt hlt3)]
          exact h2.enc.snoc henc1
        · refine ⟨by omega, fun id h4 h5 h6 => ?_⟩
          rw [hold id (by omega) (by omega) h6, k3.find id (by simp [St.new]; omega) h5 (by omega), ← h2.keep.find id h4 h5 h6]
          have : id ≠ S2.next := by omega
          simp only [St.new, Tr.find_put, if_neg this]
      · obtain ⟨b, hsc, rfl, k3⟩ := h3
        rw [scanF_sub] at hsc
        refine At.fnp rfl ⟨b, scanF_lerr hr hq2 h2.sc hsc, rfl, ?_⟩
        have hn3 := k3.next
        simp only [St.new] at hn3
        have hn0 := h2.keep.next
        refine ⟨by omega, fun id h4 h5 h6 => ?_⟩
        rw [k3.find id (by simp [St.new]; omega) h5 (by omega), ← h2.keep.find id h4 h5 h6]
        have : id ≠ S2.next := by omega
        simp only [St.new, Tr.find_put, if_neg this]
    · have hq : q = n := by have := of_decide_eq_false hq2; omega
      subst hq
      repeat' first
       | refine At.fn rfl rfl rfl ?_
       | refine .std ?_ | refine .nil ?_ | refine .seq ?_ | refine .region ?_ | refine .xs ?_ | refine .kb ?_ | refine .leaf ?_ | refine .block ?_ | refine .gn ?_ | refine .dr ?_ | fail
      exact h2.done hr
  · obtain ⟨hr, rfl, k1⟩ := h1
    exact At.fnp rfl ⟨i, by simp only [scanF, hr], rfl, k1.one x⟩
theorem rlist212 (k : Nat) (s : List UInt8) {g : FuncId} (hg : hasBody Tryz.prog g = true) (he : GC g (fun c p => [c, p]) k s [.sub 8] (zc 8) 1) : GC 115 (fun c p => [c, p, .func g [] []]) k s [.list 8] [.nils] 0 := by
  refine ⟨?_⟩
  intro S c x i T L R off h ho hxc hx hk hbox
  refine CallTo.of (n := 48) Tryz.func115 rfl rfl ?_
  have hcpt := h.pt
  have hpt := pt_mid (z := .nils) ho hbox
  repeat' first
   | refine Opl.val (op_lenL rfl rfl rfl) rfl ?_
   | refine Opl.call rfl (by kernel_rfl) (h.length _ (Int.natCast_nonneg _)) rfl (fun v S1 h1 => ?_) (fun v S1 h1 => ?_)
   | refine .std ?_ | refine .nil ?_ | refine .seq ?_ | refine .region ?_ | refine .xs ?_ | refine .kb ?_ | refine .leaf ?_ | refine .block ?_ | refine .gn ?_ | refine .dr ?_ | fail
  · obtain ⟨⟨n, i1⟩, hr, rfl, h1, k1⟩ := h1
    obtain ⟨hR, hle⟩ := rdLen_some hr
    simp only at hR hle h1
    have hlt := hR.lt
    have hsm := h1.small
    have hpt1 := h1.pt
    repeat' first
     | refine Go.condF rfl ?_
     | refine .std ?_ | refine .nil ?_ | refine .seq ?_ | refine .region ?_ | refine .xs ?_ | refine .kb ?_ | refine .leaf ?_ | refine .block ?_ | refine .gn ?_ | refine .dr ?_ | fail
    refine Go.weaken (E' := [(0, .ptr c 0), (1, .ptr x off), (2, .func g [] []), (33, .int .i64 n), (34, .int .i64 (0 : Nat))]) ?_ ⟨rfl, rfl, rfl, rfl, rfl, trivial⟩
    refine Go.loop_ind (α := Nat) (fun q => n - q) (fun q E S' => E = [(0, .ptr c 0), (1, .ptr x off), (2, .func g [] []), (33, .int .i64 n), (34, .int .i64 q)] ∧ q ≤ n ∧ ∃ j v, RdL S S' c x s (scan s k 8) 8 212 2 T L R i1 q j v) ?_ 0 _ _
      ⟨rfl, Nat.zero_le _, i1, .nils, h1, rfl, by rw [k1.find x hx hxc hxc]; exact hbox, .inl ⟨rfl, rfl⟩, by rw [slc_self]; exact EncE.nil _, by omega, k1.one x⟩
    rintro q E S2 ⟨rfl, hq, j, v, h2⟩ IH
    repeat' first | refine .std ?_ | refine .nil ?_ | refine .seq ?_ | refine .region ?_ | refine .xs ?_ | refine .kb ?_ | refine .leaf ?_ | refine .block ?_ | refine .gn ?_ | refine .dr ?_ | fail
    refine Go.cond rfl (fun hq2 => ?_) (fun hq2 => ?_)
    · have hq2 : q < n := by have := of_decide_eq_true hq2; omega
      have hxl2 : x < S2.next := Nat.lt_of_lt_of_le hx h2.keep.next
      have hc2 : CodR (S2.new (.box 212 (zc 8))) c s j := h2.cod.ofBox (by simp [St.new]) fun t cs hb => by simp only [St.new, Tr.find_put, if_neg (Nat.ne_of_lt h2.cod.lt)]; exact hb
      have hzb : (S2.new (.box 212 (zc 8))).h.find S2.next = some (.box 212 ([] ++ (zc 8 ++ []))) := by simp [St.new, Tr.find_put]
      have hlej := h2.le
      have hjle := h2.cod.le
      have hcall := he.h hc2 (x := S2.next) (off := 0) rfl (by have := h2.cod.lt; omega) (by simp [St.new]) (by omega) hzb
      repeat' first
       | refine Go.hold 11 ?_
       | refine Opl.val op_alloc rfl ?_
       | refine Opl.call rfl hg hcall rfl (fun v3 S3 h3 => ?_) (fun v3 S3 h3 => ?_)
       | refine .std ?_ | refine .nil ?_ | refine .seq ?_ | refine .region ?_ | refine .xs ?_ | refine .kb ?_ | refine .leaf ?_ | refine .block ?_ | refine .gn ?_ | refine .dr ?_ | fail
      · refine ⟨?_⟩
        obtain ⟨j3, cs, hsc, hc3, hb3, hcl, henc, hlt3, k3⟩ := h3
        simp only [List.nil_append, List.append_nil] at hb3
        rw [scanF_sub] at hsc
        have hn3 := k3.next
        simp only [St.new] at hn3
        have hx3 : S3.h.find x = some (.box T (L ++ v :: R)) := by
          rw [k3.find x (by simp [St.new]; omega) hxc (by omega)]
          simp only [St.new, Tr.find_put, if_neg (Nat.ne_of_lt hxl2)]; exact h2.box
        have hg3 : Grow S3 S.next 212 2 q v := by
          rcases h2.grow with hg | ⟨es, tid, g1, g2, g3, g4, g5⟩
          · exact .inl hg
          · refine .inr ⟨es, tid, g1, ?_, g3, by omega, g5⟩
            have hne : tid ≠ c := by rintro rfl; rw [h2.cod.box] at g2; cases g2
            rw [k3.find tid (by simp [St.new]; omega) hne (by omega)]
            simp only [St.new, Tr.find_put, if_neg (Nat.ne_of_lt g4)]; exact g2
        have hn0 := h2.keep.next
        have henc1 := henc.unsub
        have hcl2 : cs.length = 2 := hcl
        skip
        obtain ⟨v', S4, S5, happ, hk4, hst, hb5, hg5, hel, hn5, hold, hbx5⟩ := grow_app (P := Tryz.prog) (xv := .agg cs) (App.of (P := Tryz.prog) (t := 119) (u := 119) (e := 212) (n := 2) (ag := true) (bytes := 40) (by kernel_rfl)) inferInstance (by decide) (by omega) hg3 (by omega) ho (by omega) hx3 hcl2 henc1.ones
        have hptl := pt_mid (z := v) ho hx3
        have hpte : Pt S3 (.ptr S2.next 0) cs := ⟨_, _, hb3, fun i v h => by simpa using h⟩
        have hbs := bsl_one (P := Tryz.prog) (v := .agg cs) (App.of (P := Tryz.prog) (t := 119) (u := 119) (e := 212) (n := 2) (ag := true) (bytes := 40) (by kernel_rfl)) (by decide) hcl2 rfl
        repeat' first
         | refine Opl.val (op_load rfl (ld_agg hpte hcl2)) rfl ?_
         | refine Opl.val (op_buildSlice1 rfl hbs) rfl ?_
         | refine Opl.val (op_app rfl rfl happ) rfl ?_
         | refine Opl.eff (op_store rfl rfl hst) ?_
         | refine Opl.val (op_int rfl rfl rfl (inc_ok (i := q) (by omega))) rfl ?_
         | refine Go.drawAt [1, 2, 3, 4, 5, 6, 0, 7, 8] (by kernel_rfl) ?_
         | refine .std ?_ | refine .nil ?_ | refine .seq ?_ | refine .region ?_ | refine .xs ?_ | refine .kb ?_ | refine .leaf ?_ | refine .block ?_ | refine .gn ?_ | refine .dr ?_ | fail
        refine (IH (q + 1) _ S5 (by omega) ⟨rfl, by omega, j3, v', hc3.ofBox (by omega) fun t cs hb => hbx5 c t cs (by have := hc3.lt; omega) hxc.symm hb, by rw [scanL_snoc _ _ _ _ h2.sc]; exact hsc, hb5, hg5, ?_, by omega, ?_⟩).weaken ⟨rfl, rfl, rfl, rfl, rfl, trivial⟩
        · rw [hel, ← slc_app (by omega : i1 ≤ j) (Nat.le_of_lt hlt3)]
          exact h2.enc.snoc henc1
        · refine ⟨by omega, fun id h4 h5 h6 => ?_⟩
          rw [hold id (by omega) (by omega) h6, k3.find id (by simp [St.new]; omega) h5 (by omega), ← h2.keep.find id h4 h5 h6]
          have : id ≠ S2.next := by omega
          simp only [St.new, Tr.find_put, if_neg this]
      · obtain ⟨b, hsc, rfl, k3⟩ := h3
        rw [scanF_sub] at hsc
        refine At.fnp rfl ⟨b, scanF_lerr hr hq2 h2.sc hsc, rfl, ?_⟩
        have hn3 := k3.next
        simp only [St.new] at hn3
        have hn0 := h2.keep.next
        refine ⟨by omega, fun id h4 h5 h6 => ?_⟩
        rw [k3.find id (by simp [St.new]; omega) h5 (by omega), ← h2.keep.find id h4 h5 h6]
        have : id ≠ S2.next := by omega
        simp only [St.new, Tr.find_put, if_neg this]
    · have hq : q = n := by have := of_decide_eq_false hq2; omega
      subst hq
      repeat' first
       | refine At.fn rfl rfl rfl ?_
       | refine .std ?_ | refine .nil ?_ | refine .seq ?_ | refine .region ?_ | refine .xs ?_ | refine .kb ?_ | refine .leaf ?_ | refine .block ?_ | refine .gn ?_ | refine .dr ?_ | fail
      exact h2.done hr
  · obtain ⟨hr, rfl, k1⟩ := h1
    exact At.fnp rfl ⟨i, by simp only [scanF, hr], rfl, k1.one x⟩
theorem rlist127 (k : Nat) (s : List UInt8) {g : FuncId} (hg : hasBody Tryz.prog g = true) (he : GC g (fun c p => [c, p]) k s [.sub 9] (zc 9) 1) : GC 61 (fun c p => [c, p, .func g [] []]) k s [.list 9] [.nils] 0 := by
  refine ⟨?_⟩
  intro S c x i T L R off h ho hxc hx hk hbox
  refine CallTo.of (n := 48) Tryz.func61 rfl rfl ?_
  have hcpt := h.pt
  have hpt := pt_mid (z := .nils) ho hbox
  repeat' first
   | refine Opl.val (op_lenL rfl rfl rfl) rfl ?_
   | refine Opl.call rfl (by kernel_rfl) (h.length _ (Int.natCast_nonneg _)) rfl (fun v S1 h1 => ?_) (fun v S1 h1 => ?_)
   | refine .std ?_ | refine .nil ?_ | refine .seq ?_ | refine .region ?_ | refine .xs ?_ | refine .kb ?_ | refine .leaf ?_ | refine .block ?_ | refine .gn ?_ | refine .dr ?_ | fail
  · obtain ⟨⟨n, i1⟩, hr, rfl, h1, k1⟩ := h1
    obtain ⟨hR, hle⟩ := rdLen_some hr
    simp only at hR hle h1
    have hlt := hR.lt
    have hsm := h1.small
    have hpt1 := h1.pt
    repeat' first
     | refine Go.condF rfl ?_
     | refine .std ?_ | refine .nil ?_ | refine .seq ?_ | refine .region ?_ | refine .xs ?_ | refine .kb ?_ | refine .leaf ?_ | refine .block ?_ | refine .gn ?_ | refine .dr ?_ | fail
    refine Go.weaken (E' := [(0, .ptr c 0), (1, .ptr x off), (2, .func g [] []), (33, .int .i64 n), (34, .int .i64 (0 : Nat))]) ?_ ⟨rfl, rfl, rfl, rfl, rfl, trivial⟩
    refine Go.loop_ind (α := Nat) (fun q => n - q) (fun q E S' => E = [(0, .ptr c 0), (1, .ptr x off), (2, .func g [] []), (33, .int .i64 n), (34, .int .i64 q)] ∧ q ≤ n ∧ ∃ j v, RdL S S' c x s (scan s k 9) 9 127 2 T L R i1 q j v) ?_ 0 _ _
      ⟨rfl, Nat.zero_le _, i1, .nils, h1, rfl, by rw [k1.find x hx hxc hxc]; exact hbox, .inl ⟨rfl, rfl⟩, by rw [slc_self]; exact EncE.nil _, by omega, k1.one x⟩
    rintro q E S2 ⟨rfl, hq, j, v, h2⟩ IH
    repeat' first | refine .std ?_ | refine .nil ?_ | refine .seq ?_ | refine .region ?_ | refine .xs ?_ | refine .kb ?_ | refine .leaf ?_ | refine .block ?_ | refine .gn ?_ | refine .dr ?_ | fail
    refine Go.cond rfl (fun hq2 => ?_) (fun hq2 => ?_)
    · have hq2 : q < n := by have := of_decide_eq_true hq2; omega
      have hxl2 : x < S2.next := Nat.lt_of_lt_of_le hx h2.keep.next
      have hc2 : CodR (S2.new (.box 127 (zc 9))) c s j := h2.cod.ofBox (by simp [St.new]) fun t cs hb => by simp only [St.new, Tr.find_put, if_neg (Nat.ne_of_lt h2.cod.lt)]; exact hb
      have hzb : (S2.new (.box 127 (zc 9))).h.find S2.next = some (.box 127 ([] ++ (zc 9 ++ []))) := by simp [St.new, Tr.find_put]
      have hlej := h2.le
      have hjle := h2.cod.le
      have hcall := he.h hc2 (x := S2.next) (off := 0) rfl (by have := h2.cod.lt; omega) (by simp [St.new]) (by omega) hzb
      repeat' first
       | refine Go.hold 11 ?_
       | refine Opl.val op_alloc rfl ?_
       | refine Opl.call rfl hg hcall rfl (fun v3 S3 h3 => ?_) (fun v3 S3 h3 => ?_)
       | refine .std ?_ | refine .nil ?_ | refine .seq ?_ | refine .region ?_ | refine .xs ?_ | refine .kb ?_ | refine .leaf ?_ | refine .block ?_ | refine .gn ?_ | refine .dr ?_ | fail
      · refine ⟨?_⟩
        obtain ⟨j3, cs, hsc, hc3, hb3, hcl, henc, hlt3, k3⟩ := h3
        simp only [List.nil_append, List.append_nil] at hb3
        rw [scanF_sub] at hsc
        have hn3 := k3.next
        simp only [St.new] at hn3
        have hx3 : S3.h.find x = some (.box T (L ++ v :: R)) := by
          rw [k3.find x (by simp [St.new]; omega) hxc (by omega)]
          simp only [St.new, Tr.find_put, if_neg (Nat.ne_of_lt hxl2)]; exact h2.box
        have hg3 : Grow S3 S.next 127 2 q v := by
          rcases h2.grow with hg | ⟨es, tid, g1, g2, g3, g4, g5⟩
          · exact .inl hg
          · refine .inr ⟨es, tid, g1, ?_, g3, by omega, g5⟩
            have hne : tid ≠ c := by rintro rfl; rw [h2.cod.box] at g2; cases g2
            rw [k3.find tid (by simp [St.new]; omega) hne (by omega)]
            simp only [St.new, Tr.find_put, if_neg (Nat.ne_of_lt g4)]; exact g2
        have hn0 := h2.keep.next
        have henc1 := henc.unsub
        have hcl2 : cs.length = 2 := hcl
        skip
        obtain ⟨v', S4, S5, happ, hk4, hst, hb5, hg5, hel, hn5, hold, hbx5⟩ := grow_app (P := Tryz.prog) (xv := .agg cs) (App.of (P := Tryz.prog) (t := 23) (u := 23) (e := 127) (n := 2) (ag := true) (bytes := 40) (by kernel_rfl)) inferInstance (by decide) (by omega) hg3 (by omega) ho (by omega) hx3 hcl2 henc1.ones
        have hptl := pt_mid (z := v) ho hx3
        have hpte : Pt S3 (.ptr S2.next 0) cs := ⟨_, _, hb3, fun i v h => by simpa using h⟩
        have hbs := bsl_one (P := Tryz.prog) (v := .agg cs) (App.of (P := Tryz.prog) (t := 23) (u := 23) (e := 127) (n := 2) (ag := true) (bytes := 40) (by kernel_rfl)) (by decide) hcl2 rfl
        repeat' first
         | refine Opl.val (op_load rfl (ld_agg hpte hcl2)) rfl ?_
         | refine Opl.val (op_buildSlice1 rfl hbs) rfl ?_
         | refine Opl.val (op_app rfl rfl happ) rfl ?_
         | refine Opl.eff (op_store rfl rfl hst) ?_
         | refine Opl.val (op_int rfl rfl rfl (inc_ok (i := q) (by omega))) rfl ?_
         | refine Go.drawAt [1, 2, 3, 4, 5, 6, 0, 7, 8] (by kernel_rfl) ?_
         | refine .std ?_ | refine .nil ?_ | refine .seq ?_ | refine .region ?_ | refine .xs ?_ | refine .kb ?_ | refine .leaf ?_ | refine .block ?_ | refine .gn ?_ | refine .dr ?_ | fail
        refine (IH (q + 1) _ S5 (by omega) ⟨rfl, by omega, j3, v', hc3.ofBox (by omega) fun t cs hb => hbx5 c t cs (by have := hc3.lt; omega) hxc.symm hb, by rw [scanL_snoc _ _ _ _ h2.sc]; exact hsc, hb5, hg5, ?_, by omega, ?_⟩).weaken ⟨rfl, rfl, rfl, rfl, rfl, trivial⟩
        · rw [hel, ← slc_app (by omega : i1 ≤ j) (Nat.le_of_lt hlt3)]
          exact h2.enc.snoc henc1
        · refine ⟨by omega, fun id h4 h5 h6 => ?_⟩
          rw [hold id (by omega) (by omega) h6, k3.find id (by simp [St.new]; omega) h5 (by omega), ← h2.keep.find id h4 h5 h6]
          have : id ≠ S2.next := by omega
          simp only [St.new, Tr.find_put, if_neg this]
      · obtain ⟨b, hsc, rfl, k3⟩ := h3
        rw [scanF_sub] at hsc
        refine At.fnp rfl ⟨b, scanF_lerr hr hq2 h2.sc hsc, rfl, ?_⟩
        have hn3 := k3.next
        simp only [St.new] at hn3
        have hn0 := h2.keep.next
        refine ⟨by omega, fun id h4 h5 h6 => ?_⟩
        rw [k3.find id (by simp [St.new]; omega) h5 (by omega), ← h2.keep.find id h4 h5 h6]
        have : id ≠ S2.next := by omega
        simp only [St.new, Tr.find_put, if_neg this]
    · have hq : q = n := by have := of_decide_eq_false hq2; omega
      subst hq
      repeat' first
       | refine At.fn rfl rfl rfl ?_
       | refine .std ?_ | refine .nil ?_ | refine .seq ?_ | refine .region ?_ | refine .xs ?_ | refine .kb ?_ | refine .leaf ?_ | refine .block ?_ | refine .gn ?_ | refine .dr ?_ | fail
      exact h2.done hr
  · obtain ⟨hr, rfl, k1⟩ := h1
    exact At.fnp rfl ⟨i, by simp only [scanF, hr], rfl, k1.one x⟩
theorem rlist228 (k : Nat) (s : List UInt8) {g : FuncId} (hg : hasBody Tryz.prog g = true) (he : GC g (fun c p => [c, p]) k s [.sub 10] (zc 10) 1) : GC 119 (fun c p => [c, p, .func g [] []]) k s [.list 10] [.nils] 0 := by
  refine ⟨?_⟩
  intro S c x i T L R off h ho hxc hx hk hbox
  refine CallTo.of (n := 48) Tryz.func119 rfl rfl ?_
  have hcpt := h.pt
  have hpt := pt_mid (z := .nils) ho hbox
  repeat' first
   | refine Opl.val (op_lenL rfl rfl rfl) rfl ?_
   | refine Opl.call rfl (by kernel_rfl) (h.length _ (Int.natCast_nonneg _)) rfl (fun v S1 h1 => ?_) (fun v S1 h1 => ?_)
   | refine .std ?_ | refine .nil ?_ | refine .seq ?_ | refine .region ?_ | refine .xs ?_ | refine .kb ?_ | refine .leaf ?_ | refine .block ?_ | refine .gn ?_ | refine .dr ?_ | fail
  · obtain ⟨⟨n, i1⟩, hr, rfl, h1, k1⟩ := h1
    obtain ⟨hR, hle⟩ := rdLen_some hr
    simp only at hR hle h1
    have hlt := hR.lt
    have hsm := h1.small
    have hpt1 := h1.pt
    repeat' first
     | refine Go.condF rfl ?_
     | refine .std ?_ | refine .nil ?_ | refine .seq ?_ | refine .region ?_ | refine .xs ?_ | refine .kb ?_ | refine .leaf ?_ | refine .block ?_ | refine .gn ?_ | refine .dr ?_ | fail
    refine Go.weaken (E' := [(0, .ptr c 0), (1, .ptr x off), (2, .func g [] []), (33, .int .i64 n), (34, .int .i64 (0 : Nat))]) ?_ ⟨rfl, rfl, rfl, rfl, rfl, trivial⟩
    refine Go.loop_ind (α := Nat) (fun q => n - q) (fun q E S' => E = [(0, .ptr c 0), (1, .ptr x off), (2, .func g [] []), (33, .int .i64 n), (34, .int .i64 q)] ∧ q ≤ n ∧ ∃ j v, RdL S S' c x s (scan s k 10) 10 228 14 T L R i1 q j v) ?_ 0 _ _
      ⟨rfl, Nat.zero_le _, i1, .nils, h1, rfl, by rw [k1.find x hx hxc hxc]; exact hbox, .inl ⟨rfl, rfl⟩, by rw [slc_self]; exact EncE.nil _, by omega, k1.one x⟩
    rintro q E S2 ⟨rfl, hq, j, v, h2⟩ IH
    repeat' first | refine .std ?_ | refine .nil ?_ | refine .seq ?_ | refine .region ?_ | refine .xs ?_ | refine .kb ?_ | refine .leaf ?_ | refine .block ?_ | refine .gn ?_ | refine .dr ?_ | fail
    refine Go.cond rfl (fun hq2 => ?_) (fun hq2 => ?_)
    · have hq2 : q < n := by have := of_decide_eq_true hq2; omega
      have hxl2 : x < S2.next := Nat.lt_of_lt_of_le hx h2.keep.next
      have hc2 : CodR (S2.new (.box 228 (zc 10))) c s j := h2.cod.ofBox (by simp [St.new]) fun t cs hb => by simp only [St.new, Tr.find_put, if_neg (Nat.ne_of_lt h2.cod.lt)]; exact hb
      have hzb : (S2.new (.box 228 (zc 10))).h.find S2.next = some (.box 228 ([] ++ (zc 10 ++ []))) := by simp [St.new, Tr.find_put]
      have hlej := h2.le
      have hjle := h2.cod.le
      have hcall := he.h hc2 (x := S2.next) (off := 0) rfl (by have := h2.cod.lt; omega) (by simp [St.new]) (by omega) hzb
      repeat' first
       | refine Go.hold 11 ?_
       | refine Opl.val op_alloc rfl ?_
       | refine Opl.call rfl hg hcall rfl (fun v3 S3 h3 => ?_) (fun v3 S3 h3 => ?_)
       | refine .std ?_ | refine .nil ?_ | refine .seq ?_ | refine .region ?_ | refine .xs ?_ | refine .kb ?_ | refine .leaf ?_ | refine .block ?_ | refine .gn ?_ | refine .dr ?_ | fail
      · refine ⟨?_⟩
        obtain ⟨j3, cs, hsc, hc3, hb3, hcl, henc, hlt3, k3⟩ := h3
        simp only [List.nil_append, List.append_nil] at hb3
        rw [scanF_sub] at hsc
        have hn3 := k3.next
        simp only [St.new] at hn3
        have hx3 : S3.h.find x = some (.box T (L ++ v :: R)) := by
          rw [k3.find x (by simp [St.new]; omega) hxc (by omega)]
          simp only [St.new, Tr.find_put, if_neg (Nat.ne_of_lt hxl2)]; exact h2.box
        have hg3 : Grow S3 S.next 228 14 q v := by
          rcases h2.grow with hg | ⟨es, tid, g1, g2, g3, g4, g5⟩
          · exact .inl hg
          · refine .inr ⟨es, tid, g1, ?_, g3, by omega, g5⟩
            have hne : tid ≠ c := by rintro rfl; rw [h2.cod.box] at g2; cases g2
            rw [k3.find tid (by simp [St.new]; omega) hne (by omega)]
            simp only [St.new, Tr.find_put, if_neg (Nat.ne_of_lt g4)]; exact g2
        have hn0 := h2.keep.next
        have henc1 := henc.unsub
        have hcl2 : cs.length = 14 := hcl
        skip
        obtain ⟨v', S4, S5, happ, hk4, hst, hb5, hg5, hel, hn5, hold, hbx5⟩ := grow_app (P := Tryz.prog) (xv := .agg cs) (App.of (P := Tryz.prog) (t := 125) (u := 125) (e := 228) (n := 14) (ag := true) (bytes := 200) (by kernel_rfl)) inferInstance (by decide) (by omega) hg3 (by omega) ho (by omega) hx3 hcl2 henc1.ones
        have hptl := pt_mid (z := v) ho hx3
        have hpte : Pt S3 (.ptr S2.next 0) cs := ⟨_, _, hb3, fun i v h => by simpa using h⟩
        have hbs := bsl_one (P := Tryz.prog) (v := .agg cs) (App.of (P := Tryz.prog) (t := 125) (u := 125) (e := 228) (n := 14) (ag := true) (bytes := 200) (by kernel_rfl)) (by decide) hcl2 rfl
        repeat' first
         | refine Opl.val (op_load rfl (ld_agg hpte hcl2)) rfl ?_
         | refine Opl.val (op_buildSlice1 rfl hbs) rfl ?_
         | refine Opl.val (op_app rfl rfl happ) rfl ?_
         | refine Opl.eff (op_store rfl rfl hst) ?_
         | refine Opl.val (op_int rfl rfl rfl (inc_ok (i := q) (by omega))) rfl ?_
         | refine Go.drawAt [1, 2, 3, 4, 5, 6, 0, 7, 8] (by kernel_rfl) ?_
         | refine .std ?_ | refine .nil ?_ | refine .seq ?_ | refine .region ?_ | refine .xs ?_ | refine .kb ?_ | refine .leaf ?_ | refine .block ?_ | refine .gn ?_ | refine .dr ?_ | fail
        refine (IH (q + 1) _ S5 (by omega) ⟨rfl, by omega, j3, v', hc3.ofBox (by omega) fun t cs hb => hbx5 c t cs (by have := hc3.lt; omega) hxc.symm hb, by rw [scanL_snoc _ _ _ _ h2.sc]; exact hsc, hb5, hg5, ?_, by omega, ?_⟩).weaken ⟨rfl, rfl, rfl, rfl, rfl, trivial⟩
        · rw [hel, ← slc_app (by omega : i1 ≤ j) (Nat.le_of_lt hlt3)]
          exact h2.enc.snoc henc1
        · refine ⟨by omega, fun id h4 h5 h6 => ?_⟩
          rw [hold id (by omega) (by omega) h6, k3.find id (by simp [St.new]; omega) h5 (by omega), ← h2.keep.find id h4 h5 h6]
          have : id ≠ S2.next := by omega
          simp only [St.new, Tr.find_put, if_neg this]
      · obtain ⟨b, hsc, rfl, k3⟩ := h3
        rw [scanF_sub] at hsc
        refine At.fnp rfl ⟨b, scanF_lerr hr hq2 h2.sc hsc, rfl, ?_⟩
        have hn3 := k3.next
        simp only [St.new] at hn3
        have hn0 := h2.keep.next
        refine ⟨by omega, fun id h4 h5 h6 => ?_⟩
        rw [k3.find id (by simp [St.new]; omega) h5 (by omega), ← h2.keep.find id h4 h5 h6]
        have : id ≠ S2.next := by omega
        simp only [St.new, Tr.find_put, if_neg this]
    · have hq : q = n := by have := of_decide_eq_false hq2; omega
      subst hq
      repeat' first
       | refine At.fn rfl rfl rfl ?_
       | refine .std ?_ | refine .nil ?_ | refine .seq ?_ | refine .region ?_ | refine .xs ?_ | refine .kb ?_ | refine .leaf ?_ | refine .block ?_ | refine .gn ?_ | refine .dr ?_ | fail
      exact h2.done hr
  · obtain ⟨hr, rfl, k1⟩ := h1
    exact At.fnp rfl ⟨i, by simp only [scanF, hr], rfl, k1.one x⟩
theorem rlist132 (k : Nat) (s : List UInt8) {g : FuncId} (hg : hasBody Tryz.prog g = true) (he : GC g (fun c p => [c, p]) k s [.sub 13] (zc 13) 1) : GC 63 (fun c p => [c, p, .func g [] []]) k s [.list 13] [.nils] 0 := by
  refine ⟨?_⟩
  intro S c x i T L R off h ho hxc hx hk hbox
  refine CallTo.of (n := 48) Tryz.func63 rfl rfl ?_
  have hcpt := h.pt
  have hpt := pt_mid (z := .nils) ho hbox
  repeat' first
   | refine Opl.val (op_lenL rfl rfl rfl) rfl ?_
   | refine Opl.call rfl (by kernel_rfl) (h.length _ (Int.natCast_nonneg _)) rfl (fun v S1 h1 => ?_) (fun v S1 h1 => ?_)
   | refine .std ?_ | refine .nil ?_ | refine .seq ?_ | refine .region ?_ | refine .xs ?_ | refine .kb ?_ | refine .leaf ?_ | refine .block ?_ | refine .gn ?_ | refine .dr ?_ | fail
  · obtain ⟨⟨n, i1⟩, hr, rfl, h1, k1⟩ := h1
    obtain ⟨hR, hle⟩ := rdLen_some hr
    simp only at hR hle h1
    have hlt := hR.lt
    have hsm := h1.small
    have hpt1 := h1.pt
    repeat' first
     | refine Go.condF rfl ?_
     | refine .std ?_ | refine .nil ?_ | refine .seq ?_ | refine .region ?_ | refine .xs ?_ | refine .kb ?_ | refine .leaf ?_ | refine .block ?_ | refine .gn ?_ | refine .dr ?_ | fail
    refine Go.weaken (E' := [(0, .ptr c 0), (1, .ptr x off), (2, .func g [] []), (33, .int .i64 n), (34, .int .i64 (0 : Nat))]) ?_ ⟨rfl, rfl, rfl, rfl, rfl, trivial⟩
    refine Go.loop_ind (α := Nat) (fun q => n - q) (fun q E S' => E = [(0, .ptr c 0), (1, .ptr x off), (2, .func g [] []), (33, .int .i64 n), (34, .int .i64 q)] ∧ q ≤ n ∧ ∃ j v, RdL S S' c x s (scan s k 13) 13 132 8 T L R i1 q j v) ?_ 0 _ _
      ⟨rfl, Nat.zero_le _, i1, .nils, h1, rfl, by rw [k1.find x hx hxc hxc]; exact hbox, .inl ⟨rfl, rfl⟩, by rw [slc_self]; exact EncE.nil _, by omega, k1.one x⟩
    rintro q E S2 ⟨rfl, hq, j, v, h2⟩ IH
    repeat' first | refine .std ?_ | refine .nil ?_ | refine .seq ?_ | refine .region ?_ | refine .xs ?_ | refine .kb ?_ | refine .leaf ?_ | refine .block ?_ | refine .gn ?_ | refine .dr ?_ | fail
    refine Go.cond rfl (fun hq2 => ?_) (fun hq2 => ?_)
    · have hq2 : q < n := by have := of_decide_eq_true hq2; omega
      have hxl2 : x < S2.next := Nat.lt_of_lt_of_le hx h2.keep.next
      have hc2 : CodR (S2.new (.box 132 (zc 13))) c s j := h2.cod.ofBox (by simp [St.new]) fun t cs hb => by simp only [St.new, Tr.find_put, if_neg (Nat.ne_of_lt h2.cod.lt)]; exact hb
      have hzb : (S2.new (.box 132 (zc 13))).h.find S2.next = some (.box 132 ([] ++ (zc 13 ++ []))) := by simp [St.new, Tr.find_put]
      have hlej := h2.le
      have hjle := h2.cod.le
      have hcall := he.h hc2 (x := S2.next) (off := 0) rfl (by have := h2.cod.lt; omega) (by simp [St.new]) (by omega) hzb
      repeat' first
       | refine Go.hold 11 ?_
       | refine Opl.val op_alloc rfl ?_
       | refine Opl.call rfl hg hcall rfl (fun v3 S3 h3 => ?_) (fun v3 S3 h3 => ?_)
       | refine .std ?_ | refine .nil ?_ | refine .seq ?_ | refine .region ?_ | refine .xs ?_ | refine .kb ?_ | refine .leaf ?_ | refine .block ?_ | refine .gn ?_ | refine .dr ?_ | fail
      · refine ⟨?_⟩
        obtain ⟨j3, cs, hsc, hc3, hb3, hcl, henc, hlt3, k3⟩ := h3
        simp only [List.nil_append, List.append_nil] at hb3
        rw [scanF_sub] at hsc
        have hn3 := k3.next
        simp only [St.new] at hn3
        have hx3 : S3.h.find x = some (.box T (L ++ v :: R)) := by
          rw [k3.find x (by simp [St.new]; omega) hxc (by omega)]
          simp only [St.new, Tr.find_put, if_neg (Nat.ne_of_lt hxl2)]; exact h2.box
        have hg3 : Grow S3 S.next 132 8 q v := by
          rcases h2.grow with hg | ⟨es, tid, g1, g2, g3, g4, g5⟩
          · exact .inl hg
          · refine .inr ⟨es, tid, g1, ?_, g3, by omega, g5⟩
            have hne : tid ≠ c := by rintro rfl; rw [h2.cod.box] at g2; cases g2
            rw [k3.find tid (by simp [St.new]; omega) hne (by omega)]
            simp only [St.new, Tr.find_put, if_neg (Nat.ne_of_lt g4)]; exact g2
        have hn0 := h2.keep.next
        have henc1 := henc.unsub
        have hcl2 : cs.length = 8 := hcl
        skip
        obtain ⟨v', S4, S5, happ, hk4, hst, hb5, hg5, hel, hn5, hold, hbx5⟩ := grow_app (P := Tryz.prog) (xv := .agg cs) (App.of (P := Tryz.prog) (t := 24) (u := 24) (e := 132) (n := 8) (ag := true) (bytes := 136) (by kernel_rfl)) inferInstance (by decide) (by omega) hg3 (by omega) ho (by omega) hx3 hcl2 henc1.ones
        have hptl := pt_mid (z := v) ho hx3
        have hpte : Pt S3 (.ptr S2.next 0) cs := ⟨_, _, hb3, fun i v h => by simpa using h⟩
        have hbs := bsl_one (P := Tryz.prog) (v := .agg cs) (App.of (P := Tryz.prog) (t := 24) (u := 24) (e := 132) (n := 8) (ag := true) (bytes := 136) (by kernel_rfl)) (by decide) hcl2 rfl
        repeat' first
         | refine Opl.val (op_load rfl (ld_agg hpte hcl2)) rfl ?_
         | refine Opl.val (op_buildSlice1 rfl hbs) rfl ?_
         | refine Opl.val (op_app rfl rfl happ) rfl ?_
         | refine Opl.eff (op_store rfl rfl hst) ?_
         | refine Opl.val (op_int rfl rfl rfl (inc_ok (i := q) (by omega))) rfl ?_
         | refine Go.drawAt [1, 2, 3, 4, 5, 6, 0, 7, 8] (by kernel_rfl) ?_
         | refine .std ?_ | refine .nil ?_ | refine .seq ?_ | refine .region ?_ | refine .xs ?_ | refine .kb ?_ | refine .leaf ?_ | refine .block ?_ | refine .gn ?_ | refine .dr ?_ | fail
        refine (IH (q + 1) _ S5 (by omega) ⟨rfl, by omega, j3, v', hc3.ofBox (by omega) fun t cs hb => hbx5 c t cs (by have := hc3.lt; omega) hxc.symm hb, by rw [scanL_snoc _ _ _ _ h2.sc]; exact hsc, hb5, hg5, ?_, by omega, ?_⟩).weaken ⟨rfl, rfl, rfl, rfl, rfl, trivial⟩
        · rw [hel, ← slc_app (by omega : i1 ≤ j) (Nat.le_of_lt hlt3)]
          exact h2.enc.snoc henc1
        · refine ⟨by omega, fun id h4 h5 h6 => ?_⟩
          rw [hold id (by omega) (by omega) h6, k3.find id (by simp [St.new]; omega) h5 (by omega), ← h2.keep.find id h4 h5 h6]
          have : id ≠ S2.next := by omega
          simp only [St.new, Tr.find_put, if_neg this]
      · obtain ⟨b, hsc, rfl, k3⟩ := h3
        rw [scanF_sub] at hsc
        refine At.fnp rfl ⟨b, scanF_lerr hr hq2 h2.sc hsc, rfl, ?_⟩
        have hn3 := k3.next
        simp only [St.new] at hn3
        have hn0 := h2.keep.next
        refine ⟨by omega, fun id h4 h5 h6 => ?_⟩
        rw [k3.find id (by simp [St.new]; omega) h5 (by omega), ← h2.keep.find id h4 h5 h6]
        have : id ≠ S2.next := by omega
        simp only [St.new, Tr.find_put, if_neg this]
    · have hq : q = n := by have := of_decide_eq_false hq2; omega
      subst hq
      repeat' first
       | refine At.fn rfl rfl rfl ?_
       | refine .std ?_ | refine .nil ?_ | refine .seq ?_ | refine .region ?_ | refine .xs ?_ | refine .kb ?_ | refine .leaf ?_ | refine .block ?_ | refine .gn ?_ | refine .dr ?_ | fail
      exact h2.done hr
  · obtain ⟨hr, rfl, k1⟩ := h1
    exact At.fnp rfl ⟨i, by simp only [scanF, hr], rfl, k1.one x⟩
theorem rlist148 (k : Nat) (s : List UInt8) {g : FuncId} (hg : hasBody Tryz.prog g = true) (he : GC g (fun c p => [c, p]) k s [.sub 16] (zc 16) 1) : GC 75 (fun c p => [c, p, .func g [] []]) k s [.list 16] [.nils] 0 := by
  refine ⟨?_⟩
  intro S c x i T L R off h ho hxc hx hk hbox
  refine CallTo.of (n := 48) Tryz.func75 rfl rfl ?_
  have hcpt := h.pt
  have hpt := pt_mid (z := .nils) ho hbox
  repeat' first
   | refine Opl.val (op_lenL rfl rfl rfl) rfl ?_
   | refine Opl.call rfl (by kernel_rfl) (h.length _ (Int.natCast_nonneg _)) rfl (fun v S1 h1 => ?_) (fun v S1 h1 => ?_)
   | refine .std ?_ | refine .nil ?_ | refine .seq ?_ | refine .region ?_ | refine .xs ?_ | refine .kb ?_ | refine .leaf ?_ | refine .block ?_ | refine .gn ?_ | refine .dr ?_ | fail
  · obtain ⟨⟨n, i1⟩, hr, rfl, h1, k1⟩ := h1
    obtain ⟨hR, hle⟩ := rdLen_some hr
    simp only at hR hle h1
    have hlt := hR.lt
    have hsm := h1.small
    have hpt1 := h1.pt
    repeat' first
     | refine Go.condF rfl ?_
     | refine .std ?_ | refine .nil ?_ | refine .seq ?_ | refine .region ?_ | refine .xs ?_ | refine .kb ?_ | refine .leaf ?_ | refine .block ?_ | refine .gn ?_ | refine .dr ?_ | fail
    refine Go.weaken (E' := [(0, .ptr c 0), (1, .ptr x off), (2, .func g [] []), (33, .int .i64 n), (34, .int .i64 (0 : Nat))]) ?_ ⟨rfl, rfl, rfl, rfl, rfl, trivial⟩
    refine Go.loop_ind (α := Nat) (fun q => n - q) (fun q E S' => E = [(0, .ptr c 0), (1, .ptr x off), (2, .func g [] []), (33, .int .i64 n), (34, .int .i64 q)] ∧ q ≤ n ∧ ∃ j v, RdL S S' c x s (scan s k 16) 16 148 5 T L R i1 q j v) ?_ 0 _ _
      ⟨rfl, Nat.zero_le _, i1, .nils, h1, rfl, by rw [k1.find x hx hxc hxc]; exact hbox, .inl ⟨rfl, rfl⟩, by rw [slc_self]; exact EncE.nil _, by omega, k1.one x⟩
    rintro q E S2 ⟨rfl, hq, j, v, h2⟩ IH
    repeat' first | refine .std ?_ | refine .nil ?_ | refine .seq ?_ | refine .region ?_ | refine .xs ?_ | refine .kb ?_ | refine .leaf ?_ | refine .block ?_ | refine .gn ?_ | refine .dr ?_ | fail
    refine Go.cond rfl (fun hq2 => ?_) (fun hq2 => ?_)
    · have hq2 : q < n := by have := of_decide_eq_true hq2; omega
      have hxl2 : x < S2.next := Nat.lt_of_lt_of_le hx h2.keep.next
      have hc2 : CodR (S2.new (.box 148 (zc 16))) c s j := h2.cod.ofBox (by simp [St.new]) fun t cs hb => by simp only [St.new, Tr.find_put, if_neg (Nat.ne_of_lt h2.cod.lt)]; exact hb
      have hzb : (S2.new (.box 148 (zc 16))).h.find S2.next = some (.box 148 ([] ++ (zc 16 ++ []))) := by simp [St.new, Tr.find_put]
      have hlej := h2.le
      have hjle := h2.cod.le
      have hcall := he.h hc2 (x := S2.next) (off := 0) rfl (by have := h2.cod.lt; omega) (by simp [St.new]) (by omega) hzb
      repeat' first
       | refine Go.hold 11 ?_
       | refine Opl.val op_alloc rfl ?_
       | refine Opl.call rfl hg hcall rfl (fun v3 S3 h3 => ?_) (fun v3 S3 h3 => ?_)
       | refine .std ?_ | refine .nil ?_ | refine .seq ?_ | refine .region ?_ | refine .xs ?_ | refine .kb ?_ | refine .leaf ?_ | refine .block ?_ | refine .gn ?_ | refine .dr ?_ | fail
      · refine ⟨?_⟩
        obtain ⟨j3, cs, hsc, hc3, hb3, hcl, henc, hlt3, k3⟩ := h3
        simp only [List.nil_append, List.append_nil] at hb3
        rw [scanF_sub] at hsc
        have hn3 := k3.next
        simp only [St.new] at hn3
        have hx3 : S3.h.find x = some (.box T (L ++ v :: R)) := by
          rw [k3.find x (by simp [St.new]; omega) hxc (by omega)]
          simp only [St.new, Tr.find_put, if_neg (Nat.ne_of_lt hxl2)]; exact h2.box
        have hg3 : Grow S3 S.next 148 5 q v := by
          rcases h2.grow with hg | ⟨es, tid, g1, g2, g3, g4, g5⟩
          · exact .inl hg
          · refine .inr ⟨es, tid, g1, ?_, g3, by omega, g5⟩
            have hne : tid ≠ c := by rintro rfl; rw [h2.cod.box] at g2; cases g2
            rw [k3.find tid (by simp [St.new]; omega) hne (by omega)]
            simp only [St.new, Tr.find_put, if_neg (Nat.ne_of_lt g4)]; exact g2
        have hn0 := h2.keep.next
        have henc1 := henc.unsub
        have hcl2 : cs.length = 5 := hcl
        skip
        obtain ⟨v', S4, S5, happ, hk4, hst, hb5, hg5, hel, hn5, hold, hbx5⟩ := grow_app (P := Tryz.prog) (xv := .agg cs) (App.of (P := Tryz.prog) (t := 33) (u := 33) (e := 148) (n := 5) (ag := true) (bytes := 56) (by kernel_rfl)) inferInstance (by decide) (by omega) hg3 (by omega) ho (by omega) hx3 hcl2 henc1.ones
        have hptl := pt_mid (z := v) ho hx3
        have hpte : Pt S3 (.ptr S2.next 0) cs := ⟨_, _, hb3, fun i v h => by simpa using h⟩
        have hbs := bsl_one (P := Tryz.prog) (v := .agg cs) (App.of (P := Tryz.prog) (t := 33) (u := 33) (e := 148) (n := 5) (ag := true) (bytes := 56) (by kernel_rfl)) (by decide) hcl2 rfl
        repeat' first
         | refine Opl.val (op_load rfl (ld_agg hpte hcl2)) rfl ?_
         | refine Opl.val (op_buildSlice1 rfl hbs) rfl ?_
         | refine Opl.val (op_app rfl rfl happ) rfl ?_
         | refine Opl.eff (op_store rfl rfl hst) ?_
         | refine Opl.val (op_int rfl rfl rfl (inc_ok (i := q) (by omega))) rfl ?_
         | refine Go.drawAt [1, 2, 3, 4, 5, 6, 0, 7, 8] (by kernel_rfl) ?_
         | refine .std ?_ | refine .nil ?_ | refine .seq ?_ | refine .region ?_ | refine .xs ?_ | refine .kb ?_ | refine .leaf ?_ | refine .block ?_ | refine .gn ?_ | refine .dr ?_ | fail
        refine (IH (q + 1) _ S5 (by omega) ⟨rfl, by omega, j3, v', hc3.ofBox (by omega) fun t cs hb => hbx5 c t cs (by have := hc3.lt; omega) hxc.symm hb, by rw [scanL_snoc _ _ _ _ h2.sc]; exact hsc, hb5, hg5, ?_, by omega, ?_⟩).weaken ⟨rfl, rfl, rfl, rfl, rfl, trivial⟩
        · rw [hel, ← slc_app (by omega : i1 ≤ j) (Nat.le_of_lt hlt3)]
          exact h2.enc.snoc henc1
        · refine ⟨by omega, fun id h4 h5 h6 => ?_⟩
          rw [hold id (by omega) (by omega) h6, k3.find id (by simp [St.new]; omega) h5 (by omega), ← h2.keep.find id h4 h5 h6]
          have : id ≠ S2.next := by omega
          simp only [St.new, Tr.find_put, if_neg this]
      · obtain ⟨b, hsc, rfl, k3⟩ := h3
        rw [scanF_sub] at hsc
        refine At.fnp rfl ⟨b, scanF_lerr hr hq2 h2.sc hsc, rfl, ?_⟩
        have hn3 := k3.next
        simp only [St.new] at hn3
        have hn0 := h2.keep.next
        refine ⟨by omega, fun id h4 h5 h6 => ?_⟩
        rw [k3.find id (by simp [St.new]; omega) h5 (by omega), ← h2.keep.find id h4 h5 h6]
        have : id ≠ S2.next := by omega
        simp only [St.new, Tr.find_put, if_neg this]
    · have hq : q = n := by have := of_decide_eq_false hq2; omega
      subst hq
      repeat' first
       | refine At.fn rfl rfl rfl ?_
       | refine .std ?_ | refine .nil ?_ | refine .seq ?_ | refine .region ?_ | refine .xs ?_ | refine .kb ?_ | refine .leaf ?_ | refine .block ?_ | refine .gn ?_ | refine .dr ?_ | fail
      exact h2.done hr
  · obtain ⟨hr, rfl, k1⟩ := h1
    exact At.fnp rfl ⟨i, by simp only [scanF, hr], rfl, k1.one x⟩
theorem rlist158 (k : Nat) (s : List UInt8) {g : FuncId} (hg : hasBody Tryz.prog g = true) (he : GC g (fun c p => [c, p]) k s [.sub 17] (zc 17) 1) : GC 79 (fun c p => [c, p, .func g [] []]) k s [.list 17] [.nils] 0 := by
  refine ⟨?_⟩
  intro S c x i T L R off h ho hxc hx hk hbox
  refine CallTo.of (n := 48) Tryz.func79 rfl rfl ?_
  have hcpt := h.pt
  have hpt := pt_mid (z := .nils) ho hbox
  repeat' first
   | refine Opl.val (op_lenL rfl rfl rfl) rfl ?_
   | refine Opl.call rfl (by kernel_rfl) (h.length _ (Int.natCast_nonneg _)) rfl (fun v S1 h1 => ?_) (fun v S1 h1 => ?_)
   | refine .std ?_ | refine .nil ?_ | refine .seq ?_ | refine .region ?_ | refine .xs ?_ | refine .kb ?_ | refine .leaf ?_ | refine .block ?_ | refine .gn ?_ | refine .dr ?_ | fail
  · obtain ⟨⟨n, i1⟩, hr, rfl, h1, k1⟩ := h1
    obtain ⟨hR, hle⟩ := rdLen_some hr
    simp only at hR hle h1
    have hlt := hR.lt
    have hsm := h1.small
    have hpt1 := h1.pt
    repeat' first
     | refine Go.condF rfl ?_
     | refine .std ?_ | refine .nil ?_ | refine .seq ?_ | refine .region ?_ | refine .xs ?_ | refine .kb ?_ | refine .leaf ?_ | refine .block ?_ | refine .gn ?_ | refine .dr ?_ | fail
    refine Go.weaken (E' := [(0, .ptr c 0), (1, .ptr x off), (2, .func g [] []), (33, .int .i64 n), (34, .int .i64 (0 : Nat))]) ?_ ⟨rfl, rfl, rfl, rfl, rfl, trivial⟩
    refine Go.loop_ind (α := Nat) (fun q => n - q) (fun q E S' => E = [(0, .ptr c 0), (1, .ptr x off), (2, .func g [] []), (33, .int .i64 n), (34, .int .i64 q)] ∧ q ≤ n ∧ ∃ j v, RdL S S' c x s (scan s k 17) 17 158 4 T L R i1 q j v) ?_ 0 _ _
      ⟨rfl, Nat.zero_le _, i1, .nils, h1, rfl, by rw [k1.find x hx hxc hxc]; exact hbox, .inl ⟨rfl, rfl⟩, by rw [slc_self]; exact EncE.nil _, by omega, k1.one x⟩
    rintro q E S2 ⟨rfl, hq, j, v, h2⟩ IH
    repeat' first | refine .std ?_ | refine .nil ?_ | refine .seq ?_ | refine .region ?_ | refine .xs ?_ | refine .kb ?_ | refine .leaf ?_ | refine .block ?_ | refine .gn ?_ | refine .dr ?_ | fail
    refine Go.cond rfl (fun hq2 => ?_) (fun hq2 => ?_)
    · have hq2 : q < n := by have := of_decide_eq_true hq2; omega
      have hxl2 : x < S2.next := Nat.lt_of_lt_of_le hx h2.keep.next
      have hc2 : CodR (S2.new (.box 158 (zc 17))) c s j := h2.cod.ofBox (by simp [St.new]) fun t cs hb => by simp only [St.new, Tr.find_put, if_neg (Nat.ne_of_lt h2.cod.lt)]; exact hb
      have hzb : (S2.new (.box 158 (zc 17))).h.find S2.next = some (.box 158 ([] ++ (zc 17 ++ []))) := by simp [St.new, Tr.find_put]
      have hlej := h2.le
      have hjle := h2.cod.le
      have hcall := he.h hc2 (x := S2.next) (off := 0) rfl (by have := h2.cod.lt; omega) (by simp [St.new]) (by omega) hzb
      repeat' first
       | refine Go.hold 11 ?_
       | refine Opl.val op_alloc rfl ?_
       | refine Opl.call rfl hg hcall rfl (fun v3 S3 h3 => ?_) (fun v3 S3 h3 => ?_)
       | refine .std ?_ | refine .nil ?_ | refine .seq ?_ | refine .region ?_ | refine .xs ?_ | refine .kb ?_ | refine .leaf ?_ | refine .block ?_ | refine .gn ?_ | refine .dr ?_ | fail
      · refine ⟨?_⟩
        obtain ⟨j3, cs, hsc, hc3, hb3, hcl, henc, hlt3, k3⟩ := h3
        simp only [List.nil_append, List.append_nil] at hb3
        rw [scanF_sub] at hsc
        have hn3 := k3.next
        simp only [St.new] at hn3
        have hx3 : S3.h.find x = some (.box T (L ++ v :: R)) := by
          rw [k3.find x (by simp [St.new]; omega) hxc (by omega)]
          simp only [St.new, Tr.find_put, if_neg (Nat.ne_of_lt hxl2)]; exact h2.box
        have hg3 : Grow S3 S.next 158 4 q v := by
          rcases h2.grow with hg | ⟨es, tid, g1, g2, g3, g4, g5⟩
          · exact .inl hg
          · refine .inr ⟨es, tid, g1, ?_, g3, by omega, g5⟩
            have hne : tid ≠ c := by rintro rfl; rw [h2.cod.box] at g2; cases g2
            rw [k3.find tid (by simp [St.new]; omega) hne (by omega)]
            simp only [St.new, Tr.find_put, if_neg (Nat.ne_of_lt g4)]; exact g2
        have hn0 := h2.keep.next
        have henc1 := henc.unsub
        have hcl2 : cs.length = 4 := hcl
        skip
        obtain ⟨v', S4, S5, happ, hk4, hst, hb5, hg5, hel, hn5, hold, hbx5⟩ := grow_app (P := Tryz.prog) (xv := .agg cs) (App.of (P := Tryz.prog) (t := 146) (u := 146) (e := 158) (n := 4) (ag := true) (bytes := 40) (by kernel_rfl)) inferInstance (by decide) (by omega) hg3 (by omega) ho (by omega) hx3 hcl2 henc1.ones
        have hptl := pt_mid (z := v) ho hx3
        have hpte : Pt S3 (.ptr S2.next 0) cs := ⟨_, _, hb3, fun i v h => by simpa using h⟩
        have hbs := bsl_one (P := Tryz.prog) (v := .agg cs) (App.of (P := Tryz.prog) (t := 146) (u := 146) (e := 158) (n := 4) (ag := true) (bytes := 40) (by kernel_rfl)) (by decide) hcl2 rfl
        repeat' first
         | refine Opl.val (op_load rfl (ld_agg hpte hcl2)) rfl ?_
         | refine Opl.val (op_buildSlice1 rfl hbs) rfl ?_
         | refine Opl.val (op_app rfl rfl happ) rfl ?_
         | refine Opl.eff (op_store rfl rfl hst) ?_
         | refine Opl.val (op_int rfl rfl rfl (inc_ok (i := q) (by omega))) rfl ?_
         | refine Go.drawAt [1, 2, 3, 4, 5, 6, 0, 7, 8] (by kernel_rfl) ?_
         | refine .std ?_ | refine .nil ?_ | refine .seq ?_ | refine .region ?_ | refine .xs ?_ | refine .kb ?_ | refine .leaf ?_ | refine .block ?_ | refine .gn ?_ | refine .dr ?_ | fail
        refine (IH (q + 1) _ S5 (by omega) ⟨rfl, by omega, j3, v', hc3.ofBox (by omega) fun t cs hb => hbx5 c t cs (by have := hc3.lt; omega) hxc.symm hb, by rw [scanL_snoc _ _ _ _ h2.sc]; exact hsc, hb5, hg5, ?_, by omega, ?_⟩).weaken ⟨rfl, rfl, rfl, rfl, rfl, trivial⟩
        · rw [hel, ← slc_app (by omega : i1 ≤ j) (Nat.le_of_lt hlt3)]
          exact h2.enc.snoc henc1
        · refine ⟨by omega, fun id h4 h5 h6 => ?_⟩
          rw [hold id (by omega) (by omega) h6, k3.find id (by simp [St.new]; omega) h5 (by omega), ← h2.keep.find id h4 h5 h6]
          have : id ≠ S2.next := by omega
          simp only [St.new, Tr.find_put, if_neg this]
      · obtain ⟨b, hsc, rfl, k3⟩ := h3
        rw [scanF_sub] at hsc
        refine At.fnp rfl ⟨b, scanF_lerr hr hq2 h2.sc hsc, rfl, ?_⟩
        have hn3 := k3.next
        simp only [St.new] at hn3
        have hn0 := h2.keep.next
        refine ⟨by omega, fun id h4 h5 h6 => ?_⟩
        rw [k3.find id (by simp [St.new]; omega) h5 (by omega), ← h2.keep.find id h4 h5 h6]
        have : id ≠ S2.next := by omega
        simp only [St.new, Tr.find_put, if_neg this]
    · have hq : q = n := by have := of_decide_eq_false hq2; omega
      subst hq
      repeat' first
       | refine At.fn rfl rfl rfl ?_
       | refine .std ?_ | refine .nil ?_ | refine .seq ?_ | refine .region ?_ | refine .xs ?_ | refine .kb ?_ | refine .leaf ?_ | refine .block ?_ | refine .gn ?_ | refine .dr ?_ | fail
      exact h2.done hr
  · obtain ⟨hr, rfl, k1⟩ := h1
    exact At.fnp rfl ⟨i, by simp only [scanF, hr], rfl, k1.one x⟩
theorem rlist192 (k : Nat) (s : List UInt8) {g : FuncId} (hg : hasBody Tryz.prog g = true) (he : GC g (fun c p => [c, p]) k s [.sub 18] (zc 18) 1) : GC 139 (fun c p => [c, p, .func g [] []]) k s [.list 18] [.nils] 0 := by
  refine ⟨?_⟩
  intro S c x i T L R off h ho hxc hx hk hbox
  refine CallTo.of (n := 48) Tryz.func139 rfl rfl ?_
  have hcpt := h.pt
  have hpt := pt_mid (z := .nils) ho hbox
  repeat' first
   | refine Opl.val (op_lenL rfl rfl rfl) rfl ?_
   | refine Opl.call rfl (by kernel_rfl) (h.length _ (Int.natCast_nonneg _)) rfl (fun v S1 h1 => ?_) (fun v S1 h1 => ?_)
   | refine .std ?_ | refine .nil ?_ | refine .seq ?_ | refine .region ?_ | refine .xs ?_ | refine .kb ?_ | refine .leaf ?_ | refine .block ?_ | refine .gn ?_ | refine .dr ?_ | fail
  · obtain ⟨⟨n, i1⟩, hr, rfl, h1, k1⟩ := h1
    obtain ⟨hR, hle⟩ := rdLen_some hr
    simp only at hR hle h1
    have hlt := hR.lt
    have hsm := h1.small
    have hpt1 := h1.pt
    repeat' first
     | refine Go.condF rfl ?_
     | refine .std ?_ | refine .nil ?_ | refine .seq ?_ | refine .region ?_ | refine .xs ?_ | refine .kb ?_ | refine .leaf ?_ | refine .block ?_ | refine .gn ?_ | refine .dr ?_ | fail
    refine Go.weaken (E' := [(0, .ptr c 0), (1, .ptr x off), (2, .func g [] []), (33, .int .i64 n), (34, .int .i64 (0 : Nat))]) ?_ ⟨rfl, rfl, rfl, rfl, rfl, trivial⟩
    refine Go.loop_ind (α := Nat) (fun q => n - q) (fun q E S' => E = [(0, .ptr c 0), (1, .ptr x off), (2, .func g [] []), (33, .int .i64 n), (34, .int .i64 q)] ∧ q ≤ n ∧ ∃ j v, RdL S S' c x s (scan s k 18) 18 192 3 T L R i1 q j v) ?_ 0 _ _
      ⟨rfl, Nat.zero_le _, i1, .nils, h1, rfl, by rw [k1.find x hx hxc hxc]; exact hbox, .inl ⟨rfl, rfl⟩, by rw [slc_self]; exact EncE.nil _, by omega, k1.one x⟩
    rintro q E S2 ⟨rfl, hq, j, v, h2⟩ IH
    repeat' first | refine .std ?_ | refine .nil ?_ | refine .seq ?_ | refine .region ?_ | refine .xs ?_ | refine .kb ?_ | refine .leaf ?_ | refine .block ?_ | refine .gn ?_ | refine .dr ?_ | fail
    refine Go.cond rfl (fun hq2 => ?_) (fun hq2 => ?_)
    · have hq2 : q < n := by have := of_decide_eq_true hq2; omega
      have hxl2 : x < S2.next := Nat.lt_of_lt_of_le hx h2.keep.next
      have hc2 : CodR (S2.new (.box 192 (zc 18))) c s j := h2.cod.ofBox (by simp [St.new]) fun t cs hb => by simp only [St.new, Tr.find_put, if_neg (Nat.ne_of_lt h2.cod.lt)]; exact hb
      have hzb : (S2.new (.box 192 (zc 18))).h.find S2.next = some (.box 192 ([] ++ (zc 18 ++ []))) := by simp [St.new, Tr.find_put]
      have hlej := h2.le
      have hjle := h2.cod.le
      have hcall := he.h hc2 (x := S2.next) (off := 0) rfl (by have := h2.cod.lt; omega) (by simp [St.new]) (by omega) hzb
      repeat' first
       | refine Go.hold 11 ?_
       | refine Opl.val op_alloc rfl ?_
       | refine Opl.call rfl hg hcall rfl (fun v3 S3 h3 => ?_) (fun v3 S3 h3 => ?_)
       | refine .std ?_ | refine .nil ?_ | refine .seq ?_ | refine .region ?_ | refine .xs ?_ | refine .kb ?_ | refine .leaf ?_ | refine .block ?_ | refine .gn ?_ | refine .dr ?_ | fail
      · refine ⟨?_⟩
        obtain ⟨j3, cs, hsc, hc3, hb3, hcl, henc, hlt3, k3⟩ := h3
        simp only [List.nil_append, List.append_nil] at hb3
        rw [scanF_sub] at hsc
        have hn3 := k3.next
        simp only [St.new] at hn3
        have hx3 : S3.h.find x = some (.box T (L ++ v :: R)) := by
          rw [k3.find x (by simp [St.new]; omega) hxc (by omega)]
          simp only [St.new, Tr.find_put, if_neg (Nat.ne_of_lt hxl2)]; exact h2.box
        have hg3 : Grow S3 S.next 192 3 q v := by
          rcases h2.grow with hg | ⟨es, tid, g1, g2, g3, g4, g5⟩
          · exact .inl hg
          · refine .inr ⟨es, tid, g1, ?_, g3, by omega, g5⟩
            have hne : tid ≠ c := by rintro rfl; rw [h2.cod.box] at g2; cases g2
            rw [k3.find tid (by simp [St.new]; omega) hne (by omega)]
            simp only [St.new, Tr.find_put, if_neg (Nat.ne_of_lt g4)]; exact g2
        have hn0 := h2.keep.next
        have henc1 := henc.unsub
        have hcl2 : cs.length = 3 := hcl
        skip
        obtain ⟨v', S4, S5, happ, hk4, hst, hb5, hg5, hel, hn5, hold, hbx5⟩ := grow_app (P := Tryz.prog) (xv := .agg cs) (App.of (P := Tryz.prog) (t := 51) (u := 51) (e := 192) (n := 3) (ag := true) (bytes := 32) (by kernel_rfl)) inferInstance (by decide) (by omega) hg3 (by omega) ho (by omega) hx3 hcl2 henc1.ones
        have hptl := pt_mid (z := v) ho hx3
        have hpte : Pt S3 (.ptr S2.next 0) cs := ⟨_, _, hb3, fun i v h => by simpa using h⟩
        have hbs := bsl_one (P := Tryz.prog) (v := .agg cs) (App.of (P := Tryz.prog) (t := 51) (u := 51) (e := 192) (n := 3) (ag := true) (bytes := 32) (by kernel_rfl)) (by decide) hcl2 rfl
        repeat' first
         | refine Opl.val (op_load rfl (ld_agg hpte hcl2)) rfl ?_
         | refine Opl.val (op_buildSlice1 rfl hbs) rfl ?_
         | refine Opl.val (op_app rfl rfl happ) rfl ?_
         | refine Opl.eff (op_store rfl rfl hst) ?_
         | refine Opl.val (op_int rfl rfl rfl (inc_ok (i := q) (by omega))) rfl ?_
         | refine Go.drawAt [1, 2, 3, 4, 5, 6, 0, 7, 8] (by kernel_rfl) ?_
         | refine .std ?_ | refine .nil ?_ | refine .seq ?_ | refine .region ?_ | refine .xs ?_ | refine .kb ?_ | refine .leaf ?_ | refine .block ?_ | refine .gn ?_ | refine .dr ?_ | fail
        refine (IH (q + 1) _ S5 (by omega) ⟨rfl, by omega, j3, v', hc3.ofBox (by omega) fun t cs hb => hbx5 c t cs (by have := hc3.lt; omega) hxc.symm hb, by rw [scanL_snoc _ _ _ _ h2.sc]; exact hsc, hb5, hg5, ?_, by omega, ?_⟩).weaken ⟨rfl, rfl, rfl, rfl, rfl, trivial⟩
        · rw [hel, ← slc_app (by omega : i1 ≤ j) (Nat.le_of_lt hlt3)]
          exact h2.enc.snoc henc1
        · refine ⟨by omega, fun id h4 h5 h6 => ?_⟩
          rw [hold id (by omega) (by omega) h6, k3.find id (by simp [St.new]; omega) h5 (by omega), ← h2.keep.find id h4 h5 h6]
          have : id ≠ S2.next := by omega
          simp only [St.new, Tr.find_put, if_neg this]
      · obtain ⟨b, hsc, rfl, k3⟩ := h3
        rw [scanF_sub] at hsc
        refine At.fnp rfl ⟨b, scanF_lerr hr hq2 h2.sc hsc, rfl, ?_⟩
        have hn3 := k3.next
        simp only [St.new] at hn3
        have hn0 := h2.keep.next
        refine ⟨by omega, fun id h4 h5 h6 => ?_⟩
        rw [k3.find id (by simp [St.new]; omega) h5 (by omega), ← h2.keep.find id h4 h5 h6]
        have : id ≠ S2.next := by omega
        simp only [St.new, Tr.find_put, if_neg this]
    · have hq : q = n := by have := of_decide_eq_false hq2; omega
      subst hq
      repeat' first
       | refine At.fn rfl rfl rfl ?_
       | refine .std ?_ | refine .nil ?_ | refine .seq ?_ | refine .region ?_ | refine .xs ?_ | refine .kb ?_ | refine .leaf ?_ | refine .block ?_ | refine .gn ?_ | refine .dr ?_ | fail
      exact h2.done hr
  · obtain ⟨hr, rfl, k1⟩ := h1
    exact At.fnp rfl ⟨i, by simp only [scanF, hr], rfl, k1.one x⟩
theorem rlist9 (k : Nat) (s : List UInt8) {g : FuncId} (hg : hasBody Tryz.prog g = true) (he : GC g (fun c p => [c, p]) k s [.sub 1] (zc 1) 1) : GC 113 (fun c p => [c, p, .func g [] []]) k s [.list 1] [.nils] 0 := by
  refine ⟨?_⟩
  intro S c x i T L R off h ho hxc hx hk hbox
  refine CallTo.of (n := 48) Tryz.func113 rfl rfl ?_
  have hcpt := h.pt
  have hpt := pt_mid (z := .nils) ho hbox
  repeat' first
   | refine Opl.val (op_lenL rfl rfl rfl) rfl ?_
   | refine Opl.call rfl (by kernel_rfl) (h.length _ (Int.natCast_nonneg _)) rfl (fun v S1 h1 => ?_) (fun v S1 h1 => ?_)
   | refine .std ?_ | refine .nil ?_ | refine .seq ?_ | refine .region ?_ | refine .xs ?_ | refine .kb ?_ | refine .leaf ?_ | refine .block ?_ | refine .gn ?_ | refine .dr ?_ | fail
  · obtain ⟨⟨n, i1⟩, hr, rfl, h1, k1⟩ := h1
    obtain ⟨hR, hle⟩ := rdLen_some hr
    simp only at hR hle h1
    have hlt := hR.lt
    have hsm := h1.small
    have hpt1 := h1.pt
    repeat' first
     | refine Go.condF rfl ?_
     | refine .std ?_ | refine .nil ?_ | refine .seq ?_ | refine .region ?_ | refine .xs ?_ | refine .kb ?_ | refine .leaf ?_ | refine .block ?_ | refine .gn ?_ | refine .dr ?_ | fail
    refine Go.weaken (E' := [(0, .ptr c 0), (1, .ptr x off), (2, .func g [] []), (33, .int .i64 n), (34, .int .i64 (0 : Nat))]) ?_ ⟨rfl, rfl, rfl, rfl, rfl, trivial⟩
    refine Go.loop_ind (α := Nat) (fun q => n - q) (fun q E S' => E = [(0, .ptr c 0), (1, .ptr x off), (2, .func g [] []), (33, .int .i64 n), (34, .int .i64 q)] ∧ q ≤ n ∧ ∃ j v, RdL S S' c x s (scan s k 1) 1 9 1 T L R i1 q j v) ?_ 0 _ _
      ⟨rfl, Nat.zero_le _, i1, .nils, h1, rfl, by rw [k1.find x hx hxc hxc]; exact hbox, .inl ⟨rfl, rfl⟩, by rw [slc_self]; exact EncE.nil _, by omega, k1.one x⟩
    rintro q E S2 ⟨rfl, hq, j, v, h2⟩ IH
    repeat' first | refine .std ?_ | refine .nil ?_ | refine .seq ?_ | refine .region ?_ | refine .xs ?_ | refine .kb ?_ | refine .leaf ?_ | refine .block ?_ | refine .gn ?_ | refine .dr ?_ | fail
    refine Go.cond rfl (fun hq2 => ?_) (fun hq2 => ?_)
    · have hq2 : q < n := by have := of_decide_eq_true hq2; omega
      have hxl2 : x < S2.next := Nat.lt_of_lt_of_le hx h2.keep.next
      have hc2 : CodR (S2.new (.box 9 (zc 1))) c s j := h2.cod.ofBox (by simp [St.new]) fun t cs hb => by simp only [St.new, Tr.find_put, if_neg (Nat.ne_of_lt h2.cod.lt)]; exact hb
      have hzb : (S2.new (.box 9 (zc 1))).h.find S2.next = some (.box 9 ([] ++ (zc 1 ++ []))) := by simp [St.new, Tr.find_put]
      have hlej := h2.le
      have hjle := h2.cod.le
      have hcall := he.h hc2 (x := S2.next) (off := 0) rfl (by have := h2.cod.lt; omega) (by simp [St.new]) (by omega) hzb
      repeat' first
       | refine Go.hold 11 ?_
       | refine Opl.val op_alloc rfl ?_
       | refine Opl.call rfl hg hcall rfl (fun v3 S3 h3 => ?_) (fun v3 S3 h3 => ?_)
       | refine .std ?_ | refine .nil ?_ | refine .seq ?_ | refine .region ?_ | refine .xs ?_ | refine .kb ?_ | refine .leaf ?_ | refine .block ?_ | refine .gn ?_ | refine .dr ?_ | fail
      · refine ⟨?_⟩
        obtain ⟨j3, cs, hsc, hc3, hb3, hcl, henc, hlt3, k3⟩ := h3
        simp only [List.nil_append, List.append_nil] at hb3
        rw [scanF_sub] at hsc
        have hn3 := k3.next
        simp only [St.new] at hn3
        have hx3 : S3.h.find x = some (.box T (L ++ v :: R)) := by
          rw [k3.find x (by simp [St.new]; omega) hxc (by omega)]
          simp only [St.new, Tr.find_put, if_neg (Nat.ne_of_lt hxl2)]; exact h2.box
        have hg3 : Grow S3 S.next 9 1 q v := by
          rcases h2.grow with hg | ⟨es, tid, g1, g2, g3, g4, g5⟩
          · exact .inl hg
          · refine .inr ⟨es, tid, g1, ?_, g3, by omega, g5⟩
            have hne : tid ≠ c := by rintro rfl; rw [h2.cod.box] at g2; cases g2
            rw [k3.find tid (by simp [St.new]; omega) hne (by omega)]
            simp only [St.new, Tr.find_put, if_neg (Nat.ne_of_lt g4)]; exact g2
        have hn0 := h2.keep.next
        have henc1 := henc.unsub
        have hcl2 : cs.length = 1 := hcl
        obtain ⟨u, rfl, hu1, hu2⟩ := cells1 hcl2 henc1.ones
        obtain ⟨v', S4, S5, happ, hk4, hst, hb5, hg5, hel, hn5, hold, hbx5⟩ := grow_app (P := Tryz.prog) (xv := u) (App.of (P := Tryz.prog) (t := 26) (u := 26) (e := 9) (n := 1) (ag := false) (bytes := 16) (by kernel_rfl)) inferInstance (by decide) (by omega) hg3 (by omega) ho (by omega) hx3 (congrArg List.length hu1) (hu1.symm ▸ henc1.ones)
        have hptl := pt_mid (z := v) ho hx3
        have hpte : Pt S3 (.ptr S2.next 0) [u] := ⟨_, _, hb3, fun i v h => by simpa using h⟩
        have hbs := bsl_one (P := Tryz.prog) (v := u) (App.of (P := Tryz.prog) (t := 26) (u := 26) (e := 9) (n := 1) (ag := false) (bytes := 16) (by kernel_rfl)) (by decide) (congrArg List.length hu1) hu2
        repeat' first
         | refine Opl.val (op_load rfl (ld_one hpte)) rfl ?_
         | refine Opl.val (op_buildSlice1 rfl hbs) rfl ?_
         | refine Opl.val (op_app rfl rfl happ) rfl ?_
         | refine Opl.eff (op_store rfl rfl hst) ?_
         | refine Opl.val (op_int rfl rfl rfl (inc_ok (i := q) (by omega))) rfl ?_
         | refine Go.drawAt [1, 2, 3, 4, 5, 6, 0, 7, 8] (by kernel_rfl) ?_
         | refine .std ?_ | refine .nil ?_ | refine .seq ?_ | refine .region ?_ | refine .xs ?_ | refine .kb ?_ | refine .leaf ?_ | refine .block ?_ | refine .gn ?_ | refine .dr ?_ | fail
        refine (IH (q + 1) _ S5 (by omega) ⟨rfl, by omega, j3, v', hc3.ofBox (by omega) fun t cs hb => hbx5 c t cs (by have := hc3.lt; omega) hxc.symm hb, by rw [scanL_snoc _ _ _ _ h2.sc]; exact hsc, hb5, hg5, ?_, by omega, ?_⟩).weaken ⟨rfl, rfl, rfl, rfl, rfl, trivial⟩
        · rw [hel, ← slc_app (by omega : i1 ≤ j) (Nat.le_of_lt hlt3)]
          exact h2.enc.snoc (hu1.symm ▸ henc1)
        · refine ⟨by omega, fun id h4 h5 h6 => ?_⟩
          rw [hold id (by omega) (by omega) h6, k3.find id (by simp [St.new]; omega) h5 (by omega), ← h2.keep.find id h4 h5 h6]
          have : id ≠ S2.next := by omega
          simp only [St.new, Tr.find_put, if_neg this]
      · obtain ⟨b, hsc, rfl, k3⟩ := h3
        rw [scanF_sub] at hsc
        refine At.fnp rfl ⟨b, scanF_lerr hr hq2 h2.sc hsc, rfl, ?_⟩
        have hn3 := k3.next
        simp only [St.new] at hn3
        have hn0 := h2.keep.next
        refine ⟨by omega, fun id h4 h5 h6 => ?_⟩
        rw [k3.find id (by simp [St.new]; omega) h5 (by omega), ← h2.keep.find id h4 h5 h6]
        have : id ≠ S2.next := by omega
        simp only [St.new, Tr.find_put, if_neg this]
    · have hq : q = n := by have := of_decide_eq_false hq2; omega
      subst hq
      repeat' first
       | refine At.fn rfl rfl rfl ?_
       | refine .std ?_ | refine .nil ?_ | refine .seq ?_ | refine .region ?_ | refine .xs ?_ | refine .kb ?_ | refine .leaf ?_ | refine .block ?_ | refine .gn ?_ | refine .dr ?_ | fail
      exact h2.done hr
  · obtain ⟨hr, rfl, k1⟩ := h1
    exact At.fnp rfl ⟨i, by simp only [scanF, hr], rfl, k1.one x⟩
theorem rlist3 (k : Nat) (s : List UInt8) {g : FuncId} (hg : hasBody Tryz.prog g = true) (he : GC g (fun c p => [c, p]) k s [.sub 0] (zc 0) 1) : GC 98 (fun c p => [c, p, .func g [] []]) k s [.list 0] [.nils] 0 := by
  refine ⟨?_⟩
  intro S c x i T L R off h ho hxc hx hk hbox
  refine CallTo.of (n := 48) Tryz.func98 rfl rfl ?_
  have hcpt := h.pt
  have hpt := pt_mid (z := .nils) ho hbox
  repeat' first
   | refine Opl.val (op_lenL rfl rfl rfl) rfl ?_
   | refine Opl.call rfl (by kernel_rfl) (h.length _ (Int.natCast_nonneg _)) rfl (fun v S1 h1 => ?_) (fun v S1 h1 => ?_)
   | refine .std ?_ | refine .nil ?_ | refine .seq ?_ | refine .region ?_ | refine .xs ?_ | refine .kb ?_ | refine .leaf ?_ | refine .block ?_ | refine .gn ?_ | refine .dr ?_ | fail
  · obtain ⟨⟨n, i1⟩, hr, rfl, h1, k1⟩ := h1
    obtain ⟨hR, hle⟩ := rdLen_some hr
    simp only at hR hle h1
    have hlt := hR.lt
    have hsm := h1.small
    have hpt1 := h1.pt
    repeat' first
     | refine Go.condF rfl ?_
     | refine .std ?_ | refine .nil ?_ | refine .seq ?_ | refine .region ?_ | refine .xs ?_ | refine .kb ?_ | refine .leaf ?_ | refine .block ?_ | refine .gn ?_ | refine .dr ?_ | fail
    refine Go.weaken (E' := [(0, .ptr c 0), (1, .ptr x off), (2, .func g [] []), (33, .int .i64 n), (34, .int .i64 (0 : Nat))]) ?_ ⟨rfl, rfl, rfl, rfl, rfl, trivial⟩
    refine Go.loop_ind (α := Nat) (fun q => n - q) (fun q E S' => E = [(0, .ptr c 0), (1, .ptr x off), (2, .func g [] []), (33, .int .i64 n), (34, .int .i64 q)] ∧ q ≤ n ∧ ∃ j v, RdL S S' c x s (scan s k 0) 0 3 1 T L R i1 q j v) ?_ 0 _ _
      ⟨rfl, Nat.zero_le _, i1, .nils, h1, rfl, by rw [k1.find x hx hxc hxc]; exact hbox, .inl ⟨rfl, rfl⟩, by rw [slc_self]; exact EncE.nil _, by omega, k1.one x⟩
    rintro q E S2 ⟨rfl, hq, j, v, h2⟩ IH
    repeat' first | refine .std ?_ | refine .nil ?_ | refine .seq ?_ | refine .region ?_ | refine .xs ?_ | refine .kb ?_ | refine .leaf ?_ | refine .block ?_ | refine .gn ?_ | refine .dr ?_ | fail
    refine Go.cond rfl (fun hq2 => ?_) (fun hq2 => ?_)
    · have hq2 : q < n := by have := of_decide_eq_true hq2; omega
      have hxl2 : x < S2.next := Nat.lt_of_lt_of_le hx h2.keep.next
      have hc2 : CodR (S2.new (.box 3 (zc 0))) c s j := h2.cod.ofBox (by simp [St.new]) fun t cs hb => by simp only [St.new, Tr.find_put, if_neg (Nat.ne_of_lt h2.cod.lt)]; exact hb
      have hzb : (S2.new (.box 3 (zc 0))).h.find S2.next = some (.box 3 ([] ++ (zc 0 ++ []))) := by simp [St.new, Tr.find_put]
      have hlej := h2.le
      have hjle := h2.cod.le
      have hcall := he.h hc2 (x := S2.next) (off := 0) rfl (by have := h2.cod.lt; omega) (by simp [St.new]) (by omega) hzb
      repeat' first
       | refine Go.hold 11 ?_
       | refine Opl.val op_alloc rfl ?_
       | refine Opl.call rfl hg hcall rfl (fun v3 S3 h3 => ?_) (fun v3 S3 h3 => ?_)
       | refine .std ?_ | refine .nil ?_ | refine .seq ?_ | refine .region ?_ | refine .xs ?_ | refine .kb ?_ | refine .leaf ?_ | refine .block ?_ | refine .gn ?_ | refine .dr ?_ | fail
      · refine ⟨?_⟩
        obtain ⟨j3, cs, hsc, hc3, hb3, hcl, henc, hlt3, k3⟩ := h3
        simp only [List.nil_append, List.append_nil] at hb3
        rw [scanF_sub] at hsc
        have hn3 := k3.next
        simp only [St.new] at hn3
        have hx3 : S3.h.find x = some (.box T (L ++ v :: R)) := by
          rw [k3.find x (by simp [St.new]; omega) hxc (by omega)]
          simp only [St.new, Tr.find_put, if_neg (Nat.ne_of_lt hxl2)]; exact h2.box
        have hg3 : Grow S3 S.next 3 1 q v := by
          rcases h2.grow with hg | ⟨es, tid, g1, g2, g3, g4, g5⟩
          · exact .inl hg
          · refine .inr ⟨es, tid, g1, ?_, g3, by omega, g5⟩
            have hne : tid ≠ c := by rintro rfl; rw [h2.cod.box] at g2; cases g2
            rw [k3.find tid (by simp [St.new]; omega) hne (by omega)]
            simp only [St.new, Tr.find_put, if_neg (Nat.ne_of_lt g4)]; exact g2
        have hn0 := h2.keep.next
        have henc1 := henc.unsub
        have hcl2 : cs.length = 1 := hcl
        obtain ⟨u, rfl, hu1, hu2⟩ := cells1 hcl2 henc1.ones
        obtain ⟨v', S4, S5, happ, hk4, hst, hb5, hg5, hel, hn5, hold, hbx5⟩ := grow_app (P := Tryz.prog) (xv := u) (App.of (P := Tryz.prog) (t := 49) (u := 49) (e := 3) (n := 1) (ag := false) (bytes := 8) (by kernel_rfl)) inferInstance (by decide) (by omega) hg3 (by omega) ho (by omega) hx3 (congrArg List.length hu1) (hu1.symm ▸ henc1.ones)
        have hptl := pt_mid (z := v) ho hx3
        have hpte : Pt S3 (.ptr S2.next 0) [u] := ⟨_, _, hb3, fun i v h => by simpa using h⟩
        have hbs := bsl_one (P := Tryz.prog) (v := u) (App.of (P := Tryz.prog) (t := 49) (u := 49) (e := 3) (n := 1) (ag := false) (bytes := 8) (by kernel_rfl)) (by decide) (congrArg List.length hu1) hu2
        repeat' first
         | refine Opl.val (op_load rfl (ld_one hpte)) rfl ?_
         | refine Opl.val (op_buildSlice1 rfl hbs) rfl ?_
         | refine Opl.val (op_app rfl rfl happ) rfl ?_
         | refine Opl.eff (op_store rfl rfl hst) ?_
         | refine Opl.val (op_int rfl rfl rfl (inc_ok (i := q) (by omega))) rfl ?_
         | refine Go.drawAt [1, 2, 3, 4, 5, 6, 0, 7, 8] (by kernel_rfl) ?_
         | refine .std ?_ | refine .nil ?_ | refine .seq ?_ | refine .region ?_ | refine .xs ?_ | refine .kb ?_ | refine .leaf ?_ | refine .block ?_ | refine .gn ?_ | refine .dr ?_ | fail
        refine (IH (q + 1) _ S5 (by omega) ⟨rfl, by omega, j3, v', hc3.ofBox (by omega) fun t cs hb => hbx5 c t cs (by have := hc3.lt; omega) hxc.symm hb, by rw [scanL_snoc _ _ _ _ h2.sc]; exact hsc, hb5, hg5, ?_, by omega, ?_⟩).weaken ⟨rfl, rfl, rfl, rfl, rfl, trivial⟩
        · rw [hel, ← slc_app (by omega : i1 ≤ j) (Nat.le_of_lt hlt3)]
          exact h2.enc.snoc (hu1.symm ▸ henc1)
        · refine ⟨by omega, fun id h4 h5 h6 => ?_⟩
          rw [hold id (by omega) (by omega) h6, k3.find id (by simp [St.new]; omega) h5 (by omega), ← h2.keep.find id h4 h5 h6]
          have : id ≠ S2.next := by omega
          simp only [St.new, Tr.find_put, if_neg this]
      · obtain ⟨b, hsc, rfl, k3⟩ := h3
        rw [scanF_sub] at hsc
        refine At.fnp rfl ⟨b, scanF_lerr hr hq2 h2.sc hsc, rfl, ?_⟩
        have hn3 := k3.next
        simp only [St.new] at hn3
        have hn0 := h2.keep.next
        refine ⟨by omega, fun id h4 h5 h6 => ?_⟩
        rw [k3.find id (by simp [St.new]; omega) h5 (by omega), ← h2.keep.find id h4 h5 h6]
        have : id ≠ S2.next := by omega
        simp only [St.new, Tr.find_put, if_neg this]
    · have hq : q = n := by have := of_decide_eq_false hq2; omega
      subst hq
      repeat' first
       | refine At.fn rfl rfl rfl ?_
       | refine .std ?_ | refine .nil ?_ | refine .seq ?_ | refine .region ?_ | refine .xs ?_ | refine .kb ?_ | refine .leaf ?_ | refine .block ?_ | refine .gn ?_ | refine .dr ?_ | fail
      exact h2.done hr
  · obtain ⟨hr, rfl, k1⟩ := h1
    exact At.fnp rfl ⟨i, by simp only [scanF, hr], rfl, k1.one x⟩
theorem rlist62 (k : Nat) (s : List UInt8) {g : FuncId} (hg : hasBody Tryz.prog g = true) (he : GC g (fun c p => [c, p]) k s [.sub 2] (zc 2) 1) : GC 106 (fun c p => [c, p, .func g [] []]) k s [.list 2] [.nils] 0 := by
  refine ⟨?_⟩
  intro S c x i T L R off h ho hxc hx hk hbox
  refine CallTo.of (n := 59) Tryz.func106 rfl rfl ?_
  have hcpt := h.pt
  have hpt := pt_mid (z := .nils) ho hbox
  repeat' first
   | refine Opl.val (op_lenL rfl rfl rfl) rfl ?_
   | refine Opl.call rfl (by kernel_rfl) (h.length _ (Int.natCast_nonneg _)) rfl (fun v S1 h1 => ?_) (fun v S1 h1 => ?_)
   | refine .std ?_ | refine .nil ?_ | refine .seq ?_ | refine .region ?_ | refine .xs ?_ | refine .kb ?_ | refine .leaf ?_ | refine .block ?_ | refine .gn ?_ | refine .dr ?_ | fail
  · obtain ⟨⟨n, i1⟩, hr, rfl, h1, k1⟩ := h1
    obtain ⟨hR, hle⟩ := rdLen_some hr
    simp only at hR hle h1
    have hlt := hR.lt
    have hsm := h1.small
    have hpt1 := h1.pt
    repeat' first
     | refine Go.condF rfl ?_
     | refine .std ?_ | refine .nil ?_ | refine .seq ?_ | refine .region ?_ | refine .xs ?_ | refine .kb ?_ | refine .leaf ?_ | refine .block ?_ | refine .gn ?_ | refine .dr ?_ | fail
    refine Go.weaken (E' := [(0, .ptr c 0), (1, .ptr x off), (2, .func g [] []), (33, .int .i64 n), (34, .int .i64 (0 : Nat))]) ?_ ⟨rfl, rfl, rfl, rfl, rfl, trivial⟩
    refine Go.loop_ind (α := Nat) (fun q => n - q) (fun q E S' => E = [(0, .ptr c 0), (1, .ptr x off), (2, .func g [] []), (33, .int .i64 n), (34, .int .i64 q)] ∧ q ≤ n ∧ ∃ j v, RdL S S' c x s (scan s k 2) 2 62 5 T L R i1 q j v) ?_ 0 _ _
      ⟨rfl, Nat.zero_le _, i1, .nils, h1, rfl, by rw [k1.find x hx hxc hxc]; exact hbox, .inl ⟨rfl, rfl⟩, by rw [slc_self]; exact EncE.nil _, by omega, k1.one x⟩
    rintro q E S2 ⟨rfl, hq, j, v, h2⟩ IH
    repeat' first | refine .std ?_ | refine .nil ?_ | refine .seq ?_ | refine .region ?_ | refine .xs ?_ | refine .kb ?_ | refine .leaf ?_ | refine .block ?_ | refine .gn ?_ | refine .dr ?_ | fail
    refine Go.cond rfl (fun hq2 => ?_) (fun hq2 => ?_)
    · have hq2 : q < n := by have := of_decide_eq_true hq2; omega
      have hxl2 : x < S2.next := Nat.lt_of_lt_of_le hx h2.keep.next
      have hc2 : CodR (S2.new (.box 62 (zc 2))) c s j := h2.cod.ofBox (by simp [St.new]) fun t cs hb => by simp only [St.new, Tr.find_put, if_neg (Nat.ne_of_lt h2.cod.lt)]; exact hb
      have hzb : (S2.new (.box 62 (zc 2))).h.find S2.next = some (.box 62 ([] ++ (zc 2 ++ []))) := by simp [St.new, Tr.find_put]
      have hlej := h2.le
      have hjle := h2.cod.le
      have hcall := he.h hc2 (x := S2.next) (off := 0) rfl (by have := h2.cod.lt; omega) (by simp [St.new]) (by omega) hzb
      repeat' first
       | refine Go.holdS 11 ?_
       | refine Opl.val op_alloc rfl ?_
       | refine Opl.call rfl hg hcall rfl (fun v3 S3 h3 => ?_) (fun v3 S3 h3 => ?_)
       | refine .std ?_ | refine .nil ?_ | refine .seq ?_ | refine .region ?_ | refine .xs ?_ | refine .kb ?_ | refine .leaf ?_ | refine .block ?_ | refine .gn ?_ | refine .dr ?_ | fail
      · refine ⟨?_⟩
        obtain ⟨j3, cs, hsc, hc3, hb3, hcl, henc, hlt3, k3⟩ := h3
        simp only [List.nil_append, List.append_nil] at hb3
        rw [scanF_sub] at hsc
        have hn3 := k3.next
        simp only [St.new] at hn3
        have hx3 : S3.h.find x = some (.box T (L ++ v :: R)) := by
          rw [k3.find x (by simp [St.new]; omega) hxc (by omega)]
          simp only [St.new, Tr.find_put, if_neg (Nat.ne_of_lt hxl2)]; exact h2.box
        have hg3 : Grow S3 S.next 62 5 q v := by
          rcases h2.grow with hg | ⟨es, tid, g1, g2, g3, g4, g5⟩
          · exact .inl hg
          · refine .inr ⟨es, tid, g1, ?_, g3, by omega, g5⟩
            have hne : tid ≠ c := by rintro rfl; rw [h2.cod.box] at g2; cases g2
            rw [k3.find tid (by simp [St.new]; omega) hne (by omega)]
            simp only [St.new, Tr.find_put, if_neg (Nat.ne_of_lt g4)]; exact g2
        have hn0 := h2.keep.next
        have henc1 := henc.unsub
        have hcl2 : cs.length = 5 := hcl
        have hgU : Grow S3.up S.next 62 5 q v := by
          rcases hg3 with hg | ⟨es, tid, g1, g2, g3, g4, g5⟩
          · exact .inl hg
          · exact .inr ⟨es, tid, g1, g2, g3, by simp only [St.up]; omega, g5⟩
        have hnU : S3.up.next = S3.next + 1 := rfl
        have happ3 : App Tryz.prog 60 60 62 5 true 80 := App.of (by kernel_rfl)
        obtain ⟨v', S4, S5, happ, hk4, hst, hb5, hg5, hel, hn5, hold, hbx5⟩ := grow_app (P := Tryz.prog) (S := S3.up) (xv := .agg cs) happ3 inferInstance (by decide) (by omega) hgU (by omega) ho (by omega) hx3 hcl2 henc1.ones
        have hptl : Pt S3.up (.ptr x off) [v] := pt_mid (z := v) ho hx3
        have hpte : Pt S3.up (.ptr S2.next 0) cs := ⟨_, _, hb3, fun i v h => by simpa using h⟩
        have hpte4 : Pt S4 (.ptr S2.next 0) cs := ⟨_, _, hk4 _ _ _ (by omega) hb3, fun i v h => by simpa using h⟩
        obtain ⟨ti, ud, z, hi1, hisz, _, _, _, _, _, _, _⟩ := happ3.inf
        have hbs : buildSliceE Tryz.prog 60 1 [(0, .agg cs)] = some (.list (some 62) ti.size [.agg cs] .exact) := by rw [hisz]; exact bsl_one happ3 (by decide) hcl2 rfl
        have hbz : buildSliceE Tryz.prog 60 1 [(0, .agg (zc 2))] = some (.list (some 62) ti.size [.agg (zc 2)] .exact) := by rw [hisz]; exact bsl_one happ3 (by decide) rfl rfl
        have happ' : appendE Tryz.prog 60 60 v (.list (some 62) ti.size [.agg cs] .exact) S3.up = some (v', S4) := by rw [hisz]; exact happ
        have hlenl := hgU.lenE (P := Tryz.prog) (T := 60) (u := 62)
        repeat' first
         | refine Go.cho (E' := [(0, .ptr c 0), (1, .ptr x off), (2, .func g [] []), (33, .int .i64 n), (34, .int .i64 q)]) (zv := .agg (zc 2)) (by kernel_rfl) rfl (by kernel_rfl) (by kernel_rfl) rfl rfl (by kernel_rfl) (by kernel_rfl) rfl rfl rfl happ3.el hi1 hbz hbs hlenl (ld_one hptl) (ld_agg hpte hcl2) (ld_agg hpte4 hcl2) (by omega) happ' hst (hcl2.trans hisz.symm) henc1.ones (Eq.trans rfl hisz.symm) rfl rfl ⟨rfl, rfl, rfl, rfl, rfl, trivial⟩ ?_
         | refine Opl.val (op_int rfl rfl rfl (inc_ok (i := q) (by omega))) rfl ?_
         | refine .std ?_ | refine .nil ?_ | refine .seq ?_ | refine .region ?_ | refine .xs ?_ | refine .kb ?_ | refine .leaf ?_ | refine .block ?_ | refine .gn ?_ | refine .dr ?_ | fail
        refine (IH (q + 1) _ S5 (by omega) ⟨rfl, by omega, j3, v', hc3.ofBox (by omega) fun t cs hb => hbx5 c t cs (by have := hc3.lt; omega) hxc.symm hb, by rw [scanL_snoc _ _ _ _ h2.sc]; exact hsc, hb5, hg5, ?_, by omega, ?_⟩).weaken ⟨rfl, rfl, rfl, rfl, rfl, trivial⟩
        · rw [hel, ← slc_app (by omega : i1 ≤ j) (Nat.le_of_lt hlt3)]
          exact h2.enc.snoc henc1
        · refine ⟨by omega, fun id h4 h5 h6 => ?_⟩
          rw [hold id (by omega) (by omega) h6, show S3.up.h.find id = S3.h.find id from rfl, k3.find id (by simp [St.new]; omega) h5 (by omega), ← h2.keep.find id h4 h5 h6]
          have : id ≠ S2.next := by omega
          simp only [St.new, Tr.find_put, if_neg this]
      · obtain ⟨b, hsc, rfl, k3⟩ := h3
        rw [scanF_sub] at hsc
        refine At.fnp rfl ⟨b, scanF_lerr hr hq2 h2.sc hsc, rfl, ?_⟩
        have hn3 := k3.next
        simp only [St.new] at hn3
        have hn0 := h2.keep.next
        refine ⟨by omega, fun id h4 h5 h6 => ?_⟩
        rw [k3.find id (by simp [St.new]; omega) h5 (by omega), ← h2.keep.find id h4 h5 h6]
        have : id ≠ S2.next := by omega
        simp only [St.new, Tr.find_put, if_neg this]
    · have hq : q = n := by have := of_decide_eq_false hq2; omega
      subst hq
      repeat' first
       | refine At.fn rfl rfl rfl ?_
       | refine .std ?_ | refine .nil ?_ | refine .seq ?_ | refine .region ?_ | refine .xs ?_ | refine .kb ?_ | refine .leaf ?_ | refine .block ?_ | refine .gn ?_ | refine .dr ?_ | fail
      exact h2.done hr
  · obtain ⟨hr, rfl, k1⟩ := h1
    exact At.fnp rfl ⟨i, by simp only [scanF, hr], rfl, k1.one x⟩
theorem rlist221 (k : Nat) (s : List UInt8) {g : FuncId} (hg : hasBody Tryz.prog g = true) (he : GC g (fun c p => [c, p]) k s [.sub 5] (zc 5) 1) : GC 117 (fun c p => [c, p, .func g [] []]) k s [.list 5] [.nils] 0 := by
  refine ⟨?_⟩
  intro S c x i T L R off h ho hxc hx hk hbox
  refine CallTo.of (n := 59) Tryz.func117 rfl rfl ?_
  have hcpt := h.pt
  have hpt := pt_mid (z := .nils) ho hbox
  repeat' first
   | refine Opl.val (op_lenL rfl rfl rfl) rfl ?_
   | refine Opl.call rfl (by kernel_rfl) (h.length _ (Int.natCast_nonneg _)) rfl (fun v S1 h1 => ?_) (fun v S1 h1 => ?_)
   | refine .std ?_ | refine .nil ?_ | refine .seq ?_ | refine .region ?_ | refine .xs ?_ | refine .kb ?_ | refine .leaf ?_ | refine .block ?_ | refine .gn ?_ | refine .dr ?_ | fail
  · obtain ⟨⟨n, i1⟩, hr, rfl, h1, k1⟩ := h1
    obtain ⟨hR, hle⟩ := rdLen_some hr
    simp only at hR hle h1
    have hlt := hR.lt
    have hsm := h1.small
    have hpt1 := h1.pt
    repeat' first
     | refine Go.condF rfl ?_
     | refine .std ?_ | refine .nil ?_ | refine .seq ?_ | refine .region ?_ | refine .xs ?_ | refine .kb ?_ | refine .leaf ?_ | refine .block ?_ | refine .gn ?_ | refine .dr ?_ | fail
    refine Go.weaken (E' := [(0, .ptr c 0), (1, .ptr x off), (2, .func g [] []), (33, .int .i64 n), (34, .int .i64 (0 : Nat))]) ?_ ⟨rfl, rfl, rfl, rfl, rfl, trivial⟩
    refine Go.loop_ind (α := Nat) (fun q => n - q) (fun q E S' => E = [(0, .ptr c 0), (1, .ptr x off), (2, .func g [] []), (33, .int .i64 n), (34, .int .i64 q)] ∧ q ≤ n ∧ ∃ j v, RdL S S' c x s (scan s k 5) 5 221 6 T L R i1 q j v) ?_ 0 _ _
      ⟨rfl, Nat.zero_le _, i1, .nils, h1, rfl, by rw [k1.find x hx hxc hxc]; exact hbox, .inl ⟨rfl, rfl⟩, by rw [slc_self]; exact EncE.nil _, by omega, k1.one x⟩
    rintro q E S2 ⟨rfl, hq, j, v, h2⟩ IH
    repeat' first | refine .std ?_ | refine .nil ?_ | refine .seq ?_ | refine .region ?_ | refine .xs ?_ | refine .kb ?_ | refine .leaf ?_ | refine .block ?_ | refine .gn ?_ | refine .dr ?_ | fail
    refine Go.cond rfl (fun hq2 => ?_) (fun hq2 => ?_)
    · have hq2 : q < n := by have := of_decide_eq_true hq2; omega
      have hxl2 : x < S2.next := Nat.lt_of_lt_of_le hx h2.keep.next
      have hc2 : CodR (S2.new (.box 221 (zc 5))) c s j := h2.cod.ofBox (by simp [St.new]) fun t cs hb => by simp only [St.new, Tr.find_put, if_neg (Nat.ne_of_lt h2.cod.lt)]; exact hb
      have hzb : (S2.new (.box 221 (zc 5))).h.find S2.next = some (.box 221 ([] ++ (zc 5 ++ []))) := by simp [St.new, Tr.find_put]
      have hlej := h2.le
      have hjle := h2.cod.le
      have hcall := he.h hc2 (x := S2.next) (off := 0) rfl (by have := h2.cod.lt; omega) (by simp [St.new]) (by omega) hzb
      repeat' first
       | refine Go.holdS 11 ?_
       | refine Opl.val op_alloc rfl ?_
       | refine Opl.call rfl hg hcall rfl (fun v3 S3 h3 => ?_) (fun v3 S3 h3 => ?_)
       | refine .std ?_ | refine .nil ?_ | refine .seq ?_ | refine .region ?_ | refine .xs ?_ | refine .kb ?_ | refine .leaf ?_ | refine .block ?_ | refine .gn ?_ | refine .dr ?_ | fail
      · refine ⟨?_⟩
        obtain ⟨j3, cs, hsc, hc3, hb3, hcl, henc, hlt3, k3⟩ := h3
        simp only [List.nil_append, List.append_nil] at hb3
        rw [scanF_sub] at hsc
        have hn3 := k3.next
        simp only [St.new] at hn3
        have hx3 : S3.h.find x = some (.box T (L ++ v :: R)) := by
          rw [k3.find x (by simp [St.new]; omega) hxc (by omega)]
          simp only [St.new, Tr.find_put, if_neg (Nat.ne_of_lt hxl2)]; exact h2.box
        have hg3 : Grow S3 S.next 221 6 q v := by
          rcases h2.grow with hg | ⟨es, tid, g1, g2, g3, g4, g5⟩
          · exact .inl hg
          · refine .inr ⟨es, tid, g1, ?_, g3, by omega, g5⟩
            have hne : tid ≠ c := by rintro rfl; rw [h2.cod.box] at g2; cases g2
            rw [k3.find tid (by simp [St.new]; omega) hne (by omega)]
            simp only [St.new, Tr.find_put, if_neg (Nat.ne_of_lt g4)]; exact g2
        have hn0 := h2.keep.next
        have henc1 := henc.unsub
        have hcl2 : cs.length = 6 := hcl
        have hgU : Grow S3.up S.next 221 6 q v := by
          rcases hg3 with hg | ⟨es, tid, g1, g2, g3, g4, g5⟩
          · exact .inl hg
          · exact .inr ⟨es, tid, g1, g2, g3, by simp only [St.up]; omega, g5⟩
        have hnU : S3.up.next = S3.next + 1 := rfl
        have happ3 : App Tryz.prog 210 210 221 6 true 88 := App.of (by kernel_rfl)
        obtain ⟨v', S4, S5, happ, hk4, hst, hb5, hg5, hel, hn5, hold, hbx5⟩ := grow_app (P := Tryz.prog) (S := S3.up) (xv := .agg cs) happ3 inferInstance (by decide) (by omega) hgU (by omega) ho (by omega) hx3 hcl2 henc1.ones
        have hptl : Pt S3.up (.ptr x off) [v] := pt_mid (z := v) ho hx3
        have hpte : Pt S3.up (.ptr S2.next 0) cs := ⟨_, _, hb3, fun i v h => by simpa using h⟩
        have hpte4 : Pt S4 (.ptr S2.next 0) cs := ⟨_, _, hk4 _ _ _ (by omega) hb3, fun i v h => by simpa using h⟩
        obtain ⟨ti, ud, z, hi1, hisz, _, _, _, _, _, _, _⟩ := happ3.inf
        have hbs : buildSliceE Tryz.prog 210 1 [(0, .agg cs)] = some (.list (some 221) ti.size [.agg cs] .exact) := by rw [hisz]; exact bsl_one happ3 (by decide) hcl2 rfl
        have hbz : buildSliceE Tryz.prog 210 1 [(0, .agg (zc 5))] = some (.list (some 221) ti.size [.agg (zc 5)] .exact) := by rw [hisz]; exact bsl_one happ3 (by decide) rfl rfl
        have happ' : appendE Tryz.prog 210 210 v (.list (some 221) ti.size [.agg cs] .exact) S3.up = some (v', S4) := by rw [hisz]; exact happ
        have hlenl := hgU.lenE (P := Tryz.prog) (T := 210) (u := 221)
        repeat' first
         | refine Go.cho (E' := [(0, .ptr c 0), (1, .ptr x off), (2, .func g [] []), (33, .int .i64 n), (34, .int .i64 q)]) (zv := .agg (zc 5)) (by kernel_rfl) rfl (by kernel_rfl) (by kernel_rfl) rfl rfl (by kernel_rfl) (by kernel_rfl) rfl rfl rfl happ3.el hi1 hbz hbs hlenl (ld_one hptl) (ld_agg hpte hcl2) (ld_agg hpte4 hcl2) (by omega) happ' hst (hcl2.trans hisz.symm) henc1.ones (Eq.trans rfl hisz.symm) rfl rfl ⟨rfl, rfl, rfl, rfl, rfl, trivial⟩ ?_
         | refine Opl.val (op_int rfl rfl rfl (inc_ok (i := q) (by omega))) rfl ?_
         | refine .std ?_ | refine .nil ?_ | refine .seq ?_ | refine .region ?_ | refine .xs ?_ | refine .kb ?_ | refine .leaf ?_ | refine .block ?_ | refine .gn ?_ | refine .dr ?_ | fail
        refine (IH (q + 1) _ S5 (by omega) ⟨rfl, by omega, j3, v', hc3.ofBox (by omega) fun t cs hb => hbx5 c t cs (by have := hc3.lt; omega) hxc.symm hb, by rw [scanL_snoc _ _ _ _ h2.sc]; exact hsc, hb5, hg5, ?_, by omega, ?_⟩).weaken ⟨rfl, rfl, rfl, rfl, rfl, trivial⟩
        · rw [hel, ← slc_app (by omega : i1 ≤ j) (Nat.le_of_lt hlt3)]
          exact h2.enc.snoc henc1
        · refine ⟨by omega, fun id h4 h5 h6 => ?_⟩
          rw [hold id (by omega) (by omega) h6, show S3.up.h.find id = S3.h.find id from rfl, k3.find id (by simp [St.new]; omega) h5 (by omega), ← h2.keep.find id h4 h5 h6]
          have : id ≠ S2.next := by omega
          simp only [St.new, Tr.find_put, if_neg this]
      · obtain ⟨b, hsc, rfl, k3⟩ := h3
        rw [scanF_sub] at hsc
        refine At.fnp rfl ⟨b, scanF_lerr hr hq2 h2.sc hsc, rfl, ?_⟩
        have hn3 := k3.next
        simp only [St.new] at hn3
        have hn0 := h2.keep.next
        refine ⟨by omega, fun id h4 h5 h6 => ?_⟩
        rw [k3.find id (by simp [St.new]; omega) h5 (by omega), ← h2.keep.find id h4 h5 h6]
        have : id ≠ S2.next := by omega
        simp only [St.new, Tr.find_put, if_neg this]
    · have hq : q = n := by have := of_decide_eq_false hq2; omega
      subst hq
      repeat' first
       | refine At.fn rfl rfl rfl ?_
       | refine .std ?_ | refine .nil ?_ | refine .seq ?_ | refine .region ?_ | refine .xs ?_ | refine .kb ?_ | refine .leaf ?_ | refine .block ?_ | refine .gn ?_ | refine .dr ?_ | fail
      exact h2.done hr
  · obtain ⟨hr, rfl, k1⟩ := h1
    exact At.fnp rfl ⟨i, by simp only [scanF, hr], rfl, k1.one x⟩
theorem rlist30 (k : Nat) (s : List UInt8) {g : FuncId} (hg : hasBody Tryz.prog g = true) (he : GC g (fun c p => [c, p]) k s [.sub 11] (zc 11) 1) : GC 123 (fun c p => [c, p, .func g [] []]) k s [.list 11] [.nils] 0 := by
  refine ⟨?_⟩
  intro S c x i T L R off h ho hxc hx hk hbox
  refine CallTo.of (n := 59) Tryz.func123 rfl rfl ?_
  have hcpt := h.pt
  have hpt := pt_mid (z := .nils) ho hbox
  repeat' first
   | refine Opl.val (op_lenL rfl rfl rfl) rfl ?_
   | refine Opl.call rfl (by kernel_rfl) (h.length _ (Int.natCast_nonneg _)) rfl (fun v S1 h1 => ?_) (fun v S1 h1 => ?_)
   | refine .std ?_ | refine .nil ?_ | refine .seq ?_ | refine .region ?_ | refine .xs ?_ | refine .kb ?_ | refine .leaf ?_ | refine .block ?_ | refine .gn ?_ | refine .dr ?_ | fail
  · obtain ⟨⟨n, i1⟩, hr, rfl, h1, k1⟩ := h1
    obtain ⟨hR, hle⟩ := rdLen_some hr
    simp only at hR hle h1
    have hlt := hR.lt
    have hsm := h1.small
    have hpt1 := h1.pt
    repeat' first
     | refine Go.condF rfl ?_
     | refine .std ?_ | refine .nil ?_ | refine .seq ?_ | refine .region ?_ | refine .xs ?_ | refine .kb ?_ | refine .leaf ?_ | refine .block ?_ | refine .gn ?_ | refine .dr ?_ | fail
    refine Go.weaken (E' := [(0, .ptr c 0), (1, .ptr x off), (2, .func g [] []), (33, .int .i64 n), (34, .int .i64 (0 : Nat))]) ?_ ⟨rfl, rfl, rfl, rfl, rfl, trivial⟩
    refine Go.loop_ind (α := Nat) (fun q => n - q) (fun q E S' => E = [(0, .ptr c 0), (1, .ptr x off), (2, .func g [] []), (33, .int .i64 n), (34, .int .i64 q)] ∧ q ≤ n ∧ ∃ j v, RdL S S' c x s (scan s k 11) 11 30 7 T L R i1 q j v) ?_ 0 _ _
      ⟨rfl, Nat.zero_le _, i1, .nils, h1, rfl, by rw [k1.find x hx hxc hxc]; exact hbox, .inl ⟨rfl, rfl⟩, by rw [slc_self]; exact EncE.nil _, by omega, k1.one x⟩
    rintro q E S2 ⟨rfl, hq, j, v, h2⟩ IH
    repeat' first | refine .std ?_ | refine .nil ?_ | refine .seq ?_ | refine .region ?_ | refine .xs ?_ | refine .kb ?_ | refine .leaf ?_ | refine .block ?_ | refine .gn ?_ | refine .dr ?_ | fail
    refine Go.cond rfl (fun hq2 => ?_) (fun hq2 => ?_)
    · have hq2 : q < n := by have := of_decide_eq_true hq2; omega
      have hxl2 : x < S2.next := Nat.lt_of_lt_of_le hx h2.keep.next
      have hc2 : CodR (S2.new (.box 30 (zc 11))) c s j := h2.cod.ofBox (by simp [St.new]) fun t cs hb => by simp only [St.new, Tr.find_put, if_neg (Nat.ne_of_lt h2.cod.lt)]; exact hb
      have hzb : (S2.new (.box 30 (zc 11))).h.find S2.next = some (.box 30 ([] ++ (zc 11 ++ []))) := by simp [St.new, Tr.find_put]
      have hlej := h2.le
      have hjle := h2.cod.le
      have hcall := he.h hc2 (x := S2.next) (off := 0) rfl (by have := h2.cod.lt; omega) (by simp [St.new]) (by omega) hzb
      repeat' first
       | refine Go.holdS 11 ?_
       | refine Opl.val op_alloc rfl ?_
       | refine Opl.call rfl hg hcall rfl (fun v3 S3 h3 => ?_) (fun v3 S3 h3 => ?_)
       | refine .std ?_ | refine .nil ?_ | refine .seq ?_ | refine .region ?_ | refine .xs ?_ | refine .kb ?_ | refine .leaf ?_ | refine .block ?_ | refine .gn ?_ | refine .dr ?_ | fail
      · refine ⟨?_⟩
        obtain ⟨j3, cs, hsc, hc3, hb3, hcl, henc, hlt3, k3⟩ := h3
        simp only [List.nil_append, List.append_nil] at hb3
        rw [scanF_sub] at hsc
        have hn3 := k3.next
        simp only [St.new] at hn3
        have hx3 : S3.h.find x = some (.box T (L ++ v :: R)) := by
          rw [k3.find x (by simp [St.new]; omega) hxc (by omega)]
          simp only [St.new, Tr.find_put, if_neg (Nat.ne_of_lt hxl2)]; exact h2.box
        have hg3 : Grow S3 S.next 30 7 q v := by
          rcases h2.grow with hg | ⟨es, tid, g1, g2, g3, g4, g5⟩
          · exact .inl hg
          · refine .inr ⟨es, tid, g1, ?_, g3, by omega, g5⟩
            have hne : tid ≠ c := by rintro rfl; rw [h2.cod.box] at g2; cases g2
            rw [k3.find tid (by simp [St.new]; omega) hne (by omega)]
            simp only [St.new, Tr.find_put, if_neg (Nat.ne_of_lt g4)]; exact g2
        have hn0 := h2.keep.next
        have henc1 := henc.unsub
        have hcl2 : cs.length = 7 := hcl
        have hgU : Grow S3.up S.next 30 7 q v := by
          rcases hg3 with hg | ⟨es, tid, g1, g2, g3, g4, g5⟩
          · exact .inl hg
          · exact .inr ⟨es, tid, g1, g2, g3, by simp only [St.up]; omega, g5⟩
        have hnU : S3.up.next = S3.next + 1 := rfl
        have happ3 : App Tryz.prog 27 27 30 7 true 120 := App.of (by kernel_rfl)
        obtain ⟨v', S4, S5, happ, hk4, hst, hb5, hg5, hel, hn5, hold, hbx5⟩ := grow_app (P := Tryz.prog) (S := S3.up) (xv := .agg cs) happ3 inferInstance (by decide) (by omega) hgU (by omega) ho (by omega) hx3 hcl2 henc1.ones
        have hptl : Pt S3.up (.ptr x off) [v] := pt_mid (z := v) ho hx3
        have hpte : Pt S3.up (.ptr S2.next 0) cs := ⟨_, _, hb3, fun i v h => by simpa using h⟩
        have hpte4 : Pt S4 (.ptr S2.next 0) cs := ⟨_, _, hk4 _ _ _ (by omega) hb3, fun i v h => by simpa using h⟩
        obtain ⟨ti, ud, z, hi1, hisz, _, _, _, _, _, _, _⟩ := happ3.inf
        have hbs : buildSliceE Tryz.prog 27 1 [(0, .agg cs)] = some (.list (some 30) ti.size [.agg cs] .exact) := by rw [hisz]; exact bsl_one happ3 (by decide) hcl2 rfl
        have hbz : buildSliceE Tryz.prog 27 1 [(0, .agg (zc 11))] = some (.list (some 30) ti.size [.agg (zc 11)] .exact) := by rw [hisz]; exact bsl_one happ3 (by decide) rfl rfl
        have happ' : appendE Tryz.prog 27 27 v (.list (some 30) ti.size [.agg cs] .exact) S3.up = some (v', S4) := by rw [hisz]; exact happ
        have hlenl := hgU.lenE (P := Tryz.prog) (T := 27) (u := 30)
        repeat' first
         | refine Go.cho (E' := [(0, .ptr c 0), (1, .ptr x off), (2, .func g [] []), (33, .int .i64 n), (34, .int .i64 q)]) (zv := .agg (zc 11)) (by kernel_rfl) rfl (by kernel_rfl) (by kernel_rfl) rfl rfl (by kernel_rfl) (by kernel_rfl) rfl rfl rfl happ3.el hi1 hbz hbs hlenl (ld_one hptl) (ld_agg hpte hcl2) (ld_agg hpte4 hcl2) (by omega) happ' hst (hcl2.trans hisz.symm) henc1.ones (Eq.trans rfl hisz.symm) rfl rfl ⟨rfl, rfl, rfl, rfl, rfl, trivial⟩ ?_
         | refine Opl.val (op_int rfl rfl rfl (inc_ok (i := q) (by omega))) rfl ?_
         | refine .std ?_ | refine .nil ?_ | refine .seq ?_ | refine .region ?_ | refine .xs ?_ | refine .kb ?_ | refine .leaf ?_ | refine .block ?_ | refine .gn ?_ | refine .dr ?_ | fail
        refine (IH (q + 1) _ S5 (by omega) ⟨rfl, by omega, j3, v', hc3.ofBox (by omega) fun t cs hb => hbx5 c t cs (by have := hc3.lt; omega) hxc.symm hb, by rw [scanL_snoc _ _ _ _ h2.sc]; exact hsc, hb5, hg5, ?_, by omega, ?_⟩).weaken ⟨rfl, rfl, rfl, rfl, rfl, trivial⟩
        · rw [hel, ← slc_app (by omega : i1 ≤ j) (Nat.le_of_lt hlt3)]
          exact h2.enc.snoc henc1
        · refine ⟨by omega, fun id h4 h5 h6 => ?_⟩
          rw [hold id (by omega) (by omega) h6, show S3.up.h.find id = S3.h.find id from rfl, k3.find id (by simp [St.new]; omega) h5 (by omega), ← h2.keep.find id h4 h5 h6]
          have : id ≠ S2.next := by omega
          simp only [St.new, Tr.find_put, if_neg this]
      · obtain ⟨b, hsc, rfl, k3⟩ := h3
        rw [scanF_sub] at hsc
        refine At.fnp rfl ⟨b, scanF_lerr hr hq2 h2.sc hsc, rfl, ?_⟩
        have hn3 := k3.next
        simp only [St.new] at hn3
        have hn0 := h2.keep.next
        refine ⟨by omega, fun id h4 h5 h6 => ?_⟩
        rw [k3.find id (by simp [St.new]; omega) h5 (by omega), ← h2.keep.find id h4 h5 h6]
        have : id ≠ S2.next := by omega
        simp only [St.new, Tr.find_put, if_neg this]
    · have hq : q = n := by have := of_decide_eq_false hq2; omega
      subst hq
      repeat' first
       | refine At.fn rfl rfl rfl ?_
       | refine .std ?_ | refine .nil ?_ | refine .seq ?_ | refine .region ?_ | refine .xs ?_ | refine .kb ?_ | refine .leaf ?_ | refine .block ?_ | refine .gn ?_ | refine .dr ?_ | fail
      exact h2.done hr
  · obtain ⟨hr, rfl, k1⟩ := h1
    exact At.fnp rfl ⟨i, by simp only [scanF, hr], rfl, k1.one x⟩
theorem rlist241 (k : Nat) (s : List UInt8) {g : FuncId} (hg : hasBody Tryz.prog g = true) (he : GC g (fun c p => [c, p]) k s [.sub 12] (zc 12) 1) : GC 124 (fun c p => [c, p, .func g [] []]) k s [.list 12] [.nils] 0 := by
  refine ⟨?_⟩
  intro S c x i T L R off h ho hxc hx hk hbox
  refine CallTo.of (n := 59) Tryz.func124 rfl rfl ?_
  have hcpt := h.pt
  have hpt := pt_mid (z := .nils) ho hbox
  repeat' first
   | refine Opl.val (op_lenL rfl rfl rfl) rfl ?_
   | refine Opl.call rfl (by kernel_rfl) (h.length _ (Int.natCast_nonneg _)) rfl (fun v S1 h1 => ?_) (fun v S1 h1 => ?_)
   | refine .std ?_ | refine .nil ?_ | refine .seq ?_ | refine .region ?_ | refine .xs ?_ | refine .kb ?_ | refine .leaf ?_ | refine .block ?_ | refine .gn ?_ | refine .dr ?_ | fail
  · obtain ⟨⟨n, i1⟩, hr, rfl, h1, k1⟩ := h1
    obtain ⟨hR, hle⟩ := rdLen_some hr
    simp only at hR hle h1
    have hlt := hR.lt
    have hsm := h1.small
    have hpt1 := h1.pt
    repeat' first
     | refine Go.condF rfl ?_
     | refine .std ?_ | refine .nil ?_ | refine .seq ?_ | refine .region ?_ | refine .xs ?_ | refine .kb ?_ | refine .leaf ?_ | refine .block ?_ | refine .gn ?_ | refine .dr ?_ | fail
    refine Go.weaken (E' := [(0, .ptr c 0), (1, .ptr x off), (2, .func g [] []), (33, .int .i64 n), (34, .int .i64 (0 : Nat))]) ?_ ⟨rfl, rfl, rfl, rfl, rfl, trivial⟩
    refine Go.loop_ind (α := Nat) (fun q => n - q) (fun q E S' => E = [(0, .ptr c 0), (1, .ptr x off), (2, .func g [] []), (33, .int .i64 n), (34, .int .i64 q)] ∧ q ≤ n ∧ ∃ j v, RdL S S' c x s (scan s k 12) 12 241 9 T L R i1 q j v) ?_ 0 _ _
      ⟨rfl, Nat.zero_le _, i1, .nils, h1, rfl, by rw [k1.find x hx hxc hxc]; exact hbox, .inl ⟨rfl, rfl⟩, by rw [slc_self]; exact EncE.nil _, by omega, k1.one x⟩
    rintro q E S2 ⟨rfl, hq, j, v, h2⟩ IH
    repeat' first | refine .std ?_ | refine .nil ?_ | refine .seq ?_ | refine .region ?_ | refine .xs ?_ | refine .kb ?_ | refine .leaf ?_ | refine .block ?_ | refine .gn ?_ | refine .dr ?_ | fail
    refine Go.cond rfl (fun hq2 => ?_) (fun hq2 => ?_)
    · have hq2 : q < n := by have := of_decide_eq_true hq2; omega
      have hxl2 : x < S2.next := Nat.lt_of_lt_of_le hx h2.keep.next
      have hc2 : CodR (S2.new (.box 241 (zc 12))) c s j := h2.cod.ofBox (by simp [St.new]) fun t cs hb => by simp only [St.new, Tr.find_put, if_neg (Nat.ne_of_lt h2.cod.lt)]; exact hb
      have hzb : (S2.new (.box 241 (zc 12))).h.find S2.next = some (.box 241 ([] ++ (zc 12 ++ []))) := by simp [St.new, Tr.find_put]
      have hlej := h2.le
      have hjle := h2.cod.le
      have hcall := he.h hc2 (x := S2.next) (off := 0) rfl (by have := h2.cod.lt; omega) (by simp [St.new]) (by omega) hzb
      repeat' first
       | refine Go.holdS 11 ?_
       | refine Opl.val op_alloc rfl ?_
       | refine Opl.call rfl hg hcall rfl (fun v3 S3 h3 => ?_) (fun v3 S3 h3 => ?_)
       | refine .std ?_ | refine .nil ?_ | refine .seq ?_ | refine .region ?_ | refine .xs ?_ | refine .kb ?_ | refine .leaf ?_ | refine .block ?_ | refine .gn ?_ | refine .dr ?_ | fail
      · refine ⟨?_⟩
        obtain ⟨j3, cs, hsc, hc3, hb3, hcl, henc, hlt3, k3⟩ := h3
        simp only [List.nil_append, List.append_nil] at hb3
        rw [scanF_sub] at hsc
        have hn3 := k3.next
        simp only [St.new] at hn3
        have hx3 : S3.h.find x = some (.box T (L ++ v :: R)) := by
          rw [k3.find x (by simp [St.new]; omega) hxc (by omega)]
          simp only [St.new, Tr.find_put, if_neg (Nat.ne_of_lt hxl2)]; exact h2.box
        have hg3 : Grow S3 S.next 241 9 q v := by
          rcases h2.grow with hg | ⟨es, tid, g1, g2, g3, g4, g5⟩
          · exact .inl hg
          · refine .inr ⟨es, tid, g1, ?_, g3, by omega, g5⟩
            have hne : tid ≠ c := by rintro rfl; rw [h2.cod.box] at g2; cases g2
            rw [k3.find tid (by simp [St.new]; omega) hne (by omega)]
            simp only [St.new, Tr.find_put, if_neg (Nat.ne_of_lt g4)]; exact g2
        have hn0 := h2.keep.next
        have henc1 := henc.unsub
        have hcl2 : cs.length = 9 := hcl
        have hgU : Grow S3.up S.next 241 9 q v := by
          rcases hg3 with hg | ⟨es, tid, g1, g2, g3, g4, g5⟩
          · exact .inl hg
          · exact .inr ⟨es, tid, g1, g2, g3, by simp only [St.up]; omega, g5⟩
        have hnU : S3.up.next = S3.next + 1 := rfl
        have happ3 : App Tryz.prog 28 28 241 9 true 160 := App.of (by kernel_rfl)
        obtain ⟨v', S4, S5, happ, hk4, hst, hb5, hg5, hel, hn5, hold, hbx5⟩ := grow_app (P := Tryz.prog) (S := S3.up) (xv := .agg cs) happ3 inferInstance (by decide) (by omega) hgU (by omega) ho (by omega) hx3 hcl2 henc1.ones
        have hptl : Pt S3.up (.ptr x off) [v] := pt_mid (z := v) ho hx3
        have hpte : Pt S3.up (.ptr S2.next 0) cs := ⟨_, _, hb3, fun i v h => by simpa using h⟩
        have hpte4 : Pt S4 (.ptr S2.next 0) cs := ⟨_, _, hk4 _ _ _ (by omega) hb3, fun i v h => by simpa using h⟩
        obtain ⟨ti, ud, z, hi1, hisz, _, _, _, _, _, _, _⟩ := happ3.inf
        have hbs : buildSliceE Tryz.prog 28 1 [(0, .agg cs)] = some (.list (some 241) ti.size [.agg cs] .exact) := by rw [hisz]; exact bsl_one happ3 (by decide) hcl2 rfl
        have hbz : buildSliceE Tryz.prog 28 1 [(0, .agg (zc 12))] = some (.list (some 241) ti.size [.agg (zc 12)] .exact) := by rw [hisz]; exact bsl_one happ3 (by decide) rfl rfl
        have happ' : appendE Tryz.prog 28 28 v (.list (some 241) ti.size [.agg cs] .exact) S3.up = some (v', S4) := by rw [hisz]; exact happ
        have hlenl := hgU.lenE (P := Tryz.prog) (T := 28) (u := 241)
        repeat' first
         | refine Go.cho (E' := [(0, .ptr c 0), (1, .ptr x off), (2, .func g [] []), (33, .int .i64 n), (34, .int .i64 q)]) (zv := .agg (zc 12)) (by kernel_rfl) rfl (by kernel_rfl) (by kernel_rfl) rfl rfl (by kernel_rfl) (by kernel_rfl) rfl rfl rfl happ3.el hi1 hbz hbs hlenl (ld_one hptl) (ld_agg hpte hcl2) (ld_agg hpte4 hcl2) (by omega) happ' hst (hcl2.trans hisz.symm) henc1.ones (Eq.trans rfl hisz.symm) rfl rfl ⟨rfl, rfl, rfl, rfl, rfl, trivial⟩ ?_
         | refine Opl.val (op_int rfl rfl rfl (inc_ok (i := q) (by omega))) rfl ?_
         | refine .std ?_ | refine .nil ?_ | refine .seq ?_ | refine .region ?_ | refine .xs ?_ | refine .kb ?_ | refine .leaf ?_ | refine .block ?_ | refine .gn ?_ | refine .dr ?_ | fail
        refine (IH (q + 1) _ S5 (by omega) ⟨rfl, by omega, j3, v', hc3.ofBox (by omega) fun t cs hb => hbx5 c t cs (by have := hc3.lt; omega) hxc.symm hb, by rw [scanL_snoc _ _ _ _ h2.sc]; exact hsc, hb5, hg5, ?_, by omega, ?_⟩).weaken ⟨rfl, rfl, rfl, rfl, rfl, trivial⟩
        · rw [hel, ← slc_app (by omega : i1 ≤ j) (Nat.le_of_lt hlt3)]
          exact h2.enc.snoc henc1
        · refine ⟨by omega, fun id h4 h5 h6 => ?_⟩
          rw [hold id (by omega) (by omega) h6, show S3.up.h.find id = S3.h.find id from rfl, k3.find id (by simp [St.new]; omega) h5 (by omega), ← h2.keep.find id h4 h5 h6]
          have : id ≠ S2.next := by omega
          simp only [St.new, Tr.find_put, if_neg this]
      · obtain ⟨b, hsc, rfl, k3⟩ := h3
        rw [scanF_sub] at hsc
        refine At.fnp rfl ⟨b, scanF_lerr hr hq2 h2.sc hsc, rfl, ?_⟩
        have hn3 := k3.next
        simp only [St.new] at hn3
        have hn0 := h2.keep.next
        refine ⟨by omega, fun id h4 h5 h6 => ?_⟩
        rw [k3.find id (by simp [St.new]; omega) h5 (by omega), ← h2.keep.find id h4 h5 h6]
        have : id ≠ S2.next := by omega
        simp only [St.new, Tr.find_put, if_neg this]
    · have hq : q = n := by have := of_decide_eq_false hq2; omega
      subst hq
      repeat' first
       | refine At.fn rfl rfl rfl ?_
       | refine .std ?_ | refine .nil ?_ | refine .seq ?_ | refine .region ?_ | refine .xs ?_ | refine .kb ?_ | refine .leaf ?_ | refine .block ?_ | refine .gn ?_ | refine .dr ?_ | fail
      exact h2.done hr
  · obtain ⟨hr, rfl, k1⟩ := h1
    exact At.fnp rfl ⟨i, by simp only [scanF, hr], rfl, k1.one x⟩
end Go.Proofs.YtilldjgagokcfaaGreat
