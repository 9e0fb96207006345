/-
  Ev, part 27: what is read as data stands in Ev, too.
-/
import Derived.Test.YtilldjgagokcfaaGreatEvEnc
import Derived.ChangeArms
import Derived.ReadAgain
set_option linter.unusedVariables false
set_option linter.unusedSimpArgs false
namespace Go.Ev
open Go.RowKit

/-! ### Depths -/

mutual
theorem EncF.succ : ∀ {d : Nat} {fs : List Fd} {cs : List V} {bs : List UInt8}, EncF d fs cs bs → EncF (d + 1) fs cs bs
  | _, _, _, _, .nil d => .nil (d + 1)
  | _, _, _, _, .int hn h => .int hn h.succ
  | _, _, _, _, .str hs h => .str hs h.succ
  | _, _, _, _, .bool h => .bool h.succ
  | _, _, _, _, .list hv hl he h => .list hv hl he.succ h.succ
  | _, _, _, _, .sub h1 hc h => .sub h1.succ hc h.succ
theorem EncL.succ : ∀ {d t : Nat} {es : List V} {bs : List UInt8}, EncL d t es bs → EncL (d + 1) t es bs
  | _, _, _, _, .nil d t => .nil (d + 1) t
  | _, _, _, _, .cons h1 h2 => .cons h1.succ h2.succ
end

theorem EncF.le {d d' : Nat} {fs : List Fd} {cs : List V} {bs : List UInt8} (h : EncF d fs cs bs) (hd : d ≤ d') : EncF d' fs cs bs := by
  induction hd with
  | refl => exact h
  | step _ ih => exact ih.succ
theorem EncL.le {d d' t : Nat} {es : List V} {bs : List UInt8} (h : EncL d t es bs) (hd : d ≤ d') : EncL d' t es bs := by
  induction hd with
  | refl => exact h
  | step _ ih => exact ih.succ

theorem EncF.append : ∀ {d : Nat} {fs gs : List Fd} {cs ds : List V} {bs es : List UInt8}, EncF d fs cs bs → EncF d gs ds es → EncF d (fs ++ gs) (cs ++ ds) (bs ++ es)
  | _, _, _, _, _, _, _, .nil _, k => k
  | _, _, _, _, _, _, _, .int hn h, k => by rw [List.append_assoc]; exact .int hn (h.append k)
  | _, _, _, _, _, _, _, .str hs h, k => by rw [List.append_assoc]; exact .str hs (h.append k)
  | _, _, _, _, _, _, _, .bool h, k => by rw [List.append_assoc]; exact .bool (h.append k)
  | _, _, _, _, _, _, _, .list hv hl he h, k => by rw [List.append_assoc]; exact .list hv hl he (h.append k)
  | _, _, _, _, _, _, _, .sub h1 hc h, k => by rw [List.append_assoc, List.append_assoc]; exact .sub h1 hc (h.append k)

/-! ### The memory of a call's arguments -/

def Sg.of (W : World) : Sg := ⟨fun _ => Option.none, fun b o => if b < W.heap.size then W.cell? ⟨b, o, Option.none⟩ else Option.none, fun _ => Option.none⟩

theorem rel_of (W : World) : Rel none2 W.heap.size W (Sg.of W) S0 W where
  below := Below.refl _ _
  hb := Nat.le_refl _
  imm := fun b o v h _ => by
    simp only [Sg.of] at h
    split at h
    · exact h
    · cases h
  cur := fun b o v h => by
    simp only [Sg.of] at h
    split at h
    · assumption
    · cases h
  ty := fun _ _ h => by cases h
  ob := fun id o h => by simp only [S0, Tr.find_leaf] at h; cases h
  inj := fun i j o o' x y h => by simp only [S0, Tr.find_leaf] at h; cases h

/-! ### Types -/

def flT (P : Program) (f : TypeId → Option (List Fd)) (tot : Nat) : List Field → Nat → Option (List Fd)
  | [], o => if o = tot then some [] else none
  | x :: l, o => if x.offset = o then
      match f x.type, flT P f tot l (o + P.cellsOf x.type) with
      | some a, some b => some (a ++ b)
      | _, _ => none
    else none

def fdT (P : Program) (num : TypeId → Option Nat) : Nat → TypeId → Option (List Fd)
  | 0, _ => none
  | d + 1, t => match P.underlying t with
    | some (.int .i64) => some [.int]
    | some .string => some [.str]
    | some .bool => some [.bool]
    | some (.slice e) => (num e).map fun n => [.list n]
    | some (.struct fs) => match num t with
      | some n => some [.sub n]
      | none => flT P (fdT P num d) (P.cellsOf t) fs.toList 0
    | _ => none

def topT (P : Program) (num : TypeId → Option Nat) (t : TypeId) : Option (List Fd) := match P.underlying t with
  | some (.int .i64) => some [.int]
  | some .string => some [.str]
  | some (.struct fs) => flT P (fdT P num 3) (P.cellsOf t) fs.toList 0
  | _ => none

structure Tys (P : Program) (num : TypeId → Option Nat) : Prop where
  top : ∀ t n, num t = some n → topT P num t = some (sch n) ∧ P.cellsOf t = szs n ∧ 1 ≤ szs n

mutual
def blk {H : Type} : DataW H → Nat
  | .lit (.string b) => b.length + 1
  | .lit _ => 1
  | .slice a b => blks a + blks b + 1
  | .agg l => blks l + 1
  | _ => 1
def blks {H : Type} : List (DataW H) → Nat
  | [] => 0
  | d :: r => blk d + blks r
end

theorem blk_pos {H : Type} (d : DataW H) : 1 ≤ blk d := by
  match d with
  | .lit (.string b) => unfold blk; omega
  | .lit (.bool b) => unfold blk; omega
  | .lit (.int k n) => unfold blk; omega
  | .lit (.float k n) => unfold blk; omega
  | .lit .nil => unfold blk; omega
  | .nil => unfold blk; omega
  | .ptr d => unfold blk; omega
  | .slice a b => unfold blk; omega
  | .agg l => unfold blk; omega
  | .iface t d => unfold blk; omega
  | .map e => unfold blk; omega
  | .held h => unfold blk; omega

theorem encI_le10 {n : Int} (h : in64 n) : (encI n).length ≤ 10 := vb_ten (zig_lt h.1 h.2)

theorem encB_le (b : Bool) : (encB b).length ≤ 10 := by cases b <;> exact encI_le10 (by constructor <;> decide)

theorem wf_in64 {n : Int} (h : (Lit.int .i64 n).wf = true) : in64 n := by
  simp [Lit.wf, IntKind.min, IntKind.max, IntKind.signed, IntKind.bits] at h
  constructor <;> omega

section
variable {H : Type} {enc : TypeId × Value → H} {P : Program} {W : World} {base : Nat} {held : Bool} {num : TypeId → Option Nat}

/-- As much as an argument may hold. -/
abbrev bulkMost : Nat := 1048576

/-- What reading comes to. -/
def Got (W : World) (fs : List Fd) (cs : List Value) (m : Nat) : Prop := ∃ vs bs k, VRs (Sg.of W) vs cs ∧ EncF k fs vs bs ∧ bs.length ≤ 11 * m

theorem Got.append {fs gs : List Fd} {cs ds : List Value} {m n : Nat} (h : Got W fs cs m) (k : Got W gs ds n) : Got W (fs ++ gs) (cs ++ ds) (m + n) := by
  obtain ⟨vs, bs, a, h1, h2, h3⟩ := h
  obtain ⟨us, es, b, k1, k2, k3⟩ := k
  exact ⟨vs ++ us, bs ++ es, max a b, h1.append k1, (h2.le (Nat.le_max_left _ _)).append (k2.le (Nat.le_max_right _ _)), by simp; omega⟩

theorem got_fields {f : TypeId → Option (List Fd)} {n : Nat} (hA : ∀ t fds cs (x : DataW H × List MemPlace), f t = some fds → DataW.trod enc P W base (fun _ => true) held n t cs = some x → blk x.1 ≤ bulkMost → Got W fds cs (blk x.1)) {cs : List Value} {tot : Nat} (htot : cs.length = tot) :
    ∀ (l : List Field) (o : Nat) (fds : List Fd) (xs : List (DataW H × List MemPlace)), flT P f tot l o = some fds → xs.length = l.length →
      (∀ (i : Nat) (g : Field), l[i]? = some g → DataW.trod enc P W base (fun _ => true) held n g.type ((cs.drop g.offset).take (P.cellsOf g.type)) = xs[i]?) → blks (xs.map (·.1)) ≤ bulkMost → Got W fds (cs.drop o) (blks (xs.map (·.1)))
  | [], o, fds, xs, hf, hl, _, _ => by
    simp only [flT] at hf
    split at hf
    · rename_i ho
      cases hf
      subst ho
      rw [← htot, List.drop_length]
      have : xs = [] := by simpa using hl
      subst this
      exact ⟨[], [], 0, .nil, .nil 0, by simp [blks]⟩
    · cases hf
  | g :: l, o, fds, xs, hf, hl, hx, hbm => by
    simp only [flT] at hf
    split at hf
    · rename_i ho
      cases h1 : f g.type with
      | none => rw [h1] at hf; cases hf
      | some a =>
        cases h2 : flT P f tot l (o + P.cellsOf g.type) with
        | none => rw [h1, h2] at hf; cases hf
        | some b =>
          rw [h1, h2] at hf
          cases hf
          cases xs with
          | nil => simp at hl
          | cons y ys =>
            have hy := hx 0 g rfl
            simp only [List.getElem?_cons_zero] at hy
            simp only [List.map_cons, blks] at hbm
            have hrest := got_fields hA htot l (o + P.cellsOf g.type) b ys h2 (by simpa using hl) (fun i g' hg => by simpa using hx (i + 1) g' (by simpa using hg)) (by omega)
            have hg := (hA g.type a _ y h1 hy (by omega)).append hrest
            rw [ho] at hg
            have he : (cs.drop o).take (P.cellsOf g.type) ++ cs.drop (o + P.cellsOf g.type) = cs.drop o := by
              rw [← List.drop_drop]; exact List.take_append_drop _ _
            rw [he] at hg
            exact hg
    · cases hf

theorem cells_get {a : Addr} {n : Nat} {cs : List Value} (h : W.cells? base a n = some cs) : cs.length = n ∧ ∀ i v, cs[i]? = some v → W.cell? (a.add i) = some v := by
  unfold World.cells? at h
  split at h
  · have hl := mapM_some_length h
    refine ⟨by simpa using hl, fun i v hv => ?_⟩
    have hi : i < n := by have := (List.getElem?_eq_some_iff.1 hv).1; simp at hl; omega
    have := mapM_some_get h i i (by simp [hi])
    rw [this, hv]
  · cases h

theorem spot_none {a : Addr} {v : Value} (h : W.cell? a = some v) : a.spot = none := by
  unfold World.cell? at h
  split at h
  · split at h
    · cases h
    · rename_i hs; simpa using hs
  · cases h

theorem cell_lt {a : Addr} {v : Value} (h : W.cell? a = some v) : a.block < W.heap.size := by
  unfold World.cell? at h
  split at h
  · rename_i hb
    rcases Nat.lt_or_ge a.block W.heap.size with h1 | h1
    · exact h1
    · simp [Array.getElem?_eq_none h1] at hb
  · cases h

theorem I_of {b o : Nat} {v : Value} (h : W.cell? ⟨b, o, none⟩ = some v) : (Sg.of W).I b o = some v := by
  simp only [Sg.of]
  rw [if_pos (cell_lt h)]; exact h

theorem got_elems {n m sz : Nat} {e : TypeId} {a : Addr} (ha : a.spot = none) (hsz : P.cellsOf e = sz) (hB : ∀ cs (x : DataW H × List MemPlace), DataW.trod enc P W base (fun _ => true) held n e cs = some x → blk x.1 ≤ bulkMost → Got W (sch m) cs (blk x.1)) :
    ∀ (elems : List (DataW H × List MemPlace)) (j : Nat), (∀ i, i < elems.length → (W.cells? base (a.add ((j + i) * sz)) sz).bind (DataW.trod enc P W base (fun _ => true) held n e) = elems[i]?) → blks (elems.map (·.1)) ≤ bulkMost →
      ∃ es bl k, es.length = elems.length ∧ LR (Sg.of W) sz es a.block (a.off + j * sz) ∧ EncL k m es bl ∧ bl.length ≤ 11 * blks (elems.map (·.1))
  | [], j, _, _ => ⟨[], [], 0, rfl, .nil _ _ _, .nil 0 m, by simp [blks]⟩
  | x :: xs, j, h, hbm => by
    simp only [List.map_cons, blks] at hbm
    have h0 := h 0 (by simp)
    simp only [Nat.add_zero, List.getElem?_cons_zero, Option.bind_eq_some_iff] at h0
    obtain ⟨cs, hc, hx⟩ := h0
    obtain ⟨vs, bs, k, g1, g2, g3⟩ := hB cs x hx (by omega)
    obtain ⟨hl, hget⟩ := cells_get hc
    obtain ⟨es, bl, k2, e1, e2, e3, e4⟩ := got_elems ha hsz hB xs (j + 1) (fun i hi => by
      have := h (i + 1) (by simpa using hi)
      simp only [List.getElem?_cons_succ] at this
      rw [← this]
      have : (j + 1 + i) = (j + (i + 1)) := by omega
      rw [this]) (by omega)
    have hcr : CR (Sg.of W) vs a.block (a.off + j * sz) := CR.of_vals g1 fun i v hv => by
      have := hget i v hv
      apply I_of
      have he : (a.add (j * sz)).add i = ⟨a.block, a.off + j * sz + i, none⟩ := by
        obtain ⟨b, o, s⟩ := a
        simp only at ha
        subst ha
        unfold Addr.add
        by_cases h1 : j * sz = 0
        · by_cases h2 : i = 0 <;> simp [h1, h2]
        · by_cases h2 : i = 0 <;> simp [h1, h2]
      rw [he] at this
      exact this
    refine ⟨.agg vs :: es, bs ++ bl, max k k2, by simp [e1], ?_, .cons (g2.le (Nat.le_max_left _ _)) (e3.le (Nat.le_max_right _ _)), by simp [blks]; omega⟩
    refine .cons (by show vs.length = sz; rw [g1.length, hl]) hcr ?_
    have : a.off + (j + 1) * sz = a.off + j * sz + sz := by rw [Nat.succ_mul]; omega
    rw [← this]
    exact e2

theorem got_all (hT : Tys P num) : ∀ (n : Nat), (∀ (d : Nat) t fds cs (x : DataW H × List MemPlace), fdT P num d t = some fds → DataW.trod enc P W base (fun _ => true) held n t cs = some x → blk x.1 ≤ bulkMost → Got W fds cs (blk x.1)) ∧
    (∀ t m cs (x : DataW H × List MemPlace), num t = some m → DataW.trod enc P W base (fun _ => true) held n t cs = some x → blk x.1 ≤ bulkMost → Got W (sch m) cs (blk x.1)) := by
  intro n
  induction n with
  | zero => exact ⟨fun d t fds cs x _ h _ => by simp [DataW.trod] at h, fun t m cs x _ h _ => by simp [DataW.trod] at h⟩
  | succ n ih =>
    obtain ⟨ihA, ihB⟩ := ih
    have hint : ∀ t cs (x : DataW H × List MemPlace), P.underlying t = some (.int .i64) → DataW.trod enc P W base (fun _ => true) held (n + 1) t cs = some x → blk x.1 ≤ bulkMost → Got W [.int] cs (blk x.1) := by
      intro t cs x hu h hbm
      obtain ⟨k, rfl, rfl, hw⟩ := DataW.trod_int hu h
      have hi := wf_in64 hw
      refine ⟨[.int .i64 k], encI k ++ [], 0, .cons (.int _ _) .nil, .int hi (.nil 0), ?_⟩
      have := encI_le10 hi
      simp [blk]; omega
    have hstr : ∀ t cs (x : DataW H × List MemPlace), P.underlying t = some .string → DataW.trod enc P W base (fun _ => true) held (n + 1) t cs = some x → blk x.1 ≤ bulkMost → Got W [.str] cs (blk x.1) := by
      intro t cs x hu h hbm
      obtain ⟨s, rfl, rfl, hs⟩ := DataW.trod_string hu h
      have hl : s.data.toList.length < 4611686018427387904 := by
        simp only [blk, bulkMost] at hbm
        omega
      refine ⟨[.str s.data.toList], encS s.data.toList ++ [], 0, .cons (.str s rfl) .nil, .str hl (.nil 0), ?_⟩
      have := encI_le10 (n := (s.data.toList.length : Nat)) (by constructor <;> omega)
      simp only [encS, blk, List.append_nil, List.length_append]; omega
    have hstruct : ∀ (d : Nat) t (fs : Array Field) fds cs (x : DataW H × List MemPlace), P.underlying t = some (.struct fs) → flT P (fdT P num d) (P.cellsOf t) fs.toList 0 = some fds → DataW.trod enc P W base (fun _ => true) held (n + 1) t cs = some x → blk x.1 ≤ bulkMost → Got W fds cs (blk x.1) := by
      intro d t fs fds cs x hu hf h hbm
      obtain ⟨xs, m, hm, rfl, hl, hxl, hx⟩ := DataW.trod_struct hu h
      cases hm
      have := got_fields (ihA d) hl fs.toList 0 fds xs hf (by simpa using hxl) (fun i g hg => hx i g (by simpa using hg)) (by simp only [blk] at hbm; omega)
      rw [List.drop_zero] at this
      obtain ⟨vs, bs, k, g1, g2, g3⟩ := this
      exact ⟨vs, bs, k, g1, g2, by simp only [blk]; omega⟩
    have hB : ∀ t m cs (x : DataW H × List MemPlace), num t = some m → DataW.trod enc P W base (fun _ => true) held (n + 1) t cs = some x → blk x.1 ≤ bulkMost → Got W (sch m) cs (blk x.1) := by
      intro t m cs x hn h hbm
      obtain ⟨htop, _, _⟩ := hT.top t m hn
      unfold topT at htop
      split at htop
      · rename_i hu; rw [← Option.some.inj htop]; exact hint t cs x hu h hbm
      · rename_i hu; rw [← Option.some.inj htop]; exact hstr t cs x hu h hbm
      · rename_i fs hu; exact hstruct 3 t fs _ cs x hu htop h hbm
      · cases htop
    refine ⟨fun d t fds cs x hf h hbm => ?_, hB⟩
    cases d with
    | zero => cases hf
    | succ d =>
      simp only [fdT] at hf
      split at hf
      · rename_i hu; cases hf; exact hint t cs x hu h hbm
      · rename_i hu; cases hf; exact hstr t cs x hu h hbm
      · rename_i hu
        cases hf
        obtain ⟨b, rfl, rfl⟩ := DataW.trod_bool hu h
        refine ⟨[.bool b], encB b ++ [], 0, .cons (.bool _) .nil, .bool (.nil 0), ?_⟩
        have := encB_le b
        simp [blk]; omega
      · rename_i e hu
        cases hn : num e with
        | none => rw [hn] at hf; cases hf
        | some m =>
          rw [hn] at hf
          cases hf
          obtain ⟨_, hsz, hpos⟩ := hT.top e m hn
          rcases DataW.trod_slice hu h with ⟨rfl, rfl⟩ | ⟨a, len, cap, elems, rest, n', hn', rfl, rfl, hb, hlc, hcm, hel, hget, hsp, _⟩
          · refine ⟨[.nils], encI (0 : Nat) ++ [] ++ [], 1, .cons .nils .nil, .list (v := .nils) (.inl rfl) (by simp [elems]) (.nil 0 m) (.nil 1), ?_⟩
            have := encI_le10 (n := (0 : Nat)) (by constructor <;> omega)
            simp [blk] at this ⊢; omega
          · cases hn'
            obtain ⟨hrl, hrget⟩ := hsp rfl
            by_cases hc0 : cap = 0
            · subst hc0
              have : len = 0 := by omega
              subst this
              have : elems = [] := by simpa using hel
              subst this
              refine ⟨[.mt], encI (0 : Nat) ++ [] ++ [], 1, .cons (.mt a) .nil, .list (v := .mt) (.inr (.inl rfl)) (by simp [Ev.elems]) (.nil 0 m) (.nil 1), ?_⟩
              have := encI_le10 (n := (0 : Nat)) (by constructor <;> omega)
              simp [blk] at this ⊢; omega
            · have hspot : a.spot = none := by
                have key : ∀ y, (W.cells? base (a.add (0 * P.cellsOf e)) (P.cellsOf e)).bind (DataW.trod enc P W base (fun _ => true) held n e) = some y → a.spot = none := by
                  intro y hy
                  simp only [Option.bind_eq_some_iff] at hy
                  obtain ⟨cs, hc, _⟩ := hy
                  obtain ⟨hl, hg⟩ := cells_get hc
                  have h0 : 0 < cs.length := by omega
                  have := spot_none (hg 0 cs[0] (List.getElem?_eq_getElem h0))
                  simpa [Addr.add] using this
                by_cases hl0 : len = 0
                · have h0 : 0 < rest.length := by omega
                  subst hl0; exact key rest[0] ((hrget 0 (by omega)).trans (List.getElem?_eq_getElem h0))
                · have h0 : 0 < elems.length := by omega
                  exact key elems[0] ((hget 0 (by omega)).trans (List.getElem?_eq_getElem h0))
              obtain ⟨es, bl, k, e1, e2, e3, e4⟩ := got_elems (m := m) hspot hsz (fun cs x hx hq => ihB e m cs x hn hx hq) elems 0 (fun i hi => by
                have := hget i (by omega)
                rw [hsz] at this
                simpa using this) (by simp only [blk] at hbm; omega)
              have hes : (Ev.elems (.list none (szs m) es .no)).length = es.length := rfl
              have hlen : es.length < 4611686018427387904 := by
                rw [e1]
                have hle : ∀ (l : List (DataW H × List MemPlace)), l.length ≤ blks (l.map (·.1)) := by
                  intro l
                  induction l with
                  | nil => simp
                  | cons y ys ih =>
                    have := blk_pos y.1
                    simp only [List.length_cons, List.map_cons, blks]; omega
                have := hle elems
                simp only [blk, bulkMost] at hbm
                omega
              refine ⟨[.list none (szs m) es .no], encI ((Ev.elems (.list none (szs m) es .no)).length : Nat) ++ bl ++ [], k + 1, .cons ?_ .nil, .list (.inr (.inr ⟨_, _, _, rfl⟩)) hlen e3 (.nil _), ?_⟩
              · have ha : a = ⟨a.block, a.off, none⟩ := by cases a; simp at hspot; subst hspot; rfl
                have hlen2 : len = es.length := by omega
                rw [ha, hlen2]
                refine .list (fun _ ht => by cases ht) ?_ (by omega) trivial
                rw [← hsz]
                simpa [hsz] using e2
              · have := encI_le10 (n := (es.length : Nat)) (by constructor <;> omega)
                simp only [blk, hes, List.append_nil, List.length_append]
                omega
      · rename_i fs hu
        cases hn : num t with
        | some m =>
          rw [hn] at hf
          cases hf
          obtain ⟨_, hsz, _⟩ := hT.top t m hn
          obtain ⟨vs, bs, k, g1, g2, g3⟩ := hB t m cs x hn h hbm
          obtain ⟨_, _, _, _, hl, _⟩ := DataW.trod_struct hu h
          refine ⟨vs ++ [], bs ++ [], k + 1, by simpa using g1, .sub g2 (by rw [g1.length, hl, hsz]) (.nil _), by simpa using g3⟩
        | none =>
          rw [hn] at hf
          exact hstruct d t fs _ cs x hu hf h hbm
      · cases hf

end
end Go.Ev
