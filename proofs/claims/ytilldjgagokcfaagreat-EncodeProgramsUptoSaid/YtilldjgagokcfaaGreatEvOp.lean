/-
  Ev, part 9: conversions, builtins, all operations together.
-/
import Derived.Test.YtilldjgagokcfaaGreatEvMem3
set_option linter.unusedVariables false
set_option linter.unusedSimpArgs false
namespace Go.Ev
open Go.RowKit

section
variable {P : Program} {base : Nat} {w₀ w : World} {σ : Sg} {S S' : St}

/-- What is shown of a computation. -/
def Does (P : Program) (base : Nat) (w₀ : World) (σ : Sg) (S : St) (w : World) (v : V) (S' : St) (s : Sem Value) : Prop :=
  ∃ r w' σ', s.run P w = .ok r w' ∧ VR σ' v r ∧ Rel none2 base w₀ σ' S' w' ∧ Stp σ S w σ' S' w'

theorem Does.pure (h : Rel none2 base w₀ σ S w) {v : V} {s : Sem Value} {r : Value} (hs : s.run P w = .ok r w) (hv : VR σ v r) : Does P base w₀ σ S w v S s := ⟨r, w, σ, hs, hv, h, Stp.refl _ _ _⟩

def byteVs (l : List UInt8) : List Value := l.map fun (c : UInt8) => Value.int .u8 c.toNat

theorem byteVs_VR (σ : Sg) : ∀ (l : List UInt8), VRs σ (ofBytes l) (byteVs l)
  | [] => .nil
  | _ :: l => .cons (.int _ _) (byteVs_VR σ l)

/-- Bytes out of a string: a new row. -/
theorem stringToBytes_sound (h : Rel none2 base w₀ σ S w) (e : TypeId) {s : List UInt8} {b : ByteArray} (hb : b.data.toList = s) : Does P base w₀ σ S w (.list none 1 (ofBytes s) .no) S (Conv.stringToBytes e b) := by
  have hd := h.drew (w' := w.drew) rfl rfl rfl rfl
  obtain ⟨c, hcdef⟩ : ∃ c, c = (Question.appendCap b.size 0 e).cut (w.tape w.drawn (.appendCap b.size 0 e)) := ⟨_, rfl⟩
  have hc : b.size ≤ c := by rw [hcdef]; simp only [Question.cut]; omega
  obtain ⟨R, hR⟩ : ∃ R : List Value, R = List.replicate (c - b.size) (.int .u8 0) := ⟨_, rfl⟩
  obtain ⟨r1, r2⟩ := hd.newRow e (byteVs s) R
  have hlen : b.size = s.length := by rw [← hb]; exact (Array.length_toList).symm
  obtain ⟨C, hC⟩ : ∃ C : Array Value, C = (byteVs s ++ R).toArray := ⟨_, rfl⟩
  rw [← hC] at r1 r2
  have hnew : (w.drew.alloc (.cells C e)).heap[w.heap.size]? = some (.cells C e) := heap_alloc_new w.drew _
  have hown : ¬ Owns ((σ.addI w.drew.heap.size 0 (byteVs s)).addT w.drew.heap.size e) S w.heap.size := by
    rintro ⟨id, o, x, h1, h2, h3⟩
    obtain ⟨y, hy, _, hlt⟩ := (h.ob id o h1).key
    have := r2.le.ρ id y hy
    rw [this] at h2; cases h2
    omega
  obtain ⟨m1, m2, m3⟩ := r1.markRow (o := C.size) (n := 1) h.hb (by omega) hnew hown
  refine ⟨.slice (some ⟨w.heap.size, 0, none⟩) s.length c, _, _, ?_, ?_, m1, ?_⟩
  · have harr : (b.data.map fun x => Value.int .u8 x.toNat) ++ Array.replicate (c - b.size) (.int .u8 0) = C := by
      rw [hC, hR]
      apply Array.ext'
      simp [hb, byteVs]
    have hch : (choose (.appendCap b.size 0 e)).run P w = .ok c w.drew := by
      rw [run_choose, hcdef]; rfl
    have hsh : (w.drew.alloc (.cells C e)).shape? w.heap.size = some (e, C.size) := by
      simp only [World.shape?, hnew]
    simp only [Conv.stringToBytes, Sem.run_bind, hch, Result.andThen_ok, harr, newRow, run_newObj, World.alloc_eq, Sem.run_pure, markStringish, run_shape, World.size_drew]
    simp only [hsh, Sem.run_bind, run_freeze, Result.andThen_ok, Sem.run_pure, hlen]
  · have hflat : (ofBytes s).flatMap V.cells = ofBytes s := by
      simp only [ofBytes]
      clear hb r1 r2 hown m1 hC hlen
      induction s with
      | nil => rfl
      | cons x s ih => rw [List.map_cons, List.flatMap_cons, ih]; rfl
    have key := VR.list (σ := (σ.addI w.drew.heap.size 0 (byteVs s)).addT w.drew.heap.size e) (t := none) (sz := 1) (es := ofBytes s) (tk := .no) (b := w.heap.size) (o := 0) (cap := c) (fun _ h => by cases h)
      (LR.of_flat (fun x hx => by simp [ofBytes] at hx; obtain ⟨_, _, rfl⟩ := hx; rfl) (by
        rw [hflat]
        exact CR.of_vals ((byteVs_VR σ s).mono r2.le) fun i v hi => by
          have := Sg.addI_get σ w.drew.heap.size 0 _ i v hi
          simpa [Sg.addT] using this)) (by simp [ofBytes]; omega) trivial
    have hl2 : (ofBytes s).length = s.length := by simp [ofBytes]
    rw [hl2] at key
    exact key
  · have t1 := (Stp.drew σ S w w.drew rfl)
    have hn : Free σ S.next S.next := fun id h1 h2 => by omega
    have t2 := t1.trans r2 hn
    refine ⟨t2.le, t2.next, by rw [m3]; exact t2.size, fun k hk hno hI => ?_, t2.newI, t2.newK, t2.dom⟩
    rw [m2 k (by omega)]
    exact t2.keep k hk hno hI

theorem cut_get {cs l : List V} {off n : Nat} (h : cut cs off n = some l) : off + n ≤ cs.length ∨ n = 0 := by
  obtain ⟨h1, h2⟩ := cut_some h
  rw [h1] at h2
  simp at h2
  omega

theorem convertE_sound (h : Rel none2 base w₀ σ S w) {s d : TypeId} {x v : V} {X : Value} (ha : convertE P s d x S = some (v, S')) (hx : VR σ x X) : Does P base w₀ σ S w v S' (convert s d X) := by
  unfold convertE at ha
  split at ha
  · rename_i sd dd hs hd
    split at ha
    · -- a number
      simp only [Option.some.injEq, Prod.mk.injEq] at ha
      obtain ⟨rfl, rfl⟩ := ha
      cases hx
      exact .pure h (by simp [convert, run_underlying hs, run_underlying hd, Conv.intToInt]) (.int _ _)
    · simp only [Option.some.injEq, Prod.mk.injEq] at ha
      obtain ⟨rfl, rfl⟩ := ha
      cases hx with
      | str b hb => exact .pure h (by simp [convert, run_underlying hs, run_underlying hd]) (.str b hb)
    · split at ha
      · rename_i e
        split at ha
        · rename_i he _
          simp only [Option.some.injEq, Prod.mk.injEq] at ha
          obtain ⟨rfl, rfl⟩ := ha
          cases hx
          exact .pure h (r := .string .empty) (by simp [convert, run_underlying hs, run_underlying hd, run_underlying he, Conv.bytesToString]) (.str _ rfl)
        · rename_i es tk he _
          simp only [Option.map_eq_some_iff, Prod.mk.injEq] at ha
          obtain ⟨s', h1, rfl, rfl⟩ := ha
          cases hx with
          | list ht hl hc hk =>
            rename_i b o cap
            obtain ⟨f1, f2⟩ := hl.flat
            have hflat : ∀ {es : List V} {s' : List UInt8}, toBytes es = some s' → es.flatMap V.cells = es := by
              intro es
              induction es with
              | nil => intro s' _; rfl
              | cons x es ih =>
                intro s' h1
                unfold toBytes at h1
                split at h1
                · rename_i e'; cases e'
                · rename_i n l e'
                  cases e'
                  simp only [Option.map_eq_some_iff] at h1
                  obtain ⟨s'', h2, _⟩ := h1
                  rw [List.flatMap_cons, ih h2]; rfl
                · cases h1
            rw [hflat h1] at f1
            obtain ⟨vs, g1, g2⟩ := f1.vals
            obtain ⟨ns, rfl, rfl⟩ := toBytes_sound h1 g1
            obtain ⟨r, e1, e2⟩ := bytes_run (P := P) (b := b) (o := o) (len := es.length) (cap := cap) (ns := ns) w (by rw [g1.length]; simp) (fun j v hj => by rw [addr_add]; exact h.imm _ _ _ (g2 j v hj) id)
            exact .pure h (r := .string r) (by rw [run_convert_bytes_string w s d e _ _ _ hs he hd]; exact e2) (.str r e1)
        · rename_i id off len cap he _
          split at ha
          · rename_i cs hcs
            simp only [Option.map_eq_some_iff, Prod.mk.injEq] at ha
            obtain ⟨s', h1, rfl, rfl⟩ := ha
            cases hx with
            | arr hρ =>
              obtain ⟨b, o, vs, e0, g1, g2, g3⟩ := rd_sound h hcs (.ptr hρ)
              cases e0
              obtain ⟨ns, rfl, rfl⟩ := toBytes_sound h1 g1
              obtain ⟨r, e1, e2⟩ := bytes_run (P := P) (len := len) (cap := cap) (ns := ns) w (by simpa using g2) g3
              exact .pure h (r := .string r) (by rw [run_convert_bytes_string w s d e _ _ _ hs he hd]; exact e2) (.str r e1)
          · cases ha
        · cases ha
      · cases ha
    · rename_i e s'
      split at ha
      · rename_i he
        simp only [Option.some.injEq, Prod.mk.injEq] at ha
        obtain ⟨rfl, rfl⟩ := ha
        cases hx with
        | str b hb =>
          obtain ⟨r, w', σ', k1, k2⟩ := stringToBytes_sound (P := P) h e hb
          exact ⟨r, w', σ', by simp [convert, run_underlying hs, run_underlying hd, run_underlying he, k1], k2⟩
      · cases ha
    · -- to an untyped pointer
      split at ha
      · simp only [Option.some.injEq, Prod.mk.injEq] at ha
        obtain ⟨rfl, rfl⟩ := ha
        cases hx
        exact .pure h (r := .pointer none) (by simp [convert, run_underlying hs, run_underlying hd, Conv.unsafePointer]) .nilp
      · rename_i t id off
        split at ha
        · rename_i n bt cs hsz hid
          split at ha
          · rename_i hlt
            have hlt : off < cs.length := by simpa using hlt
            simp only [Option.some.injEq, Prod.mk.injEq] at ha
            obtain ⟨rfl, rfl⟩ := ha
            cases hx with
            | ptr hρ =>
              rename_i b p e'
              obtain ⟨b', e'', vs, g1, g2, g3, g4, g5⟩ := h.ob id _ hid
              rw [hρ] at g1; cases g1
              refine .pure h (r := .pointer (some ⟨b, off, none⟩)) ?_ (.ptr hρ)
              have hsh : w.shape? b = some (bt, vs.toArray.size) := by simp [World.shape?, g3]
              have hvl : vs.length = cs.length := g4.length.symm
              have hnot : ¬ (off ≥ vs.length) := by omega
              simp [convert, run_underlying hs, run_underlying hd, Conv.unsafePointer, Conv.seenAt, viewAt, hsh, cellsIn, szOf_run hsz, hnot]
          · cases ha
        · cases ha
      · split at ha
        · simp only [Option.some.injEq, Prod.mk.injEq] at ha
          obtain ⟨rfl, rfl⟩ := ha
          cases hx
          exact .pure h (r := .pointer none) (by simp [convert, run_underlying hs, run_underlying hd, Conv.unsafePointer]) .nilp
        · simp only [Option.some.injEq, Prod.mk.injEq] at ha
          obtain ⟨rfl, rfl⟩ := ha
          cases hx with
          | ptr hρ => exact .pure h (r := .pointer (some ⟨_, _, none⟩)) (by simp [convert, run_underlying hs, run_underlying hd, Conv.unsafePointer]) (.ptr hρ)
        · cases ha
      · cases ha
    · split at ha
      · simp only [Option.some.injEq, Prod.mk.injEq] at ha
        obtain ⟨rfl, rfl⟩ := ha
        cases hx
        exact .pure h (r := .pointer none) (by simp [convert, run_underlying hs, run_underlying hd, Conv.unsafePointer]) .nilp
      · cases ha
    · rename_i u id off
      split at ha
      · rename_i n e cs hsz hid
        split at ha
        · rename_i hlies
          simp only [Option.some.injEq, Prod.mk.injEq] at ha
          obtain ⟨rfl, rfl⟩ := ha
          cases hx with
          | ptr hρ =>
            rename_i b p e'
            obtain ⟨b', e'', vs, g1, g2, g3, g4, g5⟩ := h.ob id _ hid
            rw [hρ] at g1; cases g1
            refine .pure h (r := .pointer (some ⟨b, off, none⟩)) ?_ (.ptr hρ)
            have hsh : w.shape? b = some (e, vs.toArray.size) := by simp [World.shape?, g3]
            have hvl : vs.length = cs.length := g4.length.symm
            rw [← hvl] at hlies
            simp [convert, run_underlying hs, run_underlying hd, Conv.unsafePointer, Conv.seenAt, viewAt, hsh, szOf_run hsz, variablesAt, hlies]
        · cases ha
      · cases ha
    · cases ha
  · cases ha

/-! ### Builtins -/

theorem lenE_sound {t ty : TypeId} {ts : List TypeId} {x v : V} {X : Value} {xs : List Value} (ha : lenE P t x = some v) (hx : VR σ x X) (w : World) :
    ∃ r, (Builtin.len_ (t :: ts).toArray ty (X :: xs).toArray).run P w = .ok r w ∧ VR σ v r := by
  unfold lenE at ha
  split at ha <;> first
    | (cases ha; done)
    | skip
  all_goals rename_i hu
  · cases ha
    cases hx with
    | str b hb =>
      have hlen : b.size = b.data.toList.length := (Array.length_toList).symm
      rw [hb] at hlen
      exact ⟨.int .i64 b.size, by simp [Builtin.len_, run_underlying hu, goInt], by rw [hlen]; exact .int _ _⟩
  · cases ha; exact ⟨_, by simp [Builtin.len_, run_underlying hu, goInt], .int _ _⟩
  · cases ha; cases hx; exact ⟨_, by simp [Builtin.len_, run_underlying hu, goInt], .int _ _⟩
  · cases ha; cases hx; exact ⟨_, by simp [Builtin.len_, run_underlying hu, goInt], .int _ _⟩
  · cases ha; cases hx; exact ⟨_, by simp [Builtin.len_, run_underlying hu, goInt], .int _ _⟩
  · cases ha; cases hx; exact ⟨_, by simp [Builtin.len_, run_underlying hu, goInt], .int _ _⟩
  · cases ha; cases hx; exact ⟨_, by simp [Builtin.len_, run_underlying hu, goInt], .int _ _⟩

theorem foldMax_sound (gt : Bool) : ∀ {l : List V} {k : IntKind} {a : Int} {v : V} {xs : List Value} (w : World), foldMax gt k a l = some v → VRs σ l xs →
    ∃ r, (xs.foldlM (if gt then Builtin.max2 else Builtin.min2) (.int k a)).run P w = .ok r w ∧ VR σ v r
  | [], k, a, v, xs, w, h, hx => by
    simp [foldMax] at h; subst h; cases hx
    exact ⟨.int k a, rfl, .int _ _⟩
  | x :: l, k, a, v, xs, w, h, hx => by
    unfold foldMax at h
    split at h
    · rename_i e; cases e
    · rename_i j b l' e
      cases e
      cases hx with
      | cons hv hr =>
        cases hv
        split at h
        · rename_i hj
          have hj : j = k := by simpa using hj
          subst hj
          obtain ⟨r, h1, h2⟩ := foldMax_sound gt w h hr
          refine ⟨r, ?_, h2⟩
          rw [List.foldlM_cons, Sem.run_bind]
          cases gt
          · simpa [Builtin.min2] using h1
          · simpa [Builtin.max2] using h1
        · cases h
    · cases h

theorem builtinE_sound (h : Rel none2 base w₀ σ S w) {b : Builtin} {ts : List TypeId} {args : List V} {rargs : List Value} {v : V} {ty : TypeId} {cs : Array Bool} (ha : builtinE P b ts args S = some (v, S')) (hf : Free σ S.next S'.next) (hx : VRs σ args rargs) :
    ∃ r w' σ', (builtin b ts.toArray ty cs rargs.toArray).run P w = .ok (.value r) w' ∧ VR σ' v r ∧ Rel none2 base w₀ σ' S' w' ∧ Stp σ S w σ' S' w' := by
  unfold builtinE at ha
  split at ha
  · rename_i t ts x args
    simp only [Option.map_eq_some_iff, Prod.mk.injEq] at ha
    obtain ⟨v', h1, rfl, rfl⟩ := ha
    cases hx with
    | cons hx hr =>
      rename_i y ys
      obtain ⟨r, e1, e2⟩ := lenE_sound (ty := ty) (ts := ts) (xs := ys) h1 hx w
      exact ⟨r, w, σ, by simp only [builtin, Sem.run_bind, e1]; rfl, e2, h, Stp.refl _ _ _⟩
  · rename_i t u x y
    cases hx with
    | cons hx hr => cases hr with
      | cons hy hr =>
        cases hr
        obtain ⟨r, w', σ', e1, e2⟩ := appendE_sound (ty := ty) h ha hf hx hy
        exact ⟨r, w', σ', by simp only [builtin, Sem.run_bind, e1]; rfl, e2⟩
  · rename_i t ts x y
    cases hx with
    | cons hx hr => cases hr with
      | cons hy hr =>
        cases hr
        rename_i X Y
        obtain ⟨r, w', e1, e2⟩ := copyE_sound (u := 0) (ty := ty) h ha hx hy
        have hc : Builtin.copy_ (t :: ts).toArray ty #[X, Y] = Builtin.copy_ #[t, 0] ty #[X, Y] := by
          cases ts <;> rfl
        exact ⟨r, w', σ, by simp only [builtin, Sem.run_bind, hc, e1]; rfl, e2⟩
  · simp only [Option.map_eq_some_iff, Prod.mk.injEq] at ha
    obtain ⟨v', h1, rfl, rfl⟩ := ha
    cases hx with
    | cons hx hr =>
      cases hx
      obtain ⟨r, e1, e2⟩ := foldMax_sound (P := P) true w h1 hr
      exact ⟨r, w, σ, by simp only [builtin, Builtin.max_, Sem.run_bind]; simp only [if_true] at e1; rw [e1]; rfl, e2, h, Stp.refl _ _ _⟩
  · simp only [Option.map_eq_some_iff, Prod.mk.injEq] at ha
    obtain ⟨v', h1, rfl, rfl⟩ := ha
    cases hx with
    | cons hx hr =>
      cases hx
      obtain ⟨r, e1, e2⟩ := foldMax_sound (P := P) false w h1 hr
      exact ⟨r, w, σ, by simp only [builtin, Builtin.min_, Sem.run_bind]; simp only [Bool.false_eq_true, if_false] at e1; rw [e1]; rfl, e2, h, Stp.refl _ _ _⟩
  · simp only [Option.some.injEq, Prod.mk.injEq] at ha
    obtain ⟨rfl, rfl⟩ := ha
    cases hx with
    | cons hx hr =>
      cases hx; cases hr
      exact ⟨.pointer none, w, σ, rfl, .nilp, h, Stp.refl _ _ _⟩
  · rename_i lt e es tk
    simp only [Option.some.injEq, Prod.mk.injEq] at ha
    obtain ⟨rfl, rfl⟩ := ha
    cases hx with
    | cons hx hr =>
      cases hr
      cases hx with
      | list ht hl hc hk =>
        rename_i b o cap
        obtain ⟨c, rfl⟩ : ∃ c, cap = c + 1 := ⟨cap - 1, by simp at hc; omega⟩
        refine ⟨.pointer (some ⟨b, o, none⟩), w, σ, rfl, ?_, h, Stp.refl _ _ _⟩
        exact .cptr ht hl.flat.1
  · rename_i t u x n
    cases hx with
    | cons hx hr => cases hr with
      | cons hy hr =>
        cases hr
        obtain ⟨r, w', e1, e2⟩ := unsafeStrE_sound (it := u) (ty := ty) h ha hx hy
        exact ⟨r, w', σ, by simp only [builtin, Sem.run_bind, e1]; rfl, e2⟩
  · cases ha

/-! ### All of them -/

theorem OR_of {ev : Operand → Option V} {ρ : Operand → Value} (hev : ∀ x u, ev x = some u → VR σ u (ρ x)) {o : Option Operand} {l : List V} (h : mapO ev o.toList = some l) : OR σ l.head? (o.map ρ) := by
  cases o with
  | none => simp [mapO] at h; subst h; exact .none
  | some x =>
    simp only [Option.toList_some, mapO] at h
    cases hx : ev x with
    | none => simp [hx] at h
    | some u =>
      simp [hx] at h
      subst h
      exact .some (hev x u hx)

theorem PRs_of {ev : Operand → Option V} {ρ : Operand → Value} (hev : ∀ x u, ev x = some u → VR σ u (ρ x)) : ∀ {ps : List (Nat × Operand)} {l : List (Nat × V)}, mapO (fun (p : Nat × Operand) => (ev p.2).map fun v => (p.1, v)) ps = some l → PRs σ l (ps.map fun (i, x) => (i, ρ x))
  | [], l, h => by simp [mapO] at h; subst h; exact .nil
  | (i, x) :: ps, l, h => by
    simp only [mapO] at h
    cases hx : ev x with
    | none => simp [hx] at h
    | some u =>
      simp only [hx, Option.map_some] at h
      cases hm : mapO (fun (p : Nat × Operand) => (ev p.2).map fun v => (p.1, v)) ps with
      | none => simp [hm] at h
      | some l' =>
        simp only [hm, Option.some.injEq] at h
        subst h
        exact .cons (hev x u hx) (PRs_of hev hm)

theorem mapO_VRs {ev : Operand → Option V} {ρ : Operand → Value} (hev : ∀ x u, ev x = some u → VR σ u (ρ x)) {xs : List Operand} {l : List V} (h : mapO ev xs = some l) : VRs σ l (xs.map ρ) :=
  VRs.map_of h fun x _ u hu => hev x u hu

def OpDoes (P : Program) (base : Nat) (w₀ : World) (σ : Sg) (S : St) (w : World) (v : V) (S' : St) (s : Sem Next) : Prop :=
  ∃ r w' σ', (s.run P w = .ok (.value r) w' ∨ (s.run P w = .ok .skip w' ∧ r = undef)) ∧ VR σ' v r ∧ Rel none2 base w₀ σ' S' w' ∧ Stp σ S w σ' S' w'

theorem OpDoes.of {v : V} {s : Sem Value} (h : Does P base w₀ σ S w v S' s) : OpDoes P base w₀ σ S w v S' (do pure (.value (← s))) := by
  obtain ⟨r, w', σ', e1, e2⟩ := h
  exact ⟨r, w', σ', .inl (by simp only [Sem.run_bind, e1]; rfl), e2⟩

theorem undef_VR (σ : Sg) : VR σ (.tup []) undef := .tup .nil

theorem opE_sound (h : Rel none2 base w₀ σ S w) {o : Oper} {ev : Operand → Option V} {ρ : Operand → Value} {v : V} (ha : opE P o.op ev S = some (v, S')) (hf : Free σ S.next S'.next) (hev : ∀ x u, ev x = some u → VR σ u (ρ x)) :
    OpDoes P base w₀ σ S w v S' (execOp ρ o) := by
  obtain ⟨dst, op, type, pos, after, guard⟩ := o
  simp only at ha
  cases op <;> simp only [opE] at ha <;> try (cases ha; done)
  case move x =>
    simp only [Option.map_eq_some_iff, Prod.mk.injEq] at ha
    obtain ⟨u, h1, rfl, rfl⟩ := ha
    exact ⟨ρ x, w, σ, .inl rfl, hev _ _ h1, h, Stp.refl _ _ _⟩
  case assign x =>
    simp only [Option.map_eq_some_iff, Prod.mk.injEq] at ha
    obtain ⟨u, h1, rfl, rfl⟩ := ha
    exact ⟨ρ x, w, σ, .inl rfl, hev _ _ h1, h, Stp.refl _ _ _⟩
  case pick c a b =>
    split at ha
    · rename_i hc
      simp only [Option.map_eq_some_iff, Prod.mk.injEq] at ha
      obtain ⟨u, h1, rfl, rfl⟩ := ha
      have hcv : ρ c = .bool true := by
        have := hev _ _ hc
        cases hq : ρ c <;> rw [hq] at this <;> cases this
        rfl
      exact ⟨ρ a, w, σ, .inl (by simp [execOp, hcv, asBool]), hev _ _ h1, h, Stp.refl _ _ _⟩
    · rename_i hc
      simp only [Option.map_eq_some_iff, Prod.mk.injEq] at ha
      obtain ⟨u, h1, rfl, rfl⟩ := ha
      have hcv : ρ c = .bool false := by
        have := hev _ _ hc
        cases hq : ρ c <;> rw [hq] at this <;> cases this
        rfl
      exact ⟨ρ b, w, σ, .inl (by simp [execOp, hcv, asBool]), hev _ _ h1, h, Stp.refl _ _ _⟩
    · cases ha
  case alloc t =>
    simp only [Option.map_eq_some_iff, Prod.mk.injEq] at ha
    obtain ⟨z, h1, rfl, rfl⟩ := ha
    obtain ⟨i, zv, hi, hzv, hzr⟩ := zeroV_sound σ h1
    obtain ⟨r1, r2⟩ := h.newBox (hf S.next (Nat.le_refl _) (by simp [St.new])) t hzr.cells
    refine OpDoes.of ⟨.pointer (some ⟨w.heap.size, 0, none⟩), _, _, ?_, .ptr (b := w.heap.size) (p := 0) (e := 0) (by simp [Sg.addK]), r1, r2⟩
    simp only [Instr.alloc, Sem.run_bind, zero_run hi hzv, Result.andThen_ok]
    simp [newVar, newRow]
  case box t x =>
    simp only [Option.map_eq_some_iff, Prod.mk.injEq] at ha
    obtain ⟨u, h1, rfl, rfl⟩ := ha
    obtain ⟨r1, r2⟩ := h.newBox (hf S.next (Nat.le_refl _) (by simp [St.new])) t (hev _ _ h1).cells
    refine OpDoes.of ⟨.pointer (some ⟨w.heap.size, 0, none⟩), _, _, ?_, .ptr (b := w.heap.size) (p := 0) (e := 0) (by simp [Sg.addK]), r1, r2⟩
    simp [Instr.box, newVar, newRow]
  case build t ps =>
    split at ha
    · rename_i l hl
      simp only [Option.map_eq_some_iff, Prod.mk.injEq] at ha
      obtain ⟨u, h1, rfl, rfl⟩ := ha
      obtain ⟨r, e1, e2⟩ := buildE_sound σ h1 (PRs_of hev hl) w
      refine OpDoes.of (.pure h ?_ e2)
      rw [← e1]
      congr 2
      apply Array.ext'
      simp
    · cases ha
  case buildSlice t n ps =>
    split at ha
    · rename_i l hl
      simp only [Option.map_eq_some_iff, Prod.mk.injEq] at ha
      obtain ⟨u, h1, rfl, rfl⟩ := ha
      obtain ⟨r, w', σ', e1, e2⟩ := buildSliceE_sound h h1 (PRs_of hev hl)
      refine OpDoes.of ⟨r, w', σ', ?_, e2⟩
      rw [← e1]
      congr 2
      apply Array.ext'
      simp
    · cases ha
  case load t a =>
    split at ha
    · rename_i p hp
      simp only [Option.map_eq_some_iff, Prod.mk.injEq] at ha
      obtain ⟨u, h1, rfl, rfl⟩ := ha
      obtain ⟨b, o, r, e0, e1, e2⟩ := loadE_sound h h1 (hev _ _ hp)
      refine OpDoes.of (.pure h (r := r) ?_ e2)
      simp [Instr.loadAt, e0, Instr.sureAddr, e1]
    · cases ha
  case store t a x =>
    split at ha
    · rename_i p u hp hu
      simp only [Option.map_eq_some_iff, Prod.mk.injEq] at ha
      obtain ⟨S'', h1, rfl, rfl⟩ := ha
      obtain ⟨b, o, w', e0, e1, e2, e3⟩ := storeE_sound h h1 (hev _ _ hp) (hev _ _ hu)
      refine ⟨undef, w', σ, .inr ⟨?_, rfl⟩, undef_VR σ, e2, e3⟩
      simp [execOp, Instr.storeAt, e0, Instr.sureAddr, e1]
    · cases ha
  case nilCheck x =>
    split at ha
    · rename_i i o hx
      simp only [Option.some.injEq, Prod.mk.injEq] at ha
      obtain ⟨rfl, rfl⟩ := ha
      have := hev _ _ hx
      refine ⟨ρ x, w, σ, .inl ?_, this, h, Stp.refl _ _ _⟩
      cases hρ : ρ x <;> rw [hρ] at this <;> cases this
      simp [execOp, hρ]
    · rename_i t' cs o hx
      simp only [Option.some.injEq, Prod.mk.injEq] at ha
      obtain ⟨rfl, rfl⟩ := ha
      have := hev _ _ hx
      refine ⟨ρ x, w, σ, .inl ?_, this, h, Stp.refl _ _ _⟩
      cases hρ : ρ x <;> rw [hρ] at this <;> cases this
      simp [execOp, hρ]
    · rename_i f' a b hx
      simp only [Option.some.injEq, Prod.mk.injEq] at ha
      obtain ⟨rfl, rfl⟩ := ha
      have := hev _ _ hx
      refine ⟨ρ x, w, σ, .inl ?_, this, h, Stp.refl _ _ _⟩
      cases hρ : ρ x <;> rw [hρ] at this <;> cases this
      simp [execOp, hρ]
    · cases ha
  case binOp op t x y yt =>
    split at ha
    · rename_i a b hx hy
      simp only [Option.map_eq_some_iff, Prod.mk.injEq] at ha
      obtain ⟨u, h1, rfl, rfl⟩ := ha
      obtain ⟨r, e1, e2⟩ := binE_sound h1 (hev _ _ hx) (hev _ _ hy) w
      exact OpDoes.of (.pure h e1 e2)
    · cases ha
  case unOp op t x =>
    split at ha
    · rename_i a hx
      simp only [Option.map_eq_some_iff, Prod.mk.injEq] at ha
      obtain ⟨u, h1, rfl, rfl⟩ := ha
      obtain ⟨r, e1, e2⟩ := unE_sound (P := P) h1 (hev _ _ hx) w
      exact OpDoes.of (.pure h e1 e2)
    · cases ha
  case convert s d x =>
    split at ha
    · rename_i a hx
      exact OpDoes.of (convertE_sound h ha (hev _ _ hx))
    · cases ha
  case makeInterface t x =>
    split at ha
    · rename_i a hx
      split at ha
      · rename_i hc
        simp only [Option.some.injEq, Prod.mk.injEq] at ha
        obtain ⟨rfl, rfl⟩ := ha
        refine OpDoes.of (.pure h (r := .iface t (ρ x)) ?_ (.iface t (hev _ _ hx)))
        refine run_makeInterface w t (ρ x) ?_
        cases hu : P.underlying t with
        | none => simp [concreteB, hu] at hc
        | some d => cases d <;> first | (simp [concreteB, hu] at hc; done) | simp [Program.concrete, hu]
      · cases ha
    · cases ha
  case makeFunc fn first caps =>
    cases fn <;> simp only [opE] at ha <;> try (cases ha; done)
    rename_i g
    split at ha
    · rename_i a b hx hy
      simp only [Option.some.injEq, Prod.mk.injEq] at ha
      obtain ⟨rfl, rfl⟩ := ha
      have := VR.func (f := g) (mapO_VRs hev hx) (mapO_VRs hev hy)
      refine OpDoes.of (.pure h (r := .func (.func g) (first.map ρ) (caps.map ρ)) rfl ?_)
      have e1 : (first.toList.map ρ).toArray = first.map ρ := by apply Array.ext'; simp
      have e2 : (caps.toList.map ρ).toArray = caps.map ρ := by apply Array.ext'; simp
      rwa [e1, e2] at this
    · cases ha
  case makeSlice t l c =>
    split at ha
    · rename_i a b hx hy
      exact OpDoes.of (makeSliceE_sound h ha hf (hev _ _ hx) (hev _ _ hy))
    · cases ha
  case slice t x lo hi mx =>
    split at ha
    · rename_i a l hh m hx hl hh' hm
      simp only [Option.map_eq_some_iff, Prod.mk.injEq] at ha
      obtain ⟨u, h1, rfl, rfl⟩ := ha
      have hmx := OR_of hev hm
      cases hmh : m.head? with
      | some q => rw [hmh] at h1; simp [sliceE] at h1
      | none =>
        rw [hmh] at h1 hmx
        obtain ⟨r, e1, e2⟩ := sliceE_sound h1 (hev _ _ hx) (OR_of hev hl) (OR_of hev hh') w
        refine OpDoes.of (.pure h ?_ e2)
        cases hq : mx.map ρ with
        | none => rw [← e1]
        | some q => rw [hq] at hmx; cases hmx
    · cases ha
  case fieldAddr s x f =>
    split at ha
    · rename_i a hx
      simp only [Option.map_eq_some_iff, Prod.mk.injEq] at ha
      obtain ⟨u, h1, rfl, rfl⟩ := ha
      obtain ⟨r, e1, e2⟩ := fieldAddrE_sound h1 (hev _ _ hx) w
      exact OpDoes.of (.pure h e1 e2)
    · cases ha
  case field t x f =>
    split at ha
    · rename_i a hx
      simp only [Option.map_eq_some_iff, Prod.mk.injEq] at ha
      obtain ⟨u, h1, rfl, rfl⟩ := ha
      obtain ⟨r, e1, e2⟩ := fieldE_sound h1 (hev _ _ hx) w
      exact OpDoes.of (.pure h e1 e2)
    · cases ha
  case indexAddr t x i =>
    split at ha
    · rename_i a b hx hy
      simp only [Option.map_eq_some_iff, Prod.mk.injEq] at ha
      obtain ⟨u, h1, rfl, rfl⟩ := ha
      obtain ⟨r, e1, e2⟩ := indexAddrE_sound h1 (hev _ _ hx) (hev _ _ hy) w
      exact OpDoes.of (.pure h e1 e2)
    · cases ha
  case index t x i =>
    split at ha
    · rename_i a b hx hy
      simp only [Option.map_eq_some_iff, Prod.mk.injEq] at ha
      obtain ⟨u, h1, rfl, rfl⟩ := ha
      obtain ⟨r, e1, e2⟩ := indexE_sound h1 (hev _ _ hx) (hev _ _ hy) w
      exact OpDoes.of (.pure h e1 e2)
    · cases ha
  case typeAssert x xt t ok =>
    split at ha
    · rename_i a hx
      simp only [Option.map_eq_some_iff, Prod.mk.injEq] at ha
      obtain ⟨u, h1, rfl, rfl⟩ := ha
      obtain ⟨r, e1, e2⟩ := assertE_sound (xt := xt) h1 (hev _ _ hx) w
      exact OpDoes.of (.pure h e1 e2)
    · cases ha
  case extract t i =>
    split at ha
    · rename_i vs hx
      simp only [Option.map_eq_some_iff, Prod.mk.injEq] at ha
      obtain ⟨u, h1, rfl, rfl⟩ := ha
      have := hev _ _ hx
      cases hρ : ρ t <;> rw [hρ] at this <;> cases this
      rename_i ws hw
      obtain ⟨r, e1, e2⟩ := hw.get h1
      refine OpDoes.of (.pure h (r := r) ?_ e2)
      simp [hρ, Instr.extract, e1]
    · cases ha
  case call c =>
    obtain ⟨callee, args, ats⟩ := c
    cases callee <;> simp only [opE] at ha <;> try (cases ha; done)
    rename_i b
    split at ha
    · rename_i l hl
      obtain ⟨r, w', σ', e1, e2⟩ := builtinE_sound (ty := type) (cs := args.map fun | .const _ => true | _ => false) h ha hf (mapO_VRs hev hl)
      refine ⟨r, w', σ', .inl ?_, e2⟩
      have ea : (args.toList.map ρ).toArray = args.map ρ := by apply Array.ext'; simp
      have et : ats.toList.toArray = ats := by simp
      rw [ea, et] at e1
      simp only [execOp, resolve, Sem.run_bind, Sem.run_pure, Result.andThen_ok, invoke]
      exact e1
    · cases ha

end
end Go.Ev
