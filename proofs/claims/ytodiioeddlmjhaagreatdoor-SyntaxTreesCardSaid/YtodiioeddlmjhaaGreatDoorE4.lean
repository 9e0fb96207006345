import Derived.Test.YtodiioeddlmjhaaGreatDoorE3
import Derived.Laws.Externs
import Derived.AtR
import Derived.Recover
set_option linter.unusedVariables false
set_option linter.unusedSimpArgs false
namespace Go.Ev
open Go.RowKit
section
variable {P : Program} {base : Nat} {w₀ w : World} {σ : Sg} {S S' : St}
def Does [Glob] (P : Program) (base : Nat) (w₀ : World) (σ : Sg) (S : St) (w : World) (v : V) (S' : St) (s : Sem Value) : Prop :=
 ∃ r w' σ', s.run P w = .ok r w' ∧ VR σ' v r ∧ Rel none2 base w₀ σ' S' w' ∧ Stp σ S w σ' S' w'
theorem Does.pure [Glob] (h : Rel none2 base w₀ σ S w) {v : V} {s : Sem Value} {r : Value} (hs : s.run P w = .ok r w) (hv : VR σ v r) : Does P base w₀ σ S w v S s := ⟨r, w, σ, hs, hv, h, Stp.refl _ _ _⟩
def byteVs (l : List UInt8) : List Value := l.map fun (c : UInt8) => Value.int .u8 c.toNat
theorem byteVs_VR (σ : Sg) : ∀ (l : List UInt8), VRs σ (ofBytes l) (byteVs l)
 | [] => .nil
 | _ :: l => .cons (.int _ _) (byteVs_VR σ l)
theorem stringToBytes_sound [Glob] (h : Rel none2 base w₀ σ S w) (e : TypeId) {s : List UInt8} {b : ByteArray} (hb : b.data.toList = s) : Does P base w₀ σ S w (.list none 1 (ofBytes s) .no) S (Conv.stringToBytes e b) := by
 have hd := h.drew (w' := w.drew) rfl rfl rfl rfl
 obtain ⟨c, hcdef⟩ : ∃ c, c = (Question.appendCap b.size 0 e).cut (w.tape w.drawn (.appendCap b.size 0 e)) := ⟨_, rfl⟩
 have hc : b.size ≤ c := by rw [hcdef]; simp only [Question.cut]; omega
 obtain ⟨R, hR⟩ : ∃ R : List Value, R = List.replicate (c - b.size) (.int .u8 0) := ⟨_, rfl⟩
 obtain ⟨r1, r2⟩ := hd.newRow e (byteVs s) R
 have hlen : b.size = s.length := by rw [← hb]; exact (Array.length_toList).symm
 obtain ⟨C, hC⟩ : ∃ C : Array Value, C = (byteVs s ++ R).toArray := ⟨_, rfl⟩
 rw [← hC] at r1 r2
 have hnew : (w.drew.alloc (.cells C e)).heap[w.heap.size]? = some (.cells C e) := heap_alloc_new w.drew _
 have hown : ¬ Owns ((σ.addI w.drew.heap.size 0 (byteVs s)).addT w.drew.heap.size e) S w.heap.size := by
  rintro ⟨id, o, x, h1, h2, h3⟩
  obtain ⟨y, hy, _, hlt⟩ := (h.ob id o h1).key
  have := r2.le.ρ id y hy
  rw [this] at h2; cases h2
  omega
 obtain ⟨m1, m2, m3⟩ := r1.markRow (o := C.size) (n := 1) h.hb (by omega) hnew hown
 refine ⟨.slice (some ⟨w.heap.size, 0, none⟩) s.length c, _, _, ?_, ?_, m1, ?_⟩
 ·have harr : (b.data.map fun x => Value.int .u8 x.toNat) ++ Array.replicate (c - b.size) (.int .u8 0) = C := by
   rw [hC, hR]
   apply Array.ext'
   simp [hb, byteVs]
  have hch : (choose (.appendCap b.size 0 e)).run P w = .ok c w.drew := by
   rw [run_choose, hcdef]; rfl
  have hsh : (w.drew.alloc (.cells C e)).shape? w.heap.size = some (e, C.size) := by
   simp only [World.shape?, hnew]
  simp only [Conv.stringToBytes, Sem.run_bind, hch, Result.andThen_ok, harr, newRow, run_newObj, World.alloc_eq, Sem.run_pure, markStringish, run_shape, World.size_drew]
  simp only [hsh, Sem.run_bind, run_freeze, Result.andThen_ok, Sem.run_pure, hlen]
 ·have hflat : (ofBytes s).flatMap V.cells = ofBytes s := by
   simp only [ofBytes]
   clear hb r1 r2 hown m1 hC hlen
   induction s with
   | nil => rfl
   | cons x s ih => rw [List.map_cons, List.flatMap_cons, ih]; rfl
  have key := VR.list (σ := (σ.addI w.drew.heap.size 0 (byteVs s)).addT w.drew.heap.size e) (t := none) (sz := 1) (es := ofBytes s) (tk := .no) (b := w.heap.size) (o := 0) (cap := c) (fun _ h => by cases h)
   (LR.of_flat (fun x hx => by simp [ofBytes] at hx; obtain ⟨_, _, rfl⟩ := hx; rfl) (by
    rw [hflat]
    exact CR.of_vals ((byteVs_VR σ s).mono r2.le) fun i v hi => by
     have := Sg.addI_get σ w.drew.heap.size 0 _ i v hi
     simpa [Sg.addT] using this)) (by simp [ofBytes]; omega) trivial
  have hl2 : (ofBytes s).length = s.length := by simp [ofBytes]
  rw [hl2] at key
  exact key
 ·have t1 := (Stp.drew σ S w w.drew rfl)
  have hn : Free σ S.next S.next := fun id h1 h2 => by omega
  have t2 := t1.trans r2 hn
  refine ⟨t2.le, t2.next, by rw [m3]; exact t2.size, fun k hk hno hI => ?_, t2.newI, t2.newK, t2.dom⟩
  rw [m2 k (by omega)]
  exact t2.keep k hk hno hI
theorem convertE_sound [Glob] (h : Rel none2 base w₀ σ S w) {s d : TypeId} {x v : V} {X : Value} (ha : convertE P s d x S = some (v, S')) (hx : VR σ x X) : Does P base w₀ σ S w v S' (convert s d X) := by
 unfold convertE at ha
 split at ha
 ·rename_i sd dd hs hd
  split at ha
  ·-- a number
   simp only [Option.some.injEq, Prod.mk.injEq] at ha
   obtain ⟨rfl, rfl⟩ := ha
   cases hx
   exact .pure h (by simp [convert, run_underlying hs, run_underlying hd, Conv.intToInt]) (.int _ _)
  ·simp only [Option.some.injEq, Prod.mk.injEq] at ha
   obtain ⟨rfl, rfl⟩ := ha
   cases hx with
   | str b hb => exact .pure h (by simp [convert, run_underlying hs, run_underlying hd]) (.str b hb)
  ·rename_i n
   simp only [Option.some.injEq, Prod.mk.injEq] at ha
   obtain ⟨rfl, rfl⟩ := ha
   cases hx
   exact .pure h (r := .string (Utf8.encode n)) (by simp [convert, run_underlying hs, run_underlying hd, Conv.intToString]) (.str _ rfl)
  ·split at ha
   ·rename_i e
    split at ha
    ·rename_i he _ _
     simp only [Option.some.injEq, Prod.mk.injEq] at ha
     obtain ⟨rfl, rfl⟩ := ha
     cases hx
     exact .pure h (r := .string .empty) (by simp [convert, run_underlying hs, run_underlying hd, run_underlying he, Conv.bytesToString]) (.str _ rfl)
    ·rename_i es tk he _ _
     simp only [Option.map_eq_some_iff, Prod.mk.injEq] at ha
     obtain ⟨s', h1, rfl, rfl⟩ := ha
     cases hx with
     | list ht hl hc hk =>
      rename_i b o cap
      obtain ⟨f1, f2⟩ := hl.flat
      have hflat : ∀ {es : List V} {s' : List UInt8}, toBytes es = some s' → es.flatMap V.cells = es := by
       intro es
       induction es with
       | nil => intro s' _; rfl
       | cons x es ih =>
        intro s' h1
        unfold toBytes at h1
        split at h1
        ·rename_i e'; cases e'
        ·rename_i n l e'
         cases e'
         simp only [Option.map_eq_some_iff] at h1
         obtain ⟨s'', h2, _⟩ := h1
         rw [List.flatMap_cons, ih h2]; rfl
        ·cases h1
      rw [hflat h1] at f1
      obtain ⟨vs, g1, g2⟩ := f1.vals
      obtain ⟨ns, rfl, rfl⟩ := toBytes_sound h1 g1
      obtain ⟨r, e1, e2⟩ := bytes_run (P := P) (b := b) (o := o) (len := es.length) (cap := cap) (ns := ns) w (by rw [g1.length]; simp) (fun j v hj => by rw [addr_add]; exact h.imm _ _ _ (g2 j v hj) id)
      exact .pure h (r := .string r) (by rw [run_convert_bytes_string w s d e _ _ _ hs he hd]; exact e2) (.str r e1)
    ·rename_i id off len cap he _ _
     split at ha
     ·rename_i cs hcs
      simp only [Option.map_eq_some_iff, Prod.mk.injEq] at ha
      obtain ⟨s', h1, rfl, rfl⟩ := ha
      cases hx with
      | arr hρ =>
       obtain ⟨b, o, vs, e0, g1, g2, g3⟩ := rd_sound h hcs (.ptr hρ)
       cases e0
       obtain ⟨ns, rfl, rfl⟩ := toBytes_sound h1 g1
       obtain ⟨r, e1, e2⟩ := bytes_run (P := P) (len := len) (cap := cap) (ns := ns) w (by simpa using g2) g3
       exact .pure h (r := .string r) (by rw [run_convert_bytes_string w s d e _ _ _ hs he hd]; exact e2) (.str r e1)
     ·cases ha
    ·cases ha
   ·cases ha
  ·rename_i e s'
   split at ha
   ·rename_i he
    simp only [Option.some.injEq, Prod.mk.injEq] at ha
    obtain ⟨rfl, rfl⟩ := ha
    cases hx with
    | str b hb =>
     obtain ⟨r, w', σ', k1, k2⟩ := stringToBytes_sound (P := P) h e hb
     exact ⟨r, w', σ', by simp [convert, run_underlying hs, run_underlying hd, run_underlying he, k1], k2⟩
   ·cases ha
  ·-- to an untyped pointer
   split at ha
   ·simp only [Option.some.injEq, Prod.mk.injEq] at ha
    obtain ⟨rfl, rfl⟩ := ha
    cases hx
    exact .pure h (r := .pointer none) (by simp [convert, run_underlying hs, run_underlying hd, Conv.unsafePointer]) .nilp
   ·rename_i t id off
    split at ha
    ·rename_i n bt cs hsz hid
     split at ha
     ·rename_i hlt
      have hlt : off < cs.length := by simpa using hlt
      simp only [Option.some.injEq, Prod.mk.injEq] at ha
      obtain ⟨rfl, rfl⟩ := ha
      cases hx with
      | ptr hρ =>
       rename_i b p e'
       obtain ⟨b', e'', vs, g1, g2, g3, g4, g5⟩ := h.ob id _ hid
       rw [hρ] at g1; cases g1
       refine .pure h (r := .pointer (some ⟨b, off, none⟩)) ?_ (.ptr hρ)
       have hsh : w.shape? b = some (bt, vs.toArray.size) := by simp [World.shape?, g3]
       have hvl : vs.length = cs.length := g4.length.symm
       have hnot : ¬ (off ≥ vs.length) := by omega
       simp [convert, run_underlying hs, run_underlying hd, Conv.unsafePointer, Conv.seenAt, viewAt, hsh, cellsIn, szOf_run hsz, hnot]
     ·cases ha
    ·cases ha
   ·split at ha
    ·simp only [Option.some.injEq, Prod.mk.injEq] at ha
     obtain ⟨rfl, rfl⟩ := ha
     cases hx
     exact .pure h (r := .pointer none) (by simp [convert, run_underlying hs, run_underlying hd, Conv.unsafePointer]) .nilp
    ·simp only [Option.some.injEq, Prod.mk.injEq] at ha
     obtain ⟨rfl, rfl⟩ := ha
     cases hx with
     | ptr hρ => exact .pure h (r := .pointer (some ⟨_, _, none⟩)) (by simp [convert, run_underlying hs, run_underlying hd, Conv.unsafePointer]) (.ptr hρ)
    ·cases ha
   ·cases ha
  ·split at ha
   ·simp only [Option.some.injEq, Prod.mk.injEq] at ha
    obtain ⟨rfl, rfl⟩ := ha
    cases hx
    exact .pure h (r := .pointer none) (by simp [convert, run_underlying hs, run_underlying hd, Conv.unsafePointer]) .nilp
   ·cases ha
  ·rename_i u id off
   split at ha
   ·rename_i n e cs hsz hid
    split at ha
    ·rename_i hlies
     simp only [Option.some.injEq, Prod.mk.injEq] at ha
     obtain ⟨rfl, rfl⟩ := ha
     cases hx with
     | ptr hρ =>
      rename_i b p e'
      obtain ⟨b', e'', vs, g1, g2, g3, g4, g5⟩ := h.ob id _ hid
      rw [hρ] at g1; cases g1
      refine .pure h (r := .pointer (some ⟨b, off, none⟩)) ?_ (.ptr hρ)
      have hsh : w.shape? b = some (e, vs.toArray.size) := by simp [World.shape?, g3]
      have hvl : vs.length = cs.length := g4.length.symm
      rw [← hvl] at hlies
      simp [convert, run_underlying hs, run_underlying hd, Conv.unsafePointer, Conv.seenAt, viewAt, hsh, szOf_run hsz, variablesAt, hlies]
    ·cases ha
   ·cases ha
  ·cases ha
 ·cases ha
theorem lenE_sound {t ty : TypeId} {ts : List TypeId} {x v : V} {X : Value} {xs : List Value} (ha : lenE P t x = some v) (hx : VR σ x X) (w : World) :
 ∃ r, (Builtin.len_ (t :: ts).toArray ty (X :: xs).toArray).run P w = .ok r w ∧ VR σ v r := by
 unfold lenE at ha
 split at ha <;> first
  | (cases ha; done)
  | skip
 all_goals rename_i hu
 ·cases ha
  cases hx with
  | str b hb =>
   have hlen : b.size = b.data.toList.length := (Array.length_toList).symm
   rw [hb] at hlen
   exact ⟨.int .i64 b.size, by simp [Builtin.len_, run_underlying hu, goInt], by rw [hlen]; exact .int _ _⟩
 ·cases ha; exact ⟨_, by simp [Builtin.len_, run_underlying hu, goInt], .int _ _⟩
 ·cases ha; cases hx; exact ⟨_, by simp [Builtin.len_, run_underlying hu, goInt], .int _ _⟩
 ·cases ha; cases hx; exact ⟨_, by simp [Builtin.len_, run_underlying hu, goInt], .int _ _⟩
 ·cases ha; cases hx; exact ⟨_, by simp [Builtin.len_, run_underlying hu, goInt], .int _ _⟩
 ·cases ha; cases hx; exact ⟨_, by simp [Builtin.len_, run_underlying hu, goInt], .int _ _⟩
 ·cases ha; cases hx; exact ⟨_, by simp [Builtin.len_, run_underlying hu, goInt], .int _ _⟩
theorem foldMax_sound (gt : Bool) : ∀ {l : List V} {k : IntKind} {a : Int} {v : V} {xs : List Value} (w : World), foldMax gt k a l = some v → VRs σ l xs →
 ∃ r, (xs.foldlM (if gt then Builtin.max2 else Builtin.min2) (.int k a)).run P w = .ok r w ∧ VR σ v r
 | [], k, a, v, xs, w, h, hx => by
  simp [foldMax] at h; subst h; cases hx
  exact ⟨.int k a, rfl, .int _ _⟩
 | x :: l, k, a, v, xs, w, h, hx => by
  unfold foldMax at h
  split at h
  ·rename_i e; cases e
  ·rename_i j b l' e
   cases e
   cases hx with
   | cons hv hr =>
    cases hv
    split at h
    ·rename_i hj
     have hj : j = k := by simpa using hj
     subst hj
     obtain ⟨r, h1, h2⟩ := foldMax_sound gt w h hr
     refine ⟨r, ?_, h2⟩
     rw [List.foldlM_cons, Sem.run_bind]
     cases gt
     ·simpa [Builtin.min2] using h1
     ·simpa [Builtin.max2] using h1
    ·cases h
  ·cases h
theorem builtinE_sound [Glob] (h : Rel none2 base w₀ σ S w) {b : Builtin} {ts : List TypeId} {args : List V} {rargs : List Value} {v : V} {ty : TypeId} {cs : Array Bool} (ha : builtinE P b ts args S = some (v, S')) (hf : Free σ S.next S'.next) (hx : VRs σ args rargs) :
 ∃ r w' σ', (builtin b ts.toArray ty cs rargs.toArray).run P w = .ok (.value r) w' ∧ VR σ' v r ∧ Rel none2 base w₀ σ' S' w' ∧ Stp σ S w σ' S' w' := by
 unfold builtinE at ha
 split at ha
 ·rename_i t ts x args
  simp only [Option.map_eq_some_iff, Prod.mk.injEq] at ha
  obtain ⟨v', h1, rfl, rfl⟩ := ha
  cases hx with
  | cons hx hr =>
   rename_i y ys
   obtain ⟨r, e1, e2⟩ := lenE_sound (ty := ty) (ts := ts) (xs := ys) h1 hx w
   exact ⟨r, w, σ, by simp only [builtin, Sem.run_bind, e1]; rfl, e2, h, Stp.refl _ _ _⟩
 ·rename_i t u x y
  cases hx with
  | cons hx hr => cases hr with
   | cons hy hr =>
    cases hr
    obtain ⟨r, w', σ', e1, e2⟩ := appendE_sound (ty := ty) h ha hf hx hy
    exact ⟨r, w', σ', by simp only [builtin, Sem.run_bind, e1]; rfl, e2⟩
 ·rename_i t ts x y
  cases hx with
  | cons hx hr => cases hr with
   | cons hy hr =>
    cases hr
    rename_i X Y
    obtain ⟨r, w', e1, e2⟩ := copyE_sound (u := 0) (ty := ty) h ha hx hy
    have hc : Builtin.copy_ (t :: ts).toArray ty #[X, Y] = Builtin.copy_ #[t, 0] ty #[X, Y] := by
     cases ts <;> rfl
    exact ⟨r, w', σ, by simp only [builtin, Sem.run_bind, hc, e1]; rfl, e2⟩
 ·simp only [Option.map_eq_some_iff, Prod.mk.injEq] at ha
  obtain ⟨v', h1, rfl, rfl⟩ := ha
  cases hx with
  | cons hx hr =>
   cases hx
   obtain ⟨r, e1, e2⟩ := foldMax_sound (P := P) true w h1 hr
   exact ⟨r, w, σ, by simp only [builtin, Builtin.max_, Sem.run_bind]; simp only [if_true] at e1; rw [e1]; rfl, e2, h, Stp.refl _ _ _⟩
 ·simp only [Option.map_eq_some_iff, Prod.mk.injEq] at ha
  obtain ⟨v', h1, rfl, rfl⟩ := ha
  cases hx with
  | cons hx hr =>
   cases hx
   obtain ⟨r, e1, e2⟩ := foldMax_sound (P := P) false w h1 hr
   exact ⟨r, w, σ, by simp only [builtin, Builtin.min_, Sem.run_bind]; simp only [Bool.false_eq_true, if_false] at e1; rw [e1]; rfl, e2, h, Stp.refl _ _ _⟩
 ·simp only [Option.some.injEq, Prod.mk.injEq] at ha
  obtain ⟨rfl, rfl⟩ := ha
  cases hx with
  | cons hx hr =>
   cases hx; cases hr
   exact ⟨.pointer none, w, σ, rfl, .nilp, h, Stp.refl _ _ _⟩
 ·rename_i lt e es tk
  simp only [Option.some.injEq, Prod.mk.injEq] at ha
  obtain ⟨rfl, rfl⟩ := ha
  cases hx with
  | cons hx hr =>
   cases hr
   cases hx with
   | list ht hl hc hk =>
    rename_i b o cap
    obtain ⟨c, rfl⟩ : ∃ c, cap = c + 1 := ⟨cap - 1, by simp at hc; omega⟩
    refine ⟨.pointer (some ⟨b, o, none⟩), w, σ, rfl, ?_, h, Stp.refl _ _ _⟩
    exact .cptr ht hl.flat.1
 ·rename_i t u x n
  cases hx with
  | cons hx hr => cases hr with
   | cons hy hr =>
    cases hr
    obtain ⟨r, w', e1, e2⟩ := unsafeStrE_sound (it := u) (ty := ty) h ha hx hy
    exact ⟨r, w', σ, by simp only [builtin, Sem.run_bind, e1]; rfl, e2⟩
 ·rename_i t ts
  split at ha
  ·rename_i e he
   have ht := elemT_some he
   simp only [Option.some.injEq, Prod.mk.injEq] at ha
   obtain ⟨rfl, rfl⟩ := ha
   cases hx with
   | cons hx hr =>
    cases hx; cases hr
    exact ⟨.int .i64 (0 : Nat), w, σ, by simp [builtin, Builtin.cap_, run_underlying ht, goInt], .int _ _, h, Stp.refl _ _ _⟩
  ·cases ha
 ·rename_i t ts x k
  simp only [Option.map_eq_some_iff, Prod.mk.injEq] at ha
  obtain ⟨S1, h1, rfl, rfl⟩ := ha
  cases hx with
  | cons hx hr => cases hr with
   | cons hy hr =>
    cases hr
    obtain ⟨w', e1, e2, e3⟩ := deleteE_sound (ts := ts) (ty := ty) h h1 hx hy
    exact ⟨.tuple #[], w', σ, by simp only [builtin, Sem.run_bind, e1]; rfl, .tup .nil, e2, e3⟩
 ·rename_i t ts x
  simp only [Option.map_eq_some_iff, Prod.mk.injEq] at ha
  obtain ⟨S1, h1, rfl, rfl⟩ := ha
  cases hx with
  | cons hx hr =>
   cases hr
   obtain ⟨w', e1, e2, e3⟩ := clearE_sound (ts := ts) (ty := ty) h h1 hx
   exact ⟨.tuple #[], w', σ, by simp only [builtin, Sem.run_bind, e1]; rfl, .tup .nil, e2, e3⟩
 ·cases ha
theorem OR_of {ev : Operand → Option V} {ρ : Operand → Value} (hev : ∀ x u, ev x = some u → VR σ u (ρ x)) {o : Option Operand} {l : List V} (h : mapO ev o.toList = some l) : OR σ l.head? (o.map ρ) := by
 cases o with
 | none => simp [mapO] at h; subst h; exact .none
 | some x =>
  simp only [Option.toList_some, mapO] at h
  cases hx : ev x with
  | none => simp [hx] at h
  | some u =>
   simp [hx] at h
   subst h
   exact .some (hev x u hx)
theorem PRs_of {ev : Operand → Option V} {ρ : Operand → Value} (hev : ∀ x u, ev x = some u → VR σ u (ρ x)) : ∀ {ps : List (Nat × Operand)} {l : List (Nat × V)}, mapO (fun (p : Nat × Operand) => (ev p.2).map fun v => (p.1, v)) ps = some l → PRs σ l (ps.map fun (i, x) => (i, ρ x))
 | [], l, h => by simp [mapO] at h; subst h; exact .nil
 | (i, x) :: ps, l, h => by
  simp only [mapO] at h
  cases hx : ev x with
  | none => simp [hx] at h
  | some u =>
   simp only [hx, Option.map_some] at h
   cases hm : mapO (fun (p : Nat × Operand) => (ev p.2).map fun v => (p.1, v)) ps with
   | none => simp [hm] at h
   | some l' =>
    simp only [hm, Option.some.injEq] at h
    subst h
    exact .cons (hev x u hx) (PRs_of hev hm)
theorem mapO_VRs {ev : Operand → Option V} {ρ : Operand → Value} (hev : ∀ x u, ev x = some u → VR σ u (ρ x)) {xs : List Operand} {l : List V} (h : mapO ev xs = some l) : VRs σ l (xs.map ρ) :=
 VRs.map_of h fun x _ u hu => hev x u hu
def OpDoes [Glob] (P : Program) (base : Nat) (w₀ : World) (σ : Sg) (S : St) (w : World) (v : V) (S' : St) (s : Sem Next) : Prop :=
 ∃ r w' σ', (s.run P w = .ok (.value r) w' ∨ (s.run P w = .ok .skip w' ∧ r = undef)) ∧ VR σ' v r ∧ Rel none2 base w₀ σ' S' w' ∧ Stp σ S w σ' S' w'
theorem OpDoes.of [Glob] {v : V} {s : Sem Value} (h : Does P base w₀ σ S w v S' s) : OpDoes P base w₀ σ S w v S' (do pure (.value (← s))) := by
 obtain ⟨r, w', σ', e1, e2⟩ := h
 exact ⟨r, w', σ', .inl (by simp only [Sem.run_bind, e1]; rfl), e2⟩
theorem undef_VR (σ : Sg) : VR σ (.tup []) undef := .tup .nil
theorem opE_sound [Glob] (h : Rel none2 base w₀ σ S w) {o : Oper} {ev : Operand → Option V} {ρ : Operand → Value} {v : V} (ha : opE P o.op ev S = some (v, S')) (hf : Free σ S.next S'.next) (hev : ∀ x u, ev x = some u → VR σ u (ρ x)) :
 OpDoes P base w₀ σ S w v S' (execOp ρ o) := by
 obtain ⟨dst, op, type, pos, after, guard⟩ := o
 simp only at ha
 cases op <;> simp only [opE] at ha <;> try (cases ha; done)
 case move x =>
  simp only [Option.map_eq_some_iff, Prod.mk.injEq] at ha
  obtain ⟨u, h1, rfl, rfl⟩ := ha
  exact ⟨ρ x, w, σ, .inl rfl, hev _ _ h1, h, Stp.refl _ _ _⟩
 case assign x =>
  simp only [Option.map_eq_some_iff, Prod.mk.injEq] at ha
  obtain ⟨u, h1, rfl, rfl⟩ := ha
  exact ⟨ρ x, w, σ, .inl rfl, hev _ _ h1, h, Stp.refl _ _ _⟩
 case pick c a b =>
  split at ha
  ·rename_i hc
   simp only [Option.map_eq_some_iff, Prod.mk.injEq] at ha
   obtain ⟨u, h1, rfl, rfl⟩ := ha
   have hcv : ρ c = .bool true := by
    have := hev _ _ hc
    cases hq : ρ c <;> rw [hq] at this <;> cases this
    rfl
   exact ⟨ρ a, w, σ, .inl (by simp [execOp, hcv, asBool]), hev _ _ h1, h, Stp.refl _ _ _⟩
  ·rename_i hc
   simp only [Option.map_eq_some_iff, Prod.mk.injEq] at ha
   obtain ⟨u, h1, rfl, rfl⟩ := ha
   have hcv : ρ c = .bool false := by
    have := hev _ _ hc
    cases hq : ρ c <;> rw [hq] at this <;> cases this
    rfl
   exact ⟨ρ b, w, σ, .inl (by simp [execOp, hcv, asBool]), hev _ _ h1, h, Stp.refl _ _ _⟩
  ·cases ha
 case alloc t =>
  simp only [Option.map_eq_some_iff, Prod.mk.injEq] at ha
  obtain ⟨z, h1, rfl, rfl⟩ := ha
  obtain ⟨i, zv, hi, hzv, hzr⟩ := zeroV_sound σ h1
  obtain ⟨r1, r2⟩ := h.newBox (hf S.next (Nat.le_refl _) (by simp [St.new])) t hzr.cells
  refine OpDoes.of ⟨.pointer (some ⟨w.heap.size, 0, none⟩), _, _, ?_, .ptr (b := w.heap.size) (p := 0) (e := 0) (by simp [Sg.addK]), r1, r2⟩
  simp only [Instr.alloc, Sem.run_bind, zero_run hi hzv, Result.andThen_ok]
  simp [newVar, newRow]
 case box t x =>
  simp only [Option.map_eq_some_iff, Prod.mk.injEq] at ha
  obtain ⟨u, h1, rfl, rfl⟩ := ha
  obtain ⟨r1, r2⟩ := h.newBox (hf S.next (Nat.le_refl _) (by simp [St.new])) t (hev _ _ h1).cells
  refine OpDoes.of ⟨.pointer (some ⟨w.heap.size, 0, none⟩), _, _, ?_, .ptr (b := w.heap.size) (p := 0) (e := 0) (by simp [Sg.addK]), r1, r2⟩
  simp [Instr.box, newVar, newRow]
 case build t ps =>
  split at ha
  ·rename_i l hl
   simp only [Option.map_eq_some_iff, Prod.mk.injEq] at ha
   obtain ⟨u, h1, rfl, rfl⟩ := ha
   obtain ⟨r, e1, e2⟩ := buildE_sound σ h1 (PRs_of hev hl) w
   refine OpDoes.of (.pure h ?_ e2)
   rw [← e1]
   congr 2
   apply Array.ext'
   simp
  ·cases ha
 case buildSlice t n ps =>
  split at ha
  ·rename_i l hl
   simp only [Option.map_eq_some_iff, Prod.mk.injEq] at ha
   obtain ⟨u, h1, rfl, rfl⟩ := ha
   obtain ⟨r, w', σ', e1, e2⟩ := buildSliceE_sound h h1 (PRs_of hev hl)
   refine OpDoes.of ⟨r, w', σ', ?_, e2⟩
   rw [← e1]
   congr 2
   apply Array.ext'
   simp
  ·cases ha
 case load t a =>
  split at ha
  ·rename_i p hp
   simp only [Option.map_eq_some_iff, Prod.mk.injEq] at ha
   obtain ⟨u, h1, rfl, rfl⟩ := ha
   obtain ⟨b, o, r, e0, e1, e2⟩ := loadE_sound h h1 (hev _ _ hp)
   refine OpDoes.of (.pure h (r := r) ?_ e2)
   simp [Instr.loadAt, e0, Instr.sureAddr, e1]
  ·cases ha
 case store t a x =>
  split at ha
  ·rename_i p u hp hu
   simp only [Option.map_eq_some_iff, Prod.mk.injEq] at ha
   obtain ⟨S'', h1, rfl, rfl⟩ := ha
   obtain ⟨b, o, w', e0, e1, e2, e3⟩ := storeE_sound h h1 (hev _ _ hp) (hev _ _ hu)
   refine ⟨undef, w', σ, .inr ⟨?_, rfl⟩, undef_VR σ, e2, e3⟩
   simp [execOp, Instr.storeAt, e0, Instr.sureAddr, e1]
  ·cases ha
 case makeMap t r =>
  have go : ∀ (s : Sem Value), s.run P w = .ok (.map (some w.heap.size)) (w.alloc (.map #[] 0)) → σ.ρ S.next = none →
   Does P base w₀ σ S w (.map S.next) (S.new (.oth (.map [] 0))) s := fun s hs hn => by
   obtain ⟨r1, r2⟩ := h.newOth hn (x := .map [] 0) (ob := .map #[] 0) ⟨.nil, rfl⟩
   exact ⟨_, _, _, hs, .map (b := w.heap.size) (p := 0) (e := 0) (by simp [Sg.addK]), r1, r2⟩
  split at ha
  ·rename_i hT hr
   simp only [Option.some.injEq, Prod.mk.injEq] at ha
   obtain ⟨rfl, rfl⟩ := ha
   cases r with
   | some x => simp [mapO] at hr; split at hr <;> cases hr
   | none =>
    refine OpDoes.of (go _ ?_ (hf S.next (Nat.le_refl _) (by simp [St.new])))
    simp [Instr.makeMap, Result.andThen]
  ·rename_i de _ _ hT hr
   obtain ⟨d, e⟩ := de
   obtain ⟨kt, hu, _⟩ := mapT_some hT
   simp only [Option.some.injEq, Prod.mk.injEq] at ha
   obtain ⟨rfl, rfl⟩ := ha
   cases r with
   | none => simp [mapO] at hr
   | some x =>
    simp only [Option.toList_some, mapO] at hr
    cases hx : ev x with
    | none => rw [hx] at hr; cases hr
    | some q =>
     rw [hx] at hr
     cases hr
     have := hev _ _ hx
     refine OpDoes.of (go _ ?_ (hf S.next (Nat.le_refl _) (by simp [St.new])))
     cases hρ : ρ x <;> rw [hρ] at this <;> cases this
     simp [Instr.makeMap, hρ, run_underlying hu, asInt, asIntOf, Result.andThen]
  ·cases ha
 case lookup t x k ok =>
  split at ha
  ·rename_i a b hx hk
   simp only [Option.map_eq_some_iff, Prod.mk.injEq] at ha
   obtain ⟨u, h1, rfl, rfl⟩ := ha
   obtain ⟨r, e1, e2⟩ := lookupE_sound h h1 (hev _ _ hx) (hev _ _ hk)
   exact OpDoes.of (.pure h (r := r) e1 e2)
  ·cases ha
 case insert t m k x =>
  split at ha
  ·rename_i a b c hm hk hx
   simp only [Option.map_eq_some_iff, Prod.mk.injEq] at ha
   obtain ⟨S'', h1, rfl, rfl⟩ := ha
   obtain ⟨w', e1, e2, e3⟩ := updateE_sound h h1 (hev _ _ hm) (hev _ _ hk) (hev _ _ hx)
   exact ⟨undef, w', σ, .inr ⟨by simp only [execOp, Sem.run_bind, e1]; rfl, rfl⟩, undef_VR σ, e2, e3⟩
  ·cases ha
 case mapUpdate t m k x =>
  split at ha
  ·rename_i a b c hm hk hx
   simp only [Option.map_eq_some_iff, Prod.mk.injEq] at ha
   obtain ⟨S'', h1, rfl, rfl⟩ := ha
   obtain ⟨w', e1, e2, e3⟩ := updateE_sound h h1 (hev _ _ hm) (hev _ _ hk) (hev _ _ hx)
   exact ⟨undef, w', σ, .inr ⟨by simp only [execOp, Sem.run_bind, e1]; rfl, rfl⟩, undef_VR σ, e2, e3⟩
  ·cases ha
 case range t x =>
  split at ha
  ·rename_i a hx
   exact OpDoes.of (rangeE_sound h ha hf (hev _ _ hx))
  ·cases ha
 case next x b =>
  split at ha
  ·rename_i a hx
   obtain ⟨r, w', e1, e2⟩ := nextE_sound (ty := type) h ha (hev _ _ hx)
   exact OpDoes.of ⟨r, w', σ, e1, e2⟩
  ·cases ha
 case nilCheck x =>
  split at ha
  ·rename_i i o hx
   simp only [Option.some.injEq, Prod.mk.injEq] at ha
   obtain ⟨rfl, rfl⟩ := ha
   have := hev _ _ hx
   refine ⟨ρ x, w, σ, .inl ?_, this, h, Stp.refl _ _ _⟩
   cases hρ : ρ x <;> rw [hρ] at this <;> cases this
   simp [execOp, hρ]
  ·rename_i t' cs o hx
   simp only [Option.some.injEq, Prod.mk.injEq] at ha
   obtain ⟨rfl, rfl⟩ := ha
   have := hev _ _ hx
   refine ⟨ρ x, w, σ, .inl ?_, this, h, Stp.refl _ _ _⟩
   cases hρ : ρ x <;> rw [hρ] at this <;> cases this
   simp [execOp, hρ]
  ·rename_i f' a b hx
   simp only [Option.some.injEq, Prod.mk.injEq] at ha
   obtain ⟨rfl, rfl⟩ := ha
   have := hev _ _ hx
   refine ⟨ρ x, w, σ, .inl ?_, this, h, Stp.refl _ _ _⟩
   cases hρ : ρ x <;> rw [hρ] at this <;> cases this
   simp [execOp, hρ]
  ·rename_i i hx
   simp only [Option.some.injEq, Prod.mk.injEq] at ha
   obtain ⟨rfl, rfl⟩ := ha
   have := hev _ _ hx
   refine ⟨ρ x, w, σ, .inl ?_, this, h, Stp.refl _ _ _⟩
   cases hρ : ρ x <;> rw [hρ] at this <;> cases this
   simp [execOp, hρ]
  ·cases ha
 case binOp op t x y yt =>
  split at ha
  ·rename_i a b hx hy
   simp only [Option.map_eq_some_iff, Prod.mk.injEq] at ha
   obtain ⟨u, h1, rfl, rfl⟩ := ha
   obtain ⟨r, e1, e2⟩ := binE_sound h1 (hev _ _ hx) (hev _ _ hy) w
   exact OpDoes.of (.pure h e1 e2)
  ·cases ha
 case unOp op t x =>
  split at ha
  ·rename_i a hx
   simp only [Option.map_eq_some_iff, Prod.mk.injEq] at ha
   obtain ⟨u, h1, rfl, rfl⟩ := ha
   obtain ⟨r, e1, e2⟩ := unE_sound (P := P) h1 (hev _ _ hx) w
   exact OpDoes.of (.pure h e1 e2)
  ·cases ha
 case convert s d x =>
  split at ha
  ·rename_i a hx
   exact OpDoes.of (convertE_sound h ha (hev _ _ hx))
  ·cases ha
 case makeInterface t x =>
  split at ha
  ·rename_i a hx
   split at ha
   ·rename_i hc
    simp only [Option.some.injEq, Prod.mk.injEq] at ha
    obtain ⟨rfl, rfl⟩ := ha
    refine OpDoes.of (.pure h (r := .iface t (ρ x)) ?_ (.iface t (hev _ _ hx)))
    refine run_makeInterface w t (ρ x) ?_
    cases hu : P.underlying t with
    | none => simp [concreteB, hu] at hc
    | some d => cases d <;> first | (simp [concreteB, hu] at hc; done) | simp [Program.concrete, hu]
   ·cases ha
  ·cases ha
 case makeFunc fn first caps =>
  cases fn <;> simp only [opE] at ha <;> try (cases ha; done)
  rename_i g
  split at ha
  ·rename_i a b hx hy
   simp only [Option.some.injEq, Prod.mk.injEq] at ha
   obtain ⟨rfl, rfl⟩ := ha
   have := VR.func (f := g) (mapO_VRs hev hx) (mapO_VRs hev hy)
   refine OpDoes.of (.pure h (r := .func (.func g) (first.map ρ) (caps.map ρ)) rfl ?_)
   have e1 : (first.toList.map ρ).toArray = first.map ρ := by apply Array.ext'; simp
   have e2 : (caps.toList.map ρ).toArray = caps.map ρ := by apply Array.ext'; simp
   rwa [e1, e2] at this
  ·cases ha
 case makeSlice t l c =>
  split at ha
  ·rename_i a b hx hy
   exact OpDoes.of (makeSliceE_sound h ha hf (hev _ _ hx) (hev _ _ hy))
  ·cases ha
 case slice t x lo hi mx =>
  split at ha
  ·rename_i a l hh m hx hl hh' hm
   simp only [Option.map_eq_some_iff, Prod.mk.injEq] at ha
   obtain ⟨u, h1, rfl, rfl⟩ := ha
   have hmx := OR_of hev hm
   cases hmh : m.head? with
   | some q =>
    rw [hmh] at h1 hmx
    cases hq : mx.map ρ with
    | none => rw [hq] at hmx; cases hmx
    | some rm =>
     rw [hq] at hmx
     cases hmx with
     | some hm2 =>
      have h1 : slice3E P t a l.head? hh.head? q = some u := h1
      obtain ⟨r, e1, e2⟩ := slice3E_sound h1 (hev _ _ hx) (OR_of hev hl) (OR_of hev hh') hm2 w
      refine OpDoes.of (.pure h ?_ e2)
      rw [← e1, hq]
   | none =>
    rw [hmh] at h1 hmx
    obtain ⟨r, e1, e2⟩ := sliceE_sound h1 (hev _ _ hx) (OR_of hev hl) (OR_of hev hh') w
    refine OpDoes.of (.pure h ?_ e2)
    cases hq : mx.map ρ with
    | none => rw [← e1]
    | some q => rw [hq] at hmx; cases hmx
  ·cases ha
 case fieldAddr s x f =>
  split at ha
  ·rename_i a hx
   simp only [Option.map_eq_some_iff, Prod.mk.injEq] at ha
   obtain ⟨u, h1, rfl, rfl⟩ := ha
   obtain ⟨r, e1, e2⟩ := fieldAddrE_sound h1 (hev _ _ hx) w
   exact OpDoes.of (.pure h e1 e2)
  ·cases ha
 case field t x f =>
  split at ha
  ·rename_i a hx
   simp only [Option.map_eq_some_iff, Prod.mk.injEq] at ha
   obtain ⟨u, h1, rfl, rfl⟩ := ha
   obtain ⟨r, e1, e2⟩ := fieldE_sound h1 (hev _ _ hx) w
   exact OpDoes.of (.pure h e1 e2)
  ·cases ha
 case indexAddr t x i =>
  split at ha
  ·rename_i a b hx hy
   simp only [Option.map_eq_some_iff, Prod.mk.injEq] at ha
   obtain ⟨u, h1, rfl, rfl⟩ := ha
   obtain ⟨r, e1, e2⟩ := indexAddrE_sound h1 (hev _ _ hx) (hev _ _ hy) w
   exact OpDoes.of (.pure h e1 e2)
  ·cases ha
 case index t x i =>
  split at ha
  ·rename_i a b hx hy
   simp only [Option.map_eq_some_iff, Prod.mk.injEq] at ha
   obtain ⟨u, h1, rfl, rfl⟩ := ha
   obtain ⟨r, e1, e2⟩ := indexE_sound h1 (hev _ _ hx) (hev _ _ hy) w
   exact OpDoes.of (.pure h e1 e2)
  ·cases ha
 case typeAssert x xt t ok =>
  split at ha
  ·rename_i a hx
   simp only [Option.map_eq_some_iff, Prod.mk.injEq] at ha
   obtain ⟨u, h1, rfl, rfl⟩ := ha
   obtain ⟨r, e1, e2⟩ := assertE_sound (xt := xt) h1 (hev _ _ hx) w
   exact OpDoes.of (.pure h e1 e2)
  ·cases ha
 case extract t i =>
  split at ha
  ·rename_i vs hx
   simp only [Option.map_eq_some_iff, Prod.mk.injEq] at ha
   obtain ⟨u, h1, rfl, rfl⟩ := ha
   have := hev _ _ hx
   cases hρ : ρ t <;> rw [hρ] at this <;> cases this
   rename_i ws hw
   obtain ⟨r, e1, e2⟩ := hw.get h1
   refine OpDoes.of (.pure h (r := r) ?_ e2)
   simp [hρ, Instr.extract, e1]
  ·cases ha
 case call c =>
  obtain ⟨callee, args, ats⟩ := c
  cases callee <;> simp only [opE] at ha <;> try (cases ha; done)
  rename_i b
  split at ha
  ·rename_i l hl
   obtain ⟨r, w', σ', e1, e2⟩ := builtinE_sound (ty := type) (cs := args.map fun | .const _ => true | _ => false) h ha hf (mapO_VRs hev hl)
   refine ⟨r, w', σ', .inl ?_, e2⟩
   have ea : (args.toList.map ρ).toArray = args.map ρ := by apply Array.ext'; simp
   have et : ats.toList.toArray = ats := by simp
   rw [ea, et] at e1
   simp only [execOp, resolve, Sem.run_bind, Sem.run_pure, Result.andThen_ok, invoke]
   exact e1
  ·cases ha
end
end Go.Ev
namespace Go.Ev
open Go.RowKit
structure StLe (S S' : St) : Prop where
 next : S.next ≤ S'.next
 dom : ∀ id o, S'.h.find id = some o → (∃ o', S.h.find id = some o') ∨ (S.next ≤ id ∧ id < S'.next)
theorem StLe.refl (S : St) : StLe S S := ⟨Nat.le_refl _, fun _ o h => .inl ⟨o, h⟩⟩
theorem StLe.trans {a b c : St} (h : StLe a b) (k : StLe b c) : StLe a c := by
 refine ⟨Nat.le_trans h.next k.next, fun id o ho => ?_⟩
 rcases k.dom id o ho with ⟨o', h1⟩ | ⟨h1, h2⟩
 ·rcases h.dom id o' h1 with h3 | ⟨h3, h4⟩
  ·exact .inl h3
  ·exact .inr ⟨h3, Nat.lt_of_lt_of_le h4 k.next⟩
 ·exact .inr ⟨Nat.le_trans h.next h1, h2⟩
theorem StLe.new (S : St) (o : Ob) : StLe S (S.new o) := by
 refine ⟨by simp [St.new], fun id o' ho => ?_⟩
 simp only [St.new, Tr.find_put] at ho ⊢
 split at ho
 ·exact .inr ⟨by omega, by omega⟩
 ·exact .inl ⟨_, ho⟩
theorem StLe.put {S : St} {id : Nat} {o : Ob} (h : S.h.find id = some o) (o' : Ob) : StLe S { S with h := S.h.put id o' } := by
 refine ⟨Nat.le_refl _, fun i x hx => ?_⟩
 simp only [Tr.find_put] at hx
 split at hx
 ·subst_vars; exact .inl ⟨_, h⟩
 ·exact .inl ⟨_, hx⟩
theorem StLe.del (S : St) (id : Nat) : StLe S { S with h := S.h.del id } := by
 refine ⟨Nat.le_refl _, fun i x hx => ?_⟩
 simp only [Tr.find_del] at hx
 split at hx
 ·cases hx
 ·exact .inl ⟨_, hx⟩
theorem StLe.up (S : St) {n : Nat} (h : S.next ≤ n) : StLe S { S with next := n } := ⟨h, fun _ _ h => .inl ⟨_, h⟩⟩
def Rs.st : Rs → St
 | .code _ _ S | .ret _ S | .pan _ S | .dret _ S => S
def LeOk (rec : Rec) : Prop := ∀ task S r, rec task S = some r → StLe S r.st
structure Good (P : Program) : Prop where
 nm : ∀ (f : FuncId) (fn : Func), P.funcs[f]? = some fn → fn.body.isSome = true → fn.name ≠ "runtime.NumGoroutine"
 esc : ∀ (f : FuncId) (fn : Func), P.funcs[f]? = some fn → fn.body = none → fn.name = "internal/abi.NoEscape" → Extern.findNext fn = none ∧ Extern.find fn = some Extern.AbiNoEscape.same
 idx : ∀ (f : FuncId) (fn : Func), P.funcs[f]? = some fn → fn.body = none → fn.name = "internal/bytealg.IndexByteString" → Extern.findNext fn = none ∧ Extern.find fn = some Extern.BytealgIndexByte.indexByte
 mnz : ∀ (f : FuncId) (fn : Func), P.funcs[f]? = some fn → fn.body = none → fn.name = "internal/bytealg.MakeNoZero" → Extern.findNext fn = none ∧ Extern.find fn = some (Extern.BytealgMakeNoZero.makeNoZero fn.params fn.resultTypes)
 mix : P.follows .mixedOrders = true
inductive DsR (σ : Sg) : List (FuncId × List V) → List Deferred → Prop
 | nil : DsR σ [] []
 | cons {f : FuncId} {l : List V} {d : Deferred} {caps : Array Value} {ds : List (FuncId × List V)} {es : List Deferred} (ht : d.target = .fn (.func f) caps) (h : VRs σ l (d.args ++ caps).toList) (k : DsR σ ds es) :
  DsR σ ((f, l) :: ds) (d :: es)
 | mark {f : FuncId} {m b p e : Nat} {d : Deferred} {ds : List (FuncId × List V)} {es : List Deferred} (ht : d.target = .collected b) (h : σ.ρ m = some (b, p, e)) (k : DsR σ ds es) :
  DsR σ ((f, [.dmk m]) :: ds) (d :: es)
theorem DsR.mono {σ σ' : Sg} (hs : σ.le σ') : ∀ {ds : List (FuncId × List V)} {es : List Deferred}, DsR σ ds es → DsR σ' ds es
 | _, _, .nil => .nil
 | _, _, .cons ht h k => .cons ht (h.mono hs) (k.mono hs)
 | _, _, .mark ht h k => .mark ht (hs.ρ _ _ h) (k.mono hs)
structure AR (σ : Sg) (fr : Fr) (a : Act) : Prop where
 n : a.tmps.size = fr.n
 t : ∀ t v, fr.t.find t = some v → ∃ y, a.tmps[t]? = some y ∧ VR σ v y
 ds : DsR σ fr.ds a.defers
theorem AR.mono {σ σ' : Sg} (hs : σ.le σ') {fr : Fr} {a : Act} (h : AR σ fr a) : AR σ' fr a :=
 ⟨h.n, fun t v ht => let ⟨y, h1, h2⟩ := h.t t v ht; ⟨y, h1, h2.mono hs⟩, h.ds.mono hs⟩
def PanR (σ : Sg) (p : Pan) (b : Frame) (cs : List Frame) : Prop :=
 match p with
 | .norm => b.kind = .normal ∧ b.roundOf = none
 | .quiet => (b.kind = .deferred ∧ b.roundOf = none) ∧ ∃ c r, cs = c :: r ∧ c.mode = .returning
 | .live v => (b.kind = .deferred ∧ b.roundOf = none) ∧ ∃ c r y, cs = c :: r ∧ c.mode = .panicking [{ v := y, recovered := false }] ∧ VR σ v y
 | .done v => (b.kind = .deferred ∧ b.roundOf = none) ∧ ∃ c r y, cs = c :: r ∧ c.mode = .panicking [{ v := y, recovered := true }] ∧ VR σ v y
 | .rnd => b.kind = .normal ∧ ∃ l, b.roundOf = some l
theorem PanR.mono {σ σ' : Sg} (hs : σ.le σ') {p : Pan} {b : Frame} {cs : List Frame} (h : PanR σ p b cs) : PanR σ' p b cs := by
 cases p with
 | norm => exact h
 | quiet => exact h
 | live v => obtain ⟨h1, c, r, y, h2, h3, h4⟩ := h; exact ⟨h1, c, r, y, h2, h3, h4.mono hs⟩
 | done v => obtain ⟨h1, c, r, y, h2, h3, h4⟩ := h; exact ⟨h1, c, r, y, h2, h3, h4.mono hs⟩
 | rnd => exact h
def isRnd : Pan → Bool
 | .rnd => true
 | _ => false
theorem PanR.ro {σ : Sg} {p : Pan} {b : Frame} {cs : List Frame} (h : PanR σ p b cs) (hp : isRnd p = false) : b.roundOf = none := by
 cases p with
 | norm => exact h.2
 | rnd => cases hp
 | _ => exact h.1.2
inductive Turn (b : Frame) : List Frame → List Frame → Prop
 | refl (cs : List Frame) : Turn b cs cs
 | head (h : b.kind = .deferred) (c : Frame) (u : FrameMode) (r : List Frame) : Turn b (c :: r) ({ c with mode := u } :: r)
theorem Turn.trans {f : Frame} {a b c : List Frame} (h : Turn f a b) (k : Turn f b c) : Turn f a c := by
 cases h with
 | refl => exact k
 | head hf c u r =>
  cases k with
  | refl => exact .head hf c u r
  | head _ _ u' _ => exact .head hf c u' r
section
variable {P : Program} {base : Nat} {w₀ w : World} {σ : Sg} {S S' : St}
theorem AR.eval [Glob] {fr : Fr} {a : Act} (h : AR σ fr a) (hg : GOk σ) : ∀ x u, fr.opd x = some u → VR σ u (a.eval x) := by
 intro x u hu
 cases x with
 | tmp t =>
  obtain ⟨y, h1, h2⟩ := h.t t u hu
  have : a.eval (.tmp t) = y := by simp [Act.eval, h1]
  rwa [this]
 | const v => exact ofVal_sound σ _ _ _ hu
 | global g =>
  simp only [Fr.opd, Option.map_eq_some_iff] at hu
  obtain ⟨cs, h1, rfl⟩ := hu
  exact VR.cptr (b := g) (o := 0) (fun t' e => by cases e) (hg g cs h1)
 | func f =>
  simp [Fr.opd] at hu
  subst hu
  exact VR.func (vs := []) (ws := []) .nil .nil
theorem AR.put {fr fr' : Fr} {a : Act} (h : AR σ fr a) {dst : Option Tmp} {v : V} {y : Value} (hp : fr.put dst v = some fr') (hv : VR σ v y) : AR σ fr' (a.put dst y) := by
 cases dst with
 | none => simp [Fr.put] at hp; subst hp; exact h
 | some d =>
  simp only [Fr.put] at hp
  split at hp
  ·rename_i hd
   cases hp
   have hd : d < fr.n := by simpa using hd
   refine ⟨by simpa [Act.put] using h.n, fun t u ht => ?_, h.ds⟩
   simp only [Tr.find_put] at ht
   split at ht
   ·rename_i he
    subst he
    cases ht
    exact ⟨y, by simp [Act.put, h.n, hd], hv⟩
   ·rename_i he
    obtain ⟨z, h1, h2⟩ := h.t t u ht
    exact ⟨z, by simp only [Act.put]; rw [Array.getElem?_setIfInBounds_ne (fun e => he e.symm)]; exact h1, h2⟩
  ·cases hp
theorem Fr.put_pan {fr fr' : Fr} {dst : Option Tmp} {v : V} (hp : fr.put dst v = some fr') : fr'.pan = fr.pan ∧ fr'.ds = fr.ds := by
 cases dst with
 | none => simp [Fr.put] at hp; subst hp; exact ⟨rfl, rfl⟩
 | some d =>
  simp only [Fr.put] at hp
  split at hp
  ·cases hp; exact ⟨rfl, rfl⟩
  ·cases hp
theorem wantE_sound {fr : Fr} {a : Act} (h : AR σ fr a) {ops : Array Oper} {o : Oper} {b : Bool} (hw : wantE ops o fr = some b) : Region.wanted o (yielded ops a.tmps) = b := by
 unfold wantE at hw
 unfold Region.wanted
 split at hw
 ·rename_i hg; rw [hg]; cases hw; rfl
 ·rename_i j want hg
  rw [hg]
  simp only
  split at hw
  ·cases hw
  ·rename_i d hd
   unfold yielded
   rw [hd]
   simp only [Option.bind_some]
   split at hw
   ·rename_i b' hf
    obtain ⟨y, h1, h2⟩ := h.t d _ hf
    cases h2
    cases hw
    rw [h1]
    cases b' <;> cases want <;> rfl
   ·rename_i hf
    obtain ⟨y, h1, h2⟩ := h.t d _ hf
    cases hw
    rw [h1]
    cases h2
    cases want <;> rfl
   ·cases hw
theorem calleeE_sound {ev : Operand → Option V} {ρ : Operand → Value} (hev : ∀ x u, ev x = some u → VR σ u (ρ x)) {f : Operand} {args : Array Operand} {g : FuncId} {l : List V} (h : calleeE ev f args = some (g, l)) :
 ∃ first caps : Array Value, ρ f = .func (.func g) first caps ∧ VRs σ l (first ++ args.map ρ ++ caps).toList := by
 unfold calleeE at h
 split at h
 ·rename_i g' first caps l' hf hl
  simp only [Option.some.injEq, Prod.mk.injEq] at h
  obtain ⟨rfl, rfl⟩ := h
  have := hev _ _ hf
  cases hq : ρ f <;> rw [hq] at this <;> cases this
  rename_i vs ws hv hw
  refine ⟨_, _, rfl, ?_⟩
  have hm := mapO_VRs hev hl
  simpa using (hv.append hm).append hw
 ·cases h
inductive XR (σ : Sg) : X → Exit → Prop
 | normal : XR σ .normal .normal
 | exit (n : Nat) : XR σ (.exit n) (.exit n)
 | ret : XR σ .ret .ret
 | panic {v : V} {y : Value} (h : VR σ v y) : XR σ (.panic v) (.panic [{ v := y, recovered := false }])
 | goto (l : Nat) : XR σ (.goto l) (.goto l)
def CallOk0 [Glob] (P : Program) (rec : Rec) : Prop :=
 ∀ (g : FuncId) (l : List V) (S : St) (r : Rs), rec (.call g l) S = some r →
  (∀ v S', r = .ret v S' → ∀ base w₀ σ w (vs : List Value), Rel none2 base w₀ σ S w → Free σ S.next S'.next → VRs σ l vs →
   Calls P g vs.toArray w fun e w' => ∃ y σ', e = .returned y ∧ VR σ' v y ∧ Rel none2 base w₀ σ' S' w' ∧ Stp σ S w σ' S' w') ∧
  (∀ v S', r = .pan v S' → ∀ base w₀ σ w (vs : List Value), Rel none2 base w₀ σ S w → Free σ S.next S'.next → VRs σ l vs →
   Calls P g vs.toArray w fun e w' => ∃ y σ', e = .panicked [{ v := y, recovered := false }] ∧ VR σ' v y ∧ Rel none2 base w₀ σ' S' w' ∧ Stp σ S w σ' S' w')
def Arr (P : Program) (m : Machine) (b : Frame) (k : List Item) (cs : List Frame) : Exit → Act → World → Prop
 | .normal, a, w => Steps P m (lone (b.atR a k) cs w)
 | .exit id, a, w => ∃ k1, exitTo id k1 = exitTo id k ∧ Steps P m (lone (b.atR a (.code (.exit id) :: k1)) cs w)
 | .ret, a, w => ∃ k1, Steps P m (lone (b.atR a (.code .ret :: k1)) cs w)
 | .panic chain, a, w => ∃ todo, Steps P m (lone { b.atR a todo with mode := .panicking chain } cs w)
 | .goto l, a, w => ∃ k1, gotoIn l k1 = gotoIn l k ∧ Steps P m (lone (b.atR a (.code (.goto l) :: k1)) cs w)
 | _, _, _ => False
theorem Arr.of_steps {P : Program} {m m₁ : Machine} {b : Frame} {k : List Item} {cs : List Frame} {e : Exit} {a : Act} {w : World} (h : Steps P m m₁) (h' : Arr P m₁ b k cs e a w) : Arr P m b k cs e a w := by
 cases e with
 | normal => exact h.trans h'
 | exit id => obtain ⟨k1, h1, h2⟩ := h'; exact ⟨k1, h1, h.trans h2⟩
 | goto l => obtain ⟨k1, h1, h2⟩ := h'; exact ⟨k1, h1, h.trans h2⟩
 | ret => obtain ⟨k1, h2⟩ := h'; exact ⟨k1, h.trans h2⟩
 | panic chain => obtain ⟨todo, hs⟩ := h'; exact ⟨todo, h.trans hs⟩
 | outgrown => exact h'
def Comes' [Glob] (P : Program) (base : Nat) (w₀ : World) (σ : Sg) (S : St) (w : World) (m : Machine) (b : Frame) (k : List Item) (cs : List Frame) (x : X) (fr' : Fr) (S' : St) : Prop :=
 ∃ e a' cs' w' σ', XR σ' x e ∧ AR σ' fr' a' ∧ PanR σ' fr'.pan b cs' ∧ Turn b cs cs' ∧ Rel none2 base w₀ σ' S' w' ∧ Stp σ S w σ' S' w' ∧ Arr P m b k cs' e a' w'
def ent (c : Code) (k : List Item) : List Item :=
 match c with
 | .loop b => .code b :: .inLoop b :: k
 | c => .code c :: k
def CodeOk [Glob] (P : Program) (rec : Rec) : Prop :=
 ∀ (c : Code) (fr : Fr) (S : St) (r : Rs), rec (.code c fr) S = some r → ∃ x fr' S', r = .code x fr' S' ∧
  ∀ (base : Nat) (w₀ : World) (σ : Sg) (w : World) (a : Act) (b : Frame) (cs : List Frame) (k : List Item), Rel none2 base w₀ σ S w → AR σ fr a → PanR σ fr.pan b cs → True → Free σ S.next S'.next →
   Comes' P base w₀ σ S w (lone (b.atR a (ent c k)) cs w) b k cs x fr' S'
structure CallOk [Glob] (P : Program) (rec : Rec) : Prop where
 le : LeOk rec
 call : CallOk0 P rec
 code : CodeOk P rec
theorem ent_steps {b : Frame} {a : Act} {cs : List Frame} {k : List Item} {c : Code} : Steps P (lone (b.atR a (.code c :: k)) cs w) (lone (b.atR a (ent c k)) cs w) := by
 cases c
 case loop => exact .one stepR_loop
 all_goals exact .refl _ _
theorem Comes'.of_steps [Glob] {m m₁ : Machine} {b : Frame} {k : List Item} {cs : List Frame} {x : X} {fr' : Fr} (hs : Steps P m m₁) (h : Comes' P base w₀ σ S w m₁ b k cs x fr' S') : Comes' P base w₀ σ S w m b k cs x fr' S' :=
 let ⟨e, a', cs', w', σ', z0, z1, z2, z3, z4, z5, z6⟩ := h
 ⟨e, a', cs', w', σ', z0, z1, z2, z3, z4, z5, .of_steps hs z6⟩
theorem CodeOk.at [Glob] {rec : Rec} {c : Code} {fr : Fr} (h : CodeOk P rec) {r : Rs} (hr : rec (.code c fr) S = some r) : ∃ x fr' S', r = .code x fr' S' ∧
 ∀ (base : Nat) (w₀ : World) (σ : Sg) (w : World) (a : Act) (b : Frame) (cs : List Frame) (k : List Item), Rel none2 base w₀ σ S w → AR σ fr a → PanR σ fr.pan b cs → True → Free σ S.next S'.next →
  Comes' P base w₀ σ S w (lone (b.atR a (.code c :: k)) cs w) b k cs x fr' S' := by
 obtain ⟨x, fr', S', rfl, h1⟩ := h c fr S r hr
 exact ⟨x, fr', S', rfl, fun base w₀ σ w a b cs k q1 q2 q3 q4 q5 => (h1 base w₀ σ w a b cs k q1 q2 q3 q4 q5).of_steps ent_steps⟩
theorem Turn.normal {b : Frame} {cs cs' : List Frame} (h : Turn b cs cs') (hb : b.kind = .normal) : cs' = cs := by
 cases h with
 | refl => rfl
 | head hk => rw [hb] at hk; cases hk
def RoundTo (P : Program) (l : Nat) (f : FuncId) (tmps : Array Value) (asg body : Code) (w : World) (R : Value → World → Prop) : Prop :=
 ∀ c cs, ∃ y w', R y w' ∧ Steps P (lone (Frame.round l f tmps asg body .normal) (c :: cs) w) (lone (c.finish y) cs w')
theorem putArgs_TR {n : Nat} : ∀ (ps : List Tmp) {l : List V} {t t' : Tr V} {tmps : Array Value} {vs : List Value}, putArgs n ps l t = some t' → TR σ t n tmps → VRs σ l vs →
 vs.length = ps.length ∧ TR σ t' n ((ps.zip vs).foldl (fun tmps (x : Tmp × Value) => tmps.setIfInBounds x.1 x.2) tmps)
 | [], [], t, t', tmps, vs, h, ht, hv => by cases hv; simp only [putArgs, Option.some.injEq] at h; subst h; exact ⟨rfl, ht⟩
 | [], _ :: _, _, _, _, _, h, _, _ => by cases h
 | _ :: _, [], _, _, _, _, h, _, _ => by cases h
 | k :: ps, v :: l, t, t', tmps, vs, h, ht, hv => by
  cases hv with
  | cons h1 h2 =>
   rename_i y ys
   simp only [putArgs] at h
   split at h
   ·rename_i hk
    have hk : k < n := by simpa using hk
    have ht' : TR σ (t.put k v) n (tmps.setIfInBounds k y) := by
     refine ⟨by simpa using ht.1, fun i u hi => ?_⟩
     rw [Tr.find_put] at hi
     split at hi
     ·rename_i e; subst e; cases hi; exact ⟨y, by simp [ht.1, hk], h1⟩
     ·rename_i e
      obtain ⟨z, z1, z2⟩ := ht.2 i u hi
      exact ⟨z, by rw [Array.getElem?_setIfInBounds_ne (fun e' => e e'.symm)]; exact z1, z2⟩
    obtain ⟨r1, r2⟩ := putArgs_TR ps h ht' h2
    exact ⟨by simp [r1], r2⟩
   ·cases h
theorem Rel.loopAt [Glob] (h : Rel none2 base w₀ σ S w) {id b p e : Nat} {r0 : LoopState × Option Code × Tr V × Nat × Array Tmp × Code × Code} (hid : loopE S id = some r0) (hρ : σ.ρ id = some (b, p, e)) :
 ∃ r : Loop, w.heap[b]? = some (.loop r) ∧ r.state = r0.1 ∧ r.pending = r0.2.1 ∧ TR σ r0.2.2.1 r0.2.2.2.1 r.tmps ∧ r.params = r0.2.2.2.2.1 ∧ r.assign = r0.2.2.2.2.2.1 ∧ r.body = r0.2.2.2.2.2.2 := by
 unfold loopE at hid
 split at hid
 ·rename_i st pend t n ps asg body hf
  cases hid
  obtain ⟨b', e', ob, h1, h2, h3, h4, h5⟩ := h.ob id _ hf
  rw [hρ] at h1; cases h1
  cases ob <;> first | exact h4.elim | skip
  exact ⟨_, h3, h4⟩
 ·cases hid
theorem Rel.setLoop [Glob] (h : Rel none2 base w₀ σ S w) {id b p e : Nat} {r0 : LoopState × Option Code × Tr V × Nat × Array Tmp × Code × Code} (hid : loopE S id = some r0) (hρ : σ.ρ id = some (b, p, e)) {r : Loop} (hr : w.heap[b]? = some (.loop r))
 (st : LoopState) (pend : Option Code) :
 Rel none2 base w₀ σ (Ev.setLoop S id st pend r0) (w.putObj b (.loop { r with state := st, pending := pend })) ∧ Stp σ S w σ (Ev.setLoop S id st pend r0) (w.putObj b (.loop { r with state := st, pending := pend })) := by
 obtain ⟨r', h1, h2⟩ := h.loopAt hid hρ
 rw [hr] at h1; cases h1
 unfold loopE at hid
 split at hid
 ·rename_i st' pend' t n ps asg body hf
  cases hid
  exact h.setOth hf hρ (x' := .loop st pend t n ps asg body) (ob' := .loop { r with state := st, pending := pend }) ⟨rfl, rfl, h2.2.2.1, h2.2.2.2.1, h2.2.2.2.2.1, h2.2.2.2.2.2⟩
 ·cases hid
theorem setLoop_le {S : St} {id : Nat} {r0 : LoopState × Option Code × Tr V × Nat × Array Tmp × Code × Code} (hid : loopE S id = some r0) (st : LoopState) (pend : Option Code) : StLe S (Ev.setLoop S id st pend r0) := by
 unfold loopE at hid
 split at hid
 ·rename_i h; exact StLe.put h _
 ·cases hid
theorem roundE_le {rec : Rec} (hl : LeOk rec) {id : Nat} {l : List V} {v : V} (h : roundE rec id l S = some (v, S')) : StLe S S' := by
 unfold roundE at h
 split at h
 ·cases h
 ·split at h
  ·cases h
  ·split at h
   ·rename_i h1
    split at h
    ·cases h
    ·rename_i h2
     split at h
     ·split at h
      ·rename_i h3
       split at h
       ·rename_i h4 _
        cases h
        exact ((hl _ _ _ h1).trans (setLoop_le h2 _ _)).trans ((hl _ _ _ h3).trans (setLoop_le h4 _ _))
       ·cases h
      ·cases h
     ·cases h
   ·cases h
theorem roundE_sound [Glob] {rec : Rec} (hrec : CallOk P rec) (h : Rel none2 base w₀ σ S w) {id : Nat} {l : List V} {v : V} (ha : roundE rec id l S = some (v, S')) (hf : Free σ S.next S'.next) {bl p e : Nat} (hρ : σ.ρ id = some (bl, p, e))
 {vs : List Value} (hl : VRs σ l vs) :
 ∃ r : Loop, w.heap[bl]? = some (.loop r) ∧ vs.length = r.params.size ∧
  RoundTo P bl r.fn ((r.params.zip vs.toArray).foldl (fun tmps (t, a) => tmps.setIfInBounds t a) r.tmps) r.assign r.body w fun y w' => ∃ σ', VR σ' v y ∧ Rel none2 base w₀ σ' S' w' ∧ Stp σ S w σ' S' w' := by
 unfold roundE at ha
 split at ha
 ·cases ha
 ·rename_i r0 hid
  obtain ⟨r, hr, q1, q2, q3, q4, q5, q6⟩ := h.loopAt hid hρ
  split at ha
  ·cases ha
  ·rename_i t hput
   split at ha
   ·rename_i fr1 S1 h1
    split at ha
    ·cases ha
    ·rename_i r1 hid1
     split at ha
     ·rename_i hrdy
      split at ha
      ·rename_i x fr2 S2 h2
       split at ha
       ·rename_i r2 j hid2 hj
        simp only [Option.some.injEq, Prod.mk.injEq] at ha
        obtain ⟨rfl, rfl⟩ := ha
        obtain ⟨p1, p2⟩ := putArgs_TR _ hput q3 hl
        refine ⟨r, hr, by rw [p1, q4]; simp, fun c cs => ?_⟩
        have htm : (r.params.zip vs.toArray).foldl (fun tmps (x : Tmp × Value) => tmps.setIfInBounds x.1 x.2) r.tmps = (r0.2.2.2.2.1.toList.zip vs).foldl (fun tmps (x : Tmp × Value) => tmps.setIfInBounds x.1 x.2) r.tmps := by
         rw [← Array.foldl_toList, Array.toList_zip, q4]
        have htm' : (r.params.zip vs.toArray).foldl (fun tmps (t, a) => tmps.setIfInBounds t a) r.tmps = (r0.2.2.2.2.1.toList.zip vs).foldl (fun tmps (x : Tmp × Value) => tmps.setIfInBounds x.1 x.2) r.tmps := htm
        let b : Frame := { (default : Frame) with fn := r.fn, kind := .normal, roundOf := some bl }
        have hb0 : ∀ tm, Frame.round bl r.fn tm r.assign r.body .normal = b.atR { tmps := tm, defers := [] } [.code r.assign, .beginRound, .code r.body] := fun tm => by
         simp [Frame.round, Frame.atR, b]
        rw [htm', hb0]
        have n1 : S1.next ≤ S2.next := (hrec.le _ _ _ h2).next
        have hf2 : Free σ S.next S2.next := hf
        have hf1 : Free σ S.next S1.next := hf2.mono (Nat.le_refl _) n1
        obtain ⟨x', fr1', S1', he, hrun⟩ := hrec.code.at h1
        cases he
        obtain ⟨e1, a1, cs1, w1, σ1, z0, z1, z2, z3, z4, z5, z6⟩ := hrun base w₀ σ w ⟨_, []⟩ b (c :: cs) [.beginRound, .code r.body] h ⟨p2.1, p2.2, .nil⟩ ⟨rfl, bl, rfl⟩ trivial hf1
        have hcs := z3.normal rfl
        subst hcs
        cases z0
        have hρ1 := z5.le.ρ _ _ hρ
        obtain ⟨rr, hr1, s1, s2, s3, s4, s5, s6⟩ := z4.loopAt hid1 hρ1
        have hst : rr.state = .ready := by
         rw [s1]
         cases hq : r1.1 <;> rw [hq] at hrdy <;> first | rfl | cases hrdy
        have hbeg := run_beginRound (P := P) hr1 hst
        obtain ⟨u1, u2⟩ := z4.setLoop hid1 hρ1 hr1 .busy r1.2.1
        have hbusy : ({ rr with state := .busy } : Loop) = { rr with state := .busy, pending := r1.2.1 } := by rw [← s2]
        rw [hbusy] at hbeg
        have k1 : Steps P (lone (b.atR { tmps := (r0.2.2.2.2.1.toList.zip vs).foldl (fun tmps (x : Tmp × Value) => tmps.setIfInBounds x.1 x.2) r.tmps, defers := [] } [.code r.assign, .beginRound, .code r.body]) (c :: cs) w)
         (lone (b.atR a1 [.code r.body]) (c :: cs) (w1.putObj bl (.loop { rr with state := .busy, pending := r1.2.1 }))) := by
         have z6' : Steps P _ (lone (b.atR a1 [.beginRound, .code r.body]) (c :: cs) w1) := z6
         rw [← q5] at z6'
         exact Steps.trans z6' (.one (stepR_beginRound rfl hbeg))
        obtain ⟨x'', fr2', S2', he, hrun2⟩ := hrec.code.at h2
        cases he
        obtain ⟨e2, a2, cs2, w2, σ2, y0, y1, y2, y3, y4, y5, y6⟩ := hrun2 base w₀ σ1 _ a1 b (c :: cs) [] u1 z1 z2 trivial (z5.free hf2)
        have hcs2 := y3.normal rfl
        subst hcs2
        rw [← q6] at y6
        have hρ2 := y5.le.ρ _ _ hρ1
        obtain ⟨r3, hr3, t1, t2, t3, t4, t5, t6⟩ := y4.loopAt hid2 hρ2
        obtain ⟨v1, v2⟩ := y4.setLoop hid2 hρ2 hr3 (if j.isNone then .ready else .done) j
        have hend := run_endRound (P := P) j hr3
        have hstp : Stp σ S w σ2 (Ev.setLoop S2 id (if j.isNone then .ready else .done) j r2) (w2.putObj bl (.loop { r3 with state := if j.isNone then .ready else .done, pending := j })) :=
         (((z5.trans u2 hf1).trans y5 hf2).trans v2 hf2)
        refine ⟨.bool j.isNone, _, ⟨σ2, .bool _, v1, hstp⟩, Steps.trans k1 ?_⟩
        cases y0 with
        | normal =>
         cases hj
         have y6' : Steps P _ (lone (b.atR a2 []) (c :: cs) w2) := y6
         exact Steps.trans y6' (.one (stepR_round_end rfl rfl hend))
        | exit m =>
         cases hj
         obtain ⟨k2, hk2, y6'⟩ := y6
         exact Steps.trans y6' (.one (stepR_round_exit rfl rfl (by rw [hk2]; rfl) hend))
        | ret =>
         cases hj
         obtain ⟨k2, y6'⟩ := y6
         exact Steps.trans y6' (.one (stepR_round_ret rfl rfl hend))
        | panic hv => cases hj
        | goto l =>
         cases hj
         obtain ⟨k2, hk2, y6'⟩ := y6
         exact Steps.trans y6' (.one (stepR_round_goto rfl rfl (by rw [hk2]; rfl) hend))
       ·cases ha
      ·cases ha
     ·cases ha
   ·cases ha
theorem idxB_first (c : UInt8) : ∀ (l : List UInt8) (i : Nat), idxB c l i = (match (List.range l.length).find? fun j => l[j]! == c with | some j => ((i + j : Nat) : Int) | none => -1)
 | [], i => rfl
 | x :: l, i => by
  simp only [idxB]
  rw [List.length_cons, List.range_succ_eq_map, List.find?_cons]
  by_cases hx : x = c
  ·simp [hx]
  ·rw [if_neg hx, idxB_first c l (i + 1), List.find?_map]
   have h0 : ((x :: l)[0]! == c) = false := by simp [hx]
   rw [h0]
   have hf : ((fun j => (x :: l)[j]! == c) ∘ Nat.succ) = fun j => l[j]! == c := by
    funext j; simp
   simp only [hf]
   cases (List.range l.length).find? fun j => l[j]! == c with
   | none => rfl
   | some j => show ((i + 1 + j : Nat) : Int) = ((i + (j + 1) : Nat) : Int); congr 1; omega
theorem firstIdx_idxB (s : ByteArray) (c : UInt8) : firstIdx s c = idxB c s.data.toList 0 := by
 rw [idxB_first]
 unfold firstIdx
 have hs : s.size = s.data.toList.length := Array.length_toList.symm
 have hg : ∀ i, s[i]! = s.data.toList[i]! := fun i => by
  cases s with
  | mk d =>
   by_cases hi : i < d.size
   ·have h1 : i < (ByteArray.mk d).size := hi
    have h2 : i < d.toList.length := by simpa using hi
    rw [getElem!_pos (ByteArray.mk d) i h1, getElem!_pos d.toList i h2]
    show d[i] = _
    simp
   ·have h1 : ¬ i < (ByteArray.mk d).size := hi
    have h2 : ¬ i < d.toList.length := by simpa using hi
    rw [getElem!_neg (ByteArray.mk d) i h1, getElem!_neg d.toList i h2]
 rw [hs]
 simp only [hg]
 cases (List.range s.data.toList.length).find? fun j => s.data.toList[j]! == c <;> simp
theorem digits_size : ∀ (n t : Nat) (acc : Array Value), (Extern.BytealgMakeNoZero.digits n t acc).size = acc.size + n
 | 0, _, acc => rfl
 | n + 1, t, acc => by simp only [Extern.BytealgMakeNoZero.digits]; rw [digits_size]; simp; omega
theorem makeNoZero_run {ps rs : Array TypeId} {t e : TypeId} {n : Int} (hr : rs[0]? = some t) (ht : P.underlying t = some (.slice e)) (h0 : 0 ≤ n) (h1 : n ≤ 1099511627776) :
 ∃ (cs : List Value) (w1 : World), (Extern.BytealgMakeNoZero.makeNoZero ps rs #[.int .i64 n]).run P w = .ok (.slice (some ⟨w.heap.size, 0, none⟩) n.toNat cs.length) (w1.alloc (.cells cs.toArray e)) ∧ n.toNat ≤ cs.length ∧
  w1.heap = w.heap ∧ w1.os = w.os ∧ w1.tape = w.tape ∧ w1.output = w.output := by
 have hc : n.toNat ≤ (Question.appendCap n.toNat 0 e).cut (w.tape w.drawn (.appendCap n.toNat 0 e)) := by simp only [Question.cut]; omega
 generalize hcap : (Question.appendCap n.toNat 0 e).cut (w.tape w.drawn (.appendCap n.toNat 0 e)) = cap at hc
 generalize htp : (Question.extern "internal/bytealg.MakeNoZero.bytes" 0).cut (w.drew.tape w.drew.drawn (.extern "internal/bytealg.MakeNoZero.bytes" 0)) = bts
 refine ⟨(Extern.BytealgMakeNoZero.digits cap bts #[]).toList, w.drew.drew, ?_, by simpa [digits_size] using hc, rfl, rfl, rfl, rfl⟩
 have hb' : (decide (n < 0) || decide (n > 2 ^ 48)) = false := by simp; omega
 have hlen : (Extern.BytealgMakeNoZero.digits cap bts #[]).toList.length = cap := by simp [digits_size]
 rw [hlen]
 have hroom : ∀ b (w : World), (askRoom b).run P w = .ok () w := fun b w => by unfold askRoom; split <;> simp [mark, Sem.run]
 have hch1 : (choose (.appendCap n.toNat 0 e)).run P w = .ok cap w.drew := by rw [← hcap]; simp [choose, Sem.run, Question.forced]
 have hch2 : (choose (.extern "internal/bytealg.MakeNoZero.bytes" 0)).run P w.drew = .ok bts w.drew.drew := by rw [← htp]; simp [choose, Sem.run, Question.forced]; rfl
 change Sem.run P (do
  let some t := rs[0]? | stuck "bytealg.MakeNoZero: no result type"
  let .slice elem ← underlying t | stuck "bytealg.MakeNoZero: slice type expected"
  if n < 0 || n > 2 ^ 48 then runtimePanic (.error "makeslice: len out of range")
  let cap ← choose (.appendCap n.toNat 0 elem)
  askRoom cap
  let bytes ← choose (.extern "internal/bytealg.MakeNoZero.bytes" 0)
  let a ← newRow elem (Extern.BytealgMakeNoZero.digits cap bytes #[])
  pure (Value.slice (some a) n.toNat cap) : Sem Value) w = _
 simp only [hr, Sem.run_bind, run_underlying ht, Result.andThen_ok, hb', Bool.false_eq_true, if_false, Sem.run_pure, hch1, hroom, hch2]
 simp [newRow]
theorem extE_sound [Glob] (hG : Good P) (h : Rel none2 base w₀ σ S w) {f : FuncId} {fn : Func} (hf : P.funcs[f]? = some fn) (hb : fn.body = none) {l : List V} {v : V} (he : extE P fn l S = some (v, S')) (hfr : Free σ S.next S'.next) {vs : List Value} (hl : VRs σ l vs) :
 ∃ r w' σ', (callFunc f vs.toArray).run P w = .ok (.value r) w' ∧ VR σ' v r ∧ Rel none2 base w₀ σ' S' w' ∧ Stp σ S w σ' S' w' := by
 unfold extE at he
 split at he
 ·rename_i hname
  split at he
  ·simp only [Option.some.injEq, Prod.mk.injEq] at he
   obtain ⟨rfl, rfl⟩ := he
   obtain ⟨x1, x2⟩ := hG.esc f fn hf hb hname
   cases hl with
   | cons hv hn =>
    cases hn
    rename_i y
    refine ⟨y, w, σ, ?_, hv, h, Stp.refl _ _ _⟩
    rw [run_callFunc_extern hf (by rw [hname]; decide) (by rw [hb]; rfl) x1 x2]
    rfl
  ·cases he
 ·split at he
  ·rename_i hname
   split at he
   ·simp only [Option.some.injEq, Prod.mk.injEq] at he
    obtain ⟨rfl, rfl⟩ := he
    obtain ⟨x1, x2⟩ := hG.idx f fn hf hb hname
    cases hl with
    | cons hv hn =>
     cases hn with
     | cons hc hn =>
      cases hn; cases hc
      cases hv with
      | str b hbs =>
       refine ⟨_, w, σ, ?_, .int .i64 _, h, Stp.refl _ _ _⟩
       rw [run_callFunc_extern hf (by rw [hname]; decide) (by rw [hb]; rfl) x1 x2, run_indexByte_string, firstIdx_idxB, hbs]
       rfl
   ·cases he
  ·split at he
   ·rename_i hname
    split at he
    ·rename_i n t hr
     split at he
     ·rename_i e het
      have ht := elemT_some het
      split at he
      ·rename_i hcond
       simp only [Bool.and_eq_true, decide_eq_true_eq] at hcond
       simp only [Option.some.injEq, Prod.mk.injEq] at he
       obtain ⟨rfl, rfl⟩ := he
       obtain ⟨x1, x2⟩ := hG.mnz f fn hf hb hname
       cases hl with
       | cons hv hn =>
        cases hn; cases hv
        obtain ⟨cs, w1, e1, e2, e5, e6, e7, e8⟩ := makeNoZero_run (P := P) (w := w) (ps := fn.params) hr ht hcond.1 hcond.2
        have hd := h.drew e5 e6 e7 e8
        have hs1 := Stp.drew σ S w w1 e5
        obtain ⟨r1, r2⟩ := hd.newTok (hfr S.next (Nat.le_refl _) (by simp [St.new])) e [] cs
        simp only [List.nil_append, List.length_nil, Nat.zero_add] at r1 r2
        have hsz : w1.heap.size = w.heap.size := by rw [e5]
        refine ⟨.slice (some ⟨w1.heap.size, 0, none⟩) n.toNat cs.length, _, _, ?_, ?_, r1, hs1.trans r2 hfr⟩
        ·rw [run_callFunc_extern hf (by rw [hname]; decide) (by rw [hb]; rfl) x1 x2, e1, hsz]
         rfl
        ·exact .raw (by simp [Sg.addK]) (by simp [Sg.addK, Sg.addT]) e2
      ·cases he
     ·cases he
    ·cases he
   ·cases he
theorem actE_sound [Glob] (hG : Good P) {rec : Rec} (hrec : CallOk P rec) (h : Rel none2 base w₀ σ S w) {o : Oper} {ev : Operand → Option V} {ρ : Operand → Value} {pan : Pan} (hev : ∀ x u, ev x = some u → VR σ u (ρ x)) {ac : Ac} (ha : actE rec P o.op ev pan S = some ac) :
 (∀ v S', ac = .val v S' → Free σ S.next S'.next →
  (∃ r w' σ', ((execOp ρ o).run P w = .ok (.value r) w' ∨ ((execOp ρ o).run P w = .ok .skip w' ∧ r = undef) ∨
   ((execOp ρ o).run P w = .ok .recover w' ∧ (match pan with | .live _ => False | .rnd => False | _ => True) ∧ r = .nilIface)) ∧ VR σ' v r ∧ Rel none2 base w₀ σ' S' w' ∧ Stp σ S w σ' S' w') ∨
  (∃ g args w', (execOp ρ o).run P w = .ok (.enter g args) w' ∧ Calls P g args w' fun e w'' => ∃ y σ', e = .returned y ∧ VR σ' v y ∧ Rel none2 base w₀ σ' S' w'' ∧ Stp σ S w σ' S' w'') ∨
  (∃ l f tmps asg body, (execOp ρ o).run P w = .ok (.round l f tmps asg body) w ∧ RoundTo P l f tmps asg body w fun y w'' => ∃ σ', VR σ' v y ∧ Rel none2 base w₀ σ' S' w'' ∧ Stp σ S w σ' S' w'')) ∧
 (∀ v S', ac = .pan v S' → Free σ S.next S'.next →
  (∃ y w' σ', (execOp ρ o).run P w = .halt (.panic y) w' ∧ VR σ' v y ∧ Rel none2 base w₀ σ' S' w' ∧ Stp σ S w σ' S' w') ∨
  (∃ g args w', (execOp ρ o).run P w = .ok (.enter g args) w' ∧ Calls P g args w' fun e w'' => ∃ y σ', e = .panicked [{ v := y, recovered := false }] ∧ VR σ' v y ∧ Rel none2 base w₀ σ' S' w'' ∧ Stp σ S w σ' S' w'')) ∧
 (∀ f l, ac = .dfr (f, l) → ∃ d caps, (execOp ρ o).run P w = .ok (.defer d) w ∧ d.target = .fn (.func f) caps ∧ VRs σ l (d.args ++ caps).toList) ∧
 (∀ p v, ac = .rcv p v → pan = .live v ∧ p = .done v ∧ (execOp ρ o).run P w = .ok .recover w) := by
 obtain ⟨dst, op, type, pos, after, guard⟩ := o
 simp only at ha
 have plain : ∀ v S', opE P op ev S = some (v, S') → Free σ S.next S'.next → ∃ r w' σ', ((execOp ρ ⟨dst, op, type, pos, after, guard⟩).run P w = .ok (.value r) w' ∨ ((execOp ρ ⟨dst, op, type, pos, after, guard⟩).run P w = .ok .skip w' ∧ r = undef) ∨
  ((execOp ρ ⟨dst, op, type, pos, after, guard⟩).run P w = .ok .recover w' ∧ (match pan with | .live _ => False | .rnd => False | _ => True) ∧ r = .nilIface)) ∧ VR σ' v r ∧ Rel none2 base w₀ σ' S' w' ∧ Stp σ S w σ' S' w' := by
  intro v S' h1 h2
  obtain ⟨r, w', σ', e1, e2⟩ := opE_sound (o := ⟨dst, op, type, pos, after, guard⟩) h h1 h2 hev
  refine ⟨r, w', σ', ?_, e2⟩
  rcases e1 with e1 | e1
  ·exact .inl e1
  ·exact .inr (.inl e1)
 unfold actE at ha
 split at ha
 ·-- a call
  rename_i f args ats
  split at ha
  ·-- a round
   rename_i id hy
   split at ha
   ·cases ha
   ·rename_i l hl
    split at ha
    ·rename_i v S1 hr
     cases ha
     refine ⟨fun v' S'' e hfr => ?_, fun v S' e => by (cases e), fun f l e => by (cases e), fun p v e => by (cases e)⟩
     cases e
     have hfy : ev f = some (.yld id) := by
      unfold isYld at hy
      split at hy
      ·rename_i h1; cases hy; exact h1
      ·cases hy
     have := hev _ _ hfy
     cases hq : ρ f <;> rw [hq] at this <;> cases this
     rename_i bl p e hρ
     obtain ⟨r, h1, h2, h3⟩ := roundE_sound hrec h hr hfr hρ (mapO_VRs hev hl)
     have harr : (args.toList.map ρ).toArray = args.map ρ := by apply Array.ext'; simp
     rw [harr] at h3
     refine .inr (.inr ⟨bl, r.fn, _, _, _, ?_, h3⟩)
     have hsz : (args.map ρ).size = r.params.size := by rw [← h2]; simp
     have hy := run_yield (P := P) h1 hsz
     simp only [execOp, resolve, hq, Deferred.ofValue, Sem.run_bind, Sem.run_pure, Result.andThen_ok, invoke]
     simpa using hy
    ·cases ha
  ·rename_i hy
   split at ha
   ·cases ha
   ·rename_i g l hc
    obtain ⟨first, caps, hf, hl⟩ := calleeE_sound hev hc
    have hexec : (execOp ρ ⟨dst, .call { callee := .value f, args, argTypes := ats }, type, pos, after, guard⟩).run P w = (callFunc g (first ++ args.map ρ ++ caps)).run P w := by
     simp only [execOp, resolve, hf, Deferred.ofValue, Sem.run_bind, Sem.run_pure, Result.andThen_ok, invoke]
    split at ha
    ·cases ha
    ·rename_i fn hfn
     split at ha
     ·rename_i body hb
      have hnm := hG.nm g fn hfn (by rw [hb]; rfl)
      have henter : (callFunc g (first ++ args.map ρ ++ caps)).run P w = .ok (.enter g (first ++ args.map ρ ++ caps)) w := by
       simp [callFunc, hfn, hnm, hb]
      have harr : (first ++ args.map ρ ++ caps).toList.toArray = first ++ args.map ρ ++ caps := by simp
      split at ha
      ·rename_i v S' hr
       cases ha
       refine ⟨fun v' S'' e hfr => ?_, fun v S' e => by (cases e), fun f l e => by (cases e), fun p v e => by (cases e)⟩
       cases e
       have := (hrec.call g l S _ hr).1 _ _ rfl base w₀ σ w _ h hfr hl
       rw [harr] at this
       exact .inr (.inl ⟨g, _, w, by rw [hexec, henter], this⟩)
      ·rename_i v S' hr
       cases ha
       refine ⟨fun v S' e => by (cases e), fun v' S'' e hfr => ?_, fun f l e => by (cases e), fun p v e => by (cases e)⟩
       cases e
       have := (hrec.call g l S _ hr).2 _ _ rfl base w₀ σ w _ h hfr hl
       rw [harr] at this
       exact .inr ⟨g, _, w, by rw [hexec, henter], this⟩
      ·cases ha
     ·rename_i hb
      split at ha
      ·rename_i v S1 hx
       cases ha
       refine ⟨fun v' S'' e hfr => ?_, fun v S' e => by (cases e), fun f l e => by (cases e), fun p v e => by (cases e)⟩
       cases e
       obtain ⟨r, w', σ', y1, y2, y3, y4⟩ := extE_sound hG h hfn hb hx hfr hl
       have harr : (first ++ args.map ρ ++ caps).toList.toArray = first ++ args.map ρ ++ caps := by simp
       rw [harr] at y1
       exact .inl ⟨r, w', σ', .inl (by rw [hexec]; exact y1), y2, y3, y4⟩
      ·cases ha
 ·-- recover
  rename_i args ats
  have hexec : (execOp ρ ⟨dst, .call { callee := .builtin .recover, args, argTypes := ats }, type, pos, after, guard⟩).run P w = .ok .recover w := by
   simp [execOp, resolve, invoke, builtin]
  split at ha
  ·cases ha
   refine ⟨fun v S' e _ => ?_, fun v S' e => by (cases e), fun f l e => by (cases e), fun p v e => by (cases e)⟩
   cases e
   exact .inl ⟨.nilIface, w, σ, .inr (.inr ⟨hexec, trivial, rfl⟩), .nili, h, Stp.refl _ _ _⟩
  ·cases ha
   refine ⟨fun v S' e _ => ?_, fun v S' e => by (cases e), fun f l e => by (cases e), fun p v e => by (cases e)⟩
   cases e
   exact .inl ⟨.nilIface, w, σ, .inr (.inr ⟨hexec, trivial, rfl⟩), .nili, h, Stp.refl _ _ _⟩
  ·cases ha
   refine ⟨fun v S' e _ => ?_, fun v S' e => by (cases e), fun f l e => by (cases e), fun p v e => by (cases e)⟩
   cases e
   exact .inl ⟨.nilIface, w, σ, .inr (.inr ⟨hexec, trivial, rfl⟩), .nili, h, Stp.refl _ _ _⟩
  ·cases ha
   refine ⟨fun v S' e => by (cases e), fun v S' e => by (cases e), fun f l e => by (cases e), fun p v e => ?_⟩
   cases e
   exact ⟨rfl, rfl, hexec⟩
  ·cases ha
 ·-- defer
  rename_i f args ats
  split at ha
  ·cases ha
  ·cases ha
  ·rename_i g l hnr hc
   cases ha
   obtain ⟨first, caps, hf, hl⟩ := calleeE_sound hev hc
   refine ⟨fun v S' e => by (cases e), fun v S' e => by (cases e), fun f' l' e => ?_, fun p v e => by (cases e)⟩
   cases e
   refine ⟨{ target := .fn (.func g) caps, args := first ++ args.map ρ }, caps, ?_, rfl, hl⟩
   simp only [execOp, resolve, hf, Deferred.ofValue, Sem.run_bind, Sem.run_pure, Result.andThen_ok]
 ·-- panic
  rename_i x
  split at ha
  ·rename_i t v hx
   cases ha
   refine ⟨fun v S' e => by (cases e), fun v' S' e _ => ?_, fun f l e => by (cases e), fun p v e => by (cases e)⟩
   cases e
   have := hev _ _ hx
   cases hq : ρ x <;> rw [hq] at this <;> cases this
   rename_i y hy
   refine .inl ⟨.iface t y, w, σ, ?_, .iface t hy, h, Stp.refl _ _ _⟩
   simp [execOp, hq, Instr.panic]
  ·cases ha
 ·split at ha
  ·rename_i v S' ho
   cases ha
   refine ⟨fun v' S'' e hfr => ?_, fun v S' e => by (cases e), fun f l e => by (cases e), fun p v e => by (cases e)⟩
   cases e
   exact .inl (plain _ _ ho hfr)
  ·cases ha
end
end Go.Ev
namespace Go.Ev
section
variable {P : Program} {S S' : St}
theorem storeE_le {t : TypeId} {p v : V} (h : storeE P t p v S = some S') : StLe S S' := by
 unfold storeE at h
 repeat' split at h
 all_goals try (exfalso; cases h; done)
 cases h
 rename_i h1 _ _ _ _ _ _
 exact StLe.put (by assumption) _
theorem appendE_le {t u : TypeId} {x y v : V} (h : appendE P t u x y S = some (v, S')) : StLe S S' := by
 unfold appendE at h
 repeat' split at h
 all_goals try (exfalso; cases h; done)
 all_goals first
  | (simp only [Option.some.injEq, Prod.mk.injEq] at h; obtain ⟨rfl, rfl⟩ := h; first | exact .refl _ | exact .new _ _ | exact (StLe.del S _).trans (.new _ _))
theorem copyE_le {t : TypeId} {x y v : V} (h : copyE P t x y S = some (v, S')) : StLe S S' := by
 unfold copyE at h
 split at h
 ·split at h
  ·split at h
   ·cases h
   ·cases h; exact .refl _
  ·cases h
 ·split at h
  ·split at h
   ·cases h
   ·simp only at h
    split at h
    ·split at h
     ·split at h
      ·simp only [Option.some.injEq, Prod.mk.injEq] at h
       obtain ⟨rfl, rfl⟩ := h
       exact StLe.put (by assumption) _
      ·cases h
     ·cases h
    ·cases h
  ·cases h
 ·cases h
theorem convertE_le {s d : TypeId} {x v : V} (h : convertE P s d x S = some (v, S')) : S' = S := by
 unfold convertE at h
 repeat' split at h
 all_goals try (exfalso; cases h; done)
 all_goals first
  | (simp only [Option.some.injEq, Prod.mk.injEq] at h; exact h.2.symm)
  | (simp only [Option.map_eq_some_iff, Prod.mk.injEq] at h; obtain ⟨_, _, _, h⟩ := h; exact h.symm)
theorem makeSliceE_le {t : TypeId} {l c v : V} (h : makeSliceE P t l c S = some (v, S')) : StLe S S' := by
 unfold makeSliceE at h
 repeat' split at h
 all_goals try (exfalso; cases h; done)
 all_goals
  simp only [Option.some.injEq, Prod.mk.injEq] at h; obtain ⟨rfl, rfl⟩ := h; first | exact .refl _ | exact .new _ _
theorem unsafeStrE_le {t : TypeId} {x n v : V} (h : unsafeStrE P t x n S = some (v, S')) : S' = S := by
 unfold unsafeStrE at h
 repeat' split at h
 all_goals try (exfalso; cases h; done)
 all_goals first
  | (simp only [Option.some.injEq, Prod.mk.injEq] at h; exact h.2.symm)
  | (simp only [Option.map_eq_some_iff, Prod.mk.injEq] at h; obtain ⟨_, _, _, h⟩ := h; exact h.symm)
theorem map_st {x : Option V} {f : V → V} {v : V} (h : x.map (fun u => (f u, S)) = some (v, S')) : S' = S := by
 simp only [Option.map_eq_some_iff, Prod.mk.injEq] at h
 obtain ⟨_, _, _, h⟩ := h
 exact h.symm
theorem updateE_le {t : TypeId} {x k v : V} (h : updateE P t x k v S = some S') : StLe S S' := by
 unfold updateE at h
 repeat' split at h
 all_goals try (exfalso; cases h; done)
 all_goals (cases h; exact StLe.put (by assumption) _)
theorem deleteE_le {t : TypeId} {x k : V} (h : deleteE P t x k S = some S') : StLe S S' := by
 unfold deleteE at h
 repeat' split at h
 all_goals try (exfalso; cases h; done)
 all_goals (cases h; exact StLe.put (by assumption) _)
theorem clearE_le {t : TypeId} {x : V} (h : clearE P t x S = some S') : StLe S S' := by
 unfold clearE at h
 repeat' split at h
 all_goals try (exfalso; cases h; done)
 all_goals (cases h; exact StLe.put (by assumption) _)
theorem rangeE_le {t : TypeId} {x v : V} (h : rangeE P t x S = some (v, S')) : StLe S S' := by
 unfold rangeE at h
 split at h
 ·cases h; exact .new _ _
 ·cases h
theorem nextE_le {x v : V} {b : Bool} (h : nextE x b S = some (v, S')) : StLe S S' := by
 unfold nextE at h
 split at h
 ·split at h
  ·split at h
   ·cases h; exact StLe.put (by assumption) _
   ·cases h; exact .refl _
  ·cases h
 ·cases h
theorem builtinE_le {b : Builtin} {ts : List TypeId} {args : List V} {v : V} (h : builtinE P b ts args S = some (v, S')) : StLe S S' := by
 unfold builtinE at h
 repeat' split at h
 all_goals try (exfalso; cases h; done)
 all_goals first
  | exact appendE_le h
  | exact copyE_le h
  | (rw [unsafeStrE_le h]; exact .refl _)
  | (rw [map_st (f := fun v => v) h]; exact .refl _)
  | (cases h; exact .refl _)
  | (simp only [Option.map_eq_some_iff, Prod.mk.injEq] at h; obtain ⟨_, h1, _, h⟩ := h; subst h; first | exact deleteE_le h1 | exact clearE_le h1)
theorem opE_le {op : Op} {ev : Operand → Option V} {v : V} (h : opE P op ev S = some (v, S')) : StLe S S' := by
 unfold opE at h
 repeat' split at h
 all_goals try (exfalso; cases h; done)
 all_goals first
  | (rw [map_st (f := fun v => v) h]; exact .refl _)
  | (simp only [Option.map_eq_some_iff, Prod.mk.injEq] at h; obtain ⟨_, _, _, h⟩ := h; subst h; first | exact .refl _ | exact .new _ _)
  | (simp only [Option.map_eq_some_iff, Prod.mk.injEq] at h; obtain ⟨_, h1, _, h⟩ := h; subst h; first | exact storeE_le h1 | exact updateE_le h1)
  | exact rangeE_le h
  | exact nextE_le h
  | (cases h; exact .new _ _)
  | (rw [convertE_le h]; exact .refl _)
  | exact makeSliceE_le h
  | exact builtinE_le h
  | (cases h; exact .refl _)
def Ac.le (S : St) : Ac → Prop
 | .val _ S' | .pan _ S' => StLe S S'
 | _ => True
theorem extE_le {fn : Func} {l : List V} {v : V} (h : extE P fn l S = some (v, S')) : StLe S S' := by
 unfold extE at h
 repeat' split at h
 all_goals try (exfalso; cases h; done)
 all_goals (cases h; first | exact .refl _ | exact .new _ _)
theorem actE_le {rec : Rec} (hl : LeOk rec) {op : Op} {ev : Operand → Option V} {pan : Pan} {ac : Ac} (h : actE rec P op ev pan S = some ac) : ac.le S := by
 unfold actE at h
 split at h
 ·split at h
  ·split at h
   ·cases h
   ·split at h
    ·rename_i hr; cases h; exact roundE_le hl hr
    ·cases h
  ·split at h
   ·cases h
   ·split at h
    ·cases h
    ·split at h
     ·split at h
      ·rename_i hr; cases h; exact hl _ _ _ hr
      ·rename_i hr; cases h; exact hl _ _ _ hr
      ·cases h
     ·split at h
      ·rename_i hx; cases h; exact extE_le hx
      ·cases h
 ·split at h <;> cases h <;> first | exact StLe.refl _ | trivial
 ·split at h
  ·cases h
  ·cases h
  ·cases h; trivial
 ·split at h
  ·cases h; exact StLe.refl _
  ·cases h
 ·split at h
  ·rename_i ho; cases h; exact opE_le ho
  ·cases h
theorem putE_st {fr : Fr} {dst : Option Tmp} {v : V} {r : Rs} (h : putE fr dst v S = some r) : r.st = S := by
 unfold putE at h
 split at h
 ·cases h; rfl
 ·cases h
theorem oneE_le [Glob] {rec : Rec} (hl : LeOk rec) {ops : Array Oper} {o : Oper} {fr : Fr} {r : Rs} (h : oneE rec P ops o fr S = some r) : StLe S r.st := by
 unfold oneE at h
 split at h
 ·cases h
 ·rw [putE_st h]; exact .refl _
 ·split at h
  ·cases h
  ·rename_i ha; rw [putE_st h]; exact actE_le hl ha
  ·rename_i ha; cases h; exact actE_le hl ha
  ·rw [putE_st h]; exact .refl _
  ·rw [putE_st h]; exact .refl _
theorem seqE_le [Glob] {rec : Rec} (hl : LeOk rec) {ops : Array Oper} : ∀ (l : List Nat) {fr : Fr} {S : St} {r : Rs}, seqE rec P ops l fr S = some r → StLe S r.st
 | [], fr, S, r, h => by cases h; exact .refl _
 | i :: l, fr, S, r, h => by
  simp only [seqE] at h
  split at h
  ·cases h
  ·split at h
   ·rename_i h1
    exact (oneE_le hl h1).trans (seqE_le hl l h)
   ·rename_i h1
    exact oneE_le hl h
end
end Go.Ev
namespace Go.Ev
open Go.RowKit
section
variable {P : Program} {base : Nat} {w₀ w : World} {σ : Sg} {S S' : St} {b : Frame} {k : List Item} {cs : List Frame} {ops : Array Oper} {i : Nat} {rest : List Nat} {o : Oper} {a : Act}
theorem finish_put (ho : ops[i]? = some o) (v : Value) : (b.atR a (.inRegion ops (i :: rest) :: k)).finish v = b.atR (a.put o.dst v) (.inRegion ops rest :: k) := by
 rw [Frame.finish_atR, ho]; rfl
theorem step_value (hsm : o.semAt b.roundOf a.eval = execOp a.eval o) (ho : ops[i]? = some o) (hw : Region.wanted o (yielded ops a.tmps) = true) {r : Value} {w' : World} (hr : (execOp a.eval o).run P w = .ok (.value r) w') :
 Steps P (lone (b.atR a (.inRegion ops (i :: rest) :: k)) cs w) (lone (b.atR (a.put o.dst r) (.inRegion ops rest :: k)) cs w') := by
 have hg := stepGR_op (P := P) (b := b) (k := k) (cs := cs) (w := w) (rest := rest) ho hw
 rw [hsm] at hg
 refine .one (step_lone_go ?_)
 rw [hg, ← finish_put ho]; simp [stepG.apply, hr]
theorem step_skip' (hsm : o.semAt b.roundOf a.eval = execOp a.eval o) (ho : ops[i]? = some o) (hw : Region.wanted o (yielded ops a.tmps) = true) {w' : World} (hr : (execOp a.eval o).run P w = .ok .skip w') :
 Steps P (lone (b.atR a (.inRegion ops (i :: rest) :: k)) cs w) (lone (b.atR (a.put o.dst undef) (.inRegion ops rest :: k)) cs w') := by
 have hg := stepGR_op (P := P) (b := b) (k := k) (cs := cs) (w := w) (rest := rest) ho hw
 rw [hsm] at hg
 refine .one (step_lone_go ?_)
 rw [hg, ← finish_put ho]; simp [stepG.apply, hr]
theorem step_unwanted (ho : ops[i]? = some o) (hw : Region.wanted o (yielded ops a.tmps) = false) :
 Steps P (lone (b.atR a (.inRegion ops (i :: rest) :: k)) cs w) (lone (b.atR (a.put o.dst undef) (.inRegion ops rest :: k)) cs w) := by
 have hs := stepR_op_skip (P := P) (b := b) (a := a) (k := k) (cs := cs) (w := w) (ops := ops) (i := i) (rest := rest) (by simp [ho]; simpa using hw)
 simp only [ho, Option.bind_some] at hs
 exact .one hs
theorem step_recover_none (hro : b.roundOf = none) (hsm : o.semAt b.roundOf a.eval = execOp a.eval o) (ho : ops[i]? = some o) (hw : Region.wanted o (yielded ops a.tmps) = true) {w' : World} (hr : (execOp a.eval o).run P w = .ok .recover w')
 (hn : tryRecover (b.atR a (.inRegion ops (i :: rest) :: k)) cs = none) :
 Steps P (lone (b.atR a (.inRegion ops (i :: rest) :: k)) cs w) (lone (b.atR (a.put o.dst .nilIface) (.inRegion ops rest :: k)) cs w') := by
 have hg := stepGR_op (P := P) (b := b) (k := k) (cs := cs) (w := w) (rest := rest) ho hw
 rw [hsm] at hg
 refine .one (step_lone_go ?_)
 rw [hg, ← finish_put ho]
 simp only [Frame.atR, hro] at hn ⊢
 simp [stepG.apply, hr, hn]
theorem step_recover_some (hro : b.roundOf = none) (hsm : o.semAt b.roundOf a.eval = execOp a.eval o) (ho : ops[i]? = some o) (hw : Region.wanted o (yielded ops a.tmps) = true) {w' : World} (hr : (execOp a.eval o).run P w = .ok .recover w') {v : Value} {cs' : List Frame}
 (hn : tryRecover (b.atR a (.inRegion ops (i :: rest) :: k)) cs = some (v, cs')) :
 Steps P (lone (b.atR a (.inRegion ops (i :: rest) :: k)) cs w) (lone (b.atR (a.put o.dst v) (.inRegion ops rest :: k)) cs' w') := by
 have hg := stepGR_op (P := P) (b := b) (k := k) (cs := cs) (w := w) (rest := rest) ho hw
 rw [hsm] at hg
 refine .one (step_lone_go ?_)
 rw [hg, ← finish_put ho]
 simp only [Frame.atR, hro] at hn ⊢
 simp [stepG.apply, hr, hn]
theorem step_defer_op (hsm : o.semAt b.roundOf a.eval = execOp a.eval o) (ho : ops[i]? = some o) (hw : Region.wanted o (yielded ops a.tmps) = true) {d : Deferred} {w' : World} (hr : (execOp a.eval o).run P w = .ok (.defer d) w') :
 Steps P (lone (b.atR a (.inRegion ops (i :: rest) :: k)) cs w) (lone (b.atR ({ a with defers := d :: a.defers }.put o.dst undef) (.inRegion ops rest :: k)) cs w') := by
 have hg := stepGR_op (P := P) (b := b) (k := k) (cs := cs) (w := w) (rest := rest) ho hw
 rw [hsm] at hg
 refine .one (step_lone_go ?_)
 have : ({ b.atR a (.inRegion ops (i :: rest) :: k) with defers := d :: a.defers } : Frame).finish undef =
  b.atR ({ a with defers := d :: a.defers }.put o.dst undef) (.inRegion ops rest :: k) := by
  have := Frame.finish_atR b { a with defers := d :: a.defers } ops i rest k undef
  rw [ho] at this; exact this
 rw [hg]; simp only [stepG.apply, Sem.runT_eq, hr, GStep.bare_after]
 exact congrArg (fun fr => GStep.go { frame := fr, callers := cs, status := .running, dying := none } w') this
theorem step_panic (hsm : o.semAt b.roundOf a.eval = execOp a.eval o) (ho : ops[i]? = some o) (hw : Region.wanted o (yielded ops a.tmps) = true) {v : Value} {w' : World} (hr : (execOp a.eval o).run P w = .halt (.panic v) w') :
 Steps P (lone (b.atR a (.inRegion ops (i :: rest) :: k)) cs w) (lone { b.atR a (.inRegion ops (i :: rest) :: k) with mode := .panicking [{ v, recovered := false }] } cs w') := by
 have hg := stepGR_op (P := P) (b := b) (k := k) (cs := cs) (w := w) (rest := rest) ho hw
 rw [hsm] at hg
 refine .one (step_lone_go ?_)
 rw [hg, ← Frame.raise_atR]; simp [stepG.apply, hr]
theorem step_enter (hsm : o.semAt b.roundOf a.eval = execOp a.eval o) (ho : ops[i]? = some o) (hw : Region.wanted o (yielded ops a.tmps) = true) {f : FuncId} {args : Array Value} {w' : World} (hr : (execOp a.eval o).run P w = .ok (.enter f args) w') {R : Ending → World → Prop} (hc : Calls P f args w' R) :
 ∃ e w'', R e w'' ∧ (∀ v, e = .returned v → Steps P (lone (b.atR a (.inRegion ops (i :: rest) :: k)) cs w) (lone (b.atR (a.put o.dst v) (.inRegion ops rest :: k)) cs w'')) ∧
  (∀ ch, e = .panicked ch → Steps P (lone (b.atR a (.inRegion ops (i :: rest) :: k)) cs w) (lone { b.atR a (.inRegion ops (i :: rest) :: k) with mode := .panicking ch } cs w'')) := by
 have hg := stepGR_op (P := P) (b := b) (k := k) (cs := cs) (w := w) (rest := rest) ho hw
 rw [hsm] at hg
 obtain ⟨e, w'', fr, hR, hsteps, _, hleave⟩ := hc (b.atR a (.inRegion ops (i :: rest) :: k) :: cs)
 have henter : step P (lone (b.atR a (.inRegion ops (i :: rest) :: k)) cs w) =
  .next (lone (Frame.enter P f args .normal) (b.atR a (.inRegion ops (i :: rest) :: k) :: cs) w') :=
  step_lone_go (by rw [hg]; simp [stepG.apply, hr, Frame.atR])
 refine ⟨e, w'', hR, ?_, ?_⟩
 ·rintro v rfl
  refine .head henter (hsteps.trans (.one ?_))
  rw [← finish_put ho]; exact step_leave_returned hleave
 ·rintro ch rfl
  refine .head henter (hsteps.trans (.one ?_))
  rw [← Frame.raise_atR]; exact step_leave_panicked hleave
theorem step_round (hsm : o.semAt b.roundOf a.eval = execOp a.eval o) (ho : ops[i]? = some o) (hw : Region.wanted o (yielded ops a.tmps) = true) {l : Nat} {f : FuncId} {tmps : Array Value} {asg body : Code} {w' : World}
 (hr : (execOp a.eval o).run P w = .ok (.round l f tmps asg body) w') {R : Value → World → Prop} (hc : RoundTo P l f tmps asg body w' R) :
 ∃ y w'', R y w'' ∧ Steps P (lone (b.atR a (.inRegion ops (i :: rest) :: k)) cs w) (lone (b.atR (a.put o.dst y) (.inRegion ops rest :: k)) cs w'') := by
 have hg := stepGR_op (P := P) (b := b) (k := k) (cs := cs) (w := w) (rest := rest) ho hw
 rw [hsm] at hg
 obtain ⟨y, w'', hR, hs⟩ := hc (b.atR a (.inRegion ops (i :: rest) :: k)) cs
 have henter : step P (lone (b.atR a (.inRegion ops (i :: rest) :: k)) cs w) =
  .next (lone (Frame.round l f tmps asg body .normal) (b.atR a (.inRegion ops (i :: rest) :: k) :: cs) w') :=
  step_lone_go (by rw [hg]; simp [stepG.apply, hr, Frame.atR])
 refine ⟨y, w'', hR, .head henter ?_⟩
 rw [finish_put ho] at hs
 exact hs
theorem sem_of {σ : Sg} {pan : Pan} (hp : PanR σ pan b cs) {rec : Rec} {ev : Operand → Option V} {ac : Ac} (ha : actE rec P o.op ev pan S = some ac) : o.semAt b.roundOf a.eval = execOp a.eval o := by
 cases hq : isRnd pan with
 | false => rw [hp.ro hq]; rfl
 | true =>
  refine Oper.semAt_eq _ _ _ fun c e => ?_
  rw [e] at ha
  cases pan <;> first | (cases hq; done) | skip
  obtain ⟨callee, args, ats⟩ := c
  cases callee <;> simp [actE, opE] at ha
theorem tryRecover_pan {p : Pan} (hp : PanR σ p b cs) : match p with
 | .live _ => True
 | _ => tryRecover (b.atR a (.inRegion ops (i :: rest) :: k)) cs = none := by
 cases p with
 | norm =>
  have hk : b.kind = .normal := hp.1
  simp [tryRecover, Frame.atR, hk]
 | rnd =>
  have hk : b.kind = .normal := hp.1
  simp [tryRecover, Frame.atR, hk]
 | quiet =>
  obtain ⟨⟨hk, _⟩, c, r, rfl, hm⟩ := hp
  simp [tryRecover, Frame.atR, hk, hm]
 | live v => trivial
 | done v =>
  obtain ⟨⟨hk, _⟩, c, r, y, rfl, hm, _⟩ := hp
  simp [tryRecover, Frame.atR, hk, hm]
theorem val_steps [Glob] (hG : Good P) {rec : Rec} (hrec : CallOk P rec) (h : Rel none2 base w₀ σ S w) {ev : Operand → Option V} {pan : Pan} (hev : ∀ x u, ev x = some u → VR σ u (a.eval x)) (hp : PanR σ pan b cs) (hro : True)
 (ho : ops[i]? = some o) (hw : Region.wanted o (yielded ops a.tmps) = true) {v : V} (ha : actE rec P o.op ev pan S = some (.val v S')) (hf : Free σ S.next S'.next) :
 ∃ r w' σ', Steps P (lone (b.atR a (.inRegion ops (i :: rest) :: k)) cs w) (lone (b.atR (a.put o.dst r) (.inRegion ops rest :: k)) cs w') ∧ VR σ' v r ∧ Rel none2 base w₀ σ' S' w' ∧ Stp σ S w σ' S' w' := by
 have hA := (actE_sound hG hrec h hev ha).1 v S' rfl hf
 have hsm := sem_of (a := a) hp ha
 rcases hA with ⟨r, w', σ', h1, h2, h3, h4⟩ | ⟨g, args, w', h1, hc⟩ | ⟨l, f, tmps, asg, body, h1, hc⟩
 ·refine ⟨r, w', σ', ?_, h2, h3, h4⟩
  rcases h1 with h1 | ⟨h1, rfl⟩ | ⟨h1, hn, rfl⟩
  ·exact step_value hsm ho hw h1
  ·exact step_skip' hsm ho hw h1
  ·have hnr : isRnd pan = false := by cases pan <;> first | rfl | exact hn.elim
   refine step_recover_none (hp.ro hnr) hsm ho hw h1 ?_
   have := tryRecover_pan (a := a) (k := k) (ops := ops) (i := i) (rest := rest) hp
   cases pan <;> first | exact this | exact hn.elim
 ·obtain ⟨e, w'', ⟨y, σ', rfl, q1, q2, q3⟩, s1, _⟩ := step_enter (b := b) (k := k) (cs := cs) (rest := rest) hsm ho hw h1 hc
  exact ⟨y, w'', σ', s1 y rfl, q1, q2, q3⟩
 ·obtain ⟨y, w'', ⟨σ', q1, q2, q3⟩, s1⟩ := step_round (b := b) (k := k) (cs := cs) (rest := rest) hsm ho hw h1 hc
  exact ⟨y, w'', σ', s1, q1, q2, q3⟩
theorem pan_steps [Glob] (hG : Good P) {rec : Rec} (hrec : CallOk P rec) (h : Rel none2 base w₀ σ S w) {ev : Operand → Option V} {pan : Pan} (hev : ∀ x u, ev x = some u → VR σ u (a.eval x)) (hp : PanR σ pan b cs)
 (ho : ops[i]? = some o) (hw : Region.wanted o (yielded ops a.tmps) = true) {v : V} (ha : actE rec P o.op ev pan S = some (.pan v S')) (hf : Free σ S.next S'.next) :
 ∃ y w' σ', Steps P (lone (b.atR a (.inRegion ops (i :: rest) :: k)) cs w) (lone { b.atR a (.inRegion ops (i :: rest) :: k) with mode := .panicking [{ v := y, recovered := false }] } cs w') ∧ VR σ' v y ∧
  Rel none2 base w₀ σ' S' w' ∧ Stp σ S w σ' S' w' := by
 have hA := (actE_sound hG hrec h hev ha).2.1 v S' rfl hf
 have hsm := sem_of (a := a) hp ha
 rcases hA with ⟨y, w', σ', h1, h2, h3, h4⟩ | ⟨g, args, w', h1, hc⟩
 ·exact ⟨y, w', σ', step_panic hsm ho hw h1, h2, h3, h4⟩
 ·obtain ⟨e, w'', ⟨y, σ', rfl, q1, q2, q3⟩, _, s1⟩ := step_enter (b := b) (k := k) (cs := cs) (rest := rest) hsm ho hw h1 hc
  exact ⟨y, w'', σ', s1 _ rfl, q1, q2, q3⟩
theorem putE_some {fr fr' : Fr} {dst : Option Tmp} {v : V} {x : X} (h : putE fr dst v S = some (.code x fr' S')) : x = .normal ∧ fr.put dst v = some fr' ∧ S' = S := by
 unfold putE at h
 split at h
 ·rename_i fr1 h1
  simp only [Option.some.injEq, Rs.code.injEq] at h
  obtain ⟨rfl, rfl, rfl⟩ := h
  exact ⟨rfl, h1, rfl⟩
 ·cases h
theorem putE_code {fr : Fr} {dst : Option Tmp} {v : V} {r : Rs} (h : putE fr dst v S = some r) : ∃ x fr' S', r = .code x fr' S' := by
 unfold putE at h
 split at h
 ·cases h; exact ⟨_, _, _, rfl⟩
 ·cases h
theorem oneE_sound [Glob] (hG : Good P) {rec : Rec} (hrec : CallOk P rec) (h : Rel none2 base w₀ σ S w) {fr fr' : Fr} {x : X} (hA : AR σ fr a) (hp : PanR σ fr.pan b cs) (hro : True) (ho : ops[i]? = some o)
 (hE : oneE rec P ops o fr S = some (.code x fr' S')) (hf : Free σ S.next S'.next) :
 (x = .normal ∧ ∃ a' cs' w' σ', AR σ' fr' a' ∧ PanR σ' fr'.pan b cs' ∧ Turn b cs cs' ∧ Rel none2 base w₀ σ' S' w' ∧ Stp σ S w σ' S' w' ∧
  Steps P (lone (b.atR a (.inRegion ops (i :: rest) :: k)) cs w) (lone (b.atR a' (.inRegion ops rest :: k)) cs' w')) ∨
 ((∃ v, x = .panic v) ∧ Comes' P base w₀ σ S w (lone (b.atR a (.inRegion ops (i :: rest) :: k)) cs w) b k cs x fr' S') := by
 unfold oneE at hE
 split at hE
 ·cases hE
 ·rename_i hw
  obtain ⟨rfl, h1, rfl⟩ := putE_some hE
  exact .inl ⟨rfl, _, cs, w, σ, hA.put h1 (undef_VR σ), by rw [(Fr.put_pan h1).1]; exact hp, .refl _, h, Stp.refl _ _ _, step_unwanted ho (wantE_sound hA hw)⟩
 ·rename_i hw
  have hw := wantE_sound hA hw
  split at hE
  ·cases hE
  ·rename_i v S1 ha
   obtain ⟨rfl, h1, rfl⟩ := putE_some hE
   obtain ⟨r, w', σ', s1, s2, s3, s4⟩ := val_steps (rest := rest) (k := k) hG hrec h (hA.eval h.gl) hp hro ho hw ha hf
   exact .inl ⟨rfl, _, cs, w', σ', (hA.mono s4.le).put h1 s2, by rw [(Fr.put_pan h1).1]; exact hp.mono s4.le, .refl _, s3, s4, s1⟩
  ·rename_i v S1 ha
   simp only [Option.some.injEq, Rs.code.injEq] at hE
   obtain ⟨rfl, rfl, rfl⟩ := hE
   obtain ⟨y, w', σ', s1, s2, s3, s4⟩ := pan_steps (b := b) (k := k) (cs := cs) (rest := rest) hG hrec h (hA.eval h.gl) hp ho hw ha hf
   exact .inr ⟨⟨_, rfl⟩, _, a, cs, w', σ', .panic s2, hA.mono s4.le, hp.mono s4.le, .refl _, s3, s4, _, s1⟩
  ·rename_i d ha
   obtain ⟨rfl, h1, rfl⟩ := putE_some hE
   obtain ⟨f, l⟩ := d
   obtain ⟨d, caps, r1, r2, r3⟩ := (actE_sound hG hrec h (hA.eval h.gl) ha).2.2.1 f l rfl
   have hA' : AR σ { fr with ds := (f, l) :: fr.ds } { a with defers := d :: a.defers } := ⟨hA.n, hA.t, .cons r2 r3 hA.ds⟩
   exact .inl ⟨rfl, _, cs, w, σ, hA'.put h1 (undef_VR σ), by rw [(Fr.put_pan h1).1]; exact hp, .refl _, h, Stp.refl _ _ _, step_defer_op (sem_of hp ha) ho hw r1⟩
  ·rename_i p v ha
   obtain ⟨rfl, h1, rfl⟩ := putE_some hE
   obtain ⟨e1, e2, r1⟩ := (actE_sound hG hrec h (hA.eval h.gl) ha).2.2.2 p v rfl
   subst e2
   have hsm := sem_of (a := a) hp ha
   rw [e1] at hp
   obtain ⟨⟨hk, hkr⟩, c, r, y, rfl, hm, hv⟩ := hp
   have hA' : AR σ { fr with pan := .done v } a := ⟨hA.n, hA.t, hA.ds⟩
   refine .inl ⟨rfl, _, { c with mode := .panicking [{ v := y, recovered := true }] } :: r, w, σ, hA'.put h1 hv, ?_, .head hk c _ r, h, Stp.refl _ _ _, step_recover_some hkr hsm ho hw r1 ?_⟩
   ·rw [(Fr.put_pan h1).1]
    exact ⟨⟨hk, hkr⟩, _, _, y, rfl, rfl, hv⟩
   ·simp [tryRecover, Frame.atR, hk, hm]
theorem oneE_code [Glob] {rec : Rec} {o : Oper} {fr : Fr} {r : Rs} (h : oneE rec P ops o fr S = some r) : ∃ x fr' S', r = .code x fr' S' := by
 unfold oneE at h
 split at h
 ·cases h
 ·exact putE_code h
 ·split at h
  ·cases h
  ·exact putE_code h
  ·cases h; exact ⟨_, _, _, rfl⟩
  ·exact putE_code h
  ·exact putE_code h
theorem seqE_sound [Glob] (hG : Good P) {rec : Rec} (hl : LeOk rec) (hrec : CallOk P rec) (hro : True) : ∀ (l : List Nat) {σ : Sg} {S : St} {w : World} {a : Act} {cs : List Frame} {fr fr' : Fr} {x : X} {S' : St}, Rel none2 base w₀ σ S w → AR σ fr a → PanR σ fr.pan b cs →
 seqE rec P ops l fr S = some (.code x fr' S') → Free σ S.next S'.next → Comes' P base w₀ σ S w (lone (b.atR a (.inRegion ops l :: k)) cs w) b k cs x fr' S'
 | [], σ, S, w, a, cs, fr, fr', x, S', h, hA, hp, hE, _ => by
  simp only [seqE, Option.some.injEq, Rs.code.injEq] at hE
  obtain ⟨rfl, rfl, rfl⟩ := hE
  exact ⟨.normal, a, cs, w, σ, .normal, hA, hp, .refl _, h, Stp.refl _ _ _, Steps.one stepR_region_end⟩
 | i :: l, σ, S, w, a, cs, fr, fr', x, S', h, hA, hp, hE, hf => by
  simp only [seqE] at hE
  split at hE
  ·cases hE
  ·rename_i o ho
   split at hE
   ·rename_i fr1 S1 h1
    have hn : S1.next ≤ S'.next := (seqE_le hl l hE).next
    have hf1 : Free σ S.next S1.next := hf.mono (Nat.le_refl _) hn
    rcases oneE_sound (rest := l) (k := k) hG hrec h hA hp hro ho h1 hf1 with ⟨_, a', cs', w', σ', q1, q2, q3, q4, q5, q6⟩ | ⟨⟨_, q0⟩, _⟩
    ·obtain ⟨e, a'', cs'', w'', σ'', r0, r1, r2, r3, r4, r5, r6⟩ := seqE_sound hG hl hrec hro l q4 q1 q2 hE (q5.free hf)
     exact ⟨e, a'', cs'', w'', σ'', r0, r1, r2, q3.trans r3, r4, q5.trans r5 hf, .of_steps q6 r6⟩
    ·cases q0
   ·rename_i hne
    rcases oneE_sound (rest := l) (k := k) hG hrec h hA hp hro ho hE hf with ⟨q0, _⟩ | ⟨_, q⟩
    ·subst q0; exact absurd hE (hne _ _)
    ·exact q
end
end Go.Ev
namespace Go.Ev
section
variable {ops : Array Oper}
theorem bitAt_eq (m i : Nat) : bitAt m i = m.testBit i := by
 unfold bitAt
 rw [Nat.testBit_eq_decide_div_mod_eq, Bool.eq_iff_iff]
 simp
inductive Lin (ops : Array Oper) : (Nat → Bool) → List Nat → Prop
 | nil {D : Nat → Bool} (h : ∀ i, i < ops.size → D i = true) : Lin ops D []
 | cons {D : Nat → Bool} {i : Nat} {l : List Nat} {o : Oper} (ho : ops[i]? = some o) (hn : D i = false) (hr : ∀ e ∈ o.after, Region.binds .any e = true → D e.on = true)
  (h : Lin ops (fun j => D j || j == i) l) : Lin ops D (i :: l)
theorem edgesOk_spec (h : edgesOk ops = true) {k : Nat} {o : Oper} (ho : ops[k]? = some o) {e : Edge} (he : e ∈ o.after) (hb : Region.binds .any e = true) : e.on < k := by
 unfold edgesOk at h
 rw [List.all_eq_true] at h
 have hm : (o, k) ∈ ops.toList.zipIdx := by
  rw [List.mem_zipIdx_iff_getElem?]
  simpa using ho
 have h1 := h (o, k) hm
 simp only at h1
 rw [Array.all_eq_true_iff_forall_mem] at h1
 have h2 := h1 e he
 simp only [hb, Bool.not_true, Bool.false_or] at h2
 simpa using h2
def unlisted (ops : Array Oper) (listed : Array Bool) : List Nat := (List.range ops.size).filter fun i => !listed.getD i true
theorem filter_len_lt {α : Type} {p q : α → Bool} : ∀ {l : List α} {x : α}, (∀ y ∈ l, q y = true → p y = true) → x ∈ l → p x = true → q x = false → (l.filter q).length < (l.filter p).length := by
 intro l
 induction l with
 | nil => intro x _ hx; cases hx
 | cons a l ih =>
  intro x h hx hp hq
  have hsub : (l.filter q).length ≤ (l.filter p).length := by
   clear ih hx
   have h' : ∀ y ∈ l, q y = true → p y = true := fun y hy => h y (List.mem_cons_of_mem _ hy)
   clear h
   induction l with
   | nil => simp
   | cons b l ihl =>
    have h1 := ihl fun y hy => h' y (List.mem_cons_of_mem _ hy)
    simp only [List.filter_cons]
    cases hqb : q b
    ·cases hpb : p b <;> simp <;> omega
    ·rw [h' b (List.mem_cons_self) hqb]; simp; omega
  rcases List.mem_cons.1 hx with rfl | hx
  ·simp only [List.filter_cons, hp, hq, if_true]
   simp; omega
  ·have h1 := ih (fun y hy => h y (List.mem_cons_of_mem _ hy)) hx hp hq
   simp only [List.filter_cons]
   cases hqa : q a
   ·cases hpa : p a <;> simp <;> omega
   ·rw [h a List.mem_cons_self hqa]; simp; omega
theorem lin_go (he : edgesOk ops = true) : ∀ (fuel t : Nat) (listed : Array Bool), listed.size = ops.size → (unlisted ops listed).length ≤ fuel →
 Lin ops (fun j => listed.getD j false) (Region.linearise.go .any ops fuel t listed []) := by
 have none_left : ∀ listed : Array Bool, listed.size = ops.size → Region.ready .any ops listed = [] → ∀ i, i < ops.size → listed.getD i false = true := by
  intro listed hs hr i
  induction i using Nat.strongRecOn with
  | ind i ih =>
   intro hi
   cases hb : listed.getD i false with
   | true => rfl
   | false =>
    exfalso
    have hmem : i ∈ Region.ready .any ops listed := by
     rw [mem_ready]
     refine ⟨?_, ops[i], by simp [hi], fun e hem hbd => ?_⟩
     ·have hlt : i < listed.size := by omega
      simp [hlt] at hb ⊢
      exact hb
     ·have hlt := edgesOk_spec he (o := ops[i]) (k := i) (by simp [hi]) hem hbd
      exact ih e.on hlt (by omega)
    rw [hr] at hmem
    cases hmem
 intro fuel
 induction fuel with
 | zero =>
  intro t listed hs hc
  simp only [Region.linearise.go, List.reverse_nil]
  refine .nil fun i hi => ?_
  have hnil : unlisted ops listed = [] := List.eq_nil_of_length_eq_zero (by omega)
  cases hb : listed.getD i false with
  | true => rfl
  | false =>
   exfalso
   have hmem : i ∈ unlisted ops listed := by
    unfold unlisted
    rw [List.mem_filter, List.mem_range]
    refine ⟨hi, ?_⟩
    have hlt : i < listed.size := by omega
    simp [hlt] at hb ⊢
    exact hb
   rw [hnil] at hmem
   cases hmem
 | succ fuel ih =>
  intro t listed hs hc
  simp only [Region.linearise.go]
  change Lin ops _ (match (Region.ready .any ops listed)[t % (Region.ready .any ops listed).length]? with
   | some i => Region.linearise.go .any ops fuel (t / (Region.ready .any ops listed).length) (listed.setIfInBounds i true) [i]
   | none => [].reverse)
  cases hi : (Region.ready .any ops listed)[t % (Region.ready .any ops listed).length]? with
  | none =>
   have hnil : Region.ready .any ops listed = [] := by
    cases hr : Region.ready .any ops listed with
    | nil => rfl
    | cons x xs =>
     rw [hr] at hi
     have hlt : t % (x :: xs).length < (x :: xs).length := Nat.mod_lt _ (by simp)
     simp at hi
     simp at hlt
     omega
   exact .nil (none_left listed hs hnil)
  | some i =>
   simp only []
   rw [linearise_go_acc, List.reverse_singleton, List.singleton_append]
   obtain ⟨h0, o, ho, hall⟩ := mem_ready.1 (List.mem_of_getElem? hi)
   have hlt : i < ops.size := (Array.getElem?_eq_some_iff.1 ho).1
   refine .cons ho (by
    have hl : i < listed.size := by omega
    simp [hl] at h0 ⊢; exact h0) (fun e h1 h2 => hall e h1 h2) ?_
   have hD : (fun j => listed.getD j false || j == i) = fun j => (listed.setIfInBounds i true).getD j false := by
    funext j
    by_cases hj : i = j
    ·subst hj
     have hl : i < listed.size := by omega
     simp [hl]
    ·rw [getD_set_ne false hj]
     have : (j == i) = false := by simp; omega
     rw [this, Bool.or_false]
   rw [hD]
   refine ih _ _ (by simp [hs]) ?_
   have hless : (unlisted ops (listed.setIfInBounds i true)).length < (unlisted ops listed).length := by
    refine filter_len_lt (x := i) (fun y hy hq => ?_) (List.mem_range.2 hlt) (by rw [h0]; rfl) ?_
    ·simp only [Bool.not_eq_true'] at hq ⊢
     by_cases hyi : i = y
     ·subst hyi
      have hl : i < listed.size := by omega
      simp [hl] at hq
     ·rwa [getD_set_ne true hyi] at hq
    ·have hl : i < listed.size := by omega
     simp [hl]
   omega
theorem lin_schedule (he : edgesOk ops = true) (t : Nat) : Lin ops (fun _ => false) (Region.schedule true ops t) := by
 simp only [Region.schedule, Bool.true_or, if_true, Region.linearise]
 have h := lin_go he ops.size t (Array.replicate ops.size false) (by simp) (by
  unfold unlisted
  exact Nat.le_trans (List.length_filter_le _ _) (by simp))
 have hD : (fun j => (Array.replicate ops.size false).getD j false) = fun _ => false := by
  funext j
  by_cases hj : j < ops.size <;> simp [hj]
 rw [hD] at h
 exact h
def stepMask (acc : List Nat) (o : Oper) : Nat := o.after.foldl (fun s e => if Region.binds .any e then s ||| (2 ^ e.on ||| acc.getD e.on 0) else s) 0
theorem masks_prefix : ∀ (l : List Oper) (acc : List Nat), ∃ l', masks l acc = acc ++ l' ∧ l'.length = l.length := by
 intro l
 induction l with
 | nil => intro acc; exact ⟨[], by simp [masks], rfl⟩
 | cons o l ih =>
  intro acc
  obtain ⟨l', h1, h2⟩ := ih (acc ++ [stepMask acc o])
  refine ⟨stepMask acc o :: l', ?_, by simp [h2]⟩
  simp only [masks]
  rw [show (o.after.foldl (fun s e => if Region.binds .any e then s ||| (2 ^ e.on ||| acc.getD e.on 0) else s) 0) = stepMask acc o from rfl, h1]
  simp
theorem foldl_congr_mem {α β : Type} {f g : β → α → β} : ∀ (l : List α) (b : β), (∀ b, ∀ a ∈ l, f b a = g b a) → l.foldl f b = l.foldl g b := by
 intro l
 induction l with
 | nil => intro b _; rfl
 | cons a l ih =>
  intro b h
  simp only [List.foldl_cons]
  rw [h b a List.mem_cons_self]
  exact ih _ fun b a ha => h b a (List.mem_cons_of_mem _ ha)
theorem masks_get : ∀ (l : List Oper) (acc : List Nat) (k : Nat) (o : Oper), l[k]? = some o → (∀ e ∈ o.after, Region.binds .any e = true → e.on < acc.length + k) →
 (masks l acc).getD (acc.length + k) 0 = stepMask (masks l acc) o := by
 intro l
 induction l with
 | nil => intro acc k o h; simp at h
 | cons a l ih =>
  intro acc k o ho he
  simp only [masks]
  rw [show (a.after.foldl (fun s e => if Region.binds .any e then s ||| (2 ^ e.on ||| acc.getD e.on 0) else s) 0) = stepMask acc a from rfl]
  cases k with
  | succ k =>
   have := ih (acc ++ [stepMask acc a]) k o (by simpa using ho) (fun e h1 h2 => by have := he e h1 h2; simp; omega)
   simp only [List.length_append, List.length_cons, List.length_nil] at this
   rw [show acc.length + (k + 1) = acc.length + (0 + 1) + k by omega]
   exact this
  | zero =>
   simp at ho
   subst ho
   obtain ⟨l', h1, _⟩ := masks_prefix l (acc ++ [stepMask acc a])
   rw [h1]
   rw [show (acc ++ [stepMask acc a] ++ l').getD (acc.length + 0) 0 = stepMask acc a by simp [List.getD]]
   unfold stepMask
   rw [← Array.foldl_toList, ← Array.foldl_toList]
   refine foldl_congr_mem _ _ fun b e hem => ?_
   cases hb : Region.binds .any e
   ·rfl
   ·have hlt := he e (by simpa using hem) hb
    simp only [if_true]
    have : (acc ++ [List.foldl (fun s e => if Region.binds .any e = true then s ||| (2 ^ e.on ||| acc.getD e.on 0) else s) 0 a.after.toList] ++ l').getD e.on 0 = acc.getD e.on 0 := by
     simp only [List.getD]
     rw [List.append_assoc, List.getElem?_append_left (by omega)]
    rw [this]
theorem foldl_bit (acc : List Nat) (i : Nat) : ∀ (l : List Edge) (s : Nat), (l.foldl (fun s e => if Region.binds .any e then s ||| (2 ^ e.on ||| acc.getD e.on 0) else s) s).testBit i = true →
 s.testBit i = true ∨ ∃ e ∈ l, Region.binds .any e = true ∧ (i = e.on ∨ (acc.getD e.on 0).testBit i = true) := by
 intro l
 induction l with
 | nil => intro s h; exact .inl h
 | cons e l ih =>
  intro s h
  simp only [List.foldl_cons] at h
  rcases ih _ h with h1 | ⟨e', h1, h2⟩
  ·cases hb : Region.binds .any e
   ·rw [hb] at h1; exact .inl (by simpa using h1)
   ·rw [hb] at h1
    simp only [if_true, Nat.testBit_or, Bool.or_eq_true, Nat.testBit_two_pow, decide_eq_true_eq] at h1
    rcases h1 with h1 | h1 | h1
    ·exact .inl h1
    ·exact .inr ⟨e, List.mem_cons_self, hb, .inl h1.symm⟩
    ·exact .inr ⟨e, List.mem_cons_self, hb, .inr h1⟩
  ·exact .inr ⟨e', List.mem_cons_of_mem _ h1, h2⟩
theorem anc_edge (he : edgesOk ops = true) {i k : Nat} {o : Oper} (ho : ops[k]? = some o) (h : ancOf (masks ops.toList []) i k = true) :
 ∃ e ∈ o.after, Region.binds .any e = true ∧ (i = e.on ∨ ancOf (masks ops.toList []) i e.on = true) := by
 unfold ancOf at h
 rw [bitAt_eq] at h
 have hm := masks_get ops.toList [] k o (by simpa using ho) (fun e h1 h2 => by simpa using edgesOk_spec he ho h1 h2)
 simp only [List.length_nil, Nat.zero_add] at hm
 rw [hm] at h
 unfold stepMask at h
 rw [← Array.foldl_toList] at h
 rcases foldl_bit _ i _ _ h with h1 | ⟨e, h1, h2, h3⟩
 ·simp at h1
 ·refine ⟨e, by simpa using h1, h2, h3.imp id fun h => ?_⟩
  unfold ancOf
  rw [bitAt_eq]; exact h
def Closed (ops : Array Oper) (D : Nat → Bool) : Prop := ∀ k o, D k = true → ops[k]? = some o → ∀ e ∈ o.after, Region.binds .any e = true → D e.on = true
theorem anc_closed (he : edgesOk ops = true) {D : Nat → Bool} (hD : Closed ops D) {i : Nat} : ∀ (k : Nat) {o : Oper}, ops[k]? = some o → (∀ e ∈ o.after, Region.binds .any e = true → D e.on = true) →
 ancOf (masks ops.toList []) i k = true → D i = true := by
 intro k
 induction k using Nat.strongRecOn with
 | ind k ih =>
  intro o ho hr ha
  obtain ⟨e, h1, h2, h3⟩ := anc_edge he ho ha
  have hDe := hr e h1 h2
  rcases h3 with rfl | h3
  ·exact hDe
  ·have hlt := edgesOk_spec he ho h1 h2
   have hk : k < ops.size := (Array.getElem?_eq_some_iff.1 ho).1
   have hoe : ops[e.on]? = some ops[e.on] := by simp [show e.on < ops.size by omega]
   exact ih e.on hlt hoe (hD e.on _ hDe hoe) h3
theorem Closed.anc (he : edgesOk ops = true) {D : Nat → Bool} (hD : Closed ops D) {i k : Nat} (hk : D k = true) (hlt : k < ops.size) (ha : ancOf (masks ops.toList []) i k = true) : D i = true :=
 anc_closed he hD k (o := ops[k]) (by simp [hlt]) (hD k _ hk (by simp [hlt])) ha
theorem Closed.add {D : Nat → Bool} (hD : Closed ops D) {i : Nat} {o : Oper} (ho : ops[i]? = some o) (hr : ∀ e ∈ o.after, Region.binds .any e = true → D e.on = true) : Closed ops (fun j => D j || j == i) := by
 intro k o' hk ho' e h1 h2
 simp only [Bool.or_eq_true, beq_iff_eq] at hk ⊢
 rcases hk with hk | hk
 ·exact .inl (hD k o' hk ho' e h1 h2)
 ·subst hk
  rw [ho] at ho'; cases ho'
  exact .inl (hr e h1 h2)
end
end Go.Ev
