import Derived.Test.YtilldjgagokcfaaGreatRows
import Derived.Test.YtilldjgagokcfaaGreatE9
import Derived.KernelRfl
import Derived.OpenShut
import Derived.JoinedCond
import Derived.ChangeSame
set_option linter.unusedVariables false
set_option linter.unusedSimpArgs false
namespace Go.Proofs.YtilldjgagokcfaaGreat
open Go.ChangeShapes Go.WideShapes Go.ChangeAt Go.RowKit Go.ChangeMaps Go.Ev
set_option maxRecDepth 100000
set_option linter.unusedVariables false
def num : TypeId → Option Nat
  | 3 => some 0
  | 9 => some 1
  | 62 => some 2
  | 181 => some 3
  | 259 => some 4
  | 221 => some 5
  | 276 => some 6
  | 121 => some 7
  | 212 => some 8
  | 127 => some 9
  | 228 => some 10
  | 30 => some 11
  | 241 => some 12
  | 132 => some 13
  | 32 => some 14
  | 35 => some 15
  | 148 => some 16
  | 158 => some 17
  | 192 => some 18
  | 53 => some 19
  | 55 => some 20
  | _ => Option.none
theorem tys : Tys Tryz.prog num := ⟨fun t n h => by
  unfold num at h
  split at h <;> first | (cases h; exact ⟨by kernel_rfl, by kernel_rfl, by decide⟩) | cases h⟩
mutual
theorem bulk_blk {H : Type} : ∀ d : DataW H, blk d ≤ Rows.uptoBulk d
  | .lit (.string b) => by simp [blk, Rows.uptoBulk]
  | .lit (.bool b) => by simp [blk, Rows.uptoBulk]
  | .lit (.int k n) => by simp [blk, Rows.uptoBulk]
  | .lit (.float k n) => by simp [blk, Rows.uptoBulk]
  | .lit .nil => by simp [blk, Rows.uptoBulk]
  | .nil => by simp [blk, Rows.uptoBulk]
  | .ptr d => by simp [blk, Rows.uptoBulk]
  | .slice a b => by have := bulk_blks a; have := bulk_blks b; simp only [blk, Rows.uptoBulk]; omega
  | .agg l => by have := bulk_blks l; simp only [blk, Rows.uptoBulk]; omega
  | .iface t d => by simp [blk, Rows.uptoBulk]
  | .map e => by simp [blk, Rows.uptoBulk]
  | .held h => by simp [blk, Rows.uptoBulk]
theorem bulk_blks {H : Type} : ∀ l : List (DataW H), blks l ≤ Rows.uptoBulkAll l
  | [] => by simp [blks, Rows.uptoBulkAll]
  | d :: r => by have := bulk_blk d; have := bulk_blks r; simp only [blks, Rows.uptoBulkAll]; omega
end
theorem kids : Kids Tryz.prog (· < Tryz.prog.types.size) := kids_rows (by kernel_rfl) (by kernel_rfl)
theorem full : ∀ t e, t < Tryz.prog.types.size → Tryz.prog.underlying t = some (.slice e) → 0 < Tryz.prog.cellsOf e := slices_full_of Tryz.prog (by kernel_rfl)
theorem again {H : Type} {enc : TypeId × Value → H} {W W' : World} (hb : Below W.heap.size W W') {sp : Nat → Bool} : ∀ {ts : List TypeId} {vs : List Value} {ds : List (DataW H)} {ps : List MemPlace}, (∀ t ∈ ts, t < Tryz.prog.types.size) →
    DataW.TrodAll enc Tryz.prog W 0 (fun _ => true) true ts vs ds ps → (∀ p ∈ ps, p.block < W.heap.size) → (∀ p ∈ ps, sp p.block = true) → DataW.TrodAll enc Tryz.prog W' 0 sp true ts vs ds ps := by
  intro ts vs ds ps ht h hlt hsp
  refine DataW.TrodAll.respare kids full ht ?_ hsp
  clear ht hsp
  induction ts generalizing vs ds ps with
  | nil =>
    obtain ⟨rfl, rfl, rfl⟩ := trodAll_nil h
    exact rfl
  | cons t ts ih =>
    obtain ⟨v, vs1, d, ds1, a, b, rfl, rfl, rfl, ⟨n, hn⟩, h2⟩ := trodAll_cons h
    exact ⟨a, b, ⟨n, DataW.trod_carry n _ _ _ hn fun p hp => hb.same (hlt p (List.mem_append_left _ hp))⟩, ih h2 fun p hp => hlt p (List.mem_append_right _ hp), rfl⟩
theorem post_below {H : Type} {enc : TypeId × Value → H} {P : Program} {f : Func} {s : ChangeSpec} {apart fresh handsOn again : Bool} {W W' : World} {args : Array Value} {v : Value} {ds gs : List (DataW H)} {before pa pv : List MemPlace}
    (hW : DataW.Whole enc P f.params.toList s.vars apart W args.toList ds gs before)
    (hres : ∀ (b : Nat) (sp : Nat → Bool) (hd : Bool), DataW.TrodAll enc P W' b sp hd f.resultTypes.toList (v.resultList f.resultTypes.size) (s.fn H (ds ++ gs)).results [])
    (hargs : ∀ sp : Nat → Bool, (∀ p ∈ before, sp p.block = true) → DataW.TrodAll enc P W' 0 sp true f.params.toList args.toList (s.fn H (ds ++ gs)).args pa)
    (hvars : ∀ sp : Nat → Bool, (∀ p ∈ before, sp p.block = true) → DataW.TrodVars enc P W' sp s.vars (s.fn H (ds ++ gs)).vars pv)
    (hps : before = pa ++ pv) (hb : Below W.heap.size W W')
    (hok : ∀ (j : Nat) (t : TypeId) (r : Value), f.resultTypes[j]? = some t → (v.resultList f.resultTypes.size)[j]? = some r → Value.okWide P W' .any 0 t r) :
    s.post enc P f apart fresh handsOn again W args v W' := by
  have hold : ∀ p ∈ before, (fun b => decide (b < W.heap.size)) p.block = true := fun p hp => by simpa using hW.lt p hp
  have hlt : ∀ p ∈ before, p.block < W.heap.size := fun p hp => hW.lt p hp
  refine ⟨ds, gs, before, [], pa, pv, hW, hres _ _ _, hargs _ hold, hvars _ hold, World.keptBut_mono (fun p hp => ⟨hp, ?_⟩) (hb.frame (· ∈ before)), fun _ => ?_⟩
  · rw [hps, List.mem_append] at hp
    exact Or.inr hp
  · obtain ⟨_, _, _, _, _, hz, hn⟩ := hW
    refine ⟨hok, _, _, ([] ++ pa) ++ pv, ⟨[] ++ pa, pv, trodAll_append (hargs _ (fun _ _ => rfl)) (hres _ _ _), hvars _ (fun _ _ => rfl), rfl, ?_, ?_⟩, ?_⟩
    · intro b off hp
      have hp' : MemPlace.cell b off ∈ before := by rw [hps]; simpa using hp
      rw [hb.frozen (p := ⟨b, off, Option.none⟩) (hlt _ hp')]
      exact hz b off hp'
    · intro ha
      have := hn ha
      rw [hps] at this
      simpa using this
    · intro p hp _
      rw [hps]
      simpa using hp
end Go.Proofs.YtilldjgagokcfaaGreat
