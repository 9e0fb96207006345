import Derived.Test.YtodiioeddlmjhaaGreatDoorRows
import Derived.Test.YtodiioeddlmjhaaGreatDoorE10
import Derived.Test.YtodiioeddlmjhaaGreatDoorGD
import Derived.KernelRfl
import Derived.OpenShut
import Derived.JoinedCond
import Derived.ChangeSame
set_option linter.unusedVariables false
set_option linter.unusedSimpArgs false
namespace Go.Proofs.YtodiioeddlmjhaaGreatDoor
open Go.ChangeShapes Go.WideShapes Go.ChangeAt Go.RowKit Go.ChangeMaps Go.Ev
set_option maxRecDepth 100000
set_option linter.unusedVariables false
def num : TypeId → Option Nat
 | 3 => some 0
 | 9 => some 1
 | 46 => some 5
 | 107 => some 6
 | 115 => some 7
 | 118 => some 8
 | 122 => some 9
 | 124 => some 10
 | 27 => some 11
 | 100 => some 12
 | 62 => some 13
 | 56 => some 14
 | _ => Option.none
theorem tys : Tys Tryz.prog num := ⟨fun t n h => by
 unfold num at h
 split at h <;> first | (cases h; exact ⟨by kernel_rfl, by kernel_rfl, by decide⟩) | cases h⟩
theorem openE {H : Type} {enc : TypeId × Value → H} {W : World} {base : Nat} {v : Value} {d : DataW H} {p : List MemPlace} (hst : Value.okWide Tryz.prog W .any base 27 v) (h : DataW.Trod enc Tryz.prog W 0 (fun _ => true) true 27 v d p) : ∃ vs e, VR (Sg.of W) (.agg vs) v ∧ ExC e vs := by
 have hs : ∃ cs, v = .agg cs := by
  unfold Value.okWide at hst
  rw [show Tryz.prog.underlying 27 = some (.struct _) from Tryz.underlying27] at hst
  obtain ⟨cs, h, _⟩ := hst
  exact ⟨cs, h⟩
 obtain ⟨cs, rfl⟩ := hs
 obtain ⟨fuel, hf⟩ := h
 obtain ⟨vs, k, h1, h2⟩ := (raw_all tys fuel).2 27 11 _ _ rfl hf
 obtain ⟨e, he⟩ := ex_of k vs h2
 refine ⟨vs, e, ?_, he⟩
 have : VR (Sg.of W) (.agg vs) (.agg (Array.toList cs).toArray) := .agg h1
 simpa using this
theorem kids : Kids Tryz.prog (· < Tryz.prog.types.size) := kids_rows (by kernel_rfl) (by kernel_rfl)
theorem full : ∀ t e, t < Tryz.prog.types.size → Tryz.prog.underlying t = some (.slice e) → 0 < Tryz.prog.cellsOf e := slices_full_of Tryz.prog (by kernel_rfl)
theorem again {H : Type} {enc : TypeId × Value → H} {W W' : World} (hb : Below W.heap.size W W') {sp : Nat → Bool} : ∀ {ts : List TypeId} {vs : List Value} {ds : List (DataW H)} {ps : List MemPlace}, (∀ t ∈ ts, t < Tryz.prog.types.size) →
 DataW.TrodAll enc Tryz.prog W 0 (fun _ => true) true ts vs ds ps → (∀ p ∈ ps, p.block < W.heap.size) → (∀ p ∈ ps, sp p.block = true) → DataW.TrodAll enc Tryz.prog W' 0 sp true ts vs ds ps := by
 intro ts vs ds ps ht h hlt hsp
 refine DataW.TrodAll.respare kids full ht ?_ hsp
 clear ht hsp
 induction ts generalizing vs ds ps with
 | nil =>
  obtain ⟨rfl, rfl, rfl⟩ := trodAll_nil h
  exact rfl
 | cons t ts ih =>
  obtain ⟨v, vs1, d, ds1, a, b, rfl, rfl, rfl, ⟨n, hn⟩, h2⟩ := trodAll_cons h
  exact ⟨a, b, ⟨n, DataW.trod_carry n _ _ _ hn fun p hp => hb.same (hlt p (List.mem_append_left _ hp))⟩, ih h2 fun p hp => hlt p (List.mem_append_right _ hp), rfl⟩
theorem post_below {H : Type} {enc : TypeId × Value → H} {P : Program} {f : Func} {s : ChangeSpec} {apart fresh handsOn again : Bool} {W W' : World} {args : Array Value} {v : Value} {ds gs : List (DataW H)} {before pa pv : List MemPlace}
 (hW : DataW.Whole enc P f.params.toList s.vars apart W args.toList ds gs before)
 (hres : ∀ (b : Nat) (sp : Nat → Bool) (hd : Bool), DataW.TrodAll enc P W' b sp hd f.resultTypes.toList (v.resultList f.resultTypes.size) (s.fn H (ds ++ gs)).results [])
 (hargs : ∀ sp : Nat → Bool, (∀ p ∈ before, sp p.block = true) → DataW.TrodAll enc P W' 0 sp true f.params.toList args.toList (s.fn H (ds ++ gs)).args pa)
 (hvars : ∀ sp : Nat → Bool, (∀ p ∈ before, sp p.block = true) → DataW.TrodVars enc P W' sp s.vars (s.fn H (ds ++ gs)).vars pv)
 (hps : before = pa ++ pv) (hb : Below W.heap.size W W')
 (hok : ∀ (j : Nat) (t : TypeId) (r : Value), f.resultTypes[j]? = some t → (v.resultList f.resultTypes.size)[j]? = some r → Value.okWide P W' .any 0 t r) :
 s.post enc P f apart fresh handsOn again W args v W' := by
 have hold : ∀ p ∈ before, (fun b => decide (b < W.heap.size)) p.block = true := fun p hp => by simpa using hW.lt p hp
 have hlt : ∀ p ∈ before, p.block < W.heap.size := fun p hp => hW.lt p hp
 refine ⟨ds, gs, before, [], pa, pv, hW, hres _ _ _, hargs _ hold, hvars _ hold, World.keptBut_mono (fun p hp => ⟨hp, ?_⟩) (hb.frame (· ∈ before)), fun _ => ?_⟩
 ·rw [hps, List.mem_append] at hp
  exact Or.inr hp
 ·obtain ⟨_, _, _, _, _, hz, hn⟩ := hW
  refine ⟨hok, _, _, ([] ++ pa) ++ pv, ⟨[] ++ pa, pv, trodAll_append (hargs _ (fun _ _ => rfl)) (hres _ _ _), hvars _ (fun _ _ => rfl), rfl, ?_, ?_⟩, ?_⟩
  ·intro b off hp
   have hp' : MemPlace.cell b off ∈ before := by rw [hps]; simpa using hp
   rw [hb.frozen (p := ⟨b, off, Option.none⟩) (hlt _ hp')]
   exact hz b off hp'
  ·intro ha
   have := hn ha
   rw [hps] at this
   simpa using this
  ·intro p hp _
   rw [hps]
   simpa using hp
end Go.Proofs.YtodiioeddlmjhaaGreatDoor
