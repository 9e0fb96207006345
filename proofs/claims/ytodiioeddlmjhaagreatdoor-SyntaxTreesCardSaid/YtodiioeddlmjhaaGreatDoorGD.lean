import Derived.Test.YtodiioeddlmjhaaGreatDoorCards
import Derived.Test.YtodiioeddlmjhaaGreatDoorTie
import Derived.Test.YtodiioeddlmjhaaGreatDoorClo
import Derived.Test.YtodiioeddlmjhaaGreatDoorE10
import Derived.KernelRfl
import Derived.OpenShut
import Derived.JoinedCond
import Derived.ChangeSame
import Derived.WalkKit
import Derived.ProofKit
import Derived.Deep.DeepHandedRow
import Derived.SevenTiedAt
set_option linter.unusedVariables false
set_option linter.unusedSimpArgs false
namespace Go.Proofs.YtodiioeddlmjhaaGreatDoor
open Go Go.ChangeShapes Go.WideShapes Go.ChangeAt Go.RowKit Go.ChangeMaps Go.Ev
set_option maxRecDepth 100000
set_option linter.unusedVariables false
theorem own : ownKnob Tryz.prog.godebug = none := by kernel_rfl
theorem good_nm : (Tryz.prog.funcs.all fun fn => fn.body.isNone || !decide (fn.name = "runtime.NumGoroutine")) = true := by kernel_rfl
theorem good_ix : ((List.range Tryz.prog.funcs.size).all fun n => match Tryz.prog.funcs[n]? with
 | some fn => fn.body.isSome || ((!decide (fn.name = "internal/abi.NoEscape") || Nat.beq n 217) && (!decide (fn.name = "internal/bytealg.IndexByteString") || Nat.beq n 249) && (!decide (fn.name = "internal/bytealg.MakeNoZero") || Nat.beq n 221))
 | none => true) = true := by kernel_rfl
theorem good_e1 : Extern.findNext Tryz.f217 = none ∧ Extern.find Tryz.f217 = some Extern.AbiNoEscape.same := ⟨by kernel_rfl, by kernel_rfl⟩
theorem good_e2 : Extern.findNext Tryz.f249 = none ∧ Extern.find Tryz.f249 = some Extern.BytealgIndexByte.indexByte := ⟨by kernel_rfl, by kernel_rfl⟩
theorem good_e3 : Extern.findNext Tryz.f221 = none ∧ Extern.find Tryz.f221 = some (Extern.BytealgMakeNoZero.makeNoZero Tryz.f221.params Tryz.f221.resultTypes) := ⟨by kernel_rfl, by kernel_rfl⟩
theorem good : Go.Ev.Good Tryz.prog :=
 good_of 217 249 221 good_nm good_ix
  (fun fn hf _ => by obtain rfl := Option.some.inj (Tryz.func217.symm.trans hf); exact good_e1)
  (fun fn hf _ => by obtain rfl := Option.some.inj (Tryz.func249.symm.trans hf); exact good_e2)
  (fun fn hf _ => by obtain rfl := Option.some.inj (Tryz.func221.symm.trans hf); exact good_e3)
  (by kernel_rfl)
theorem tab_ok : TabOk Tryz.prog := by
 intro f E h
 have h : tabOf f = some E := h
 unfold tabOf at h
 split at h
 ·exact (Option.some.inj h) ▸ ⟨_, _, tab214⟩
 ·exact (Option.some.inj h) ▸ ⟨_, _, tab156⟩
 ·exact (Option.some.inj h) ▸ ⟨_, _, tab176⟩
 ·cases h
theorem goodT : GoodT Tryz.prog := ⟨good, tab_ok⟩
theorem mem0 : ("reprise/syntax.shapes", Rows.laid_reprise_syntax_shapes) ∈ Rows.syntaxTreesRow.laid := .tail _ (.tail _ (.tail _ (.tail _ (.tail _ (.head _)))))
theorem mem2 : ("internal/strconv.uint64pow10", Rows.laid_internal_strconv_uint64pow10) ∈ Rows.syntaxTreesRow.laid := .tail _ (.tail _ (.head _))
theorem mem3 : ("strings.asciiSpace", Rows.laid_strings_asciiSpace) ∈ Rows.syntaxTreesRow.laid := .tail _ (.tail _ (.tail _ (.tail _ (.head _))))
theorem mem7 : ("math/bits.deBruijn32tab", Rows.laid_math_bits_deBruijn32tab) ∈ Rows.syntaxTreesRow.laid := .head _
theorem mem8 : ("math/bits.deBruijn64tab", Rows.laid_math_bits_deBruijn64tab) ∈ Rows.syntaxTreesRow.laid := .tail _ (.head _)
theorem name0 : Tryz.prog.globalNamed "reprise/syntax.shapes" = some 0 := by kernel_rfl
theorem type0 : (Tryz.prog.globals[0]?).map (·.type) = some 215 := by kernel_rfl
theorem leaf0 : leafOk Tryz.prog 4 215 = true := by kernel_rfl
theorem flat0 : flatI (H := Unit) Rows.laid_reprise_syntax_shapes = some cells0 := by kernel_rfl
theorem numb0 : cells0.all numish = true := by kernel_rfl
theorem name2 : Tryz.prog.globalNamed "internal/strconv.uint64pow10" = some 2 := by kernel_rfl
theorem type2 : (Tryz.prog.globals[2]?).map (·.type) = some 248 := by kernel_rfl
theorem leaf2 : leafOk Tryz.prog 4 248 = true := by kernel_rfl
theorem flat2 : flatI (H := Unit) Rows.laid_internal_strconv_uint64pow10 = some cells2 := by kernel_rfl
theorem numb2 : cells2.all numish = true := by kernel_rfl
theorem name3 : Tryz.prog.globalNamed "strings.asciiSpace" = some 3 := by kernel_rfl
theorem type3 : (Tryz.prog.globals[3]?).map (·.type) = some 254 := by kernel_rfl
theorem leaf3 : leafOk Tryz.prog 4 254 = true := by kernel_rfl
theorem flat3 : flatI (H := Unit) Rows.laid_strings_asciiSpace = some cells3 := by kernel_rfl
theorem numb3 : cells3.all numish = true := by kernel_rfl
theorem name7 : Tryz.prog.globalNamed "math/bits.deBruijn32tab" = some 7 := by kernel_rfl
theorem type7 : (Tryz.prog.globals[7]?).map (·.type) = some 276 := by kernel_rfl
theorem leaf7 : leafOk Tryz.prog 4 276 = true := by kernel_rfl
theorem flat7 : flatI (H := Unit) Rows.laid_math_bits_deBruijn32tab = some cells7 := by kernel_rfl
theorem numb7 : cells7.all numish = true := by kernel_rfl
theorem name8 : Tryz.prog.globalNamed "math/bits.deBruijn64tab" = some 8 := by kernel_rfl
theorem type8 : (Tryz.prog.globals[8]?).map (·.type) = some 277 := by kernel_rfl
theorem leaf8 : leafOk Tryz.prog 4 277 = true := by kernel_rfl
theorem flat8 : flatI (H := Unit) Rows.laid_math_bits_deBruijn64tab = some cells8 := by kernel_rfl
theorem numb8 : cells8.all numish = true := by kernel_rfl
theorem vars_ok {W : World} (h : laidMetH Tryz.prog Rows.syntaxTreesRow.laid W) : VarsOk W :=
 vars_of h (by kernel_rfl) (fun g cs hg => by
  have hg : cellsOf g = some cs := hg
  unfold cellsOf at hg
  split at hg
  ·exact (Option.some.inj hg) ▸ ⟨_, _, _, mem0, name0, type0, leaf0, flat0, numb0⟩
  ·exact (Option.some.inj hg) ▸ ⟨_, _, _, mem2, name2, type2, leaf2, flat2, numb2⟩
  ·exact (Option.some.inj hg) ▸ ⟨_, _, _, mem3, name3, type3, leaf3, flat3, numb3⟩
  ·exact (Option.some.inj hg) ▸ ⟨_, _, _, mem7, name7, type7, leaf7, flat7, numb7⟩
  ·exact (Option.some.inj hg) ▸ ⟨_, _, _, mem8, name8, type8, leaf8, flat8, numb8⟩
  ·cases hg)
end Go.Proofs.YtodiioeddlmjhaaGreatDoor
