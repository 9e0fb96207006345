/-
  DERIVED. GIVEN WITH THE SEED: THE CARDS: each row of YtodiioeddlmjhaaGreatDoorRows.lean that lists a variable, with what it lists TIED to the program's text (the seventh form; the later family's looks); each row that meets fmt, with fmt's text TOLD by the authors' own Lean function (tested against real Go, not proved from fmt's source: count such statements apart). THE CARD IS WHAT COUNTS. Prove the row's statement (the work); the ties are given (YtodiioeddlmjhaaGreatDoorTie.lean); close each card by the builder's one call (the guide's Derived/Test/ToyasCard.lean, 'card_holds'). Laid BY PROGRAM, IN A SANDBOX (cutbox-door.mjs). By AI agents, Wed Nov 11 2026. No macro, syntax, notation, axiom, sorry.
-/
import Derived.Test.YtodiioeddlmjhaaGreatDoorRows
import GoSem.ClaimSeven
namespace Go.Proofs.YtodiioeddlmjhaaGreatDoor
namespace Rows

/-- THE TIED CARD OF 'repriselaw02.SyntaxTrees'. -/
def syntaxTreesCard : Claim7 := { stood := { row := syntaxTreesRow, standIns := [], harness := (true, "8b59e109348a2f013afa19f524af0147307ea3b53892525c1f664d8d887f4274"), looks := true }, kinds := [], alts := [], laidByText := true, laidKinds := [.data, .data, .data, .listed, .data, .data], laidTests := true, laidLooks := .later }
def SyntaxTreesCardSaid : Prop := Claim7.holds Tryz.pinned (.plain (OpenSpec.ofChange syntaxTreesSpec)) syntaxTreesCard

/-- THE TIED CARD OF 'repriselaw02.SyntaxBack'. -/
def syntaxBackCard : Claim7 := { stood := { row := syntaxBackRow, standIns := [], harness := (true, "8b59e109348a2f013afa19f524af0147307ea3b53892525c1f664d8d887f4274"), looks := true }, kinds := [], alts := [], laidByText := true, laidKinds := [.data, .data, .data, .listed, .data, .data], laidTests := true, laidLooks := .later }
def SyntaxBackCardSaid : Prop := Claim7.holds Tryz.pinned (.plain (OpenSpec.ofChange syntaxBackSpec)) syntaxBackCard

/-- THE TIED CARD OF 'repriselaw02.SyntaxParts'. -/
def syntaxPartsCard : Claim7 := { stood := { row := syntaxPartsRow, standIns := [], harness := (true, "8b59e109348a2f013afa19f524af0147307ea3b53892525c1f664d8d887f4274"), looks := true }, kinds := [], alts := [], laidByText := true, laidKinds := [.data, .data, .data, .listed, .data, .data], laidTests := true, laidLooks := .later }
def SyntaxPartsCardSaid : Prop := Claim7.holds Tryz.pinned (.plain (OpenSpec.ofChange syntaxPartsSpec)) syntaxPartsCard

/-- THE TIED CARD OF 'repriselaw02.SyntaxSame'. -/
def syntaxSameCard : Claim7 := { stood := { row := syntaxSameRow, standIns := [], harness := (true, "8b59e109348a2f013afa19f524af0147307ea3b53892525c1f664d8d887f4274"), looks := true }, kinds := [], alts := [], laidByText := true, laidKinds := [.data, .data, .data, .listed, .data, .data], laidTests := true, laidLooks := .later }
def SyntaxSameCardSaid : Prop := Claim7.holds Tryz.pinned (.plain (OpenSpec.ofChange syntaxSameSpec)) syntaxSameCard

/-- THE TIED CARD OF 'repriselaw02.SyntaxTypes'. -/
def syntaxTypesCard : Claim7 := { stood := { row := syntaxTypesRow, standIns := [], harness := (true, "8b59e109348a2f013afa19f524af0147307ea3b53892525c1f664d8d887f4274"), looks := true }, kinds := [], alts := [], laidByText := true, laidKinds := [.data, .data, .data, .listed, .data, .data], laidTests := true, laidLooks := .later }
def SyntaxTypesCardSaid : Prop := Claim7.holds Tryz.pinned (.plain (OpenSpec.ofChange syntaxTypesSpec)) syntaxTypesCard

/-- THE TIED CARD OF 'repriselaw02.SyntaxWhole'. -/
def syntaxWholeCard : Claim7 := { stood := { row := syntaxWholeRow, standIns := [], harness := (true, "8b59e109348a2f013afa19f524af0147307ea3b53892525c1f664d8d887f4274"), looks := true }, kinds := [], alts := [], laidByText := true, laidKinds := [.data, .data, .data, .listed, .data, .data], laidTests := true, laidLooks := .later }
def SyntaxWholeCardSaid : Prop := Claim7.holds Tryz.pinned (.plain (OpenSpec.ofChange syntaxWholeSpec)) syntaxWholeCard

/-- THE TIED CARD OF 'repriselaw02.SyntaxPrograms'. -/
def syntaxProgramsCard : Claim7 := { stood := { row := syntaxProgramsRow, standIns := [], harness := (true, "8b59e109348a2f013afa19f524af0147307ea3b53892525c1f664d8d887f4274"), looks := true }, kinds := [], alts := [], laidByText := true, laidKinds := [.data, .data, .data, .listed, .data, .data], laidTests := true, laidLooks := .later }
def SyntaxProgramsCardSaid : Prop := Claim7.holds Tryz.pinned (.plain (OpenSpec.ofChange syntaxProgramsSpec)) syntaxProgramsCard

/-- THE TIED CARD OF 'repriselaw02.SyntaxTypeBack'. -/
def syntaxTypeBackCard : Claim7 := { stood := { row := syntaxTypeBackRow, standIns := [], harness := (true, "8b59e109348a2f013afa19f524af0147307ea3b53892525c1f664d8d887f4274"), looks := true }, kinds := [], alts := [], laidByText := true, laidKinds := [.data, .data, .data, .sentinel, .sentinel, .listed, .data, .data], laidTests := true, laidLooks := .later }
def SyntaxTypeBackCardSaid : Prop := Claim7.holds Tryz.pinned (.plain (OpenSpec.ofChange syntaxTypeBackSpec)) syntaxTypeBackCard

/-- THE TIED CARD OF 'repriselaw02.SyntaxBlanks'. -/
def syntaxBlanksCard : Claim7 := { stood := { row := syntaxBlanksRow, standIns := [], harness := (true, "8b59e109348a2f013afa19f524af0147307ea3b53892525c1f664d8d887f4274"), looks := true }, kinds := [], alts := [], laidByText := true, laidKinds := [.data, .data, .data, .sentinel, .sentinel, .listed, .data, .data], laidTests := true, laidLooks := .later }
def SyntaxBlanksCardSaid : Prop := Claim7.holds Tryz.pinned (.plain (OpenSpec.ofChange syntaxBlanksSpec)) syntaxBlanksCard

/-- THE TIED CARD OF 'repriselaw02.SyntaxProgramBack'. -/
def syntaxProgramBackCard : Claim7 := { stood := { row := syntaxProgramBackRow, standIns := [], harness := (true, "8b59e109348a2f013afa19f524af0147307ea3b53892525c1f664d8d887f4274"), looks := true }, kinds := [], alts := [], laidByText := true, laidKinds := [.data, .data, .data, .sentinel, .sentinel, .listed, .data, .data], laidTests := true, laidLooks := .later }
def SyntaxProgramBackCardSaid : Prop := Claim7.holds Tryz.pinned (.plain (OpenSpec.ofChange syntaxProgramBackSpec)) syntaxProgramBackCard

/-- THE SECOND FORM's CARD OF 'repriselaw02.SyntaxTrees'. -/
def syntaxTreesUptoCard : Claim7 := { stood := { row := syntaxTreesUptoRow, standIns := [], harness := (true, "8b59e109348a2f013afa19f524af0147307ea3b53892525c1f664d8d887f4274"), looks := true }, kinds := [], alts := [], laidByText := true, laidKinds := [.data, .data, .data, .listed, .data, .data], laidTests := true, laidLooks := .later }
def SyntaxTreesUptoCardSaid : Prop := Claim7.holds Tryz.pinned (.plain (OpenSpec.upto syntaxTreesSpec)) syntaxTreesUptoCard

/-- THE SECOND FORM's CARD OF 'repriselaw02.SyntaxBack'. -/
def syntaxBackUptoCard : Claim7 := { stood := { row := syntaxBackUptoRow, standIns := [], harness := (true, "8b59e109348a2f013afa19f524af0147307ea3b53892525c1f664d8d887f4274"), looks := true }, kinds := [], alts := [], laidByText := true, laidKinds := [.data, .data, .data, .listed, .data, .data], laidTests := true, laidLooks := .later }
def SyntaxBackUptoCardSaid : Prop := Claim7.holds Tryz.pinned (.plain (OpenSpec.upto syntaxBackSpec)) syntaxBackUptoCard

/-- THE SECOND FORM's CARD OF 'repriselaw02.SyntaxParts'. -/
def syntaxPartsUptoCard : Claim7 := { stood := { row := syntaxPartsUptoRow, standIns := [], harness := (true, "8b59e109348a2f013afa19f524af0147307ea3b53892525c1f664d8d887f4274"), looks := true }, kinds := [], alts := [], laidByText := true, laidKinds := [.data, .data, .data, .listed, .data, .data], laidTests := true, laidLooks := .later }
def SyntaxPartsUptoCardSaid : Prop := Claim7.holds Tryz.pinned (.plain (OpenSpec.upto syntaxPartsSpec)) syntaxPartsUptoCard

/-- THE SECOND FORM's CARD OF 'repriselaw02.SyntaxSame'. -/
def syntaxSameUptoCard : Claim7 := { stood := { row := syntaxSameUptoRow, standIns := [], harness := (true, "8b59e109348a2f013afa19f524af0147307ea3b53892525c1f664d8d887f4274"), looks := true }, kinds := [], alts := [], laidByText := true, laidKinds := [.data, .data, .data, .listed, .data, .data], laidTests := true, laidLooks := .later }
def SyntaxSameUptoCardSaid : Prop := Claim7.holds Tryz.pinned (.plain (OpenSpec.upto syntaxSameSpec)) syntaxSameUptoCard

/-- THE SECOND FORM's CARD OF 'repriselaw02.SyntaxTypes'. -/
def syntaxTypesUptoCard : Claim7 := { stood := { row := syntaxTypesUptoRow, standIns := [], harness := (true, "8b59e109348a2f013afa19f524af0147307ea3b53892525c1f664d8d887f4274"), looks := true }, kinds := [], alts := [], laidByText := true, laidKinds := [.data, .data, .data, .listed, .data, .data], laidTests := true, laidLooks := .later }
def SyntaxTypesUptoCardSaid : Prop := Claim7.holds Tryz.pinned (.plain (OpenSpec.upto syntaxTypesSpec)) syntaxTypesUptoCard

/-- THE SECOND FORM's CARD OF 'repriselaw02.SyntaxWhole'. -/
def syntaxWholeUptoCard : Claim7 := { stood := { row := syntaxWholeUptoRow, standIns := [], harness := (true, "8b59e109348a2f013afa19f524af0147307ea3b53892525c1f664d8d887f4274"), looks := true }, kinds := [], alts := [], laidByText := true, laidKinds := [.data, .data, .data, .listed, .data, .data], laidTests := true, laidLooks := .later }
def SyntaxWholeUptoCardSaid : Prop := Claim7.holds Tryz.pinned (.plain (OpenSpec.upto syntaxWholeSpec)) syntaxWholeUptoCard

/-- THE SECOND FORM's CARD OF 'repriselaw02.SyntaxPrograms'. -/
def syntaxProgramsUptoCard : Claim7 := { stood := { row := syntaxProgramsUptoRow, standIns := [], harness := (true, "8b59e109348a2f013afa19f524af0147307ea3b53892525c1f664d8d887f4274"), looks := true }, kinds := [], alts := [], laidByText := true, laidKinds := [.data, .data, .data, .listed, .data, .data], laidTests := true, laidLooks := .later }
def SyntaxProgramsUptoCardSaid : Prop := Claim7.holds Tryz.pinned (.plain (OpenSpec.upto syntaxProgramsSpec)) syntaxProgramsUptoCard

/-- THE SECOND FORM's CARD OF 'repriselaw02.SyntaxTypeBack'. -/
def syntaxTypeBackUptoCard : Claim7 := { stood := { row := syntaxTypeBackUptoRow, standIns := [], harness := (true, "8b59e109348a2f013afa19f524af0147307ea3b53892525c1f664d8d887f4274"), looks := true }, kinds := [], alts := [], laidByText := true, laidKinds := [.data, .data, .data, .sentinel, .sentinel, .listed, .data, .data], laidTests := true, laidLooks := .later }
def SyntaxTypeBackUptoCardSaid : Prop := Claim7.holds Tryz.pinned (.plain (OpenSpec.upto syntaxTypeBackSpec)) syntaxTypeBackUptoCard

/-- THE SECOND FORM's CARD OF 'repriselaw02.SyntaxBlanks'. -/
def syntaxBlanksUptoCard : Claim7 := { stood := { row := syntaxBlanksUptoRow, standIns := [], harness := (true, "8b59e109348a2f013afa19f524af0147307ea3b53892525c1f664d8d887f4274"), looks := true }, kinds := [], alts := [], laidByText := true, laidKinds := [.data, .data, .data, .sentinel, .sentinel, .listed, .data, .data], laidTests := true, laidLooks := .later }
def SyntaxBlanksUptoCardSaid : Prop := Claim7.holds Tryz.pinned (.plain (OpenSpec.upto syntaxBlanksSpec)) syntaxBlanksUptoCard

/-- THE SECOND FORM's CARD OF 'repriselaw02.SyntaxProgramBack'. -/
def syntaxProgramBackUptoCard : Claim7 := { stood := { row := syntaxProgramBackUptoRow, standIns := [], harness := (true, "8b59e109348a2f013afa19f524af0147307ea3b53892525c1f664d8d887f4274"), looks := true }, kinds := [], alts := [], laidByText := true, laidKinds := [.data, .data, .data, .sentinel, .sentinel, .listed, .data, .data], laidTests := true, laidLooks := .later }
def SyntaxProgramBackUptoCardSaid : Prop := Claim7.holds Tryz.pinned (.plain (OpenSpec.upto syntaxProgramBackSpec)) syntaxProgramBackUptoCard
end Rows
end Go.Proofs.YtodiioeddlmjhaaGreatDoor
