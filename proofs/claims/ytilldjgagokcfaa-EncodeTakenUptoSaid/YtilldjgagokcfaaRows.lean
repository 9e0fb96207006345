/-
  NARROWER THAN 'FOR EVERY INPUT', by the rows' own cells (each row's printed sentence says how): EncodeStates: loops · EncodeLarger: loops · EncodeChanged: loops.
  DERIVED. THE GIVEN ROWS OF THIS SEAT. 6 by the template 'for every input the law returns true; each argument reads behind the call as it read before'; 0 by the template 'total and deterministic' (their statements: YtilldjgagokcfaaTotals.lean).
  GIVEN WITH THE SEED: the statements are not yours to turn. If you find one false, say at which input.
  Laid BY PROGRAM, IN A SANDBOX (cutbox-rows.mjs): the forced cells as the released guide's own fill.sh prints them over the translation 448be916043401b9… (all of the seat's roots in one cut). By AI agents, Wed Nov 11 2026. No macro, syntax, notation, axiom, sorry.
-/
import Derived.Test.YtilldjgagokcfaaChecked
import GoSem.Claim
import GoSem.ClaimJoined
import GoSem.ClaimMapViews
import Derived.JoinedTies
import Derived.KernelRfl
namespace Go.Proofs.Ytilldjgagokcfaa
/- THE CELL 'sum', in the pinned program and in every row, IS THE sha256 OF THE DUMP (.gsa) THAT YtilldjgagokcfaaProg.lean LOADS. Nothing in Lean hashes anything: it is a label: what it is worth is what the hold of that sum in a sandbox is worth. -/
noncomputable def Try.pinned : Pinned := { name := "ytilldjgagokcfaa", sum := "448be916043401b92dccddfcdb8e73e3161dd49dcee43384297cacc9a9922bc0", checked := Try.checked }
namespace Rows
def none {H : Type} : Left H := { results := [], args := [] }

/-- 'repriselaw18.EncodeSums': WHATEVER THE INPUT: true; the input reads as it did. -/
def encodeSumsSpec : ChangeSpec := { name := "encodeSums", fn := fun _ => fun
  | [d1, d2] => { results := [.lit (.bool true)], args := [d1, d2] }
  | _ => none }
def encodeSumsRow : OpenClaim := { program := "ytilldjgagokcfaa", sum := "448be916043401b92dccddfcdb8e73e3161dd49dcee43384297cacc9a9922bc0", func := "reprise/repriselaw18.EncodeSums", spec := "encodeSums", inPlace := ["internal/abi.NoEscape"], unfollowed := true, recurses := true, apart := false }
def EncodeSumsSaid : Prop := encodeSumsRow.holds Try.pinned (OpenSpec.ofChange encodeSumsSpec)

/-- ITS FALSE NEIGHBOUR: 'it returns false'. Refute it at one input. -/
def encodeSumsWrong : ChangeSpec := { name := "encodeSums", fn := fun _ => fun
  | [d1, d2] => { results := [.lit (.bool false)], args := [d1, d2] }
  | _ => none }
def EncodeSumsWrongFalsely : Prop := encodeSumsRow.holds Try.pinned (OpenSpec.ofChange encodeSumsWrong)

/-- 'repriselaw18.EncodeKnown': WHATEVER THE INPUT: true; the input reads as it did. -/
def encodeKnownSpec : ChangeSpec := { name := "encodeKnown", fn := fun _ => fun
  | [] => { results := [.lit (.bool true)], args := [] }
  | _ => none }
def encodeKnownRow : OpenClaim := { program := "ytilldjgagokcfaa", sum := "448be916043401b92dccddfcdb8e73e3161dd49dcee43384297cacc9a9922bc0", func := "reprise/repriselaw18.EncodeKnown", spec := "encodeKnown", inPlace := ["internal/abi.NoEscape"], unfollowed := true, recurses := true, apart := false }
def EncodeKnownSaid : Prop := encodeKnownRow.holds Try.pinned (OpenSpec.ofChange encodeKnownSpec)

/-- ITS FALSE NEIGHBOUR: 'it returns false'. Refute it at one input. -/
def encodeKnownWrong : ChangeSpec := { name := "encodeKnown", fn := fun _ => fun
  | [] => { results := [.lit (.bool false)], args := [] }
  | _ => none }
def EncodeKnownWrongFalsely : Prop := encodeKnownRow.holds Try.pinned (OpenSpec.ofChange encodeKnownWrong)

/-- 'repriselaw18.EncodeStates': WHATEVER THE INPUT: true; the input reads as it did. -/
def encodeStatesSpec : ChangeSpec := { name := "encodeStates", fn := fun _ => fun
  | [d1, d2] => { results := [.lit (.bool true)], args := [d1, d2] }
  | _ => none }
def encodeStatesRow : OpenClaim := { program := "ytilldjgagokcfaa", sum := "448be916043401b92dccddfcdb8e73e3161dd49dcee43384297cacc9a9922bc0", func := "reprise/repriselaw18.EncodeStates", spec := "encodeStates", inPlace := ["internal/abi.NoEscape"], unfollowed := true, recurses := true, loops := true, apart := false }
def EncodeStatesSaid : Prop := encodeStatesRow.holds Try.pinned (OpenSpec.ofChange encodeStatesSpec)

/-- ITS FALSE NEIGHBOUR: 'it returns false'. Refute it at one input. -/
def encodeStatesWrong : ChangeSpec := { name := "encodeStates", fn := fun _ => fun
  | [d1, d2] => { results := [.lit (.bool false)], args := [d1, d2] }
  | _ => none }
def EncodeStatesWrongFalsely : Prop := encodeStatesRow.holds Try.pinned (OpenSpec.ofChange encodeStatesWrong)

/-- 'repriselaw18.EncodeLarger': WHATEVER THE INPUT: true; the input reads as it did. -/
def encodeLargerSpec : ChangeSpec := { name := "encodeLarger", fn := fun _ => fun
  | [d1, d2, d3] => { results := [.lit (.bool true)], args := [d1, d2, d3] }
  | _ => none }
def encodeLargerRow : OpenClaim := { program := "ytilldjgagokcfaa", sum := "448be916043401b92dccddfcdb8e73e3161dd49dcee43384297cacc9a9922bc0", func := "reprise/repriselaw18.EncodeLarger", spec := "encodeLarger", inPlace := ["internal/abi.NoEscape"], unfollowed := true, recurses := true, loops := true, apart := false }
def EncodeLargerSaid : Prop := encodeLargerRow.holds Try.pinned (OpenSpec.ofChange encodeLargerSpec)

/-- ITS FALSE NEIGHBOUR: 'it returns false'. Refute it at one input. -/
def encodeLargerWrong : ChangeSpec := { name := "encodeLarger", fn := fun _ => fun
  | [d1, d2, d3] => { results := [.lit (.bool false)], args := [d1, d2, d3] }
  | _ => none }
def EncodeLargerWrongFalsely : Prop := encodeLargerRow.holds Try.pinned (OpenSpec.ofChange encodeLargerWrong)

/-- 'repriselaw18.EncodeChanged': WHATEVER THE INPUT: true; the input reads as it did. -/
def encodeChangedSpec : ChangeSpec := { name := "encodeChanged", fn := fun _ => fun
  | [d1, d2, d3] => { results := [.lit (.bool true)], args := [d1, d2, d3] }
  | _ => none }
def encodeChangedRow : OpenClaim := { program := "ytilldjgagokcfaa", sum := "448be916043401b92dccddfcdb8e73e3161dd49dcee43384297cacc9a9922bc0", func := "reprise/repriselaw18.EncodeChanged", spec := "encodeChanged", inPlace := ["internal/abi.NoEscape"], unfollowed := true, recurses := true, loops := true, apart := false }
def EncodeChangedSaid : Prop := encodeChangedRow.holds Try.pinned (OpenSpec.ofChange encodeChangedSpec)

/-- ITS FALSE NEIGHBOUR: 'it returns false'. Refute it at one input. -/
def encodeChangedWrong : ChangeSpec := { name := "encodeChanged", fn := fun _ => fun
  | [d1, d2, d3] => { results := [.lit (.bool false)], args := [d1, d2, d3] }
  | _ => none }
def EncodeChangedWrongFalsely : Prop := encodeChangedRow.holds Try.pinned (OpenSpec.ofChange encodeChangedWrong)

/-- 'repriselaw18.EncodeTaken': WHATEVER THE INPUT: true; the input reads as it did. -/
def encodeTakenSpec : ChangeSpec := { name := "encodeTaken", fn := fun _ => fun
  | [d1, d2] => { results := [.lit (.bool true)], args := [d1, d2] }
  | _ => none }
def encodeTakenRow : OpenClaim := { program := "ytilldjgagokcfaa", sum := "448be916043401b92dccddfcdb8e73e3161dd49dcee43384297cacc9a9922bc0", func := "reprise/repriselaw18.EncodeTaken", spec := "encodeTaken", inPlace := ["internal/abi.NoEscape"], unfollowed := true, recurses := true, apart := false }
def EncodeTakenSaid : Prop := encodeTakenRow.holds Try.pinned (OpenSpec.ofChange encodeTakenSpec)

/-- ITS FALSE NEIGHBOUR: 'it returns false'. Refute it at one input. -/
def encodeTakenWrong : ChangeSpec := { name := "encodeTaken", fn := fun _ => fun
  | [d1, d2] => { results := [.lit (.bool false)], args := [d1, d2] }
  | _ => none }
def EncodeTakenWrongFalsely : Prop := encodeTakenRow.holds Try.pinned (OpenSpec.ofChange encodeTakenWrong)

/- THE SECOND FORM. 'bulk': how many values and letters a reading holds, each counted each time it is reached (what is shared counts as often as it is met; a slice's spare places count too). A statement '..UptoSaid' is the law's where the arguments, and the package variables that the reading takes, are together of bulk at most 1048576: NARROWER than '..Said'. Prove '..Said' where nothing that the law and all that it calls make is longer than what came in: it says more and counts as full. Else prove '..UptoSaid'. A law counts once. -/
mutual
def uptoBulk {H : Type} : DataW H → Nat
  | .lit (.string bytes) => bytes.length + 1
  | .lit _ => 1
  | .nil => 1
  | .ptr d => uptoBulk d + 1
  | .slice elems spare => uptoBulkAll elems + uptoBulkAll spare + 1
  | .agg parts => uptoBulkAll parts + 1
  | .iface _ d => uptoBulk d + 1
  | .map entries => uptoBulkEntries entries + 1
  | .held _ => 1
def uptoBulkAll {H : Type} : List (DataW H) → Nat
  | [] => 0
  | d :: r => uptoBulk d + uptoBulkAll r
def uptoBulkEntries {H : Type} : List (Lit × DataW H) → Nat
  | [] => 0
  | x :: r => uptoBulkEntry x + uptoBulkEntries r
def uptoBulkEntry {H : Type} : Lit × DataW H → Nat
  | (.string bytes, d) => bytes.length + uptoBulk d + 1
  | (_, d) => uptoBulk d + 1
 end
def uptoSmall : (H : Type) → List (DataW H) → Bool := fun _ ds => decide (uptoBulkAll ds ≤ 1048576)
def OpenSpec.upto (s : _root_.Go.ChangeSpec) : _root_.Go.OpenSpec := { _root_.Go.OpenSpec.ofChange s with cond := some uptoSmall }

/-- 'repriselaw18.EncodeSums', WHERE WHAT IT READS IS OF BULK AT MOST 1048576: true; the input reads as it did. -/
def encodeSumsUptoRow : OpenClaim := { program := "ytilldjgagokcfaa", sum := "448be916043401b92dccddfcdb8e73e3161dd49dcee43384297cacc9a9922bc0", func := "reprise/repriselaw18.EncodeSums", spec := "encodeSums", inPlace := ["internal/abi.NoEscape"], unfollowed := true, recurses := true, apart := false, narrowed := true }
def EncodeSumsUptoSaid : Prop := encodeSumsUptoRow.holds Try.pinned (OpenSpec.upto encodeSumsSpec)

/-- 'repriselaw18.EncodeKnown', WHERE WHAT IT READS IS OF BULK AT MOST 1048576: true; the input reads as it did. -/
def encodeKnownUptoRow : OpenClaim := { program := "ytilldjgagokcfaa", sum := "448be916043401b92dccddfcdb8e73e3161dd49dcee43384297cacc9a9922bc0", func := "reprise/repriselaw18.EncodeKnown", spec := "encodeKnown", inPlace := ["internal/abi.NoEscape"], unfollowed := true, recurses := true, apart := false, narrowed := true }
def EncodeKnownUptoSaid : Prop := encodeKnownUptoRow.holds Try.pinned (OpenSpec.upto encodeKnownSpec)

/-- 'repriselaw18.EncodeStates', WHERE WHAT IT READS IS OF BULK AT MOST 1048576: true; the input reads as it did. -/
def encodeStatesUptoRow : OpenClaim := { program := "ytilldjgagokcfaa", sum := "448be916043401b92dccddfcdb8e73e3161dd49dcee43384297cacc9a9922bc0", func := "reprise/repriselaw18.EncodeStates", spec := "encodeStates", inPlace := ["internal/abi.NoEscape"], unfollowed := true, recurses := true, loops := true, apart := false, narrowed := true }
def EncodeStatesUptoSaid : Prop := encodeStatesUptoRow.holds Try.pinned (OpenSpec.upto encodeStatesSpec)

/-- 'repriselaw18.EncodeLarger', WHERE WHAT IT READS IS OF BULK AT MOST 1048576: true; the input reads as it did. -/
def encodeLargerUptoRow : OpenClaim := { program := "ytilldjgagokcfaa", sum := "448be916043401b92dccddfcdb8e73e3161dd49dcee43384297cacc9a9922bc0", func := "reprise/repriselaw18.EncodeLarger", spec := "encodeLarger", inPlace := ["internal/abi.NoEscape"], unfollowed := true, recurses := true, loops := true, apart := false, narrowed := true }
def EncodeLargerUptoSaid : Prop := encodeLargerUptoRow.holds Try.pinned (OpenSpec.upto encodeLargerSpec)

/-- 'repriselaw18.EncodeChanged', WHERE WHAT IT READS IS OF BULK AT MOST 1048576: true; the input reads as it did. -/
def encodeChangedUptoRow : OpenClaim := { program := "ytilldjgagokcfaa", sum := "448be916043401b92dccddfcdb8e73e3161dd49dcee43384297cacc9a9922bc0", func := "reprise/repriselaw18.EncodeChanged", spec := "encodeChanged", inPlace := ["internal/abi.NoEscape"], unfollowed := true, recurses := true, loops := true, apart := false, narrowed := true }
def EncodeChangedUptoSaid : Prop := encodeChangedUptoRow.holds Try.pinned (OpenSpec.upto encodeChangedSpec)

/-- 'repriselaw18.EncodeTaken', WHERE WHAT IT READS IS OF BULK AT MOST 1048576: true; the input reads as it did. -/
def encodeTakenUptoRow : OpenClaim := { program := "ytilldjgagokcfaa", sum := "448be916043401b92dccddfcdb8e73e3161dd49dcee43384297cacc9a9922bc0", func := "reprise/repriselaw18.EncodeTaken", spec := "encodeTaken", inPlace := ["internal/abi.NoEscape"], unfollowed := true, recurses := true, apart := false, narrowed := true }
def EncodeTakenUptoSaid : Prop := encodeTakenUptoRow.holds Try.pinned (OpenSpec.upto encodeTakenSpec)

end Rows
end Go.Proofs.Ytilldjgagokcfaa
