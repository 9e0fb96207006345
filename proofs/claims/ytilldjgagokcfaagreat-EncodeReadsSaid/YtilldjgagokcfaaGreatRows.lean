/-
  NARROWER THAN 'FOR EVERY INPUT', by the rows' own cells (each row's printed sentence says how): EncodePrograms: loops · EncodeAgain: loops.
  DERIVED. THE GIVEN ROWS OF THIS SEAT. 3 by the template 'for every input the law returns true; each argument reads behind the call as it read before'; 0 by the template 'total and deterministic' (their statements: YtilldjgagokcfaaGreatTotals.lean).
  GIVEN WITH THE SEED: the statements are not yours to turn. If you find one false, say at which input.
  Laid BY PROGRAM, IN A SANDBOX (cutbox-rows.mjs): the forced cells as the released guide's own fill.sh prints them over the translation 415cd3350086c642… (all of the seat's roots in one cut). By AI agents, Wed Nov 11 2026. No macro, syntax, notation, axiom, sorry.
-/
import Derived.Test.YtilldjgagokcfaaGreatChecked
import GoSem.Claim
import GoSem.ClaimJoined
import GoSem.ClaimMapViews
import Derived.JoinedTies
import Derived.KernelRfl
namespace Go.Proofs.YtilldjgagokcfaaGreat
/- THE CELL 'sum', in the pinned program and in every row, IS THE sha256 OF THE DUMP (.gsa) THAT YtilldjgagokcfaaGreatProg.lean LOADS. Nothing in Lean hashes anything: it is a label: what it is worth is what the hold of that sum in a sandbox is worth. -/
noncomputable def Tryz.pinned : Pinned := { name := "ytilldjgagokcfaagreat", sum := "415cd3350086c64205c1204e434bee3da7b39107259b647658843e48ee172ad8", checked := Tryz.checked }
namespace Rows
def none {H : Type} : Left H := { results := [], args := [] }

/-- 'repriselaw18.EncodePrograms': WHATEVER THE INPUT: true; the input reads as it did. -/
def encodeProgramsSpec : ChangeSpec := { name := "encodePrograms", fn := fun _ => fun
  | [d1, d2] => { results := [.lit (.bool true)], args := [d1, d2] }
  | _ => none }
def encodeProgramsRow : OpenClaim := { program := "ytilldjgagokcfaagreat", sum := "415cd3350086c64205c1204e434bee3da7b39107259b647658843e48ee172ad8", func := "reprise/repriselaw18.EncodePrograms", spec := "encodePrograms", inPlace := ["internal/abi.NoEscape"], unfollowed := true, recurses := true, loops := true, apart := false }
def EncodeProgramsSaid : Prop := encodeProgramsRow.holds Tryz.pinned (OpenSpec.ofChange encodeProgramsSpec)

/-- ITS FALSE NEIGHBOUR: 'it returns false'. Refute it at one input. -/
def encodeProgramsWrong : ChangeSpec := { name := "encodePrograms", fn := fun _ => fun
  | [d1, d2] => { results := [.lit (.bool false)], args := [d1, d2] }
  | _ => none }
def EncodeProgramsWrongFalsely : Prop := encodeProgramsRow.holds Tryz.pinned (OpenSpec.ofChange encodeProgramsWrong)

/-- 'repriselaw18.EncodeReads': WHATEVER THE INPUT: true; the input reads as it did. -/
def encodeReadsSpec : ChangeSpec := { name := "encodeReads", fn := fun _ => fun
  | [d] => { results := [.lit (.bool true)], args := [d] }
  | _ => none }
def encodeReadsRow : OpenClaim := { program := "ytilldjgagokcfaagreat", sum := "415cd3350086c64205c1204e434bee3da7b39107259b647658843e48ee172ad8", func := "reprise/repriselaw18.EncodeReads", spec := "encodeReads", inPlace := ["internal/abi.NoEscape"], unfollowed := true, recurses := true, apart := false }
def EncodeReadsSaid : Prop := encodeReadsRow.holds Tryz.pinned (OpenSpec.ofChange encodeReadsSpec)

/-- ITS FALSE NEIGHBOUR: 'it returns false'. Refute it at one input. -/
def encodeReadsWrong : ChangeSpec := { name := "encodeReads", fn := fun _ => fun
  | [d] => { results := [.lit (.bool false)], args := [d] }
  | _ => none }
def EncodeReadsWrongFalsely : Prop := encodeReadsRow.holds Tryz.pinned (OpenSpec.ofChange encodeReadsWrong)

/-- 'repriselaw18.EncodeAgain': WHATEVER THE INPUT: true; the input reads as it did. -/
def encodeAgainSpec : ChangeSpec := { name := "encodeAgain", fn := fun _ => fun
  | [d1, d2, d3] => { results := [.lit (.bool true)], args := [d1, d2, d3] }
  | _ => none }
def encodeAgainRow : OpenClaim := { program := "ytilldjgagokcfaagreat", sum := "415cd3350086c64205c1204e434bee3da7b39107259b647658843e48ee172ad8", func := "reprise/repriselaw18.EncodeAgain", spec := "encodeAgain", inPlace := ["internal/abi.NoEscape"], unfollowed := true, recurses := true, loops := true, apart := false }
def EncodeAgainSaid : Prop := encodeAgainRow.holds Tryz.pinned (OpenSpec.ofChange encodeAgainSpec)

/-- ITS FALSE NEIGHBOUR: 'it returns false'. Refute it at one input. -/
def encodeAgainWrong : ChangeSpec := { name := "encodeAgain", fn := fun _ => fun
  | [d1, d2, d3] => { results := [.lit (.bool false)], args := [d1, d2, d3] }
  | _ => none }
def EncodeAgainWrongFalsely : Prop := encodeAgainRow.holds Tryz.pinned (OpenSpec.ofChange encodeAgainWrong)

/- THE SECOND FORM. 'bulk': how many values and letters a reading holds, each counted each time it is reached (what is shared counts as often as it is met; a slice's spare places count too). A statement '..UptoSaid' is the law's where the arguments, and the package variables that the reading takes, are together of bulk at most 1048576: NARROWER than '..Said'. Prove '..Said' where nothing that the law and all that it calls make is longer than what came in: it says more and counts as full. Else prove '..UptoSaid'. A law counts once. -/
mutual
def uptoBulk {H : Type} : DataW H → Nat
  | .lit (.string bytes) => bytes.length + 1
  | .lit _ => 1
  | .nil => 1
  | .ptr d => uptoBulk d + 1
  | .slice elems spare => uptoBulkAll elems + uptoBulkAll spare + 1
  | .agg parts => uptoBulkAll parts + 1
  | .iface _ d => uptoBulk d + 1
  | .map entries => uptoBulkEntries entries + 1
  | .held _ => 1
def uptoBulkAll {H : Type} : List (DataW H) → Nat
  | [] => 0
  | d :: r => uptoBulk d + uptoBulkAll r
def uptoBulkEntries {H : Type} : List (Lit × DataW H) → Nat
  | [] => 0
  | x :: r => uptoBulkEntry x + uptoBulkEntries r
def uptoBulkEntry {H : Type} : Lit × DataW H → Nat
  | (.string bytes, d) => bytes.length + uptoBulk d + 1
  | (_, d) => uptoBulk d + 1
 end
def uptoSmall : (H : Type) → List (DataW H) → Bool := fun _ ds => decide (uptoBulkAll ds ≤ 1048576)
def OpenSpec.upto (s : _root_.Go.ChangeSpec) : _root_.Go.OpenSpec := { _root_.Go.OpenSpec.ofChange s with cond := some uptoSmall }

/-- 'repriselaw18.EncodePrograms', WHERE WHAT IT READS IS OF BULK AT MOST 1048576: true; the input reads as it did. -/
def encodeProgramsUptoRow : OpenClaim := { program := "ytilldjgagokcfaagreat", sum := "415cd3350086c64205c1204e434bee3da7b39107259b647658843e48ee172ad8", func := "reprise/repriselaw18.EncodePrograms", spec := "encodePrograms", inPlace := ["internal/abi.NoEscape"], unfollowed := true, recurses := true, loops := true, apart := false, narrowed := true }
def EncodeProgramsUptoSaid : Prop := encodeProgramsUptoRow.holds Tryz.pinned (OpenSpec.upto encodeProgramsSpec)

/-- 'repriselaw18.EncodeReads', WHERE WHAT IT READS IS OF BULK AT MOST 1048576: true; the input reads as it did. -/
def encodeReadsUptoRow : OpenClaim := { program := "ytilldjgagokcfaagreat", sum := "415cd3350086c64205c1204e434bee3da7b39107259b647658843e48ee172ad8", func := "reprise/repriselaw18.EncodeReads", spec := "encodeReads", inPlace := ["internal/abi.NoEscape"], unfollowed := true, recurses := true, apart := false, narrowed := true }
def EncodeReadsUptoSaid : Prop := encodeReadsUptoRow.holds Tryz.pinned (OpenSpec.upto encodeReadsSpec)

/-- 'repriselaw18.EncodeAgain', WHERE WHAT IT READS IS OF BULK AT MOST 1048576: true; the input reads as it did. -/
def encodeAgainUptoRow : OpenClaim := { program := "ytilldjgagokcfaagreat", sum := "415cd3350086c64205c1204e434bee3da7b39107259b647658843e48ee172ad8", func := "reprise/repriselaw18.EncodeAgain", spec := "encodeAgain", inPlace := ["internal/abi.NoEscape"], unfollowed := true, recurses := true, loops := true, apart := false, narrowed := true }
def EncodeAgainUptoSaid : Prop := encodeAgainUptoRow.holds Tryz.pinned (OpenSpec.upto encodeAgainSpec)

end Rows
end Go.Proofs.YtilldjgagokcfaaGreat
