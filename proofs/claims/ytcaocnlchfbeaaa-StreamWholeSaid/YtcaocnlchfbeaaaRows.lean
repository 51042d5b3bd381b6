/-
  No cell of these rows narrows 'for every input' (looked for: loops, veiled, ifaces, maps, wideKeys, modest, calm, conditions, laid).
  DERIVED. THE GIVEN ROWS OF THIS SEAT. 10 by the template 'for every input the law returns true; each argument reads behind the call as it read before'; 0 by the template 'total and deterministic' (their statements: YtcaocnlchfbeaaaTotals.lean).
  GIVEN WITH THE SEED: the statements are not yours to turn. If you find one false, say at which input.
  Laid BY PROGRAM, IN A SANDBOX (cutbox-rows.mjs): the forced cells as the released guide's own fill.sh prints them over the translation 78abc17c3cf057b3… (all of the seat's roots in one cut). By AI agents, Wed Nov 11 2026. No macro, syntax, notation, axiom, sorry.
-/
import Derived.Test.YtcaocnlchfbeaaaChecked
import GoSem.Claim
import GoSem.ClaimJoined
import GoSem.ClaimMapViews
import Derived.JoinedTies
import Derived.KernelRfl
namespace Go.Proofs.Ytcaocnlchfbeaaa
/- THE CELL 'sum', in the pinned program and in every row, IS THE sha256 OF THE DUMP (.gsa) THAT YtcaocnlchfbeaaaProg.lean LOADS. Nothing in Lean hashes anything: it is a label: what it is worth is what the hold of that sum in a sandbox is worth. -/
noncomputable def Try.pinned : Pinned := { name := "ytcaocnlchfbeaaa", sum := "78abc17c3cf057b306ee4069a7d58214810692d3800d51b46309f710fe1f9c03", checked := Try.checked }
namespace Rows
def none {H : Type} : Left H := { results := [], args := [] }

/-- 'milepostlaw32.StreamNone': WHATEVER THE INPUT: true; the input reads as it did. -/
def streamNoneSpec : ChangeSpec := { name := "streamNone", fn := fun _ => fun
  | [d] => { results := [.lit (.bool true)], args := [d] }
  | _ => none }
def streamNoneRow : OpenClaim := { program := "ytcaocnlchfbeaaa", sum := "78abc17c3cf057b306ee4069a7d58214810692d3800d51b46309f710fe1f9c03", func := "milepost/milepostlaw32.StreamNone", spec := "streamNone", unfollowed := true, recurses := true, apart := false }
def StreamNoneSaid : Prop := streamNoneRow.holds Try.pinned (OpenSpec.ofChange streamNoneSpec)

/-- ITS FALSE NEIGHBOUR: 'it returns false'. Refute it at one input. -/
def streamNoneWrong : ChangeSpec := { name := "streamNone", fn := fun _ => fun
  | [d] => { results := [.lit (.bool false)], args := [d] }
  | _ => none }
def StreamNoneWrongFalsely : Prop := streamNoneRow.holds Try.pinned (OpenSpec.ofChange streamNoneWrong)

/-- 'milepostlaw29.StepTakes': WHATEVER THE INPUT: true; the input reads as it did. -/
def stepTakesSpec : ChangeSpec := { name := "stepTakes", fn := fun _ => fun
  | [d] => { results := [.lit (.bool true)], args := [d] }
  | _ => none }
def stepTakesRow : OpenClaim := { program := "ytcaocnlchfbeaaa", sum := "78abc17c3cf057b306ee4069a7d58214810692d3800d51b46309f710fe1f9c03", func := "milepost/milepostlaw29.StepTakes", spec := "stepTakes", inPlace := ["internal/abi.NoEscape"], unfollowed := true, recurses := true, apart := false }
def StepTakesSaid : Prop := stepTakesRow.holds Try.pinned (OpenSpec.ofChange stepTakesSpec)

/-- ITS FALSE NEIGHBOUR: 'it returns false'. Refute it at one input. -/
def stepTakesWrong : ChangeSpec := { name := "stepTakes", fn := fun _ => fun
  | [d] => { results := [.lit (.bool false)], args := [d] }
  | _ => none }
def StepTakesWrongFalsely : Prop := stepTakesRow.holds Try.pinned (OpenSpec.ofChange stepTakesWrong)

/-- 'milepostlaw29.StepBack': WHATEVER THE INPUT: true; the input reads as it did. -/
def stepBackSpec : ChangeSpec := { name := "stepBack", fn := fun _ => fun
  | [d1, d2, d3] => { results := [.lit (.bool true)], args := [d1, d2, d3] }
  | _ => none }
def stepBackRow : OpenClaim := { program := "ytcaocnlchfbeaaa", sum := "78abc17c3cf057b306ee4069a7d58214810692d3800d51b46309f710fe1f9c03", func := "milepost/milepostlaw29.StepBack", spec := "stepBack", inPlace := ["internal/abi.NoEscape"], unfollowed := true, recurses := true, apart := false }
def StepBackSaid : Prop := stepBackRow.holds Try.pinned (OpenSpec.ofChange stepBackSpec)

/-- ITS FALSE NEIGHBOUR: 'it returns false'. Refute it at one input. -/
def stepBackWrong : ChangeSpec := { name := "stepBack", fn := fun _ => fun
  | [d1, d2, d3] => { results := [.lit (.bool false)], args := [d1, d2, d3] }
  | _ => none }
def StepBackWrongFalsely : Prop := stepBackRow.holds Try.pinned (OpenSpec.ofChange stepBackWrong)

/-- 'milepostlaw32.StreamWhole': WHATEVER THE INPUT: true; the input reads as it did. -/
def streamWholeSpec : ChangeSpec := { name := "streamWhole", fn := fun _ => fun
  | [d] => { results := [.lit (.bool true)], args := [d] }
  | _ => none }
def streamWholeRow : OpenClaim := { program := "ytcaocnlchfbeaaa", sum := "78abc17c3cf057b306ee4069a7d58214810692d3800d51b46309f710fe1f9c03", func := "milepost/milepostlaw32.StreamWhole", spec := "streamWhole", unfollowed := true, recurses := true, apart := false }
def StreamWholeSaid : Prop := streamWholeRow.holds Try.pinned (OpenSpec.ofChange streamWholeSpec)

/-- ITS FALSE NEIGHBOUR: 'it returns false'. Refute it at one input. -/
def streamWholeWrong : ChangeSpec := { name := "streamWhole", fn := fun _ => fun
  | [d] => { results := [.lit (.bool false)], args := [d] }
  | _ => none }
def StreamWholeWrongFalsely : Prop := streamWholeRow.holds Try.pinned (OpenSpec.ofChange streamWholeWrong)

/-- 'milepostlaw30.ProofDecodes': WHATEVER THE INPUT: true; the input reads as it did. -/
def proofDecodesSpec : ChangeSpec := { name := "proofDecodes", fn := fun _ => fun
  | [d] => { results := [.lit (.bool true)], args := [d] }
  | _ => none }
def proofDecodesRow : OpenClaim := { program := "ytcaocnlchfbeaaa", sum := "78abc17c3cf057b306ee4069a7d58214810692d3800d51b46309f710fe1f9c03", func := "milepost/milepostlaw30.ProofDecodes", spec := "proofDecodes", inPlace := ["internal/abi.NoEscape"], unfollowed := true, recurses := true, apart := false }
def ProofDecodesSaid : Prop := proofDecodesRow.holds Try.pinned (OpenSpec.ofChange proofDecodesSpec)

/-- ITS FALSE NEIGHBOUR: 'it returns false'. Refute it at one input. -/
def proofDecodesWrong : ChangeSpec := { name := "proofDecodes", fn := fun _ => fun
  | [d] => { results := [.lit (.bool false)], args := [d] }
  | _ => none }
def ProofDecodesWrongFalsely : Prop := proofDecodesRow.holds Try.pinned (OpenSpec.ofChange proofDecodesWrong)

/-- 'milepostlaw30.ProofEncodes': WHATEVER THE INPUT: true; the input reads as it did. -/
def proofEncodesSpec : ChangeSpec := { name := "proofEncodes", fn := fun _ => fun
  | [d1, d2, d3] => { results := [.lit (.bool true)], args := [d1, d2, d3] }
  | _ => none }
def proofEncodesRow : OpenClaim := { program := "ytcaocnlchfbeaaa", sum := "78abc17c3cf057b306ee4069a7d58214810692d3800d51b46309f710fe1f9c03", func := "milepost/milepostlaw30.ProofEncodes", spec := "proofEncodes", inPlace := ["internal/abi.NoEscape"], unfollowed := true, recurses := true, apart := false }
def ProofEncodesSaid : Prop := proofEncodesRow.holds Try.pinned (OpenSpec.ofChange proofEncodesSpec)

/-- ITS FALSE NEIGHBOUR: 'it returns false'. Refute it at one input. -/
def proofEncodesWrong : ChangeSpec := { name := "proofEncodes", fn := fun _ => fun
  | [d1, d2, d3] => { results := [.lit (.bool false)], args := [d1, d2, d3] }
  | _ => none }
def ProofEncodesWrongFalsely : Prop := proofEncodesRow.holds Try.pinned (OpenSpec.ofChange proofEncodesWrong)

/-- 'milepostlaw30.ProofBack': WHATEVER THE INPUT: true; the input reads as it did. -/
def proofBackSpec : ChangeSpec := { name := "proofBack", fn := fun _ => fun
  | [d1, d2] => { results := [.lit (.bool true)], args := [d1, d2] }
  | _ => none }
def proofBackRow : OpenClaim := { program := "ytcaocnlchfbeaaa", sum := "78abc17c3cf057b306ee4069a7d58214810692d3800d51b46309f710fe1f9c03", func := "milepost/milepostlaw30.ProofBack", spec := "proofBack", inPlace := ["internal/abi.NoEscape"], unfollowed := true, recurses := true, apart := false }
def ProofBackSaid : Prop := proofBackRow.holds Try.pinned (OpenSpec.ofChange proofBackSpec)

/-- ITS FALSE NEIGHBOUR: 'it returns false'. Refute it at one input. -/
def proofBackWrong : ChangeSpec := { name := "proofBack", fn := fun _ => fun
  | [d1, d2] => { results := [.lit (.bool false)], args := [d1, d2] }
  | _ => none }
def ProofBackWrongFalsely : Prop := proofBackRow.holds Try.pinned (OpenSpec.ofChange proofBackWrong)

/-- 'milepostlaw31.InfixEncodes': WHATEVER THE INPUT: true; the input reads as it did. -/
def infixEncodesSpec : ChangeSpec := { name := "infixEncodes", fn := fun _ => fun
  | [d1, d2] => { results := [.lit (.bool true)], args := [d1, d2] }
  | _ => none }
def infixEncodesRow : OpenClaim := { program := "ytcaocnlchfbeaaa", sum := "78abc17c3cf057b306ee4069a7d58214810692d3800d51b46309f710fe1f9c03", func := "milepost/milepostlaw31.InfixEncodes", spec := "infixEncodes", inPlace := ["internal/abi.NoEscape"], unfollowed := true, recurses := true, apart := false }
def InfixEncodesSaid : Prop := infixEncodesRow.holds Try.pinned (OpenSpec.ofChange infixEncodesSpec)

/-- ITS FALSE NEIGHBOUR: 'it returns false'. Refute it at one input. -/
def infixEncodesWrong : ChangeSpec := { name := "infixEncodes", fn := fun _ => fun
  | [d1, d2] => { results := [.lit (.bool false)], args := [d1, d2] }
  | _ => none }
def InfixEncodesWrongFalsely : Prop := infixEncodesRow.holds Try.pinned (OpenSpec.ofChange infixEncodesWrong)

/-- 'milepostlaw31.InfixDecodes': WHATEVER THE INPUT: true; the input reads as it did. -/
def infixDecodesSpec : ChangeSpec := { name := "infixDecodes", fn := fun _ => fun
  | [d] => { results := [.lit (.bool true)], args := [d] }
  | _ => none }
def infixDecodesRow : OpenClaim := { program := "ytcaocnlchfbeaaa", sum := "78abc17c3cf057b306ee4069a7d58214810692d3800d51b46309f710fe1f9c03", func := "milepost/milepostlaw31.InfixDecodes", spec := "infixDecodes", inPlace := ["internal/abi.NoEscape"], unfollowed := true, recurses := true, apart := false }
def InfixDecodesSaid : Prop := infixDecodesRow.holds Try.pinned (OpenSpec.ofChange infixDecodesSpec)

/-- ITS FALSE NEIGHBOUR: 'it returns false'. Refute it at one input. -/
def infixDecodesWrong : ChangeSpec := { name := "infixDecodes", fn := fun _ => fun
  | [d] => { results := [.lit (.bool false)], args := [d] }
  | _ => none }
def InfixDecodesWrongFalsely : Prop := infixDecodesRow.holds Try.pinned (OpenSpec.ofChange infixDecodesWrong)

/-- 'milepostlaw31.InfixBack': WHATEVER THE INPUT: true; the input reads as it did. -/
def infixBackSpec : ChangeSpec := { name := "infixBack", fn := fun _ => fun
  | [d1, d2] => { results := [.lit (.bool true)], args := [d1, d2] }
  | _ => none }
def infixBackRow : OpenClaim := { program := "ytcaocnlchfbeaaa", sum := "78abc17c3cf057b306ee4069a7d58214810692d3800d51b46309f710fe1f9c03", func := "milepost/milepostlaw31.InfixBack", spec := "infixBack", inPlace := ["internal/abi.NoEscape"], unfollowed := true, recurses := true, apart := false }
def InfixBackSaid : Prop := infixBackRow.holds Try.pinned (OpenSpec.ofChange infixBackSpec)

/-- ITS FALSE NEIGHBOUR: 'it returns false'. Refute it at one input. -/
def infixBackWrong : ChangeSpec := { name := "infixBack", fn := fun _ => fun
  | [d1, d2] => { results := [.lit (.bool false)], args := [d1, d2] }
  | _ => none }
def InfixBackWrongFalsely : Prop := infixBackRow.holds Try.pinned (OpenSpec.ofChange infixBackWrong)

/- THE SECOND FORM. 'bulk': how many values and letters a reading holds, each counted each time it is reached (what is shared counts as often as it is met; a slice's spare places count too). A statement '..UptoSaid' is the law's where the arguments, and the package variables that the reading takes, are together of bulk at most 1048576: NARROWER than '..Said'. Prove '..Said' where nothing that the law and all that it calls make is longer than what came in: it says more and counts as full. Else prove '..UptoSaid'. A law counts once. -/
mutual
def uptoBulk {H : Type} : DataW H → Nat
  | .lit (.string bytes) => bytes.length + 1
  | .lit _ => 1
  | .nil => 1
  | .ptr d => uptoBulk d + 1
  | .slice elems spare => uptoBulkAll elems + uptoBulkAll spare + 1
  | .agg parts => uptoBulkAll parts + 1
  | .iface _ d => uptoBulk d + 1
  | .map entries => uptoBulkEntries entries + 1
  | .held _ => 1
def uptoBulkAll {H : Type} : List (DataW H) → Nat
  | [] => 0
  | d :: r => uptoBulk d + uptoBulkAll r
def uptoBulkEntries {H : Type} : List (Lit × DataW H) → Nat
  | [] => 0
  | x :: r => uptoBulkEntry x + uptoBulkEntries r
def uptoBulkEntry {H : Type} : Lit × DataW H → Nat
  | (.string bytes, d) => bytes.length + uptoBulk d + 1
  | (_, d) => uptoBulk d + 1
 end
def uptoSmall : (H : Type) → List (DataW H) → Bool := fun _ ds => decide (uptoBulkAll ds ≤ 1048576)
def OpenSpec.upto (s : _root_.Go.ChangeSpec) : _root_.Go.OpenSpec := { _root_.Go.OpenSpec.ofChange s with cond := some uptoSmall }

/-- 'milepostlaw32.StreamNone', WHERE WHAT IT READS IS OF BULK AT MOST 1048576: true; the input reads as it did. -/
def streamNoneUptoRow : OpenClaim := { program := "ytcaocnlchfbeaaa", sum := "78abc17c3cf057b306ee4069a7d58214810692d3800d51b46309f710fe1f9c03", func := "milepost/milepostlaw32.StreamNone", spec := "streamNone", unfollowed := true, recurses := true, apart := false, narrowed := true }
def StreamNoneUptoSaid : Prop := streamNoneUptoRow.holds Try.pinned (OpenSpec.upto streamNoneSpec)

/-- 'milepostlaw29.StepTakes', WHERE WHAT IT READS IS OF BULK AT MOST 1048576: true; the input reads as it did. -/
def stepTakesUptoRow : OpenClaim := { program := "ytcaocnlchfbeaaa", sum := "78abc17c3cf057b306ee4069a7d58214810692d3800d51b46309f710fe1f9c03", func := "milepost/milepostlaw29.StepTakes", spec := "stepTakes", inPlace := ["internal/abi.NoEscape"], unfollowed := true, recurses := true, apart := false, narrowed := true }
def StepTakesUptoSaid : Prop := stepTakesUptoRow.holds Try.pinned (OpenSpec.upto stepTakesSpec)

/-- 'milepostlaw29.StepBack', WHERE WHAT IT READS IS OF BULK AT MOST 1048576: true; the input reads as it did. -/
def stepBackUptoRow : OpenClaim := { program := "ytcaocnlchfbeaaa", sum := "78abc17c3cf057b306ee4069a7d58214810692d3800d51b46309f710fe1f9c03", func := "milepost/milepostlaw29.StepBack", spec := "stepBack", inPlace := ["internal/abi.NoEscape"], unfollowed := true, recurses := true, apart := false, narrowed := true }
def StepBackUptoSaid : Prop := stepBackUptoRow.holds Try.pinned (OpenSpec.upto stepBackSpec)

/-- 'milepostlaw32.StreamWhole', WHERE WHAT IT READS IS OF BULK AT MOST 1048576: true; the input reads as it did. -/
def streamWholeUptoRow : OpenClaim := { program := "ytcaocnlchfbeaaa", sum := "78abc17c3cf057b306ee4069a7d58214810692d3800d51b46309f710fe1f9c03", func := "milepost/milepostlaw32.StreamWhole", spec := "streamWhole", unfollowed := true, recurses := true, apart := false, narrowed := true }
def StreamWholeUptoSaid : Prop := streamWholeUptoRow.holds Try.pinned (OpenSpec.upto streamWholeSpec)

/-- 'milepostlaw30.ProofDecodes', WHERE WHAT IT READS IS OF BULK AT MOST 1048576: true; the input reads as it did. -/
def proofDecodesUptoRow : OpenClaim := { program := "ytcaocnlchfbeaaa", sum := "78abc17c3cf057b306ee4069a7d58214810692d3800d51b46309f710fe1f9c03", func := "milepost/milepostlaw30.ProofDecodes", spec := "proofDecodes", inPlace := ["internal/abi.NoEscape"], unfollowed := true, recurses := true, apart := false, narrowed := true }
def ProofDecodesUptoSaid : Prop := proofDecodesUptoRow.holds Try.pinned (OpenSpec.upto proofDecodesSpec)

/-- 'milepostlaw30.ProofEncodes', WHERE WHAT IT READS IS OF BULK AT MOST 1048576: true; the input reads as it did. -/
def proofEncodesUptoRow : OpenClaim := { program := "ytcaocnlchfbeaaa", sum := "78abc17c3cf057b306ee4069a7d58214810692d3800d51b46309f710fe1f9c03", func := "milepost/milepostlaw30.ProofEncodes", spec := "proofEncodes", inPlace := ["internal/abi.NoEscape"], unfollowed := true, recurses := true, apart := false, narrowed := true }
def ProofEncodesUptoSaid : Prop := proofEncodesUptoRow.holds Try.pinned (OpenSpec.upto proofEncodesSpec)

/-- 'milepostlaw30.ProofBack', WHERE WHAT IT READS IS OF BULK AT MOST 1048576: true; the input reads as it did. -/
def proofBackUptoRow : OpenClaim := { program := "ytcaocnlchfbeaaa", sum := "78abc17c3cf057b306ee4069a7d58214810692d3800d51b46309f710fe1f9c03", func := "milepost/milepostlaw30.ProofBack", spec := "proofBack", inPlace := ["internal/abi.NoEscape"], unfollowed := true, recurses := true, apart := false, narrowed := true }
def ProofBackUptoSaid : Prop := proofBackUptoRow.holds Try.pinned (OpenSpec.upto proofBackSpec)

/-- 'milepostlaw31.InfixEncodes', WHERE WHAT IT READS IS OF BULK AT MOST 1048576: true; the input reads as it did. -/
def infixEncodesUptoRow : OpenClaim := { program := "ytcaocnlchfbeaaa", sum := "78abc17c3cf057b306ee4069a7d58214810692d3800d51b46309f710fe1f9c03", func := "milepost/milepostlaw31.InfixEncodes", spec := "infixEncodes", inPlace := ["internal/abi.NoEscape"], unfollowed := true, recurses := true, apart := false, narrowed := true }
def InfixEncodesUptoSaid : Prop := infixEncodesUptoRow.holds Try.pinned (OpenSpec.upto infixEncodesSpec)

/-- 'milepostlaw31.InfixDecodes', WHERE WHAT IT READS IS OF BULK AT MOST 1048576: true; the input reads as it did. -/
def infixDecodesUptoRow : OpenClaim := { program := "ytcaocnlchfbeaaa", sum := "78abc17c3cf057b306ee4069a7d58214810692d3800d51b46309f710fe1f9c03", func := "milepost/milepostlaw31.InfixDecodes", spec := "infixDecodes", inPlace := ["internal/abi.NoEscape"], unfollowed := true, recurses := true, apart := false, narrowed := true }
def InfixDecodesUptoSaid : Prop := infixDecodesUptoRow.holds Try.pinned (OpenSpec.upto infixDecodesSpec)

/-- 'milepostlaw31.InfixBack', WHERE WHAT IT READS IS OF BULK AT MOST 1048576: true; the input reads as it did. -/
def infixBackUptoRow : OpenClaim := { program := "ytcaocnlchfbeaaa", sum := "78abc17c3cf057b306ee4069a7d58214810692d3800d51b46309f710fe1f9c03", func := "milepost/milepostlaw31.InfixBack", spec := "infixBack", inPlace := ["internal/abi.NoEscape"], unfollowed := true, recurses := true, apart := false, narrowed := true }
def InfixBackUptoSaid : Prop := infixBackUptoRow.holds Try.pinned (OpenSpec.upto infixBackSpec)

end Rows
end Go.Proofs.Ytcaocnlchfbeaaa
