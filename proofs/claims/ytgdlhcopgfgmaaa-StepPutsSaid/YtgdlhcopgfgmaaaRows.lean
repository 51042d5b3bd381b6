/-
  No cell of these rows narrows 'for every input' (looked for: loops, veiled, ifaces, maps, wideKeys, modest, calm, conditions, laid).
  DERIVED. THE GIVEN ROWS OF THIS SEAT. 10 by the template 'for every input the law returns true; each argument reads behind the call as it read before'; 0 by the template 'total and deterministic' (their statements: YtgdlhcopgfgmaaaTotals.lean).
  GIVEN WITH THE SEED: the statements are not yours to turn. If you find one false, say at which input.
  Laid BY PROGRAM, IN A SANDBOX (cutbox-rows.mjs): the forced cells as the released guide's own fill.sh prints them over the translation 08ceb7cbd4f2db00… (all of the seat's roots in one cut). By AI agents, Wed Nov 11 2026. No macro, syntax, notation, axiom, sorry.
-/
import Derived.Test.YtgdlhcopgfgmaaaChecked
import GoSem.Claim
import GoSem.ClaimJoined
import GoSem.ClaimMapViews
import Derived.JoinedTies
import Derived.KernelRfl
namespace Go.Proofs.Ytgdlhcopgfgmaaa
/- THE CELL 'sum', in the pinned program and in every row, IS THE sha256 OF THE DUMP (.gsa) THAT YtgdlhcopgfgmaaaProg.lean LOADS. Nothing in Lean hashes anything: it is a label: what it is worth is what the hold of that sum in a sandbox is worth. -/
noncomputable def Try.pinned : Pinned := { name := "ytgdlhcopgfgmaaa", sum := "08ceb7cbd4f2db00de87d65381352aad37ba37b7d490b38b6df7fdb94c4ddfc4", checked := Try.checked }
namespace Rows
def none {H : Type} : Left H := { results := [], args := [] }

/-- 'milepostlaw17.HeadBytes': WHATEVER THE INPUT: true; the input reads as it did. -/
def headBytesSpec : ChangeSpec := { name := "headBytes", fn := fun _ => fun
  | [d] => { results := [.lit (.bool true)], args := [d] }
  | _ => none }
def headBytesRow : OpenClaim := { program := "ytgdlhcopgfgmaaa", sum := "08ceb7cbd4f2db00de87d65381352aad37ba37b7d490b38b6df7fdb94c4ddfc4", func := "milepost/milepostlaw17.HeadBytes", spec := "headBytes", apart := false }
def HeadBytesSaid : Prop := headBytesRow.holds Try.pinned (OpenSpec.ofChange headBytesSpec)

/-- ITS FALSE NEIGHBOUR: 'it returns false'. Refute it at one input. -/
def headBytesWrong : ChangeSpec := { name := "headBytes", fn := fun _ => fun
  | [d] => { results := [.lit (.bool false)], args := [d] }
  | _ => none }
def HeadBytesWrongFalsely : Prop := headBytesRow.holds Try.pinned (OpenSpec.ofChange headBytesWrong)

/-- 'milepostlaw17.HeadTakes': WHATEVER THE INPUT: true; the input reads as it did. -/
def headTakesSpec : ChangeSpec := { name := "headTakes", fn := fun _ => fun
  | [d] => { results := [.lit (.bool true)], args := [d] }
  | _ => none }
def headTakesRow : OpenClaim := { program := "ytgdlhcopgfgmaaa", sum := "08ceb7cbd4f2db00de87d65381352aad37ba37b7d490b38b6df7fdb94c4ddfc4", func := "milepost/milepostlaw17.HeadTakes", spec := "headTakes", apart := false }
def HeadTakesSaid : Prop := headTakesRow.holds Try.pinned (OpenSpec.ofChange headTakesSpec)

/-- ITS FALSE NEIGHBOUR: 'it returns false'. Refute it at one input. -/
def headTakesWrong : ChangeSpec := { name := "headTakes", fn := fun _ => fun
  | [d] => { results := [.lit (.bool false)], args := [d] }
  | _ => none }
def HeadTakesWrongFalsely : Prop := headTakesRow.holds Try.pinned (OpenSpec.ofChange headTakesWrong)

/-- 'milepostlaw17.HeadBack': WHATEVER THE INPUT: true; the input reads as it did. -/
def headBackSpec : ChangeSpec := { name := "headBack", fn := fun _ => fun
  | [d1, d2] => { results := [.lit (.bool true)], args := [d1, d2] }
  | _ => none }
def headBackRow : OpenClaim := { program := "ytgdlhcopgfgmaaa", sum := "08ceb7cbd4f2db00de87d65381352aad37ba37b7d490b38b6df7fdb94c4ddfc4", func := "milepost/milepostlaw17.HeadBack", spec := "headBack", apart := false }
def HeadBackSaid : Prop := headBackRow.holds Try.pinned (OpenSpec.ofChange headBackSpec)

/-- ITS FALSE NEIGHBOUR: 'it returns false'. Refute it at one input. -/
def headBackWrong : ChangeSpec := { name := "headBack", fn := fun _ => fun
  | [d1, d2] => { results := [.lit (.bool false)], args := [d1, d2] }
  | _ => none }
def HeadBackWrongFalsely : Prop := headBackRow.holds Try.pinned (OpenSpec.ofChange headBackWrong)

/-- 'milepostlaw08.CurStays': WHATEVER THE INPUT: true; the input reads as it did. -/
def curStaysSpec : ChangeSpec := { name := "curStays", fn := fun _ => fun
  | [d1, d2] => { results := [.lit (.bool true)], args := [d1, d2] }
  | _ => none }
def curStaysRow : OpenClaim := { program := "ytgdlhcopgfgmaaa", sum := "08ceb7cbd4f2db00de87d65381352aad37ba37b7d490b38b6df7fdb94c4ddfc4", func := "milepost/milepostlaw08.CurStays", spec := "curStays", apart := false }
def CurStaysSaid : Prop := curStaysRow.holds Try.pinned (OpenSpec.ofChange curStaysSpec)

/-- ITS FALSE NEIGHBOUR: 'it returns false'. Refute it at one input. -/
def curStaysWrong : ChangeSpec := { name := "curStays", fn := fun _ => fun
  | [d1, d2] => { results := [.lit (.bool false)], args := [d1, d2] }
  | _ => none }
def CurStaysWrongFalsely : Prop := curStaysRow.holds Try.pinned (OpenSpec.ofChange curStaysWrong)

/-- 'milepostlaw08.CurSteps': WHATEVER THE INPUT: true; the input reads as it did. -/
def curStepsSpec : ChangeSpec := { name := "curSteps", fn := fun _ => fun
  | [d1, d2] => { results := [.lit (.bool true)], args := [d1, d2] }
  | _ => none }
def curStepsRow : OpenClaim := { program := "ytgdlhcopgfgmaaa", sum := "08ceb7cbd4f2db00de87d65381352aad37ba37b7d490b38b6df7fdb94c4ddfc4", func := "milepost/milepostlaw08.CurSteps", spec := "curSteps", apart := false }
def CurStepsSaid : Prop := curStepsRow.holds Try.pinned (OpenSpec.ofChange curStepsSpec)

/-- ITS FALSE NEIGHBOUR: 'it returns false'. Refute it at one input. -/
def curStepsWrong : ChangeSpec := { name := "curSteps", fn := fun _ => fun
  | [d1, d2] => { results := [.lit (.bool false)], args := [d1, d2] }
  | _ => none }
def CurStepsWrongFalsely : Prop := curStepsRow.holds Try.pinned (OpenSpec.ofChange curStepsWrong)

/-- 'milepostlaw08.CurNone': WHATEVER THE INPUT: true; the input reads as it did. -/
def curNoneSpec : ChangeSpec := { name := "curNone", fn := fun _ => fun
  | [d] => { results := [.lit (.bool true)], args := [d] }
  | _ => none }
def curNoneRow : OpenClaim := { program := "ytgdlhcopgfgmaaa", sum := "08ceb7cbd4f2db00de87d65381352aad37ba37b7d490b38b6df7fdb94c4ddfc4", func := "milepost/milepostlaw08.CurNone", spec := "curNone", apart := false }
def CurNoneSaid : Prop := curNoneRow.holds Try.pinned (OpenSpec.ofChange curNoneSpec)

/-- ITS FALSE NEIGHBOUR: 'it returns false'. Refute it at one input. -/
def curNoneWrong : ChangeSpec := { name := "curNone", fn := fun _ => fun
  | [d] => { results := [.lit (.bool false)], args := [d] }
  | _ => none }
def CurNoneWrongFalsely : Prop := curNoneRow.holds Try.pinned (OpenSpec.ofChange curNoneWrong)

/-- 'milepostlaw29.StepPuts': WHATEVER THE INPUT: true; the input reads as it did. -/
def stepPutsSpec : ChangeSpec := { name := "stepPuts", fn := fun _ => fun
  | [d1, d2] => { results := [.lit (.bool true)], args := [d1, d2] }
  | _ => none }
def stepPutsRow : OpenClaim := { program := "ytgdlhcopgfgmaaa", sum := "08ceb7cbd4f2db00de87d65381352aad37ba37b7d490b38b6df7fdb94c4ddfc4", func := "milepost/milepostlaw29.StepPuts", spec := "stepPuts", inPlace := ["internal/abi.NoEscape"], unfollowed := true, recurses := true, apart := false }
def StepPutsSaid : Prop := stepPutsRow.holds Try.pinned (OpenSpec.ofChange stepPutsSpec)

/-- ITS FALSE NEIGHBOUR: 'it returns false'. Refute it at one input. -/
def stepPutsWrong : ChangeSpec := { name := "stepPuts", fn := fun _ => fun
  | [d1, d2] => { results := [.lit (.bool false)], args := [d1, d2] }
  | _ => none }
def StepPutsWrongFalsely : Prop := stepPutsRow.holds Try.pinned (OpenSpec.ofChange stepPutsWrong)

/-- 'milepostlaw09.BufBack': WHATEVER THE INPUT: true; the input reads as it did. -/
def bufBackSpec : ChangeSpec := { name := "bufBack", fn := fun _ => fun
  | [d] => { results := [.lit (.bool true)], args := [d] }
  | _ => none }
def bufBackRow : OpenClaim := { program := "ytgdlhcopgfgmaaa", sum := "08ceb7cbd4f2db00de87d65381352aad37ba37b7d490b38b6df7fdb94c4ddfc4", func := "milepost/milepostlaw09.BufBack", spec := "bufBack", inPlace := ["internal/abi.NoEscape"], recurses := true, apart := false }
def BufBackSaid : Prop := bufBackRow.holds Try.pinned (OpenSpec.ofChange bufBackSpec)

/-- ITS FALSE NEIGHBOUR: 'it returns false'. Refute it at one input. -/
def bufBackWrong : ChangeSpec := { name := "bufBack", fn := fun _ => fun
  | [d] => { results := [.lit (.bool false)], args := [d] }
  | _ => none }
def BufBackWrongFalsely : Prop := bufBackRow.holds Try.pinned (OpenSpec.ofChange bufBackWrong)

/-- 'milepostlaw29.StepTakes': WHATEVER THE INPUT: true; the input reads as it did. -/
def stepTakesSpec : ChangeSpec := { name := "stepTakes", fn := fun _ => fun
  | [d] => { results := [.lit (.bool true)], args := [d] }
  | _ => none }
def stepTakesRow : OpenClaim := { program := "ytgdlhcopgfgmaaa", sum := "08ceb7cbd4f2db00de87d65381352aad37ba37b7d490b38b6df7fdb94c4ddfc4", func := "milepost/milepostlaw29.StepTakes", spec := "stepTakes", inPlace := ["internal/abi.NoEscape"], unfollowed := true, recurses := true, apart := false }
def StepTakesSaid : Prop := stepTakesRow.holds Try.pinned (OpenSpec.ofChange stepTakesSpec)

/-- ITS FALSE NEIGHBOUR: 'it returns false'. Refute it at one input. -/
def stepTakesWrong : ChangeSpec := { name := "stepTakes", fn := fun _ => fun
  | [d] => { results := [.lit (.bool false)], args := [d] }
  | _ => none }
def StepTakesWrongFalsely : Prop := stepTakesRow.holds Try.pinned (OpenSpec.ofChange stepTakesWrong)

/-- 'milepostlaw29.StepBack': WHATEVER THE INPUT: true; the input reads as it did. -/
def stepBackSpec : ChangeSpec := { name := "stepBack", fn := fun _ => fun
  | [d1, d2, d3] => { results := [.lit (.bool true)], args := [d1, d2, d3] }
  | _ => none }
def stepBackRow : OpenClaim := { program := "ytgdlhcopgfgmaaa", sum := "08ceb7cbd4f2db00de87d65381352aad37ba37b7d490b38b6df7fdb94c4ddfc4", func := "milepost/milepostlaw29.StepBack", spec := "stepBack", inPlace := ["internal/abi.NoEscape"], unfollowed := true, recurses := true, apart := false }
def StepBackSaid : Prop := stepBackRow.holds Try.pinned (OpenSpec.ofChange stepBackSpec)

/-- ITS FALSE NEIGHBOUR: 'it returns false'. Refute it at one input. -/
def stepBackWrong : ChangeSpec := { name := "stepBack", fn := fun _ => fun
  | [d1, d2, d3] => { results := [.lit (.bool false)], args := [d1, d2, d3] }
  | _ => none }
def StepBackWrongFalsely : Prop := stepBackRow.holds Try.pinned (OpenSpec.ofChange stepBackWrong)

/- THE SECOND FORM. 'bulk': how many values and letters a reading holds, each counted each time it is reached (what is shared counts as often as it is met; a slice's spare places count too). A statement '..UptoSaid' is the law's where the arguments, and the package variables that the reading takes, are together of bulk at most 1048576: NARROWER than '..Said'. Prove '..Said' where nothing that the law and all that it calls make is longer than what came in: it says more and counts as full. Else prove '..UptoSaid'. A law counts once. -/
mutual
def uptoBulk {H : Type} : DataW H → Nat
  | .lit (.string bytes) => bytes.length + 1
  | .lit _ => 1
  | .nil => 1
  | .ptr d => uptoBulk d + 1
  | .slice elems spare => uptoBulkAll elems + uptoBulkAll spare + 1
  | .agg parts => uptoBulkAll parts + 1
  | .iface _ d => uptoBulk d + 1
  | .map entries => uptoBulkEntries entries + 1
  | .held _ => 1
def uptoBulkAll {H : Type} : List (DataW H) → Nat
  | [] => 0
  | d :: r => uptoBulk d + uptoBulkAll r
def uptoBulkEntries {H : Type} : List (Lit × DataW H) → Nat
  | [] => 0
  | x :: r => uptoBulkEntry x + uptoBulkEntries r
def uptoBulkEntry {H : Type} : Lit × DataW H → Nat
  | (.string bytes, d) => bytes.length + uptoBulk d + 1
  | (_, d) => uptoBulk d + 1
 end
def uptoSmall : (H : Type) → List (DataW H) → Bool := fun _ ds => decide (uptoBulkAll ds ≤ 1048576)
def OpenSpec.upto (s : _root_.Go.ChangeSpec) : _root_.Go.OpenSpec := { _root_.Go.OpenSpec.ofChange s with cond := some uptoSmall }

/-- 'milepostlaw17.HeadBytes', WHERE WHAT IT READS IS OF BULK AT MOST 1048576: true; the input reads as it did. -/
def headBytesUptoRow : OpenClaim := { program := "ytgdlhcopgfgmaaa", sum := "08ceb7cbd4f2db00de87d65381352aad37ba37b7d490b38b6df7fdb94c4ddfc4", func := "milepost/milepostlaw17.HeadBytes", spec := "headBytes", apart := false, narrowed := true }
def HeadBytesUptoSaid : Prop := headBytesUptoRow.holds Try.pinned (OpenSpec.upto headBytesSpec)

/-- 'milepostlaw17.HeadTakes', WHERE WHAT IT READS IS OF BULK AT MOST 1048576: true; the input reads as it did. -/
def headTakesUptoRow : OpenClaim := { program := "ytgdlhcopgfgmaaa", sum := "08ceb7cbd4f2db00de87d65381352aad37ba37b7d490b38b6df7fdb94c4ddfc4", func := "milepost/milepostlaw17.HeadTakes", spec := "headTakes", apart := false, narrowed := true }
def HeadTakesUptoSaid : Prop := headTakesUptoRow.holds Try.pinned (OpenSpec.upto headTakesSpec)

/-- 'milepostlaw17.HeadBack', WHERE WHAT IT READS IS OF BULK AT MOST 1048576: true; the input reads as it did. -/
def headBackUptoRow : OpenClaim := { program := "ytgdlhcopgfgmaaa", sum := "08ceb7cbd4f2db00de87d65381352aad37ba37b7d490b38b6df7fdb94c4ddfc4", func := "milepost/milepostlaw17.HeadBack", spec := "headBack", apart := false, narrowed := true }
def HeadBackUptoSaid : Prop := headBackUptoRow.holds Try.pinned (OpenSpec.upto headBackSpec)

/-- 'milepostlaw08.CurStays', WHERE WHAT IT READS IS OF BULK AT MOST 1048576: true; the input reads as it did. -/
def curStaysUptoRow : OpenClaim := { program := "ytgdlhcopgfgmaaa", sum := "08ceb7cbd4f2db00de87d65381352aad37ba37b7d490b38b6df7fdb94c4ddfc4", func := "milepost/milepostlaw08.CurStays", spec := "curStays", apart := false, narrowed := true }
def CurStaysUptoSaid : Prop := curStaysUptoRow.holds Try.pinned (OpenSpec.upto curStaysSpec)

/-- 'milepostlaw08.CurSteps', WHERE WHAT IT READS IS OF BULK AT MOST 1048576: true; the input reads as it did. -/
def curStepsUptoRow : OpenClaim := { program := "ytgdlhcopgfgmaaa", sum := "08ceb7cbd4f2db00de87d65381352aad37ba37b7d490b38b6df7fdb94c4ddfc4", func := "milepost/milepostlaw08.CurSteps", spec := "curSteps", apart := false, narrowed := true }
def CurStepsUptoSaid : Prop := curStepsUptoRow.holds Try.pinned (OpenSpec.upto curStepsSpec)

/-- 'milepostlaw08.CurNone', WHERE WHAT IT READS IS OF BULK AT MOST 1048576: true; the input reads as it did. -/
def curNoneUptoRow : OpenClaim := { program := "ytgdlhcopgfgmaaa", sum := "08ceb7cbd4f2db00de87d65381352aad37ba37b7d490b38b6df7fdb94c4ddfc4", func := "milepost/milepostlaw08.CurNone", spec := "curNone", apart := false, narrowed := true }
def CurNoneUptoSaid : Prop := curNoneUptoRow.holds Try.pinned (OpenSpec.upto curNoneSpec)

/-- 'milepostlaw29.StepPuts', WHERE WHAT IT READS IS OF BULK AT MOST 1048576: true; the input reads as it did. -/
def stepPutsUptoRow : OpenClaim := { program := "ytgdlhcopgfgmaaa", sum := "08ceb7cbd4f2db00de87d65381352aad37ba37b7d490b38b6df7fdb94c4ddfc4", func := "milepost/milepostlaw29.StepPuts", spec := "stepPuts", inPlace := ["internal/abi.NoEscape"], unfollowed := true, recurses := true, apart := false, narrowed := true }
def StepPutsUptoSaid : Prop := stepPutsUptoRow.holds Try.pinned (OpenSpec.upto stepPutsSpec)

/-- 'milepostlaw09.BufBack', WHERE WHAT IT READS IS OF BULK AT MOST 1048576: true; the input reads as it did. -/
def bufBackUptoRow : OpenClaim := { program := "ytgdlhcopgfgmaaa", sum := "08ceb7cbd4f2db00de87d65381352aad37ba37b7d490b38b6df7fdb94c4ddfc4", func := "milepost/milepostlaw09.BufBack", spec := "bufBack", inPlace := ["internal/abi.NoEscape"], recurses := true, apart := false, narrowed := true }
def BufBackUptoSaid : Prop := bufBackUptoRow.holds Try.pinned (OpenSpec.upto bufBackSpec)

/-- 'milepostlaw29.StepTakes', WHERE WHAT IT READS IS OF BULK AT MOST 1048576: true; the input reads as it did. -/
def stepTakesUptoRow : OpenClaim := { program := "ytgdlhcopgfgmaaa", sum := "08ceb7cbd4f2db00de87d65381352aad37ba37b7d490b38b6df7fdb94c4ddfc4", func := "milepost/milepostlaw29.StepTakes", spec := "stepTakes", inPlace := ["internal/abi.NoEscape"], unfollowed := true, recurses := true, apart := false, narrowed := true }
def StepTakesUptoSaid : Prop := stepTakesUptoRow.holds Try.pinned (OpenSpec.upto stepTakesSpec)

/-- 'milepostlaw29.StepBack', WHERE WHAT IT READS IS OF BULK AT MOST 1048576: true; the input reads as it did. -/
def stepBackUptoRow : OpenClaim := { program := "ytgdlhcopgfgmaaa", sum := "08ceb7cbd4f2db00de87d65381352aad37ba37b7d490b38b6df7fdb94c4ddfc4", func := "milepost/milepostlaw29.StepBack", spec := "stepBack", inPlace := ["internal/abi.NoEscape"], unfollowed := true, recurses := true, apart := false, narrowed := true }
def StepBackUptoSaid : Prop := stepBackUptoRow.holds Try.pinned (OpenSpec.upto stepBackSpec)

end Rows
end Go.Proofs.Ytgdlhcopgfgmaaa
