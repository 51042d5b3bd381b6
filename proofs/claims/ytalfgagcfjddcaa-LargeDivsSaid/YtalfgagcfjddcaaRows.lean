/-
  No cell of these rows narrows 'for every input' (looked for: loops, veiled, ifaces, maps, wideKeys, modest, calm, conditions, laid).
  DERIVED. THE GIVEN ROWS OF THIS SEAT. 12 by the template 'for every input the law returns true; each argument reads behind the call as it read before'; 0 by the template 'total and deterministic' (their statements: YtalfgagcfjddcaaTotals.lean).
  GIVEN WITH THE SEED: the statements are not yours to turn. If you find one false, say at which input.
  Laid BY PROGRAM, IN A SANDBOX (cutbox-rows.mjs): the forced cells as the released guide's own fill.sh prints them over the translation fe4fd1fc48d69bf3… (all of the seat's roots in one cut). By AI agents, Wed Nov 11 2026. No macro, syntax, notation, axiom, sorry.
-/
import Derived.Test.YtalfgagcfjddcaaChecked
import GoSem.Claim
import GoSem.ClaimJoined
import GoSem.ClaimMapViews
import Derived.JoinedTies
import Derived.KernelRfl
namespace Go.Proofs.Ytalfgagcfjddcaa
/- THE CELL 'sum', in the pinned program and in every row, IS THE sha256 OF THE DUMP (.gsa) THAT YtalfgagcfjddcaaProg.lean LOADS. Nothing in Lean hashes anything: it is a label: what it is worth is what the hold of that sum in a sandbox is worth. -/
noncomputable def Try.pinned : Pinned := { name := "ytalfgagcfjddcaa", sum := "fe4fd1fc48d69bf3e8495c2e31a7a67c49c4d7a40b2337ad472b501cb968406c", checked := Try.checked }
namespace Rows
def none {H : Type} : Left H := { results := [], args := [] }

/-- 'milepostlaw19.WorkLevels': WHATEVER THE INPUT: true; the input reads as it did. -/
def workLevelsSpec : ChangeSpec := { name := "workLevels", fn := fun _ => fun
  | [d1, d2] => { results := [.lit (.bool true)], args := [d1, d2] }
  | _ => none }
def workLevelsRow : OpenClaim := { program := "ytalfgagcfjddcaa", sum := "fe4fd1fc48d69bf3e8495c2e31a7a67c49c4d7a40b2337ad472b501cb968406c", func := "milepost/milepostlaw19.WorkLevels", spec := "workLevels", apart := false }
def WorkLevelsSaid : Prop := workLevelsRow.holds Try.pinned (OpenSpec.ofChange workLevelsSpec)

/-- ITS FALSE NEIGHBOUR: 'it returns false'. Refute it at one input. -/
def workLevelsWrong : ChangeSpec := { name := "workLevels", fn := fun _ => fun
  | [d1, d2] => { results := [.lit (.bool false)], args := [d1, d2] }
  | _ => none }
def WorkLevelsWrongFalsely : Prop := workLevelsRow.holds Try.pinned (OpenSpec.ofChange workLevelsWrong)

/-- 'milepostlaw19.WorkMost': WHATEVER THE INPUT: true; the input reads as it did. -/
def workMostSpec : ChangeSpec := { name := "workMost", fn := fun _ => fun
  | [d1, d2] => { results := [.lit (.bool true)], args := [d1, d2] }
  | _ => none }
def workMostRow : OpenClaim := { program := "ytalfgagcfjddcaa", sum := "fe4fd1fc48d69bf3e8495c2e31a7a67c49c4d7a40b2337ad472b501cb968406c", func := "milepost/milepostlaw19.WorkMost", spec := "workMost", apart := false }
def WorkMostSaid : Prop := workMostRow.holds Try.pinned (OpenSpec.ofChange workMostSpec)

/-- ITS FALSE NEIGHBOUR: 'it returns false'. Refute it at one input. -/
def workMostWrong : ChangeSpec := { name := "workMost", fn := fun _ => fun
  | [d1, d2] => { results := [.lit (.bool false)], args := [d1, d2] }
  | _ => none }
def WorkMostWrongFalsely : Prop := workMostRow.holds Try.pinned (OpenSpec.ofChange workMostWrong)

/-- 'milepostlaw19.WorkJust': WHATEVER THE INPUT: true; the input reads as it did. -/
def workJustSpec : ChangeSpec := { name := "workJust", fn := fun _ => fun
  | [d1, d2, d3] => { results := [.lit (.bool true)], args := [d1, d2, d3] }
  | _ => none }
def workJustRow : OpenClaim := { program := "ytalfgagcfjddcaa", sum := "fe4fd1fc48d69bf3e8495c2e31a7a67c49c4d7a40b2337ad472b501cb968406c", func := "milepost/milepostlaw19.WorkJust", spec := "workJust", apart := false }
def WorkJustSaid : Prop := workJustRow.holds Try.pinned (OpenSpec.ofChange workJustSpec)

/-- ITS FALSE NEIGHBOUR: 'it returns false'. Refute it at one input. -/
def workJustWrong : ChangeSpec := { name := "workJust", fn := fun _ => fun
  | [d1, d2, d3] => { results := [.lit (.bool false)], args := [d1, d2, d3] }
  | _ => none }
def WorkJustWrongFalsely : Prop := workJustRow.holds Try.pinned (OpenSpec.ofChange workJustWrong)

/-- 'milepostlaw04.WideOf': WHATEVER THE INPUT: true; the input reads as it did. -/
def wideOfSpec : ChangeSpec := { name := "wideOf", fn := fun _ => fun
  | [d] => { results := [.lit (.bool true)], args := [d] }
  | _ => none }
def wideOfRow : OpenClaim := { program := "ytalfgagcfjddcaa", sum := "fe4fd1fc48d69bf3e8495c2e31a7a67c49c4d7a40b2337ad472b501cb968406c", func := "milepost/milepostlaw04.WideOf", spec := "wideOf", apart := false }
def WideOfSaid : Prop := wideOfRow.holds Try.pinned (OpenSpec.ofChange wideOfSpec)

/-- ITS FALSE NEIGHBOUR: 'it returns false'. Refute it at one input. -/
def wideOfWrong : ChangeSpec := { name := "wideOf", fn := fun _ => fun
  | [d] => { results := [.lit (.bool false)], args := [d] }
  | _ => none }
def WideOfWrongFalsely : Prop := wideOfRow.holds Try.pinned (OpenSpec.ofChange wideOfWrong)

/-- 'milepostlaw04.WideShifts': WHATEVER THE INPUT: true; the input reads as it did. -/
def wideShiftsSpec : ChangeSpec := { name := "wideShifts", fn := fun _ => fun
  | [d1, d2] => { results := [.lit (.bool true)], args := [d1, d2] }
  | _ => none }
def wideShiftsRow : OpenClaim := { program := "ytalfgagcfjddcaa", sum := "fe4fd1fc48d69bf3e8495c2e31a7a67c49c4d7a40b2337ad472b501cb968406c", func := "milepost/milepostlaw04.WideShifts", spec := "wideShifts", apart := false }
def WideShiftsSaid : Prop := wideShiftsRow.holds Try.pinned (OpenSpec.ofChange wideShiftsSpec)

/-- ITS FALSE NEIGHBOUR: 'it returns false'. Refute it at one input. -/
def wideShiftsWrong : ChangeSpec := { name := "wideShifts", fn := fun _ => fun
  | [d1, d2] => { results := [.lit (.bool false)], args := [d1, d2] }
  | _ => none }
def WideShiftsWrongFalsely : Prop := wideShiftsRow.holds Try.pinned (OpenSpec.ofChange wideShiftsWrong)

/-- 'milepostlaw04.WideBack': WHATEVER THE INPUT: true; the input reads as it did. -/
def wideBackSpec : ChangeSpec := { name := "wideBack", fn := fun _ => fun
  | [d1, d2] => { results := [.lit (.bool true)], args := [d1, d2] }
  | _ => none }
def wideBackRow : OpenClaim := { program := "ytalfgagcfjddcaa", sum := "fe4fd1fc48d69bf3e8495c2e31a7a67c49c4d7a40b2337ad472b501cb968406c", func := "milepost/milepostlaw04.WideBack", spec := "wideBack", apart := false }
def WideBackSaid : Prop := wideBackRow.holds Try.pinned (OpenSpec.ofChange wideBackSpec)

/-- ITS FALSE NEIGHBOUR: 'it returns false'. Refute it at one input. -/
def wideBackWrong : ChangeSpec := { name := "wideBack", fn := fun _ => fun
  | [d1, d2] => { results := [.lit (.bool false)], args := [d1, d2] }
  | _ => none }
def WideBackWrongFalsely : Prop := wideBackRow.holds Try.pinned (OpenSpec.ofChange wideBackWrong)

/-- 'milepostlaw05.LargeAdds': WHATEVER THE INPUT: true; the input reads as it did. -/
def largeAddsSpec : ChangeSpec := { name := "largeAdds", fn := fun _ => fun
  | [d1, d2] => { results := [.lit (.bool true)], args := [d1, d2] }
  | _ => none }
def largeAddsRow : OpenClaim := { program := "ytalfgagcfjddcaa", sum := "fe4fd1fc48d69bf3e8495c2e31a7a67c49c4d7a40b2337ad472b501cb968406c", func := "milepost/milepostlaw05.LargeAdds", spec := "largeAdds", apart := false }
def LargeAddsSaid : Prop := largeAddsRow.holds Try.pinned (OpenSpec.ofChange largeAddsSpec)

/-- ITS FALSE NEIGHBOUR: 'it returns false'. Refute it at one input. -/
def largeAddsWrong : ChangeSpec := { name := "largeAdds", fn := fun _ => fun
  | [d1, d2] => { results := [.lit (.bool false)], args := [d1, d2] }
  | _ => none }
def LargeAddsWrongFalsely : Prop := largeAddsRow.holds Try.pinned (OpenSpec.ofChange largeAddsWrong)

/-- 'milepostlaw05.LargeOf': WHATEVER THE INPUT: true; the input reads as it did. -/
def largeOfSpec : ChangeSpec := { name := "largeOf", fn := fun _ => fun
  | [d1, d2] => { results := [.lit (.bool true)], args := [d1, d2] }
  | _ => none }
def largeOfRow : OpenClaim := { program := "ytalfgagcfjddcaa", sum := "fe4fd1fc48d69bf3e8495c2e31a7a67c49c4d7a40b2337ad472b501cb968406c", func := "milepost/milepostlaw05.LargeOf", spec := "largeOf", apart := false }
def LargeOfSaid : Prop := largeOfRow.holds Try.pinned (OpenSpec.ofChange largeOfSpec)

/-- ITS FALSE NEIGHBOUR: 'it returns false'. Refute it at one input. -/
def largeOfWrong : ChangeSpec := { name := "largeOf", fn := fun _ => fun
  | [d1, d2] => { results := [.lit (.bool false)], args := [d1, d2] }
  | _ => none }
def LargeOfWrongFalsely : Prop := largeOfRow.holds Try.pinned (OpenSpec.ofChange largeOfWrong)

/-- 'milepostlaw05.LargeMuls': WHATEVER THE INPUT: true; the input reads as it did. -/
def largeMulsSpec : ChangeSpec := { name := "largeMuls", fn := fun _ => fun
  | [d1, d2, d3] => { results := [.lit (.bool true)], args := [d1, d2, d3] }
  | _ => none }
def largeMulsRow : OpenClaim := { program := "ytalfgagcfjddcaa", sum := "fe4fd1fc48d69bf3e8495c2e31a7a67c49c4d7a40b2337ad472b501cb968406c", func := "milepost/milepostlaw05.LargeMuls", spec := "largeMuls", apart := false }
def LargeMulsSaid : Prop := largeMulsRow.holds Try.pinned (OpenSpec.ofChange largeMulsSpec)

/-- ITS FALSE NEIGHBOUR: 'it returns false'. Refute it at one input. -/
def largeMulsWrong : ChangeSpec := { name := "largeMuls", fn := fun _ => fun
  | [d1, d2, d3] => { results := [.lit (.bool false)], args := [d1, d2, d3] }
  | _ => none }
def LargeMulsWrongFalsely : Prop := largeMulsRow.holds Try.pinned (OpenSpec.ofChange largeMulsWrong)

/-- 'milepostlaw05.LargeDivs': WHATEVER THE INPUT: true; the input reads as it did. -/
def largeDivsSpec : ChangeSpec := { name := "largeDivs", fn := fun _ => fun
  | [d1, d2] => { results := [.lit (.bool true)], args := [d1, d2] }
  | _ => none }
def largeDivsRow : OpenClaim := { program := "ytalfgagcfjddcaa", sum := "fe4fd1fc48d69bf3e8495c2e31a7a67c49c4d7a40b2337ad472b501cb968406c", func := "milepost/milepostlaw05.LargeDivs", spec := "largeDivs", apart := false }
def LargeDivsSaid : Prop := largeDivsRow.holds Try.pinned (OpenSpec.ofChange largeDivsSpec)

/-- ITS FALSE NEIGHBOUR: 'it returns false'. Refute it at one input. -/
def largeDivsWrong : ChangeSpec := { name := "largeDivs", fn := fun _ => fun
  | [d1, d2] => { results := [.lit (.bool false)], args := [d1, d2] }
  | _ => none }
def LargeDivsWrongFalsely : Prop := largeDivsRow.holds Try.pinned (OpenSpec.ofChange largeDivsWrong)

/-- 'milepostlaw05.LargeTells': WHATEVER THE INPUT: true; the input reads as it did. -/
def largeTellsSpec : ChangeSpec := { name := "largeTells", fn := fun _ => fun
  | [d] => { results := [.lit (.bool true)], args := [d] }
  | _ => none }
def largeTellsRow : OpenClaim := { program := "ytalfgagcfjddcaa", sum := "fe4fd1fc48d69bf3e8495c2e31a7a67c49c4d7a40b2337ad472b501cb968406c", func := "milepost/milepostlaw05.LargeTells", spec := "largeTells", apart := false }
def LargeTellsSaid : Prop := largeTellsRow.holds Try.pinned (OpenSpec.ofChange largeTellsSpec)

/-- ITS FALSE NEIGHBOUR: 'it returns false'. Refute it at one input. -/
def largeTellsWrong : ChangeSpec := { name := "largeTells", fn := fun _ => fun
  | [d] => { results := [.lit (.bool false)], args := [d] }
  | _ => none }
def LargeTellsWrongFalsely : Prop := largeTellsRow.holds Try.pinned (OpenSpec.ofChange largeTellsWrong)

/-- 'milepostlaw04.WideAdds': WHATEVER THE INPUT: true; the input reads as it did. -/
def wideAddsSpec : ChangeSpec := { name := "wideAdds", fn := fun _ => fun
  | [d1, d2] => { results := [.lit (.bool true)], args := [d1, d2] }
  | _ => none }
def wideAddsRow : OpenClaim := { program := "ytalfgagcfjddcaa", sum := "fe4fd1fc48d69bf3e8495c2e31a7a67c49c4d7a40b2337ad472b501cb968406c", func := "milepost/milepostlaw04.WideAdds", spec := "wideAdds", apart := false }
def WideAddsSaid : Prop := wideAddsRow.holds Try.pinned (OpenSpec.ofChange wideAddsSpec)

/-- ITS FALSE NEIGHBOUR: 'it returns false'. Refute it at one input. -/
def wideAddsWrong : ChangeSpec := { name := "wideAdds", fn := fun _ => fun
  | [d1, d2] => { results := [.lit (.bool false)], args := [d1, d2] }
  | _ => none }
def WideAddsWrongFalsely : Prop := wideAddsRow.holds Try.pinned (OpenSpec.ofChange wideAddsWrong)

/- THE SECOND FORM. 'bulk': how many values and letters a reading holds, each counted each time it is reached (what is shared counts as often as it is met; a slice's spare places count too). A statement '..UptoSaid' is the law's where the arguments, and the package variables that the reading takes, are together of bulk at most 1048576: NARROWER than '..Said'. Prove '..Said' where nothing that the law and all that it calls make is longer than what came in: it says more and counts as full. Else prove '..UptoSaid'. A law counts once. -/
mutual
def uptoBulk {H : Type} : DataW H → Nat
  | .lit (.string bytes) => bytes.length + 1
  | .lit _ => 1
  | .nil => 1
  | .ptr d => uptoBulk d + 1
  | .slice elems spare => uptoBulkAll elems + uptoBulkAll spare + 1
  | .agg parts => uptoBulkAll parts + 1
  | .iface _ d => uptoBulk d + 1
  | .map entries => uptoBulkEntries entries + 1
  | .held _ => 1
def uptoBulkAll {H : Type} : List (DataW H) → Nat
  | [] => 0
  | d :: r => uptoBulk d + uptoBulkAll r
def uptoBulkEntries {H : Type} : List (Lit × DataW H) → Nat
  | [] => 0
  | x :: r => uptoBulkEntry x + uptoBulkEntries r
def uptoBulkEntry {H : Type} : Lit × DataW H → Nat
  | (.string bytes, d) => bytes.length + uptoBulk d + 1
  | (_, d) => uptoBulk d + 1
 end
def uptoSmall : (H : Type) → List (DataW H) → Bool := fun _ ds => decide (uptoBulkAll ds ≤ 1048576)
def OpenSpec.upto (s : _root_.Go.ChangeSpec) : _root_.Go.OpenSpec := { _root_.Go.OpenSpec.ofChange s with cond := some uptoSmall }

/-- 'milepostlaw19.WorkLevels', WHERE WHAT IT READS IS OF BULK AT MOST 1048576: true; the input reads as it did. -/
def workLevelsUptoRow : OpenClaim := { program := "ytalfgagcfjddcaa", sum := "fe4fd1fc48d69bf3e8495c2e31a7a67c49c4d7a40b2337ad472b501cb968406c", func := "milepost/milepostlaw19.WorkLevels", spec := "workLevels", apart := false, narrowed := true }
def WorkLevelsUptoSaid : Prop := workLevelsUptoRow.holds Try.pinned (OpenSpec.upto workLevelsSpec)

/-- 'milepostlaw19.WorkMost', WHERE WHAT IT READS IS OF BULK AT MOST 1048576: true; the input reads as it did. -/
def workMostUptoRow : OpenClaim := { program := "ytalfgagcfjddcaa", sum := "fe4fd1fc48d69bf3e8495c2e31a7a67c49c4d7a40b2337ad472b501cb968406c", func := "milepost/milepostlaw19.WorkMost", spec := "workMost", apart := false, narrowed := true }
def WorkMostUptoSaid : Prop := workMostUptoRow.holds Try.pinned (OpenSpec.upto workMostSpec)

/-- 'milepostlaw19.WorkJust', WHERE WHAT IT READS IS OF BULK AT MOST 1048576: true; the input reads as it did. -/
def workJustUptoRow : OpenClaim := { program := "ytalfgagcfjddcaa", sum := "fe4fd1fc48d69bf3e8495c2e31a7a67c49c4d7a40b2337ad472b501cb968406c", func := "milepost/milepostlaw19.WorkJust", spec := "workJust", apart := false, narrowed := true }
def WorkJustUptoSaid : Prop := workJustUptoRow.holds Try.pinned (OpenSpec.upto workJustSpec)

/-- 'milepostlaw04.WideOf', WHERE WHAT IT READS IS OF BULK AT MOST 1048576: true; the input reads as it did. -/
def wideOfUptoRow : OpenClaim := { program := "ytalfgagcfjddcaa", sum := "fe4fd1fc48d69bf3e8495c2e31a7a67c49c4d7a40b2337ad472b501cb968406c", func := "milepost/milepostlaw04.WideOf", spec := "wideOf", apart := false, narrowed := true }
def WideOfUptoSaid : Prop := wideOfUptoRow.holds Try.pinned (OpenSpec.upto wideOfSpec)

/-- 'milepostlaw04.WideShifts', WHERE WHAT IT READS IS OF BULK AT MOST 1048576: true; the input reads as it did. -/
def wideShiftsUptoRow : OpenClaim := { program := "ytalfgagcfjddcaa", sum := "fe4fd1fc48d69bf3e8495c2e31a7a67c49c4d7a40b2337ad472b501cb968406c", func := "milepost/milepostlaw04.WideShifts", spec := "wideShifts", apart := false, narrowed := true }
def WideShiftsUptoSaid : Prop := wideShiftsUptoRow.holds Try.pinned (OpenSpec.upto wideShiftsSpec)

/-- 'milepostlaw04.WideBack', WHERE WHAT IT READS IS OF BULK AT MOST 1048576: true; the input reads as it did. -/
def wideBackUptoRow : OpenClaim := { program := "ytalfgagcfjddcaa", sum := "fe4fd1fc48d69bf3e8495c2e31a7a67c49c4d7a40b2337ad472b501cb968406c", func := "milepost/milepostlaw04.WideBack", spec := "wideBack", apart := false, narrowed := true }
def WideBackUptoSaid : Prop := wideBackUptoRow.holds Try.pinned (OpenSpec.upto wideBackSpec)

/-- 'milepostlaw05.LargeAdds', WHERE WHAT IT READS IS OF BULK AT MOST 1048576: true; the input reads as it did. -/
def largeAddsUptoRow : OpenClaim := { program := "ytalfgagcfjddcaa", sum := "fe4fd1fc48d69bf3e8495c2e31a7a67c49c4d7a40b2337ad472b501cb968406c", func := "milepost/milepostlaw05.LargeAdds", spec := "largeAdds", apart := false, narrowed := true }
def LargeAddsUptoSaid : Prop := largeAddsUptoRow.holds Try.pinned (OpenSpec.upto largeAddsSpec)

/-- 'milepostlaw05.LargeOf', WHERE WHAT IT READS IS OF BULK AT MOST 1048576: true; the input reads as it did. -/
def largeOfUptoRow : OpenClaim := { program := "ytalfgagcfjddcaa", sum := "fe4fd1fc48d69bf3e8495c2e31a7a67c49c4d7a40b2337ad472b501cb968406c", func := "milepost/milepostlaw05.LargeOf", spec := "largeOf", apart := false, narrowed := true }
def LargeOfUptoSaid : Prop := largeOfUptoRow.holds Try.pinned (OpenSpec.upto largeOfSpec)

/-- 'milepostlaw05.LargeMuls', WHERE WHAT IT READS IS OF BULK AT MOST 1048576: true; the input reads as it did. -/
def largeMulsUptoRow : OpenClaim := { program := "ytalfgagcfjddcaa", sum := "fe4fd1fc48d69bf3e8495c2e31a7a67c49c4d7a40b2337ad472b501cb968406c", func := "milepost/milepostlaw05.LargeMuls", spec := "largeMuls", apart := false, narrowed := true }
def LargeMulsUptoSaid : Prop := largeMulsUptoRow.holds Try.pinned (OpenSpec.upto largeMulsSpec)

/-- 'milepostlaw05.LargeDivs', WHERE WHAT IT READS IS OF BULK AT MOST 1048576: true; the input reads as it did. -/
def largeDivsUptoRow : OpenClaim := { program := "ytalfgagcfjddcaa", sum := "fe4fd1fc48d69bf3e8495c2e31a7a67c49c4d7a40b2337ad472b501cb968406c", func := "milepost/milepostlaw05.LargeDivs", spec := "largeDivs", apart := false, narrowed := true }
def LargeDivsUptoSaid : Prop := largeDivsUptoRow.holds Try.pinned (OpenSpec.upto largeDivsSpec)

/-- 'milepostlaw05.LargeTells', WHERE WHAT IT READS IS OF BULK AT MOST 1048576: true; the input reads as it did. -/
def largeTellsUptoRow : OpenClaim := { program := "ytalfgagcfjddcaa", sum := "fe4fd1fc48d69bf3e8495c2e31a7a67c49c4d7a40b2337ad472b501cb968406c", func := "milepost/milepostlaw05.LargeTells", spec := "largeTells", apart := false, narrowed := true }
def LargeTellsUptoSaid : Prop := largeTellsUptoRow.holds Try.pinned (OpenSpec.upto largeTellsSpec)

/-- 'milepostlaw04.WideAdds', WHERE WHAT IT READS IS OF BULK AT MOST 1048576: true; the input reads as it did. -/
def wideAddsUptoRow : OpenClaim := { program := "ytalfgagcfjddcaa", sum := "fe4fd1fc48d69bf3e8495c2e31a7a67c49c4d7a40b2337ad472b501cb968406c", func := "milepost/milepostlaw04.WideAdds", spec := "wideAdds", apart := false, narrowed := true }
def WideAddsUptoSaid : Prop := wideAddsUptoRow.holds Try.pinned (OpenSpec.upto wideAddsSpec)

end Rows
end Go.Proofs.Ytalfgagcfjddcaa
