/-
  No cell of these rows narrows 'for every input' (looked for: loops, veiled, ifaces, maps, wideKeys, modest, calm, conditions, laid).
  DERIVED. THE GIVEN ROWS OF THIS SEAT. 10 by the template 'for every input the law returns true; each argument reads behind the call as it read before'; 0 by the template 'total and deterministic' (their statements: YtfelbjiflceopaaTotals.lean).
  GIVEN WITH THE SEED: the statements are not yours to turn. If you find one false, say at which input.
  Laid BY PROGRAM, IN A SANDBOX (cutbox-rows.mjs): the forced cells as the released guide's own fill.sh prints them over the translation 0cd287a38c936bd9… (all of the seat's roots in one cut). By AI agents, Wed Nov 11 2026. No macro, syntax, notation, axiom, sorry.
-/
import Derived.Test.YtfelbjiflceopaaChecked
import GoSem.Claim
import GoSem.ClaimJoined
import GoSem.ClaimMapViews
import Derived.JoinedTies
import Derived.KernelRfl
namespace Go.Proofs.Ytfelbjiflceopaa
/- THE CELL 'sum', in the pinned program and in every row, IS THE sha256 OF THE DUMP (.gsa) THAT YtfelbjiflceopaaProg.lean LOADS. Nothing in Lean hashes anything: it is a label: what it is worth is what the hold of that sum in a sandbox is worth. -/
noncomputable def Try.pinned : Pinned := { name := "ytfelbjiflceopaa", sum := "0cd287a38c936bd97c10cdbabffa66efee8bf3dcba12a7c162d0b58dcd124d90", checked := Try.checked }
namespace Rows
def none {H : Type} : Left H := { results := [], args := [] }

/-- 'milepostlaw41.ScoreValues': WHATEVER THE INPUT: true; the input reads as it did. -/
def scoreValuesSpec : ChangeSpec := { name := "scoreValues", fn := fun _ => fun
  | [d1, d2, d3] => { results := [.lit (.bool true)], args := [d1, d2, d3] }
  | _ => none }
def scoreValuesRow : OpenClaim := { program := "ytfelbjiflceopaa", sum := "0cd287a38c936bd97c10cdbabffa66efee8bf3dcba12a7c162d0b58dcd124d90", func := "milepost/milepostlaw41.ScoreValues", spec := "scoreValues", unfollowed := true, recurses := true, apart := false }
def ScoreValuesSaid : Prop := scoreValuesRow.holds Try.pinned (OpenSpec.ofChange scoreValuesSpec)

/-- ITS FALSE NEIGHBOUR: 'it returns false'. Refute it at one input. -/
def scoreValuesWrong : ChangeSpec := { name := "scoreValues", fn := fun _ => fun
  | [d1, d2, d3] => { results := [.lit (.bool false)], args := [d1, d2, d3] }
  | _ => none }
def ScoreValuesWrongFalsely : Prop := scoreValuesRow.holds Try.pinned (OpenSpec.ofChange scoreValuesWrong)

/-- 'milepostlaw41.ScoreBest': WHATEVER THE INPUT: true; the input reads as it did. -/
def scoreBestSpec : ChangeSpec := { name := "scoreBest", fn := fun _ => fun
  | [d1, d2] => { results := [.lit (.bool true)], args := [d1, d2] }
  | _ => none }
def scoreBestRow : OpenClaim := { program := "ytfelbjiflceopaa", sum := "0cd287a38c936bd97c10cdbabffa66efee8bf3dcba12a7c162d0b58dcd124d90", func := "milepost/milepostlaw41.ScoreBest", spec := "scoreBest", unfollowed := true, recurses := true, apart := false }
def ScoreBestSaid : Prop := scoreBestRow.holds Try.pinned (OpenSpec.ofChange scoreBestSpec)

/-- ITS FALSE NEIGHBOUR: 'it returns false'. Refute it at one input. -/
def scoreBestWrong : ChangeSpec := { name := "scoreBest", fn := fun _ => fun
  | [d1, d2] => { results := [.lit (.bool false)], args := [d1, d2] }
  | _ => none }
def ScoreBestWrongFalsely : Prop := scoreBestRow.holds Try.pinned (OpenSpec.ofChange scoreBestWrong)

/-- 'milepostlaw41.ScoreMore': WHATEVER THE INPUT: true; the input reads as it did. -/
def scoreMoreSpec : ChangeSpec := { name := "scoreMore", fn := fun _ => fun
  | [d1, d2, d3] => { results := [.lit (.bool true)], args := [d1, d2, d3] }
  | _ => none }
def scoreMoreRow : OpenClaim := { program := "ytfelbjiflceopaa", sum := "0cd287a38c936bd97c10cdbabffa66efee8bf3dcba12a7c162d0b58dcd124d90", func := "milepost/milepostlaw41.ScoreMore", spec := "scoreMore", unfollowed := true, recurses := true, apart := false }
def ScoreMoreSaid : Prop := scoreMoreRow.holds Try.pinned (OpenSpec.ofChange scoreMoreSpec)

/-- ITS FALSE NEIGHBOUR: 'it returns false'. Refute it at one input. -/
def scoreMoreWrong : ChangeSpec := { name := "scoreMore", fn := fun _ => fun
  | [d1, d2, d3] => { results := [.lit (.bool false)], args := [d1, d2, d3] }
  | _ => none }
def ScoreMoreWrongFalsely : Prop := scoreMoreRow.holds Try.pinned (OpenSpec.ofChange scoreMoreWrong)

/-- 'milepostlaw06.RatioAsks': WHATEVER THE INPUT: true; the input reads as it did. -/
def ratioAsksSpec : ChangeSpec := { name := "ratioAsks", fn := fun _ => fun
  | [d1, d2, d3] => { results := [.lit (.bool true)], args := [d1, d2, d3] }
  | _ => none }
def ratioAsksRow : OpenClaim := { program := "ytfelbjiflceopaa", sum := "0cd287a38c936bd97c10cdbabffa66efee8bf3dcba12a7c162d0b58dcd124d90", func := "milepost/milepostlaw06.RatioAsks", spec := "ratioAsks", apart := false }
def RatioAsksSaid : Prop := ratioAsksRow.holds Try.pinned (OpenSpec.ofChange ratioAsksSpec)

/-- ITS FALSE NEIGHBOUR: 'it returns false'. Refute it at one input. -/
def ratioAsksWrong : ChangeSpec := { name := "ratioAsks", fn := fun _ => fun
  | [d1, d2, d3] => { results := [.lit (.bool false)], args := [d1, d2, d3] }
  | _ => none }
def RatioAsksWrongFalsely : Prop := ratioAsksRow.holds Try.pinned (OpenSpec.ofChange ratioAsksWrong)

/-- 'milepostlaw06.RatioProducts': WHATEVER THE INPUT: true; the input reads as it did. -/
def ratioProductsSpec : ChangeSpec := { name := "ratioProducts", fn := fun _ => fun
  | [d1, d2, d3] => { results := [.lit (.bool true)], args := [d1, d2, d3] }
  | _ => none }
def ratioProductsRow : OpenClaim := { program := "ytfelbjiflceopaa", sum := "0cd287a38c936bd97c10cdbabffa66efee8bf3dcba12a7c162d0b58dcd124d90", func := "milepost/milepostlaw06.RatioProducts", spec := "ratioProducts", apart := false }
def RatioProductsSaid : Prop := ratioProductsRow.holds Try.pinned (OpenSpec.ofChange ratioProductsSpec)

/-- ITS FALSE NEIGHBOUR: 'it returns false'. Refute it at one input. -/
def ratioProductsWrong : ChangeSpec := { name := "ratioProducts", fn := fun _ => fun
  | [d1, d2, d3] => { results := [.lit (.bool false)], args := [d1, d2, d3] }
  | _ => none }
def RatioProductsWrongFalsely : Prop := ratioProductsRow.holds Try.pinned (OpenSpec.ofChange ratioProductsWrong)

/-- 'milepostlaw06.RatioGrows': WHATEVER THE INPUT: true; the input reads as it did. -/
def ratioGrowsSpec : ChangeSpec := { name := "ratioGrows", fn := fun _ => fun
  | [d1, d2, d3] => { results := [.lit (.bool true)], args := [d1, d2, d3] }
  | _ => none }
def ratioGrowsRow : OpenClaim := { program := "ytfelbjiflceopaa", sum := "0cd287a38c936bd97c10cdbabffa66efee8bf3dcba12a7c162d0b58dcd124d90", func := "milepost/milepostlaw06.RatioGrows", spec := "ratioGrows", apart := false }
def RatioGrowsSaid : Prop := ratioGrowsRow.holds Try.pinned (OpenSpec.ofChange ratioGrowsSpec)

/-- ITS FALSE NEIGHBOUR: 'it returns false'. Refute it at one input. -/
def ratioGrowsWrong : ChangeSpec := { name := "ratioGrows", fn := fun _ => fun
  | [d1, d2, d3] => { results := [.lit (.bool false)], args := [d1, d2, d3] }
  | _ => none }
def RatioGrowsWrongFalsely : Prop := ratioGrowsRow.holds Try.pinned (OpenSpec.ofChange ratioGrowsWrong)

/-- 'milepostlaw39.GoodLocal': WHATEVER THE INPUT: true; the input reads as it did. -/
def goodLocalSpec : ChangeSpec := { name := "goodLocal", fn := fun _ => fun
  | [d1, d2] => { results := [.lit (.bool true)], args := [d1, d2] }
  | _ => none }
def goodLocalRow : OpenClaim := { program := "ytfelbjiflceopaa", sum := "0cd287a38c936bd97c10cdbabffa66efee8bf3dcba12a7c162d0b58dcd124d90", func := "milepost/milepostlaw39.GoodLocal", spec := "goodLocal", unfollowed := true, recurses := true, apart := false }
def GoodLocalSaid : Prop := goodLocalRow.holds Try.pinned (OpenSpec.ofChange goodLocalSpec)

/-- ITS FALSE NEIGHBOUR: 'it returns false'. Refute it at one input. -/
def goodLocalWrong : ChangeSpec := { name := "goodLocal", fn := fun _ => fun
  | [d1, d2] => { results := [.lit (.bool false)], args := [d1, d2] }
  | _ => none }
def GoodLocalWrongFalsely : Prop := goodLocalRow.holds Try.pinned (OpenSpec.ofChange goodLocalWrong)

/-- 'milepostlaw39.GoodSuper': WHATEVER THE INPUT: true; the input reads as it did. -/
def goodSuperSpec : ChangeSpec := { name := "goodSuper", fn := fun _ => fun
  | [d1, d2, d3] => { results := [.lit (.bool true)], args := [d1, d2, d3] }
  | _ => none }
def goodSuperRow : OpenClaim := { program := "ytfelbjiflceopaa", sum := "0cd287a38c936bd97c10cdbabffa66efee8bf3dcba12a7c162d0b58dcd124d90", func := "milepost/milepostlaw39.GoodSuper", spec := "goodSuper", unfollowed := true, recurses := true, apart := false }
def GoodSuperSaid : Prop := goodSuperRow.holds Try.pinned (OpenSpec.ofChange goodSuperSpec)

/-- ITS FALSE NEIGHBOUR: 'it returns false'. Refute it at one input. -/
def goodSuperWrong : ChangeSpec := { name := "goodSuper", fn := fun _ => fun
  | [d1, d2, d3] => { results := [.lit (.bool false)], args := [d1, d2, d3] }
  | _ => none }
def GoodSuperWrongFalsely : Prop := goodSuperRow.holds Try.pinned (OpenSpec.ofChange goodSuperWrong)

/-- 'milepostlaw39.GoodGrows': WHATEVER THE INPUT: true; the input reads as it did. -/
def goodGrowsSpec : ChangeSpec := { name := "goodGrows", fn := fun _ => fun
  | [d1, d2, d3] => { results := [.lit (.bool true)], args := [d1, d2, d3] }
  | _ => none }
def goodGrowsRow : OpenClaim := { program := "ytfelbjiflceopaa", sum := "0cd287a38c936bd97c10cdbabffa66efee8bf3dcba12a7c162d0b58dcd124d90", func := "milepost/milepostlaw39.GoodGrows", spec := "goodGrows", unfollowed := true, recurses := true, apart := false }
def GoodGrowsSaid : Prop := goodGrowsRow.holds Try.pinned (OpenSpec.ofChange goodGrowsSpec)

/-- ITS FALSE NEIGHBOUR: 'it returns false'. Refute it at one input. -/
def goodGrowsWrong : ChangeSpec := { name := "goodGrows", fn := fun _ => fun
  | [d1, d2, d3] => { results := [.lit (.bool false)], args := [d1, d2, d3] }
  | _ => none }
def GoodGrowsWrongFalsely : Prop := goodGrowsRow.holds Try.pinned (OpenSpec.ofChange goodGrowsWrong)

/-- 'milepostlaw39.GoodLong': WHATEVER THE INPUT: true; the input reads as it did. -/
def goodLongSpec : ChangeSpec := { name := "goodLong", fn := fun _ => fun
  | [d1, d2, d3] => { results := [.lit (.bool true)], args := [d1, d2, d3] }
  | _ => none }
def goodLongRow : OpenClaim := { program := "ytfelbjiflceopaa", sum := "0cd287a38c936bd97c10cdbabffa66efee8bf3dcba12a7c162d0b58dcd124d90", func := "milepost/milepostlaw39.GoodLong", spec := "goodLong", unfollowed := true, recurses := true, apart := false }
def GoodLongSaid : Prop := goodLongRow.holds Try.pinned (OpenSpec.ofChange goodLongSpec)

/-- ITS FALSE NEIGHBOUR: 'it returns false'. Refute it at one input. -/
def goodLongWrong : ChangeSpec := { name := "goodLong", fn := fun _ => fun
  | [d1, d2, d3] => { results := [.lit (.bool false)], args := [d1, d2, d3] }
  | _ => none }
def GoodLongWrongFalsely : Prop := goodLongRow.holds Try.pinned (OpenSpec.ofChange goodLongWrong)

/- THE SECOND FORM. 'bulk': how many values and letters a reading holds, each counted each time it is reached (what is shared counts as often as it is met; a slice's spare places count too). A statement '..UptoSaid' is the law's where the arguments, and the package variables that the reading takes, are together of bulk at most 1048576: NARROWER than '..Said'. Prove '..Said' where nothing that the law and all that it calls make is longer than what came in: it says more and counts as full. Else prove '..UptoSaid'. A law counts once. -/
mutual
def uptoBulk {H : Type} : DataW H → Nat
  | .lit (.string bytes) => bytes.length + 1
  | .lit _ => 1
  | .nil => 1
  | .ptr d => uptoBulk d + 1
  | .slice elems spare => uptoBulkAll elems + uptoBulkAll spare + 1
  | .agg parts => uptoBulkAll parts + 1
  | .iface _ d => uptoBulk d + 1
  | .map entries => uptoBulkEntries entries + 1
  | .held _ => 1
def uptoBulkAll {H : Type} : List (DataW H) → Nat
  | [] => 0
  | d :: r => uptoBulk d + uptoBulkAll r
def uptoBulkEntries {H : Type} : List (Lit × DataW H) → Nat
  | [] => 0
  | x :: r => uptoBulkEntry x + uptoBulkEntries r
def uptoBulkEntry {H : Type} : Lit × DataW H → Nat
  | (.string bytes, d) => bytes.length + uptoBulk d + 1
  | (_, d) => uptoBulk d + 1
 end
def uptoSmall : (H : Type) → List (DataW H) → Bool := fun _ ds => decide (uptoBulkAll ds ≤ 1048576)
def OpenSpec.upto (s : _root_.Go.ChangeSpec) : _root_.Go.OpenSpec := { _root_.Go.OpenSpec.ofChange s with cond := some uptoSmall }

/-- 'milepostlaw41.ScoreValues', WHERE WHAT IT READS IS OF BULK AT MOST 1048576: true; the input reads as it did. -/
def scoreValuesUptoRow : OpenClaim := { program := "ytfelbjiflceopaa", sum := "0cd287a38c936bd97c10cdbabffa66efee8bf3dcba12a7c162d0b58dcd124d90", func := "milepost/milepostlaw41.ScoreValues", spec := "scoreValues", unfollowed := true, recurses := true, apart := false, narrowed := true }
def ScoreValuesUptoSaid : Prop := scoreValuesUptoRow.holds Try.pinned (OpenSpec.upto scoreValuesSpec)

/-- 'milepostlaw41.ScoreBest', WHERE WHAT IT READS IS OF BULK AT MOST 1048576: true; the input reads as it did. -/
def scoreBestUptoRow : OpenClaim := { program := "ytfelbjiflceopaa", sum := "0cd287a38c936bd97c10cdbabffa66efee8bf3dcba12a7c162d0b58dcd124d90", func := "milepost/milepostlaw41.ScoreBest", spec := "scoreBest", unfollowed := true, recurses := true, apart := false, narrowed := true }
def ScoreBestUptoSaid : Prop := scoreBestUptoRow.holds Try.pinned (OpenSpec.upto scoreBestSpec)

/-- 'milepostlaw41.ScoreMore', WHERE WHAT IT READS IS OF BULK AT MOST 1048576: true; the input reads as it did. -/
def scoreMoreUptoRow : OpenClaim := { program := "ytfelbjiflceopaa", sum := "0cd287a38c936bd97c10cdbabffa66efee8bf3dcba12a7c162d0b58dcd124d90", func := "milepost/milepostlaw41.ScoreMore", spec := "scoreMore", unfollowed := true, recurses := true, apart := false, narrowed := true }
def ScoreMoreUptoSaid : Prop := scoreMoreUptoRow.holds Try.pinned (OpenSpec.upto scoreMoreSpec)

/-- 'milepostlaw06.RatioAsks', WHERE WHAT IT READS IS OF BULK AT MOST 1048576: true; the input reads as it did. -/
def ratioAsksUptoRow : OpenClaim := { program := "ytfelbjiflceopaa", sum := "0cd287a38c936bd97c10cdbabffa66efee8bf3dcba12a7c162d0b58dcd124d90", func := "milepost/milepostlaw06.RatioAsks", spec := "ratioAsks", apart := false, narrowed := true }
def RatioAsksUptoSaid : Prop := ratioAsksUptoRow.holds Try.pinned (OpenSpec.upto ratioAsksSpec)

/-- 'milepostlaw06.RatioProducts', WHERE WHAT IT READS IS OF BULK AT MOST 1048576: true; the input reads as it did. -/
def ratioProductsUptoRow : OpenClaim := { program := "ytfelbjiflceopaa", sum := "0cd287a38c936bd97c10cdbabffa66efee8bf3dcba12a7c162d0b58dcd124d90", func := "milepost/milepostlaw06.RatioProducts", spec := "ratioProducts", apart := false, narrowed := true }
def RatioProductsUptoSaid : Prop := ratioProductsUptoRow.holds Try.pinned (OpenSpec.upto ratioProductsSpec)

/-- 'milepostlaw06.RatioGrows', WHERE WHAT IT READS IS OF BULK AT MOST 1048576: true; the input reads as it did. -/
def ratioGrowsUptoRow : OpenClaim := { program := "ytfelbjiflceopaa", sum := "0cd287a38c936bd97c10cdbabffa66efee8bf3dcba12a7c162d0b58dcd124d90", func := "milepost/milepostlaw06.RatioGrows", spec := "ratioGrows", apart := false, narrowed := true }
def RatioGrowsUptoSaid : Prop := ratioGrowsUptoRow.holds Try.pinned (OpenSpec.upto ratioGrowsSpec)

/-- 'milepostlaw39.GoodLocal', WHERE WHAT IT READS IS OF BULK AT MOST 1048576: true; the input reads as it did. -/
def goodLocalUptoRow : OpenClaim := { program := "ytfelbjiflceopaa", sum := "0cd287a38c936bd97c10cdbabffa66efee8bf3dcba12a7c162d0b58dcd124d90", func := "milepost/milepostlaw39.GoodLocal", spec := "goodLocal", unfollowed := true, recurses := true, apart := false, narrowed := true }
def GoodLocalUptoSaid : Prop := goodLocalUptoRow.holds Try.pinned (OpenSpec.upto goodLocalSpec)

/-- 'milepostlaw39.GoodSuper', WHERE WHAT IT READS IS OF BULK AT MOST 1048576: true; the input reads as it did. -/
def goodSuperUptoRow : OpenClaim := { program := "ytfelbjiflceopaa", sum := "0cd287a38c936bd97c10cdbabffa66efee8bf3dcba12a7c162d0b58dcd124d90", func := "milepost/milepostlaw39.GoodSuper", spec := "goodSuper", unfollowed := true, recurses := true, apart := false, narrowed := true }
def GoodSuperUptoSaid : Prop := goodSuperUptoRow.holds Try.pinned (OpenSpec.upto goodSuperSpec)

/-- 'milepostlaw39.GoodGrows', WHERE WHAT IT READS IS OF BULK AT MOST 1048576: true; the input reads as it did. -/
def goodGrowsUptoRow : OpenClaim := { program := "ytfelbjiflceopaa", sum := "0cd287a38c936bd97c10cdbabffa66efee8bf3dcba12a7c162d0b58dcd124d90", func := "milepost/milepostlaw39.GoodGrows", spec := "goodGrows", unfollowed := true, recurses := true, apart := false, narrowed := true }
def GoodGrowsUptoSaid : Prop := goodGrowsUptoRow.holds Try.pinned (OpenSpec.upto goodGrowsSpec)

/-- 'milepostlaw39.GoodLong', WHERE WHAT IT READS IS OF BULK AT MOST 1048576: true; the input reads as it did. -/
def goodLongUptoRow : OpenClaim := { program := "ytfelbjiflceopaa", sum := "0cd287a38c936bd97c10cdbabffa66efee8bf3dcba12a7c162d0b58dcd124d90", func := "milepost/milepostlaw39.GoodLong", spec := "goodLong", unfollowed := true, recurses := true, apart := false, narrowed := true }
def GoodLongUptoSaid : Prop := goodLongUptoRow.holds Try.pinned (OpenSpec.upto goodLongSpec)

end Rows
end Go.Proofs.Ytfelbjiflceopaa
