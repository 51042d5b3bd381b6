/-
  No cell of these rows narrows 'for every input' (looked for: loops, veiled, ifaces, maps, wideKeys, modest, calm, conditions, laid).
  DERIVED. THE GIVEN ROWS OF THIS SEAT. 15 by the template 'for every input the law returns true; each argument reads behind the call as it read before'; 0 by the template 'total and deterministic' (their statements: YtcgibofjlicicaaTotals.lean).
  GIVEN WITH THE SEED: the statements are not yours to turn. If you find one false, say at which input.
  Laid BY PROGRAM, IN A SANDBOX (cutbox-rows.mjs): the forced cells as the released guide's own fill.sh prints them over the translation 3a1f49f7ac5b126d… (all of the seat's roots in one cut). By AI agents, Wed Nov 11 2026. No macro, syntax, notation, axiom, sorry.
-/
import Derived.Test.YtcgibofjlicicaaChecked
import GoSem.Claim
import GoSem.ClaimJoined
import GoSem.ClaimMapViews
import Derived.JoinedTies
import Derived.KernelRfl
namespace Go.Proofs.Ytcgibofjlicicaa
/- THE CELL 'sum', in the pinned program and in every row, IS THE sha256 OF THE DUMP (.gsa) THAT YtcgibofjlicicaaProg.lean LOADS. Nothing in Lean hashes anything: it is a label: what it is worth is what the hold of that sum in a sandbox is worth. -/
noncomputable def Try.pinned : Pinned := { name := "ytcgibofjlicicaa", sum := "3a1f49f7ac5b126d1e6832d9707a3c9df5e798d533195c7ae209bb50f90ca5a2", checked := Try.checked }
namespace Rows
def none {H : Type} : Left H := { results := [], args := [] }

/-- 'milepostlaw40.CommonLast': WHATEVER THE INPUT: true; the input reads as it did. -/
def commonLastSpec : ChangeSpec := { name := "commonLast", fn := fun _ => fun
  | [d1, d2] => { results := [.lit (.bool true)], args := [d1, d2] }
  | _ => none }
def commonLastRow : OpenClaim := { program := "ytcgibofjlicicaa", sum := "3a1f49f7ac5b126d1e6832d9707a3c9df5e798d533195c7ae209bb50f90ca5a2", func := "milepost/milepostlaw40.CommonLast", spec := "commonLast", apart := false }
def CommonLastSaid : Prop := commonLastRow.holds Try.pinned (OpenSpec.ofChange commonLastSpec)

/-- ITS FALSE NEIGHBOUR: 'it returns false'. Refute it at one input. -/
def commonLastWrong : ChangeSpec := { name := "commonLast", fn := fun _ => fun
  | [d1, d2] => { results := [.lit (.bool false)], args := [d1, d2] }
  | _ => none }
def CommonLastWrongFalsely : Prop := commonLastRow.holds Try.pinned (OpenSpec.ofChange commonLastWrong)

/-- 'milepostlaw40.CommonBehind': WHATEVER THE INPUT: true; the input reads as it did. -/
def commonBehindSpec : ChangeSpec := { name := "commonBehind", fn := fun _ => fun
  | [d1, d2] => { results := [.lit (.bool true)], args := [d1, d2] }
  | _ => none }
def commonBehindRow : OpenClaim := { program := "ytcgibofjlicicaa", sum := "3a1f49f7ac5b126d1e6832d9707a3c9df5e798d533195c7ae209bb50f90ca5a2", func := "milepost/milepostlaw40.CommonBehind", spec := "commonBehind", apart := false }
def CommonBehindSaid : Prop := commonBehindRow.holds Try.pinned (OpenSpec.ofChange commonBehindSpec)

/-- ITS FALSE NEIGHBOUR: 'it returns false'. Refute it at one input. -/
def commonBehindWrong : ChangeSpec := { name := "commonBehind", fn := fun _ => fun
  | [d1, d2] => { results := [.lit (.bool false)], args := [d1, d2] }
  | _ => none }
def CommonBehindWrongFalsely : Prop := commonBehindRow.holds Try.pinned (OpenSpec.ofChange commonBehindWrong)

/-- 'milepostlaw07.NumTakes': WHATEVER THE INPUT: true; the input reads as it did. -/
def numTakesSpec : ChangeSpec := { name := "numTakes", fn := fun _ => fun
  | [d] => { results := [.lit (.bool true)], args := [d] }
  | _ => none }
def numTakesRow : OpenClaim := { program := "ytcgibofjlicicaa", sum := "3a1f49f7ac5b126d1e6832d9707a3c9df5e798d533195c7ae209bb50f90ca5a2", func := "milepost/milepostlaw07.NumTakes", spec := "numTakes", apart := false }
def NumTakesSaid : Prop := numTakesRow.holds Try.pinned (OpenSpec.ofChange numTakesSpec)

/-- ITS FALSE NEIGHBOUR: 'it returns false'. Refute it at one input. -/
def numTakesWrong : ChangeSpec := { name := "numTakes", fn := fun _ => fun
  | [d] => { results := [.lit (.bool false)], args := [d] }
  | _ => none }
def NumTakesWrongFalsely : Prop := numTakesRow.holds Try.pinned (OpenSpec.ofChange numTakesWrong)

/-- 'milepostlaw07.NumOne': WHATEVER THE INPUT: true; the input reads as it did. -/
def numOneSpec : ChangeSpec := { name := "numOne", fn := fun _ => fun
  | [d] => { results := [.lit (.bool true)], args := [d] }
  | _ => none }
def numOneRow : OpenClaim := { program := "ytcgibofjlicicaa", sum := "3a1f49f7ac5b126d1e6832d9707a3c9df5e798d533195c7ae209bb50f90ca5a2", func := "milepost/milepostlaw07.NumOne", spec := "numOne", apart := false }
def NumOneSaid : Prop := numOneRow.holds Try.pinned (OpenSpec.ofChange numOneSpec)

/-- ITS FALSE NEIGHBOUR: 'it returns false'. Refute it at one input. -/
def numOneWrong : ChangeSpec := { name := "numOne", fn := fun _ => fun
  | [d] => { results := [.lit (.bool false)], args := [d] }
  | _ => none }
def NumOneWrongFalsely : Prop := numOneRow.holds Try.pinned (OpenSpec.ofChange numOneWrong)

/-- 'milepostlaw01.WordRots': WHATEVER THE INPUT: true; the input reads as it did. -/
def wordRotsSpec : ChangeSpec := { name := "wordRots", fn := fun _ => fun
  | [d1, d2] => { results := [.lit (.bool true)], args := [d1, d2] }
  | _ => none }
def wordRotsRow : OpenClaim := { program := "ytcgibofjlicicaa", sum := "3a1f49f7ac5b126d1e6832d9707a3c9df5e798d533195c7ae209bb50f90ca5a2", func := "milepost/milepostlaw01.WordRots", spec := "wordRots", apart := false }
def WordRotsSaid : Prop := wordRotsRow.holds Try.pinned (OpenSpec.ofChange wordRotsSpec)

/-- ITS FALSE NEIGHBOUR: 'it returns false'. Refute it at one input. -/
def wordRotsWrong : ChangeSpec := { name := "wordRots", fn := fun _ => fun
  | [d1, d2] => { results := [.lit (.bool false)], args := [d1, d2] }
  | _ => none }
def WordRotsWrongFalsely : Prop := wordRotsRow.holds Try.pinned (OpenSpec.ofChange wordRotsWrong)

/-- 'milepostlaw01.WordLeads': WHATEVER THE INPUT: true; the input reads as it did. -/
def wordLeadsSpec : ChangeSpec := { name := "wordLeads", fn := fun _ => fun
  | [d] => { results := [.lit (.bool true)], args := [d] }
  | _ => none }
def wordLeadsRow : OpenClaim := { program := "ytcgibofjlicicaa", sum := "3a1f49f7ac5b126d1e6832d9707a3c9df5e798d533195c7ae209bb50f90ca5a2", func := "milepost/milepostlaw01.WordLeads", spec := "wordLeads", apart := false }
def WordLeadsSaid : Prop := wordLeadsRow.holds Try.pinned (OpenSpec.ofChange wordLeadsSpec)

/-- ITS FALSE NEIGHBOUR: 'it returns false'. Refute it at one input. -/
def wordLeadsWrong : ChangeSpec := { name := "wordLeads", fn := fun _ => fun
  | [d] => { results := [.lit (.bool false)], args := [d] }
  | _ => none }
def WordLeadsWrongFalsely : Prop := wordLeadsRow.holds Try.pinned (OpenSpec.ofChange wordLeadsWrong)

/-- 'milepostlaw07.NumPuts': WHATEVER THE INPUT: true; the input reads as it did. -/
def numPutsSpec : ChangeSpec := { name := "numPuts", fn := fun _ => fun
  | [d] => { results := [.lit (.bool true)], args := [d] }
  | _ => none }
def numPutsRow : OpenClaim := { program := "ytcgibofjlicicaa", sum := "3a1f49f7ac5b126d1e6832d9707a3c9df5e798d533195c7ae209bb50f90ca5a2", func := "milepost/milepostlaw07.NumPuts", spec := "numPuts", recurses := true, apart := false }
def NumPutsSaid : Prop := numPutsRow.holds Try.pinned (OpenSpec.ofChange numPutsSpec)

/-- ITS FALSE NEIGHBOUR: 'it returns false'. Refute it at one input. -/
def numPutsWrong : ChangeSpec := { name := "numPuts", fn := fun _ => fun
  | [d] => { results := [.lit (.bool false)], args := [d] }
  | _ => none }
def NumPutsWrongFalsely : Prop := numPutsRow.holds Try.pinned (OpenSpec.ofChange numPutsWrong)

/-- 'milepostlaw07.NumBack': WHATEVER THE INPUT: true; the input reads as it did. -/
def numBackSpec : ChangeSpec := { name := "numBack", fn := fun _ => fun
  | [d1, d2] => { results := [.lit (.bool true)], args := [d1, d2] }
  | _ => none }
def numBackRow : OpenClaim := { program := "ytcgibofjlicicaa", sum := "3a1f49f7ac5b126d1e6832d9707a3c9df5e798d533195c7ae209bb50f90ca5a2", func := "milepost/milepostlaw07.NumBack", spec := "numBack", apart := false }
def NumBackSaid : Prop := numBackRow.holds Try.pinned (OpenSpec.ofChange numBackSpec)

/-- ITS FALSE NEIGHBOUR: 'it returns false'. Refute it at one input. -/
def numBackWrong : ChangeSpec := { name := "numBack", fn := fun _ => fun
  | [d1, d2] => { results := [.lit (.bool false)], args := [d1, d2] }
  | _ => none }
def NumBackWrongFalsely : Prop := numBackRow.holds Try.pinned (OpenSpec.ofChange numBackWrong)

/-- 'milepostlaw11.ShapeLeft': WHATEVER THE INPUT: true; the input reads as it did. -/
def shapeLeftSpec : ChangeSpec := { name := "shapeLeft", fn := fun _ => fun
  | [d] => { results := [.lit (.bool true)], args := [d] }
  | _ => none }
def shapeLeftRow : OpenClaim := { program := "ytcgibofjlicicaa", sum := "3a1f49f7ac5b126d1e6832d9707a3c9df5e798d533195c7ae209bb50f90ca5a2", func := "milepost/milepostlaw11.ShapeLeft", spec := "shapeLeft", unfollowed := true, recurses := true, apart := false }
def ShapeLeftSaid : Prop := shapeLeftRow.holds Try.pinned (OpenSpec.ofChange shapeLeftSpec)

/-- ITS FALSE NEIGHBOUR: 'it returns false'. Refute it at one input. -/
def shapeLeftWrong : ChangeSpec := { name := "shapeLeft", fn := fun _ => fun
  | [d] => { results := [.lit (.bool false)], args := [d] }
  | _ => none }
def ShapeLeftWrongFalsely : Prop := shapeLeftRow.holds Try.pinned (OpenSpec.ofChange shapeLeftWrong)

/-- 'milepostlaw01.WordPuts': WHATEVER THE INPUT: true; the input reads as it did. -/
def wordPutsSpec : ChangeSpec := { name := "wordPuts", fn := fun _ => fun
  | [d1, d2] => { results := [.lit (.bool true)], args := [d1, d2] }
  | _ => none }
def wordPutsRow : OpenClaim := { program := "ytcgibofjlicicaa", sum := "3a1f49f7ac5b126d1e6832d9707a3c9df5e798d533195c7ae209bb50f90ca5a2", func := "milepost/milepostlaw01.WordPuts", spec := "wordPuts", apart := false }
def WordPutsSaid : Prop := wordPutsRow.holds Try.pinned (OpenSpec.ofChange wordPutsSpec)

/-- ITS FALSE NEIGHBOUR: 'it returns false'. Refute it at one input. -/
def wordPutsWrong : ChangeSpec := { name := "wordPuts", fn := fun _ => fun
  | [d1, d2] => { results := [.lit (.bool false)], args := [d1, d2] }
  | _ => none }
def WordPutsWrongFalsely : Prop := wordPutsRow.holds Try.pinned (OpenSpec.ofChange wordPutsWrong)

/-- 'milepostlaw01.WordTakes': WHATEVER THE INPUT: true; the input reads as it did. -/
def wordTakesSpec : ChangeSpec := { name := "wordTakes", fn := fun _ => fun
  | [d1, d2] => { results := [.lit (.bool true)], args := [d1, d2] }
  | _ => none }
def wordTakesRow : OpenClaim := { program := "ytcgibofjlicicaa", sum := "3a1f49f7ac5b126d1e6832d9707a3c9df5e798d533195c7ae209bb50f90ca5a2", func := "milepost/milepostlaw01.WordTakes", spec := "wordTakes", apart := false }
def WordTakesSaid : Prop := wordTakesRow.holds Try.pinned (OpenSpec.ofChange wordTakesSpec)

/-- ITS FALSE NEIGHBOUR: 'it returns false'. Refute it at one input. -/
def wordTakesWrong : ChangeSpec := { name := "wordTakes", fn := fun _ => fun
  | [d1, d2] => { results := [.lit (.bool false)], args := [d1, d2] }
  | _ => none }
def WordTakesWrongFalsely : Prop := wordTakesRow.holds Try.pinned (OpenSpec.ofChange wordTakesWrong)

/-- 'milepostlaw01.WordBack': WHATEVER THE INPUT: true; the input reads as it did. -/
def wordBackSpec : ChangeSpec := { name := "wordBack", fn := fun _ => fun
  | [d1, d2, d3] => { results := [.lit (.bool true)], args := [d1, d2, d3] }
  | _ => none }
def wordBackRow : OpenClaim := { program := "ytcgibofjlicicaa", sum := "3a1f49f7ac5b126d1e6832d9707a3c9df5e798d533195c7ae209bb50f90ca5a2", func := "milepost/milepostlaw01.WordBack", spec := "wordBack", apart := false }
def WordBackSaid : Prop := wordBackRow.holds Try.pinned (OpenSpec.ofChange wordBackSpec)

/-- ITS FALSE NEIGHBOUR: 'it returns false'. Refute it at one input. -/
def wordBackWrong : ChangeSpec := { name := "wordBack", fn := fun _ => fun
  | [d1, d2, d3] => { results := [.lit (.bool false)], args := [d1, d2, d3] }
  | _ => none }
def WordBackWrongFalsely : Prop := wordBackRow.holds Try.pinned (OpenSpec.ofChange wordBackWrong)

/-- 'milepostlaw11.ShapeSides': WHATEVER THE INPUT: true; the input reads as it did. -/
def shapeSidesSpec : ChangeSpec := { name := "shapeSides", fn := fun _ => fun
  | [d1, d2] => { results := [.lit (.bool true)], args := [d1, d2] }
  | _ => none }
def shapeSidesRow : OpenClaim := { program := "ytcgibofjlicicaa", sum := "3a1f49f7ac5b126d1e6832d9707a3c9df5e798d533195c7ae209bb50f90ca5a2", func := "milepost/milepostlaw11.ShapeSides", spec := "shapeSides", unfollowed := true, recurses := true, apart := false }
def ShapeSidesSaid : Prop := shapeSidesRow.holds Try.pinned (OpenSpec.ofChange shapeSidesSpec)

/-- ITS FALSE NEIGHBOUR: 'it returns false'. Refute it at one input. -/
def shapeSidesWrong : ChangeSpec := { name := "shapeSides", fn := fun _ => fun
  | [d1, d2] => { results := [.lit (.bool false)], args := [d1, d2] }
  | _ => none }
def ShapeSidesWrongFalsely : Prop := shapeSidesRow.holds Try.pinned (OpenSpec.ofChange shapeSidesWrong)

/-- 'milepostlaw11.ShapeApart': WHATEVER THE INPUT: true; the input reads as it did. -/
def shapeApartSpec : ChangeSpec := { name := "shapeApart", fn := fun _ => fun
  | [d] => { results := [.lit (.bool true)], args := [d] }
  | _ => none }
def shapeApartRow : OpenClaim := { program := "ytcgibofjlicicaa", sum := "3a1f49f7ac5b126d1e6832d9707a3c9df5e798d533195c7ae209bb50f90ca5a2", func := "milepost/milepostlaw11.ShapeApart", spec := "shapeApart", unfollowed := true, recurses := true, apart := false }
def ShapeApartSaid : Prop := shapeApartRow.holds Try.pinned (OpenSpec.ofChange shapeApartSpec)

/-- ITS FALSE NEIGHBOUR: 'it returns false'. Refute it at one input. -/
def shapeApartWrong : ChangeSpec := { name := "shapeApart", fn := fun _ => fun
  | [d] => { results := [.lit (.bool false)], args := [d] }
  | _ => none }
def ShapeApartWrongFalsely : Prop := shapeApartRow.holds Try.pinned (OpenSpec.ofChange shapeApartWrong)

/-- 'milepostlaw09.BufPuts': WHATEVER THE INPUT: true; the input reads as it did. -/
def bufPutsSpec : ChangeSpec := { name := "bufPuts", fn := fun _ => fun
  | [d] => { results := [.lit (.bool true)], args := [d] }
  | _ => none }
def bufPutsRow : OpenClaim := { program := "ytcgibofjlicicaa", sum := "3a1f49f7ac5b126d1e6832d9707a3c9df5e798d533195c7ae209bb50f90ca5a2", func := "milepost/milepostlaw09.BufPuts", spec := "bufPuts", inPlace := ["internal/abi.NoEscape"], recurses := true, apart := false }
def BufPutsSaid : Prop := bufPutsRow.holds Try.pinned (OpenSpec.ofChange bufPutsSpec)

/-- ITS FALSE NEIGHBOUR: 'it returns false'. Refute it at one input. -/
def bufPutsWrong : ChangeSpec := { name := "bufPuts", fn := fun _ => fun
  | [d] => { results := [.lit (.bool false)], args := [d] }
  | _ => none }
def BufPutsWrongFalsely : Prop := bufPutsRow.holds Try.pinned (OpenSpec.ofChange bufPutsWrong)

/- THE SECOND FORM. 'bulk': how many values and letters a reading holds, each counted each time it is reached (what is shared counts as often as it is met; a slice's spare places count too). A statement '..UptoSaid' is the law's where the arguments, and the package variables that the reading takes, are together of bulk at most 1048576: NARROWER than '..Said'. Prove '..Said' where nothing that the law and all that it calls make is longer than what came in: it says more and counts as full. Else prove '..UptoSaid'. A law counts once. -/
mutual
def uptoBulk {H : Type} : DataW H → Nat
  | .lit (.string bytes) => bytes.length + 1
  | .lit _ => 1
  | .nil => 1
  | .ptr d => uptoBulk d + 1
  | .slice elems spare => uptoBulkAll elems + uptoBulkAll spare + 1
  | .agg parts => uptoBulkAll parts + 1
  | .iface _ d => uptoBulk d + 1
  | .map entries => uptoBulkEntries entries + 1
  | .held _ => 1
def uptoBulkAll {H : Type} : List (DataW H) → Nat
  | [] => 0
  | d :: r => uptoBulk d + uptoBulkAll r
def uptoBulkEntries {H : Type} : List (Lit × DataW H) → Nat
  | [] => 0
  | x :: r => uptoBulkEntry x + uptoBulkEntries r
def uptoBulkEntry {H : Type} : Lit × DataW H → Nat
  | (.string bytes, d) => bytes.length + uptoBulk d + 1
  | (_, d) => uptoBulk d + 1
 end
def uptoSmall : (H : Type) → List (DataW H) → Bool := fun _ ds => decide (uptoBulkAll ds ≤ 1048576)
def OpenSpec.upto (s : _root_.Go.ChangeSpec) : _root_.Go.OpenSpec := { _root_.Go.OpenSpec.ofChange s with cond := some uptoSmall }

/-- 'milepostlaw40.CommonLast', WHERE WHAT IT READS IS OF BULK AT MOST 1048576: true; the input reads as it did. -/
def commonLastUptoRow : OpenClaim := { program := "ytcgibofjlicicaa", sum := "3a1f49f7ac5b126d1e6832d9707a3c9df5e798d533195c7ae209bb50f90ca5a2", func := "milepost/milepostlaw40.CommonLast", spec := "commonLast", apart := false, narrowed := true }
def CommonLastUptoSaid : Prop := commonLastUptoRow.holds Try.pinned (OpenSpec.upto commonLastSpec)

/-- 'milepostlaw40.CommonBehind', WHERE WHAT IT READS IS OF BULK AT MOST 1048576: true; the input reads as it did. -/
def commonBehindUptoRow : OpenClaim := { program := "ytcgibofjlicicaa", sum := "3a1f49f7ac5b126d1e6832d9707a3c9df5e798d533195c7ae209bb50f90ca5a2", func := "milepost/milepostlaw40.CommonBehind", spec := "commonBehind", apart := false, narrowed := true }
def CommonBehindUptoSaid : Prop := commonBehindUptoRow.holds Try.pinned (OpenSpec.upto commonBehindSpec)

/-- 'milepostlaw07.NumTakes', WHERE WHAT IT READS IS OF BULK AT MOST 1048576: true; the input reads as it did. -/
def numTakesUptoRow : OpenClaim := { program := "ytcgibofjlicicaa", sum := "3a1f49f7ac5b126d1e6832d9707a3c9df5e798d533195c7ae209bb50f90ca5a2", func := "milepost/milepostlaw07.NumTakes", spec := "numTakes", apart := false, narrowed := true }
def NumTakesUptoSaid : Prop := numTakesUptoRow.holds Try.pinned (OpenSpec.upto numTakesSpec)

/-- 'milepostlaw07.NumOne', WHERE WHAT IT READS IS OF BULK AT MOST 1048576: true; the input reads as it did. -/
def numOneUptoRow : OpenClaim := { program := "ytcgibofjlicicaa", sum := "3a1f49f7ac5b126d1e6832d9707a3c9df5e798d533195c7ae209bb50f90ca5a2", func := "milepost/milepostlaw07.NumOne", spec := "numOne", apart := false, narrowed := true }
def NumOneUptoSaid : Prop := numOneUptoRow.holds Try.pinned (OpenSpec.upto numOneSpec)

/-- 'milepostlaw01.WordRots', WHERE WHAT IT READS IS OF BULK AT MOST 1048576: true; the input reads as it did. -/
def wordRotsUptoRow : OpenClaim := { program := "ytcgibofjlicicaa", sum := "3a1f49f7ac5b126d1e6832d9707a3c9df5e798d533195c7ae209bb50f90ca5a2", func := "milepost/milepostlaw01.WordRots", spec := "wordRots", apart := false, narrowed := true }
def WordRotsUptoSaid : Prop := wordRotsUptoRow.holds Try.pinned (OpenSpec.upto wordRotsSpec)

/-- 'milepostlaw01.WordLeads', WHERE WHAT IT READS IS OF BULK AT MOST 1048576: true; the input reads as it did. -/
def wordLeadsUptoRow : OpenClaim := { program := "ytcgibofjlicicaa", sum := "3a1f49f7ac5b126d1e6832d9707a3c9df5e798d533195c7ae209bb50f90ca5a2", func := "milepost/milepostlaw01.WordLeads", spec := "wordLeads", apart := false, narrowed := true }
def WordLeadsUptoSaid : Prop := wordLeadsUptoRow.holds Try.pinned (OpenSpec.upto wordLeadsSpec)

/-- 'milepostlaw07.NumPuts', WHERE WHAT IT READS IS OF BULK AT MOST 1048576: true; the input reads as it did. -/
def numPutsUptoRow : OpenClaim := { program := "ytcgibofjlicicaa", sum := "3a1f49f7ac5b126d1e6832d9707a3c9df5e798d533195c7ae209bb50f90ca5a2", func := "milepost/milepostlaw07.NumPuts", spec := "numPuts", recurses := true, apart := false, narrowed := true }
def NumPutsUptoSaid : Prop := numPutsUptoRow.holds Try.pinned (OpenSpec.upto numPutsSpec)

/-- 'milepostlaw07.NumBack', WHERE WHAT IT READS IS OF BULK AT MOST 1048576: true; the input reads as it did. -/
def numBackUptoRow : OpenClaim := { program := "ytcgibofjlicicaa", sum := "3a1f49f7ac5b126d1e6832d9707a3c9df5e798d533195c7ae209bb50f90ca5a2", func := "milepost/milepostlaw07.NumBack", spec := "numBack", apart := false, narrowed := true }
def NumBackUptoSaid : Prop := numBackUptoRow.holds Try.pinned (OpenSpec.upto numBackSpec)

/-- 'milepostlaw11.ShapeLeft', WHERE WHAT IT READS IS OF BULK AT MOST 1048576: true; the input reads as it did. -/
def shapeLeftUptoRow : OpenClaim := { program := "ytcgibofjlicicaa", sum := "3a1f49f7ac5b126d1e6832d9707a3c9df5e798d533195c7ae209bb50f90ca5a2", func := "milepost/milepostlaw11.ShapeLeft", spec := "shapeLeft", unfollowed := true, recurses := true, apart := false, narrowed := true }
def ShapeLeftUptoSaid : Prop := shapeLeftUptoRow.holds Try.pinned (OpenSpec.upto shapeLeftSpec)

/-- 'milepostlaw01.WordPuts', WHERE WHAT IT READS IS OF BULK AT MOST 1048576: true; the input reads as it did. -/
def wordPutsUptoRow : OpenClaim := { program := "ytcgibofjlicicaa", sum := "3a1f49f7ac5b126d1e6832d9707a3c9df5e798d533195c7ae209bb50f90ca5a2", func := "milepost/milepostlaw01.WordPuts", spec := "wordPuts", apart := false, narrowed := true }
def WordPutsUptoSaid : Prop := wordPutsUptoRow.holds Try.pinned (OpenSpec.upto wordPutsSpec)

/-- 'milepostlaw01.WordTakes', WHERE WHAT IT READS IS OF BULK AT MOST 1048576: true; the input reads as it did. -/
def wordTakesUptoRow : OpenClaim := { program := "ytcgibofjlicicaa", sum := "3a1f49f7ac5b126d1e6832d9707a3c9df5e798d533195c7ae209bb50f90ca5a2", func := "milepost/milepostlaw01.WordTakes", spec := "wordTakes", apart := false, narrowed := true }
def WordTakesUptoSaid : Prop := wordTakesUptoRow.holds Try.pinned (OpenSpec.upto wordTakesSpec)

/-- 'milepostlaw01.WordBack', WHERE WHAT IT READS IS OF BULK AT MOST 1048576: true; the input reads as it did. -/
def wordBackUptoRow : OpenClaim := { program := "ytcgibofjlicicaa", sum := "3a1f49f7ac5b126d1e6832d9707a3c9df5e798d533195c7ae209bb50f90ca5a2", func := "milepost/milepostlaw01.WordBack", spec := "wordBack", apart := false, narrowed := true }
def WordBackUptoSaid : Prop := wordBackUptoRow.holds Try.pinned (OpenSpec.upto wordBackSpec)

/-- 'milepostlaw11.ShapeSides', WHERE WHAT IT READS IS OF BULK AT MOST 1048576: true; the input reads as it did. -/
def shapeSidesUptoRow : OpenClaim := { program := "ytcgibofjlicicaa", sum := "3a1f49f7ac5b126d1e6832d9707a3c9df5e798d533195c7ae209bb50f90ca5a2", func := "milepost/milepostlaw11.ShapeSides", spec := "shapeSides", unfollowed := true, recurses := true, apart := false, narrowed := true }
def ShapeSidesUptoSaid : Prop := shapeSidesUptoRow.holds Try.pinned (OpenSpec.upto shapeSidesSpec)

/-- 'milepostlaw11.ShapeApart', WHERE WHAT IT READS IS OF BULK AT MOST 1048576: true; the input reads as it did. -/
def shapeApartUptoRow : OpenClaim := { program := "ytcgibofjlicicaa", sum := "3a1f49f7ac5b126d1e6832d9707a3c9df5e798d533195c7ae209bb50f90ca5a2", func := "milepost/milepostlaw11.ShapeApart", spec := "shapeApart", unfollowed := true, recurses := true, apart := false, narrowed := true }
def ShapeApartUptoSaid : Prop := shapeApartUptoRow.holds Try.pinned (OpenSpec.upto shapeApartSpec)

/-- 'milepostlaw09.BufPuts', WHERE WHAT IT READS IS OF BULK AT MOST 1048576: true; the input reads as it did. -/
def bufPutsUptoRow : OpenClaim := { program := "ytcgibofjlicicaa", sum := "3a1f49f7ac5b126d1e6832d9707a3c9df5e798d533195c7ae209bb50f90ca5a2", func := "milepost/milepostlaw09.BufPuts", spec := "bufPuts", inPlace := ["internal/abi.NoEscape"], recurses := true, apart := false, narrowed := true }
def BufPutsUptoSaid : Prop := bufPutsUptoRow.holds Try.pinned (OpenSpec.upto bufPutsSpec)

end Rows
end Go.Proofs.Ytcgibofjlicicaa
