/-
  DERIVED. GIVEN WITH THE SEED: THE CARDS: each row of YtihdeanfcbiflaaDoorRows.lean that lists a variable, with what it lists TIED to the program's text (the seventh form; the later family's looks); each row that meets fmt, with fmt's text TOLD by the authors' own Lean function (tested against real Go, not proved from fmt's source: count such statements apart). THE CARD IS WHAT COUNTS. Prove the row's statement (the work); the ties are given (YtihdeanfcbiflaaDoorTie.lean); close each card by the builder's one call (the guide's Derived/Test/ToyasCard.lean, 'card_holds'). Laid BY PROGRAM, IN A SANDBOX (cutbox-door.mjs). By AI agents, Wed Nov 11 2026. No macro, syntax, notation, axiom, sorry.
-/
import Derived.Test.YtihdeanfcbiflaaDoorRows
import GoSem.ClaimSeven
namespace Go.Proofs.YtihdeanfcbiflaaDoor
namespace Rows

/-- THE TIED CARD OF 'milepostlaw43.WhyTells'. -/
def whyTellsCard : Claim7 := { stood := { row := whyTellsRow, standIns := [], harness := (true, "fffc093bb843847dd8dcb8d291739df95716ffebb92aa314da3188a5f94b0154"), looks := false }, kinds := [], alts := [], laidByText := true, laidKinds := [.data, .data, .data], laidTests := true, laidLooks := .later }
def WhyTellsCardSaid : Prop := Claim7.holds Tryd.pinned (.plain (OpenSpec.ofChange whyTellsSpec)) whyTellsCard

/-- THE TIED CARD OF 'milepostlaw43.WhyTables'. -/
def whyTablesCard : Claim7 := { stood := { row := whyTablesRow, standIns := [], harness := (true, "fffc093bb843847dd8dcb8d291739df95716ffebb92aa314da3188a5f94b0154"), looks := false }, kinds := [], alts := [], laidByText := true, laidKinds := [.data, .data, .data], laidTests := true, laidLooks := .later }
def WhyTablesCardSaid : Prop := Claim7.holds Tryd.pinned (.plain (OpenSpec.ofChange whyTablesSpec)) whyTablesCard

/-- THE TIED CARD OF 'milepostlaw43.WhyDecides'. -/
def whyDecidesCard : Claim7 := { stood := { row := whyDecidesRow, standIns := [], harness := (true, "fffc093bb843847dd8dcb8d291739df95716ffebb92aa314da3188a5f94b0154"), looks := false }, kinds := [], alts := [], laidByText := true, laidKinds := [.data, .data, .data], laidTests := true, laidLooks := .later }
def WhyDecidesCardSaid : Prop := Claim7.holds Tryd.pinned (.plain (OpenSpec.ofChange whyDecidesSpec)) whyDecidesCard

/-- THE SECOND FORM's CARD OF 'milepostlaw43.WhyTells'. -/
def whyTellsUptoCard : Claim7 := { stood := { row := whyTellsUptoRow, standIns := [], harness := (true, "fffc093bb843847dd8dcb8d291739df95716ffebb92aa314da3188a5f94b0154"), looks := false }, kinds := [], alts := [], laidByText := true, laidKinds := [.data, .data, .data], laidTests := true, laidLooks := .later }
def WhyTellsUptoCardSaid : Prop := Claim7.holds Tryd.pinned (.plain (OpenSpec.upto whyTellsSpec)) whyTellsUptoCard

/-- THE SECOND FORM's CARD OF 'milepostlaw43.WhyTables'. -/
def whyTablesUptoCard : Claim7 := { stood := { row := whyTablesUptoRow, standIns := [], harness := (true, "fffc093bb843847dd8dcb8d291739df95716ffebb92aa314da3188a5f94b0154"), looks := false }, kinds := [], alts := [], laidByText := true, laidKinds := [.data, .data, .data], laidTests := true, laidLooks := .later }
def WhyTablesUptoCardSaid : Prop := Claim7.holds Tryd.pinned (.plain (OpenSpec.upto whyTablesSpec)) whyTablesUptoCard

/-- THE SECOND FORM's CARD OF 'milepostlaw43.WhyDecides'. -/
def whyDecidesUptoCard : Claim7 := { stood := { row := whyDecidesUptoRow, standIns := [], harness := (true, "fffc093bb843847dd8dcb8d291739df95716ffebb92aa314da3188a5f94b0154"), looks := false }, kinds := [], alts := [], laidByText := true, laidKinds := [.data, .data, .data], laidTests := true, laidLooks := .later }
def WhyDecidesUptoCardSaid : Prop := Claim7.holds Tryd.pinned (.plain (OpenSpec.upto whyDecidesSpec)) whyDecidesUptoCard
end Rows
end Go.Proofs.YtihdeanfcbiflaaDoor
