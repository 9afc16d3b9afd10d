/-
  DERIVED. GIVEN WITH THE SEED: THE CARDS: each row of YtmaokphbfjpodaaDoorRows.lean that lists a variable, with what it lists TIED to the program's text (the seventh form; the later family's looks); each row that meets fmt, with fmt's text TOLD by the authors' own Lean function (tested against real Go, not proved from fmt's source: count such statements apart). THE CARD IS WHAT COUNTS. Prove the row's statement (the work); the ties are given (YtmaokphbfjpodaaDoorTie.lean); close each card by the builder's one call (the guide's Derived/Test/ToyasCard.lean, 'card_holds'). Laid BY PROGRAM, IN A SANDBOX (cutbox-door.mjs). By AI agents, Wed Nov 11 2026. No macro, syntax, notation, axiom, sorry.
-/
import Derived.Test.YtmaokphbfjpodaaDoorRows
import GoSem.ClaimSeven
namespace Go.Proofs.YtmaokphbfjpodaaDoor
namespace Rows

/-- THE TIED CARD OF 'lychgatelaw04.ParseBlanks'. -/
def parseBlanksCard : Claim7 := { stood := { row := parseBlanksRow, standIns := [], harness := (true, "2d3c1366945f359b0e589fb858388af77b84fd236940281d19c752c08b1f4608"), looks := true }, kinds := [], alts := [], laidByText := true, laidKinds := [.handle], laidTests := true, laidLooks := .later }
def ParseBlanksCardSaid : Prop := Claim7.holds Tryd.pinned (.plain (OpenSpec.ofChange parseBlanksSpec)) parseBlanksCard

/-- THE TIED CARD OF 'lychgatelaw05.ShowKnown'. -/
def showKnownCard : Claim7 := { stood := { row := showKnownRow, standIns := [], harness := (true, "2d3c1366945f359b0e589fb858388af77b84fd236940281d19c752c08b1f4608"), looks := true }, kinds := [], alts := [], laidByText := true, laidKinds := [.data, .data, .data], laidTests := true, laidLooks := .later }
def ShowKnownCardSaid : Prop := Claim7.holds Tryd.pinned (.plain (OpenSpec.ofChange showKnownSpec)) showKnownCard

/-- THE SECOND FORM's CARD OF 'lychgatelaw04.ParseBlanks'. -/
def parseBlanksUptoCard : Claim7 := { stood := { row := parseBlanksUptoRow, standIns := [], harness := (true, "2d3c1366945f359b0e589fb858388af77b84fd236940281d19c752c08b1f4608"), looks := true }, kinds := [], alts := [], laidByText := true, laidKinds := [.handle], laidTests := true, laidLooks := .later }
def ParseBlanksUptoCardSaid : Prop := Claim7.holds Tryd.pinned (.plain (OpenSpec.upto parseBlanksSpec)) parseBlanksUptoCard

/-- THE SECOND FORM's CARD OF 'lychgatelaw05.ShowKnown'. -/
def showKnownUptoCard : Claim7 := { stood := { row := showKnownUptoRow, standIns := [], harness := (true, "2d3c1366945f359b0e589fb858388af77b84fd236940281d19c752c08b1f4608"), looks := true }, kinds := [], alts := [], laidByText := true, laidKinds := [.data, .data, .data], laidTests := true, laidLooks := .later }
def ShowKnownUptoCardSaid : Prop := Claim7.holds Tryd.pinned (.plain (OpenSpec.upto showKnownSpec)) showKnownUptoCard
end Rows
end Go.Proofs.YtmaokphbfjpodaaDoor
