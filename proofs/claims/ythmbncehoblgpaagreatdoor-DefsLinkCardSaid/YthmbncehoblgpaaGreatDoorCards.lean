/-
  DERIVED. GIVEN WITH THE SEED: THE CARDS: each row of YthmbncehoblgpaaGreatDoorRows.lean that lists a variable, with what it lists TIED to the program's text (the seventh form; the later family's looks); each row that meets fmt, with fmt's text TOLD by the authors' own Lean function (tested against real Go, not proved from fmt's source: count such statements apart). THE CARD IS WHAT COUNTS. Prove the row's statement (the work); the ties are given (YthmbncehoblgpaaGreatDoorTie.lean); close each card by the builder's one call (the guide's Derived/Test/ToyasCard.lean, 'card_holds'). Laid BY PROGRAM, IN A SANDBOX (cutbox-door.mjs). By AI agents, Wed Nov 11 2026. No macro, syntax, notation, axiom, sorry.
-/
import Derived.Test.YthmbncehoblgpaaGreatDoorRows
import GoSem.ClaimSeven
namespace Go.Proofs.YthmbncehoblgpaaGreatDoor
namespace Rows

/-- THE TIED CARD OF 'lychgatelaw23.DefsNeeds'. -/
def defsNeedsCard : Claim7 := { stood := { row := defsNeedsRow, standIns := [], harness := (true, "5daaf6936d68be7f9a9b5ef5816ac4f12a13e27373f22848d68dfa55f61e21de"), looks := true }, kinds := [], alts := [], laidByText := true, laidKinds := [.handle], laidTests := true, laidLooks := .later }
def DefsNeedsCardSaid : Prop := Claim7.holds Tryz.pinned (.plain (OpenSpec.ofChange defsNeedsSpec)) defsNeedsCard

/-- THE TIED CARD OF 'lychgatelaw23.DefsLink'. -/
def defsLinkCard : Claim7 := { stood := { row := defsLinkRow, standIns := [], harness := (true, "5daaf6936d68be7f9a9b5ef5816ac4f12a13e27373f22848d68dfa55f61e21de"), looks := true }, kinds := [], alts := [], laidByText := true, laidKinds := [.handle], laidTests := true, laidLooks := .later }
def DefsLinkCardSaid : Prop := Claim7.holds Tryz.pinned (.plain (OpenSpec.ofChange defsLinkSpec)) defsLinkCard

/-- THE SECOND FORM's CARD OF 'lychgatelaw23.DefsNeeds'. -/
def defsNeedsUptoCard : Claim7 := { stood := { row := defsNeedsUptoRow, standIns := [], harness := (true, "5daaf6936d68be7f9a9b5ef5816ac4f12a13e27373f22848d68dfa55f61e21de"), looks := true }, kinds := [], alts := [], laidByText := true, laidKinds := [.handle], laidTests := true, laidLooks := .later }
def DefsNeedsUptoCardSaid : Prop := Claim7.holds Tryz.pinned (.plain (OpenSpec.upto defsNeedsSpec)) defsNeedsUptoCard

/-- THE SECOND FORM's CARD OF 'lychgatelaw23.DefsLink'. -/
def defsLinkUptoCard : Claim7 := { stood := { row := defsLinkUptoRow, standIns := [], harness := (true, "5daaf6936d68be7f9a9b5ef5816ac4f12a13e27373f22848d68dfa55f61e21de"), looks := true }, kinds := [], alts := [], laidByText := true, laidKinds := [.handle], laidTests := true, laidLooks := .later }
def DefsLinkUptoCardSaid : Prop := Claim7.holds Tryz.pinned (.plain (OpenSpec.upto defsLinkSpec)) defsLinkUptoCard
end Rows
end Go.Proofs.YthmbncehoblgpaaGreatDoor
