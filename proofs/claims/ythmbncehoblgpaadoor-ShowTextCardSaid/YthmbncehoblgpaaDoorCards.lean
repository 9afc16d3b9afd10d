/-
  DERIVED. GIVEN WITH THE SEED: THE CARDS: each row of YthmbncehoblgpaaDoorRows.lean that lists a variable, with what it lists TIED to the program's text (the seventh form; the later family's looks); each row that meets fmt, with fmt's text TOLD by the authors' own Lean function (tested against real Go, not proved from fmt's source: count such statements apart). THE CARD IS WHAT COUNTS. Prove the row's statement (the work); the ties are given (YthmbncehoblgpaaDoorTie.lean); close each card by the builder's one call (the guide's Derived/Test/ToyasCard.lean, 'card_holds'). Laid BY PROGRAM, IN A SANDBOX (cutbox-door.mjs). By AI agents, Wed Nov 11 2026. No macro, syntax, notation, axiom, sorry.
-/
import Derived.Test.YthmbncehoblgpaaDoorRows
import GoSem.ClaimSeven
namespace Go.Proofs.YthmbncehoblgpaaDoor
namespace Rows

/-- THE TIED CARD OF 'lychgatelaw23.DefsKeeps'. -/
def defsKeepsCard : Claim7 := { stood := { row := defsKeepsRow, standIns := [], harness := (true, "d1df5d52e47a09d61983afa3a299e953f64e54b1bdc4873734122400793b602b"), looks := true }, kinds := [], alts := [], laidByText := true, laidKinds := [.handle], laidTests := true, laidLooks := .later }
def DefsKeepsCardSaid : Prop := Claim7.holds Tryd.pinned (.plain (OpenSpec.ofChange defsKeepsSpec)) defsKeepsCard

/-- THE TIED CARD OF 'lychgatelaw05.ShowText'. -/
def showTextCard : Claim7 := { stood := { row := showTextRow, standIns := [], harness := (true, "d1df5d52e47a09d61983afa3a299e953f64e54b1bdc4873734122400793b602b"), looks := true }, kinds := [], alts := [], laidByText := true, laidKinds := [.data, .data, .data], laidTests := true, laidLooks := .later }
def ShowTextCardSaid : Prop := Claim7.holds Tryd.pinned (.plain (OpenSpec.ofChange showTextSpec)) showTextCard

/-- THE SECOND FORM's CARD OF 'lychgatelaw23.DefsKeeps'. -/
def defsKeepsUptoCard : Claim7 := { stood := { row := defsKeepsUptoRow, standIns := [], harness := (true, "d1df5d52e47a09d61983afa3a299e953f64e54b1bdc4873734122400793b602b"), looks := true }, kinds := [], alts := [], laidByText := true, laidKinds := [.handle], laidTests := true, laidLooks := .later }
def DefsKeepsUptoCardSaid : Prop := Claim7.holds Tryd.pinned (.plain (OpenSpec.upto defsKeepsSpec)) defsKeepsUptoCard

/-- THE SECOND FORM's CARD OF 'lychgatelaw05.ShowText'. -/
def showTextUptoCard : Claim7 := { stood := { row := showTextUptoRow, standIns := [], harness := (true, "d1df5d52e47a09d61983afa3a299e953f64e54b1bdc4873734122400793b602b"), looks := true }, kinds := [], alts := [], laidByText := true, laidKinds := [.data, .data, .data], laidTests := true, laidLooks := .later }
def ShowTextUptoCardSaid : Prop := Claim7.holds Tryd.pinned (.plain (OpenSpec.upto showTextSpec)) showTextUptoCard
end Rows
end Go.Proofs.YthmbncehoblgpaaDoor
