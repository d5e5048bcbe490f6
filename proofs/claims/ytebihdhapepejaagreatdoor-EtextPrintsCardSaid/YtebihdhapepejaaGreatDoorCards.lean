/-
  DERIVED. GIVEN WITH THE SEED: THE CARDS: each row of YtebihdhapepejaaGreatDoorRows.lean that lists a variable, with what it lists TIED to the program's text (the seventh form; the later family's looks); each row that meets fmt, with fmt's text TOLD by the authors' own Lean function (tested against real Go, not proved from fmt's source: count such statements apart). THE CARD IS WHAT COUNTS. Prove the row's statement (the work); the ties are given (YtebihdhapepejaaGreatDoorTie.lean); close each card by the builder's one call (the guide's Derived/Test/ToyasCard.lean, 'card_holds'). Laid BY PROGRAM, IN A SANDBOX (cutbox-door.mjs). By AI agents, Wed Nov 11 2026. No macro, syntax, notation, axiom, sorry.
-/
import Derived.Test.YtebihdhapepejaaGreatDoorRows
import GoSem.ClaimSeven
namespace Go.Proofs.YtebihdhapepejaaGreatDoor
namespace Rows

/-- THE TIED CARD OF 'centolaw38.EtextPrints'. -/
def etextPrintsCard : Claim7 := { stood := { row := etextPrintsRow, standIns := [], harness := (true, "8f86e0af35a576388b8d96177e22bc4e749f8a5bf4065c2a4ae817823a479bd2"), looks := true }, kinds := [], alts := [], laidByText := true, laidKinds := [.data, .data, .data, .sentinel, .sentinel], laidTests := true, laidLooks := .later }
def EtextPrintsCardSaid : Prop := Claim7.holds Tryz.pinned (.plain (OpenSpec.ofChange etextPrintsSpec)) etextPrintsCard

/-- THE TIED CARD OF 'centolaw38.EtextParses'. -/
def etextParsesCard : Claim7 := { stood := { row := etextParsesRow, standIns := [], harness := (true, "8f86e0af35a576388b8d96177e22bc4e749f8a5bf4065c2a4ae817823a479bd2"), looks := true }, kinds := [], alts := [], laidByText := true, laidKinds := [.data, .data, .data, .sentinel, .sentinel], laidTests := true, laidLooks := .later }
def EtextParsesCardSaid : Prop := Claim7.holds Tryz.pinned (.plain (OpenSpec.ofChange etextParsesSpec)) etextParsesCard

/-- THE SECOND FORM's CARD OF 'centolaw38.EtextPrints'. -/
def etextPrintsUptoCard : Claim7 := { stood := { row := etextPrintsUptoRow, standIns := [], harness := (true, "8f86e0af35a576388b8d96177e22bc4e749f8a5bf4065c2a4ae817823a479bd2"), looks := true }, kinds := [], alts := [], laidByText := true, laidKinds := [.data, .data, .data, .sentinel, .sentinel], laidTests := true, laidLooks := .later }
def EtextPrintsUptoCardSaid : Prop := Claim7.holds Tryz.pinned (.plain (OpenSpec.upto etextPrintsSpec)) etextPrintsUptoCard

/-- THE SECOND FORM's CARD OF 'centolaw38.EtextParses'. -/
def etextParsesUptoCard : Claim7 := { stood := { row := etextParsesUptoRow, standIns := [], harness := (true, "8f86e0af35a576388b8d96177e22bc4e749f8a5bf4065c2a4ae817823a479bd2"), looks := true }, kinds := [], alts := [], laidByText := true, laidKinds := [.data, .data, .data, .sentinel, .sentinel], laidTests := true, laidLooks := .later }
def EtextParsesUptoCardSaid : Prop := Claim7.holds Tryz.pinned (.plain (OpenSpec.upto etextParsesSpec)) etextParsesUptoCard
end Rows
end Go.Proofs.YtebihdhapepejaaGreatDoor
