/-
  DERIVED. GIVEN WITH THE SEED: THE CARDS: each row of YtkjnbdgkpofobaaDoorRows.lean that lists a variable, with what it lists TIED to the program's text (the seventh form; the later family's looks); each row that meets fmt, with fmt's text TOLD by the authors' own Lean function (tested against real Go, not proved from fmt's source: count such statements apart). THE CARD IS WHAT COUNTS. Prove the row's statement (the work); the ties are given (YtkjnbdgkpofobaaDoorTie.lean); close each card by the builder's one call (the guide's Derived/Test/ToyasCard.lean, 'card_holds'). Laid BY PROGRAM, IN A SANDBOX (cutbox-door.mjs). By AI agents, Wed Nov 11 2026. No macro, syntax, notation, axiom, sorry.
-/
import Derived.Test.YtkjnbdgkpofobaaDoorRows
import GoSem.ClaimSeven
namespace Go.Proofs.YtkjnbdgkpofobaaDoor
namespace Rows

/-- THE TIED CARD OF 'centolaw34.CommandPrints'. -/
def commandPrintsCard : Claim7 := { stood := { row := commandPrintsRow, standIns := [], harness := (true, "b5138a7c8a4045bec18bb939a912572aecdf7327c8e0560523c5da02ecb5c0a1"), looks := true }, kinds := [], alts := [], laidByText := true, laidKinds := [.data, .data, .data, .data, .sentinel, .sentinel, .listed, .data, .pinned], laidTests := true, laidLooks := .later }
def CommandPrintsCardSaid : Prop := Claim7.holds Tryd.pinned (.plain (OpenSpec.ofChange commandPrintsSpec)) commandPrintsCard

/-- THE TIED CARD OF 'centolaw34.CommandParses'. -/
def commandParsesCard : Claim7 := { stood := { row := commandParsesRow, standIns := [], harness := (true, "b5138a7c8a4045bec18bb939a912572aecdf7327c8e0560523c5da02ecb5c0a1"), looks := true }, kinds := [], alts := [], laidByText := true, laidKinds := [.data, .data, .data, .data, .sentinel, .sentinel, .listed, .data, .pinned], laidTests := true, laidLooks := .later }
def CommandParsesCardSaid : Prop := Claim7.holds Tryd.pinned (.plain (OpenSpec.ofChange commandParsesSpec)) commandParsesCard

/-- THE TIED CARD OF 'centolaw34.CommandHex'. -/
def commandHexCard : Claim7 := { stood := { row := commandHexRow, standIns := [], harness := (true, "b5138a7c8a4045bec18bb939a912572aecdf7327c8e0560523c5da02ecb5c0a1"), looks := true }, kinds := [], alts := [], laidByText := true, laidKinds := [.data, .data, .data, .data, .sentinel, .sentinel, .listed, .data, .pinned], laidTests := true, laidLooks := .later }
def CommandHexCardSaid : Prop := Claim7.holds Tryd.pinned (.plain (OpenSpec.ofChange commandHexSpec)) commandHexCard

/-- THE SECOND FORM's CARD OF 'centolaw34.CommandPrints'. -/
def commandPrintsUptoCard : Claim7 := { stood := { row := commandPrintsUptoRow, standIns := [], harness := (true, "b5138a7c8a4045bec18bb939a912572aecdf7327c8e0560523c5da02ecb5c0a1"), looks := true }, kinds := [], alts := [], laidByText := true, laidKinds := [.data, .data, .data, .data, .sentinel, .sentinel, .listed, .data, .pinned], laidTests := true, laidLooks := .later }
def CommandPrintsUptoCardSaid : Prop := Claim7.holds Tryd.pinned (.plain (OpenSpec.upto commandPrintsSpec)) commandPrintsUptoCard

/-- THE SECOND FORM's CARD OF 'centolaw34.CommandParses'. -/
def commandParsesUptoCard : Claim7 := { stood := { row := commandParsesUptoRow, standIns := [], harness := (true, "b5138a7c8a4045bec18bb939a912572aecdf7327c8e0560523c5da02ecb5c0a1"), looks := true }, kinds := [], alts := [], laidByText := true, laidKinds := [.data, .data, .data, .data, .sentinel, .sentinel, .listed, .data, .pinned], laidTests := true, laidLooks := .later }
def CommandParsesUptoCardSaid : Prop := Claim7.holds Tryd.pinned (.plain (OpenSpec.upto commandParsesSpec)) commandParsesUptoCard

/-- THE SECOND FORM's CARD OF 'centolaw34.CommandHex'. -/
def commandHexUptoCard : Claim7 := { stood := { row := commandHexUptoRow, standIns := [], harness := (true, "b5138a7c8a4045bec18bb939a912572aecdf7327c8e0560523c5da02ecb5c0a1"), looks := true }, kinds := [], alts := [], laidByText := true, laidKinds := [.data, .data, .data, .data, .sentinel, .sentinel, .listed, .data, .pinned], laidTests := true, laidLooks := .later }
def CommandHexUptoCardSaid : Prop := Claim7.holds Tryd.pinned (.plain (OpenSpec.upto commandHexSpec)) commandHexUptoCard
end Rows
end Go.Proofs.YtkjnbdgkpofobaaDoor
