/-
  DERIVED. GIVEN WITH THE SEED: THE CARDS: each row of YtgimfagpolbelaaDoorRows.lean that lists a variable, with what it lists TIED to the program's text (the seventh form; the later family's looks); each row that meets fmt, with fmt's text TOLD by the authors' own Lean function (tested against real Go, not proved from fmt's source: count such statements apart). THE CARD IS WHAT COUNTS. Prove the row's statement (the work); the ties are given (YtgimfagpolbelaaDoorTie.lean); close each card by the builder's one call (the guide's Derived/Test/ToyasCard.lean, 'card_holds'). Laid BY PROGRAM, IN A SANDBOX (cutbox-door.mjs). By AI agents, Wed Nov 11 2026. No macro, syntax, notation, axiom, sorry.
-/
import Derived.Test.YtgimfagpolbelaaDoorRows
import GoSem.ClaimSeven
namespace Go.Proofs.YtgimfagpolbelaaDoor
namespace Rows

/-- THE TIED CARD OF 'centolaw08.TextPrints'. -/
def textPrintsCard : Claim7 := { stood := { row := textPrintsRow, standIns := [], harness := (true, "ba8d7b95c5afd1884f5b002ccd85838bde8f51228ef36478f2c161980b2abf30"), looks := false }, kinds := [], alts := [], laidByText := true, laidKinds := [.data, .data, .data], laidTests := true, laidLooks := .later }
def TextPrintsCardSaid : Prop := Claim7.holds Tryd.pinned (.plain (OpenSpec.ofChange textPrintsSpec)) textPrintsCard

/-- THE TIED CARD OF 'centolaw08.TextParses'. -/
def textParsesCard : Claim7 := { stood := { row := textParsesRow, standIns := [], harness := (true, "ba8d7b95c5afd1884f5b002ccd85838bde8f51228ef36478f2c161980b2abf30"), looks := false }, kinds := [], alts := [], laidByText := true, laidKinds := [.data, .data, .data], laidTests := true, laidLooks := .later }
def TextParsesCardSaid : Prop := Claim7.holds Tryd.pinned (.plain (OpenSpec.ofChange textParsesSpec)) textParsesCard

/-- THE TIED CARD OF 'centolaw08.TextDeep'. -/
def textDeepCard : Claim7 := { stood := { row := textDeepRow, standIns := [], harness := (true, "ba8d7b95c5afd1884f5b002ccd85838bde8f51228ef36478f2c161980b2abf30"), looks := false }, kinds := [], alts := [], laidByText := true, laidKinds := [.data, .data, .data], laidTests := true, laidLooks := .later }
def TextDeepCardSaid : Prop := Claim7.holds Tryd.pinned (.plain (OpenSpec.ofChange textDeepSpec)) textDeepCard

/-- THE SECOND FORM's CARD OF 'centolaw08.TextPrints'. -/
def textPrintsUptoCard : Claim7 := { stood := { row := textPrintsUptoRow, standIns := [], harness := (true, "ba8d7b95c5afd1884f5b002ccd85838bde8f51228ef36478f2c161980b2abf30"), looks := false }, kinds := [], alts := [], laidByText := true, laidKinds := [.data, .data, .data], laidTests := true, laidLooks := .later }
def TextPrintsUptoCardSaid : Prop := Claim7.holds Tryd.pinned (.plain (OpenSpec.upto textPrintsSpec)) textPrintsUptoCard

/-- THE SECOND FORM's CARD OF 'centolaw08.TextParses'. -/
def textParsesUptoCard : Claim7 := { stood := { row := textParsesUptoRow, standIns := [], harness := (true, "ba8d7b95c5afd1884f5b002ccd85838bde8f51228ef36478f2c161980b2abf30"), looks := false }, kinds := [], alts := [], laidByText := true, laidKinds := [.data, .data, .data], laidTests := true, laidLooks := .later }
def TextParsesUptoCardSaid : Prop := Claim7.holds Tryd.pinned (.plain (OpenSpec.upto textParsesSpec)) textParsesUptoCard

/-- THE SECOND FORM's CARD OF 'centolaw08.TextDeep'. -/
def textDeepUptoCard : Claim7 := { stood := { row := textDeepUptoRow, standIns := [], harness := (true, "ba8d7b95c5afd1884f5b002ccd85838bde8f51228ef36478f2c161980b2abf30"), looks := false }, kinds := [], alts := [], laidByText := true, laidKinds := [.data, .data, .data], laidTests := true, laidLooks := .later }
def TextDeepUptoCardSaid : Prop := Claim7.holds Tryd.pinned (.plain (OpenSpec.upto textDeepSpec)) textDeepUptoCard
end Rows
end Go.Proofs.YtgimfagpolbelaaDoor
