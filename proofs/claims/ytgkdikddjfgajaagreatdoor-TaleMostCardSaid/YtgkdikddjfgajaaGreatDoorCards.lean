/-
  DERIVED. GIVEN WITH THE SEED: THE CARDS: each row of YtgkdikddjfgajaaGreatDoorRows.lean that lists a variable, with what it lists TIED to the program's text (the seventh form; the later family's looks); each row that meets fmt, with fmt's text TOLD by the authors' own Lean function (tested against real Go, not proved from fmt's source: count such statements apart). THE CARD IS WHAT COUNTS. Prove the row's statement (the work); the ties are given (YtgkdikddjfgajaaGreatDoorTie.lean); close each card by the builder's one call (the guide's Derived/Test/ToyasCard.lean, 'card_holds'). Laid BY PROGRAM, IN A SANDBOX (cutbox-door.mjs). By AI agents, Wed Nov 11 2026. No macro, syntax, notation, axiom, sorry.
-/
import Derived.Test.YtgkdikddjfgajaaGreatDoorRows
import GoSem.ClaimSeven
namespace Go.Proofs.YtgkdikddjfgajaaGreatDoor
namespace Rows

/-- THE TIED CARD OF 'centolaw45.TaleMost'. -/
def taleMostCard : Claim7 := { stood := { row := taleMostRow, standIns := [], harness := (true, "bfda105472f1b3f8b8daf1e8e4ab18dabf6929db84fbb807eec3f4ce27260880"), looks := true }, kinds := [], alts := [], laidByText := true, laidKinds := [.data, .data, .data, .data, .sentinel, .sentinel, .pinned], laidTests := true, laidLooks := .later }
def TaleMostCardSaid : Prop := Claim7.holds Tryz.pinned (.plain (OpenSpec.ofChange taleMostSpec)) taleMostCard

/-- THE SECOND FORM's CARD OF 'centolaw45.TaleMost'. -/
def taleMostUptoCard : Claim7 := { stood := { row := taleMostUptoRow, standIns := [], harness := (true, "bfda105472f1b3f8b8daf1e8e4ab18dabf6929db84fbb807eec3f4ce27260880"), looks := true }, kinds := [], alts := [], laidByText := true, laidKinds := [.data, .data, .data, .data, .sentinel, .sentinel, .pinned], laidTests := true, laidLooks := .later }
def TaleMostUptoCardSaid : Prop := Claim7.holds Tryz.pinned (.plain (OpenSpec.upto taleMostSpec)) taleMostUptoCard
end Rows
end Go.Proofs.YtgkdikddjfgajaaGreatDoor
