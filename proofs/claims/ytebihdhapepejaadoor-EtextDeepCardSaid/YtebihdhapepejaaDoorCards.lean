/-
  DERIVED. GIVEN WITH THE SEED: THE CARDS: each row of YtebihdhapepejaaDoorRows.lean that lists a variable, with what it lists TIED to the program's text (the seventh form; the later family's looks); each row that meets fmt, with fmt's text TOLD by the authors' own Lean function (tested against real Go, not proved from fmt's source: count such statements apart). THE CARD IS WHAT COUNTS. Prove the row's statement (the work); the ties are given (YtebihdhapepejaaDoorTie.lean); close each card by the builder's one call (the guide's Derived/Test/ToyasCard.lean, 'card_holds'). Laid BY PROGRAM, IN A SANDBOX (cutbox-door.mjs). By AI agents, Wed Nov 11 2026. No macro, syntax, notation, axiom, sorry.
-/
import Derived.Test.YtebihdhapepejaaDoorRows
import GoSem.ClaimSeven
namespace Go.Proofs.YtebihdhapepejaaDoor
namespace Rows

/-- THE TIED CARD OF 'centolaw38.EtextDeep'. -/
def etextDeepCard : Claim7 := { stood := { row := etextDeepRow, standIns := [], harness := (true, "0c9296df2f70772b53d8cc2341239df7a60f8c411ba0aecf20bf8edfbe60ebc5"), looks := true }, kinds := [], alts := [], laidByText := true, laidKinds := [.data, .data, .data, .sentinel, .sentinel], laidTests := true, laidLooks := .later }
def EtextDeepCardSaid : Prop := Claim7.holds Tryd.pinned (.plain (OpenSpec.ofChange etextDeepSpec)) etextDeepCard

/-- THE SECOND FORM's CARD OF 'centolaw38.EtextDeep'. -/
def etextDeepUptoCard : Claim7 := { stood := { row := etextDeepUptoRow, standIns := [], harness := (true, "0c9296df2f70772b53d8cc2341239df7a60f8c411ba0aecf20bf8edfbe60ebc5"), looks := true }, kinds := [], alts := [], laidByText := true, laidKinds := [.data, .data, .data, .sentinel, .sentinel], laidTests := true, laidLooks := .later }
def EtextDeepUptoCardSaid : Prop := Claim7.holds Tryd.pinned (.plain (OpenSpec.upto etextDeepSpec)) etextDeepUptoCard
end Rows
end Go.Proofs.YtebihdhapepejaaDoor
