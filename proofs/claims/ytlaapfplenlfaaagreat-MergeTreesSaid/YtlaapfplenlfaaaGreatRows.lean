/-
  NARROWER THAN 'FOR EVERY INPUT', by the rows' own cells (each row's printed sentence says how): MergeEdits: loops · MergeTrees: loops · MergeTurned: loops · MergeOne: loops · MergeBase: loops · MergeSquare: loops · ConflictTurned: loops.
  DERIVED. THE GIVEN ROWS OF THIS SEAT. 7 by the template 'for every input the law returns true; each argument reads behind the call as it read before'; 0 by the template 'total and deterministic' (their statements: YtlaapfplenlfaaaGreatTotals.lean).
  GIVEN WITH THE SEED: the statements are not yours to turn. If you find one false, say at which input.
  Laid BY PROGRAM, IN A SANDBOX (cutbox-rows.mjs): the forced cells as the released guide's own fill.sh prints them over the translation 79008f7671769e09… (all of the seat's roots in one cut). By AI agents, Wed Nov 11 2026. No macro, syntax, notation, axiom, sorry.
-/
import Derived.Test.YtlaapfplenlfaaaGreatChecked
import GoSem.Claim
import GoSem.ClaimJoined
import GoSem.ClaimMapViews
import Derived.JoinedTies
import Derived.KernelRfl
namespace Go.Proofs.YtlaapfplenlfaaaGreat
/- THE CELL 'sum', in the pinned program and in every row, IS THE sha256 OF THE DUMP (.gsa) THAT YtlaapfplenlfaaaGreatProg.lean LOADS. Nothing in Lean hashes anything: it is a label: what it is worth is what the hold of that sum in a sandbox is worth. -/
noncomputable def Tryz.pinned : Pinned := { name := "ytlaapfplenlfaaagreat", sum := "79008f7671769e095edaa32767a0ad3890535d89b9e5f8c4937d9c7a76d14474", checked := Tryz.checked }
namespace Rows
def none {H : Type} : Left H := { results := [], args := [] }

/-- 'centolaw32.MergeEdits': WHATEVER THE INPUT: true; the input reads as it did. -/
def mergeEditsSpec : ChangeSpec := { name := "mergeEdits", fn := fun _ => fun
  | [d1, d2, d3] => { results := [.lit (.bool true)], args := [d1, d2, d3] }
  | _ => none }
def mergeEditsRow : OpenClaim := { program := "ytlaapfplenlfaaagreat", sum := "79008f7671769e095edaa32767a0ad3890535d89b9e5f8c4937d9c7a76d14474", func := "cento/centolaw32.MergeEdits", spec := "mergeEdits", unfollowed := true, recurses := true, loops := true, apart := false }
def MergeEditsSaid : Prop := mergeEditsRow.holds Tryz.pinned (OpenSpec.ofChange mergeEditsSpec)

/-- ITS FALSE NEIGHBOUR: 'it returns false'. Refute it at one input. -/
def mergeEditsWrong : ChangeSpec := { name := "mergeEdits", fn := fun _ => fun
  | [d1, d2, d3] => { results := [.lit (.bool false)], args := [d1, d2, d3] }
  | _ => none }
def MergeEditsWrongFalsely : Prop := mergeEditsRow.holds Tryz.pinned (OpenSpec.ofChange mergeEditsWrong)

/-- 'centolaw32.MergeTrees': WHATEVER THE INPUT: true; the input reads as it did. -/
def mergeTreesSpec : ChangeSpec := { name := "mergeTrees", fn := fun _ => fun
  | [d1, d2, d3, d4] => { results := [.lit (.bool true)], args := [d1, d2, d3, d4] }
  | _ => none }
def mergeTreesRow : OpenClaim := { program := "ytlaapfplenlfaaagreat", sum := "79008f7671769e095edaa32767a0ad3890535d89b9e5f8c4937d9c7a76d14474", func := "cento/centolaw32.MergeTrees", spec := "mergeTrees", unfollowed := true, recurses := true, loops := true, apart := false }
def MergeTreesSaid : Prop := mergeTreesRow.holds Tryz.pinned (OpenSpec.ofChange mergeTreesSpec)

/-- ITS FALSE NEIGHBOUR: 'it returns false'. Refute it at one input. -/
def mergeTreesWrong : ChangeSpec := { name := "mergeTrees", fn := fun _ => fun
  | [d1, d2, d3, d4] => { results := [.lit (.bool false)], args := [d1, d2, d3, d4] }
  | _ => none }
def MergeTreesWrongFalsely : Prop := mergeTreesRow.holds Tryz.pinned (OpenSpec.ofChange mergeTreesWrong)

/-- 'centolaw32.MergeTurned': WHATEVER THE INPUT: true; the input reads as it did. -/
def mergeTurnedSpec : ChangeSpec := { name := "mergeTurned", fn := fun _ => fun
  | [d1, d2, d3, d4] => { results := [.lit (.bool true)], args := [d1, d2, d3, d4] }
  | _ => none }
def mergeTurnedRow : OpenClaim := { program := "ytlaapfplenlfaaagreat", sum := "79008f7671769e095edaa32767a0ad3890535d89b9e5f8c4937d9c7a76d14474", func := "cento/centolaw32.MergeTurned", spec := "mergeTurned", unfollowed := true, recurses := true, loops := true, apart := false }
def MergeTurnedSaid : Prop := mergeTurnedRow.holds Tryz.pinned (OpenSpec.ofChange mergeTurnedSpec)

/-- ITS FALSE NEIGHBOUR: 'it returns false'. Refute it at one input. -/
def mergeTurnedWrong : ChangeSpec := { name := "mergeTurned", fn := fun _ => fun
  | [d1, d2, d3, d4] => { results := [.lit (.bool false)], args := [d1, d2, d3, d4] }
  | _ => none }
def MergeTurnedWrongFalsely : Prop := mergeTurnedRow.holds Tryz.pinned (OpenSpec.ofChange mergeTurnedWrong)

/-- 'centolaw32.MergeOne': WHATEVER THE INPUT: true; the input reads as it did. -/
def mergeOneSpec : ChangeSpec := { name := "mergeOne", fn := fun _ => fun
  | [d1, d2, d3] => { results := [.lit (.bool true)], args := [d1, d2, d3] }
  | _ => none }
def mergeOneRow : OpenClaim := { program := "ytlaapfplenlfaaagreat", sum := "79008f7671769e095edaa32767a0ad3890535d89b9e5f8c4937d9c7a76d14474", func := "cento/centolaw32.MergeOne", spec := "mergeOne", unfollowed := true, recurses := true, loops := true, apart := false }
def MergeOneSaid : Prop := mergeOneRow.holds Tryz.pinned (OpenSpec.ofChange mergeOneSpec)

/-- ITS FALSE NEIGHBOUR: 'it returns false'. Refute it at one input. -/
def mergeOneWrong : ChangeSpec := { name := "mergeOne", fn := fun _ => fun
  | [d1, d2, d3] => { results := [.lit (.bool false)], args := [d1, d2, d3] }
  | _ => none }
def MergeOneWrongFalsely : Prop := mergeOneRow.holds Tryz.pinned (OpenSpec.ofChange mergeOneWrong)

/-- 'centolaw32.MergeBase': WHATEVER THE INPUT: true; the input reads as it did. -/
def mergeBaseSpec : ChangeSpec := { name := "mergeBase", fn := fun _ => fun
  | [d1, d2, d3, d4] => { results := [.lit (.bool true)], args := [d1, d2, d3, d4] }
  | _ => none }
def mergeBaseRow : OpenClaim := { program := "ytlaapfplenlfaaagreat", sum := "79008f7671769e095edaa32767a0ad3890535d89b9e5f8c4937d9c7a76d14474", func := "cento/centolaw32.MergeBase", spec := "mergeBase", unfollowed := true, recurses := true, loops := true, apart := false }
def MergeBaseSaid : Prop := mergeBaseRow.holds Tryz.pinned (OpenSpec.ofChange mergeBaseSpec)

/-- ITS FALSE NEIGHBOUR: 'it returns false'. Refute it at one input. -/
def mergeBaseWrong : ChangeSpec := { name := "mergeBase", fn := fun _ => fun
  | [d1, d2, d3, d4] => { results := [.lit (.bool false)], args := [d1, d2, d3, d4] }
  | _ => none }
def MergeBaseWrongFalsely : Prop := mergeBaseRow.holds Tryz.pinned (OpenSpec.ofChange mergeBaseWrong)

/-- 'centolaw32.MergeSquare': WHATEVER THE INPUT: true; the input reads as it did. -/
def mergeSquareSpec : ChangeSpec := { name := "mergeSquare", fn := fun _ => fun
  | [d1, d2, d3, d4] => { results := [.lit (.bool true)], args := [d1, d2, d3, d4] }
  | _ => none }
def mergeSquareRow : OpenClaim := { program := "ytlaapfplenlfaaagreat", sum := "79008f7671769e095edaa32767a0ad3890535d89b9e5f8c4937d9c7a76d14474", func := "cento/centolaw32.MergeSquare", spec := "mergeSquare", unfollowed := true, recurses := true, loops := true, apart := false }
def MergeSquareSaid : Prop := mergeSquareRow.holds Tryz.pinned (OpenSpec.ofChange mergeSquareSpec)

/-- ITS FALSE NEIGHBOUR: 'it returns false'. Refute it at one input. -/
def mergeSquareWrong : ChangeSpec := { name := "mergeSquare", fn := fun _ => fun
  | [d1, d2, d3, d4] => { results := [.lit (.bool false)], args := [d1, d2, d3, d4] }
  | _ => none }
def MergeSquareWrongFalsely : Prop := mergeSquareRow.holds Tryz.pinned (OpenSpec.ofChange mergeSquareWrong)

/-- 'centolaw33.ConflictTurned': WHATEVER THE INPUT: true; the input reads as it did. -/
def conflictTurnedSpec : ChangeSpec := { name := "conflictTurned", fn := fun _ => fun
  | [d1, d2, d3, d4, d5] => { results := [.lit (.bool true)], args := [d1, d2, d3, d4, d5] }
  | _ => none }
def conflictTurnedRow : OpenClaim := { program := "ytlaapfplenlfaaagreat", sum := "79008f7671769e095edaa32767a0ad3890535d89b9e5f8c4937d9c7a76d14474", func := "cento/centolaw33.ConflictTurned", spec := "conflictTurned", unfollowed := true, recurses := true, loops := true, apart := false }
def ConflictTurnedSaid : Prop := conflictTurnedRow.holds Tryz.pinned (OpenSpec.ofChange conflictTurnedSpec)

/-- ITS FALSE NEIGHBOUR: 'it returns false'. Refute it at one input. -/
def conflictTurnedWrong : ChangeSpec := { name := "conflictTurned", fn := fun _ => fun
  | [d1, d2, d3, d4, d5] => { results := [.lit (.bool false)], args := [d1, d2, d3, d4, d5] }
  | _ => none }
def ConflictTurnedWrongFalsely : Prop := conflictTurnedRow.holds Tryz.pinned (OpenSpec.ofChange conflictTurnedWrong)

/- THE SECOND FORM. 'bulk': how many values and letters a reading holds, each counted each time it is reached (what is shared counts as often as it is met; a slice's spare places count too). A statement '..UptoSaid' is the law's where the arguments, and the package variables that the reading takes, are together of bulk at most 1048576: NARROWER than '..Said'. Prove '..Said' where nothing that the law and all that it calls make is longer than what came in: it says more and counts as full. Else prove '..UptoSaid'. A law counts once. -/
mutual
def uptoBulk {H : Type} : DataW H → Nat
  | .lit (.string bytes) => bytes.length + 1
  | .lit _ => 1
  | .nil => 1
  | .ptr d => uptoBulk d + 1
  | .slice elems spare => uptoBulkAll elems + uptoBulkAll spare + 1
  | .agg parts => uptoBulkAll parts + 1
  | .iface _ d => uptoBulk d + 1
  | .map entries => uptoBulkEntries entries + 1
  | .held _ => 1
def uptoBulkAll {H : Type} : List (DataW H) → Nat
  | [] => 0
  | d :: r => uptoBulk d + uptoBulkAll r
def uptoBulkEntries {H : Type} : List (Lit × DataW H) → Nat
  | [] => 0
  | x :: r => uptoBulkEntry x + uptoBulkEntries r
def uptoBulkEntry {H : Type} : Lit × DataW H → Nat
  | (.string bytes, d) => bytes.length + uptoBulk d + 1
  | (_, d) => uptoBulk d + 1
 end
def uptoSmall : (H : Type) → List (DataW H) → Bool := fun _ ds => decide (uptoBulkAll ds ≤ 1048576)
def OpenSpec.upto (s : _root_.Go.ChangeSpec) : _root_.Go.OpenSpec := { _root_.Go.OpenSpec.ofChange s with cond := some uptoSmall }

/-- 'centolaw32.MergeEdits', WHERE WHAT IT READS IS OF BULK AT MOST 1048576: true; the input reads as it did. -/
def mergeEditsUptoRow : OpenClaim := { program := "ytlaapfplenlfaaagreat", sum := "79008f7671769e095edaa32767a0ad3890535d89b9e5f8c4937d9c7a76d14474", func := "cento/centolaw32.MergeEdits", spec := "mergeEdits", unfollowed := true, recurses := true, loops := true, apart := false, narrowed := true }
def MergeEditsUptoSaid : Prop := mergeEditsUptoRow.holds Tryz.pinned (OpenSpec.upto mergeEditsSpec)

/-- 'centolaw32.MergeTrees', WHERE WHAT IT READS IS OF BULK AT MOST 1048576: true; the input reads as it did. -/
def mergeTreesUptoRow : OpenClaim := { program := "ytlaapfplenlfaaagreat", sum := "79008f7671769e095edaa32767a0ad3890535d89b9e5f8c4937d9c7a76d14474", func := "cento/centolaw32.MergeTrees", spec := "mergeTrees", unfollowed := true, recurses := true, loops := true, apart := false, narrowed := true }
def MergeTreesUptoSaid : Prop := mergeTreesUptoRow.holds Tryz.pinned (OpenSpec.upto mergeTreesSpec)

/-- 'centolaw32.MergeTurned', WHERE WHAT IT READS IS OF BULK AT MOST 1048576: true; the input reads as it did. -/
def mergeTurnedUptoRow : OpenClaim := { program := "ytlaapfplenlfaaagreat", sum := "79008f7671769e095edaa32767a0ad3890535d89b9e5f8c4937d9c7a76d14474", func := "cento/centolaw32.MergeTurned", spec := "mergeTurned", unfollowed := true, recurses := true, loops := true, apart := false, narrowed := true }
def MergeTurnedUptoSaid : Prop := mergeTurnedUptoRow.holds Tryz.pinned (OpenSpec.upto mergeTurnedSpec)

/-- 'centolaw32.MergeOne', WHERE WHAT IT READS IS OF BULK AT MOST 1048576: true; the input reads as it did. -/
def mergeOneUptoRow : OpenClaim := { program := "ytlaapfplenlfaaagreat", sum := "79008f7671769e095edaa32767a0ad3890535d89b9e5f8c4937d9c7a76d14474", func := "cento/centolaw32.MergeOne", spec := "mergeOne", unfollowed := true, recurses := true, loops := true, apart := false, narrowed := true }
def MergeOneUptoSaid : Prop := mergeOneUptoRow.holds Tryz.pinned (OpenSpec.upto mergeOneSpec)

/-- 'centolaw32.MergeBase', WHERE WHAT IT READS IS OF BULK AT MOST 1048576: true; the input reads as it did. -/
def mergeBaseUptoRow : OpenClaim := { program := "ytlaapfplenlfaaagreat", sum := "79008f7671769e095edaa32767a0ad3890535d89b9e5f8c4937d9c7a76d14474", func := "cento/centolaw32.MergeBase", spec := "mergeBase", unfollowed := true, recurses := true, loops := true, apart := false, narrowed := true }
def MergeBaseUptoSaid : Prop := mergeBaseUptoRow.holds Tryz.pinned (OpenSpec.upto mergeBaseSpec)

/-- 'centolaw32.MergeSquare', WHERE WHAT IT READS IS OF BULK AT MOST 1048576: true; the input reads as it did. -/
def mergeSquareUptoRow : OpenClaim := { program := "ytlaapfplenlfaaagreat", sum := "79008f7671769e095edaa32767a0ad3890535d89b9e5f8c4937d9c7a76d14474", func := "cento/centolaw32.MergeSquare", spec := "mergeSquare", unfollowed := true, recurses := true, loops := true, apart := false, narrowed := true }
def MergeSquareUptoSaid : Prop := mergeSquareUptoRow.holds Tryz.pinned (OpenSpec.upto mergeSquareSpec)

/-- 'centolaw33.ConflictTurned', WHERE WHAT IT READS IS OF BULK AT MOST 1048576: true; the input reads as it did. -/
def conflictTurnedUptoRow : OpenClaim := { program := "ytlaapfplenlfaaagreat", sum := "79008f7671769e095edaa32767a0ad3890535d89b9e5f8c4937d9c7a76d14474", func := "cento/centolaw33.ConflictTurned", spec := "conflictTurned", unfollowed := true, recurses := true, loops := true, apart := false, narrowed := true }
def ConflictTurnedUptoSaid : Prop := conflictTurnedUptoRow.holds Tryz.pinned (OpenSpec.upto conflictTurnedSpec)

end Rows
end Go.Proofs.YtlaapfplenlfaaaGreat
