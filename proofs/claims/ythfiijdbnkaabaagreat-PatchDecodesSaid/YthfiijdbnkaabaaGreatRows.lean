/-
  NARROWER THAN 'FOR EVERY INPUT', by the rows' own cells (each row's printed sentence says how): CostPatch: loops · PatchTrees: loops · PatchReads: loops · PatchCodes: loops.
  DERIVED. THE GIVEN ROWS OF THIS SEAT. 5 by the template 'for every input the law returns true; each argument reads behind the call as it read before'; 0 by the template 'total and deterministic' (their statements: YthfiijdbnkaabaaGreatTotals.lean).
  GIVEN WITH THE SEED: the statements are not yours to turn. If you find one false, say at which input.
  Laid BY PROGRAM, IN A SANDBOX (cutbox-rows.mjs): the forced cells as the released guide's own fill.sh prints them over the translation 07c1a9dc155d7857… (all of the seat's roots in one cut). By AI agents, Wed Nov 11 2026. No macro, syntax, notation, axiom, sorry.
-/
import Derived.Test.YthfiijdbnkaabaaGreatChecked
import GoSem.Claim
import GoSem.ClaimJoined
import GoSem.ClaimMapViews
import Derived.JoinedTies
import Derived.KernelRfl
namespace Go.Proofs.YthfiijdbnkaabaaGreat
/- THE CELL 'sum', in the pinned program and in every row, IS THE sha256 OF THE DUMP (.gsa) THAT YthfiijdbnkaabaaGreatProg.lean LOADS. Nothing in Lean hashes anything: it is a label: what it is worth is what the hold of that sum in a sandbox is worth. -/
noncomputable def Tryz.pinned : Pinned := { name := "ythfiijdbnkaabaagreat", sum := "07c1a9dc155d78576b12583082dc34f6e2ca97d1f100584f50e4e21b3084d34b", checked := Tryz.checked }
namespace Rows
def none {H : Type} : Left H := { results := [], args := [] }

/-- 'centolaw39.CostPatch': WHATEVER THE INPUT: true; the input reads as it did. -/
def costPatchSpec : ChangeSpec := { name := "costPatch", fn := fun _ => fun
  | [d] => { results := [.lit (.bool true)], args := [d] }
  | _ => none }
def costPatchRow : OpenClaim := { program := "ythfiijdbnkaabaagreat", sum := "07c1a9dc155d78576b12583082dc34f6e2ca97d1f100584f50e4e21b3084d34b", func := "cento/centolaw39.CostPatch", spec := "costPatch", unfollowed := true, recurses := true, loops := true, apart := false }
def CostPatchSaid : Prop := costPatchRow.holds Tryz.pinned (OpenSpec.ofChange costPatchSpec)

/-- ITS FALSE NEIGHBOUR: 'it returns false'. Refute it at one input. -/
def costPatchWrong : ChangeSpec := { name := "costPatch", fn := fun _ => fun
  | [d] => { results := [.lit (.bool false)], args := [d] }
  | _ => none }
def CostPatchWrongFalsely : Prop := costPatchRow.holds Tryz.pinned (OpenSpec.ofChange costPatchWrong)

/-- 'centolaw27.PatchTrees': WHATEVER THE INPUT: true; the input reads as it did. -/
def patchTreesSpec : ChangeSpec := { name := "patchTrees", fn := fun _ => fun
  | [d] => { results := [.lit (.bool true)], args := [d] }
  | _ => none }
def patchTreesRow : OpenClaim := { program := "ythfiijdbnkaabaagreat", sum := "07c1a9dc155d78576b12583082dc34f6e2ca97d1f100584f50e4e21b3084d34b", func := "cento/centolaw27.PatchTrees", spec := "patchTrees", unfollowed := true, recurses := true, loops := true, apart := false }
def PatchTreesSaid : Prop := patchTreesRow.holds Tryz.pinned (OpenSpec.ofChange patchTreesSpec)

/-- ITS FALSE NEIGHBOUR: 'it returns false'. Refute it at one input. -/
def patchTreesWrong : ChangeSpec := { name := "patchTrees", fn := fun _ => fun
  | [d] => { results := [.lit (.bool false)], args := [d] }
  | _ => none }
def PatchTreesWrongFalsely : Prop := patchTreesRow.holds Tryz.pinned (OpenSpec.ofChange patchTreesWrong)

/-- 'centolaw27.PatchReads': WHATEVER THE INPUT: true; the input reads as it did. -/
def patchReadsSpec : ChangeSpec := { name := "patchReads", fn := fun _ => fun
  | [d] => { results := [.lit (.bool true)], args := [d] }
  | _ => none }
def patchReadsRow : OpenClaim := { program := "ythfiijdbnkaabaagreat", sum := "07c1a9dc155d78576b12583082dc34f6e2ca97d1f100584f50e4e21b3084d34b", func := "cento/centolaw27.PatchReads", spec := "patchReads", unfollowed := true, recurses := true, loops := true, apart := false }
def PatchReadsSaid : Prop := patchReadsRow.holds Tryz.pinned (OpenSpec.ofChange patchReadsSpec)

/-- ITS FALSE NEIGHBOUR: 'it returns false'. Refute it at one input. -/
def patchReadsWrong : ChangeSpec := { name := "patchReads", fn := fun _ => fun
  | [d] => { results := [.lit (.bool false)], args := [d] }
  | _ => none }
def PatchReadsWrongFalsely : Prop := patchReadsRow.holds Tryz.pinned (OpenSpec.ofChange patchReadsWrong)

/-- 'centolaw27.PatchCodes': WHATEVER THE INPUT: true; the input reads as it did. -/
def patchCodesSpec : ChangeSpec := { name := "patchCodes", fn := fun _ => fun
  | [d1, d2] => { results := [.lit (.bool true)], args := [d1, d2] }
  | _ => none }
def patchCodesRow : OpenClaim := { program := "ythfiijdbnkaabaagreat", sum := "07c1a9dc155d78576b12583082dc34f6e2ca97d1f100584f50e4e21b3084d34b", func := "cento/centolaw27.PatchCodes", spec := "patchCodes", unfollowed := true, recurses := true, loops := true, apart := false }
def PatchCodesSaid : Prop := patchCodesRow.holds Tryz.pinned (OpenSpec.ofChange patchCodesSpec)

/-- ITS FALSE NEIGHBOUR: 'it returns false'. Refute it at one input. -/
def patchCodesWrong : ChangeSpec := { name := "patchCodes", fn := fun _ => fun
  | [d1, d2] => { results := [.lit (.bool false)], args := [d1, d2] }
  | _ => none }
def PatchCodesWrongFalsely : Prop := patchCodesRow.holds Tryz.pinned (OpenSpec.ofChange patchCodesWrong)

/-- 'centolaw27.PatchDecodes': WHATEVER THE INPUT: true; the input reads as it did. -/
def patchDecodesSpec : ChangeSpec := { name := "patchDecodes", fn := fun _ => fun
  | [d] => { results := [.lit (.bool true)], args := [d] }
  | _ => none }
def patchDecodesRow : OpenClaim := { program := "ythfiijdbnkaabaagreat", sum := "07c1a9dc155d78576b12583082dc34f6e2ca97d1f100584f50e4e21b3084d34b", func := "cento/centolaw27.PatchDecodes", spec := "patchDecodes", unfollowed := true, recurses := true, apart := false }
def PatchDecodesSaid : Prop := patchDecodesRow.holds Tryz.pinned (OpenSpec.ofChange patchDecodesSpec)

/-- ITS FALSE NEIGHBOUR: 'it returns false'. Refute it at one input. -/
def patchDecodesWrong : ChangeSpec := { name := "patchDecodes", fn := fun _ => fun
  | [d] => { results := [.lit (.bool false)], args := [d] }
  | _ => none }
def PatchDecodesWrongFalsely : Prop := patchDecodesRow.holds Tryz.pinned (OpenSpec.ofChange patchDecodesWrong)

/- THE SECOND FORM. 'bulk': how many values and letters a reading holds, each counted each time it is reached (what is shared counts as often as it is met; a slice's spare places count too). A statement '..UptoSaid' is the law's where the arguments, and the package variables that the reading takes, are together of bulk at most 1048576: NARROWER than '..Said'. Prove '..Said' where nothing that the law and all that it calls make is longer than what came in: it says more and counts as full. Else prove '..UptoSaid'. A law counts once. -/
mutual
def uptoBulk {H : Type} : DataW H → Nat
  | .lit (.string bytes) => bytes.length + 1
  | .lit _ => 1
  | .nil => 1
  | .ptr d => uptoBulk d + 1
  | .slice elems spare => uptoBulkAll elems + uptoBulkAll spare + 1
  | .agg parts => uptoBulkAll parts + 1
  | .iface _ d => uptoBulk d + 1
  | .map entries => uptoBulkEntries entries + 1
  | .held _ => 1
def uptoBulkAll {H : Type} : List (DataW H) → Nat
  | [] => 0
  | d :: r => uptoBulk d + uptoBulkAll r
def uptoBulkEntries {H : Type} : List (Lit × DataW H) → Nat
  | [] => 0
  | x :: r => uptoBulkEntry x + uptoBulkEntries r
def uptoBulkEntry {H : Type} : Lit × DataW H → Nat
  | (.string bytes, d) => bytes.length + uptoBulk d + 1
  | (_, d) => uptoBulk d + 1
 end
def uptoSmall : (H : Type) → List (DataW H) → Bool := fun _ ds => decide (uptoBulkAll ds ≤ 1048576)
def OpenSpec.upto (s : _root_.Go.ChangeSpec) : _root_.Go.OpenSpec := { _root_.Go.OpenSpec.ofChange s with cond := some uptoSmall }

/-- 'centolaw39.CostPatch', WHERE WHAT IT READS IS OF BULK AT MOST 1048576: true; the input reads as it did. -/
def costPatchUptoRow : OpenClaim := { program := "ythfiijdbnkaabaagreat", sum := "07c1a9dc155d78576b12583082dc34f6e2ca97d1f100584f50e4e21b3084d34b", func := "cento/centolaw39.CostPatch", spec := "costPatch", unfollowed := true, recurses := true, loops := true, apart := false, narrowed := true }
def CostPatchUptoSaid : Prop := costPatchUptoRow.holds Tryz.pinned (OpenSpec.upto costPatchSpec)

/-- 'centolaw27.PatchTrees', WHERE WHAT IT READS IS OF BULK AT MOST 1048576: true; the input reads as it did. -/
def patchTreesUptoRow : OpenClaim := { program := "ythfiijdbnkaabaagreat", sum := "07c1a9dc155d78576b12583082dc34f6e2ca97d1f100584f50e4e21b3084d34b", func := "cento/centolaw27.PatchTrees", spec := "patchTrees", unfollowed := true, recurses := true, loops := true, apart := false, narrowed := true }
def PatchTreesUptoSaid : Prop := patchTreesUptoRow.holds Tryz.pinned (OpenSpec.upto patchTreesSpec)

/-- 'centolaw27.PatchReads', WHERE WHAT IT READS IS OF BULK AT MOST 1048576: true; the input reads as it did. -/
def patchReadsUptoRow : OpenClaim := { program := "ythfiijdbnkaabaagreat", sum := "07c1a9dc155d78576b12583082dc34f6e2ca97d1f100584f50e4e21b3084d34b", func := "cento/centolaw27.PatchReads", spec := "patchReads", unfollowed := true, recurses := true, loops := true, apart := false, narrowed := true }
def PatchReadsUptoSaid : Prop := patchReadsUptoRow.holds Tryz.pinned (OpenSpec.upto patchReadsSpec)

/-- 'centolaw27.PatchCodes', WHERE WHAT IT READS IS OF BULK AT MOST 1048576: true; the input reads as it did. -/
def patchCodesUptoRow : OpenClaim := { program := "ythfiijdbnkaabaagreat", sum := "07c1a9dc155d78576b12583082dc34f6e2ca97d1f100584f50e4e21b3084d34b", func := "cento/centolaw27.PatchCodes", spec := "patchCodes", unfollowed := true, recurses := true, loops := true, apart := false, narrowed := true }
def PatchCodesUptoSaid : Prop := patchCodesUptoRow.holds Tryz.pinned (OpenSpec.upto patchCodesSpec)

/-- 'centolaw27.PatchDecodes', WHERE WHAT IT READS IS OF BULK AT MOST 1048576: true; the input reads as it did. -/
def patchDecodesUptoRow : OpenClaim := { program := "ythfiijdbnkaabaagreat", sum := "07c1a9dc155d78576b12583082dc34f6e2ca97d1f100584f50e4e21b3084d34b", func := "cento/centolaw27.PatchDecodes", spec := "patchDecodes", unfollowed := true, recurses := true, apart := false, narrowed := true }
def PatchDecodesUptoSaid : Prop := patchDecodesUptoRow.holds Tryz.pinned (OpenSpec.upto patchDecodesSpec)

end Rows
end Go.Proofs.YthfiijdbnkaabaaGreat
