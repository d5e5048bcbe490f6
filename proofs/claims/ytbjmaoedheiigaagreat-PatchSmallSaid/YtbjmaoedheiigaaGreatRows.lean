/-
  NARROWER THAN 'FOR EVERY INPUT', by the rows' own cells (each row's printed sentence says how): CostSaves: loops · PatchSmall: loops · IndiffBuilt: loops.
  DERIVED. THE GIVEN ROWS OF THIS SEAT. 5 by the template 'for every input the law returns true; each argument reads behind the call as it read before'; 0 by the template 'total and deterministic' (their statements: YtbjmaoedheiigaaGreatTotals.lean).
  GIVEN WITH THE SEED: the statements are not yours to turn. If you find one false, say at which input.
  Laid BY PROGRAM, IN A SANDBOX (cutbox-rows.mjs): the forced cells as the released guide's own fill.sh prints them over the translation 79129490da097413… (all of the seat's roots in one cut). By AI agents, Wed Nov 11 2026. No macro, syntax, notation, axiom, sorry.
-/
import Derived.Test.YtbjmaoedheiigaaGreatChecked
import GoSem.Claim
import GoSem.ClaimJoined
import GoSem.ClaimMapViews
import Derived.JoinedTies
import Derived.KernelRfl
namespace Go.Proofs.YtbjmaoedheiigaaGreat
/- THE CELL 'sum', in the pinned program and in every row, IS THE sha256 OF THE DUMP (.gsa) THAT YtbjmaoedheiigaaGreatProg.lean LOADS. Nothing in Lean hashes anything: it is a label: what it is worth is what the hold of that sum in a sandbox is worth. -/
noncomputable def Tryz.pinned : Pinned := { name := "ytbjmaoedheiigaagreat", sum := "79129490da097413ac3ac409049a890f61ce538621d5f7e7fb8e62fad3516c25", checked := Tryz.checked }
namespace Rows
def none {H : Type} : Left H := { results := [], args := [] }

/-- 'centolaw39.CostSaves': WHATEVER THE INPUT: true; the input reads as it did. -/
def costSavesSpec : ChangeSpec := { name := "costSaves", fn := fun _ => fun
  | [d1, d2, d3] => { results := [.lit (.bool true)], args := [d1, d2, d3] }
  | _ => none }
def costSavesRow : OpenClaim := { program := "ytbjmaoedheiigaagreat", sum := "79129490da097413ac3ac409049a890f61ce538621d5f7e7fb8e62fad3516c25", func := "cento/centolaw39.CostSaves", spec := "costSaves", unfollowed := true, recurses := true, loops := true, apart := false }
def CostSavesSaid : Prop := costSavesRow.holds Tryz.pinned (OpenSpec.ofChange costSavesSpec)

/-- ITS FALSE NEIGHBOUR: 'it returns false'. Refute it at one input. -/
def costSavesWrong : ChangeSpec := { name := "costSaves", fn := fun _ => fun
  | [d1, d2, d3] => { results := [.lit (.bool false)], args := [d1, d2, d3] }
  | _ => none }
def CostSavesWrongFalsely : Prop := costSavesRow.holds Tryz.pinned (OpenSpec.ofChange costSavesWrong)

/-- 'centolaw27.PatchSmall': WHATEVER THE INPUT: true; the input reads as it did. -/
def patchSmallSpec : ChangeSpec := { name := "patchSmall", fn := fun _ => fun
  | [d1, d2, d3] => { results := [.lit (.bool true)], args := [d1, d2, d3] }
  | _ => none }
def patchSmallRow : OpenClaim := { program := "ytbjmaoedheiigaagreat", sum := "79129490da097413ac3ac409049a890f61ce538621d5f7e7fb8e62fad3516c25", func := "cento/centolaw27.PatchSmall", spec := "patchSmall", unfollowed := true, recurses := true, loops := true, apart := false }
def PatchSmallSaid : Prop := patchSmallRow.holds Tryz.pinned (OpenSpec.ofChange patchSmallSpec)

/-- ITS FALSE NEIGHBOUR: 'it returns false'. Refute it at one input. -/
def patchSmallWrong : ChangeSpec := { name := "patchSmall", fn := fun _ => fun
  | [d1, d2, d3] => { results := [.lit (.bool false)], args := [d1, d2, d3] }
  | _ => none }
def PatchSmallWrongFalsely : Prop := patchSmallRow.holds Tryz.pinned (OpenSpec.ofChange patchSmallWrong)

/-- 'centolaw28.IndiffValues': WHATEVER THE INPUT: true; the input reads as it did. -/
def indiffValuesSpec : ChangeSpec := { name := "indiffValues", fn := fun _ => fun
  | [d1, d2, d3] => { results := [.lit (.bool true)], args := [d1, d2, d3] }
  | _ => none }
def indiffValuesRow : OpenClaim := { program := "ytbjmaoedheiigaagreat", sum := "79129490da097413ac3ac409049a890f61ce538621d5f7e7fb8e62fad3516c25", func := "cento/centolaw28.IndiffValues", spec := "indiffValues", unfollowed := true, recurses := true, apart := false }
def IndiffValuesSaid : Prop := indiffValuesRow.holds Tryz.pinned (OpenSpec.ofChange indiffValuesSpec)

/-- ITS FALSE NEIGHBOUR: 'it returns false'. Refute it at one input. -/
def indiffValuesWrong : ChangeSpec := { name := "indiffValues", fn := fun _ => fun
  | [d1, d2, d3] => { results := [.lit (.bool false)], args := [d1, d2, d3] }
  | _ => none }
def IndiffValuesWrongFalsely : Prop := indiffValuesRow.holds Tryz.pinned (OpenSpec.ofChange indiffValuesWrong)

/-- 'centolaw28.IndiffBuilt': WHATEVER THE INPUT: true; the input reads as it did. -/
def indiffBuiltSpec : ChangeSpec := { name := "indiffBuilt", fn := fun _ => fun
  | [d1, d2, d3, d4, d5] => { results := [.lit (.bool true)], args := [d1, d2, d3, d4, d5] }
  | _ => none }
def indiffBuiltRow : OpenClaim := { program := "ytbjmaoedheiigaagreat", sum := "79129490da097413ac3ac409049a890f61ce538621d5f7e7fb8e62fad3516c25", func := "cento/centolaw28.IndiffBuilt", spec := "indiffBuilt", unfollowed := true, recurses := true, loops := true, apart := false }
def IndiffBuiltSaid : Prop := indiffBuiltRow.holds Tryz.pinned (OpenSpec.ofChange indiffBuiltSpec)

/-- ITS FALSE NEIGHBOUR: 'it returns false'. Refute it at one input. -/
def indiffBuiltWrong : ChangeSpec := { name := "indiffBuilt", fn := fun _ => fun
  | [d1, d2, d3, d4, d5] => { results := [.lit (.bool false)], args := [d1, d2, d3, d4, d5] }
  | _ => none }
def IndiffBuiltWrongFalsely : Prop := indiffBuiltRow.holds Tryz.pinned (OpenSpec.ofChange indiffBuiltWrong)

/-- 'centolaw28.IndiffSame': WHATEVER THE INPUT: true; the input reads as it did. -/
def indiffSameSpec : ChangeSpec := { name := "indiffSame", fn := fun _ => fun
  | [d1, d2, d3] => { results := [.lit (.bool true)], args := [d1, d2, d3] }
  | _ => none }
def indiffSameRow : OpenClaim := { program := "ytbjmaoedheiigaagreat", sum := "79129490da097413ac3ac409049a890f61ce538621d5f7e7fb8e62fad3516c25", func := "cento/centolaw28.IndiffSame", spec := "indiffSame", unfollowed := true, recurses := true, apart := false }
def IndiffSameSaid : Prop := indiffSameRow.holds Tryz.pinned (OpenSpec.ofChange indiffSameSpec)

/-- ITS FALSE NEIGHBOUR: 'it returns false'. Refute it at one input. -/
def indiffSameWrong : ChangeSpec := { name := "indiffSame", fn := fun _ => fun
  | [d1, d2, d3] => { results := [.lit (.bool false)], args := [d1, d2, d3] }
  | _ => none }
def IndiffSameWrongFalsely : Prop := indiffSameRow.holds Tryz.pinned (OpenSpec.ofChange indiffSameWrong)

/- THE SECOND FORM. 'bulk': how many values and letters a reading holds, each counted each time it is reached (what is shared counts as often as it is met; a slice's spare places count too). A statement '..UptoSaid' is the law's where the arguments, and the package variables that the reading takes, are together of bulk at most 1048576: NARROWER than '..Said'. Prove '..Said' where nothing that the law and all that it calls make is longer than what came in: it says more and counts as full. Else prove '..UptoSaid'. A law counts once. -/
mutual
def uptoBulk {H : Type} : DataW H → Nat
  | .lit (.string bytes) => bytes.length + 1
  | .lit _ => 1
  | .nil => 1
  | .ptr d => uptoBulk d + 1
  | .slice elems spare => uptoBulkAll elems + uptoBulkAll spare + 1
  | .agg parts => uptoBulkAll parts + 1
  | .iface _ d => uptoBulk d + 1
  | .map entries => uptoBulkEntries entries + 1
  | .held _ => 1
def uptoBulkAll {H : Type} : List (DataW H) → Nat
  | [] => 0
  | d :: r => uptoBulk d + uptoBulkAll r
def uptoBulkEntries {H : Type} : List (Lit × DataW H) → Nat
  | [] => 0
  | x :: r => uptoBulkEntry x + uptoBulkEntries r
def uptoBulkEntry {H : Type} : Lit × DataW H → Nat
  | (.string bytes, d) => bytes.length + uptoBulk d + 1
  | (_, d) => uptoBulk d + 1
 end
def uptoSmall : (H : Type) → List (DataW H) → Bool := fun _ ds => decide (uptoBulkAll ds ≤ 1048576)
def OpenSpec.upto (s : _root_.Go.ChangeSpec) : _root_.Go.OpenSpec := { _root_.Go.OpenSpec.ofChange s with cond := some uptoSmall }

/-- 'centolaw39.CostSaves', WHERE WHAT IT READS IS OF BULK AT MOST 1048576: true; the input reads as it did. -/
def costSavesUptoRow : OpenClaim := { program := "ytbjmaoedheiigaagreat", sum := "79129490da097413ac3ac409049a890f61ce538621d5f7e7fb8e62fad3516c25", func := "cento/centolaw39.CostSaves", spec := "costSaves", unfollowed := true, recurses := true, loops := true, apart := false, narrowed := true }
def CostSavesUptoSaid : Prop := costSavesUptoRow.holds Tryz.pinned (OpenSpec.upto costSavesSpec)

/-- 'centolaw27.PatchSmall', WHERE WHAT IT READS IS OF BULK AT MOST 1048576: true; the input reads as it did. -/
def patchSmallUptoRow : OpenClaim := { program := "ytbjmaoedheiigaagreat", sum := "79129490da097413ac3ac409049a890f61ce538621d5f7e7fb8e62fad3516c25", func := "cento/centolaw27.PatchSmall", spec := "patchSmall", unfollowed := true, recurses := true, loops := true, apart := false, narrowed := true }
def PatchSmallUptoSaid : Prop := patchSmallUptoRow.holds Tryz.pinned (OpenSpec.upto patchSmallSpec)

/-- 'centolaw28.IndiffValues', WHERE WHAT IT READS IS OF BULK AT MOST 1048576: true; the input reads as it did. -/
def indiffValuesUptoRow : OpenClaim := { program := "ytbjmaoedheiigaagreat", sum := "79129490da097413ac3ac409049a890f61ce538621d5f7e7fb8e62fad3516c25", func := "cento/centolaw28.IndiffValues", spec := "indiffValues", unfollowed := true, recurses := true, apart := false, narrowed := true }
def IndiffValuesUptoSaid : Prop := indiffValuesUptoRow.holds Tryz.pinned (OpenSpec.upto indiffValuesSpec)

/-- 'centolaw28.IndiffBuilt', WHERE WHAT IT READS IS OF BULK AT MOST 1048576: true; the input reads as it did. -/
def indiffBuiltUptoRow : OpenClaim := { program := "ytbjmaoedheiigaagreat", sum := "79129490da097413ac3ac409049a890f61ce538621d5f7e7fb8e62fad3516c25", func := "cento/centolaw28.IndiffBuilt", spec := "indiffBuilt", unfollowed := true, recurses := true, loops := true, apart := false, narrowed := true }
def IndiffBuiltUptoSaid : Prop := indiffBuiltUptoRow.holds Tryz.pinned (OpenSpec.upto indiffBuiltSpec)

/-- 'centolaw28.IndiffSame', WHERE WHAT IT READS IS OF BULK AT MOST 1048576: true; the input reads as it did. -/
def indiffSameUptoRow : OpenClaim := { program := "ytbjmaoedheiigaagreat", sum := "79129490da097413ac3ac409049a890f61ce538621d5f7e7fb8e62fad3516c25", func := "cento/centolaw28.IndiffSame", spec := "indiffSame", unfollowed := true, recurses := true, apart := false, narrowed := true }
def IndiffSameUptoSaid : Prop := indiffSameUptoRow.holds Tryz.pinned (OpenSpec.upto indiffSameSpec)

end Rows
end Go.Proofs.YtbjmaoedheiigaaGreat
