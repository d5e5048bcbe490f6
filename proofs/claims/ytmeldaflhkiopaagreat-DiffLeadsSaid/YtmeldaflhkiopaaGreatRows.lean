/-
  NARROWER THAN 'FOR EVERY INPUT', by the rows' own cells (each row's printed sentence says how): DiffFinds: loops · DiffWritten: loops · DiffLeads: loops.
  DERIVED. THE GIVEN ROWS OF THIS SEAT. 3 by the template 'for every input the law returns true; each argument reads behind the call as it read before'; 0 by the template 'total and deterministic' (their statements: YtmeldaflhkiopaaGreatTotals.lean).
  GIVEN WITH THE SEED: the statements are not yours to turn. If you find one false, say at which input.
  Laid BY PROGRAM, IN A SANDBOX (cutbox-rows.mjs): the forced cells as the released guide's own fill.sh prints them over the translation 8fad8a11aa400acc… (all of the seat's roots in one cut). By AI agents, Wed Nov 11 2026. No macro, syntax, notation, axiom, sorry.
-/
import Derived.Test.YtmeldaflhkiopaaGreatChecked
import GoSem.Claim
import GoSem.ClaimJoined
import GoSem.ClaimMapViews
import Derived.JoinedTies
import Derived.KernelRfl
namespace Go.Proofs.YtmeldaflhkiopaaGreat
/- THE CELL 'sum', in the pinned program and in every row, IS THE sha256 OF THE DUMP (.gsa) THAT YtmeldaflhkiopaaGreatProg.lean LOADS. Nothing in Lean hashes anything: it is a label: what it is worth is what the hold of that sum in a sandbox is worth. -/
noncomputable def Tryz.pinned : Pinned := { name := "ytmeldaflhkiopaagreat", sum := "8fad8a11aa400acc493b423554f06f96817ba4d35d425074f4f40b0515e4de8f", checked := Tryz.checked }
namespace Rows
def none {H : Type} : Left H := { results := [], args := [] }

/-- 'centolaw26.DiffFinds': WHATEVER THE INPUT: true; the input reads as it did. -/
def diffFindsSpec : ChangeSpec := { name := "diffFinds", fn := fun _ => fun
  | [d1, d2, d3] => { results := [.lit (.bool true)], args := [d1, d2, d3] }
  | _ => none }
def diffFindsRow : OpenClaim := { program := "ytmeldaflhkiopaagreat", sum := "8fad8a11aa400acc493b423554f06f96817ba4d35d425074f4f40b0515e4de8f", func := "cento/centolaw26.DiffFinds", spec := "diffFinds", unfollowed := true, recurses := true, loops := true, apart := false }
def DiffFindsSaid : Prop := diffFindsRow.holds Tryz.pinned (OpenSpec.ofChange diffFindsSpec)

/-- ITS FALSE NEIGHBOUR: 'it returns false'. Refute it at one input. -/
def diffFindsWrong : ChangeSpec := { name := "diffFinds", fn := fun _ => fun
  | [d1, d2, d3] => { results := [.lit (.bool false)], args := [d1, d2, d3] }
  | _ => none }
def DiffFindsWrongFalsely : Prop := diffFindsRow.holds Tryz.pinned (OpenSpec.ofChange diffFindsWrong)

/-- 'centolaw26.DiffWritten': WHATEVER THE INPUT: true; the input reads as it did. -/
def diffWrittenSpec : ChangeSpec := { name := "diffWritten", fn := fun _ => fun
  | [d1, d2, d3, d4, d5] => { results := [.lit (.bool true)], args := [d1, d2, d3, d4, d5] }
  | _ => none }
def diffWrittenRow : OpenClaim := { program := "ytmeldaflhkiopaagreat", sum := "8fad8a11aa400acc493b423554f06f96817ba4d35d425074f4f40b0515e4de8f", func := "cento/centolaw26.DiffWritten", spec := "diffWritten", unfollowed := true, recurses := true, loops := true, apart := false }
def DiffWrittenSaid : Prop := diffWrittenRow.holds Tryz.pinned (OpenSpec.ofChange diffWrittenSpec)

/-- ITS FALSE NEIGHBOUR: 'it returns false'. Refute it at one input. -/
def diffWrittenWrong : ChangeSpec := { name := "diffWritten", fn := fun _ => fun
  | [d1, d2, d3, d4, d5] => { results := [.lit (.bool false)], args := [d1, d2, d3, d4, d5] }
  | _ => none }
def DiffWrittenWrongFalsely : Prop := diffWrittenRow.holds Tryz.pinned (OpenSpec.ofChange diffWrittenWrong)

/-- 'centolaw26.DiffLeads': WHATEVER THE INPUT: true; the input reads as it did. -/
def diffLeadsSpec : ChangeSpec := { name := "diffLeads", fn := fun _ => fun
  | [d1, d2, d3] => { results := [.lit (.bool true)], args := [d1, d2, d3] }
  | _ => none }
def diffLeadsRow : OpenClaim := { program := "ytmeldaflhkiopaagreat", sum := "8fad8a11aa400acc493b423554f06f96817ba4d35d425074f4f40b0515e4de8f", func := "cento/centolaw26.DiffLeads", spec := "diffLeads", unfollowed := true, recurses := true, loops := true, apart := false }
def DiffLeadsSaid : Prop := diffLeadsRow.holds Tryz.pinned (OpenSpec.ofChange diffLeadsSpec)

/-- ITS FALSE NEIGHBOUR: 'it returns false'. Refute it at one input. -/
def diffLeadsWrong : ChangeSpec := { name := "diffLeads", fn := fun _ => fun
  | [d1, d2, d3] => { results := [.lit (.bool false)], args := [d1, d2, d3] }
  | _ => none }
def DiffLeadsWrongFalsely : Prop := diffLeadsRow.holds Tryz.pinned (OpenSpec.ofChange diffLeadsWrong)

/- THE SECOND FORM. 'bulk': how many values and letters a reading holds, each counted each time it is reached (what is shared counts as often as it is met; a slice's spare places count too). A statement '..UptoSaid' is the law's where the arguments, and the package variables that the reading takes, are together of bulk at most 1048576: NARROWER than '..Said'. Prove '..Said' where nothing that the law and all that it calls make is longer than what came in: it says more and counts as full. Else prove '..UptoSaid'. A law counts once. -/
mutual
def uptoBulk {H : Type} : DataW H → Nat
  | .lit (.string bytes) => bytes.length + 1
  | .lit _ => 1
  | .nil => 1
  | .ptr d => uptoBulk d + 1
  | .slice elems spare => uptoBulkAll elems + uptoBulkAll spare + 1
  | .agg parts => uptoBulkAll parts + 1
  | .iface _ d => uptoBulk d + 1
  | .map entries => uptoBulkEntries entries + 1
  | .held _ => 1
def uptoBulkAll {H : Type} : List (DataW H) → Nat
  | [] => 0
  | d :: r => uptoBulk d + uptoBulkAll r
def uptoBulkEntries {H : Type} : List (Lit × DataW H) → Nat
  | [] => 0
  | x :: r => uptoBulkEntry x + uptoBulkEntries r
def uptoBulkEntry {H : Type} : Lit × DataW H → Nat
  | (.string bytes, d) => bytes.length + uptoBulk d + 1
  | (_, d) => uptoBulk d + 1
 end
def uptoSmall : (H : Type) → List (DataW H) → Bool := fun _ ds => decide (uptoBulkAll ds ≤ 1048576)
def OpenSpec.upto (s : _root_.Go.ChangeSpec) : _root_.Go.OpenSpec := { _root_.Go.OpenSpec.ofChange s with cond := some uptoSmall }

/-- 'centolaw26.DiffFinds', WHERE WHAT IT READS IS OF BULK AT MOST 1048576: true; the input reads as it did. -/
def diffFindsUptoRow : OpenClaim := { program := "ytmeldaflhkiopaagreat", sum := "8fad8a11aa400acc493b423554f06f96817ba4d35d425074f4f40b0515e4de8f", func := "cento/centolaw26.DiffFinds", spec := "diffFinds", unfollowed := true, recurses := true, loops := true, apart := false, narrowed := true }
def DiffFindsUptoSaid : Prop := diffFindsUptoRow.holds Tryz.pinned (OpenSpec.upto diffFindsSpec)

/-- 'centolaw26.DiffWritten', WHERE WHAT IT READS IS OF BULK AT MOST 1048576: true; the input reads as it did. -/
def diffWrittenUptoRow : OpenClaim := { program := "ytmeldaflhkiopaagreat", sum := "8fad8a11aa400acc493b423554f06f96817ba4d35d425074f4f40b0515e4de8f", func := "cento/centolaw26.DiffWritten", spec := "diffWritten", unfollowed := true, recurses := true, loops := true, apart := false, narrowed := true }
def DiffWrittenUptoSaid : Prop := diffWrittenUptoRow.holds Tryz.pinned (OpenSpec.upto diffWrittenSpec)

/-- 'centolaw26.DiffLeads', WHERE WHAT IT READS IS OF BULK AT MOST 1048576: true; the input reads as it did. -/
def diffLeadsUptoRow : OpenClaim := { program := "ytmeldaflhkiopaagreat", sum := "8fad8a11aa400acc493b423554f06f96817ba4d35d425074f4f40b0515e4de8f", func := "cento/centolaw26.DiffLeads", spec := "diffLeads", unfollowed := true, recurses := true, loops := true, apart := false, narrowed := true }
def DiffLeadsUptoSaid : Prop := diffLeadsUptoRow.holds Tryz.pinned (OpenSpec.upto diffLeadsSpec)

end Rows
end Go.Proofs.YtmeldaflhkiopaaGreat
