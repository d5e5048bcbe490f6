/-
  NARROWER THAN 'FOR EVERY INPUT', by the rows' own cells (each row's printed sentence says how): PairScores: loops · DiffKeeps: loops.
  DERIVED. THE GIVEN ROWS OF THIS SEAT. 4 by the template 'for every input the law returns true; each argument reads behind the call as it read before'; 0 by the template 'total and deterministic' (their statements: YtmeldaflhkiopaaTotals.lean).
  GIVEN WITH THE SEED: the statements are not yours to turn. If you find one false, say at which input.
  Laid BY PROGRAM, IN A SANDBOX (cutbox-rows.mjs): the forced cells as the released guide's own fill.sh prints them over the translation ce698811be2fc84f… (all of the seat's roots in one cut). By AI agents, Wed Nov 11 2026. No macro, syntax, notation, axiom, sorry.
-/
import Derived.Test.YtmeldaflhkiopaaChecked
import GoSem.Claim
import GoSem.ClaimJoined
import GoSem.ClaimMapViews
import Derived.JoinedTies
import Derived.KernelRfl
namespace Go.Proofs.Ytmeldaflhkiopaa
/- THE CELL 'sum', in the pinned program and in every row, IS THE sha256 OF THE DUMP (.gsa) THAT YtmeldaflhkiopaaProg.lean LOADS. Nothing in Lean hashes anything: it is a label: what it is worth is what the hold of that sum in a sandbox is worth. -/
noncomputable def Try.pinned : Pinned := { name := "ytmeldaflhkiopaa", sum := "ce698811be2fc84fcc20c44388acb1ea73dada11fd1b70f632029c67af0044dd", checked := Try.checked }
namespace Rows
def none {H : Type} : Left H := { results := [], args := [] }

/-- 'centolaw19.PairPicks': WHATEVER THE INPUT: true; the input reads as it did. -/
def pairPicksSpec : ChangeSpec := { name := "pairPicks", fn := fun _ => fun
  | [d] => { results := [.lit (.bool true)], args := [d] }
  | _ => none }
def pairPicksRow : OpenClaim := { program := "ytmeldaflhkiopaa", sum := "ce698811be2fc84fcc20c44388acb1ea73dada11fd1b70f632029c67af0044dd", func := "cento/centolaw19.PairPicks", spec := "pairPicks", unfollowed := true, recurses := true, apart := false }
def PairPicksSaid : Prop := pairPicksRow.holds Try.pinned (OpenSpec.ofChange pairPicksSpec)

/-- ITS FALSE NEIGHBOUR: 'it returns false'. Refute it at one input. -/
def pairPicksWrong : ChangeSpec := { name := "pairPicks", fn := fun _ => fun
  | [d] => { results := [.lit (.bool false)], args := [d] }
  | _ => none }
def PairPicksWrongFalsely : Prop := pairPicksRow.holds Try.pinned (OpenSpec.ofChange pairPicksWrong)

/-- 'centolaw19.PairRises': WHATEVER THE INPUT: true; the input reads as it did. -/
def pairRisesSpec : ChangeSpec := { name := "pairRises", fn := fun _ => fun
  | [d] => { results := [.lit (.bool true)], args := [d] }
  | _ => none }
def pairRisesRow : OpenClaim := { program := "ytmeldaflhkiopaa", sum := "ce698811be2fc84fcc20c44388acb1ea73dada11fd1b70f632029c67af0044dd", func := "cento/centolaw19.PairRises", spec := "pairRises", unfollowed := true, recurses := true, apart := false }
def PairRisesSaid : Prop := pairRisesRow.holds Try.pinned (OpenSpec.ofChange pairRisesSpec)

/-- ITS FALSE NEIGHBOUR: 'it returns false'. Refute it at one input. -/
def pairRisesWrong : ChangeSpec := { name := "pairRises", fn := fun _ => fun
  | [d] => { results := [.lit (.bool false)], args := [d] }
  | _ => none }
def PairRisesWrongFalsely : Prop := pairRisesRow.holds Try.pinned (OpenSpec.ofChange pairRisesWrong)

/-- 'centolaw19.PairScores': WHATEVER THE INPUT: true; the input reads as it did. -/
def pairScoresSpec : ChangeSpec := { name := "pairScores", fn := fun _ => fun
  | [d1, d2] => { results := [.lit (.bool true)], args := [d1, d2] }
  | _ => none }
def pairScoresRow : OpenClaim := { program := "ytmeldaflhkiopaa", sum := "ce698811be2fc84fcc20c44388acb1ea73dada11fd1b70f632029c67af0044dd", func := "cento/centolaw19.PairScores", spec := "pairScores", unfollowed := true, recurses := true, loops := true, apart := false }
def PairScoresSaid : Prop := pairScoresRow.holds Try.pinned (OpenSpec.ofChange pairScoresSpec)

/-- ITS FALSE NEIGHBOUR: 'it returns false'. Refute it at one input. -/
def pairScoresWrong : ChangeSpec := { name := "pairScores", fn := fun _ => fun
  | [d1, d2] => { results := [.lit (.bool false)], args := [d1, d2] }
  | _ => none }
def PairScoresWrongFalsely : Prop := pairScoresRow.holds Try.pinned (OpenSpec.ofChange pairScoresWrong)

/-- 'centolaw26.DiffKeeps': WHATEVER THE INPUT: true; the input reads as it did. -/
def diffKeepsSpec : ChangeSpec := { name := "diffKeeps", fn := fun _ => fun
  | [d1, d2, d3] => { results := [.lit (.bool true)], args := [d1, d2, d3] }
  | _ => none }
def diffKeepsRow : OpenClaim := { program := "ytmeldaflhkiopaa", sum := "ce698811be2fc84fcc20c44388acb1ea73dada11fd1b70f632029c67af0044dd", func := "cento/centolaw26.DiffKeeps", spec := "diffKeeps", unfollowed := true, recurses := true, loops := true, apart := false }
def DiffKeepsSaid : Prop := diffKeepsRow.holds Try.pinned (OpenSpec.ofChange diffKeepsSpec)

/-- ITS FALSE NEIGHBOUR: 'it returns false'. Refute it at one input. -/
def diffKeepsWrong : ChangeSpec := { name := "diffKeeps", fn := fun _ => fun
  | [d1, d2, d3] => { results := [.lit (.bool false)], args := [d1, d2, d3] }
  | _ => none }
def DiffKeepsWrongFalsely : Prop := diffKeepsRow.holds Try.pinned (OpenSpec.ofChange diffKeepsWrong)

/- THE SECOND FORM. 'bulk': how many values and letters a reading holds, each counted each time it is reached (what is shared counts as often as it is met; a slice's spare places count too). A statement '..UptoSaid' is the law's where the arguments, and the package variables that the reading takes, are together of bulk at most 1048576: NARROWER than '..Said'. Prove '..Said' where nothing that the law and all that it calls make is longer than what came in: it says more and counts as full. Else prove '..UptoSaid'. A law counts once. -/
mutual
def uptoBulk {H : Type} : DataW H → Nat
  | .lit (.string bytes) => bytes.length + 1
  | .lit _ => 1
  | .nil => 1
  | .ptr d => uptoBulk d + 1
  | .slice elems spare => uptoBulkAll elems + uptoBulkAll spare + 1
  | .agg parts => uptoBulkAll parts + 1
  | .iface _ d => uptoBulk d + 1
  | .map entries => uptoBulkEntries entries + 1
  | .held _ => 1
def uptoBulkAll {H : Type} : List (DataW H) → Nat
  | [] => 0
  | d :: r => uptoBulk d + uptoBulkAll r
def uptoBulkEntries {H : Type} : List (Lit × DataW H) → Nat
  | [] => 0
  | x :: r => uptoBulkEntry x + uptoBulkEntries r
def uptoBulkEntry {H : Type} : Lit × DataW H → Nat
  | (.string bytes, d) => bytes.length + uptoBulk d + 1
  | (_, d) => uptoBulk d + 1
 end
def uptoSmall : (H : Type) → List (DataW H) → Bool := fun _ ds => decide (uptoBulkAll ds ≤ 1048576)
def OpenSpec.upto (s : _root_.Go.ChangeSpec) : _root_.Go.OpenSpec := { _root_.Go.OpenSpec.ofChange s with cond := some uptoSmall }

/-- 'centolaw19.PairPicks', WHERE WHAT IT READS IS OF BULK AT MOST 1048576: true; the input reads as it did. -/
def pairPicksUptoRow : OpenClaim := { program := "ytmeldaflhkiopaa", sum := "ce698811be2fc84fcc20c44388acb1ea73dada11fd1b70f632029c67af0044dd", func := "cento/centolaw19.PairPicks", spec := "pairPicks", unfollowed := true, recurses := true, apart := false, narrowed := true }
def PairPicksUptoSaid : Prop := pairPicksUptoRow.holds Try.pinned (OpenSpec.upto pairPicksSpec)

/-- 'centolaw19.PairRises', WHERE WHAT IT READS IS OF BULK AT MOST 1048576: true; the input reads as it did. -/
def pairRisesUptoRow : OpenClaim := { program := "ytmeldaflhkiopaa", sum := "ce698811be2fc84fcc20c44388acb1ea73dada11fd1b70f632029c67af0044dd", func := "cento/centolaw19.PairRises", spec := "pairRises", unfollowed := true, recurses := true, apart := false, narrowed := true }
def PairRisesUptoSaid : Prop := pairRisesUptoRow.holds Try.pinned (OpenSpec.upto pairRisesSpec)

/-- 'centolaw19.PairScores', WHERE WHAT IT READS IS OF BULK AT MOST 1048576: true; the input reads as it did. -/
def pairScoresUptoRow : OpenClaim := { program := "ytmeldaflhkiopaa", sum := "ce698811be2fc84fcc20c44388acb1ea73dada11fd1b70f632029c67af0044dd", func := "cento/centolaw19.PairScores", spec := "pairScores", unfollowed := true, recurses := true, loops := true, apart := false, narrowed := true }
def PairScoresUptoSaid : Prop := pairScoresUptoRow.holds Try.pinned (OpenSpec.upto pairScoresSpec)

/-- 'centolaw26.DiffKeeps', WHERE WHAT IT READS IS OF BULK AT MOST 1048576: true; the input reads as it did. -/
def diffKeepsUptoRow : OpenClaim := { program := "ytmeldaflhkiopaa", sum := "ce698811be2fc84fcc20c44388acb1ea73dada11fd1b70f632029c67af0044dd", func := "cento/centolaw26.DiffKeeps", spec := "diffKeeps", unfollowed := true, recurses := true, loops := true, apart := false, narrowed := true }
def DiffKeepsUptoSaid : Prop := diffKeepsUptoRow.holds Try.pinned (OpenSpec.upto diffKeepsSpec)

end Rows
end Go.Proofs.Ytmeldaflhkiopaa
