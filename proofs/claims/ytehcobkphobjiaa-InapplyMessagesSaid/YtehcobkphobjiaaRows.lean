/-
  NARROWER THAN 'FOR EVERY INPUT', by the rows' own cells (each row's printed sentence says how): InternKids: loops · InapplyMessages: loops · PairScores: loops.
  DERIVED. THE GIVEN ROWS OF THIS SEAT. 10 by the template 'for every input the law returns true; each argument reads behind the call as it read before'; 0 by the template 'total and deterministic' (their statements: YtehcobkphobjiaaTotals.lean).
  GIVEN WITH THE SEED: the statements are not yours to turn. If you find one false, say at which input.
  Laid BY PROGRAM, IN A SANDBOX (cutbox-rows.mjs): the forced cells as the released guide's own fill.sh prints them over the translation 5e8c7be6f9b2e131… (all of the seat's roots in one cut). By AI agents, Wed Nov 11 2026. No macro, syntax, notation, axiom, sorry.
-/
import Derived.Test.YtehcobkphobjiaaChecked
import GoSem.Claim
import GoSem.ClaimJoined
import GoSem.ClaimMapViews
import Derived.JoinedTies
import Derived.KernelRfl
namespace Go.Proofs.Ytehcobkphobjiaa
/- THE CELL 'sum', in the pinned program and in every row, IS THE sha256 OF THE DUMP (.gsa) THAT YtehcobkphobjiaaProg.lean LOADS. Nothing in Lean hashes anything: it is a label: what it is worth is what the hold of that sum in a sandbox is worth. -/
noncomputable def Try.pinned : Pinned := { name := "ytehcobkphobjiaa", sum := "5e8c7be6f9b2e131906aa8162b5ca2b9af7c7251352c1b62056ec1f589e332d1", checked := Try.checked }
namespace Rows
def none {H : Type} : Left H := { results := [], args := [] }

/-- 'centolaw05.ArenaOf': WHATEVER THE INPUT: true; the input reads as it did. -/
def arenaOfSpec : ChangeSpec := { name := "arenaOf", fn := fun _ => fun
  | [d1, d2, d3, d4] => { results := [.lit (.bool true)], args := [d1, d2, d3, d4] }
  | _ => none }
def arenaOfRow : OpenClaim := { program := "ytehcobkphobjiaa", sum := "5e8c7be6f9b2e131906aa8162b5ca2b9af7c7251352c1b62056ec1f589e332d1", func := "cento/centolaw05.ArenaOf", spec := "arenaOf", apart := false }
def ArenaOfSaid : Prop := arenaOfRow.holds Try.pinned (OpenSpec.ofChange arenaOfSpec)

/-- ITS FALSE NEIGHBOUR: 'it returns false'. Refute it at one input. -/
def arenaOfWrong : ChangeSpec := { name := "arenaOf", fn := fun _ => fun
  | [d1, d2, d3, d4] => { results := [.lit (.bool false)], args := [d1, d2, d3, d4] }
  | _ => none }
def ArenaOfWrongFalsely : Prop := arenaOfRow.holds Try.pinned (OpenSpec.ofChange arenaOfWrong)

/-- 'centolaw05.ArenaPlays': WHATEVER THE INPUT: true; the input reads as it did. -/
def arenaPlaysSpec : ChangeSpec := { name := "arenaPlays", fn := fun _ => fun
  | [d1, d2, d3] => { results := [.lit (.bool true)], args := [d1, d2, d3] }
  | _ => none }
def arenaPlaysRow : OpenClaim := { program := "ytehcobkphobjiaa", sum := "5e8c7be6f9b2e131906aa8162b5ca2b9af7c7251352c1b62056ec1f589e332d1", func := "cento/centolaw05.ArenaPlays", spec := "arenaPlays", apart := false }
def ArenaPlaysSaid : Prop := arenaPlaysRow.holds Try.pinned (OpenSpec.ofChange arenaPlaysSpec)

/-- ITS FALSE NEIGHBOUR: 'it returns false'. Refute it at one input. -/
def arenaPlaysWrong : ChangeSpec := { name := "arenaPlays", fn := fun _ => fun
  | [d1, d2, d3] => { results := [.lit (.bool false)], args := [d1, d2, d3] }
  | _ => none }
def ArenaPlaysWrongFalsely : Prop := arenaPlaysRow.holds Try.pinned (OpenSpec.ofChange arenaPlaysWrong)

/-- 'centolaw16.InternKids': WHATEVER THE INPUT: true; the input reads as it did. -/
def internKidsSpec : ChangeSpec := { name := "internKids", fn := fun _ => fun
  | [d1, d2, d3, d4] => { results := [.lit (.bool true)], args := [d1, d2, d3, d4] }
  | _ => none }
def internKidsRow : OpenClaim := { program := "ytehcobkphobjiaa", sum := "5e8c7be6f9b2e131906aa8162b5ca2b9af7c7251352c1b62056ec1f589e332d1", func := "cento/centolaw16.InternKids", spec := "internKids", unfollowed := true, recurses := true, loops := true, apart := false }
def InternKidsSaid : Prop := internKidsRow.holds Try.pinned (OpenSpec.ofChange internKidsSpec)

/-- ITS FALSE NEIGHBOUR: 'it returns false'. Refute it at one input. -/
def internKidsWrong : ChangeSpec := { name := "internKids", fn := fun _ => fun
  | [d1, d2, d3, d4] => { results := [.lit (.bool false)], args := [d1, d2, d3, d4] }
  | _ => none }
def InternKidsWrongFalsely : Prop := internKidsRow.holds Try.pinned (OpenSpec.ofChange internKidsWrong)

/-- 'centolaw16.InternMany': WHATEVER THE INPUT: true; the input reads as it did. -/
def internManySpec : ChangeSpec := { name := "internMany", fn := fun _ => fun
  | [d1, d2] => { results := [.lit (.bool true)], args := [d1, d2] }
  | _ => none }
def internManyRow : OpenClaim := { program := "ytehcobkphobjiaa", sum := "5e8c7be6f9b2e131906aa8162b5ca2b9af7c7251352c1b62056ec1f589e332d1", func := "cento/centolaw16.InternMany", spec := "internMany", unfollowed := true, recurses := true, apart := false }
def InternManySaid : Prop := internManyRow.holds Try.pinned (OpenSpec.ofChange internManySpec)

/-- ITS FALSE NEIGHBOUR: 'it returns false'. Refute it at one input. -/
def internManyWrong : ChangeSpec := { name := "internMany", fn := fun _ => fun
  | [d1, d2] => { results := [.lit (.bool false)], args := [d1, d2] }
  | _ => none }
def InternManyWrongFalsely : Prop := internManyRow.holds Try.pinned (OpenSpec.ofChange internManyWrong)

/-- 'centolaw14.CopyWords': WHATEVER THE INPUT: true; the input reads as it did. -/
def copyWordsSpec : ChangeSpec := { name := "copyWords", fn := fun _ => fun
  | [d1, d2, d3] => { results := [.lit (.bool true)], args := [d1, d2, d3] }
  | _ => none }
def copyWordsRow : OpenClaim := { program := "ytehcobkphobjiaa", sum := "5e8c7be6f9b2e131906aa8162b5ca2b9af7c7251352c1b62056ec1f589e332d1", func := "cento/centolaw14.CopyWords", spec := "copyWords", recurses := true, apart := false }
def CopyWordsSaid : Prop := copyWordsRow.holds Try.pinned (OpenSpec.ofChange copyWordsSpec)

/-- ITS FALSE NEIGHBOUR: 'it returns false'. Refute it at one input. -/
def copyWordsWrong : ChangeSpec := { name := "copyWords", fn := fun _ => fun
  | [d1, d2, d3] => { results := [.lit (.bool false)], args := [d1, d2, d3] }
  | _ => none }
def CopyWordsWrongFalsely : Prop := copyWordsRow.holds Try.pinned (OpenSpec.ofChange copyWordsWrong)

/-- 'centolaw14.CopyEnds': WHATEVER THE INPUT: true; the input reads as it did. -/
def copyEndsSpec : ChangeSpec := { name := "copyEnds", fn := fun _ => fun
  | [d1, d2, d3] => { results := [.lit (.bool true)], args := [d1, d2, d3] }
  | _ => none }
def copyEndsRow : OpenClaim := { program := "ytehcobkphobjiaa", sum := "5e8c7be6f9b2e131906aa8162b5ca2b9af7c7251352c1b62056ec1f589e332d1", func := "cento/centolaw14.CopyEnds", spec := "copyEnds", recurses := true, apart := false }
def CopyEndsSaid : Prop := copyEndsRow.holds Try.pinned (OpenSpec.ofChange copyEndsSpec)

/-- ITS FALSE NEIGHBOUR: 'it returns false'. Refute it at one input. -/
def copyEndsWrong : ChangeSpec := { name := "copyEnds", fn := fun _ => fun
  | [d1, d2, d3] => { results := [.lit (.bool false)], args := [d1, d2, d3] }
  | _ => none }
def CopyEndsWrongFalsely : Prop := copyEndsRow.holds Try.pinned (OpenSpec.ofChange copyEndsWrong)

/-- 'centolaw29.InapplyMessages': WHATEVER THE INPUT: true; the input reads as it did. -/
def inapplyMessagesSpec : ChangeSpec := { name := "inapplyMessages", fn := fun _ => fun
  | [d1, d2, d3] => { results := [.lit (.bool true)], args := [d1, d2, d3] }
  | _ => none }
def inapplyMessagesRow : OpenClaim := { program := "ytehcobkphobjiaa", sum := "5e8c7be6f9b2e131906aa8162b5ca2b9af7c7251352c1b62056ec1f589e332d1", func := "cento/centolaw29.InapplyMessages", spec := "inapplyMessages", recurses := true, loops := true, apart := false }
def InapplyMessagesSaid : Prop := inapplyMessagesRow.holds Try.pinned (OpenSpec.ofChange inapplyMessagesSpec)

/-- ITS FALSE NEIGHBOUR: 'it returns false'. Refute it at one input. -/
def inapplyMessagesWrong : ChangeSpec := { name := "inapplyMessages", fn := fun _ => fun
  | [d1, d2, d3] => { results := [.lit (.bool false)], args := [d1, d2, d3] }
  | _ => none }
def InapplyMessagesWrongFalsely : Prop := inapplyMessagesRow.holds Try.pinned (OpenSpec.ofChange inapplyMessagesWrong)

/-- 'centolaw19.PairPicks': WHATEVER THE INPUT: true; the input reads as it did. -/
def pairPicksSpec : ChangeSpec := { name := "pairPicks", fn := fun _ => fun
  | [d] => { results := [.lit (.bool true)], args := [d] }
  | _ => none }
def pairPicksRow : OpenClaim := { program := "ytehcobkphobjiaa", sum := "5e8c7be6f9b2e131906aa8162b5ca2b9af7c7251352c1b62056ec1f589e332d1", func := "cento/centolaw19.PairPicks", spec := "pairPicks", unfollowed := true, recurses := true, apart := false }
def PairPicksSaid : Prop := pairPicksRow.holds Try.pinned (OpenSpec.ofChange pairPicksSpec)

/-- ITS FALSE NEIGHBOUR: 'it returns false'. Refute it at one input. -/
def pairPicksWrong : ChangeSpec := { name := "pairPicks", fn := fun _ => fun
  | [d] => { results := [.lit (.bool false)], args := [d] }
  | _ => none }
def PairPicksWrongFalsely : Prop := pairPicksRow.holds Try.pinned (OpenSpec.ofChange pairPicksWrong)

/-- 'centolaw19.PairRises': WHATEVER THE INPUT: true; the input reads as it did. -/
def pairRisesSpec : ChangeSpec := { name := "pairRises", fn := fun _ => fun
  | [d] => { results := [.lit (.bool true)], args := [d] }
  | _ => none }
def pairRisesRow : OpenClaim := { program := "ytehcobkphobjiaa", sum := "5e8c7be6f9b2e131906aa8162b5ca2b9af7c7251352c1b62056ec1f589e332d1", func := "cento/centolaw19.PairRises", spec := "pairRises", unfollowed := true, recurses := true, apart := false }
def PairRisesSaid : Prop := pairRisesRow.holds Try.pinned (OpenSpec.ofChange pairRisesSpec)

/-- ITS FALSE NEIGHBOUR: 'it returns false'. Refute it at one input. -/
def pairRisesWrong : ChangeSpec := { name := "pairRises", fn := fun _ => fun
  | [d] => { results := [.lit (.bool false)], args := [d] }
  | _ => none }
def PairRisesWrongFalsely : Prop := pairRisesRow.holds Try.pinned (OpenSpec.ofChange pairRisesWrong)

/-- 'centolaw19.PairScores': WHATEVER THE INPUT: true; the input reads as it did. -/
def pairScoresSpec : ChangeSpec := { name := "pairScores", fn := fun _ => fun
  | [d1, d2] => { results := [.lit (.bool true)], args := [d1, d2] }
  | _ => none }
def pairScoresRow : OpenClaim := { program := "ytehcobkphobjiaa", sum := "5e8c7be6f9b2e131906aa8162b5ca2b9af7c7251352c1b62056ec1f589e332d1", func := "cento/centolaw19.PairScores", spec := "pairScores", unfollowed := true, recurses := true, loops := true, apart := false }
def PairScoresSaid : Prop := pairScoresRow.holds Try.pinned (OpenSpec.ofChange pairScoresSpec)

/-- ITS FALSE NEIGHBOUR: 'it returns false'. Refute it at one input. -/
def pairScoresWrong : ChangeSpec := { name := "pairScores", fn := fun _ => fun
  | [d1, d2] => { results := [.lit (.bool false)], args := [d1, d2] }
  | _ => none }
def PairScoresWrongFalsely : Prop := pairScoresRow.holds Try.pinned (OpenSpec.ofChange pairScoresWrong)

/- THE SECOND FORM. 'bulk': how many values and letters a reading holds, each counted each time it is reached (what is shared counts as often as it is met; a slice's spare places count too). A statement '..UptoSaid' is the law's where the arguments, and the package variables that the reading takes, are together of bulk at most 1048576: NARROWER than '..Said'. Prove '..Said' where nothing that the law and all that it calls make is longer than what came in: it says more and counts as full. Else prove '..UptoSaid'. A law counts once. -/
mutual
def uptoBulk {H : Type} : DataW H → Nat
  | .lit (.string bytes) => bytes.length + 1
  | .lit _ => 1
  | .nil => 1
  | .ptr d => uptoBulk d + 1
  | .slice elems spare => uptoBulkAll elems + uptoBulkAll spare + 1
  | .agg parts => uptoBulkAll parts + 1
  | .iface _ d => uptoBulk d + 1
  | .map entries => uptoBulkEntries entries + 1
  | .held _ => 1
def uptoBulkAll {H : Type} : List (DataW H) → Nat
  | [] => 0
  | d :: r => uptoBulk d + uptoBulkAll r
def uptoBulkEntries {H : Type} : List (Lit × DataW H) → Nat
  | [] => 0
  | x :: r => uptoBulkEntry x + uptoBulkEntries r
def uptoBulkEntry {H : Type} : Lit × DataW H → Nat
  | (.string bytes, d) => bytes.length + uptoBulk d + 1
  | (_, d) => uptoBulk d + 1
 end
def uptoSmall : (H : Type) → List (DataW H) → Bool := fun _ ds => decide (uptoBulkAll ds ≤ 1048576)
def OpenSpec.upto (s : _root_.Go.ChangeSpec) : _root_.Go.OpenSpec := { _root_.Go.OpenSpec.ofChange s with cond := some uptoSmall }

/-- 'centolaw05.ArenaOf', WHERE WHAT IT READS IS OF BULK AT MOST 1048576: true; the input reads as it did. -/
def arenaOfUptoRow : OpenClaim := { program := "ytehcobkphobjiaa", sum := "5e8c7be6f9b2e131906aa8162b5ca2b9af7c7251352c1b62056ec1f589e332d1", func := "cento/centolaw05.ArenaOf", spec := "arenaOf", apart := false, narrowed := true }
def ArenaOfUptoSaid : Prop := arenaOfUptoRow.holds Try.pinned (OpenSpec.upto arenaOfSpec)

/-- 'centolaw05.ArenaPlays', WHERE WHAT IT READS IS OF BULK AT MOST 1048576: true; the input reads as it did. -/
def arenaPlaysUptoRow : OpenClaim := { program := "ytehcobkphobjiaa", sum := "5e8c7be6f9b2e131906aa8162b5ca2b9af7c7251352c1b62056ec1f589e332d1", func := "cento/centolaw05.ArenaPlays", spec := "arenaPlays", apart := false, narrowed := true }
def ArenaPlaysUptoSaid : Prop := arenaPlaysUptoRow.holds Try.pinned (OpenSpec.upto arenaPlaysSpec)

/-- 'centolaw16.InternKids', WHERE WHAT IT READS IS OF BULK AT MOST 1048576: true; the input reads as it did. -/
def internKidsUptoRow : OpenClaim := { program := "ytehcobkphobjiaa", sum := "5e8c7be6f9b2e131906aa8162b5ca2b9af7c7251352c1b62056ec1f589e332d1", func := "cento/centolaw16.InternKids", spec := "internKids", unfollowed := true, recurses := true, loops := true, apart := false, narrowed := true }
def InternKidsUptoSaid : Prop := internKidsUptoRow.holds Try.pinned (OpenSpec.upto internKidsSpec)

/-- 'centolaw16.InternMany', WHERE WHAT IT READS IS OF BULK AT MOST 1048576: true; the input reads as it did. -/
def internManyUptoRow : OpenClaim := { program := "ytehcobkphobjiaa", sum := "5e8c7be6f9b2e131906aa8162b5ca2b9af7c7251352c1b62056ec1f589e332d1", func := "cento/centolaw16.InternMany", spec := "internMany", unfollowed := true, recurses := true, apart := false, narrowed := true }
def InternManyUptoSaid : Prop := internManyUptoRow.holds Try.pinned (OpenSpec.upto internManySpec)

/-- 'centolaw14.CopyWords', WHERE WHAT IT READS IS OF BULK AT MOST 1048576: true; the input reads as it did. -/
def copyWordsUptoRow : OpenClaim := { program := "ytehcobkphobjiaa", sum := "5e8c7be6f9b2e131906aa8162b5ca2b9af7c7251352c1b62056ec1f589e332d1", func := "cento/centolaw14.CopyWords", spec := "copyWords", recurses := true, apart := false, narrowed := true }
def CopyWordsUptoSaid : Prop := copyWordsUptoRow.holds Try.pinned (OpenSpec.upto copyWordsSpec)

/-- 'centolaw14.CopyEnds', WHERE WHAT IT READS IS OF BULK AT MOST 1048576: true; the input reads as it did. -/
def copyEndsUptoRow : OpenClaim := { program := "ytehcobkphobjiaa", sum := "5e8c7be6f9b2e131906aa8162b5ca2b9af7c7251352c1b62056ec1f589e332d1", func := "cento/centolaw14.CopyEnds", spec := "copyEnds", recurses := true, apart := false, narrowed := true }
def CopyEndsUptoSaid : Prop := copyEndsUptoRow.holds Try.pinned (OpenSpec.upto copyEndsSpec)

/-- 'centolaw29.InapplyMessages', WHERE WHAT IT READS IS OF BULK AT MOST 1048576: true; the input reads as it did. -/
def inapplyMessagesUptoRow : OpenClaim := { program := "ytehcobkphobjiaa", sum := "5e8c7be6f9b2e131906aa8162b5ca2b9af7c7251352c1b62056ec1f589e332d1", func := "cento/centolaw29.InapplyMessages", spec := "inapplyMessages", recurses := true, loops := true, apart := false, narrowed := true }
def InapplyMessagesUptoSaid : Prop := inapplyMessagesUptoRow.holds Try.pinned (OpenSpec.upto inapplyMessagesSpec)

/-- 'centolaw19.PairPicks', WHERE WHAT IT READS IS OF BULK AT MOST 1048576: true; the input reads as it did. -/
def pairPicksUptoRow : OpenClaim := { program := "ytehcobkphobjiaa", sum := "5e8c7be6f9b2e131906aa8162b5ca2b9af7c7251352c1b62056ec1f589e332d1", func := "cento/centolaw19.PairPicks", spec := "pairPicks", unfollowed := true, recurses := true, apart := false, narrowed := true }
def PairPicksUptoSaid : Prop := pairPicksUptoRow.holds Try.pinned (OpenSpec.upto pairPicksSpec)

/-- 'centolaw19.PairRises', WHERE WHAT IT READS IS OF BULK AT MOST 1048576: true; the input reads as it did. -/
def pairRisesUptoRow : OpenClaim := { program := "ytehcobkphobjiaa", sum := "5e8c7be6f9b2e131906aa8162b5ca2b9af7c7251352c1b62056ec1f589e332d1", func := "cento/centolaw19.PairRises", spec := "pairRises", unfollowed := true, recurses := true, apart := false, narrowed := true }
def PairRisesUptoSaid : Prop := pairRisesUptoRow.holds Try.pinned (OpenSpec.upto pairRisesSpec)

/-- 'centolaw19.PairScores', WHERE WHAT IT READS IS OF BULK AT MOST 1048576: true; the input reads as it did. -/
def pairScoresUptoRow : OpenClaim := { program := "ytehcobkphobjiaa", sum := "5e8c7be6f9b2e131906aa8162b5ca2b9af7c7251352c1b62056ec1f589e332d1", func := "cento/centolaw19.PairScores", spec := "pairScores", unfollowed := true, recurses := true, loops := true, apart := false, narrowed := true }
def PairScoresUptoSaid : Prop := pairScoresUptoRow.holds Try.pinned (OpenSpec.upto pairScoresSpec)

end Rows
end Go.Proofs.Ytehcobkphobjiaa
