/-
  The statement Rows.PairScoresSaid: whatever the arguments, the law centolaw19.PairScores answers true, and its arguments read as they did. There are no conditions.
  The frame is a template filled by a program of ours (law.py); the walk is said_pairScores in KPc.
-/
import Derived.Test.YtmeldaflhkiopaaRows
import Derived.Test.YtmeldaflhkiopaaKPc
import Derived.Test.YtmeldaflhkiopaaGLaw
import Derived.WalkKit
import Derived.ProofKit
import Derived.OpenShut
import Derived.SizedLaws
namespace Go.Proofs.Ytmeldaflhkiopaa.pairScores
set_option linter.unusedVariables false
open Go.ChangeShapes Go.WideShapes Go.ChangeAt Go.RowKit Go.G

theorem own : ownKnob Try.prog.godebug = none := by kernel_rfl
theorem laid : laidOutB Try.prog = true := by kernel_rfl

set_option maxRecDepth 100000 in
theorem lifted (os : Os) (started : os.Started) (H : Type) (enc : TypeId × Value → H) :
    ReturnsInHanded {} Try.checked os 5 .any (Rows.pairScoresSpec.pre6 enc Try.prog Try.f5 Rows.pairScoresRow.domain false) (Rows.pairScoresSpec.post enc Try.prog Try.f5 false true false false) := by
  refine returnsInHanded_of_change_sized (C := Try.checked) own started (by kernel_rfl) Try.func5
    (ChangeSpec.witness6 (enc := enc) (C := Try.checked) false ⟨#[], #[Value.agg #[Value.int IntKind.i64 0, Value.slice none 0 0, Value.slice none 0 0], Value.agg #[Value.int IntKind.i64 0, Value.slice none 0 0, Value.slice none 0 0]], []⟩ 8 (by kernel_rfl) (by kernel_rfl) (by kernel_rfl) (by kernel_rfl)) ?_
  intro W base args ds gs before hval hW hcnd hwt _
  exact law_calls [36, 3, 33, 34, 68] laid (by kernel_rfl) (by kernel_rfl) (by kernel_rfl) rfl rfl Try.underlying4 (fun ds h => match ds, h with | [_, _], _ => rfl) said_pairScores (tabs_none (by kernel_rfl) _ _) hval hW hwt

theorem over : Rows.pairScoresRow.holds Try.pinned (OpenSpec.ofChange Rows.pairScoresSpec) :=
  OpenClaim.holds_of_wide 5 Try.f5 rfl rfl rfl rfl rfl rfl rfl ⟨rfl, rfl, rfl, rfl, rfl⟩ rfl rfl rfl rfl rfl (by kernel_rfl) Try.func5 (by kernel_rfl)
    (of_decide_eq_true (by kernel_rfl)) (by unfold Func.isWrapper; first | (rw [if_pos (by decide +kernel)]; kernel_rfl) | (rw [if_neg (by decide +kernel)]; exact ⟨rfl, rfl⟩))
    (fun os started H enc _ => lifted os started H enc)

/-- The statement. -/
theorem proved : Rows.PairScoresSaid :=
  over
end Go.Proofs.Ytmeldaflhkiopaa.pairScores
