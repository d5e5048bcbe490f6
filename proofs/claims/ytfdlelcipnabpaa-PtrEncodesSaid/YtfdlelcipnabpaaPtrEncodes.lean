/-
  The statement Rows.PtrEncodesSaid: whatever the arguments, the law centolaw04.PtrEncodes answers true, and its arguments read as they did. There are no conditions.
  The frame is a template filled by a program of ours (law.py); the walk is said_ptrEncodes in L04.
-/
import Derived.Test.YtfdlelcipnabpaaRows
import Derived.Test.YtfdlelcipnabpaaL04
import Derived.Test.YtfdlelcipnabpaaAbLaw
import Derived.WalkKit
import Derived.ProofKit
import Derived.OpenShut
namespace Go.Proofs.Ytfdlelcipnabpaa.ptrEncodes
set_option linter.unusedVariables false
open Go.ChangeShapes Go.WideShapes Go.ChangeAt Go.RowKit Go.Ab

theorem own : ownKnob Try.prog.godebug = none := by kernel_rfl
theorem laid : laidOutB Try.prog = true := by kernel_rfl

set_option maxRecDepth 100000 in
theorem lifted (os : Os) (started : os.Started) (H : Type) (enc : TypeId × Value → H) :
    ReturnsInHanded {} Try.checked os 4 .any (Rows.ptrEncodesSpec.pre6 enc Try.prog Try.f4 Rows.ptrEncodesRow.domain false) (Rows.ptrEncodesSpec.post enc Try.prog Try.f4 false true false false) := by
  refine returnsInHanded_of_change (C := Try.checked) own started (by kernel_rfl) Try.func4
    (ChangeSpec.witness6 (enc := enc) (C := Try.checked) false ⟨#[], #[Value.agg #[Value.int IntKind.i64 0, Value.int IntKind.i64 0, Value.int IntKind.i64 0, Value.int IntKind.i64 0, Value.int IntKind.i64 0, Value.int IntKind.i64 0, Value.int IntKind.i64 0, Value.bool false]], []⟩ 8 (by kernel_rfl) (by kernel_rfl) (by kernel_rfl) (by kernel_rfl)) ?_
  intro W base args ds gs before hval hW hcnd _
  exact law_calls [27, 3, 4] laid (by kernel_rfl) (by kernel_rfl) (by kernel_rfl) rfl rfl Try.underlying4 (fun ds h => match ds, h with | [_], _ => rfl) said_ptrEncodes hval hW

theorem over : Rows.ptrEncodesRow.holds Try.pinned (OpenSpec.ofChange Rows.ptrEncodesSpec) :=
  OpenClaim.holds_of_wide 4 Try.f4 rfl rfl rfl rfl rfl rfl rfl ⟨rfl, rfl, rfl, rfl, rfl⟩ rfl rfl rfl rfl rfl (by kernel_rfl) Try.func4 (by kernel_rfl)
    (of_decide_eq_true (by kernel_rfl)) (by unfold Func.isWrapper; first | (rw [if_pos (by decide +kernel)]; kernel_rfl) | (rw [if_neg (by decide +kernel)]; exact ⟨rfl, rfl⟩))
    (fun os started H enc _ => lifted os started H enc)

/-- The statement. -/
theorem proved : Rows.PtrEncodesSaid :=
  over
end Go.Proofs.Ytfdlelcipnabpaa.ptrEncodes
