/-
  The statement Rows.InternNoneSaid: whatever the arguments, the law centolaw16.InternNone answers true, and its arguments read as they did. There are no conditions.
  The frame is a template filled by a program of ours (law.py); the walk is said_internNone in M16.
-/
import Derived.Test.YtigdcnlhgelkaaaRows
import Derived.Test.YtigdcnlhgelkaaaM16
import Derived.Test.YtigdcnlhgelkaaaGLaw
import Derived.WalkKit
import Derived.ProofKit
import Derived.OpenShut
import Derived.SizedLaws
namespace Go.Proofs.Ytigdcnlhgelkaaa.internNone
set_option linter.unusedVariables false
open Go.ChangeShapes Go.WideShapes Go.ChangeAt Go.RowKit Go.G

theorem own : ownKnob Try.prog.godebug = none := by kernel_rfl
theorem laid : laidOutB Try.prog = true := by kernel_rfl

set_option maxRecDepth 100000 in
theorem lifted (os : Os) (started : os.Started) (H : Type) (enc : TypeId × Value → H) :
    ReturnsInHanded {} Try.checked os 9 .any (Rows.internNoneSpec.pre6 enc Try.prog Try.f9 Rows.internNoneRow.domain false) (Rows.internNoneSpec.post enc Try.prog Try.f9 false true false false) := by
  refine returnsInHanded_of_change_sized (C := Try.checked) own started (by kernel_rfl) Try.func9
    (ChangeSpec.witness6 (enc := enc) (C := Try.checked) false ⟨#[], #[Value.int IntKind.u64 0], []⟩ 8 (by kernel_rfl) (by kernel_rfl) (by kernel_rfl) (by kernel_rfl)) ?_
  intro W base args ds gs before hval hW hcnd hwt _
  exact law_calls [45] laid (by kernel_rfl) (by kernel_rfl) (by kernel_rfl) rfl rfl Try.underlying4 (fun ds h => match ds, h with | [_], _ => rfl) said_internNone hval hW hwt

theorem over : Rows.internNoneRow.holds Try.pinned (OpenSpec.ofChange Rows.internNoneSpec) :=
  OpenClaim.holds_of_wide 9 Try.f9 rfl rfl rfl rfl rfl rfl rfl ⟨rfl, rfl, rfl, rfl, rfl⟩ rfl rfl rfl rfl rfl (by kernel_rfl) Try.func9 (by kernel_rfl)
    (of_decide_eq_true (by kernel_rfl)) (by unfold Func.isWrapper; first | (rw [if_pos (by decide +kernel)]; kernel_rfl) | (rw [if_neg (by decide +kernel)]; exact ⟨rfl, rfl⟩))
    (fun os started H enc _ => lifted os started H enc)

/-- The statement. -/
theorem proved : Rows.InternNoneSaid :=
  over
end Go.Proofs.Ytigdcnlhgelkaaa.internNone
