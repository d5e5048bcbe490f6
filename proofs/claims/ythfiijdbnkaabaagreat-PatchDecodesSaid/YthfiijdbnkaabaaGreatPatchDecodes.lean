/-
  The statement Rows.PatchDecodesSaid: whatever the arguments, the law centolaw27.PatchDecodes answers true, and its arguments read as they did. There are no conditions.
  The frame is a template filled by a program of ours (law.py); the walk is said_patchDecodes in KYg.
-/
import Derived.Test.YthfiijdbnkaabaaGreatRows
import Derived.Test.YthfiijdbnkaabaaGreatKYg
import Derived.WalkKit
import Derived.ProofKit
import Derived.OpenShut
import Derived.SizedLaws
namespace Go.Proofs.YthfiijdbnkaabaaGreat.patchDecodes
set_option linter.unusedVariables false
open Go.ChangeShapes Go.WideShapes Go.ChangeAt Go.RowKit Go.G

theorem own : ownKnob Tryz.prog.godebug = none := by kernel_rfl
theorem laid : laidOutB Tryz.prog = true := by kernel_rfl

set_option maxRecDepth 100000 in
theorem lifted (os : Os) (started : os.Started) (H : Type) (enc : TypeId × Value → H) :
    ReturnsInHanded {} Tryz.checked os 7 .any (Rows.patchDecodesSpec.pre6 enc Tryz.prog Tryz.f7 Rows.patchDecodesRow.domain false) (Rows.patchDecodesSpec.post enc Tryz.prog Tryz.f7 false true false false) := by
  refine returnsInHanded_of_change_sized (C := Tryz.checked) own started (by kernel_rfl) Tryz.func7
    (ChangeSpec.witness6 (enc := enc) (C := Tryz.checked) false ⟨#[], #[Value.slice none 0 0], []⟩ 8 (by kernel_rfl) (by kernel_rfl) (by kernel_rfl) (by kernel_rfl)) ?_
  intro W base args ds gs before hval hW hcnd hwt _
  exact law_calls [22, 60] laid (by kernel_rfl) (by kernel_rfl) (by kernel_rfl) rfl rfl Tryz.underlying4 (fun ds h => match ds, h with | [_], _ => rfl) said_patchDecodes hval hW hwt

theorem over : Rows.patchDecodesRow.holds Tryz.pinned (OpenSpec.ofChange Rows.patchDecodesSpec) :=
  OpenClaim.holds_of_wide 7 Tryz.f7 rfl rfl rfl rfl rfl rfl rfl ⟨rfl, rfl, rfl, rfl, rfl⟩ rfl rfl rfl rfl rfl (by kernel_rfl) Tryz.func7 (by kernel_rfl)
    (of_decide_eq_true (by kernel_rfl)) (by unfold Func.isWrapper; first | (rw [if_pos (by decide +kernel)]; kernel_rfl) | (rw [if_neg (by decide +kernel)]; exact ⟨rfl, rfl⟩))
    (fun os started H enc _ => lifted os started H enc)

/-- The statement. -/
theorem proved : Rows.PatchDecodesSaid :=
  over
end Go.Proofs.YthfiijdbnkaabaaGreat.patchDecodes
