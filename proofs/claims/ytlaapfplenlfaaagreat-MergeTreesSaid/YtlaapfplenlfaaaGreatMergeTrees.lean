/-
  The statement Rows.MergeTreesSaid: whatever the arguments, the law centolaw32.MergeTrees answers true, and its arguments read as they did. There are no conditions.
  The frame is a template filled by a program of ours (law.py); the walk is said_mergeTrees in KRh.
-/
import Derived.Test.YtlaapfplenlfaaaGreatRows
import Derived.Test.YtlaapfplenlfaaaGreatKRh
import Derived.WalkKit
import Derived.ProofKit
import Derived.OpenShut
import Derived.SizedLaws
namespace Go.Proofs.YtlaapfplenlfaaaGreat.mergeTrees
set_option linter.unusedVariables false
open Go.ChangeShapes Go.WideShapes Go.ChangeAt Go.RowKit Go.G

theorem own : ownKnob Tryz.prog.godebug = none := by kernel_rfl
theorem laid : laidOutB Tryz.prog = true := by kernel_rfl

def offTabs (P : Program) : Bool := P.globals.all fun x => (knownTab x.name).isNone
theorem tabs_off {P : Program} (h : offTabs P = true) (w : World) (I : Nat → Prop) : Tabs P w I := fun g q hq => by
  unfold gtab at hq
  simp only [Option.bind_eq_some_iff] at hq
  obtain ⟨x, h1, h2⟩ := hq
  unfold offTabs at h
  rw [Array.all_eq_true_iff_forall_mem] at h
  have := h x (Array.mem_of_getElem? h1)
  rw [h2] at this
  cases this

set_option maxRecDepth 100000 in
theorem lifted (os : Os) (started : os.Started) (H : Type) (enc : TypeId × Value → H) :
    ReturnsInHanded {} Tryz.checked os 4 .any (Rows.mergeTreesSpec.pre6 enc Tryz.prog Tryz.f4 Rows.mergeTreesRow.domain false) (Rows.mergeTreesSpec.post enc Tryz.prog Tryz.f4 false true false false) := by
  refine returnsInHanded_of_change_sized (C := Tryz.checked) own started (by kernel_rfl) Tryz.func4
    (ChangeSpec.witness6 (enc := enc) (C := Tryz.checked) false ⟨#[], #[Value.agg #[Value.int IntKind.i64 0, Value.slice none 0 0, Value.slice none 0 0], Value.agg #[Value.int IntKind.i64 0, Value.slice none 0 0, Value.slice none 0 0], Value.agg #[Value.int IntKind.i64 0, Value.slice none 0 0, Value.slice none 0 0], Value.int IntKind.i64 0], []⟩ 8 (by kernel_rfl) (by kernel_rfl) (by kernel_rfl) (by kernel_rfl)) ?_
  intro W base args ds gs before hval hW hcnd hwt _
  exact law_calls [25, 3, 22, 23, 61] laid (by kernel_rfl) (by kernel_rfl) (by kernel_rfl) rfl rfl Tryz.underlying4 (fun ds h => match ds, h with | [_, _, _, _], _ => rfl) said_mergeTrees (tabs_off (by kernel_rfl) _ _) hval hW hwt

theorem over : Rows.mergeTreesRow.holds Tryz.pinned (OpenSpec.ofChange Rows.mergeTreesSpec) :=
  OpenClaim.holds_of_wide 4 Tryz.f4 rfl rfl rfl rfl rfl rfl rfl ⟨rfl, rfl, rfl, rfl, rfl⟩ rfl rfl rfl rfl rfl (by kernel_rfl) Tryz.func4 (by kernel_rfl)
    (of_decide_eq_true (by kernel_rfl)) (by unfold Func.isWrapper; first | (rw [if_pos (by decide +kernel)]; kernel_rfl) | (rw [if_neg (by decide +kernel)]; exact ⟨rfl, rfl⟩))
    (fun os started H enc _ => lifted os started H enc)

/-- The statement. -/
theorem proved : Rows.MergeTreesSaid :=
  over
end Go.Proofs.YtlaapfplenlfaaaGreat.mergeTrees
