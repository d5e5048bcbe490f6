/-
  The statement Rows.TextDeepCardSaid: whatever the arguments, the law centolaw08.TextDeep answers true, and its arguments read as they did; the listed tables are tied to the program's text. There are no conditions.
  The frame is a template filled by a program of ours (law4.py); the walk is said_textDeep in KTb.
-/
import Derived.Test.YtgimfagpolbelaaDoorTie
import Derived.Test.YtgimfagpolbelaaDoorCards
import Derived.Test.YtgimfagpolbelaaDoorKTb
import Derived.WalkKit
import Derived.ProofKit
import Derived.OpenShut
import Derived.LaidMore
import Derived.Lay
import Derived.SevenTiedAt
import Derived.Stop.Joined
namespace Go.Proofs.YtgimfagpolbelaaDoor.textDeep
set_option linter.unusedVariables false
open Go.ChangeShapes Go.WideShapes Go.ChangeAt Go.RowKit Go.G

theorem own : ownKnob Tryd.prog.godebug = none := by kernel_rfl
theorem laidOut : laidOutB Tryd.prog = true := by kernel_rfl

set_option maxRecDepth 100000 in
theorem tabs {W : World} (h : laidMetH Tryd.prog Rows.textDeepRow.laid W) : Tabs Tryd.prog W (Old W) := by
  rw [MakeChecks.laidMetH_plain _ _ _ (by kernel_rfl)] at h
  have h : laidMet Tryd.prog [("math/bits.deBruijn32tab", Lib.tabData .u8 tab32), ("math/bits.deBruijn64tab", Lib.tabData .u8 tab64), ("internal/strconv.uint64pow10", Lib.tabData .u64 tab10)] W := h
  have hs := h
  have k0 := Lib.tabIs_of_head (k := .u8) (zs := tab32) (show Tryd.prog.globalNamed "math/bits.deBruijn32tab" = some 2 by kernel_rfl) (show (Tryd.prog.globals[2]?).map (·.type) = some 99 by kernel_rfl) (show Tryd.prog.underlying 99 = some (.array 32 5) by kernel_rfl) (show Tryd.prog.underlying 5 = some (.int .u8) by kernel_rfl) (by kernel_rfl) (by kernel_rfl) hs
  replace hs := laidMet.tail hs
  have k1 := Lib.tabIs_of_head (k := .u8) (zs := tab64) (show Tryd.prog.globalNamed "math/bits.deBruijn64tab" = some 3 by kernel_rfl) (show (Tryd.prog.globals[3]?).map (·.type) = some 100 by kernel_rfl) (show Tryd.prog.underlying 100 = some (.array 64 5) by kernel_rfl) (show Tryd.prog.underlying 5 = some (.int .u8) by kernel_rfl) (by kernel_rfl) (by kernel_rfl) hs
  replace hs := laidMet.tail hs
  have k2 := Lib.tabIs_of_head (k := .u64) (zs := tab10) (show Tryd.prog.globalNamed "internal/strconv.uint64pow10" = some 0 by kernel_rfl) (show (Tryd.prog.globals[0]?).map (·.type) = some 91 by kernel_rfl) (show Tryd.prog.underlying 91 = some (.array 20 40) by kernel_rfl) (show Tryd.prog.underlying 40 = some (.int .u64) by kernel_rfl) (by kernel_rfl) (by kernel_rfl) hs
  refine tabs_of [("math/bits.deBruijn32tab", 2, .u8, tab32), ("math/bits.deBruijn64tab", 3, .u8, tab64), ("internal/strconv.uint64pow10", 0, .u64, tab10)] (by kernel_rfl) fun x hx => ?_
  simp only [List.mem_cons, List.not_mem_nil, or_false] at hx
  rcases hx with rfl | rfl | rfl
  · exact ⟨by kernel_rfl, by decide, k0⟩
  · exact ⟨by kernel_rfl, by decide, k1⟩
  · exact ⟨by kernel_rfl, by decide, k2⟩

set_option maxRecDepth 100000 in
theorem lifted (os : Os) (started : os.Started) (H : Type) (enc : TypeId × Value → H) :
    ReturnsInHanded {} Tryd.checked os 5 .any (fun w args => (Rows.textDeepSpec.pre enc Tryd.prog Tryd.f5 Rows.textDeepRow.domain false w args ∧ laidMetH Tryd.prog Rows.textDeepRow.laid w) ∧ sizedMet enc Tryd.prog Tryd.f5 (OpenSpec.ofChange Rows.textDeepSpec) false w args)
      (Rows.textDeepSpec.post enc Tryd.prog Tryd.f5 false true false false) := by
  refine returnsInHanded_of_change_and (C := Tryd.checked) (X := fun w _ => laidMetH Tryd.prog Rows.textDeepRow.laid w) (fun _ _ _ hh h => h.of_heap hh) own started (by kernel_rfl) Tryd.func5
    (ChangeSpec.witness_shaped (enc := enc) (C := Tryd.checked) (os := os) (X := fun w _ => laidMetH Tryd.prog Rows.textDeepRow.laid w) false (World.laidAll Tryd.prog os Rows.textDeepRow.laid) #[Value.int IntKind.i64 0] 8 (World.laidAll_os _ _ _)
      (World.shaped_of_ZipB (by kernel_rfl) (by kernel_rfl)) (by kernel_rfl) (by kernel_rfl) (by kernel_rfl)
      (by rw [MakeChecks.laidMetH_plain _ _ _ (by kernel_rfl)]; exact laidMet_laidAll _ (by kernel_rfl) (by kernel_rfl))) ?_
  intro W base args ds gs before hval hW hcnd hwt hL _
  exact law_calls [3] laidOut (by kernel_rfl) (by kernel_rfl) (by kernel_rfl) rfl rfl Tryd.underlying4 (fun ds h => match ds, h with | [_], _ => rfl) said_textDeep (tabs hL) hval hW hwt

theorem over : Rows.textDeepRow.holds Tryd.pinned (OpenSpec.ofChange Rows.textDeepSpec) :=
  OpenClaim.holds_of_wide 5 Tryd.f5 rfl rfl rfl rfl rfl rfl rfl ⟨rfl, rfl, rfl, rfl, rfl⟩ rfl rfl rfl rfl rfl (by kernel_rfl) Tryd.func5 (by kernel_rfl)
    (of_decide_eq_true (by kernel_rfl)) (by unfold Func.isWrapper; first | (rw [if_pos (by decide +kernel)]; kernel_rfl) | (rw [if_neg (by decide +kernel)]; exact ⟨rfl, rfl⟩))
    (fun os started H enc _ => lifted os started H enc)

/-- The statement: the tied card. -/
theorem proved : Rows.TextDeepCardSaid :=
  Claim7.holds_tied_plain_at .later [] [.data, .data, .data] true (true, "ba8d7b95c5afd1884f5b002ccd85838bde8f51228ef36478f2c161980b2abf30") false
    over (fun _ h => by cases h) (by kernel_rfl) (fun _ h => by cases h) textDeep_row_tie rfl ⟨rfl, rfl⟩ (by kernel_rfl) rfl
    (fun f fn hf hfn => by
      obtain rfl : f = 5 := Option.some.inj ((show Tryd.prog.funcNamed "cento/centolaw08.TextDeep" = some 5 by kernel_rfl).symm.trans hf) |>.symm
      obtain rfl : fn = Tryd.f5 := (Option.some.inj (Tryd.func5.symm.trans hfn)).symm
      exact ⟨by kernel_rfl, fun j t ht => by
        rw [Tryd.params5] at ht
        have hm : t ∈ [3] := by simpa using Array.mem_of_getElem? ht
        have hall : ([3].all fun u => !Tryd.prog.wantsStandIn u) = true := by kernel_rfl
        exact (show Tryd.prog.wantsStandIn t = false by simpa using List.all_eq_true.1 hall t hm)⟩)
    (by kernel_rfl)
end Go.Proofs.YtgimfagpolbelaaDoor.textDeep
