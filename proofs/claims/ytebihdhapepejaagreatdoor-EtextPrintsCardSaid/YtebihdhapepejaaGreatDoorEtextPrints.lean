/-
  The statement Rows.EtextPrintsCardSaid: whatever the arguments, the law centolaw38.EtextPrints answers true, and its arguments read as they did; the listed tables are tied to the program's text. There are no conditions.
  The frame is a template filled by a program of ours (law4.py); the walk is said_etextPrints in KCg.
-/
import Derived.Test.YtebihdhapepejaaGreatDoorTie
import Derived.Test.YtebihdhapepejaaGreatDoorCards
import Derived.Test.YtebihdhapepejaaGreatDoorKCg
import Derived.WalkKit
import Derived.ProofKit
import Derived.OpenShut
import Derived.LaidMore
import Derived.Lay
import Derived.SevenTiedAt
import Derived.Stop.Joined
namespace Go.Proofs.YtebihdhapepejaaGreatDoor.etextPrints
set_option linter.unusedVariables false
open Go.ChangeShapes Go.WideShapes Go.ChangeAt Go.RowKit Go.G

theorem own : ownKnob Tryz.prog.godebug = none := by kernel_rfl
theorem laidOut : laidOutB Tryz.prog = true := by kernel_rfl
theorem star : "*" ++ "errors.errorString" = "*errors.errorString" := by decide
theorem rowErr (u : TypeId) (h : Tryz.prog.typeName? 3 u = some "*errors.errorString") : u = 177 := typeName_ptr_named (nm := "errors.errorString") (by rw [star]; kernel_rfl) (by kernel_rfl) (by decide) u (by rw [star]; exact h)
set_option maxRecDepth 100000 in
theorem tabs {W : World} (h : laidMetH Tryz.prog Rows.etextPrintsRow.laid W) : Tabs Tryz.prog W (Old W) := by
  rw [MakeChecks.laidMetH_plain _ _ _ (by kernel_rfl)] at h
  have h : laidMet Tryz.prog [("math/bits.deBruijn32tab", Lib.tabData .u8 tab32), ("math/bits.deBruijn64tab", Lib.tabData .u8 tab64), ("internal/strconv.uint64pow10", Lib.tabData .u64 tab10), ("strconv.ErrRange", .iface "*errors.errorString" (.ptr (.agg [.lit (.string [118, 97, 108, 117, 101, 32, 111, 117, 116, 32, 111, 102, 32, 114, 97, 110, 103, 101])]))), ("strconv.ErrSyntax", .iface "*errors.errorString" (.ptr (.agg [.lit (.string [105, 110, 118, 97, 108, 105, 100, 32, 115, 121, 110, 116, 97, 120])])))] W := h
  have hs := h
  have k0 := Lib.tabIs_of_head (k := .u8) (zs := tab32) (show Tryz.prog.globalNamed "math/bits.deBruijn32tab" = some 2 by kernel_rfl) (show (Tryz.prog.globals[2]?).map (·.type) = some 160 by kernel_rfl) (show Tryz.prog.underlying 160 = some (.array 32 5) by kernel_rfl) (show Tryz.prog.underlying 5 = some (.int .u8) by kernel_rfl) (by kernel_rfl) (by kernel_rfl) hs
  replace hs := laidMet.tail hs
  have k1 := Lib.tabIs_of_head (k := .u8) (zs := tab64) (show Tryz.prog.globalNamed "math/bits.deBruijn64tab" = some 3 by kernel_rfl) (show (Tryz.prog.globals[3]?).map (·.type) = some 161 by kernel_rfl) (show Tryz.prog.underlying 161 = some (.array 64 5) by kernel_rfl) (show Tryz.prog.underlying 5 = some (.int .u8) by kernel_rfl) (by kernel_rfl) (by kernel_rfl) hs
  replace hs := laidMet.tail hs
  have k2 := Lib.tabIs_of_head (k := .u64) (zs := tab10) (show Tryz.prog.globalNamed "internal/strconv.uint64pow10" = some 1 by kernel_rfl) (show (Tryz.prog.globals[1]?).map (·.type) = some 137 by kernel_rfl) (show Tryz.prog.underlying 137 = some (.array 20 45) by kernel_rfl) (show Tryz.prog.underlying 45 = some (.int .u64) by kernel_rfl) (by kernel_rfl) (by kernel_rfl) hs
  replace hs := laidMet.tail hs
  obtain ⟨a3, s3, k3, _⟩ := laid_sentinel hs (show Tryz.prog.globalNamed "strconv.ErrRange" = some 5 by kernel_rfl) (show (Tryz.prog.globals[5]?).map (·.type) = some 75 by kernel_rfl) Tryz.underlying75 rowErr Tryz.underlying177 Tryz.underlying179 rfl rfl Tryz.underlying9 (by kernel_rfl) (by kernel_rfl)
  replace hs := laidMet.tail hs
  obtain ⟨a4, s4, k4, _⟩ := laid_sentinel hs (show Tryz.prog.globalNamed "strconv.ErrSyntax" = some 4 by kernel_rfl) (show (Tryz.prog.globals[4]?).map (·.type) = some 75 by kernel_rfl) Tryz.underlying75 rowErr Tryz.underlying177 Tryz.underlying179 rfl rfl Tryz.underlying9 (by kernel_rfl) (by kernel_rfl)
  refine tabs_of [("math/bits.deBruijn32tab", 2, .u8, tab32), ("math/bits.deBruijn64tab", 3, .u8, tab64), ("internal/strconv.uint64pow10", 1, .u64, tab10)] [("strconv.ErrRange", 5), ("strconv.ErrSyntax", 4)] (by kernel_rfl) (by kernel_rfl) (fun x hx => ?_) (fun x hx => ?_)
  · simp only [List.mem_cons, List.not_mem_nil, or_false] at hx
    rcases hx with rfl | rfl | rfl
    · exact ⟨by kernel_rfl, by decide, k0⟩
    · exact ⟨by kernel_rfl, by decide, k1⟩
    · exact ⟨by kernel_rfl, by decide, k2⟩
  · simp only [List.mem_cons, List.not_mem_nil, or_false] at hx
    rcases hx with rfl | rfl
    · exact iface_of_var (show Tryz.prog.globalNamed "strconv.ErrRange" = some 5 by kernel_rfl) k3
    · exact iface_of_var (show Tryz.prog.globalNamed "strconv.ErrSyntax" = some 4 by kernel_rfl) k4

set_option maxRecDepth 100000 in
theorem lifted (os : Os) (started : os.Started) (H : Type) (enc : TypeId × Value → H) :
    ReturnsInHanded {} Tryz.checked os 3 .any (fun w args => (Rows.etextPrintsSpec.pre enc Tryz.prog Tryz.f3 Rows.etextPrintsRow.domain false w args ∧ laidMetH Tryz.prog Rows.etextPrintsRow.laid w) ∧ sizedMet enc Tryz.prog Tryz.f3 (OpenSpec.ofChange Rows.etextPrintsSpec) false w args)
      (Rows.etextPrintsSpec.post enc Tryz.prog Tryz.f3 false true false false) := by
  refine returnsInHanded_of_change_and (C := Tryz.checked) (X := fun w _ => laidMetH Tryz.prog Rows.etextPrintsRow.laid w) (fun _ _ _ hh h => h.of_heap hh) own started (by kernel_rfl) Tryz.func3
    (ChangeSpec.witness_shaped (enc := enc) (C := Tryz.checked) (os := os) (X := fun w _ => laidMetH Tryz.prog Rows.etextPrintsRow.laid w) false (World.laidAll Tryz.prog os Rows.etextPrintsRow.laid) #[Value.agg #[Value.int IntKind.i64 0, Value.int IntKind.i64 0, Value.slice none 0 0, Value.slice none 0 0, Value.int IntKind.i64 0, Value.slice none 0 0, Value.slice none 0 0, Value.slice none 0 0, Value.slice none 0 0, Value.int IntKind.i64 0, Value.slice none 0 0]] 8 (World.laidAll_os _ _ _)
      (World.shaped_of_ZipB (by kernel_rfl) (by kernel_rfl)) (by kernel_rfl) (by kernel_rfl) (by kernel_rfl)
      (by rw [MakeChecks.laidMetH_plain _ _ _ (by kernel_rfl)]; exact laidMet_laidAll _ (by kernel_rfl) (by kernel_rfl))) ?_
  intro W base args ds gs before hval hW hcnd hwt hL _
  exact law_calls [30, 3, 25, 26, 27, 28, 22, 23, 47, 50, 53, 45, 5] laidOut (by kernel_rfl) (by kernel_rfl) (by kernel_rfl) rfl rfl Tryz.underlying4 (fun ds h => match ds, h with | [_], _ => rfl) said_etextPrints (tabs hL) hval hW hwt

theorem over : Rows.etextPrintsRow.holds Tryz.pinned (OpenSpec.ofChange Rows.etextPrintsSpec) :=
  OpenClaim.holds_of_wide 3 Tryz.f3 rfl rfl rfl rfl rfl rfl rfl ⟨rfl, rfl, rfl, rfl, rfl⟩ rfl rfl rfl rfl rfl (by kernel_rfl) Tryz.func3 (by kernel_rfl)
    (of_decide_eq_true (by kernel_rfl)) (by unfold Func.isWrapper; first | (rw [if_pos (by decide +kernel)]; kernel_rfl) | (rw [if_neg (by decide +kernel)]; exact ⟨rfl, rfl⟩))
    (fun os started H enc _ => lifted os started H enc)

/-- The statement: the tied card. -/
theorem proved : Rows.EtextPrintsCardSaid :=
  Claim7.holds_tied_plain_at .later [] [.data, .data, .data, .sentinel, .sentinel] true (true, "8f86e0af35a576388b8d96177e22bc4e749f8a5bf4065c2a4ae817823a479bd2") true
    over (fun _ h => by cases h) (by kernel_rfl) (fun _ h => by cases h) etextPrints_row_tie rfl ⟨rfl, rfl⟩ (by kernel_rfl) rfl
    (fun f fn hf hfn => by
      obtain rfl : f = 3 := Option.some.inj ((show Tryz.prog.funcNamed "cento/centolaw38.EtextPrints" = some 3 by kernel_rfl).symm.trans hf) |>.symm
      obtain rfl : fn = Tryz.f3 := (Option.some.inj (Tryz.func3.symm.trans hfn)).symm
      exact ⟨by kernel_rfl, fun j t ht => by
        rw [Tryz.params3] at ht
        have hm : t ∈ [30] := by simpa using Array.mem_of_getElem? ht
        have hall : ([30].all fun u => !Tryz.prog.wantsStandIn u) = true := by kernel_rfl
        exact (show Tryz.prog.wantsStandIn t = false by simpa using List.all_eq_true.1 hall t hm)⟩)
    (by kernel_rfl)
end Go.Proofs.YtebihdhapepejaaGreatDoor.etextPrints
