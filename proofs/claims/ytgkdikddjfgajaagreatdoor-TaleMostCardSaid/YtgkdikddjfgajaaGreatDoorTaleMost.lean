/-
  The statement Rows.TaleMostCardSaid: whatever the arguments, the law centolaw45.TaleMost answers true, and its arguments read as they did; the listed tables are tied to the program's text. There are no conditions.
  The frame is a template filled by a program of ours (law4.py); the walk is said_taleMost in KMg.
-/
import Derived.Test.YtgkdikddjfgajaaGreatDoorTie
import Derived.Test.YtgkdikddjfgajaaGreatDoorCards
import Derived.Test.YtgkdikddjfgajaaGreatDoorKMg
import Derived.WalkKit
import Derived.ProofKit
import Derived.OpenShut
import Derived.LaidMore
import Derived.Lay
import Derived.SevenTiedAt
import Derived.Stop.Joined
namespace Go.Proofs.YtgkdikddjfgajaaGreatDoor.taleMost
set_option linter.unusedVariables false
open Go.ChangeShapes Go.WideShapes Go.ChangeAt Go.RowKit Go.G

theorem own : ownKnob Tryz.prog.godebug = none := by kernel_rfl
theorem laidOut : laidOutB Tryz.prog = true := by kernel_rfl
theorem star : "*" ++ "errors.errorString" = "*errors.errorString" := by decide
theorem rowErr (u : TypeId) (h : Tryz.prog.typeName? 3 u = some "*errors.errorString") : u = 275 := typeName_ptr_named (nm := "errors.errorString") (by rw [star]; kernel_rfl) (by kernel_rfl) (by decide) u (by rw [star]; exact h)
set_option maxRecDepth 100000 in
theorem tabs {W : World} (h : laidMetH Tryz.prog Rows.taleMostRow.laid W) : Tabs Tryz.prog W (Old W) := by
  rw [MakeChecks.laidMetH_plain _ _ _ (by kernel_rfl)] at h
  have h : laidMet Tryz.prog [("math/bits.deBruijn32tab", Lib.tabData .u8 tab32), ("math/bits.deBruijn64tab", Lib.tabData .u8 tab64), ("internal/strconv.uint64pow10", Lib.tabData .u64 tab10), ("unicode/utf8.acceptRanges", Rows.laid_unicode_utf8_acceptRanges), ("strconv.ErrRange", .iface "*errors.errorString" (.ptr (.agg [.lit (.string [118, 97, 108, 117, 101, 32, 111, 117, 116, 32, 111, 102, 32, 114, 97, 110, 103, 101])]))), ("strconv.ErrSyntax", .iface "*errors.errorString" (.ptr (.agg [.lit (.string [105, 110, 118, 97, 108, 105, 100, 32, 115, 121, 110, 116, 97, 120])]))), ("unicode/utf8.first", Rows.laid_unicode_utf8_first)] W := h
  have hs := h
  have k0 := Lib.tabIs_of_head (k := .u8) (zs := tab32) (show Tryz.prog.globalNamed "math/bits.deBruijn32tab" = some 6 by kernel_rfl) (show (Tryz.prog.globals[6]?).map (·.type) = some 312 by kernel_rfl) (show Tryz.prog.underlying 312 = some (.array 32 5) by kernel_rfl) (show Tryz.prog.underlying 5 = some (.int .u8) by kernel_rfl) (by kernel_rfl) (by kernel_rfl) hs
  replace hs := laidMet.tail hs
  have k1 := Lib.tabIs_of_head (k := .u8) (zs := tab64) (show Tryz.prog.globalNamed "math/bits.deBruijn64tab" = some 7 by kernel_rfl) (show (Tryz.prog.globals[7]?).map (·.type) = some 313 by kernel_rfl) (show Tryz.prog.underlying 313 = some (.array 64 5) by kernel_rfl) (show Tryz.prog.underlying 5 = some (.int .u8) by kernel_rfl) (by kernel_rfl) (by kernel_rfl) hs
  replace hs := laidMet.tail hs
  have k2 := Lib.tabIs_of_head (k := .u64) (zs := tab10) (show Tryz.prog.globalNamed "internal/strconv.uint64pow10" = some 5 by kernel_rfl) (show (Tryz.prog.globals[5]?).map (·.type) = some 229 by kernel_rfl) (show Tryz.prog.underlying 229 = some (.array 20 101) by kernel_rfl) (show Tryz.prog.underlying 101 = some (.int .u64) by kernel_rfl) (by kernel_rfl) (by kernel_rfl) hs
  replace hs := laidMet.tail hs
  replace hs := laidMet.tail hs
  obtain ⟨a4, s4, k4, _⟩ := laid_sentinel hs (show Tryz.prog.globalNamed "strconv.ErrRange" = some 4 by kernel_rfl) (show (Tryz.prog.globals[4]?).map (·.type) = some 44 by kernel_rfl) Tryz.underlying44 rowErr Tryz.underlying275 Tryz.underlying277 rfl rfl Tryz.underlying9 (by kernel_rfl) (by kernel_rfl)
  replace hs := laidMet.tail hs
  obtain ⟨a5, s5, k5, _⟩ := laid_sentinel hs (show Tryz.prog.globalNamed "strconv.ErrSyntax" = some 3 by kernel_rfl) (show (Tryz.prog.globals[3]?).map (·.type) = some 44 by kernel_rfl) Tryz.underlying44 rowErr Tryz.underlying275 Tryz.underlying277 rfl rfl Tryz.underlying9 (by kernel_rfl) (by kernel_rfl)
  replace hs := laidMet.tail hs
  refine tabs_of [("math/bits.deBruijn32tab", 6, .u8, tab32), ("math/bits.deBruijn64tab", 7, .u8, tab64), ("internal/strconv.uint64pow10", 5, .u64, tab10)] [("strconv.ErrRange", 4), ("strconv.ErrSyntax", 3)] (by kernel_rfl) (by kernel_rfl) (fun x hx => ?_) (fun x hx => ?_)
  · simp only [List.mem_cons, List.not_mem_nil, or_false] at hx
    rcases hx with rfl | rfl | rfl
    · exact ⟨by kernel_rfl, by decide, k0⟩
    · exact ⟨by kernel_rfl, by decide, k1⟩
    · exact ⟨by kernel_rfl, by decide, k2⟩
  · simp only [List.mem_cons, List.not_mem_nil, or_false] at hx
    rcases hx with rfl | rfl
    · exact iface_of_var (show Tryz.prog.globalNamed "strconv.ErrRange" = some 4 by kernel_rfl) k4
    · exact iface_of_var (show Tryz.prog.globalNamed "strconv.ErrSyntax" = some 3 by kernel_rfl) k5

set_option maxRecDepth 100000 in
theorem lifted (os : Os) (started : os.Started) (H : Type) (enc : TypeId × Value → H) :
    ReturnsInHanded {} Tryz.checked os 3 .any (fun w args => (Rows.taleMostSpec.pre enc Tryz.prog Tryz.f3 Rows.taleMostRow.domain false w args ∧ laidMetH Tryz.prog Rows.taleMostRow.laid w) ∧ sizedMet enc Tryz.prog Tryz.f3 (OpenSpec.ofChange Rows.taleMostSpec) false w args)
      (Rows.taleMostSpec.post enc Tryz.prog Tryz.f3 false true false false) := by
  refine returnsInHanded_of_change_and (C := Tryz.checked) (X := fun w _ => laidMetH Tryz.prog Rows.taleMostRow.laid w) (fun _ _ _ hh h => h.of_heap hh) own started (by kernel_rfl) Tryz.func3
    (ChangeSpec.witness_shaped (enc := enc) (C := Tryz.checked) (os := os) (X := fun w _ => laidMetH Tryz.prog Rows.taleMostRow.laid w) false (World.laidAll Tryz.prog os Rows.taleMostRow.laid) #[Value.int IntKind.i64 0] 8 (World.laidAll_os _ _ _)
      (World.shaped_of_ZipB (by kernel_rfl) (by kernel_rfl)) (by kernel_rfl) (by kernel_rfl) (by kernel_rfl)
      (by rw [MakeChecks.laidMetH_plain _ _ _ (by kernel_rfl)]; exact laidMet_laidAll _ (by kernel_rfl) (by kernel_rfl))) ?_
  intro W base args ds gs before hval hW hcnd hwt hL _
  exact law_calls [3] laidOut (by kernel_rfl) (by kernel_rfl) (by kernel_rfl) rfl rfl Tryz.underlying4 (fun ds h => match ds, h with | [_], _ => rfl) said_taleMost (tabs hL) hval hW hwt

theorem over : Rows.taleMostRow.holds Tryz.pinned (OpenSpec.ofChange Rows.taleMostSpec) :=
  OpenClaim.holds_of_wide 3 Tryz.f3 rfl rfl rfl rfl rfl rfl rfl ⟨rfl, rfl, rfl, rfl, rfl⟩ rfl rfl rfl rfl rfl (by kernel_rfl) Tryz.func3 (by kernel_rfl)
    (of_decide_eq_true (by kernel_rfl)) (by unfold Func.isWrapper; first | (rw [if_pos (by decide +kernel)]; kernel_rfl) | (rw [if_neg (by decide +kernel)]; exact ⟨rfl, rfl⟩))
    (fun os started H enc _ => lifted os started H enc)

/-- The statement: the tied card. -/
theorem proved : Rows.TaleMostCardSaid :=
  Claim7.holds_tied_plain_at .later [] [.data, .data, .data, .data, .sentinel, .sentinel, .pinned] true (true, "bfda105472f1b3f8b8daf1e8e4ab18dabf6929db84fbb807eec3f4ce27260880") true
    over (fun _ h => by cases h) (by kernel_rfl) (fun _ h => by cases h) taleMost_row_tie rfl ⟨rfl, rfl⟩ (by kernel_rfl) rfl
    (fun f fn hf hfn => by
      obtain rfl : f = 3 := Option.some.inj ((show Tryz.prog.funcNamed "cento/centolaw45.TaleMost" = some 3 by kernel_rfl).symm.trans hf) |>.symm
      obtain rfl : fn = Tryz.f3 := (Option.some.inj (Tryz.func3.symm.trans hfn)).symm
      exact ⟨by kernel_rfl, fun j t ht => by
        rw [Tryz.params3] at ht
        have hm : t ∈ [3] := by simpa using Array.mem_of_getElem? ht
        have hall : ([3].all fun u => !Tryz.prog.wantsStandIn u) = true := by kernel_rfl
        exact (show Tryz.prog.wantsStandIn t = false by simpa using List.all_eq_true.1 hall t hm)⟩)
    (by kernel_rfl)
end Go.Proofs.YtgkdikddjfgajaaGreatDoor.taleMost
