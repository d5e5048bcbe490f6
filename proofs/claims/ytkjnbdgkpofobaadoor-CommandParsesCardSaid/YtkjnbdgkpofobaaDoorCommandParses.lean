/-
  The statement Rows.CommandParsesCardSaid: whatever the arguments, the law centolaw34.CommandParses answers true, and its arguments read as they did; the listed tables are tied to the program's text. There are no conditions.
  The frame is a template filled by a program of ours (law4.py); the walk is said_commandParses in KCb.
-/
import Derived.Test.YtkjnbdgkpofobaaDoorTie
import Derived.Test.YtkjnbdgkpofobaaDoorCards
import Derived.Test.YtkjnbdgkpofobaaDoorKCb
import Derived.WalkKit
import Derived.ProofKit
import Derived.OpenShut
import Derived.LaidMore
import Derived.Lay
import Derived.SevenTiedAt
import Derived.Stop.Joined
namespace Go.Proofs.YtkjnbdgkpofobaaDoor.commandParses
set_option linter.unusedVariables false
open Go.ChangeShapes Go.WideShapes Go.ChangeAt Go.RowKit Go.G

theorem own : ownKnob Tryd.prog.godebug = none := by kernel_rfl
theorem laidOut : laidOutB Tryd.prog = true := by kernel_rfl
theorem star : "*" ++ "errors.errorString" = "*errors.errorString" := by decide
theorem rowErr (u : TypeId) (h : Tryd.prog.typeName? 3 u = some "*errors.errorString") : u = 140 := typeName_ptr_named (nm := "errors.errorString") (by rw [star]; kernel_rfl) (by kernel_rfl) (by decide) u (by rw [star]; exact h)
set_option maxRecDepth 100000 in
theorem tabs {W : World} (h : laidMetH Tryd.prog Rows.commandParsesRow.laid W) : Tabs Tryd.prog W (Old W) := by
  rw [MakeChecks.laidMetH_plain _ _ _ (by kernel_rfl)] at h
  have h : laidMet Tryd.prog [("math/bits.deBruijn32tab", Lib.tabData .u8 tab32), ("math/bits.deBruijn64tab", Lib.tabData .u8 tab64), ("internal/strconv.uint64pow10", Lib.tabData .u64 tab10), ("unicode/utf8.acceptRanges", Rows.laid_unicode_utf8_acceptRanges), ("strconv.ErrRange", .iface "*errors.errorString" (.ptr (.agg [.lit (.string [118, 97, 108, 117, 101, 32, 111, 117, 116, 32, 111, 102, 32, 114, 97, 110, 103, 101])]))), ("strconv.ErrSyntax", .iface "*errors.errorString" (.ptr (.agg [.lit (.string [105, 110, 118, 97, 108, 105, 100, 32, 115, 121, 110, 116, 97, 120])]))), ("unicode.White_Space", Rows.laid_unicode_White_Space), ("strings.asciiSpace", Lib.tabData .u8 tabSp), ("unicode/utf8.first", Rows.laid_unicode_utf8_first)] W := h
  have hs := h
  have k0 := Lib.tabIs_of_head (k := .u8) (zs := tab32) (show Tryd.prog.globalNamed "math/bits.deBruijn32tab" = some 8 by kernel_rfl) (show (Tryd.prog.globals[8]?).map (·.type) = some 143 by kernel_rfl) (show Tryd.prog.underlying 143 = some (.array 32 5) by kernel_rfl) (show Tryd.prog.underlying 5 = some (.int .u8) by kernel_rfl) (by kernel_rfl) (by kernel_rfl) hs
  replace hs := laidMet.tail hs
  have k1 := Lib.tabIs_of_head (k := .u8) (zs := tab64) (show Tryd.prog.globalNamed "math/bits.deBruijn64tab" = some 9 by kernel_rfl) (show (Tryd.prog.globals[9]?).map (·.type) = some 144 by kernel_rfl) (show Tryd.prog.underlying 144 = some (.array 64 5) by kernel_rfl) (show Tryd.prog.underlying 5 = some (.int .u8) by kernel_rfl) (by kernel_rfl) (by kernel_rfl) hs
  replace hs := laidMet.tail hs
  have k2 := Lib.tabIs_of_head (k := .u64) (zs := tab10) (show Tryd.prog.globalNamed "internal/strconv.uint64pow10" = some 3 by kernel_rfl) (show (Tryd.prog.globals[3]?).map (·.type) = some 122 by kernel_rfl) (show Tryd.prog.underlying 122 = some (.array 20 96) by kernel_rfl) (show Tryd.prog.underlying 96 = some (.int .u64) by kernel_rfl) (by kernel_rfl) (by kernel_rfl) hs
  replace hs := laidMet.tail hs
  replace hs := laidMet.tail hs
  obtain ⟨a4, s4, k4, _⟩ := laid_sentinel hs (show Tryd.prog.globalNamed "strconv.ErrRange" = some 5 by kernel_rfl) (show (Tryd.prog.globals[5]?).map (·.type) = some 66 by kernel_rfl) Tryd.underlying66 rowErr Tryd.underlying140 Tryd.underlying142 rfl rfl Tryd.underlying9 (by kernel_rfl) (by kernel_rfl)
  replace hs := laidMet.tail hs
  obtain ⟨a5, s5, k5, _⟩ := laid_sentinel hs (show Tryd.prog.globalNamed "strconv.ErrSyntax" = some 4 by kernel_rfl) (show (Tryd.prog.globals[4]?).map (·.type) = some 66 by kernel_rfl) Tryd.underlying66 rowErr Tryd.underlying140 Tryd.underlying142 rfl rfl Tryd.underlying9 (by kernel_rfl) (by kernel_rfl)
  replace hs := laidMet.tail hs
  replace hs := laidMet.tail hs
  have k7 := Lib.tabIs_of_head (k := .u8) (zs := tabSp) (show Tryd.prog.globalNamed "strings.asciiSpace" = some 0 by kernel_rfl) (show (Tryd.prog.globals[0]?).map (·.type) = some 80 by kernel_rfl) (show Tryd.prog.underlying 80 = some (.array 256 5) by kernel_rfl) (show Tryd.prog.underlying 5 = some (.int .u8) by kernel_rfl) (by kernel_rfl) (by kernel_rfl) hs
  replace hs := laidMet.tail hs
  refine tabs_of [("math/bits.deBruijn32tab", 8, .u8, tab32), ("math/bits.deBruijn64tab", 9, .u8, tab64), ("internal/strconv.uint64pow10", 3, .u64, tab10), ("strings.asciiSpace", 0, .u8, tabSp)] [("strconv.ErrRange", 5), ("strconv.ErrSyntax", 4)] (by kernel_rfl) (by kernel_rfl) (fun x hx => ?_) (fun x hx => ?_)
  · simp only [List.mem_cons, List.not_mem_nil, or_false] at hx
    rcases hx with rfl | rfl | rfl | rfl
    · exact ⟨by kernel_rfl, by decide, k0⟩
    · exact ⟨by kernel_rfl, by decide, k1⟩
    · exact ⟨by kernel_rfl, by decide, k2⟩
    · exact ⟨by kernel_rfl, by decide, k7⟩
  · simp only [List.mem_cons, List.not_mem_nil, or_false] at hx
    rcases hx with rfl | rfl
    · exact iface_of_var (show Tryd.prog.globalNamed "strconv.ErrRange" = some 5 by kernel_rfl) k4
    · exact iface_of_var (show Tryd.prog.globalNamed "strconv.ErrSyntax" = some 4 by kernel_rfl) k5

set_option maxRecDepth 100000 in
theorem lifted (os : Os) (started : os.Started) (H : Type) (enc : TypeId × Value → H) :
    ReturnsInHanded {} Tryd.checked os 4 .any (fun w args => (Rows.commandParsesSpec.pre enc Tryd.prog Tryd.f4 Rows.commandParsesRow.domain false w args ∧ laidMetH Tryd.prog Rows.commandParsesRow.laid w) ∧ sizedMet enc Tryd.prog Tryd.f4 (OpenSpec.ofChange Rows.commandParsesSpec) false w args)
      (Rows.commandParsesSpec.post enc Tryd.prog Tryd.f4 false true false false) := by
  refine returnsInHanded_of_change_and (C := Tryd.checked) (X := fun w _ => laidMetH Tryd.prog Rows.commandParsesRow.laid w) (fun _ _ _ hh h => h.of_heap hh) own started (by kernel_rfl) Tryd.func4
    (ChangeSpec.witness_shaped (enc := enc) (C := Tryd.checked) (os := os) (X := fun w _ => laidMetH Tryd.prog Rows.commandParsesRow.laid w) false (World.laidAll Tryd.prog os Rows.commandParsesRow.laid) #[Value.string ByteArray.empty] 8 (World.laidAll_os _ _ _)
      (World.shaped_of_ZipB (by kernel_rfl) (by kernel_rfl)) (by kernel_rfl) (by kernel_rfl) (by kernel_rfl)
      (by rw [MakeChecks.laidMetH_plain _ _ _ (by kernel_rfl)]; exact laidMet_laidAll _ (by kernel_rfl) (by kernel_rfl))) ?_
  intro W base args ds gs before hval hW hcnd hwt hL _
  exact law_calls [9] laidOut (by kernel_rfl) (by kernel_rfl) (by kernel_rfl) rfl rfl Tryd.underlying4 (fun ds h => match ds, h with | [_], _ => rfl) said_commandParses (tabs hL) hval hW hwt

theorem over : Rows.commandParsesRow.holds Tryd.pinned (OpenSpec.ofChange Rows.commandParsesSpec) :=
  OpenClaim.holds_of_wide 4 Tryd.f4 rfl rfl rfl rfl rfl rfl rfl ⟨rfl, rfl, rfl, rfl, rfl⟩ rfl rfl rfl rfl rfl (by kernel_rfl) Tryd.func4 (by kernel_rfl)
    (of_decide_eq_true (by kernel_rfl)) (by unfold Func.isWrapper; first | (rw [if_pos (by decide +kernel)]; kernel_rfl) | (rw [if_neg (by decide +kernel)]; exact ⟨rfl, rfl⟩))
    (fun os started H enc _ => lifted os started H enc)

/-- The statement: the tied card. -/
theorem proved : Rows.CommandParsesCardSaid :=
  Claim7.holds_tied_plain_at .later [] [.data, .data, .data, .data, .sentinel, .sentinel, .listed, .data, .pinned] true (true, "b5138a7c8a4045bec18bb939a912572aecdf7327c8e0560523c5da02ecb5c0a1") true
    over (fun _ h => by cases h) (by kernel_rfl) (fun _ h => by cases h) commandParses_row_tie rfl ⟨rfl, rfl⟩ (by kernel_rfl) rfl
    (fun f fn hf hfn => by
      obtain rfl : f = 4 := Option.some.inj ((show Tryd.prog.funcNamed "cento/centolaw34.CommandParses" = some 4 by kernel_rfl).symm.trans hf) |>.symm
      obtain rfl : fn = Tryd.f4 := (Option.some.inj (Tryd.func4.symm.trans hfn)).symm
      exact ⟨by kernel_rfl, fun j t ht => by
        rw [Tryd.params4] at ht
        have hm : t ∈ [9] := by simpa using Array.mem_of_getElem? ht
        have hall : ([9].all fun u => !Tryd.prog.wantsStandIn u) = true := by kernel_rfl
        exact (show Tryd.prog.wantsStandIn t = false by simpa using List.all_eq_true.1 hall t hm)⟩)
    (by kernel_rfl)
end Go.Proofs.YtkjnbdgkpofobaaDoor.commandParses
