/-
  The statement Rows.EtextDeepCardSaid: whatever the arguments, the law centolaw38.EtextDeep answers true, and its arguments read as they did; the listed tables are tied to the program's text. There are no conditions.
  The frame is a template filled by a program of ours (law4.py); the walk is said_etextDeep in KDd.
-/
import Derived.Test.YtebihdhapepejaaDoorTie
import Derived.Test.YtebihdhapepejaaDoorCards
import Derived.Test.YtebihdhapepejaaDoorKDd
import Derived.WalkKit
import Derived.ProofKit
import Derived.OpenShut
import Derived.LaidMore
import Derived.Lay
import Derived.SevenTiedAt
import Derived.Stop.Joined
namespace Go.Proofs.YtebihdhapepejaaDoor.etextDeep
set_option linter.unusedVariables false
open Go.ChangeShapes Go.WideShapes Go.ChangeAt Go.RowKit Go.G

theorem own : ownKnob Tryd.prog.godebug = none := by kernel_rfl
theorem laidOut : laidOutB Tryd.prog = true := by kernel_rfl
theorem star : "*" ++ "errors.errorString" = "*errors.errorString" := by decide
theorem rowErr (u : TypeId) (h : Tryd.prog.typeName? 3 u = some "*errors.errorString") : u = 145 := typeName_ptr_named (nm := "errors.errorString") (by rw [star]; kernel_rfl) (by kernel_rfl) (by decide) u (by rw [star]; exact h)
set_option maxRecDepth 100000 in
theorem tabs {W : World} (h : laidMetH Tryd.prog Rows.etextDeepRow.laid W) : Tabs Tryd.prog W (Old W) := by
  rw [MakeChecks.laidMetH_plain _ _ _ (by kernel_rfl)] at h
  have h : laidMet Tryd.prog [("math/bits.deBruijn32tab", Lib.tabData .u8 tab32), ("math/bits.deBruijn64tab", Lib.tabData .u8 tab64), ("internal/strconv.uint64pow10", Lib.tabData .u64 tab10), ("strconv.ErrRange", .iface "*errors.errorString" (.ptr (.agg [.lit (.string [118, 97, 108, 117, 101, 32, 111, 117, 116, 32, 111, 102, 32, 114, 97, 110, 103, 101])]))), ("strconv.ErrSyntax", .iface "*errors.errorString" (.ptr (.agg [.lit (.string [105, 110, 118, 97, 108, 105, 100, 32, 115, 121, 110, 116, 97, 120])])))] W := h
  have hs := h
  have k0 := Lib.tabIs_of_head (k := .u8) (zs := tab32) (show Tryd.prog.globalNamed "math/bits.deBruijn32tab" = some 4 by kernel_rfl) (show (Tryd.prog.globals[4]?).map (·.type) = some 143 by kernel_rfl) (show Tryd.prog.underlying 143 = some (.array 32 5) by kernel_rfl) (show Tryd.prog.underlying 5 = some (.int .u8) by kernel_rfl) (by kernel_rfl) (by kernel_rfl) hs
  replace hs := laidMet.tail hs
  have k1 := Lib.tabIs_of_head (k := .u8) (zs := tab64) (show Tryd.prog.globalNamed "math/bits.deBruijn64tab" = some 5 by kernel_rfl) (show (Tryd.prog.globals[5]?).map (·.type) = some 144 by kernel_rfl) (show Tryd.prog.underlying 144 = some (.array 64 5) by kernel_rfl) (show Tryd.prog.underlying 5 = some (.int .u8) by kernel_rfl) (by kernel_rfl) (by kernel_rfl) hs
  replace hs := laidMet.tail hs
  have k2 := Lib.tabIs_of_head (k := .u64) (zs := tab10) (show Tryd.prog.globalNamed "internal/strconv.uint64pow10" = some 1 by kernel_rfl) (show (Tryd.prog.globals[1]?).map (·.type) = some 119 by kernel_rfl) (show Tryd.prog.underlying 119 = some (.array 20 52) by kernel_rfl) (show Tryd.prog.underlying 52 = some (.int .u64) by kernel_rfl) (by kernel_rfl) (by kernel_rfl) hs
  replace hs := laidMet.tail hs
  obtain ⟨a3, s3, k3, _⟩ := laid_sentinel hs (show Tryd.prog.globalNamed "strconv.ErrRange" = some 3 by kernel_rfl) (show (Tryd.prog.globals[3]?).map (·.type) = some 74 by kernel_rfl) Tryd.underlying74 rowErr Tryd.underlying145 Tryd.underlying147 rfl rfl Tryd.underlying9 (by kernel_rfl) (by kernel_rfl)
  replace hs := laidMet.tail hs
  obtain ⟨a4, s4, k4, _⟩ := laid_sentinel hs (show Tryd.prog.globalNamed "strconv.ErrSyntax" = some 2 by kernel_rfl) (show (Tryd.prog.globals[2]?).map (·.type) = some 74 by kernel_rfl) Tryd.underlying74 rowErr Tryd.underlying145 Tryd.underlying147 rfl rfl Tryd.underlying9 (by kernel_rfl) (by kernel_rfl)
  refine tabs_of [("math/bits.deBruijn32tab", 4, .u8, tab32), ("math/bits.deBruijn64tab", 5, .u8, tab64), ("internal/strconv.uint64pow10", 1, .u64, tab10)] [("strconv.ErrRange", 3), ("strconv.ErrSyntax", 2)] (by kernel_rfl) (by kernel_rfl) (fun x hx => ?_) (fun x hx => ?_)
  · simp only [List.mem_cons, List.not_mem_nil, or_false] at hx
    rcases hx with rfl | rfl | rfl
    · exact ⟨by kernel_rfl, by decide, k0⟩
    · exact ⟨by kernel_rfl, by decide, k1⟩
    · exact ⟨by kernel_rfl, by decide, k2⟩
  · simp only [List.mem_cons, List.not_mem_nil, or_false] at hx
    rcases hx with rfl | rfl
    · exact iface_of_var (show Tryd.prog.globalNamed "strconv.ErrRange" = some 3 by kernel_rfl) k3
    · exact iface_of_var (show Tryd.prog.globalNamed "strconv.ErrSyntax" = some 2 by kernel_rfl) k4

set_option maxRecDepth 100000 in
theorem lifted (os : Os) (started : os.Started) (H : Type) (enc : TypeId × Value → H) :
    ReturnsInHanded {} Tryd.checked os 3 .any (fun w args => (Rows.etextDeepSpec.pre enc Tryd.prog Tryd.f3 Rows.etextDeepRow.domain false w args ∧ laidMetH Tryd.prog Rows.etextDeepRow.laid w) ∧ sizedMet enc Tryd.prog Tryd.f3 (OpenSpec.ofChange Rows.etextDeepSpec) false w args)
      (Rows.etextDeepSpec.post enc Tryd.prog Tryd.f3 false true false false) := by
  refine returnsInHanded_of_change_and (C := Tryd.checked) (X := fun w _ => laidMetH Tryd.prog Rows.etextDeepRow.laid w) (fun _ _ _ hh h => h.of_heap hh) own started (by kernel_rfl) Tryd.func3
    (ChangeSpec.witness_shaped (enc := enc) (C := Tryd.checked) (os := os) (X := fun w _ => laidMetH Tryd.prog Rows.etextDeepRow.laid w) false (World.laidAll Tryd.prog os Rows.etextDeepRow.laid) #[Value.int IntKind.i64 0] 8 (World.laidAll_os _ _ _)
      (World.shaped_of_ZipB (by kernel_rfl) (by kernel_rfl)) (by kernel_rfl) (by kernel_rfl) (by kernel_rfl)
      (by rw [MakeChecks.laidMetH_plain _ _ _ (by kernel_rfl)]; exact laidMet_laidAll _ (by kernel_rfl) (by kernel_rfl))) ?_
  intro W base args ds gs before hval hW hcnd hwt hL _
  exact law_calls [3] laidOut (by kernel_rfl) (by kernel_rfl) (by kernel_rfl) rfl rfl Tryd.underlying4 (fun ds h => match ds, h with | [_], _ => rfl) said_etextDeep (tabs hL) hval hW hwt

theorem over : Rows.etextDeepRow.holds Tryd.pinned (OpenSpec.ofChange Rows.etextDeepSpec) :=
  OpenClaim.holds_of_wide 3 Tryd.f3 rfl rfl rfl rfl rfl rfl rfl ⟨rfl, rfl, rfl, rfl, rfl⟩ rfl rfl rfl rfl rfl (by kernel_rfl) Tryd.func3 (by kernel_rfl)
    (of_decide_eq_true (by kernel_rfl)) (by unfold Func.isWrapper; first | (rw [if_pos (by decide +kernel)]; kernel_rfl) | (rw [if_neg (by decide +kernel)]; exact ⟨rfl, rfl⟩))
    (fun os started H enc _ => lifted os started H enc)

/-- The statement: the tied card. -/
theorem proved : Rows.EtextDeepCardSaid :=
  Claim7.holds_tied_plain_at .later [] [.data, .data, .data, .sentinel, .sentinel] true (true, "0c9296df2f70772b53d8cc2341239df7a60f8c411ba0aecf20bf8edfbe60ebc5") true
    over (fun _ h => by cases h) (by kernel_rfl) (fun _ h => by cases h) etextDeep_row_tie rfl ⟨rfl, rfl⟩ (by kernel_rfl) rfl
    (fun f fn hf hfn => by
      obtain rfl : f = 3 := Option.some.inj ((show Tryd.prog.funcNamed "cento/centolaw38.EtextDeep" = some 3 by kernel_rfl).symm.trans hf) |>.symm
      obtain rfl : fn = Tryd.f3 := (Option.some.inj (Tryd.func3.symm.trans hfn)).symm
      exact ⟨by kernel_rfl, fun j t ht => by
        rw [Tryd.params3] at ht
        have hm : t ∈ [3] := by simpa using Array.mem_of_getElem? ht
        have hall : ([3].all fun u => !Tryd.prog.wantsStandIn u) = true := by kernel_rfl
        exact (show Tryd.prog.wantsStandIn t = false by simpa using List.all_eq_true.1 hall t hm)⟩)
    (by kernel_rfl)
end Go.Proofs.YtebihdhapepejaaDoor.etextDeep
