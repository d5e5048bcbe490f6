/-
  Texts, merged, without what is not reached.
-/
import Derived.Test.YtebihdhapepejaaDoorKDc
/-
  The program's reading of a right edit's text.
-/
namespace Go.Proofs.YtebihdhapepejaaDoor
set_option linter.unusedVariables false
set_option linter.unusedSimpArgs false
open Go Go.G Go.Proofs Go.PL
/-- A right edit's text is read as it. -/
theorem parseE_of {e : E} (hr : rightE 64 e = true) (hw : wfE e) : parseE (showE e) = (e, true) := by
  have h := editE_of e 64 hr hw []
  rw [List.append_nil] at h
  have hW : wholeE (showE e) = (e, true) := by unfold wholeE; rw [h]; simp
  unfold parseE
  rw [hW, if_pos ⟨rfl, hr⟩]
/-- What is read of a text is right, and is told so. -/
theorem parseE_to {s : List UInt8} (h : (parseE s).2 = true) (hs : s.length ≤ 1000000000) : showE (parseE s).1 = s ∧ rightE 64 (parseE s).1 = true ∧ wfE (parseE s).1 := by
  unfold parseE at h ⊢
  split
  · rename_i hh
    obtain ⟨h1, h2⟩ := whole_take hh.1
    exact ⟨h1, hh.2, h2 hs⟩
  · rename_i hh; rw [if_neg hh] at h; cases h
end Go.Proofs.YtebihdhapepejaaDoor

/-
  Plain: edits within edits, and how deep a text is read.
-/
namespace Go.Proofs.YtebihdhapepejaaDoor
set_option linter.unusedVariables false
set_option linter.unusedSimpArgs false
open Go Go.G Go.Proofs Go.PL
theorem rightE_more : ∀ (e : E) (d : Nat), rightE d e = true → rightE (d + 1) e = true := by
  refine E.ind fun k o n ws ks l os ihk iho d h => ?_
  have R := rightE_iff.1 h
  have hd := R.d0
  obtain ⟨d, rfl⟩ : ∃ d', d = d' + 1 := ⟨d - 1, by omega⟩
  refine rightE_iff.2 { R with d0 := by omega, kok := ?_, ook := ?_ }
  · have hk := R.kok
    simp only [Nat.add_sub_cancel] at hk ⊢
    have key : ∀ (m : List KE) (last : Int), (∀ x, x ∈ m → x ∈ ks) → rightKs d last m = true → rightKs (d + 1) last m = true := by
      intro m
      induction m with
      | nil => intro last _ _; simp
      | cons x m ih =>
        intro last hm h
        rw [rightKs_cons, Bool.and_eq_true, Bool.and_eq_true] at h ⊢
        exact ⟨⟨h.1.1, ihk x (hm x (by simp)) d h.1.2⟩, ih _ (fun y hy => hm y (by simp [hy])) h.2⟩
    exact key ks (-1) (fun _ h => h) hk
  · have ho := R.ook
    simp only [Nat.add_sub_cancel] at ho ⊢
    refine rightOs_all.2 fun x hx => ?_
    have h1 := rightOs_all.1 ho x hx
    rw [rightO_eq, Bool.and_eq_true] at h1 ⊢
    refine ⟨h1.1, ?_⟩
    have h2 := h1.2
    split at h2
    · rename_i h3
      rw [if_pos h3]
      rw [Bool.and_eq_true, Bool.and_eq_true] at h2 ⊢
      exact ⟨⟨h2.1.1, iho x hx d h2.1.2⟩, h2.2⟩
    · rename_i h3
      rw [if_neg h3]
theorem rightE_mono {d f : Nat} (h : d ≤ f) {e : E} (he : rightE d e = true) : rightE f e = true := by
  induction h with
  | refl => exact he
  | step _ ih => exact rightE_more _ _ ih
def nestE : Nat → E
  | 0 => .mk 1 T0 (.mk 1 [] []) [] [] 0 []
  | m + 1 => .mk 2 T0 T0 [] [.mk 0 (nestE m)] 0 []
def nestP : Nat → List UInt8
  | 0 => [40, 95, 62, 123, 125, 41]
  | m + 1 => 115 :: 123 :: 124 :: 48 :: 58 :: (nestP m ++ [125])
theorem nestP_len : ∀ m, (nestP m).length = 6 + 6 * m
  | 0 => rfl
  | m + 1 => by
    rw [nestP]
    simp [nestP_len m]
    omega
theorem show_nestE : ∀ m, showE (nestE m) = nestP m
  | 0 => by
    have h0 : showT T0 = [95] := by rw [showT_mk]; simp
    have h1 : showT (.mk 1 [] []) = [123, 125] := by rw [showT_mk]; simp
    rw [nestE, showE_mk, if_pos rfl, h0, h1]
    rfl
  | m + 1 => by
    have hx : hexS 0 = [48] := by rw [hexS_lt (by omega)]; rfl
    rw [nestE, showE_mk, if_neg (by omega), if_pos rfl]
    simp [showK, hx, show_nestE m, nestP]
theorem wf_nestE : ∀ m, wfE (nestE m)
  | 0 => by simp [nestE, wfE, wfKs, wfOs, wfT, wfTs, i64R, u64R]
  | m + 1 => by simp [nestE, wfE, wfKs, wfOs, wfT, wfTs, i64R, u64R, wf_nestE m]
theorem nest_kind : ∀ m, (nestE m).kind ≠ 0
  | 0 => by simp [nestE]
  | m + 1 => by simp [nestE]
theorem right_nestE : ∀ (m d : Nat), rightE d (nestE m) = decide (m < d)
  | m, 0 => by
    cases m with
    | zero => rw [nestE, rightE_mk]; simp [headOk]
    | succ m => rw [nestE, rightE_mk]; simp [headOk]
  | 0, d + 1 => by
    have h1 : rightT 64 T0 = true := by decide +kernel
    have h2 : rightT 64 (.mk 1 [] []) = true := by decide +kernel
    rw [nestE, rightE_mk]
    simp [headOk, h1, h2]
  | m + 1, d + 1 => by
    have h0 : noneT T0 = true := rfl
    have hk := nest_kind m
    rw [nestE, rightE_mk]
    simp [headOk, h0, hk, right_nestE m d, wordsOk, lengths]
    by_cases h : m < d
    · simp [h, show ¬ d ≤ m by omega]
    · simp [h, show d ≤ m by omega]
theorem parse_nest (m : Nat) (hm : m ≤ 127) : (parseE (nestP m)).2 = decide (m < 64) := by
  by_cases h : m < 64
  · have hr : rightE 64 (nestE m) = true := by rw [right_nestE]; exact decide_eq_true h
    have := parseE_of hr (wf_nestE m)
    rw [show_nestE] at this
    rw [this]
    exact (decide_eq_true h).symm
  · rw [decide_eq_false h]
    cases hp : (parseE (nestP m)).2 with
    | false => rfl
    | true =>
      exfalso
      obtain ⟨h1, h2, h3⟩ := parseE_to hp (by rw [nestP_len]; omega)
      have e1 := editE_of _ 128 (rightE_mono (by omega) h2) h3 []
      have e2 := editE_of (nestE m) 128 (by rw [right_nestE]; exact decide_eq_true (by omega)) (wf_nestE m) []
      rw [h1] at e1
      rw [show_nestE, e1] at e2
      have : (parseE (nestP m)).1 = nestE m := by
        have := Option.some.inj e2
        exact congrArg Prod.fst this
      rw [this, right_nestE] at h2
      exact h (of_decide_eq_true h2)
end Go.Proofs.YtebihdhapepejaaDoor

/-
  The document's reader of edits' texts: numbers, words.
-/
namespace Go.Proofs.YtebihdhapepejaaDoor
set_option linter.unusedVariables false
set_option linter.unusedSimpArgs false
set_option maxRecDepth 10000
open Go Go.G Go.Proofs Go.PL
def numGo : Nat → List UInt8 → Nat × Bool
  | n, [] => (n, true)
  | n, c :: r => match hexV c with
    | some d => numGo (16 * n + d) r
    | none => (0, false)
section
variable {n0 : Nat} {w0 : World} {I0 : Nat → Prop} {Q : Exit → Sta → Prop}
end
end Go.Proofs.YtebihdhapepejaaDoor

/-
  Plain: what the document reads of an edit's text is told so.
-/
namespace Go.Proofs.YtebihdhapepejaaDoor
set_option linter.unusedVariables false
set_option linter.unusedSimpArgs false
set_option maxRecDepth 10000
open Go Go.G Go.Proofs Go.PL
theorem numGo_hex : ∀ (r : List UInt8) (n v : Nat), 1 ≤ n → numGo n r = (v, true) → hexS v = hexS n ++ r
  | [], n, v, hn, h => by rw [numGo] at h; cases h; simp
  | c :: r, n, v, hn, h => by
    rw [numGo] at h
    cases hv : hexV c with
    | none => rw [hv] at h; cases h
    | some d =>
      rw [hv] at h
      simp only at h
      obtain ⟨h1, h2⟩ := hexD_V hv
      rw [numGo_hex r _ v (by omega) h, Nat.mul_comm, hexS_step hn h1, h2]
      simp
end Go.Proofs.YtebihdhapepejaaDoor

/-
  Plain: brackets in edits' texts.
-/
namespace Go.Proofs.YtebihdhapepejaaDoor
set_option linter.unusedVariables false
set_option linter.unusedSimpArgs false
open Go Go.G Go.Proofs Go.PL
def noBr (c : UInt8) : Prop := ¬ (c = 123 ∨ c = 91 ∨ c = 40) ∧ ¬ (c = 125 ∨ c = 93 ∨ c = 41)
instance (c : UInt8) : Decidable (noBr c) := by unfold noBr; infer_instance
end Go.Proofs.YtebihdhapepejaaDoor

/-
  Chapter 38's example.
-/
namespace Go.Proofs.YtebihdhapepejaaDoor
set_option linter.unusedVariables false
set_option linter.unusedSimpArgs false
set_option maxRecDepth 10000
open Go Go.G Go.Proofs Go.PL
def at38 (n : Int) : T := .mk 10 [n] []
def e38 : E := .mk 3 T0 T0 [] [] 4 [.mk 0 2 [] E0, .mk 1 0 [at38 5] E0, .mk 2 0 [at38 6, at38 7] E0]
def s38 : List UInt8 := [108, 121, 91, 107, 50, 44, 45, 121, 91, 53, 93, 44, 43, 121, 91, 54, 44, 55, 93, 93]
theorem e38_show : showE e38 = s38 := by
  have h : ∀ n : Nat, n < 16 → hexS n = [hexD n] := fun n h => hexS_lt h
  simp [e38, at38, showE_mk, showO, showT_mk, joinC, h, s38, letS, letters]
  decide
theorem e38_right : rightE 64 e38 = true := by decide +kernel
theorem e38_wf : wfE e38 := by simp [e38, at38, wfE, wfKs, wfOs, wfT, wfTs, i64R, u64R]
theorem parse38 : parseE s38 = (e38, true) := by rw [← e38_show]; exact parseE_of e38_right e38_wf
set_option maxHeartbeats 2000000 in
theorem awake38_spec : G.Spec Tryd.prog 5 [] (bv true) := by
  have t1 := eparse_spec (s := s38) (by decide)
  rw [parse38] at t1
  have t2 := eprint_spec e38 64 e38_right e38_wf (by rw [e38_show]; decide)
  rw [e38_show] at t2
  refine spec_of t_centolaw38_awake (by simp) fun w0 I0 => ?_
  unfold c_centolaw38_awake
  simp [s38] at t1 t2
  simp
  refine sc_call t1 rfl ?_
  simp [e38, updF_app, splice]
  refine sc_call_gt rfl (fun _ => t2) (fun _ => by simp [e38]) rfl ?_
  simp [str_eqlE]
  exact frz_bare rfl
end Go.Proofs.YtebihdhapepejaaDoor

/-
  Chapter 38: a text is read just as deep as edits may be.
-/
namespace Go.Proofs.YtebihdhapepejaaDoor
set_option linter.unusedVariables false
set_option linter.unusedSimpArgs false
set_option maxRecDepth 10000
open Go Go.G Go.Proofs Go.PL
theorem nestP_step (m : Nat) : nestP (m + 1) = [115, 123, 124, 48, 58] ++ nestP m ++ [125] := by simp [nestP]
theorem i64_and127e (n : Int) : bits .and .i64 n 127 = n % 128 := by
  have h7 : (BitVec.ofInt 64 127).toNat = 2 ^ 7 - 1 := by decide
  have key : (BitVec.ofInt 64 n &&& BitVec.ofInt 64 127).toNat = (n % ((2 ^ 64 : Nat) : Int)).toNat % 2 ^ 7 := by
    rw [BitVec.toNat_and, BitVec.toNat_ofInt, h7, Nat.and_two_pow_sub_one_eq_mod]
  show IntKind.i64.wrap ((BitVec.ofInt 64 n &&& BitVec.ofInt 64 127).toNat : Nat) = n % 128
  rw [key, IntKind.wrap_i64]
  omega
theorem edeep_l1 {w0 : World} {I0 : Nat → Prop} {n0 : Nat} {Q : Exit → Sta → Prop} {m : Nat} (hm : m ≤ 127) (hq : Q (.exit 0) ⟨lk [(0, iv m), (3, S (nestP m)), (4, iv m), (11, bv false)], lkH []⟩) : ∀ (j i : Nat), i + j = m →
    LoopC (cx Tryd.prog w0 I0 n0) l1_centolaw38_EtextDeep Q ⟨lk [(0, iv m), (3, S (nestP i)), (4, iv i)], lkH []⟩ := by
  intro j
  induction j with
  | zero =>
    intro i hi
    have : i = m := by omega
    subst this
    refine loopC_once mixed l1_centolaw38_EtextDeep.eq_1 ?_
    simp
    exact hq
  | succ j ih =>
    intro i hi
    have e1 : IntKind.i64.wrap ((i : Int) + 1) = ((i + 1 : Nat) : Int) := by rw [i64_same (by omega) (by omega)]; omega
    have hl := nestP_len i
    have hgo := ih (i + 1) (by omega)
    rw [nestP_step] at hgo
    refine loopC_once mixed l1_centolaw38_EtextDeep.eq_1 ?_
    simp [show i < m by omega, show (i : Int) < m by omega, str_add (l := [115, 123, 124, 48, 58]) (m := nestP i) (by simp; omega), str_add (l := 115 :: 123 :: 124 :: 48 :: 58 :: nestP i) (m := [125]) (by simp; omega), e1]
    simpa using hgo
theorem EtextDeep_spec (n : Int) : G.Spec Tryd.prog 3 [iv n] (bv true) := by
  refine spec_of t_centolaw38_EtextDeep (by simp) fun w0 I0 => ?_
  unfold c_centolaw38_EtextDeep
  obtain ⟨m, hm⟩ : ∃ m : Nat, (m : Int) = n % 128 := ⟨(n % 128).toNat, by omega⟩
  have hm127 : m ≤ 127 := by omega
  have hl := nestP_len m
  have hP := eparse_spec (s := nestP m) (by omega)
  rw [parse_nest m hm127] at hP
  simp [i64_and127e, ← hm]
  refine edeep_l1 hm127 ?_ m 0 (by omega)
  by_cases h : m < 64
  · rw [if_pos (decide_eq_true h)] at hP
    simp
    refine sc_call hP rfl ?_
    simp [h, show (m : Int) < 64 by omega, updF_app]
    refine sc_call_gt rfl (fun _ => awake38_spec) (fun _ => rfl) rfl ?_
    simp
    exact frz_bool rfl
  · rw [if_neg (by simpa using h)] at hP
    simp
    refine sc_call hP rfl ?_
    simp [h, show ¬ (m : Int) < 64 by omega, updF_app]
    refine sc_call_gt rfl (fun _ => awake38_spec) (fun _ => rfl) rfl ?_
    simp
    exact frz_bool rfl
end Go.Proofs.YtebihdhapepejaaDoor

/-
  What an argument holds: trees and edits out of readings.
-/
namespace Go.Proofs.YtebihdhapepejaaDoor
set_option linter.unusedVariables false
set_option linter.unusedSimpArgs false
open Go Go.G Go.Proofs Go.PL Go.RowKit
theorem lit_i64 {m : Int} (h : (Lit.int .i64 m).wf = true) : i64R m := by
  simp [Lit.wf, IntKind.min, IntKind.max, IntKind.bits, IntKind.signed] at h
  unfold i64R; omega
theorem und_int' : Tryd.prog.underlying 3 = some (.int .i64) := by kernel_rfl
theorem hasI {n : Nat} {b : List A} (h : Has Tryd.prog n 3 b) : ∃ m, i64R m ∧ b = [iv m] := by
  cases n with
  | zero => exact h.elim
  | succ n =>
    unfold Has at h
    rw [und_int'] at h
    obtain ⟨m, hm, rfl⟩ := h
    exact ⟨m, lit_i64 hm, rfl⟩
theorem mk_int (b : List A) : mk Tryd.prog 3 b = b.headD .any := by unfold mk; rw [und_int']
end Go.Proofs.YtebihdhapepejaaDoor

/-
  Chapter 38: the law of depth, whatever its arguments hold.
-/
namespace Go.Proofs.YtebihdhapepejaaDoor
set_option linter.unusedVariables false
set_option linter.unusedSimpArgs false
open Go Go.G Go.Proofs Go.PL Go.RowKit
set_option maxRecDepth 100000 in
theorem said_etextDeep (xs : List A) (h : ArgsHas Tryd.prog Tryd.f3.params.toList xs) : G.Spec Tryd.prog 3 xs (.v (.bool true)) := by
  have h : ArgsHas Tryd.prog [3] xs := h
  match xs, h with
  | [a], ⟨⟨n, b, h1, h2⟩, _⟩ =>
    obtain ⟨m, hm, rfl⟩ := hasI h1
    rw [h2, mk_int]
    exact EtextDeep_spec m
end Go.Proofs.YtebihdhapepejaaDoor
