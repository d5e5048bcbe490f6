/-
  Chapter 4's functions: what each answers.
-/
import Derived.Test.YtigdcnlhgelkaaaGFnsA
import Derived.Laws.BitsLemmas
import Derived.Laws.Bits64
namespace Go.Proofs.Ytigdcnlhgelkaaa
set_option linter.unusedVariables false
set_option linter.unusedSimpArgs false
open Go Go.G Go.Proofs

abbrev iv (n : Int) : A := .v (.int .i64 n)
abbrev uv (n : Int) : A := .v (.int .u64 n)
abbrev bv (b : Bool) : A := .v (.bool b)

theorem near_spec (a : Int) : G.Spec Try.prog 148 [iv a] (bv (decide (-536870912 ≤ a) && decide (a < 536870912))) := by
  refine spec_of t_ptr_near (by simp) fun w0 I0 => ?_
  unfold c_ptr_near
  simp
  exact frz_bare rfl
theorem within_spec (a b : Int) : G.Spec Try.prog 149 [iv a, iv b] (bv (decide (0 ≤ a) && decide (a ≤ b))) := by
  refine spec_of t_ptr_within (by simp) fun w0 I0 => ?_
  unfold c_ptr_within
  simp
  exact frz_bare rfl

theorem pow_half (w : Int) (m : Nat) : w / 2 / 2 ^ m = w / 2 ^ (m + 1) := by
  rw [Int.ediv_ediv_of_nonneg (by decide), Int.pow_succ, Int.mul_comm]

theorem i64_same {n : Int} (h0 : -9223372036854775808 ≤ n) (h1 : n < 9223372036854775808) : IntKind.i64.wrap n = n := by rw [IntKind.wrap_i64]; omega
theorem u64_same {n : Int} (h0 : 0 ≤ n) (h1 : n < 18446744073709551616) : IntKind.u64.wrap n = n := by rw [IntKind.wrap_u64]; omega

theorem field_l1 {n : Nat} {w0 : World} {I0 : Nat → Prop} {Q : Exit → Sta → Prop} {b k : Int} (hb : b < 1000) : ∀ (m : Nat) (w i : Int), 0 ≤ w → w < 18446744073709551616 → 0 ≤ i → i + m = b →
    Q (.exit 0) ⟨lk [(0, uv (w / 2 ^ m)), (1, iv b), (2, iv k), (7, iv b), (13, bv false)], lkH []⟩ →
    LoopC (cx Try.prog w0 I0 n) l1_centoref04_field Q ⟨lk [(0, uv w), (1, iv b), (2, iv k), (7, iv i)], lkH []⟩ := by
  intro m
  induction m with
  | zero =>
    intro w i h0 h1 h2 h3 hq
    have : i = b := by simpa using h3
    subst this
    refine loopC_once mixed l1_centoref04_field.eq_1 ?_
    simp
    simpa using hq
  | succ m ih =>
    intro w i h0 h1 h2 h3 hq
    refine loopC_once mixed l1_centoref04_field.eq_1 ?_
    have hi : i < b := by omega
    simp [hi]
    rw [i64_same (by omega) (by omega), Int.tdiv_eq_ediv_of_nonneg h0, u64_same (by omega) (by omega)]
    exact ih _ _ (by omega) (by omega) (by omega) (by omega) (by rw [pow_half]; exact hq)

theorem mod_half {w : Int} (m : Nat) (h0 : 0 ≤ w) : w % 2 ^ (m + 1) = w % 2 + 2 * (w / 2 % 2 ^ m) := by
  have hp : (0 : Int) < 2 ^ m := Int.pow_pos (by decide)
  have h1 : w / 2 % 2 ^ m = w / 2 - 2 ^ m * (w / 2 / 2 ^ m) := Int.emod_def ..
  have h2 : w % 2 ^ (m + 1) = w - 2 ^ (m + 1) * (w / 2 ^ (m + 1)) := Int.emod_def ..
  rw [h1, h2, pow_half, Int.pow_succ]
  have h3 : (2 : Int) ^ m * 2 * (w / (2 ^ m * 2)) = 2 * (2 ^ m * (w / (2 ^ m * 2))) := by rw [Int.mul_comm (2 ^ m) 2, Int.mul_assoc]
  rw [h3]
  omega

theorem field_l2 {n : Nat} {w0 : World} {I0 : Nat → Prop} {Q : Exit → Sta → Prop} {k : Int} (hb : k < 1000) : ∀ (m : Nat) (w i a p : Int), 0 ≤ w → w < 18446744073709551616 → 0 ≤ i → i + m = k →
    0 ≤ a → 0 < p → a < p → p * 2 ^ m ≤ 4611686018427387904 →
    (∀ w' p', Q (.exit 2) ⟨lk [(0, uv w'), (2, iv k), (8, iv (a + p * (w % 2 ^ m))), (9, iv p'), (10, iv k), (20, bv false)], lkH []⟩) →
    LoopC (cx Try.prog w0 I0 n) l2_centoref04_field Q ⟨lk [(0, uv w), (2, iv k), (8, iv a), (9, iv p), (10, iv i)], lkH []⟩ := by
  intro m
  induction m with
  | zero =>
    intro w i a p h0 h1 h2 h3 h4 h5 h6 h7 hq
    have : i = k := by simpa using h3
    subst this
    refine loopC_once mixed l2_centoref04_field.eq_1 ?_
    simp
    simpa using hq w p
  | succ m ih =>
    intro w i a p h0 h1 h2 h3 h4 h5 h6 h7 hq
    have hp : (0 : Int) < 2 ^ m := Int.pow_pos (by decide)
    have h8 : p * 2 ≤ 4611686018427387904 := by
      refine Int.le_trans ?_ h7
      refine Int.mul_le_mul_of_nonneg_left ?_ (by omega)
      rw [Int.pow_succ]; omega
    have h9 : 2 * p * 2 ^ m ≤ 4611686018427387904 := by
      have : 2 * p * 2 ^ m = p * 2 ^ (m + 1) := by rw [Int.pow_succ, Int.mul_comm 2 p, Int.mul_assoc, Int.mul_comm 2]
      omega
    refine loopC_once mixed l2_centoref04_field.eq_1 ?_
    have hi : i < k := by omega
    simp [hi]
    rw [i64_same (n := i + 1) (by omega) (by omega), Int.tdiv_eq_ediv_of_nonneg h0, Int.tmod_eq_emod_of_nonneg h0, u64_same (n := w / 2) (by omega) (by omega), i64_same (n := a + p) (by omega) (by omega), i64_same (n := 2 * p) (by omega) (by omega)]
    constructor
    · intro hw
      refine ih _ _ _ _ (by omega) (by omega) (by omega) (by omega) (by omega) (by omega) (by omega) h9 (fun w' p' => ?_)
      have := hq w' p'
      rw [mod_half m h0, hw, Int.mul_add, ← Int.mul_assoc, Int.mul_comm p 2, Int.mul_one, ← Int.add_assoc] at this
      exact this
    · intro hw
      have hw : w % 2 = 0 := by omega
      refine ih _ _ _ _ (by omega) (by omega) (by omega) (by omega) (by omega) (by omega) (by omega) h9 (fun w' p' => ?_)
      have := hq w' p'
      rw [mod_half m h0, hw, Int.mul_add, ← Int.mul_assoc, Int.mul_comm p 2, Int.mul_zero, Int.zero_add] at this
      exact this

theorem field_spec {w : Int} (h0 : 0 ≤ w) (h1 : w < 18446744073709551616) (b k : Nat) (hb : b < 100) (hk : k ≤ 32) : G.Spec Try.prog 122 [uv w, iv b, iv k] (iv (w / 2 ^ b % 2 ^ k)) := by
  refine spec_of t_centoref04_field (by simp) fun w0 I0 => ?_
  have hp : (0 : Int) < 2 ^ b := Int.pow_pos (by decide)
  have hq : (2 : Int) ^ k ≤ 4294967296 := by
    have h2 := Int.ofNat_le.2 (Nat.pow_le_pow_right (n := 2) (by decide) hk)
    rw [Int.natCast_pow] at h2
    exact h2
  unfold c_centoref04_field
  simp
  refine field_l1 (b := b) (k := k) (by omega) b w 0 h0 h1 (by omega) (by omega) ?_
  simp
  refine field_l2 (k := k) (by omega) k _ 0 0 1 (Int.ediv_nonneg h0 (by omega)) ?_ (by omega) (by omega) (by omega) (by omega) (by omega) (by omega) (fun w' p' => ?_)
  · exact Int.lt_of_le_of_lt (Int.ediv_le_self _ h0) h1
  simp
  exact frz_bare rfl

/-- A pointer, as numbers. -/
structure Pt where
  (kind off data ptrs code count seg : Int)
  dbl : Bool
deriving DecidableEq
@[simp] def Pt.a (p : Pt) : A := .agg [iv p.kind, iv p.off, iv p.data, iv p.ptrs, iv p.code, iv p.count, iv p.seg, bv p.dbl]

/-- The offset in a word's lower half. -/
def offs (w : Int) : Int := if w / 4 % 1073741824 < 536870912 then w / 4 % 1073741824 else w / 4 % 1073741824 - 1073741824
/-- A word's pointer. -/
def dec (w : Int) : Pt :=
  if w = 0 then ⟨0, 0, 0, 0, 0, 0, 0, false⟩
  else if w % 4 = 0 then ⟨1, offs w, w / 4294967296 % 65536, w / 281474976710656, 0, 0, 0, false⟩
  else if w % 4 = 1 then ⟨2, offs w, 0, 0, w / 4294967296 % 8, w / 34359738368, 0, false⟩
  else if w % 4 = 2 then ⟨3, w / 8 % 536870912, 0, 0, 0, 0, w / 4294967296, decide (w / 4 % 2 = 1)⟩
  else ⟨4, 0, 0, 0, 0, 0, 0, false⟩

theorem refDecode_spec {w : Int} (h0 : 0 ≤ w) (h1 : w < 18446744073709551616) : G.Spec Try.prog 90 [uv w] (dec w).a := by
  refine spec_of t_centoref04_Decode (by simp) fun w0 I0 => ?_
  unfold c_centoref04_Decode
  simp
  refine ⟨fun hw => ?_, fun hw => ?_⟩
  · subst hw; exact frz_bare rfl
  refine sc_call (field_spec h0 h1 2 30 (by decide) (by decide)) rfl ?_
  simp
  have hd : dec w = if w % 4 = 0 then ⟨1, offs w, w / 4294967296 % 65536, w / 281474976710656, 0, 0, 0, false⟩
    else if w % 4 = 1 then ⟨2, offs w, 0, 0, w / 4294967296 % 8, w / 34359738368, 0, false⟩
    else if w % 4 = 2 then ⟨3, w / 8 % 536870912, 0, 0, 0, 0, w / 4294967296, decide (w / 4 % 2 = 1)⟩
    else ⟨4, 0, 0, 0, 0, 0, 0, false⟩ := by rw [dec, if_neg hw]
  have ho : IntKind.i64.wrap (w / 4 % 1073741824 - 1073741824) = w / 4 % 1073741824 - 1073741824 := i64_same (by omega) (by omega)
  rw [ho]
  have hk : ∀ z : Int, w / 2 ^ 0 % 2 ^ 2 = z ↔ w % 4 = z := fun z => by simp
  have e32 : w / 2 ^ 32 % 2 ^ 16 = w / 4294967296 % 65536 := rfl
  have e48 : w / 2 ^ 48 % 2 ^ 16 = w / 281474976710656 := by show w / 281474976710656 % 65536 = _; omega
  have e35 : w / 2 ^ 35 % 2 ^ 29 = w / 34359738368 := by show w / 34359738368 % 536870912 = _; omega
  have e33 : w / 2 ^ 32 % 2 ^ 32 = w / 4294967296 := by show w / 4294967296 % 4294967296 = _; omega
  refine ⟨fun h => ?_, fun h => ?_⟩
  all_goals
    first
      | rw [← show offs w = w / 4 % 1073741824 - 1073741824 from if_neg (by omega)]
      | rw [← show offs w = w / 4 % 1073741824 from if_pos (by omega)]
    rw [k1_centoref04_Decode.eq_1]
    simp
    refine sc_call (field_spec h0 h1 0 2 (by decide) (by decide)) rfl ?_
    simp
    refine ⟨fun h => ?_, fun h => ?_⟩
    · refine sc_call (field_spec h0 h1 32 16 (by decide) (by decide)) rfl ?_
      simp
      refine sc_call (field_spec h0 h1 48 16 (by decide) (by decide)) rfl ?_
      rw [e48]
      simp
      rw [hd, if_pos h]
      exact frz_bare rfl
    refine ⟨fun h => ?_, fun h => ?_⟩
    · refine sc_call (field_spec h0 h1 32 3 (by decide) (by decide)) rfl ?_
      simp
      refine sc_call (field_spec h0 h1 35 29 (by decide) (by decide)) rfl ?_
      rw [e35]
      simp
      rw [hd, if_neg (by omega), if_pos h]
      exact frz_bare rfl
    refine ⟨fun h => ?_, fun h => ?_⟩
    · refine sc_call (field_spec h0 h1 3 29 (by decide) (by decide)) rfl ?_
      simp
      refine sc_call (field_spec h0 h1 32 32 (by decide) (by decide)) rfl ?_
      rw [e33]
      simp
      refine sc_call (field_spec h0 h1 2 1 (by decide) (by decide)) rfl ?_
      simp
      rw [hd, if_neg (by omega), if_neg (by omega), if_pos h]
      exact frz_bare rfl
    · rw [hd, if_neg (by omega), if_neg (by omega), if_neg (by omega)]
      exact frz_bare rfl
end Go.Proofs.Ytigdcnlhgelkaaa
