/-
  Chapter 6: landing pads.
-/
import Derived.Test.YtfdlelcipnabpaaD06d
import Derived.Laws.Bits128
namespace Go.Proofs.Ytfdlelcipnabpaa
set_option linter.unusedVariables false
set_option linter.unusedSimpArgs false
open Go Go.G Go.Proofs

/-- A right pointer to a struct or a list: its sums, its words. -/
theorem right_sums {p : Pt} (h : right p = true) : Sums p := by
  obtain ⟨k, o, d, q, co, n, s, b⟩ := p
  unfold right at h
  unfold Sums
  repeat' split at h
  all_goals simp at h
  all_goals simp only
  all_goals omega
/-- Where it stands does not matter. -/
theorem wordsP_off {p : Pt} {o : Int} : wordsP { p with off := o } = wordsP p := rfl
theorem right_words {p : Pt} (h : right p = true) (hk : p.kind = 1 ∨ p.kind = 2) : ∃ n : Nat, wordsP p = some (n : Int) := by
  obtain ⟨k, o, d, q, co, n, s, b⟩ := p
  simp only at hk
  rcases hk with rfl | rfl
  · simp only [right, show ¬ (1 : Int) = 0 from by decide, if_false, if_true, decide_eq_true_eq] at h
    obtain ⟨a1, a2, a3, a4, a5, a6, _⟩ := h
    exact ⟨(d + q).toNat, by simp [wordsP]; omega⟩
  · simp only [right, show ¬ (2 : Int) = 0 from by decide, show ¬ (2 : Int) = 1 from by decide, if_false, if_true, decide_eq_true_eq] at h
    obtain ⟨a1, a2, a3, a4, a5, a6, _⟩ := h
    by_cases h7 : co = 7
    · exact ⟨(n + 1).toNat, by simp [wordsP, h7]; omega⟩
    · have b0 : 0 ≤ n * bitsOf co := Int.mul_nonneg a5 (by unfold bitsOf; repeat' split; all_goals omega)
      refine ⟨((n * bitsOf co + 63) / 64).toNat, ?_⟩
      simp only [wordsP]
      rw [if_neg (by decide), if_neg (by omega), if_pos ⟨trivial, by omega, by omega, by omega, by omega⟩]
      congr 1
      omega

/-- The segments that the law lays. -/
def padsL (p : Pt) (m n : Nat) : List (List Int) := [encW { p with off := (m : Int) } :: List.replicate (n + m) 0, [2], [12884901894], [2 + (1 + m) * 8, encW { p with off := 0 }]]
theorem pads_ok (p : Pt) (m n : Nat) (h : right p = true) (hm : m < 8) (hn : n ≤ 40) : (padsL p m n).length * 24 ≤ 140737488355328 ∧ (∀ x, x ∈ padsL p m n → x.length * 8 ≤ 140737488355328) ∧ Wds (padsL p m n) := by
  have r1 := encW_range { p with off := (m : Int) }
  have r2 := encW_range { p with off := 0 }
  refine ⟨by simp [padsL], fun x hx => ?_, fun x hx y hy => ?_⟩
  · simp [padsL] at hx
    rcases hx with rfl | rfl | rfl | rfl <;> simp
    omega
  · simp [padsL] at hx
    rcases hx with rfl | rfl | rfl | rfl <;> simp at hy
    · rcases hy with rfl | ⟨_, rfl⟩
      · exact r1
      · omega
    · omega
    · omega
    · rcases hy with rfl | rfl
      · omega
      · exact r2
theorem pads_near {p : Pt} {m n : Nat} (hk : p.kind = 1 ∨ p.kind = 2) (hn : wordsP p = some (n : Int)) : nearP (padsL p m n) { p with off := (m : Int) } 0 0 = (⟨{ p with off := 0 }, 0, 1 + m⟩, 0) := by
  rw [nearP, if_pos (by simpa using hk), insideP]
  have hw : wordsP { p with off := (m : Int) } = some (n : Int) := hn
  simp only [hw]
  rw [if_pos]
  · simp
  · simp [hasW, padsL, szAt, seg]
    omega
theorem pads_word {p : Pt} {m n : Nat} : word (padsL p m n) 0 0 = some (encW { p with off := (m : Int) }) ∧ word (padsL p m n) 1 0 = some 2 ∧ word (padsL p m n) 2 0 = some 12884901894 ∧ word (padsL p m n) 3 0 = some (2 + (1 + m) * 8) ∧ word (padsL p m n) 3 1 = some (encW { p with off := 0 }) := by
  simp [word, seg, padsL]
theorem pads_one {p : Pt} {m n : Nat} (hk : p.kind = 1 ∨ p.kind = 2) (hb : right { p with off := (m : Int) } = true) (hn : wordsP p = some (n : Int)) : followP (padsL p m n) 0 0 = (⟨{ p with off := 0 }, 0, 1 + m⟩, 0) := by
  have e := enc_told (p := { p with off := (m : Int) }) (by rw [enc_right]; exact hb)
  have k0 : ¬ p.kind = 0 := by omega
  have k3 : p.kind ≠ 3 := by omega
  simp only [followP, pads_word.1, e]
  rw [if_neg k0, if_pos k3, pads_near hk hn]
theorem pads_two {p : Pt} {m n : Nat} (hk : p.kind = 1 ∨ p.kind = 2) (hb : right { p with off := (m : Int) } = true) (hn : wordsP p = some (n : Int)) : followP (padsL p m n) 1 0 = (⟨{ p with off := 0 }, 0, 1 + m⟩, 0) := by
  have e := enc_told (p := { p with off := (m : Int) }) (by rw [enc_right]; exact hb)
  have d : dec 2 = ⟨3, 0, 0, 0, 0, 0, 0, false⟩ := by decide
  simp only [followP, pads_word.2.1, d]
  simp [pads_word.1, e, pads_near hk hn]
theorem pads_three {p : Pt} {m n : Nat} (hk : p.kind = 1 ∨ p.kind = 2) (hb : right { p with off := 0 } = true) (hn : wordsP p = some (n : Int)) (hm : m < 8) : followP (padsL p m n) 2 0 = (⟨{ p with off := 0 }, 0, 1 + m⟩, 0) := by
  have e := enc_told (p := { p with off := 0 }) (by rw [enc_right]; exact hb)
  have d : dec 12884901894 = ⟨3, 0, 0, 0, 0, 0, 3, true⟩ := by decide
  have d2 : dec (2 + (1 + m) * 8) = ⟨3, 1 + m, 0, 0, 0, 0, 0, false⟩ := by
    rw [dec, if_neg (by omega), if_neg (by omega), if_neg (by omega), if_pos (by omega)]
    congr 1
    · omega
    · omega
    · simp; omega
  simp only [followP, pads_word.2.2.1, d]
  simp [doubleP, pads_word.2.2.2.1, pads_word.2.2.2.2, d2, e]
  rw [if_neg (by omega), if_neg (by omega), insideP]
  have hw : wordsP { p with off := 0 } = some (n : Int) := hn
  simp only [hw]
  rw [if_pos]
  simp [hasW, padsL, szAt, seg]
  omega

theorem i64_and7 (n : Int) : bits .and .i64 n 7 = n % 8 := by
  have h7 : (BitVec.ofInt 64 7).toNat = 2 ^ 3 - 1 := by decide
  have key : (BitVec.ofInt 64 n &&& BitVec.ofInt 64 7).toNat = (n % ((2 ^ 64 : Nat) : Int)).toNat % 2 ^ 3 := by
    rw [BitVec.toNat_and, BitVec.toNat_ofInt, h7, Nat.and_two_pow_sub_one_eq_mod]
  show IntKind.i64.wrap ((BitVec.ofInt 64 n &&& BitVec.ofInt 64 7).toNat : Nat) = n % 8
  rw [key, IntKind.wrap_i64]
  omega

set_option pp.deepTerms true in
set_option pp.maxSteps 1000000 in
set_option maxRecDepth 8000 in
theorem FarPads_spec (p : Pt) (k : Int) (k0 : -9223372036854775808 ≤ k) (k1 : k < 9223372036854775808) : G.Spec Try.prog 11 [p.a, iv k] (bv true) := by
  refine spec_of t_centolaw06_FarPads (by simp) fun w0 I0 => ?_
  unfold c_centolaw06_FarPads
  simp [i64_and7]
  have s0 : 0 ≤ k % 8 := by omega
  have s1 : k % 8 < 8 := by omega
  generalize k % 8 = skip at *
  by_cases hk : p.kind = 1 ∨ p.kind = 2
  case neg =>
    have hk1 : ¬ p.kind = 1 := by omega
    have hk2 : ¬ p.kind = 2 := by omega
    simp [hk1, hk2]
    refine sc_call_gf rfl (fun h => by cases h) (fun h => by cases h) (L := []) (x := .any) rfl ?_
    simp
    refine sc_call_gf rfl (fun h => by cases h) (fun h => by cases h) (L := []) (x := .any) rfl ?_
    simp
    refine sc_call awake6_spec rfl ?_
    simp
    exact frz_bare rfl
  have hd : (!decide (p.kind = 1) && !decide (p.kind = 2)) = false := by rcases hk with h | h <;> simp [h]
  simp only [hd]
  refine sc_call_gf rfl (fun _ => Right_spec p) (fun _ => rfl) rfl ?_
  cases hr : right p with
  | false =>
    simp
    refine sc_call_gf rfl (fun h => by cases h) (fun h => by cases h) (L := []) (x := .any) rfl ?_
    simp
    refine sc_call awake6_spec rfl ?_
    simp
    exact frz_bare rfl
  | true =>
  simp
  refine sc_call_gf rfl (fun _ => refWords_spec p (right_sums hr)) (fun _ => rfl) rfl ?_
  simp
  refine ⟨fun h => ?_, fun h40 => ?_⟩
  · refine sc_call awake6_spec rfl ?_
    simp
    exact frz_bare rfl
  refine sc_call (Mine6_spec ⟨{ p with off := skip }, 0, 0⟩) rfl ?_
  simp
  refine sc_call (Encode_spec { p with off := skip }) rfl ?_
  rw [enc_right]
  cases hb : right { p with off := skip } with
  | false =>
    have e : p = ⟨1, p.off, 0, 0, 0, 0, 0, false⟩ ∧ skip = 0 := by
      obtain ⟨q, o, d, r, co, n, s, b⟩ := p
      simp only at hk hd
      rcases hk with rfl | rfl
      · simp only [right, show ¬ (1 : Int) = 0 from by decide, if_false, if_true, decide_eq_true_eq, decide_eq_false_iff_not] at hr hb
        obtain ⟨a1, a2, a3, a4, a5, a6, a7, a8⟩ := hr
        simp only [Pt.mk.injEq, true_and] at a7
        obtain ⟨rfl, rfl, rfl, rfl⟩ := a7
        by_cases hz : skip = 0 ∧ d = 0 ∧ r = 0
        · obtain ⟨rfl, rfl, rfl⟩ := hz
          exact ⟨rfl, rfl⟩
        · exact absurd ⟨by omega, by omega, a3, a4, a5, a6, rfl, by omega⟩ hb
      · simp only [right, show ¬ (2 : Int) = 0 from by decide, show ¬ (2 : Int) = 1 from by decide, if_false, if_true, decide_eq_true_eq, decide_eq_false_iff_not] at hr hb
        obtain ⟨a1, a2, a3, a4, a5, a6, a7⟩ := hr
        simp only [Pt.mk.injEq, true_and] at a7
        obtain ⟨rfl, rfl, rfl, rfl⟩ := a7
        exact absurd ⟨by omega, by omega, a3, a4, a5, a6, rfl⟩ hb
    obtain ⟨e1, e2⟩ := e
    have k1 : p.kind = 1 := by rw [e1]
    have k2 : p.data = 0 := by rw [e1]
    have k3 : p.ptrs = 0 := by rw [e1]
    have k4 : p.code = 0 := by rw [e1]
    have k5 : p.count = 0 := by rw [e1]
    have k6 : p.seg = 0 := by rw [e1]
    have k7 : p.dbl = false := by rw [e1]
    simp [k1, k2, k3, k4, k5, k6, k7, e2]
    refine sc_call_gt rfl (fun _ => awake6_spec) (fun _ => rfl) rfl ?_
    simp
    exact frz_bare rfl
  | true =>
  simp
  refine sc_call (Mine6_spec ⟨{ p with off := 0 }, 0, 0⟩) rfl ?_
  simp
  refine sc_call (Encode_spec { p with off := 0 }) rfl ?_
  rw [enc_right]
  simp
  have hs0 : Sums { p with off := 0 } := by have := right_sums hr; exact this
  obtain ⟨n, hn⟩ := right_words hr hk
  refine sc_call (refWords_spec { p with off := 0 } hs0) rfl ?_
  rw [hn] at h40
  rw [wordsP_off, hn]
  simp only [Option.getD_some] at h40 ⊢
  obtain ⟨m, rfl⟩ := Int.eq_ofNat_of_zero_le s0
  have e1 : IntKind.i64.wrap (1 + m) = 1 + m := i64_same (by omega) (by omega)
  have e2 : IntKind.i64.wrap (1 + m + n) = ((n + m + 1 : Nat) : Int) := by rw [i64_same (by omega) (by omega)]; omega
  have e4 : ((n : Int) + m + 1).toNat = n + m + 1 := by omega
  have e3 : IntKind.u64.wrap (bits BinOp.or IntKind.i64 2 (IntKind.i64.wrap ((1 + m) * 2 ^ min 3 IntKind.i64.bits))) = 2 + (1 + m) * 8 := by
    have : ∀ m, m < 8 → IntKind.u64.wrap (bits BinOp.or IntKind.i64 2 (IntKind.i64.wrap ((1 + (m : Nat)) * 2 ^ min 3 IntKind.i64.bits))) = 2 + (1 + (m : Nat)) * 8 := by decide +kernel
    exact this m (by omega)
  simp [e1, e2, e3, e4, List.replicate_succ]
  refine ⟨by omega, by omega, ?_⟩
  refine stop_le (le_freezeL (c := cx Try.prog w0 I0 151) [[1]] 9 (ws (encW { p with off := (m : Int) } :: List.replicate (n + m) 0)) (fun _ h => h) ?_) (stop_go ?_)
  · simp [onlyH]
    have := frz_osl (H := lkH [([0], ⟨1, .none⟩), ([1], ⟨1, .arr 1 (uv (encW { p with off := (m : Int) }) :: List.replicate (n + m) (uv 0))⟩)]) (o := [1]) (u := 1) (off := 0) (len := n + m + 1) (sz := 1) (xs := uv (encW { p with off := (m : Int) }) :: List.replicate (n + m) (uv 0)) (by simp) (by simp) (by simp [List.take_of_length_le])
    simp [List.take_of_length_le] at this
    simpa [ws] using this
  simp [lessH]
  have hbb := pads_ok p m n hr (by omega) (by omega)
  obtain ⟨b1, b2, b3⟩ := hbb
  refine sc_call ((of_spec (padsL p m n) b1 b2).soft (by simp [A.softL, A.soft, softL_map, Function.comp_def, padsL])) rfl ?_
  simp
  have hr0 := hr
  refine sc_call (follow_spec (padsL p m n) b2 b3 0 0) rfl ?_
  simp
  refine sc_call (follow_spec (padsL p m n) b2 b3 1 0) rfl ?_
  simp
  refine sc_call (follow_spec (padsL p m n) b2 b3 2 0) rfl ?_
  rw [pads_one hk hb hn, pads_two hk hb hn]
  simp
  cases h0 : right { p with off := 0 } with
  | false =>
    simp
    refine sc_call_gt rfl (fun _ => awake6_spec) (fun _ => rfl) rfl ?_
    simp
    exact frz_bare rfl
  | true =>
    rw [pads_three hk h0 hn (by omega)]
    simp [e1]
    refine sc_call_gt rfl (fun _ => awake6_spec) (fun _ => rfl) rfl ?_
    simp
    exact frz_bare rfl
end Go.Proofs.Ytfdlelcipnabpaa
