/-
  Chapter 4: the statements.
-/
import Derived.Test.YtfdlelcipnabpaaD04b
namespace Go.Proofs.Ytfdlelcipnabpaa
set_option linter.unusedVariables false
set_option linter.unusedSimpArgs false
open Go Go.G Go.Proofs

theorem dec_kind4 {w : Int} (h : (dec w).kind = 4) : encB (dec w) = false := by simp [encB, h]
theorem offs_in (w : Int) : -536870912 ≤ offs w ∧ offs w < 536870912 ∧ offs w * 4 % 4294967296 = w / 4 % 1073741824 * 4 := by
  unfold offs
  split <;> omega

theorem enc_dec {w : Int} (h0 : 0 ≤ w) (h1 : w < 18446744073709551616) (h : (dec w).kind ≠ 4) : encW (dec w) = w ∧ encB (dec w) = true := by
  obtain ⟨o1, o2, o3⟩ := offs_in w
  have e : encW (dec w) = w := by
    by_cases h2 : w = 0
    · subst h2; decide
    by_cases h3 : w % 4 = 0
    · rw [show dec w = _ from (if_neg h2).trans (if_pos h3)]
      rw [encW, if_pos rfl, if_pos ⟨o1, o2, by dsimp only; omega, by dsimp only; omega, by dsimp only; omega, by dsimp only; omega⟩]
      simp only
      omega
    by_cases h4 : w % 4 = 1
    · rw [show dec w = _ from (if_neg h2).trans ((if_neg h3).trans (if_pos h4))]
      rw [encW, if_neg (by simp), if_pos rfl, if_pos ⟨o1, o2, by dsimp only; omega, by dsimp only; omega, by dsimp only; omega, by dsimp only; omega⟩]
      simp only
      omega
    by_cases h5 : w % 4 = 2
    · rw [show dec w = _ from (if_neg h2).trans ((if_neg h3).trans ((if_neg h4).trans (if_pos h5)))]
      rw [encW, if_neg (by simp), if_neg (by simp), if_pos rfl, if_pos ⟨by dsimp only; omega, by dsimp only; omega, by dsimp only; omega, by dsimp only; omega⟩]
      simp only [decide_eq_true_eq]
      split <;> omega
    · rw [show dec w = _ from (if_neg h2).trans ((if_neg h3).trans ((if_neg h4).trans (if_neg h5)))] at h
      exact absurd rfl h
  exact ⟨e, by simp [encB, e, h]⟩

theorem PtrDecodes_spec {w : Int} (h0 : 0 ≤ w) (h1 : w < 18446744073709551616) : G.Spec Try.prog 3 [uv w] (bv true) := by
  refine spec_of t_centolaw04_PtrDecodes (by simp) fun w0 I0 => ?_
  unfold c_centolaw04_PtrDecodes
  simp
  refine sc_call (Decode_spec h0 h1) rfl ?_
  simp
  refine sc_call (refDecode_spec h0 h1) rfl ?_
  simp
  refine sc_call (mine_spec _) rfl ?_
  simp
  refine sc_call (Encode_spec _) rfl ?_
  simp
  refine ⟨fun h => ?_, fun h => ?_⟩
  · rw [dec_kind4 h]
    refine sc_call_gt rfl (fun _ => awake_spec) (fun e => rfl) rfl ?_
    simp
    exact frz_bare rfl
  · obtain ⟨e1, e2⟩ := enc_dec h0 h1 h
    rw [e1, e2]
    simp
    refine sc_call_gt rfl (fun _ => awake_spec) (fun e => rfl) rfl ?_
    simp
    exact frz_bare rfl

/-- Does the document give it a word? -/
def right (p : Pt) : Bool :=
  if p.kind = 0 then decide (p = ⟨0, 0, 0, 0, 0, 0, 0, false⟩)
  else if p.kind = 1 then decide (-536870912 ≤ p.off ∧ p.off < 536870912 ∧ 0 ≤ p.data ∧ p.data < 65536 ∧ 0 ≤ p.ptrs ∧ p.ptrs < 65536 ∧ p = ⟨1, p.off, p.data, p.ptrs, 0, 0, 0, false⟩ ∧ (p.off ≠ 0 ∨ p.data ≠ 0 ∨ p.ptrs ≠ 0))
  else if p.kind = 2 then decide (-536870912 ≤ p.off ∧ p.off < 536870912 ∧ 0 ≤ p.code ∧ p.code < 8 ∧ 0 ≤ p.count ∧ p.count < 536870912 ∧ p = ⟨2, p.off, 0, 0, p.code, p.count, 0, false⟩)
  else if p.kind = 3 then decide (0 ≤ p.off ∧ p.off < 536870912 ∧ 0 ≤ p.seg ∧ p.seg < 4294967296 ∧ p = ⟨3, p.off, 0, 0, 0, 0, p.seg, p.dbl⟩)
  else false

set_option maxRecDepth 8000 in
theorem Right_spec (p : Pt) : G.Spec Try.prog 17 [p.a] (bv (right p)) := by
  refine spec_of t_centoref04_Right (by simp) fun w0 I0 => ?_
  unfold c_centoref04_Right
  simp
  obtain ⟨k, o, d, q, co, n, s, b⟩ := p
  simp only
  refine ⟨fun h => ?_, fun h => ⟨fun h2 => ?_, fun h2 => ⟨fun h3 => ?_, fun h3 => ⟨fun h4 => ?_, fun h4 => ?_⟩⟩⟩⟩
  · rw [show (k == 0 && (o == 0 && (d == 0 && (q == 0 && (co == 0 && (n == 0 && (s == 0 && !b))))))) = right ⟨k, o, d, q, co, n, s, b⟩ from by
      refine Bool.eq_iff_iff.2 ?_
      simp [right, h]]
    exact frz_bare rfl
  · refine GtG_split (fun e => ?_) (fun e => ?_)
    · simp only [e]
      by_cases ho : o = 0 <;> by_cases hd : d = 0 <;> simp [ho, hd]
      all_goals
        simp at e
        obtain ⟨⟨⟨⟨⟨⟨e1, e2⟩, e3⟩, e4⟩, e5⟩, e6⟩, e7, e8, e9, e10, e11⟩ := e
        subst e7 e8 e9 e10 e11
      · rw [show (!decide (q = 0)) = right ⟨1, 0, 0, q, 0, 0, 0, false⟩ from by simp [right, e5, e6]]
        exact frz_bare rfl
      · rw [show true = right ⟨1, 0, d, q, 0, 0, 0, false⟩ from by simp [right, e3, e4, e5, e6, hd]]
        exact frz_bare rfl
      · rw [show true = right ⟨1, o, 0, q, 0, 0, 0, false⟩ from by simp [right, e1, e2, e5, e6, ho]]
        exact frz_bare rfl
      · rw [show true = right ⟨1, o, d, q, 0, 0, 0, false⟩ from by simp [right, e1, e2, e3, e4, e5, e6, ho]]
        exact frz_bare rfl
    · simp only [e]
      simp
      rw [show right ⟨k, o, d, q, co, n, s, b⟩ = false from by
        simp only [right, if_neg h, if_pos h2, decide_eq_false_iff_not]
        intro hx
        simp at hx
        obtain ⟨x1, x2, x3, x4, x5, x6, ⟨y1, y2, y3, y4, y5⟩, _⟩ := hx
        simp [x1, x2, x3, x4, x5, x6, y1, y2, y3, y4, y5] at e]
      exact frz_bare rfl
  · rw [show (decide (-536870912 ≤ o) && decide (o < 536870912) && decide (0 ≤ co) && decide (co < 8) && decide (0 ≤ n) && decide (n < 536870912) && (k == 2 && (d == 0 && (q == 0 && (s == 0 && !b))))) = right ⟨k, o, d, q, co, n, s, b⟩ from by
      refine Bool.eq_iff_iff.2 ?_
      simp [right, h3, and_assoc]]
    exact frz_bare rfl
  · rw [show (decide (0 ≤ o) && decide (o < 536870912) && decide (0 ≤ s) && decide (s < 4294967296) && (k == 3 && (d == 0 && (q == 0 && (co == 0 && n == 0))))) = right ⟨k, o, d, q, co, n, s, b⟩ from by
      refine Bool.eq_iff_iff.2 ?_
      simp [right, h4, and_assoc]]
    exact frz_bare rfl
  · rw [show right ⟨k, o, d, q, co, n, s, b⟩ = false from by simp [right, h, h2, h3, h4]]
    exact frz_bare rfl
end Go.Proofs.Ytfdlelcipnabpaa
