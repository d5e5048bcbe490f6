/-
  Chapter 4: any pointer has a word just if the document says so.
-/
import Derived.Test.YtfdlelcipnabpaaD04c
namespace Go.Proofs.Ytfdlelcipnabpaa
set_option linter.unusedVariables false
set_option linter.unusedSimpArgs false
open Go Go.G Go.Proofs

theorem offs_of {o r : Int} (h1 : -536870912 ≤ o) (h2 : o < 536870912) (h3 : 0 ≤ r) (k : Int) (hk : 0 ≤ k) (hk4 : k < 4) : offs (o * 4 % 4294967296 + k + r * 4294967296) = o := by
  unfold offs
  split <;> omega

theorem enc_right (p : Pt) : encB p = right p := by
  obtain ⟨k, o, d, q, co, n, s, b⟩ := p
  by_cases h1 : k = 1
  · subst h1
    by_cases hr : -536870912 ≤ o ∧ o < 536870912 ∧ 0 ≤ d ∧ d ≤ 65535 ∧ 0 ≤ q ∧ q ≤ 65535
    · have e : encW ⟨1, o, d, q, co, n, s, b⟩ = o * 4 % 4294967296 + d * 4294967296 + q * 281474976710656 := by rw [encW, if_pos rfl, if_pos hr]
      obtain ⟨a1, a2, a3, a4, a5, a6⟩ := hr
      refine Bool.eq_iff_iff.2 ?_
      simp only [encB, e]
      by_cases hz : o = 0 ∧ d = 0 ∧ q = 0
      · obtain ⟨rfl, rfl, rfl⟩ := hz
        simp [dec, right]
      · have e2 : dec (o * 4 % 4294967296 + d * 4294967296 + q * 281474976710656) = ⟨1, o, d, q, 0, 0, 0, false⟩ := by
          have eo := offs_of (r := d + q * 65536) a1 a2 (by omega) 0 (by omega) (by omega)
          rw [show o * 4 % 4294967296 + 0 + (d + q * 65536) * 4294967296 = o * 4 % 4294967296 + d * 4294967296 + q * 281474976710656 from by omega] at eo
          rw [dec, if_neg (by omega), if_pos (by omega), eo]
          congr 1 <;> omega
        rw [e2]
        cases b <;> simp [right] <;> omega
    · have e : encW ⟨1, o, d, q, co, n, s, b⟩ = 0 := by rw [encW, if_pos rfl, if_neg hr]
      refine Bool.eq_iff_iff.2 ?_
      simp [encB, e, dec, right]
      omega
  by_cases h2 : k = 2
  · subst h2
    by_cases hr : -536870912 ≤ o ∧ o < 536870912 ∧ 0 ≤ co ∧ co ≤ 7 ∧ 0 ≤ n ∧ n ≤ 536870911
    · have e : encW ⟨2, o, d, q, co, n, s, b⟩ = o * 4 % 4294967296 + 1 + co * 4294967296 + n * 34359738368 := by rw [encW, if_neg (by simp), if_pos rfl, if_pos hr]
      obtain ⟨a1, a2, a3, a4, a5, a6⟩ := hr
      refine Bool.eq_iff_iff.2 ?_
      simp only [encB, e]
      have e2 : dec (o * 4 % 4294967296 + 1 + co * 4294967296 + n * 34359738368) = ⟨2, o, 0, 0, co, n, 0, false⟩ := by
        have eo := offs_of (r := co + n * 8) a1 a2 (by omega) 1 (by omega) (by omega)
        rw [show o * 4 % 4294967296 + 1 + (co + n * 8) * 4294967296 = o * 4 % 4294967296 + 1 + co * 4294967296 + n * 34359738368 from by omega] at eo
        rw [dec, if_neg (by omega), if_neg (by omega), if_pos (by omega), eo]
        congr 1 <;> omega
      rw [e2]
      cases b <;> simp [right] <;> omega
    · have e : encW ⟨2, o, d, q, co, n, s, b⟩ = 0 := by rw [encW, if_neg (by simp), if_pos rfl, if_neg hr]
      refine Bool.eq_iff_iff.2 ?_
      simp [encB, e, dec, right]
      omega
  by_cases h3 : k = 3
  · subst h3
    by_cases hr : 0 ≤ o ∧ o ≤ 536870911 ∧ 0 ≤ s ∧ s ≤ 4294967295
    · have e : encW ⟨3, o, d, q, co, n, s, b⟩ = o * 8 + 2 + s * 4294967296 + (if b = true then 4 else 0) := by rw [encW, if_neg (by simp), if_neg (by simp), if_pos rfl, if_pos hr]
      obtain ⟨a1, a2, a3, a4⟩ := hr
      refine Bool.eq_iff_iff.2 ?_
      simp only [encB, e]
      have e2 : dec (o * 8 + 2 + s * 4294967296 + (if b = true then 4 else 0)) = ⟨3, o, 0, 0, 0, 0, s, b⟩ := by
        cases b with
        | true =>
          rw [if_pos rfl, dec, if_neg (by omega), if_neg (by omega), if_neg (by omega), if_pos (by omega)]
          congr 1 <;> first | omega | (simp; omega)
        | false =>
          rw [if_neg (by simp), dec, if_neg (by omega), if_neg (by omega), if_neg (by omega), if_pos (by omega)]
          congr 1 <;> first | omega | (simp; omega)
      rw [e2]
      simp [right]
      omega
    · have e : encW ⟨3, o, d, q, co, n, s, b⟩ = 0 := by rw [encW, if_neg (by simp), if_neg (by simp), if_pos rfl, if_neg hr]
      refine Bool.eq_iff_iff.2 ?_
      simp [encB, e, dec, right]
      omega
  have e : encW ⟨k, o, d, q, co, n, s, b⟩ = 0 := by rw [encW, if_neg h1, if_neg h2, if_neg h3]
  refine Bool.eq_iff_iff.2 ?_
  simp [encB, e, dec, right, h1, h2, h3]
  by_cases h0 : k = 0
  · cases b <;> simp [h0] <;> omega
  · simp [h0]
    intro hk
    omega
theorem enc_told {p : Pt} (h : encB p = true) : dec (encW p) = p := by
  simp [encB] at h
  exact h.1

theorem PtrEncodes_spec (p : Pt) : G.Spec Try.prog 4 [p.a] (bv true) := by
  refine spec_of t_centolaw04_PtrEncodes (by simp) fun w0 I0 => ?_
  unfold c_centolaw04_PtrEncodes
  simp
  refine sc_call (mine_spec p) rfl ?_
  simp
  refine sc_call (Encode_spec _) rfl ?_
  simp
  have hr := Right_spec p
  rw [← enc_right] at hr
  refine sc_call hr rfl ?_
  simp
  obtain ⟨r1, r2⟩ := encW_range p
  cases hb : encB p with
  | false =>
    refine sc_call_gf (q := true) rfl (fun h => by cases h) (fun h => by cases h) (L := []) (x := .any) rfl ?_
    simp
    refine sc_call_gf (q := true) rfl (fun h => by cases h) (fun h => by cases h) (L := []) (x := .any) rfl ?_
    simp
    refine sc_call_g (q := false) rfl (fun h => by cases h) (x := .any) ?_
    simp
    refine sc_call_gt (q := true) rfl (fun _ => awake_spec) (fun _ => rfl) rfl ?_
    simp
    exact frz_bare rfl
  | true =>
    refine sc_call_gf (q := false) rfl (fun _ => Decode_spec r1 r2) (fun _ => rfl) rfl ?_
    simp [enc_told hb]
    refine sc_call_gf (q := false) rfl (fun _ => mine_spec p) (fun _ => rfl) rfl ?_
    simp
    refine sc_call_gt (q := true) rfl (fun _ => refDecode_spec r1 r2) (fun _ => rfl) rfl ?_
    simp [enc_told hb]
    refine sc_call_gt (q := true) rfl (fun _ => awake_spec) (fun _ => rfl) rfl ?_
    simp
    exact frz_bare rfl
end Go.Proofs.Ytfdlelcipnabpaa
