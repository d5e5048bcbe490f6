/-
  Chapter 6's laws.
-/
import Derived.Test.YtfdlelcipnabpaaD06c
import Derived.Test.YtfdlelcipnabpaaGLo
namespace Go.Proofs.Ytfdlelcipnabpaa
set_option linter.unusedVariables false
set_option linter.unusedSimpArgs false
open Go Go.G Go.Proofs

theorem Mine6_spec (x : Lc) : G.Spec Try.prog 37 [x.a] x.a := by
  refine spec_of t_centolaw06_Mine (by simp) fun w0 I0 => ?_
  unfold c_centolaw06_Mine
  simp
  exact frz_bare rfl

theorem awake6_spec : G.Spec Try.prog 38 [] (bv true) := by
  refine spec_of t_centolaw06_awake (by simp) fun w0 I0 => ?_
  unfold c_centolaw06_awake
  simp
  refine sc_call ((of_spec [[4294967296, 7]] (by simp) (by simp)).soft rfl) rfl ?_
  simp
  refine sc_call (follow_spec [[4294967296, 7]] (by simp) (by simp [Wds]) 0 0) rfl ?_
  have e : followP [[4294967296, 7]] 0 0 = (⟨⟨1, 0, 1, 0, 0, 0, 0, false⟩, 0, 1⟩, 0) := by decide +kernel
  simp [e]
  exact frz_bare rfl

theorem FarFollows_spec (l : List (List Int)) (hl : l.length * 24 ≤ 140737488355328) (hb : ∀ x, x ∈ l → x.length * 8 ≤ 140737488355328) (hw : Wds l) (s a : Int) : G.Spec Try.prog 9 [sgs l, iv s, iv a] (bv true) := by
  refine spec_of t_centolaw06_FarFollows (by simp) fun w0 I0 => ?_
  unfold c_centolaw06_FarFollows
  simp
  refine sc_call (of_spec l hl hb) rfl ?_
  simp
  refine sc_call (follow_spec l hb hw s a) rfl ?_
  simp
  refine sc_call (refFollow_spec l hb hw s a) rfl ?_
  simp
  refine sc_call (Mine6_spec _) rfl ?_
  simp
  refine sc_call_gt rfl (fun _ => awake6_spec) (fun _ => rfl) rfl ?_
  simp
  exact frz_bare rfl

theorem dec_some {w : Int} (h0 : 0 ≤ w) (h1 : w < 18446744073709551616) (h : (dec w).kind = 1 ∨ (dec w).kind = 2) : (wordsP (dec w)).isSome = true := by
  unfold dec at h ⊢
  repeat' split
  · simp_all
  · rfl
  · by_cases h7 : w / 4294967296 % 8 = 7
    · simp [wordsP, h7]
    · have a1 : w / 4294967296 % 8 ≤ 6 := by omega
      have a2 : w / 34359738368 ≤ 536870911 := by omega
      simp only [wordsP]
      rw [if_neg (by omega), if_neg (by omega), if_pos ⟨trivial, by omega, a1, by omega, a2⟩]
      rfl
  · simp_all
  · simp_all
theorem some_kind {p : Pt} (h : (wordsP p).isSome = true) : p.kind = 1 ∨ p.kind = 2 := by
  unfold wordsP at h
  repeat' split at h
  all_goals first | omega | cases h

/-- What is told with no error. -/
def Good (l : List (List Int)) (x : Lc × Int) : Prop := (x.2 ≠ 0 ∧ x.1 = Lc.zero) ∨ (x.2 = 0 ∧ (x.1 = Lc.zero ∨ ((wordsP x.1.p).isSome = true ∧ Sums x.1.p ∧ x.1.p.off = 0 ∧ hasW l x.1.s x.1.at_ ((wordsP x.1.p).getD 0) = true)))
theorem inside_good {l : List (List Int)} {x : Lc} (h : (wordsP x.p).isSome = true) (hs : Sums x.p) : Good l (insideP l x) := by
  unfold insideP Good
  split
  · exact .inr ⟨rfl, .inr ⟨h, hs, rfl, by assumption⟩⟩
  · exact .inl ⟨by simp, rfl⟩
theorem near_good {l : List (List Int)} {p : Pt} {s a : Int} (h : p.kind = 1 ∨ p.kind = 2 → (wordsP p).isSome = true) (hs : Sums p) : Good l (nearP l p s a) := by
  unfold nearP
  split
  · exact inside_good (h (by assumption)) hs
  · split <;> exact .inl ⟨by simp, rfl⟩
theorem follow_good {l : List (List Int)} (hw : Wds l) (s a : Int) : Good l (followP l s a) := by
  unfold followP
  split
  · exact .inl ⟨by simp, rfl⟩
  · rename_i w h1
    obtain ⟨v0, v1⟩ := word_in hw h1
    split
    · exact .inr ⟨rfl, .inl rfl⟩
    split
    · exact near_good (dec_some v0 v1) (dec_sums v0 v1)
    split
    · unfold doubleP
      split
      · rename_i x y e1 e2
        obtain ⟨u0, u1⟩ := word_in hw e2
        split
        · exact .inl ⟨by simp, rfl⟩
        split
        · exact .inl ⟨by simp, rfl⟩
        split
        · exact .inl ⟨by simp, rfl⟩
        · exact inside_good (dec_some u0 u1 (by omega)) (dec_sums u0 u1)
      · exact .inl ⟨by simp, rfl⟩
    · split
      · exact .inl ⟨by simp, rfl⟩
      · rename_i v h2
        obtain ⟨u0, u1⟩ := word_in hw h2
        exact near_good (dec_some u0 u1) (dec_sums u0 u1)

theorem FarWithin_spec (l : List (List Int)) (hl : l.length * 24 ≤ 140737488355328) (hb : ∀ x, x ∈ l → x.length * 8 ≤ 140737488355328) (hw : Wds l) (s a : Int) : G.Spec Try.prog 10 [sgs l, iv s, iv a] (bv true) := by
  refine spec_of t_centolaw06_FarWithin (by simp) fun w0 I0 => ?_
  unfold c_centolaw06_FarWithin
  simp
  refine sc_call (of_spec l hl hb) rfl ?_
  simp
  refine sc_call (follow_spec l hb hw s a) rfl ?_
  rcases follow_good hw s a with ⟨h1, h2⟩ | ⟨h1, h2⟩
  · simp [h1, h2, Lc.zero, Pt.zero]
    refine sc_call_gt rfl (fun _ => awake6_spec) (fun _ => rfl) rfl ?_
    simp
    exact frz_bare rfl
  generalize followP l s a = x at *
  by_cases hz : x.1 = Lc.zero
  · simp [h1, hz, Lc.zero, Pt.zero]
    refine sc_call_gt rfl (fun _ => awake6_spec) (fun _ => rfl) rfl ?_
    simp
    exact frz_bare rfl
  rcases h2 with h2 | ⟨h2, h3, h4, h5⟩
  · exact absurd h2 hz
  have hk : ¬ x.1.p.kind = 0 := by have := some_kind h2; omega
  obtain ⟨⟨p, s', a'⟩, e⟩ := x
  simp only at h1 h2 h3 h4 h5 hk
  simp [h1, hk]
  refine sc_call (words_spec p h3) rfl ?_
  simp [h2, h4]
  refine sc_call_gt rfl (fun _ => has_spec l hb s' a' _) (fun _ => rfl) rfl ?_
  simp [h5]
  refine sc_call_gt rfl (fun _ => awake6_spec) (fun _ => rfl) rfl ?_
  simp
  exact frz_bare rfl
end Go.Proofs.Ytfdlelcipnabpaa
