/-
  Chapter 5: the laws.
-/
import Derived.Test.YtfdlelcipnabpaaD05d
namespace Go.Proofs.Ytfdlelcipnabpaa
set_option linter.unusedVariables false
set_option linter.unusedSimpArgs false
open Go Go.G Go.Proofs

theorem newAr_ok {z m : Int} (h : z < 9223372036854775808) : (newAr z m).Ok := by
  refine ⟨by simp [newAr], ?_, ?_, ?_, ?_, by simp [newAr], by simp [newAr]⟩
  all_goals
    simp only [newAr]
    omega
theorem newAr_fam {z m : Int} (p : Nm) : (arF 0 (newAr z m) p).ob = .none ∨ 1 ≤ (arF 0 (newAr z m) p).u := by
  match p with
  | [] => exact .inr (Nat.le_refl _)
  | [0] => exact .inr (Nat.le_refl _)
  | [0, i] => exact .inl rfl
  | (a + 1) :: q => exact .inl rfl
  | 0 :: a :: b :: q => exact .inl rfl

theorem growS_ok {S : Ar} (h : S.Ok) {k n : Nat} (h1 : S.used + n ≤ S.most) : (growS S k n).Ok := by
  refine ⟨?_, h1, h.most1, h.size0, h.size1, by simpa [growS] using h.len, fun e he => ?_⟩
  · have := h.used0; simp only [growS]; omega
  · simp only [growS] at he ⊢
    obtain ⟨i, hi, rfl⟩ := List.getElem_of_mem he
    simp only [List.getElem_modify]
    simp at hi
    have := h.seg _ (List.getElem_mem hi)
    split
    · simp; omega
    · omega
theorem atS_ok {S : Ar} (h : S.Ok) (n : Int) : (atS S n).Ok := by
  unfold atS
  split
  · rename_i hn
    refine ⟨h.used0, h.used1, h.most1, h.size0, h.size1, ?_, fun e he => ?_⟩
    · simp only [moreS, List.length_append, List.length_singleton]
      simp [newSeg] at hn
      have := h.len
      rcases hn with e | e
      · simp [e]
      · omega
    · simp only [moreS, List.mem_append, List.mem_singleton] at he
      rcases he with he | rfl
      · exact h.seg e he
      · exact h.used0
  · exact h
theorem giveS_ok {S : Ar} (h : S.Ok) (n : Int) : (giveS S n).Ok := by
  unfold giveS
  split
  · rename_i hg
    simp [okGive] at hg
    have hu : (atS S n).used = S.used ∧ (atS S n).most = S.most := by unfold atS; split <;> exact ⟨rfl, rfl⟩
    refine growS_ok (atS_ok h n) ?_
    rw [hu.1, hu.2]
    omega
  · exact h
theorem inS_ok {S : Ar} (h : S.Ok) (s n : Int) : (inS' S s n).Ok := by
  unfold inS'
  split
  · rename_i hg
    simp [okIn] at hg
    exact growS_ok h (by omega)
  · exact h

theorem awake5_spec : G.Spec Try.prog 22 [] (bv true) := by
  refine spec_of t_centolaw05_awake (by simp) fun w0 I0 => ?_
  unfold c_centolaw05_awake
  simp
  refine sc_new 0 rfl (New_spec 4 9) (fun p => rfl) rfl (fun _ _ => rfl) (fun _ => ⟨trivial, trivial, trivial⟩) newAr_fam (by simp) ?_
  simp
  have k0 : (newAr 4 9).Ok := newAr_ok (by decide)
  have k1 := giveS_ok k0 3
  have k2 := giveS_ok k1 2
  refine sc_ar (r := 0) (Give_spec (newAr 4 9) k0 3) (fun p => rfl) rfl (fun _ _ => rfl) (fun _ => ⟨trivial, trivial⟩) (fun _ _ => rfl) (fun _ => ⟨trivial, trivial, trivial, trivial⟩) (by simp) ?_
  simp
  refine sc_ar (r := 0) (Give_spec (giveS (newAr 4 9) 3) k1 2) (fun p => rfl) rfl (fun _ _ => rfl) (fun _ => ⟨trivial, trivial⟩) (fun _ _ => rfl) (fun _ => ⟨trivial, trivial, trivial, trivial⟩) (by simp) ?_
  simp
  refine sc_ar (r := 0) (Give_spec (giveS (giveS (newAr 4 9) 3) 2) k2 5) (fun p => rfl) rfl (fun _ _ => rfl) (fun _ => ⟨trivial, trivial⟩) (fun _ _ => rfl) (fun _ => ⟨trivial, trivial, trivial, trivial⟩) (by simp) ?_
  have a1 : okGive (newAr 4 9) 3 = true := by decide +kernel
  have a2 : (atS (newAr 4 9) 3).l.length = 1 := by decide +kernel
  have a3 : szAt (atS (newAr 4 9) 3).w 0 = 0 := by decide +kernel
  have b1 : okGive (giveS (newAr 4 9) 3) 2 = true := by decide +kernel
  have b2 : (atS (giveS (newAr 4 9) 3) 2).l.length = 2 := by decide +kernel
  have b3 : szAt (atS (giveS (newAr 4 9) 3) 2).w 1 = 0 := by decide +kernel
  have c1 : okGive (giveS (giveS (newAr 4 9) 3) 2) 5 = false := by decide +kernel
  simp [a1, a2, a3, b1, b2, b3, c1]
  exact frz_bare rfl
end Go.Proofs.Ytfdlelcipnabpaa
