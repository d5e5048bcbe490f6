/-
  Plain: what counts at the end of words and kids; what trees that mean the same have.
-/
import Derived.Test.YtigdcnlhgelkaaaP07
namespace Go.PL
set_option linter.unusedVariables false
set_option linter.unusedSimpArgs false

theorem trimW_zero {w : List Int} {n : Nat} (h : n < w.length) (h0 : w[n] = 0) : trimW (w.take (n + 1)) = trimW (w.take n) := by
  rw [List.take_succ_eq_append_getElem h, trimW_snoc, if_pos h0]
theorem trimW_stop {w : List Int} {n : Nat} (h : n < w.length) (h0 : w[n] ≠ 0) : trimW (w.take (n + 1)) = w.take (n + 1) := by
  rw [List.take_succ_eq_append_getElem h, trimW_snoc, if_neg h0]
theorem trimK_zero {w : List T} {n : Nat} (h : n < w.length) (h0 : w[n].kind = 0) : trimK (w.take (n + 1)) = trimK (w.take n) := by
  rw [List.take_succ_eq_append_getElem h, trimK_snoc, if_pos h0]
theorem trimK_stop {w : List T} {n : Nat} (h : n < w.length) (h0 : w[n].kind ≠ 0) : trimK (w.take (n + 1)) = w.take (n + 1) := by
  rw [List.take_succ_eq_append_getElem h, trimK_snoc, if_neg h0]
theorem trimK_map_len (l : List T) : (trimK (l.map norm)).length = (trimK l).length := by
  induction l using snocInd with
  | h0 => rfl
  | h1 l x ih =>
    rw [List.map_append, List.map_cons, List.map_nil, trimK_snoc, trimK_snoc, norm_kind]
    split
    · exact ih
    · simp
theorem trimK_map (l : List T) : trimK (l.map norm) = (l.map norm).take (trimK l).length := by
  rw [← trimK_map_len]; exact trimK_take _

/-- How many words, and kids, count. -/
def nW (t : T) : Nat := if t.kind = 1 then (trimW t.words).length else t.words.length
def nK (t : T) : Nat := if t.kind = 1 then (trimK t.kids).length else t.kids.length
theorem nW_le (t : T) : nW t ≤ t.words.length := by unfold nW; split; exact trimW_le _; exact Nat.le_refl _
theorem nK_le (t : T) : nK t ≤ t.kids.length := by unfold nK; split; exact trimK_le _; exact Nat.le_refl _
/-- Nothing has nothing. -/
def Bare (t : T) : Prop := t.kind = 0 → t.words = [] ∧ t.kids = []
theorem norm_words {t : T} (h : Bare t) : (norm t).words = t.words.take (nW t) := by
  obtain ⟨k, w, l⟩ := t
  rw [norm_mk]
  by_cases h0 : k = 0
  · obtain ⟨a, b⟩ := h h0; simp at a b; subst a b; rw [if_pos h0]; simp
  · rw [if_neg h0]
    by_cases h1 : k = 1
    · subst h1; simp [nW, ← trimW_take]
    · simp [h1, nW]
theorem norm_kids {t : T} (h : Bare t) : (norm t).kids = (t.kids.take (nK t)).map norm := by
  obtain ⟨k, w, l⟩ := t
  rw [norm_mk]
  by_cases h0 : k = 0
  · obtain ⟨a, b⟩ := h h0; simp at a b; subst a b; rw [if_pos h0]; simp
  · rw [if_neg h0]
    by_cases h1 : k = 1
    · subst h1; simp [nK, trimK_map, List.map_take]
    · simp [h1, nK]
theorem T.ext' {t u : T} (h1 : t.kind = u.kind) (h2 : t.words = u.words) (h3 : t.kids = u.kids) : t = u := by
  cases t; cases u; simp at h1 h2 h3; rw [h1, h2, h3]
/-- Trees mean the same. -/
theorem norm_eq {t u : T} (ht : Bare t) (hu : Bare u) : norm t = norm u ↔ t.kind = u.kind ∧ nW t = nW u ∧ nK t = nK u ∧ (∀ i : Nat, i < nW t → t.words[i]? = u.words[i]?) ∧ (∀ i : Nat, i < nK t → (t.kids[i]?).map norm = (u.kids[i]?).map norm) := by
  constructor
  · intro h
    have hk : t.kind = u.kind := by rw [← norm_kind t, h, norm_kind]
    have hw : t.words.take (nW t) = u.words.take (nW u) := by rw [← norm_words ht, h, norm_words hu]
    have hl : (t.kids.take (nK t)).map norm = (u.kids.take (nK u)).map norm := by rw [← norm_kids ht, h, norm_kids hu]
    have e1 : nW t = nW u := by have := congrArg List.length hw; simp at this; have := nW_le t; have := nW_le u; omega
    have e2 : nK t = nK u := by have := congrArg List.length hl; simp at this; have := nK_le t; have := nK_le u; omega
    refine ⟨hk, e1, e2, fun i hi => ?_, fun i hi => ?_⟩
    · have := congrArg (fun l => l[i]?) hw
      simp only [List.getElem?_take] at this
      rwa [if_pos hi, if_pos (by omega)] at this
    · have := congrArg (fun l => l[i]?) hl
      simp only [List.getElem?_map, List.getElem?_take] at this
      rwa [if_pos hi, if_pos (by omega)] at this
  · rintro ⟨hk, e1, e2, hw, hl⟩
    refine T.ext' (by rw [norm_kind, norm_kind, hk]) ?_ ?_
    · rw [norm_words ht, norm_words hu, ← e1]
      apply List.ext_getElem?
      intro i
      rw [List.getElem?_take, List.getElem?_take]
      split
      · exact hw i (by assumption)
      · rfl
    · rw [norm_kids ht, norm_kids hu, ← e2]
      apply List.ext_getElem?
      intro i
      rw [List.getElem?_map, List.getElem?_map, List.getElem?_take, List.getElem?_take]
      split
      · exact hl i (by assumption)
      · rfl
/-- They are the same. -/
noncomputable def sameB (t u : T) : Bool := by classical exact decide (t = u)
theorem sameB_iff {t u : T} : sameB t u = true ↔ t = u := by simp [sameB]
theorem sameB_eq {t u : T} {b : Bool} (h : b = true ↔ t = u) : sameB t u = b := by
  rw [Bool.eq_iff_iff, sameB_iff, h]
noncomputable def eqT (t u : T) : Bool := sameB (norm t) (norm u)
theorem eqT_iff {t u : T} : eqT t u = true ↔ norm t = norm u := sameB_iff
end Go.PL
