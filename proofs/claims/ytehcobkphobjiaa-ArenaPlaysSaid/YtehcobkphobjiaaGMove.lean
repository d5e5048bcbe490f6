/-
  An object of the call's own gets another name.
-/
import Derived.Test.YtehcobkphobjiaaGFam
namespace Go.G
set_option linter.unusedVariables false
set_option linter.unusedSimpArgs false
open Go.RowKit

/-- The object d is called d' from now on; the name d' was unused so far. -/
theorem Sim.move {c : Cx} {w : World} {I : Nat → Prop} {μ : Mu} {H : Hp} (hs : Sim c w I μ H) {d d' : Nm} (hne : d ≠ d') (h0 : (H d').u = 0) (h1 : 1 ≤ (H d).u) :
    Ext I μ w I (updF μ d' (μ d)) w ∧ Sim c w I (updF μ d' (μ d)) (updF (updF H d' (H d)) d ⟨(H d).u, .none⟩) := by
  have hu0 : (μ d').u = 0 := by rw [hs.ver, h0]
  have hu1 : 1 ≤ (μ d).u := by rw [hs.ver]; exact h1
  have hm : MuLe μ (updF μ d' (μ d)) := fun o => by
    by_cases e : o = d'
    · subst e
      rw [updF_self]
      exact ⟨by omega, fun e => by omega⟩
    · rw [updF_ne e]
      exact ⟨Nat.le_refl _, fun _ => rfl⟩
  have hx : Ext I μ w I (updF μ d' (μ d)) w := ⟨fun b h => h, fun b h => rfl, hm⟩
  have hd : (updF (updF H d' (H d)) d ⟨(H d).u, .none⟩ : Hp) d = ⟨(H d).u, .none⟩ := updF_self
  have hd' : (updF (updF H d' (H d)) d ⟨(H d).u, .none⟩ : Hp) d' = H d := by rw [updF_ne (Ne.symm hne), updF_self]
  have hoth : ∀ o, o ≠ d → o ≠ d' → (updF (updF H d' (H d)) d ⟨(H d).u, .none⟩ : Hp) o = H o := fun o e1 e2 => by rw [updF_ne e1, updF_ne e2]
  -- who has a block has it in the old state, under an old name
  have old : ∀ o, hasB (updF μ d' (μ d) o) ((updF (updF H d' (H d)) d ⟨(H d).u, .none⟩ : Hp) o).ob = true → ∃ p, hasB (μ p) (H p).ob = true ∧ (updF μ d' (μ d) o) = μ p ∧ (o = d' ∧ p = d ∨ o ≠ d' ∧ o ≠ d ∧ p = o) := fun o h => by
    by_cases e1 : o = d
    · subst e1
      rw [hd] at h
      cases h
    · by_cases e2 : o = d'
      · subst e2
        rw [hd', updF_self] at h
        exact ⟨d, h, updF_self, .inl ⟨rfl, rfl⟩⟩
      · rw [hoth o e1 e2, updF_ne e2] at h
        exact ⟨o, h, updF_ne e2, .inr ⟨e2, e1, rfl⟩⟩
  refine ⟨hx, hs.kept, hs.lt, hs.old, hs.new, fun o => ?_, fun o => ?_, fun o o' k k' hoo => ?_, fun o k => ?_, hs.mle.trans hm⟩
  · by_cases e1 : o = d
    · subst e1
      rw [hd, updF_ne hne]
      exact hs.ver o
    · by_cases e2 : o = d'
      · subst e2
        rw [hd', updF_self]
        exact hs.ver d
      · rw [hoth o e1 e2, updF_ne e2]
        exact hs.ver o
  · by_cases e1 : o = d
    · subst e1
      rw [hd]
      trivial
    · by_cases e2 : o = d'
      · subst e2
        rw [hd', updF_self]
        exact OSim.keep hx (fun _ => rfl) (hs.ob d)
      · rw [hoth o e1 e2, updF_ne e2]
        exact OSim.keep hx (fun _ => rfl) (hs.ob o)
  · obtain ⟨p, k1, k2, k3⟩ := old o k
    obtain ⟨p', g1, g2, g3⟩ := old o' k'
    rw [k2, g2]
    refine hs.apart p p' k1 g1 fun e => hoo ?_
    rcases k3 with ⟨a1, a2⟩ | ⟨a1, a2, a3⟩ <;> rcases g3 with ⟨b1, b2⟩ | ⟨b1, b2, b3⟩
    · rw [a1, b1]
    · exact absurd (by rw [← b3, ← e, a2]) b2
    · exact absurd (by rw [← a3, e, b2]) a2
    · rw [← a3, ← b3, e]
  · obtain ⟨p, k1, k2, k3⟩ := old o k
    rw [k2]
    exact hs.own p k1
theorem osl_move {w : World} {I : Nat → Prop} {μ : Mu} {d d' : Nm} {u sz off len : Nat} {v : Value} (h : Rel w I μ (.osl d u sz off len) v) (e : μ d' = μ d) : Rel w I μ (.osl d' u sz off len) v := by
  cases h with
  | osl _ _ _ _ _ _ a cap g1 g2 g4 g5 g3 => exact .osl _ _ _ _ _ _ _ _ g1 (by rw [e]; exact g2) g4 g5 (by rw [e]; exact g3)
/-- What the last place of a row points at is called otherwise. -/
theorem le_moveR {c : Cx} {s : Nat → A} {H : Hp} {d d' e : Nm} {u ue sz z off len : Nat} {xs : List A} (hne : d ≠ d') (he : e ≠ d) (he' : e ≠ d') (h0 : (H d').u = 0) (h1 : 1 ≤ (H d).u) (hz : sz = 1) (hr : H e = ⟨ue, .arr sz (xs ++ [.osl d u z off len])⟩) :
    Le c ⟨s, H⟩ ⟨s, updF (updF (updF H d' (H d)) d ⟨(H d).u, .none⟩) e ⟨ue, .arr sz (xs ++ [.osl d' u z off len])⟩⟩ := fun a w I μ hs => by
  obtain ⟨hx, hs'⟩ := hs.sim.move hne h0 h1
  have hH : (updF (updF H d' (H d)) d ⟨(H d).u, .none⟩ : Hp) e = ⟨ue, .arr sz (xs ++ [.osl d u z off len])⟩ := by rw [updF_ne he, updF_ne he', hr]
  have hob := hs'.ob e
  rw [hH] at hob
  obtain ⟨g0, hob⟩ := hob
  rcases hob with ⟨_, hn⟩ | ⟨k1, vs, k2, k3, k4, k5, k6⟩
  · simp at hn
  have hB : hasB (updF μ d' (μ d) e) ((updF (updF H d' (H d)) d ⟨(H d).u, .none⟩ : Hp) e).ob = true := by rw [hH]; exact k1
  have hmm : updF μ d' (μ d) d' = updF μ d' (μ d) d := by rw [updF_self, updF_ne hne]
  obtain ⟨hx2, hs2⟩ := hs'.upd (grownBy_refl w none) e (updF μ d' (μ d) e) (.arr sz (xs ++ [.osl d' u z off len])) (.inl rfl) (.inr rfl) (fun _ => .inr ⟨hB, rfl⟩) (fun hx2 => by
    refine ⟨g0, .inr ⟨k1, vs, k2, k3, by simpa using k4, fun x hx => ?_, fun k y hk => ?_⟩⟩
    · rcases List.mem_append.1 hx with h | h
      · exact k5 x (List.mem_append_left _ h)
      · rw [List.mem_singleton.1 h, hz]; rfl
    · rw [updM_self]
      rw [List.flatMap_append] at hk
      by_cases hlt : k < (xs.flatMap A.cells).length
      · rw [List.getElem?_append_left hlt] at hk
        exact k6 k y (by rw [List.flatMap_append, List.getElem?_append_left hlt]; exact hk)
      · rw [List.getElem?_append_right (by omega)] at hk
        have hc1 : ([A.osl d' u z off len].flatMap A.cells) = [.osl d' u z off len] := rfl
        rw [hc1] at hk
        have hk0 : k - (xs.flatMap A.cells).length = 0 := by
          have := (List.getElem?_eq_some_iff.1 hk).1
          rw [List.length_singleton] at this
          omega
        rw [hk0] at hk
        have hy : y = .osl d' u z off len := (Option.some.inj hk).symm
        subst hy
        obtain ⟨q1, q2⟩ := k6 k (.osl d u z off len) (by rw [List.flatMap_append, List.getElem?_append_right (by omega), hk0]; rfl)
        exact ⟨rfl, osl_move q2 hmm⟩)
  have hu : (updF μ d' (μ d) e).u = ue := by rw [hs'.ver, hH]
  rw [hu] at hs2
  exact ⟨I, _, hs2, hs.size, hs.defers, fun t => hx2.rel (hx.rel (hs.rel t))⟩
/-- The last place of a row is told otherwise. -/
theorem le_lastR {c : Cx} {s : Nat → A} {H : Hp} {e : Nm} {ue : Nat} {xs : List A} {y y' : A} (hy : ∀ (w : World) (I : Nat → Prop) (μ : Mu) (v : Value), Rel w I μ y v → Rel w I μ y' v) (c0 : y.cells = [y]) (c1 : y'.cells = [y']) (h1 : y'.one = true) (hr : H e = ⟨ue, .arr 1 (xs ++ [y])⟩) :
    Le c ⟨s, H⟩ ⟨s, updF H e ⟨ue, .arr 1 (xs ++ [y'])⟩⟩ := fun a w I μ hs => by
  have hob : OSim w I μ (μ e) (H e).ob := hs.sim.ob e
  rw [hr] at hob
  obtain ⟨g0, hob⟩ := hob
  rcases hob with ⟨_, hn⟩ | ⟨k1, vs, k2, k3, k4, k5, k6⟩
  · simp at hn
  have hB : hasB (μ e) (H e).ob = true := by rw [hr]; exact k1
  obtain ⟨hx2, hs2⟩ := hs.sim.upd (grownBy_refl w none) e (μ e) (.arr 1 (xs ++ [y'])) (.inl rfl) (.inr rfl) (fun _ => .inr ⟨hB, rfl⟩) (fun hx2 => by
    refine ⟨g0, .inr ⟨k1, vs, k2, k3, by simpa using k4, fun x hx => ?_, fun k z hk => ?_⟩⟩
    · rcases List.mem_append.1 hx with h | h
      · exact k5 x (List.mem_append_left _ h)
      · rw [List.mem_singleton.1 h, c1]; rfl
    · rw [updM_self]
      rw [List.flatMap_append] at hk
      by_cases hlt : k < (xs.flatMap A.cells).length
      · rw [List.getElem?_append_left hlt] at hk
        exact k6 k z (by rw [List.flatMap_append, List.getElem?_append_left hlt]; exact hk)
      · rw [List.getElem?_append_right (by omega)] at hk
        have hc1 : ([y'].flatMap A.cells) = [y'] := by simp [c1]
        have hc0 : ([y].flatMap A.cells) = [y] := by simp [c0]
        rw [hc1] at hk
        have hk0 : k - (xs.flatMap A.cells).length = 0 := by
          have := (List.getElem?_eq_some_iff.1 hk).1
          rw [List.length_singleton] at this
          omega
        rw [hk0] at hk
        have hz : z = y' := (Option.some.inj hk).symm
        subst hz
        obtain ⟨q1, q2⟩ := k6 k y (by rw [List.flatMap_append, List.getElem?_append_right (by omega), hk0, hc0]; rfl)
        exact ⟨h1, hy _ _ _ _ q2⟩)
  have hu : (μ e).u = ue := by have := hs.sim.ver e; rw [this]; show (H e).u = ue; rw [hr]
  rw [hu] at hs2
  exact ⟨I, _, hs2, hs.size, hs.defers, fun t => hx2.rel (hs.rel t)⟩
end Go.G
