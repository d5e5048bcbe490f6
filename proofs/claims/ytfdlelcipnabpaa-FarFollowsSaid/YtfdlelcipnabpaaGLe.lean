/-
  States told otherwise: a nil slice in an object's cell as a row of its own.
-/
import Derived.Test.YtfdlelcipnabpaaGFresh
namespace Go.G
set_option linter.unusedVariables false
set_option linter.unusedSimpArgs false
open Go.RowKit

theorem blank_rel {w : World} {I : Nat → Prop} {μ : Mu} {d : Nm} {u sz : Nat} {v : Value} (h1 : Rel w I μ (.sl true []) v) (hu : (μ d).u = u) (h0 : 1 ≤ u) (hz : (μ d).sz = sz) : Rel w I μ (.osl d u sz 0 0) v := by
  subst hu
  cases h1 with
  | slN _ _ q cap hc =>
    have := hc rfl
    subst this
    exact .osl _ _ _ _ _ _ _ _ h0 (Nat.le_refl _) (Nat.le_refl _) (fun h => by omega) (fun _ => ⟨hz, .inl ⟨rfl, rfl⟩⟩)
  | sl _ _ b off n cap z _ g h1 h2 h3 h4 =>
    have h5 : n = 0 := h2
    have h6 : cap = 0 := h4 rfl
    subst h5 h6
    exact .osl _ _ _ _ _ _ _ _ h0 (Nat.le_refl _) (Nat.le_refl _) (fun h => by omega) (fun _ => ⟨hz, .inl ⟨rfl, rfl⟩⟩)

theorem le_blankC {c : Cx} {s : Nat → A} {H : Hp} {d : Nm} {u : Nat} {cs : List A} (i : Nat) (d' : Nm) (sz : Nat) (hd : H d = ⟨u, .cells cs⟩) (hi : cs[i]? = some (.sl true [])) (hne : d ≠ d') :
    Le c ⟨s, H⟩ ⟨s, updF (updF H d' ⟨(H d').u + 1, .arr sz []⟩) d ⟨u, .cells (cs.set i (.osl d' ((H d').u + 1) sz 0 0))⟩⟩ := fun a w I μ hs => by
  obtain ⟨hx, hs'⟩ := hs.sim.upd (grownBy_refl w none) d' ⟨(H d').u + 1, false, 0, 0, sz, 0⟩ (.arr sz []) (.inl rfl) (.inl (by rw [hs.sim.ver]; exact Nat.lt_succ_self _)) (fun h => nomatch h) (fun hx => ⟨rfl, .inl ⟨rfl, rfl⟩⟩)
  have hd1 : (updF H d' ⟨(H d').u + 1, .arr sz []⟩ : Hp) d = ⟨u, .cells cs⟩ := by rw [updF_ne hne]; exact hd
  have hob := hs'.ob d
  rw [hd1] at hob
  obtain ⟨vs, k1, k2, k3⟩ := hob
  have hB : hasB (updF μ d' ⟨(H d').u + 1, false, 0, 0, sz, 0⟩ d) ((updF H d' ⟨(H d').u + 1, .arr sz []⟩ : Hp) d).ob = true := by rw [hd1]; rfl
  obtain ⟨hx2, hs2⟩ := hs'.upd (grownBy_refl w none) d (updF μ d' ⟨(H d').u + 1, false, 0, 0, sz, 0⟩ d) (.cells (cs.set i (.osl d' ((H d').u + 1) sz 0 0))) (.inl rfl) (.inr rfl) (fun _ => .inr ⟨hB, rfl⟩) (fun hx2 => by
    refine ⟨vs, k1, by simpa using k2, fun k y hk => ?_⟩
    rw [updM_self]
    by_cases hki : k = i
    · subst hki
      have hlt : k < cs.length := (List.getElem?_eq_some_iff.1 hi).1
      rw [List.getElem?_set_self hlt] at hk
      cases hk
      exact ⟨rfl, blank_rel (k3 k _ hi).2 (by simp) (by omega) (by simp)⟩
    · rw [List.getElem?_set_ne (Ne.symm hki)] at hk
      exact k3 k y hk)
  have hu : (updF μ d' ⟨(H d').u + 1, false, 0, 0, sz, 0⟩ d).u = u := by rw [hs'.ver, hd1]
  rw [hu] at hs2
  exact ⟨I, _, hs2, hs.size, hs.defers, fun t => hx2.rel (hx.rel (hs.rel t))⟩
end Go.G
