/-
  An object of the call's own gets another name.
-/
import Derived.Test.YtebihdhapepejaaDoorGFam
namespace Go.G
set_option linter.unusedVariables false
set_option linter.unusedSimpArgs false
open Go.RowKit

/-- The object d is called d' from now on; the name d' was unused so far. -/
theorem Sim.move {c : Cx} {w : World} {I : Nat → Prop} {μ : Mu} {H : Hp} (hs : Sim c w I μ H) {d d' : Nm} (hne : d ≠ d') (h0 : (H d').u = 0) (h1 : 1 ≤ (H d).u) (hM : ∀ b, ¬ c.M0 d b) (htg : ∀ e, tagOK d' e = true) :
    Ext I μ w I (updF μ d' (μ d)) w ∧ Sim c w I (updF μ d' (μ d)) (updF (updF H d' (H d)) d ⟨(H d).u, .none⟩) := by
  have hu0 : (μ d').u = 0 := by rw [hs.ver, h0]
  have hu1 : 1 ≤ (μ d).u := by rw [hs.ver]; exact h1
  have hm : MuLe μ (updF μ d' (μ d)) := fun o => by
    by_cases e : o = d'
    · subst e
      rw [updF_self]
      exact ⟨by omega, fun e => by omega⟩
    · rw [updF_ne e]
      exact ⟨Nat.le_refl _, fun _ => rfl⟩
  have hx : Ext I μ w I (updF μ d' (μ d)) w := ⟨fun b h => h, fun b h => rfl, hm⟩
  have hd : (updF (updF H d' (H d)) d ⟨(H d).u, .none⟩ : Hp) d = ⟨(H d).u, .none⟩ := updF_self
  have hd' : (updF (updF H d' (H d)) d ⟨(H d).u, .none⟩ : Hp) d' = H d := by rw [updF_ne (Ne.symm hne), updF_self]
  have hoth : ∀ o, o ≠ d → o ≠ d' → (updF (updF H d' (H d)) d ⟨(H d).u, .none⟩ : Hp) o = H o := fun o e1 e2 => by rw [updF_ne e1, updF_ne e2]
  -- who has a block has it in the old state, under an old name
  have old : ∀ o, hasB (updF μ d' (μ d) o) ((updF (updF H d' (H d)) d ⟨(H d).u, .none⟩ : Hp) o).ob = true → ∃ p, hasB (μ p) (H p).ob = true ∧ (updF μ d' (μ d) o) = μ p ∧ (o = d' ∧ p = d ∨ o ≠ d' ∧ o ≠ d ∧ p = o) := fun o h => by
    by_cases e1 : o = d
    · subst e1
      rw [hd] at h
      cases h
    · by_cases e2 : o = d'
      · subst e2
        rw [hd', updF_self] at h
        exact ⟨d, h, updF_self, .inl ⟨rfl, rfl⟩⟩
      · rw [hoth o e1 e2, updF_ne e2] at h
        exact ⟨o, h, updF_ne e2, .inr ⟨e2, e1, rfl⟩⟩
  refine ⟨hx, hs.kept, hs.lt, hs.old, hs.new, fun o => ?_, fun o => ?_, fun o o' k k' hoo => ?_, fun o k => ?_, hs.mle.trans hm, fun o k => ?_, hs.tab⟩
  · by_cases e1 : o = d
    · subst e1
      rw [hd, updF_ne hne]
      exact hs.ver o
    · by_cases e2 : o = d'
      · subst e2
        rw [hd', updF_self]
        exact hs.ver d
      · rw [hoth o e1 e2, updF_ne e2]
        exact hs.ver o
  · by_cases e1 : o = d
    · subst e1
      rw [hd]
      trivial
    · by_cases e2 : o = d'
      · subst e2
        rw [hd', updF_self]
        exact OSim.keep hx (fun _ => rfl) (hs.ob d)
      · rw [hoth o e1 e2, updF_ne e2]
        exact OSim.keep hx (fun _ => rfl) (hs.ob o)
  · obtain ⟨p, k1, k2, k3⟩ := old o k
    obtain ⟨p', g1, g2, g3⟩ := old o' k'
    rw [k2, g2]
    refine hs.apart p p' k1 g1 fun e => hoo ?_
    rcases k3 with ⟨a1, a2⟩ | ⟨a1, a2, a3⟩ <;> rcases g3 with ⟨b1, b2⟩ | ⟨b1, b2, b3⟩
    · rw [a1, b1]
    · exact absurd (by rw [← b3, ← e, a2]) b2
    · exact absurd (by rw [← a3, e, b2]) a2
    · rw [← a3, ← b3, e]
  · obtain ⟨p, k1, k2, k3⟩ := old o k
    rw [k2]
    obtain ⟨q1, q2, q3⟩ := hs.own p k1
    refine ⟨q1, ?_, q3⟩
    rcases k3 with ⟨a1, a2⟩ | ⟨a1, a2, a3⟩
    · subst a2
      rcases q2 with h | h
      · exact (hM _ h).elim
      · exact .inr h
    · subst a3
      exact q2
  · obtain ⟨p, k1, k2, k3⟩ := old o k
    rw [k2]
    rcases k3 with ⟨a1, a2⟩ | ⟨a1, a2, a3⟩
    · rw [a1]; exact htg _
    · rw [← a3]; exact hs.tag p k1
theorem osl_move {w : World} {I : Nat → Prop} {μ : Mu} {d d' : Nm} {u sz off len : Nat} {v : Value} (h : Rel w I μ (.osl d u sz off len) v) (e : μ d' = μ d) : Rel w I μ (.osl d' u sz off len) v := by
  cases h with
  | osl _ _ _ _ _ _ a cap g1 g2 g4 g5 g3 => exact .osl _ _ _ _ _ _ _ _ g1 (by rw [e]; exact g2) g4 g5 (by rw [e]; exact g3)
/-- What the last place of a row points at is called otherwise. -/
theorem le_moveR {c : Cx} {s : Nat → A} {H : Hp} {d d' e : Nm} {u ue sz z off len : Nat} {xs : List A} (hM : ∀ b, ¬ c.M0 d b) (hne : d ≠ d') (he : e ≠ d) (he' : e ≠ d') (h0 : (H d').u = 0) (h1 : 1 ≤ (H d).u) (hz : sz = 1) (hr : H e = ⟨ue, .arr sz (xs ++ [.osl d u z off len])⟩) (htg : ∀ e, tagOK d' e = true := by intro e; simp) :
    Le c ⟨s, H⟩ ⟨s, updF (updF (updF H d' (H d)) d ⟨(H d).u, .none⟩) e ⟨ue, .arr sz (xs ++ [.osl d' u z off len])⟩⟩ := fun a w I μ hs => by
  obtain ⟨hx, hs'⟩ := hs.sim.move hne h0 h1 hM htg
  have hH : (updF (updF H d' (H d)) d ⟨(H d).u, .none⟩ : Hp) e = ⟨ue, .arr sz (xs ++ [.osl d u z off len])⟩ := by rw [updF_ne he, updF_ne he', hr]
  have hob := hs'.ob e
  rw [hH] at hob
  obtain ⟨g0, hob⟩ := hob
  rcases hob with ⟨_, hn⟩ | ⟨k1, vs, k2, k3, k4, k5, k6⟩
  · simp at hn
  have hB : hasB (updF μ d' (μ d) e) ((updF (updF H d' (H d)) d ⟨(H d).u, .none⟩ : Hp) e).ob = true := by rw [hH]; exact k1
  have hmm : updF μ d' (μ d) d' = updF μ d' (μ d) d := by rw [updF_self, updF_ne hne]
  obtain ⟨hx2, hs2⟩ := hs'.upd (grownBy_refl w none) e (updF μ d' (μ d) e) (.arr sz (xs ++ [.osl d' u z off len])) (.inl rfl) (.inr rfl) (fun _ => .inr ⟨hB, rfl⟩) (fun _ => hs'.tag _ hB) (fun hx2 => by
    refine ⟨g0, .inr ⟨k1, vs, k2, k3, by simpa using k4, fun x hx => ?_, fun k y hk => ?_⟩⟩
    · rcases List.mem_append.1 hx with h | h
      · exact k5 x (List.mem_append_left _ h)
      · rw [List.mem_singleton.1 h, hz]; rfl
    · rw [updM_self]
      rw [List.flatMap_append] at hk
      by_cases hlt : k < (xs.flatMap A.cells).length
      · rw [List.getElem?_append_left hlt] at hk
        exact k6 k y (by rw [List.flatMap_append, List.getElem?_append_left hlt]; exact hk)
      · rw [List.getElem?_append_right (by omega)] at hk
        have hc1 : ([A.osl d' u z off len].flatMap A.cells) = [.osl d' u z off len] := rfl
        rw [hc1] at hk
        have hk0 : k - (xs.flatMap A.cells).length = 0 := by
          have := (List.getElem?_eq_some_iff.1 hk).1
          rw [List.length_singleton] at this
          omega
        rw [hk0] at hk
        have hy : y = .osl d' u z off len := (Option.some.inj hk).symm
        subst hy
        obtain ⟨q1, q2⟩ := k6 k (.osl d u z off len) (by rw [List.flatMap_append, List.getElem?_append_right (by omega), hk0]; rfl)
        exact ⟨rfl, osl_move q2 hmm⟩)
  have hu : (updF μ d' (μ d) e).u = ue := by rw [hs'.ver, hH]
  rw [hu] at hs2
  exact ⟨I, _, hs2, hs.size, hs.defers, fun t => hx2.rel (hx.rel (hs.rel t))⟩
/-- The last place of a row is told otherwise. -/
theorem le_lastR {c : Cx} {s : Nat → A} {H : Hp} {e : Nm} {ue : Nat} {xs : List A} {y y' : A} (hy : ∀ (w : World) (I : Nat → Prop) (μ : Mu) (v : Value), Rel w I μ y v → Rel w I μ y' v) (c0 : y.cells = [y]) (c1 : y'.cells = [y']) (h1 : y'.one = true) (hr : H e = ⟨ue, .arr 1 (xs ++ [y])⟩) :
    Le c ⟨s, H⟩ ⟨s, updF H e ⟨ue, .arr 1 (xs ++ [y'])⟩⟩ := fun a w I μ hs => by
  have hob : OSim w I μ (μ e) (H e).ob := hs.sim.ob e
  rw [hr] at hob
  obtain ⟨g0, hob⟩ := hob
  rcases hob with ⟨_, hn⟩ | ⟨k1, vs, k2, k3, k4, k5, k6⟩
  · simp at hn
  have hB : hasB (μ e) (H e).ob = true := by rw [hr]; exact k1
  obtain ⟨hx2, hs2⟩ := hs.sim.upd (grownBy_refl w none) e (μ e) (.arr 1 (xs ++ [y'])) (.inl rfl) (.inr rfl) (fun _ => .inr ⟨hB, rfl⟩) (fun _ => hs.sim.tag _ hB) (fun hx2 => by
    refine ⟨g0, .inr ⟨k1, vs, k2, k3, by simpa using k4, fun x hx => ?_, fun k z hk => ?_⟩⟩
    · rcases List.mem_append.1 hx with h | h
      · exact k5 x (List.mem_append_left _ h)
      · rw [List.mem_singleton.1 h, c1]; rfl
    · rw [updM_self]
      rw [List.flatMap_append] at hk
      by_cases hlt : k < (xs.flatMap A.cells).length
      · rw [List.getElem?_append_left hlt] at hk
        exact k6 k z (by rw [List.flatMap_append, List.getElem?_append_left hlt]; exact hk)
      · rw [List.getElem?_append_right (by omega)] at hk
        have hc1 : ([y'].flatMap A.cells) = [y'] := by simp [c1]
        have hc0 : ([y].flatMap A.cells) = [y] := by simp [c0]
        rw [hc1] at hk
        have hk0 : k - (xs.flatMap A.cells).length = 0 := by
          have := (List.getElem?_eq_some_iff.1 hk).1
          rw [List.length_singleton] at this
          omega
        rw [hk0] at hk
        have hz : z = y' := (Option.some.inj hk).symm
        subst hz
        obtain ⟨q1, q2⟩ := k6 k y (by rw [List.flatMap_append, List.getElem?_append_right (by omega), hk0, hc0]; rfl)
        exact ⟨h1, hy _ _ _ _ q2⟩)
  have hu : (μ e).u = ue := by have := hs.sim.ver e; rw [this]; show (H e).u = ue; rw [hr]
  rw [hu] at hs2
  exact ⟨I, _, hs2, hs.size, hs.defers, fun t => hx2.rel (hs.rel t)⟩
/-- A slot's objects, below some roots of the call's own, are written no more. -/
theorem le_freezeR {c : Cx} {s : Nat → A} {H : Hp} (R : Nat → Prop) [DecidablePred R] (hM : ∀ r p b, R r → ¬ c.M0 (r :: p) b) (t : Nat) (a : A) (hf : ∀ H1 : Hp, (∀ r p, R r → H1 (r :: p) = H (r :: p)) → Frz H1 (s t) a) :
    ∃ H2 : Hp, Le c ⟨s, H⟩ ⟨upd s t a, H2⟩ ∧ ∀ r p, ¬ R r → H2 (r :: p) = H (r :: p) := by
  refine ⟨fun o => match o with | r :: p => if R r then ⟨(H (r :: p)).u, .none⟩ else H (r :: p) | [] => H [], le_freeze (H1 := fun o => match o with | r :: p => if R r then H (r :: p) else ⟨(H (r :: p)).u, .none⟩ | [] => ⟨(H []).u, .none⟩) (fun o b h => ?_) t a (fun o => ?_) (fun o => ?_) (fun o => ?_) (hf _ fun r p h => if_pos h), fun r p h => if_neg h⟩
  · cases o with
    | nil => exact absurd rfl h
    | cons r p =>
      by_cases hr : R r
      · exact hM r p b hr
      · exact absurd (by simp [hr]) h
  · cases o with
    | nil => exact .inr rfl
    | cons r p =>
      by_cases hr : R r
      · exact .inl (by simp [hr])
      · exact .inr (by simp [hr])
  · cases o with
    | nil => exact .inl rfl
    | cons r p =>
      by_cases hr : R r
      · exact .inr (by simp [hr])
      · exact .inl (by simp [hr])
  · cases o with
    | nil => exact .inl rfl
    | cons r p =>
      by_cases hr : R r
      · exact .inr (by simp [hr])
      · exact .inl (by simp [hr])
/-- The cells of an object are told as what they are when objects below some roots are written no more. -/
theorem le_freezeC {c : Cx} {s : Nat → A} {H : Hp} (R : Nat → Prop) [DecidablePred R] (hM : ∀ r p b, R r → ¬ c.M0 (r :: p) b) {r0 : Nat} {p0 : Nm} (hr0 : ¬ R r0) {u : Nat} {cs cs' : List A} (hd : H (r0 :: p0) = ⟨u, .cells cs⟩) (h1 : A.ones cs' = true)
    (hf : ∀ H1 : Hp, (∀ r p, R r → H1 (r :: p) = H (r :: p)) → FrzL H1 cs cs') :
    ∃ H2 : Hp, Le c ⟨s, H⟩ ⟨s, updF H2 (r0 :: p0) ⟨u, .cells cs'⟩⟩ ∧ ∀ r p, ¬ R r → H2 (r :: p) = H (r :: p) := by
  refine ⟨fun o => match o with | r :: p => if R r then ⟨(H (r :: p)).u, .none⟩ else H (r :: p) | [] => H [], fun a w I μ hs => ?_, fun r p h => if_neg h⟩
  have part1 : Part H (fun o => match o with | r :: p => if R r then H (r :: p) else ⟨(H (r :: p)).u, .none⟩ | [] => ⟨(H []).u, .none⟩) := fun o => by
    cases o with
    | nil => exact .inr rfl
    | cons r p =>
      by_cases hr : R r
      · exact .inl (by simp [hr])
      · exact .inr (by simp [hr])
  have part2 : Part H (fun o => match o with | r :: p => if R r then ⟨(H (r :: p)).u, .none⟩ else H (r :: p) | [] => H []) := fun o => by
    cases o with
    | nil => exact .inl rfl
    | cons r p =>
      by_cases hr : R r
      · exact .inr (by simp [hr])
      · exact .inl (by simp [hr])
  have h3 := hs.sim.freezeAll part1 part2 (fun o => by
    cases o with
    | nil => exact .inl rfl
    | cons r p =>
      by_cases hr : R r
      · exact .inr (by simp [hr])
      · exact .inl (by simp [hr])) (fun o b h => by
    cases o with
    | nil => exact absurd rfl h
    | cons r p =>
      by_cases hr : R r
      · exact hM r p b hr
      · exact absurd (by simp [hr]) h)
  have hd2 : (fun o => match o with | r :: p => if R r then (⟨(H (r :: p)).u, .none⟩ : VOb) else H (r :: p) | [] => H [] : Hp) (r0 :: p0) = ⟨u, .cells cs⟩ := by
    show (if R r0 then _ else _) = _
    rw [if_neg hr0, hd]
  have hob := hs.sim.ob (r0 :: p0)
  have hob : OSim w I μ (μ (r0 :: p0)) (.cells cs) := by
    have e : (⟨s, H⟩ : Sta).H (r0 :: p0) = ⟨u, .cells cs⟩ := hd
    rw [e] at hob
    exact hob
  obtain ⟨vs, k1, k2, k3⟩ := hob
  obtain ⟨hl, hg⟩ := frzL_get (hf (fun o => match o with | r :: p => if R r then H (r :: p) else ⟨(H (r :: p)).u, .none⟩ | [] => ⟨(H []).u, .none⟩) fun r p h => if_pos h)
  have hB : hasB (μ (r0 :: p0)) ((fun o => match o with | r :: p => if R r then (⟨(H (r :: p)).u, .none⟩ : VOb) else H (r :: p) | [] => H [] : Hp) (r0 :: p0)).ob = true := by rw [hd2]; rfl
  obtain ⟨hx2, hs2⟩ := h3.upd (grownBy_refl w none) (r0 :: p0) (μ (r0 :: p0)) (.cells cs') (.inl rfl) (.inr rfl) (fun _ => .inr ⟨hB, rfl⟩) (fun _ => h3.tag _ hB) (fun hx2 => by
    refine ⟨vs, k1, by rw [k2, hl], fun k y hk => ?_⟩
    rw [updM_self]
    obtain ⟨x, hx, hfx⟩ := hg k y hk
    simp only [A.ones, List.all_eq_true] at h1
    exact ⟨h1 y (List.mem_of_getElem? hk), (hfx c w I μ _ (hs.sim.part part1) (k3 k x hx).2).ofI⟩)
  have hu : (μ (r0 :: p0)).u = u := by exact (h3.ver (r0 :: p0)).trans (congrArg VOb.u hd2)
  rw [hu] at hs2
  exact ⟨_, _, hs2, hs.size, hs.defers, fun t => hx2.rel ((hs.rel t).mono0 (fun b h => .inl h) (fun _ _ => rfl))⟩
/-- As specF_of; what is not handed may be frozen. -/
theorem specF_of' {P : Program} {f : FuncId} {n : Nat} {rs : List ResultVar} {cc : CC} {as : Nat → List A} {F F' : Fam} {x : Nat → A} (t : Txt P f n rs cc) (ha : (as 0).length ≤ n) (h0 : FamL as) (h1 : FamA x)
    (h : ∀ w0 I0 M0 m0, (∀ r p b, 1 ≤ r → ¬ M0 (r :: p) b) → WPC (cxh P w0 I0 M0 n m0) cc (RetH (cxh P w0 I0 M0 n m0) rs 1 (x 0) (ov 0 (F'.F 0) (lkH []))) ⟨argS (as 0), ov 0 (F.F 0) (lkH [])⟩) : SpecF P f as F x F' :=
  ⟨h0, h1, specH_of' t ha fun w0 I0 M0 m0 hM => h w0 I0 M0 m0 fun r p b hr => hM (r :: p) b (by
    simp only [ov_cons]
    rw [if_neg (by omega)]
    rfl)⟩
end Go.G
