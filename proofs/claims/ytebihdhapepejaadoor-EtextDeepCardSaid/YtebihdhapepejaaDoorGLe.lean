/-
  States told otherwise: a nil slice in an object's cell as a row of its own.
-/
import Derived.Test.YtebihdhapepejaaDoorGFresh
namespace Go.G
set_option linter.unusedVariables false
set_option linter.unusedSimpArgs false
open Go.RowKit

theorem blank_rel {w : World} {I : Nat → Prop} {μ : Mu} {d : Nm} {u sz : Nat} {v : Value} (h1 : Rel w I μ (.sl true []) v) (hu : (μ d).u = u) (h0 : 1 ≤ u) (hz : (μ d).sz = sz) : Rel w I μ (.osl d u sz 0 0) v := by
  subst hu
  cases h1 with
  | slN _ _ q cap hc =>
    have := hc rfl
    subst this
    exact .osl _ _ _ _ _ _ _ _ h0 (Nat.le_refl _) (Nat.le_refl _) (fun h => by omega) (fun _ => ⟨hz, .inl ⟨rfl, rfl⟩⟩)
  | sl _ _ b off n cap z _ g h1 h2 h3 h4 =>
    have h5 : n = 0 := h2
    have h6 : cap = 0 := h4 rfl
    subst h5 h6
    exact .osl _ _ _ _ _ _ _ _ h0 (Nat.le_refl _) (Nat.le_refl _) (fun h => by omega) (fun _ => ⟨hz, .inl ⟨rfl, rfl⟩⟩)

theorem le_blankC {c : Cx} {s : Nat → A} {H : Hp} {d : Nm} {u : Nat} {cs : List A} (i : Nat) (d' : Nm) (sz : Nat) (hd : H d = ⟨u, .cells cs⟩) (hi : cs[i]? = some (.sl true [])) (hne : d ≠ d') :
    Le c ⟨s, H⟩ ⟨s, updF (updF H d' ⟨(H d').u + 1, .arr sz []⟩) d ⟨u, .cells (cs.set i (.osl d' ((H d').u + 1) sz 0 0))⟩⟩ := fun a w I μ hs => by
  obtain ⟨hx, hs'⟩ := hs.sim.upd (grownBy_refl w none) d' ⟨(H d').u + 1, false, 0, 0, sz, 0⟩ (.arr sz []) (.inl rfl) (.inl (by rw [hs.sim.ver]; exact Nat.lt_succ_self _)) (fun h => nomatch h) (fun h => nomatch h) (fun hx => ⟨rfl, .inl ⟨rfl, rfl⟩⟩)
  have hd1 : (updF H d' ⟨(H d').u + 1, .arr sz []⟩ : Hp) d = ⟨u, .cells cs⟩ := by rw [updF_ne hne]; exact hd
  have hob := hs'.ob d
  rw [hd1] at hob
  obtain ⟨vs, k1, k2, k3⟩ := hob
  have hB : hasB (updF μ d' ⟨(H d').u + 1, false, 0, 0, sz, 0⟩ d) ((updF H d' ⟨(H d').u + 1, .arr sz []⟩ : Hp) d).ob = true := by rw [hd1]; rfl
  obtain ⟨hx2, hs2⟩ := hs'.upd (grownBy_refl w none) d (updF μ d' ⟨(H d').u + 1, false, 0, 0, sz, 0⟩ d) (.cells (cs.set i (.osl d' ((H d').u + 1) sz 0 0))) (.inl rfl) (.inr rfl) (fun _ => .inr ⟨hB, rfl⟩) (fun _ => hs'.tag _ hB) (fun hx2 => by
    refine ⟨vs, k1, by simpa using k2, fun k y hk => ?_⟩
    rw [updM_self]
    by_cases hki : k = i
    · subst hki
      have hlt : k < cs.length := (List.getElem?_eq_some_iff.1 hi).1
      rw [List.getElem?_set_self hlt] at hk
      cases hk
      exact ⟨rfl, blank_rel (k3 k _ hi).2 (by simp) (by omega) (by simp)⟩
    · rw [List.getElem?_set_ne (Ne.symm hki)] at hk
      exact k3 k y hk)
  have hu : (updF μ d' ⟨(H d').u + 1, false, 0, 0, sz, 0⟩ d).u = u := by rw [hs'.ver, hd1]
  rw [hu] at hs2
  exact ⟨I, _, hs2, hs.size, hs.defers, fun t => hx2.rel (hx.rel (hs.rel t))⟩

/-! ### objects that are written no more -/
/-- Some of the objects; the others are given up. -/
def Part (H H' : Hp) : Prop := ∀ o, H' o = H o ∨ H' o = ⟨(H o).u, .none⟩
theorem Part.has {H H' : Hp} (h : Part H H') {L : Loc} {o : Nm} (k : hasB L (H' o).ob = true) : hasB L (H o).ob = true := by
  rcases h o with e | e
  · rw [← e]; exact k
  · rw [e] at k; cases k
theorem Part.ver {H H' : Hp} (h : Part H H') (o : Nm) : (H' o).u = (H o).u := by rcases h o with e | e <;> rw [e]
theorem Sim.part {c : Cx} {w : World} {I : Nat → Prop} {μ : Mu} {H H' : Hp} (hs : Sim c w I μ H) (h : Part H H') : Sim c w I μ H' :=
  ⟨hs.kept, hs.lt, hs.old, hs.new, fun o => by rw [h.ver, hs.ver], fun o => by
    rcases h o with e | e
    · rw [e]; exact hs.ob o
    · rw [e]; trivial, fun o o' k k' => hs.apart o o' (h.has k) (h.has k'), fun o k => hs.own o (h.has k), hs.mle, fun o k => hs.tag o (h.has k), hs.tab⟩
theorem Sim.freezeAll {c : Cx} {w : World} {I : Nat → Prop} {μ : Mu} {H H1 H2 : Hp} (hs : Sim c w I μ H) (h1 : Part H H1) (h2 : Part H H2) (hd : ∀ o, (H1 o).ob = .none ∨ (H2 o).ob = .none) (hM : ∀ o b, (H1 o).ob ≠ .none → ¬ c.M0 o b) :
    Sim c w (fun b => I b ∨ Owned H1 μ b) μ H2 := by
  have hx : Ext I μ w (fun b => I b ∨ Owned H1 μ b) μ w := ⟨fun b h => .inl h, fun b h => rfl, MuLe.refl _⟩
  refine ⟨hs.kept, fun b h => ?_, fun b h => .inl (hs.old b h), fun b h => ?_, fun o => by rw [h2.ver, hs.ver], fun o => ?_, fun o o' k k' => hs.apart o o' (h2.has k) (h2.has k'), fun o k => ?_, hs.mle, fun o k => hs.tag o (h2.has k), hs.tab.mono (fun _ h => .inl h) (fun _ _ => rfl)⟩
  · rcases h with h | ⟨o, k, rfl⟩
    · exact hs.lt b h
    · exact (hs.own o (h1.has k)).2.2
  · rcases h with h | ⟨o, k, rfl⟩
    · exact hs.new b h
    · rcases (hs.own o (h1.has k)).2.1 with h | h
      · exact (hM _ _ (fun e => by rw [e] at k; cases k) h).elim
      · exact .inr h
  · rcases h2 o with e | e
    · rw [e]; exact OSim.keep hx (fun _ => rfl) (hs.ob o)
    · rw [e]; trivial
  · obtain ⟨k1, k2, k3⟩ := hs.own o (h2.has k)
    refine ⟨fun hh => ?_, k2, k3⟩
    rcases hh with hh | ⟨o', k', e⟩
    · exact k1 hh
    · refine hs.apart o o' (h2.has k) (h1.has k') (fun e => ?_) e.symm
      subst e
      rcases hd o with e | e
      · rw [e] at k'; cases k'
      · rw [e] at k; cases k

/-- A slot's objects are frozen. -/
theorem le_freeze {c : Cx} {s : Nat → A} {H H1 H2 : Hp} (hM : ∀ o b, (H1 o).ob ≠ .none → ¬ c.M0 o b) (t : Nat) (a : A) (h1 : Part H H1) (h2 : Part H H2) (hd : ∀ o, (H1 o).ob = .none ∨ (H2 o).ob = .none) (hf : Frz H1 (s t) a) : Le c ⟨s, H⟩ ⟨upd s t a, H2⟩ := fun x w I μ hs => by
  have h3 := hs.sim.freezeAll h1 h2 hd hM
  refine ⟨_, μ, h3, hs.size, hs.defers, fun k => ?_⟩
  show Rel w _ μ (upd s t a k) _
  unfold upd
  split
  · rename_i e
    subst e
    exact (hf c w I μ _ (hs.sim.part h1) (hs.rel k)).ofI
  · exact (hs.rel k).mono0 (fun b h => .inl h) (fun _ _ => rfl)

/-- Of a heap that is told by a list. -/
def onlyH (D : List Nm) (l : List (Nm × VOb)) : List (Nm × VOb) := l.map fun p => if D.contains p.1 then p else (p.1, ⟨p.2.u, .none⟩)
def lessH (D : List Nm) (l : List (Nm × VOb)) : List (Nm × VOb) := l.map fun p => if D.contains p.1 then (p.1, ⟨p.2.u, .none⟩) else p
theorem lkH_only (D : List Nm) : ∀ (l : List (Nm × VOb)) (o : Nm), lkH (onlyH D l) o = if D.contains o = true then lkH l o else ⟨(lkH l o).u, .none⟩
  | [], o => by simp [onlyH, lkH]
  | (k, x) :: l, o => by
    have ih := lkH_only D l o
    simp only [onlyH, List.map_cons] at ih ⊢
    by_cases hk : k = o
    · subst hk
      by_cases h : D.contains k = true <;> simp only [h, if_true, lkH] <;> simp
    · by_cases h : D.contains k = true <;> simp only [h, if_true, if_false, Bool.false_eq_true, lkH, hk] <;> exact ih
theorem lkH_less (D : List Nm) : ∀ (l : List (Nm × VOb)) (o : Nm), lkH (lessH D l) o = if D.contains o = true then ⟨(lkH l o).u, .none⟩ else lkH l o
  | [], o => by simp [lessH, lkH]
  | (k, x) :: l, o => by
    have ih := lkH_less D l o
    simp only [lessH, List.map_cons] at ih ⊢
    by_cases hk : k = o
    · subst hk
      by_cases h : D.contains k = true <;> simp only [h, if_true, lkH] <;> simp
    · by_cases h : D.contains k = true <;> simp only [h, if_true, if_false, Bool.false_eq_true, lkH, hk] <;> exact ih
theorem le_freezeL {c : Cx} {s : Nat → A} {l : List (Nm × VOb)} (D : List Nm) (t : Nat) (a : A) (hM : ∀ o b, ¬ c.M0 o b) (hf : Frz (lkH (onlyH D l)) (s t) a) : Le c ⟨s, lkH l⟩ ⟨upd s t a, lkH (lessH D l)⟩ := by
  refine le_freeze (fun o b _ => hM o b) t a (H1 := lkH (onlyH D l)) (fun o => ?_) (fun o => ?_) (fun o => ?_) hf
  · rw [lkH_only]; split
    · exact .inl rfl
    · exact .inr rfl
  · rw [lkH_less]; split
    · exact .inr rfl
    · exact .inl rfl
  · rw [lkH_only, lkH_less]; split
    · exact .inr rfl
    · exact .inl rfl
/-- One object is frozen, behind one slot. -/
theorem le_freezeD {c : Cx} {s : Nat → A} {H : Hp} {d : Nm} (hM : ∀ b, ¬ c.M0 d b) (t : Nat) (a : A) (hf : ∀ H1 : Hp, H1 d = H d → Frz H1 (s t) a) : Le c ⟨s, H⟩ ⟨upd s t a, updF H d ⟨(H d).u, .none⟩⟩ := by
  refine le_freeze (fun o b h => by
    by_cases e : o = d
    · subst e; exact hM b
    · exact absurd (by simp [e]) h) t a (H1 := fun o => if o = d then H o else ⟨(H o).u, .none⟩) (fun o => ?_) (fun o => ?_) (fun o => ?_) (hf _ (by simp))
  · by_cases h : o = d
    · exact .inl (by simp [h])
    · exact .inr (by simp [h])
  · by_cases h : o = d
    · subst h; exact .inr (by simp)
    · exact .inl (updF_ne h)
  · by_cases h : o = d
    · subst h; exact .inr (by simp)
    · exact .inl (by simp [h])
end Go.G
