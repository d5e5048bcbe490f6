/-
  One operation: what it looks at, and turns.
-/
import Derived.Test.YtebihdhapepejaaDoorGStep
namespace Go.G
set_option linter.unusedVariables false
set_option linter.unusedSimpArgs false
open Go.RowKit

/-! ### what it looks at, and turns -/
theorem supp_nil (W : Fp) : Supp .nil W := fun _ _ _ => rfl
theorem supp_one {o : Nm} {x : VOb} : Supp (.one o x) [(o, false)] := fun o' H h => by
  have : o' ≠ o := fun e => by subst e; simp [hit, hit1] at h
  rw [app_one, updF_ne this]

theorem storeA_supp {P : Program} {H : Hp} {t : TypeId} {a v : A} {E : Eff} (h : storeA P H t a v = some E) : Supp E (refs a) := by
  unfold storeA at h
  split at h
  · split at h
    · split at h
      · split at h
        · split at h
          · cases h; exact supp_one
          · cases h
        · cases h
      · split at h
        · split at h
          · split at h
            · cases h; exact supp_one
            · split at h
              · cases h; exact supp_one
              · cases h
          · cases h
        · cases h
      · cases h
    · cases h
  · cases h
theorem appendA_supp {P : Program} {H : Hp} {nm : Nm} {t u : TypeId} {a b x : A} {E : Eff} (h : appendA P H nm t u a b = some (x, E)) : Supp E (wrA nm a) := by
  unfold appendA at h
  split at h
  · split at h
    · split at h
      · split at h
        · split at h
          · split at h
            · cases h; exact supp_one
            · cases h
          · split at h
            · split at h
              · cases h; exact supp_one
              · cases h
            · cases h
          · split at h
            · cases h; exact supp_nil _
            · cases h
          · cases h
        · cases h
      · cases h
    · cases h
  · cases h

theorem copyA_supp {P : Program} {H : Hp} {t : TypeId} {a b x : A} {E : Eff} (h : copyA P H t a b = some (x, E)) : Supp E (refs a) := by
  unfold copyA at h
  split at h
  · split at h
    · split at h
      · split at h
        · split at h
          · split at h
            · cases h; exact supp_one
            · cases h
          · cases h
        · cases h
      · cases h
    · cases h
  · cases h

theorem clearA_supp {P : Program} {H : Hp} {t : TypeId} {a x : A} {E : Eff} (h : clearA P H t a = some (x, E)) : Supp E (refs a) := by
  unfold clearA at h
  split at h
  · split at h
    · split at h
      · split at h
        · split at h
          · cases h; exact supp_one
          · cases h
        · cases h
      · cases h
    · cases h
  · cases h

theorem mapUpdA_supp {P : Program} {H : Hp} {t : TypeId} {m k v : A} {E : Eff} (h : mapUpdA P H t m k v = some E) : Supp E (refs m) := by
  unfold mapUpdA at h
  split at h
  · split at h
    · split at h
      · cases h; exact supp_one
      · cases h
    · cases h
  · cases h
theorem opR_supp {P : Program} {D : TypeId → Prop} {nm : Nm} {op : Op} {ρ : Operand → A} {H : Hp} {x : A} {E : Eff} {R W : Fp} (h : OpR P D nm op ρ H x E R W) : Supp E W := by
  unfold OpR at h
  split at h <;> first
    | (obtain ⟨_, rfl, _, _⟩ := h; exact supp_nil _)
    | skip
  · obtain ⟨h, _, rfl⟩ := h
    unfold allocA at h
    split at h
    · split at h
      · cases h; exact supp_one
      · cases h
    · cases h
  · obtain ⟨h, _, rfl⟩ := h
    unfold boxA at h
    split at h
    · cases h; exact supp_one
    · cases h
  · split at h
    · obtain ⟨_, rfl, _, _⟩ := h; exact supp_nil _
    · obtain ⟨h, _, rfl⟩ := h
      unfold buildSliceO at h
      split at h
      · split at h
        · split at h
          · cases h; exact supp_one
          · cases h
        · cases h
      · cases h
  · obtain ⟨h, _, _, rfl⟩ := h
    exact storeA_supp h
  · obtain ⟨h, _, rfl⟩ := h
    unfold makeSliceA at h
    split at h
    · split at h
      · split at h
        · cases h; exact supp_one
        · cases h
      · cases h
    · cases h
  · obtain ⟨h, _, rfl⟩ := h
    unfold makeMapA at h
    split at h
    · cases h; exact supp_one
    · cases h
  · obtain ⟨h, _, _, rfl⟩ := h
    exact mapUpdA_supp h
  · split at h <;> first
      | (obtain ⟨_, rfl, _, _⟩ := h; exact supp_nil _)
      | (obtain ⟨_, _, _, _, _, rfl, _, _⟩ := h; exact supp_nil _)
      | (obtain ⟨_, _, _, _, _, _, h, _, rfl⟩ := h; exact appendA_supp h)
      | (obtain ⟨_, _, _, _, _, _, h, _, rfl⟩ := h; exact copyA_supp h)
      | (obtain ⟨_, _, _, _, h, _, rfl⟩ := h; exact clearA_supp h)
      | skip
    · obtain ⟨g, fs, caps, _, h⟩ := h
      rcases h with (⟨_, _, rfl, _⟩ | ⟨_, rfl, _⟩ | ⟨_, h⟩) | ⟨_, h⟩
      · exact supp_nil _
      · exact supp_nil _
      · exact h
      · exact h
    · obtain ⟨_, _, _, _, _, _, _, _, _, h, _⟩ := h
      rcases h with ⟨_, _, rfl, _⟩ | ⟨_, rfl, _⟩ | ⟨_, h⟩
      · exact supp_nil _
      · exact supp_nil _
      · exact h
    · exact h.elim
  · exact h.elim

theorem agree_sub {l l' : Fp} {H H' : Hp} (h : Agree l' H H') (hs : ∀ p, p ∈ l → p ∈ l') : Agree l H H' := fun o ho => h o (by
  unfold hit at ho ⊢
  rw [List.any_eq_true] at ho ⊢
  obtain ⟨p, h1, h2⟩ := ho
  exact ⟨p, hs p h1, h2⟩)
theorem opR_agree {P : Program} {D : TypeId → Prop} {nm : Nm} {op : Op} {ρ : Operand → A} {H H2 : Hp} {x : A} {E : Eff} {R W : Fp} (h : OpR P D nm op ρ H x E R W) (ha : Agree (R ++ W) H H2) : OpR P D nm op ρ H2 x E R W := by
  unfold OpR at h ⊢
  split at h <;> try exact h
  · obtain ⟨h1, rfl, rfl⟩ := h
    have := agree_one (o := nm) ha (by simp)
    refine ⟨?_, rfl, rfl⟩
    rw [← h1]; simp [allocA, this]
  · obtain ⟨h1, rfl, rfl⟩ := h
    have := agree_one (o := nm) ha (by simp)
    refine ⟨?_, rfl, rfl⟩
    rw [← h1]; simp [boxA, this]
  · split at h
    · exact h
    · rename_i a d
      obtain ⟨h1, rfl, rfl⟩ := h
      have := agree_one (o := a :: d) ha (by simp)
      refine ⟨?_, rfl, rfl⟩
      rw [← h1]; simp [buildSliceO, this]
  · obtain ⟨h1, rfl, rfl, rfl⟩ := h
    exact ⟨by rw [loadA_agree (by simpa using ha)]; exact h1, rfl, rfl, rfl⟩
  · obtain ⟨h1, rfl, rfl, rfl⟩ := h
    exact ⟨by rw [storeA_agree (by simpa using ha)]; exact h1, rfl, rfl, rfl⟩
  · obtain ⟨h1, rfl, rfl⟩ := h
    have := agree_one (o := nm) ha (by simp)
    refine ⟨?_, rfl, rfl⟩
    rw [← h1]; simp [makeSliceA, this]
  · obtain ⟨h1, rfl, rfl⟩ := h
    have := agree_one (o := nm) ha (by simp)
    refine ⟨?_, rfl, rfl⟩
    rw [← h1]; simp [makeMapA, this]
  · obtain ⟨h1, rfl, rfl, rfl⟩ := h
    exact ⟨by rw [mapUpdA_agree (by simpa using ha)]; exact h1, rfl, rfl, rfl⟩
  · obtain ⟨h1, rfl, rfl, rfl⟩ := h
    exact ⟨by rw [mapGetA_agree (by simpa using ha)]; exact h1, rfl, rfl, rfl⟩
  · split at h <;> try exact h
    · obtain ⟨a, b, t, u, h1, h2, h3, rfl, rfl⟩ := h
      exact ⟨a, b, t, u, h1, h2, by rw [appendA_agree ha]; exact h3, rfl, rfl⟩
    · obtain ⟨a, b, t, u, h1, h2, h3, rfl, rfl⟩ := h
      exact ⟨a, b, t, u, h1, h2, by rw [copyA_agree ha]; exact h3, rfl, rfl⟩
    · obtain ⟨a, t, h1, h2, h3, rfl, rfl⟩ := h
      exact ⟨a, t, h1, h2, by rw [clearA_agree (by simpa using ha)]; exact h3, rfl, rfl⟩
    · obtain ⟨g, fs, caps, h1, h⟩ := h
      refine ⟨g, fs, caps, h1, ?_⟩
      rcases h with (⟨k1, k2, rfl, rfl, rfl⟩ | ⟨k1, rfl, rfl, rfl⟩ | ⟨k1, k2⟩) | ⟨k1, k2⟩
      · exact .inl (.inl ⟨k1, k2, rfl, rfl, rfl⟩)
      · have := Agree.all ha
        subst this
        exact .inl (.inr (.inl ⟨k1, rfl, rfl, rfl⟩))
      · exact .inl (.inr (.inr ⟨fun H3 h3 => k1 H3 fun o ho => (h3 o ho).trans (ha o ho), k2⟩))
      · exact .inr ⟨fun H3 h3 => k1 H3 fun o ho => (h3 o ho).trans (ha o ho), k2⟩
    · obtain ⟨t, a, g, d, a', R0, h1, h2, h3, h, rfl⟩ := h
      refine ⟨t, a, g, d, a', R0, h1, h2, ?_, ?_, rfl⟩
      · cases d with
        | none => exact h3
        | some e => exact (loadA_agree (agree_sub ha fun p hp => by simp [hp])).trans h3
      · have ha : Agree (R0 ++ W) H H2 := agree_sub ha fun p hp => by
          simp only [List.mem_append] at hp ⊢
          rcases hp with hp | hp
          · exact .inl (.inr hp)
          · exact .inr hp
        rcases h with ⟨k1, k2, rfl, rfl, rfl⟩ | ⟨k1, rfl, rfl, rfl⟩ | ⟨k1, k2⟩
        · exact .inl ⟨k1, k2, rfl, rfl, rfl⟩
        · have := Agree.all ha
          subst this
          exact .inr (.inl ⟨k1, rfl, rfl, rfl⟩)
        · exact .inr (.inr ⟨fun H3 h3 => k1 H3 fun o ho => (h3 o ho).trans (ha o ho), k2⟩)

/-- 0: by its operands alone · 1: may look at objects · 2: may turn them. -/
def clsOp : Op → Nat
  | .move _ | .assign _ | .pick .. | .build .. | .nilCheck _ | .binOp .. | .unOp .. | .convert .. | .fieldAddr .. | .field .. | .index .. | .extract .. | .slice .. | .indexAddr .. | .makeFunc .. | .makeInterface .. | .typeAssert .. => 0
  | .call c => match c.callee with
    | .builtin .len | .builtin .min | .builtin .max => 0
    | _ => 2
  | .load .. => 1
  | _ => 2

theorem opR_cls0 {P : Program} {D : TypeId → Prop} {nm : Nm} {op : Op} {ρ : Operand → A} {H : Hp} {x : A} {E : Eff} {R W : Fp} (hc : clsOp op = 0) (h : OpR P D nm op ρ H x E R W) : R = [] ∧ W = [] := by
  cases op with
  | call c =>
    obtain ⟨callee, args, ats⟩ := c
    cases callee with
    | builtin b =>
      cases b <;> first
        | (exact h.elim)
        | (cases hc; done)
        | (obtain ⟨_, _, _, _, _, _, h1, h2⟩ := h; exact ⟨h1, h2⟩)
        | (obtain ⟨_, _, h1, h2⟩ := h; exact ⟨h1, h2⟩)
    | _ => cases hc
  | makeFunc fn fs caps =>
    cases fn <;> first
      | (exact h.elim)
      | (obtain ⟨_, _, h1, h2⟩ := h; exact ⟨h1, h2⟩)
  | _ => first
    | (exact h.elim)
    | (cases hc; done)
    | (obtain ⟨_, _, h1, h2⟩ := h; exact ⟨h1, h2⟩)
theorem opR_cls1 {P : Program} {D : TypeId → Prop} {nm : Nm} {op : Op} {ρ : Operand → A} {H : Hp} {x : A} {E : Eff} {R W : Fp} (hc : clsOp op ≤ 1) (h : OpR P D nm op ρ H x E R W) : W = [] := by
  by_cases h0 : clsOp op = 0
  · exact (opR_cls0 h0 h).2
  · have h1 : clsOp op = 1 := by omega
    cases op with
    | load t a => exact h.2.2.2
    | call c =>
      obtain ⟨callee, args, ats⟩ := c
      cases callee with
      | builtin b => cases b <;> cases h1
      | _ => cases h1
    | _ => cases h1
end Go.G
