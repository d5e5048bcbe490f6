/-
  One operation: it goes by its operands' values alone.
-/
import Derived.Test.YtebihdhapepejaaDoorGStep2
namespace Go.G
set_option linter.unusedVariables false
set_option linter.unusedSimpArgs false
open Go.RowKit

theorem opR_congr {P : Program} {D : TypeId → Prop} {nm : Nm} {o : Oper} {ρ ρ' : Operand → A} {H : Hp} {x : A} {E : Eff} {R W : Fp} (he : ∀ y ∈ o.op.operands, ρ y = ρ' y) (h : OpR P D nm o.op ρ H x E R W) : OpR P D nm o.op ρ' H x E R W := by
  unfold OpR at h ⊢
  have emap : ∀ l : Array Operand, (∀ y, y ∈ l → y ∈ o.op.operands) → l.toList.map ρ' = l.toList.map ρ := fun l hl => by
    apply List.map_congr_left
    intro y hy
    exact (he y (hl y (by simpa using hy))).symm
  split at h <;> rename_i ho <;> simp only [ho, Op.operands] at he emap ⊢
  case h_6 _ t ps =>
    have e : (ps.toList.map fun p => (p.1, ρ' p.2)) = ps.toList.map fun p => (p.1, ρ p.2) := by
      apply List.map_congr_left
      intro p hp
      rw [he p.2 (by simp; exact ⟨p.1, by simpa using hp⟩)]
    rw [e]; exact h
  case h_7 _ t n ps =>
    have e : (ps.toList.map fun p => (p.1, ρ' p.2)) = ps.toList.map fun p => (p.1, ρ p.2) := by
      apply List.map_congr_left
      intro p hp
      rw [he p.2 (by simp; exact ⟨p.1, by simpa using hp⟩)]
    rw [e]; exact h
  case h_15 _ t a lo hi mx =>
    have ea : ρ' a = ρ a := (he a (by simp)).symm
    have e1 : lo.map ρ' = lo.map ρ := by cases lo with
      | none => rfl
      | some y => simp [he y (by simp)]
    have e2 : hi.map ρ' = hi.map ρ := by cases hi with
      | none => rfl
      | some y => simp [he y (by simp)]
    have e3 : mx.map ρ' = mx.map ρ := by cases mx with
      | none => rfl
      | some y => simp [he y (by simp)]
    rw [ea, e1, e2, e3]; exact h
  case h_21 _ f fs caps =>
    rw [emap fs (fun y hy => Array.mem_append_left _ hy), emap caps (fun y hy => Array.mem_append_right _ hy)]; exact h
  case h_27 _ q =>
    have emap := emap q.args (fun y hy => by simp only [Call.operands]; exact Array.mem_append_right _ hy)
    split at h <;> rename_i hq <;> try simp only [hq]
    · obtain ⟨a, t, h1, h2, h3⟩ := h
      have ea : ρ a = ρ' a := he a (by simp [Call.operands, hq, h1])
      exact ⟨a, t, h1, h2, by rw [← ea]; exact h3⟩
    · obtain ⟨a, b, t, u, h1, h2, h3⟩ := h
      have ea : ρ a = ρ' a := he a (by simp [Call.operands, hq, h1])
      have eb : ρ b = ρ' b := he b (by simp [Call.operands, hq, h1])
      exact ⟨a, b, t, u, h1, h2, by rw [← ea, ← eb]; exact h3⟩
    · obtain ⟨a, b, t, u, h1, h2, h3⟩ := h
      have ea : ρ a = ρ' a := he a (by simp [Call.operands, hq, h1])
      have eb : ρ b = ρ' b := he b (by simp [Call.operands, hq, h1])
      exact ⟨a, b, t, u, h1, h2, by rw [← ea, ← eb]; exact h3⟩
    · obtain ⟨a, t, h1, h2, h3⟩ := h
      have ea : ρ a = ρ' a := he a (by simp [Call.operands, hq, h1])
      exact ⟨a, t, h1, h2, by rw [← ea]; exact h3⟩
    · rw [emap]; exact h
    · rw [emap]; exact h
    · rename_i f
      have ef : ρ f = ρ' f := he f (by simp [Call.operands, hq])
      rw [emap, ← ef]; exact h
    · rename_i r name
      have er : ρ r = ρ' r := he r (by simp [Call.operands, hq])
      rw [emap, ← er]; exact h
    · exact h.elim
  case h_28 => exact h.elim
  all_goals first
    | exact h
    | (simp only [List.mem_toArray, Array.mem_def, List.mem_cons, List.not_mem_nil, or_false, forall_eq_or_imp, forall_eq] at he
       first
        | (rw [← he]; exact h)
        | (obtain ⟨e1, e2⟩ := he; rw [← e1, ← e2]; exact h)
        | (obtain ⟨e1, e2, e3⟩ := he; rw [← e1, ← e2, ← e3]; exact h))
end Go.G
