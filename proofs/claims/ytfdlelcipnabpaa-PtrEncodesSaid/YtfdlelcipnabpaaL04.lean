/-
  Chapter 4: each law, whatever its arguments hold.
-/
import Derived.Test.YtfdlelcipnabpaaC04d
import Derived.Test.YtfdlelcipnabpaaAbOpen
namespace Go.Proofs.Ytfdlelcipnabpaa
set_option linter.unusedVariables false
set_option linter.unusedSimpArgs false
open Go Go.Ab Go.Proofs Go.RowKit

/-- The one argument. -/
theorem has_one {P : Program} {t : TypeId} {xs : List A} (h : ArgsHas P [t] xs) : ∃ n b, Has P n t b ∧ xs = [mk P t b] := by
  match xs, h with
  | [a], ⟨⟨n, b, h1, h2⟩, _⟩ => exact ⟨n, b, h1, by rw [h2]⟩

theorem u64_range {m : Int} (h : (Lit.int .u64 m).wf = true) : 0 ≤ m ∧ m < 18446744073709551616 := by
  simp [Lit.wf, IntKind.min, IntKind.max, IntKind.bits, IntKind.signed] at h
  omega

theorem said_ptrDecodes (xs : List A) (h : ArgsHas Try.prog Try.f3.params.toList xs) : Ab.Spec Try.prog 3 xs (.v (.bool true)) := by
  obtain ⟨n, b, hb, rfl⟩ := has_one (t := 22) h
  cases n with
  | zero => exact hb.elim
  | succ n =>
    simp only [Has, und_22] at hb
    obtain ⟨m, hm, rfl⟩ := hb
    obtain ⟨h0, h1⟩ := u64_range hm
    have e : mk Try.prog 22 [A.v (.int .u64 m)] = uv m := by simp [mk, und_22]
    rw [e]
    exact PtrDecodes_spec h0 h1

theorem said_ptrEncodes (xs : List A) (h : ArgsHas Try.prog Try.f4.params.toList xs) : Ab.Spec Try.prog 4 xs (.v (.bool true)) := by
  obtain ⟨n, b, hb, rfl⟩ := has_one (t := 27) h
  cases n with
  | zero => exact hb.elim
  | succ n =>
    have u : Try.prog.underlying 27 = some (.struct ((Try.prog.fieldsOf 27))) := by kernel_rfl
    unfold Has at hb
    rw [u] at hb
    have e : (Try.prog.fieldsOf 27).toList.map Field.type = [3, 3, 3, 3, 3, 3, 3, 4] := by kernel_rfl
    simp only at hb
    rw [hasL_types, e] at hb
    cases n with
    | zero => obtain ⟨a, b, rfl, h, _⟩ := hb; exact h.elim
    | succ n =>
      simp only [HasT, Has, und_3, und_4] at hb
      obtain ⟨_, _, rfl, ⟨k1, _, rfl⟩, _, _, rfl, ⟨k2, _, rfl⟩, _, _, rfl, ⟨k3, _, rfl⟩, _, _, rfl, ⟨k4, _, rfl⟩, _, _, rfl, ⟨k5, _, rfl⟩, _, _, rfl, ⟨k6, _, rfl⟩, _, _, rfl, ⟨k7, _, rfl⟩, _, _, rfl, ⟨k8, rfl⟩, rfl⟩ := hb
      have e : mk Try.prog 27 ([A.v (.int .i64 k1)] ++ ([A.v (.int .i64 k2)] ++ ([A.v (.int .i64 k3)] ++ ([A.v (.int .i64 k4)] ++ ([A.v (.int .i64 k5)] ++ ([A.v (.int .i64 k6)] ++ ([A.v (.int .i64 k7)] ++ ([A.v (.bool k8)] ++ [])))))))) = (Pt.mk k1 k2 k3 k4 k5 k6 k7 k8).a := by simp [mk, u]
      rw [e]
      exact PtrEncodes_spec _
end Go.Proofs.Ytfdlelcipnabpaa
