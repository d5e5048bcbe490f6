/-
  Chapter 5: each law, whatever its arguments hold.
-/
import Derived.Test.YtfdlelcipnabpaaD05f
import Derived.Test.YtfdlelcipnabpaaD05g
import Derived.Test.YtfdlelcipnabpaaGOpen
namespace Go.Proofs.Ytfdlelcipnabpaa
set_option linter.unusedVariables false
set_option linter.unusedSimpArgs false
open Go Go.G Go.Proofs Go.RowKit

theorem has_three5 {P : Program} {t t' t'' : TypeId} {xs : List A} (h : ArgsHas P [t, t', t''] xs) : ∃ n b n' b' n'' b'', Has P n t b ∧ Has P n' t' b' ∧ Has P n'' t'' b'' ∧ xs = [mk P t b, mk P t' b', mk P t'' b''] := by
  match xs, h with
  | [a, a', a''], ⟨⟨n, b, h1, h2⟩, ⟨n', b', h1', h2'⟩, ⟨n'', b'', h1'', h2''⟩, _⟩ => exact ⟨n, b, n', b', n'', b'', h1, h1', h1'', by rw [h2, h2', h2'']⟩
theorem i64_range5 {m : Int} (h : (Lit.int .i64 m).wf = true) : -9223372036854775808 ≤ m ∧ m < 9223372036854775808 := by
  simp [Lit.wf, IntKind.min, IntKind.max, IntKind.bits, IntKind.signed] at h
  omega
theorem has_int5 {n : Nat} {b : List A} (h : Has Try.prog n 3 b) : ∃ m, -9223372036854775808 ≤ m ∧ m < 9223372036854775808 ∧ mk Try.prog 3 b = iv m := by
  cases n with
  | zero => exact h.elim
  | succ n =>
    simp only [Has, und_3] at h
    obtain ⟨m, hm, rfl⟩ := h
    obtain ⟨h1, h2⟩ := i64_range5 hm
    exact ⟨m, h1, h2, by simp [mk, und_3]⟩
theorem list_map5 {α : Type} {xs : List A} {g : α → A} {R : α → Prop} (h : ∀ x, x ∈ xs → ∃ y, R y ∧ x = g y) : ∃ l : List α, xs = l.map g ∧ ∀ y, y ∈ l → R y := by
  induction xs with
  | nil => exact ⟨[], rfl, fun y h => nomatch h⟩
  | cons x xs ih =>
    obtain ⟨y, hy, rfl⟩ := h x (by simp)
    obtain ⟨l, rfl, hl⟩ := ih fun z hz => h z (by simp [hz])
    refine ⟨y :: l, rfl, fun z hz => ?_⟩
    rcases List.mem_cons.1 hz with rfl | hz
    · exact hy
    · exact hl z hz
theorem bytes_int5 : Try.prog.bytesOf 3 = 8 := by kernel_rfl
theorem has_ints {n : Nat} {b : List A} (h : Has Try.prog n 34 b) : ∃ f, ∃ l : List Int, mk Try.prog 34 b = .sl f (l.map iv) ∧ l.length * 8 ≤ 140737488355328 := by
  cases n with
  | zero => exact h.elim
  | succ n =>
    have u : Try.prog.underlying 34 = some (.slice 3) := by kernel_rfl
    unfold Has at h
    rw [u] at h
    obtain ⟨f, xs, rfl, _, hz, hf, hx⟩ := h
    rw [bytes_int5] at hz
    obtain ⟨l, rfl, hl⟩ := list_map5 (g := fun m : Int => iv m) (R := fun _ => True) (xs := xs) fun x hx' => by
      obtain ⟨b, hb, rfl⟩ := hx x hx'
      obtain ⟨m, h0, h1, e⟩ := has_int5 hb
      exact ⟨m, trivial, e⟩
    exact ⟨f, l, by simp [mk, u], by simp [reachBytes] at hz; omega⟩

theorem said_arenaApart (xs : List A) (h : ArgsHas Try.prog Try.f5.params.toList xs) : G.Spec Try.prog 5 xs (.v (.bool true)) := by
  obtain ⟨n, b, n', b', n'', b'', h1, h2, h3, rfl⟩ := has_three5 (t := 3) (t' := 3) (t'' := 34) h
  obtain ⟨z, _, hz, e1⟩ := has_int5 h1
  obtain ⟨m, _, _, e2⟩ := has_int5 h2
  obtain ⟨f, l, e3, hl⟩ := has_ints h3
  rw [e1, e2, e3]
  exact ArenaApart_spec z m hz f l hl
theorem has_u645 {n : Nat} {b : List A} (h : Has Try.prog n 22 b) : ∃ m, 0 ≤ m ∧ m < 18446744073709551616 ∧ b = [uv m] := by
  cases n with
  | zero => exact h.elim
  | succ n =>
    simp only [Has, und_22] at h
    obtain ⟨m, hm, rfl⟩ := h
    simp [Lit.wf, IntKind.min, IntKind.max, IntKind.bits, IntKind.signed] at hm
    exact ⟨m, by omega, by omega, rfl⟩
structure DeedS where
  k : Int
  s : Int
  a : Int
  n : Int
  w : Int
abbrev DeedS.a' (d : DeedS) : A := .agg [iv d.k, iv d.s, iv d.a, iv d.n, uv d.w]
def DeedS.In (d : DeedS) : Prop := (-9223372036854775808 ≤ d.k ∧ d.k < 9223372036854775808) ∧ (-9223372036854775808 ≤ d.s ∧ d.s < 9223372036854775808) ∧ (-9223372036854775808 ≤ d.a ∧ d.a < 9223372036854775808) ∧ (-9223372036854775808 ≤ d.n ∧ d.n < 9223372036854775808) ∧ 0 ≤ d.w ∧ d.w < 18446744073709551616
theorem has_deed {n : Nat} {b : List A} (hb : Has Try.prog n 56 b) : ∃ d : DeedS, d.In ∧ mk Try.prog 56 b = d.a' := by
  cases n with
  | zero => exact hb.elim
  | succ n =>
    have u : Try.prog.underlying 56 = some (.struct ((Try.prog.fieldsOf 56))) := by kernel_rfl
    unfold Has at hb
    rw [u] at hb
    have e : (Try.prog.fieldsOf 56).toList.map Field.type = [3, 3, 3, 3, 22] := by kernel_rfl
    simp only at hb
    rw [hasL_types, e] at hb
    cases n with
    | zero => obtain ⟨a, b, rfl, h, _⟩ := hb; exact h.elim
    | succ n =>
      simp only [HasT, Has, und_3, und_22] at hb
      obtain ⟨_, _, rfl, ⟨k1, h1, rfl⟩, _, _, rfl, ⟨k2, h2, rfl⟩, _, _, rfl, ⟨k3, h3, rfl⟩, _, _, rfl, ⟨k4, h4, rfl⟩, _, _, rfl, ⟨k5, h5, rfl⟩, rfl⟩ := hb
      simp [Lit.wf, IntKind.min, IntKind.max, IntKind.bits, IntKind.signed] at h5
      exact ⟨⟨k1, k2, k3, k4, k5⟩, ⟨i64_range5 h1, i64_range5 h2, i64_range5 h3, i64_range5 h4, (show 0 ≤ k5 by omega), (show k5 < 18446744073709551616 by omega)⟩, by simp [mk, u]⟩
theorem said_arenaNone (xs : List A) (h : ArgsHas Try.prog Try.f8.params.toList xs) : G.Spec Try.prog 8 xs (.v (.bool true)) := by
  have h : ArgsHas Try.prog [56] xs := h
  match xs, h with
  | [a], ⟨⟨n, b, h1, h2⟩, _⟩ =>
    obtain ⟨d, _, e⟩ := has_deed h1
    rw [h2, e]
    exact ArenaNone_spec _ _ _ _ _
end Go.Proofs.Ytfdlelcipnabpaa
