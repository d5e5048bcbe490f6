/-
  Chapter 6: each law, whatever its arguments hold.
-/
import Derived.Test.YtfdlelcipnabpaaD06e
import Derived.Test.YtfdlelcipnabpaaGOpen
namespace Go.Proofs.Ytfdlelcipnabpaa
set_option linter.unusedVariables false
set_option linter.unusedSimpArgs false
open Go Go.G Go.Proofs Go.RowKit

theorem has_three {P : Program} {t t' t'' : TypeId} {xs : List A} (h : ArgsHas P [t, t', t''] xs) : ∃ n b n' b' n'' b'', Has P n t b ∧ Has P n' t' b' ∧ Has P n'' t'' b'' ∧ xs = [mk P t b, mk P t' b', mk P t'' b''] := by
  match xs, h with
  | [a, a', a''], ⟨⟨n, b, h1, h2⟩, ⟨n', b', h1', h2'⟩, ⟨n'', b'', h1'', h2''⟩, _⟩ => exact ⟨n, b, n', b', n'', b'', h1, h1', h1'', by rw [h2, h2', h2'']⟩
theorem u64_range {m : Int} (h : (Lit.int .u64 m).wf = true) : 0 ≤ m ∧ m < 18446744073709551616 := by
  simp [Lit.wf, IntKind.min, IntKind.max, IntKind.bits, IntKind.signed] at h
  omega
theorem i64_range {m : Int} (h : (Lit.int .i64 m).wf = true) : -9223372036854775808 ≤ m ∧ m < 9223372036854775808 := by
  simp [Lit.wf, IntKind.min, IntKind.max, IntKind.bits, IntKind.signed] at h
  omega
theorem has_int {n : Nat} {b : List A} (h : Has Try.prog n 3 b) : ∃ m, -9223372036854775808 ≤ m ∧ m < 9223372036854775808 ∧ mk Try.prog 3 b = iv m := by
  cases n with
  | zero => exact h.elim
  | succ n =>
    simp only [Has, und_3] at h
    obtain ⟨m, hm, rfl⟩ := h
    obtain ⟨h1, h2⟩ := i64_range hm
    exact ⟨m, h1, h2, by simp [mk, und_3]⟩
theorem has_u64 {n : Nat} {b : List A} (h : Has Try.prog n 22 b) : ∃ m, 0 ≤ m ∧ m < 18446744073709551616 ∧ mk Try.prog 22 b = uv m := by
  cases n with
  | zero => exact h.elim
  | succ n =>
    simp only [Has, und_22] at h
    obtain ⟨m, hm, rfl⟩ := h
    obtain ⟨h1, h2⟩ := u64_range hm
    exact ⟨m, h1, h2, by simp [mk, und_22]⟩
/-- Elements one by one. -/
theorem list_map {α : Type} {xs : List A} {g : α → A} {R : α → Prop} (h : ∀ x, x ∈ xs → ∃ y, R y ∧ x = g y) : ∃ l : List α, xs = l.map g ∧ ∀ y, y ∈ l → R y := by
  induction xs with
  | nil => exact ⟨[], rfl, fun y h => nomatch h⟩
  | cons x xs ih =>
    obtain ⟨y, hy, rfl⟩ := h x (by simp)
    obtain ⟨l, rfl, hl⟩ := ih fun z hz => h z (by simp [hz])
    refine ⟨y :: l, rfl, fun z hz => ?_⟩
    rcases List.mem_cons.1 hz with rfl | hz
    · exact hy
    · exact hl z hz
theorem bytes_u64 : Try.prog.bytesOf 22 = 8 := by kernel_rfl
theorem bytes_words : Try.prog.bytesOf 45 = 24 := by kernel_rfl
/-- Words; segments. -/
theorem has_words {n : Nat} {b : List A} (h : Has Try.prog n 45 b) : ∃ f, ∃ l : List Int, mk Try.prog 45 b = .sl f (l.map uv) ∧ l.length * 8 ≤ 140737488355328 ∧ ∀ y, y ∈ l → 0 ≤ y ∧ y < 18446744073709551616 := by
  cases n with
  | zero => exact h.elim
  | succ n =>
    simp only [Has, und_45] at h
    obtain ⟨f, xs, rfl, _, hz, hf, hx⟩ := h
    rw [bytes_u64] at hz
    obtain ⟨l, rfl, hl⟩ := list_map (g := uv) (R := fun y => 0 ≤ y ∧ y < 18446744073709551616) (xs := xs) fun x hx' => by
      obtain ⟨b, hb, rfl⟩ := hx x hx'
      obtain ⟨m, h0, h1, e⟩ := has_u64 hb
      exact ⟨m, ⟨h0, h1⟩, e⟩
    exact ⟨f, l, by simp [mk, und_45], by simp [reachBytes] at hz; omega, hl⟩
theorem has_segs {n : Nat} {b : List A} (h : Has Try.prog n 44 b) : ∃ (f : Bool) (xs : List A) (l : List (List Int)), mk Try.prog 44 b = .sl f xs ∧ A.soft (.sl f xs) = sgs l ∧ l.length * 24 ≤ 140737488355328 ∧ ∀ x, x ∈ l → x.length * 8 ≤ 140737488355328 ∧ ∀ y, y ∈ x → 0 ≤ y ∧ y < 18446744073709551616 := by
  cases n with
  | zero => exact h.elim
  | succ n =>
    simp only [Has, und_44] at h
    obtain ⟨f, xs, rfl, _, hz, hf, hx⟩ := h
    rw [bytes_words] at hz
    obtain ⟨l, rfl, hl⟩ := list_map (g := fun p : Bool × List Int => .sl p.1 (p.2.map uv)) (R := fun p => p.2.length * 8 ≤ 140737488355328 ∧ ∀ y, y ∈ p.2 → 0 ≤ y ∧ y < 18446744073709551616) (xs := xs) fun x hx' => by
      obtain ⟨b, hb, rfl⟩ := hx x hx'
      obtain ⟨f, l, e, h0, h1⟩ := has_words hb
      exact ⟨(f, l), ⟨h0, h1⟩, e⟩
    refine ⟨f, l.map (fun p : Bool × List Int => .sl p.1 (p.2.map uv)), l.map Prod.snd, by simp [mk, und_44], ?_, by simp [reachBytes] at hz; simpa using (by omega), fun x hx => ?_⟩
    · simp [A.soft, softL_map, Function.comp_def, sgs, ws]
    · obtain ⟨p, hp, rfl⟩ := List.mem_map.1 hx
      exact hl p hp

theorem has_two {P : Program} {t t' : TypeId} {xs : List A} (h : ArgsHas P [t, t'] xs) : ∃ n b n' b', Has P n t b ∧ Has P n' t' b' ∧ xs = [mk P t b, mk P t' b'] := by
  match xs, h with
  | [a, a'], ⟨⟨n, b, h1, h2⟩, ⟨n', b', h1', h2'⟩, _⟩ => exact ⟨n, b, n', b', h1, h1', by rw [h2, h2']⟩
theorem has_ptr {n : Nat} {b : List A} (hb : Has Try.prog n 27 b) : ∃ p : Pt, mk Try.prog 27 b = p.a := by
  cases n with
  | zero => exact hb.elim
  | succ n =>
    have u : Try.prog.underlying 27 = some (.struct ((Try.prog.fieldsOf 27))) := by kernel_rfl
    unfold Has at hb
    rw [u] at hb
    have e : (Try.prog.fieldsOf 27).toList.map Field.type = [3, 3, 3, 3, 3, 3, 3, 4] := by kernel_rfl
    simp only at hb
    rw [hasL_types, e] at hb
    cases n with
    | zero => obtain ⟨a, b, rfl, h, _⟩ := hb; exact h.elim
    | succ n =>
      simp only [HasT, Has, und_3, und_4] at hb
      obtain ⟨_, _, rfl, ⟨k1, _, rfl⟩, _, _, rfl, ⟨k2, _, rfl⟩, _, _, rfl, ⟨k3, _, rfl⟩, _, _, rfl, ⟨k4, _, rfl⟩, _, _, rfl, ⟨k5, _, rfl⟩, _, _, rfl, ⟨k6, _, rfl⟩, _, _, rfl, ⟨k7, _, rfl⟩, _, _, rfl, ⟨k8, rfl⟩, rfl⟩ := hb
      exact ⟨Pt.mk k1 k2 k3 k4 k5 k6 k7 k8, by simp [mk, u]⟩

theorem said_farPads (xs : List A) (h : ArgsHas Try.prog Try.f11.params.toList xs) : G.Spec Try.prog 11 xs (.v (.bool true)) := by
  obtain ⟨n, b, n', b', h1, h2, rfl⟩ := has_two (t := 27) (t' := 3) h
  obtain ⟨p, e⟩ := has_ptr h1
  obtain ⟨s, s0, s1, e2⟩ := has_int h2
  rw [e, e2]
  exact FarPads_spec p s s0 s1
theorem said_farFollows (xs : List A) (h : ArgsHas Try.prog Try.f9.params.toList xs) : G.Spec Try.prog 9 xs (.v (.bool true)) := by
  obtain ⟨n, b, n', b', n'', b'', h1, h2, h3, rfl⟩ := has_three (t := 44) (t' := 3) (t'' := 3) h
  obtain ⟨f, xs, l, e, e', k1, k2⟩ := has_segs h1
  obtain ⟨s, _, _, e2⟩ := has_int h2
  obtain ⟨a, _, _, e3⟩ := has_int h3
  rw [e, e2, e3]
  exact (FarFollows_spec l k1 (fun x hx => (k2 x hx).1) (fun x hx => (k2 x hx).2) s a).soft (by simp only [A.softL, e']; rfl)
theorem said_farWithin (xs : List A) (h : ArgsHas Try.prog Try.f10.params.toList xs) : G.Spec Try.prog 10 xs (.v (.bool true)) := by
  obtain ⟨n, b, n', b', n'', b'', h1, h2, h3, rfl⟩ := has_three (t := 44) (t' := 3) (t'' := 3) h
  obtain ⟨f, xs, l, e, e', k1, k2⟩ := has_segs h1
  obtain ⟨s, _, _, e2⟩ := has_int h2
  obtain ⟨a, _, _, e3⟩ := has_int h3
  rw [e, e2, e3]
  exact (FarWithin_spec l k1 (fun x hx => (k2 x hx).1) (fun x hx => (k2 x hx).2) s a).soft (by simp only [A.softL, e']; rfl)
end Go.Proofs.Ytfdlelcipnabpaa
