/-
  Chapter 15: each law, whatever its arguments hold.
-/
import Derived.Test.YtigdcnlhgelkaaaD15b
import Derived.Test.YtigdcnlhgelkaaaGOpen
namespace Go.Proofs.Ytigdcnlhgelkaaa
set_option linter.unusedVariables false
set_option linter.unusedSimpArgs false
open Go Go.G Go.Proofs Go.RowKit

theorem lit15_i {m : Int} (h : (Lit.int .i64 m).wf = true) : -9223372036854775808 ≤ m ∧ m < 9223372036854775808 := by
  simp [Lit.wf, IntKind.min, IntKind.max, IntKind.bits, IntKind.signed] at h
  omega
theorem lit15_u {m : Int} (h : (Lit.int .u64 m).wf = true) : 0 ≤ m ∧ m < 18446744073709551616 := by
  simp [Lit.wf, IntKind.min, IntKind.max, IntKind.bits, IntKind.signed] at h
  omega
theorem und15_i : Try.prog.underlying 3 = some (.int .i64) := by kernel_rfl
theorem und15_u : Try.prog.underlying 45 = some (.int .u64) := by kernel_rfl
theorem und15_w : Try.prog.underlying 22 = some (.slice 45) := by kernel_rfl
theorem und15_s : Try.prog.underlying 38 = some (.slice 22) := by kernel_rfl
theorem byt15_u : Try.prog.bytesOf 45 = 8 := by kernel_rfl
theorem byt15_w : Try.prog.bytesOf 22 = 24 := by kernel_rfl
theorem has15_u64 {n : Nat} {b : List A} (h : Has Try.prog n 45 b) : ∃ m, 0 ≤ m ∧ m < 18446744073709551616 ∧ mk Try.prog 45 b = uv m := by
  cases n with
  | zero => exact h.elim
  | succ n =>
    simp only [Has, und15_u] at h
    obtain ⟨m, hm, rfl⟩ := h
    obtain ⟨h1, h2⟩ := lit15_u hm
    exact ⟨m, h1, h2, by simp [mk, und15_u]⟩
theorem list15_map {α : Type} {xs : List A} {g : α → A} {R : α → Prop} (h : ∀ x, x ∈ xs → ∃ y, R y ∧ x = g y) : ∃ l : List α, xs = l.map g ∧ ∀ y, y ∈ l → R y := by
  induction xs with
  | nil => exact ⟨[], rfl, fun y h => nomatch h⟩
  | cons x xs ih =>
    obtain ⟨y, hy, rfl⟩ := h x (by simp)
    obtain ⟨l, rfl, hl⟩ := ih fun z hz => h z (by simp [hz])
    refine ⟨y :: l, rfl, fun z hz => ?_⟩
    rcases List.mem_cons.1 hz with rfl | hz
    · exact hy
    · exact hl z hz
set_option maxRecDepth 100000 in
theorem has15_words {n : Nat} {b : List A} (h : Has Try.prog n 22 b) : ∃ f, ∃ l : List Int, mk Try.prog 22 b = .sl f (l.map uv) ∧ l.length * 8 ≤ 140737488355328 ∧ ∀ y, y ∈ l → 0 ≤ y ∧ y < 18446744073709551616 := by
  cases n with
  | zero => exact h.elim
  | succ n =>
    simp only [Has, und15_w] at h
    obtain ⟨f, xs, rfl, _, hz, hf, hx⟩ := h
    rw [byt15_u] at hz
    obtain ⟨l, rfl, hl⟩ := list15_map (g := uv) (R := fun y => 0 ≤ y ∧ y < 18446744073709551616) (xs := xs) fun x hx' => by
      obtain ⟨b, hb, rfl⟩ := hx x hx'
      obtain ⟨m, h0, h1, e⟩ := has15_u64 hb
      exact ⟨m, ⟨h0, h1⟩, e⟩
    exact ⟨f, l, by simp [mk, und15_w], by simp [reachBytes] at hz; omega, hl⟩
set_option maxRecDepth 100000 in
theorem has15_segs {n : Nat} {b : List A} (h : Has Try.prog n 38 b) : ∃ (f : Bool) (xs : List A) (l : List (List Int)), mk Try.prog 38 b = .sl f xs ∧ A.soft (.sl f xs) = sgs l ∧ l.length * 24 ≤ 140737488355328 ∧ Sg l := by
  cases n with
  | zero => exact h.elim
  | succ n =>
    simp only [Has, und15_s] at h
    obtain ⟨f, xs, rfl, _, hz, hf, hx⟩ := h
    rw [byt15_w] at hz
    obtain ⟨l, rfl, hl⟩ := list15_map (g := fun p : Bool × List Int => .sl p.1 (p.2.map uv)) (R := fun p => p.2.length * 8 ≤ 140737488355328 ∧ ∀ y, y ∈ p.2 → 0 ≤ y ∧ y < 18446744073709551616) (xs := xs) fun x hx' => by
      obtain ⟨b, hb, rfl⟩ := hx x hx'
      obtain ⟨f, l, e, h0, h1⟩ := has15_words hb
      exact ⟨(f, l), ⟨h0, h1⟩, e⟩
    have key : ∀ x, x ∈ l.map Prod.snd → x.length * 8 ≤ 140737488355328 ∧ ∀ y, y ∈ x → 0 ≤ y ∧ y < 18446744073709551616 := fun x hx => by
      obtain ⟨p, hp, rfl⟩ := List.mem_map.1 hx
      exact hl p hp
    refine ⟨f, l.map (fun p : Bool × List Int => .sl p.1 (p.2.map uv)), l.map Prod.snd, by simp [mk, und15_s], ?_, by simp [reachBytes] at hz; simpa using (by omega), ⟨fun x hx => (key x hx).1, fun x hx => (key x hx).2⟩⟩
    simp [A.soft, softL_map, Function.comp_def, sgs, ws]
theorem has15_lim {n : Nat} {b : List A} (hb : Has Try.prog n 40 b) : ∃ p q r s : Int, mk Try.prog 40 b = liX p q r s := by
  cases n with
  | zero => exact hb.elim
  | succ n =>
    have u : Try.prog.underlying 40 = some (.struct ((Try.prog.fieldsOf 40))) := by kernel_rfl
    unfold Has at hb
    rw [u] at hb
    have e : (Try.prog.fieldsOf 40).toList.map Field.type = [3, 3, 3, 3] := by kernel_rfl
    simp only at hb
    rw [hasL_types, e] at hb
    cases n with
    | zero => obtain ⟨a, b, rfl, h, _⟩ := hb; exact h.elim
    | succ n =>
      simp only [HasT, Has, und15_i] at hb
      obtain ⟨_, _, rfl, ⟨k1, _, rfl⟩, _, _, rfl, ⟨k2, _, rfl⟩, _, _, rfl, ⟨k3, _, rfl⟩, _, _, rfl, ⟨k4, _, rfl⟩, rfl⟩ := hb
      exact ⟨k1, k2, k3, k4, by simp [mk, u]⟩
set_option maxRecDepth 100000 in
theorem said_equalGoes (xs : List A) (h : ArgsHas Try.prog Try.f4.params.toList xs) : G.Spec Try.prog 4 xs (.v (.bool true)) := by
  have h : ArgsHas Try.prog [38, 38, 38, 40] xs := h
  match xs, h with
  | [a, a', a'', a3], ⟨⟨n, b, h1, h2⟩, ⟨n', b', h1', h2'⟩, ⟨n'', b'', h1'', h2''⟩, ⟨n3, b3, h13, h23⟩, _⟩ =>
    obtain ⟨f, xs, l, e, e', k1, k2⟩ := has15_segs h1
    obtain ⟨f', xs', l', ea, ea', ka1, ka2⟩ := has15_segs h1'
    obtain ⟨f'', xs'', l'', eb, eb', kb1, kb2⟩ := has15_segs h1''
    obtain ⟨p, q, r, s, e3⟩ := has15_lim h13
    rw [h2, h2', h2'', h23, e, ea, eb, e3]
    exact (EqualGoes_spec k2 ka2 kb2 k1 ka1 kb1 p q r s).soft (by simp only [A.softL, e', ea', eb']; rfl)
end Go.Proofs.Ytigdcnlhgelkaaa
