/-
  What an argument holds: trees and edits out of readings.
-/
import Derived.Test.YtigdcnlhgelkaaaD07w
import Derived.Test.YtigdcnlhgelkaaaGOpen
namespace Go.Proofs.Ytigdcnlhgelkaaa
set_option linter.unusedVariables false
set_option linter.unusedSimpArgs false
open Go Go.G Go.Proofs Go.PL Go.RowKit

theorem lit_i64 {m : Int} (h : (Lit.int .i64 m).wf = true) : i64R m := by
  simp [Lit.wf, IntKind.min, IntKind.max, IntKind.bits, IntKind.signed] at h
  unfold i64R; omega
theorem lit_u64 {m : Int} (h : (Lit.int .u64 m).wf = true) : u64R m := by
  simp [Lit.wf, IntKind.min, IntKind.max, IntKind.bits, IntKind.signed] at h
  unfold u64R; omega
theorem lit_u8 {m : Int} (h : (Lit.int .u8 m).wf = true) : 0 ≤ m ∧ m < 256 := by
  simp [Lit.wf, IntKind.min, IntKind.max, IntKind.bits, IntKind.signed] at h
  omega
theorem und_int' : Try.prog.underlying 3 = some (.int .i64) := by kernel_rfl
theorem und_u64' : Try.prog.underlying 45 = some (.int .u64) := by kernel_rfl
theorem hasI {n : Nat} {b : List A} (h : Has Try.prog n 3 b) : ∃ m, i64R m ∧ b = [iv m] := by
  cases n with
  | zero => exact h.elim
  | succ n =>
    unfold Has at h
    rw [und_int'] at h
    obtain ⟨m, hm, rfl⟩ := h
    exact ⟨m, lit_i64 hm, rfl⟩
theorem hasU {n : Nat} {b : List A} (h : Has Try.prog n 45 b) : ∃ m, u64R m ∧ b = [uv m] := by
  cases n with
  | zero => exact h.elim
  | succ n =>
    unfold Has at h
    rw [und_u64'] at h
    obtain ⟨m, hm, rfl⟩ := h
    exact ⟨m, lit_u64 hm, rfl⟩
theorem rowOf {α : Type} {xs : List A} {g : α → A} {R : α → Prop} (h : ∀ x, x ∈ xs → ∃ y, R y ∧ x.soft = g y) : ∃ l : List α, A.softL xs = l.map g ∧ l.length = xs.length ∧ ∀ y, y ∈ l → R y := by
  induction xs with
  | nil => exact ⟨[], rfl, rfl, fun y h => nomatch h⟩
  | cons x xs ih =>
    obtain ⟨y, hy, e⟩ := h x (by simp)
    obtain ⟨l, e2, e3, hl⟩ := ih fun z hz => h z (by simp [hz])
    refine ⟨y :: l, by simp [A.softL, e, e2], by simp [e3], fun z hz => ?_⟩
    rcases List.mem_cons.1 hz with rfl | hz
    · exact hy
    · exact hl z hz
theorem hasSl {P : Program} {t e : TypeId} {m : Nat} (u : P.underlying t = some (.slice e)) (hb : P.bytesOf e = m) {n : Nat} {b : List A} (h : Has P n t b) {α : Type} {g : α → A} {R : α → Prop} (hx : ∀ k b, k < n → Has P k e b → ∃ y, R y ∧ (mk P e b).soft = g y) :
    ∃ (f : Bool) (xs : List A) (l : List α), b = [.sl f xs] ∧ A.softL xs = l.map g ∧ l.length * m ≤ 140737488355328 ∧ ∀ y, y ∈ l → R y := by
  cases n with
  | zero => exact h.elim
  | succ n =>
    unfold Has at h
    rw [u] at h
    obtain ⟨f, xs, rfl, _, hz, hf, hx'⟩ := h
    rw [hb] at hz
    obtain ⟨l, e1, e2, hl⟩ := rowOf (g := g) (R := R) (xs := xs) fun x hxx => by
      obtain ⟨b, hb', rfl⟩ := hx' x hxx
      exact hx n b (by omega) hb'
    exact ⟨f, xs, l, rfl, e1, by rw [e2]; exact Nat.le_trans hz (by decide), hl⟩
theorem mk_int (b : List A) : mk Try.prog 3 b = b.headD .any := by unfold mk; rw [und_int']
theorem mk_u64 (b : List A) : mk Try.prog 45 b = b.headD .any := by unfold mk; rw [und_u64']
theorem hasWs {n : Nat} {b : List A} (h : Has Try.prog n 22 b) : ∃ (f : Bool) (xs : List A) (l : List Int), b = [.sl f xs] ∧ A.softL xs = l.map uv ∧ l.length * 8 ≤ 140737488355328 ∧ ∀ y, y ∈ l → u64R y :=
  hasSl (e := 45) (by kernel_rfl) (by kernel_rfl) h fun k b _ hb => by
    obtain ⟨m, h1, rfl⟩ := hasU hb
    exact ⟨m, h1, by rw [mk_u64]; rfl⟩

theorem und_tree : Try.prog.underlying 25 = some (.struct (Try.prog.fieldsOf 25)) := by kernel_rfl
theorem fld_tree : (Try.prog.fieldsOf 25).toList.map Field.type = [3, 22, 23] := by kernel_rfl
theorem mk_tree (b : List A) : mk Try.prog 25 b = .agg b := by unfold mk; rw [und_tree]
theorem hasTree : ∀ (n : Nat) (b : List A), Has Try.prog n 25 b → ∃ t, wfT t ∧ A.softL b = [iv t.kind, uws t.words, tKs t.kids] := by
  intro n
  induction n using Nat.strongRecOn with
  | ind n ih =>
    intro b h
    cases n with
    | zero => exact h.elim
    | succ n =>
      unfold Has at h
      rw [und_tree] at h
      simp only at h
      rw [hasL_types, fld_tree] at h
      obtain ⟨_, _, rfl, h1, _, _, rfl, h2, _, _, rfl, h3, rfl⟩ := h
      obtain ⟨k, hk, rfl⟩ := hasI h1
      obtain ⟨f, xs, w, rfl, e2, l2, r2⟩ := hasWs h2
      obtain ⟨f3, ys, l, rfl, e3, l3, r3⟩ := hasSl (m := 56) (e := 25) (g := tA) (R := wfT) (by kernel_rfl) (by kernel_rfl) h3 fun j b hj hb => by
        obtain ⟨t, ht, e⟩ := ih j (by omega) b hb
        exact ⟨t, ht, by rw [mk_tree]; simp only [A.soft, e]; rw [tA_eq]⟩
      refine ⟨.mk k w l, wfT_iff.2 ⟨hk, r2, l2, l3, r3⟩, ?_⟩
      simp only [List.cons_append, List.nil_append, List.append_nil, A.softL, A.soft, e2, e3]
      rfl
theorem hasTrees {n : Nat} {b : List A} (h : Has Try.prog n 23 b) : ∃ (f : Bool) (xs : List A) (l : List T), b = [.sl f xs] ∧ A.softL xs = l.map tA ∧ l.length * 56 ≤ 140737488355328 ∧ ∀ y, y ∈ l → wfT y :=
  hasSl (e := 25) (by kernel_rfl) (by kernel_rfl) h fun k b _ hb => by
    obtain ⟨t, h1, e⟩ := hasTree k b hb
    exact ⟨t, h1, by rw [mk_tree]; simp only [A.soft, e]; rw [tA_eq]⟩
end Go.Proofs.Ytigdcnlhgelkaaa
