/-
  What an argument holds: edits out of readings.
-/
import Derived.Test.YtigdcnlhgelkaaaDHas
namespace Go.Proofs.Ytigdcnlhgelkaaa
set_option linter.unusedVariables false
set_option linter.unusedSimpArgs false
open Go Go.G Go.Proofs Go.PL Go.RowKit

theorem softL_app : ∀ (a b : List A), A.softL (a ++ b) = A.softL a ++ A.softL b
  | [], b => by simp [A.softL]
  | x :: a, b => by simp [A.softL, softL_app a b]
theorem und_we : Try.prog.underlying 93 = some (.struct (Try.prog.fieldsOf 93)) := by kernel_rfl
theorem fld_we : (Try.prog.fieldsOf 93).toList.map Field.type = [3, 5, 45, 45] := by kernel_rfl
theorem mk_we (b : List A) : mk Try.prog 93 b = .agg b := by unfold mk; rw [und_we]
theorem hasB8 {n : Nat} {b : List A} (h : Has Try.prog n 5 b) : ∃ m, (0 ≤ m ∧ m < 256) ∧ b = [u8 m] := by
  cases n with
  | zero => exact h.elim
  | succ n =>
    have u : Try.prog.underlying 5 = some (.int .u8) := by kernel_rfl
    unfold Has at h
    rw [u] at h
    obtain ⟨m, hm, rfl⟩ := h
    exact ⟨m, lit_u8 hm, rfl⟩
theorem hasWE {n : Nat} {b : List A} (h : Has Try.prog n 93 b) : ∃ w : WE, WE.wf w ∧ (mk Try.prog 93 b).soft = wA w := by
  cases n with
  | zero => exact h.elim
  | succ n =>
    unfold Has at h
    rw [und_we] at h
    simp only at h
    rw [hasL_types, fld_we] at h
    obtain ⟨_, _, rfl, h1, _, _, rfl, h2, _, _, rfl, h3, _, _, rfl, h4, rfl⟩ := h
    obtain ⟨a, ha, rfl⟩ := hasI h1
    obtain ⟨m, hm, rfl⟩ := hasB8 h2
    obtain ⟨o, ho, rfl⟩ := hasU h3
    obtain ⟨w, hw, rfl⟩ := hasU h4
    exact ⟨⟨a, m, o, w⟩, ⟨ha, hm, ho, hw⟩, by rw [mk_we]; rfl⟩
theorem und_e : Try.prog.underlying 30 = some (.struct (Try.prog.fieldsOf 30)) := by kernel_rfl
theorem fld_e : (Try.prog.fieldsOf 30).toList.map Field.type = [3, 25, 25, 26, 27, 3, 28] := by kernel_rfl
theorem mk_e (b : List A) : mk Try.prog 30 b = .agg b := by unfold mk; rw [und_e]
theorem und_ke : Try.prog.underlying 95 = some (.struct (Try.prog.fieldsOf 95)) := by kernel_rfl
theorem fld_ke : (Try.prog.fieldsOf 95).toList.map Field.type = [3, 30] := by kernel_rfl
theorem mk_ke (b : List A) : mk Try.prog 95 b = .agg b := by unfold mk; rw [und_ke]
theorem und_op : Try.prog.underlying 98 = some (.struct (Try.prog.fieldsOf 98)) := by kernel_rfl
theorem fld_op : (Try.prog.fieldsOf 98).toList.map Field.type = [3, 3, 23, 30] := by kernel_rfl
theorem mk_op (b : List A) : mk Try.prog 98 b = .agg b := by unfold mk; rw [und_op]
theorem hasEdit : ∀ (n : Nat) (b : List A), Has Try.prog n 30 b → ∃ e, wfE e ∧ A.softL b = eL e := by
  intro n
  induction n using Nat.strongRecOn with
  | ind n ih =>
    intro b h
    cases n with
    | zero => exact h.elim
    | succ n =>
      unfold Has at h
      rw [und_e] at h
      simp only at h
      rw [hasL_types, fld_e] at h
      obtain ⟨_, _, rfl, h1, _, _, rfl, h2, _, _, rfl, h3, _, _, rfl, h4, _, _, rfl, h5, _, _, rfl, h6, _, _, rfl, h7, rfl⟩ := h
      obtain ⟨k, hk, rfl⟩ := hasI h1
      obtain ⟨o, ho, e2⟩ := hasTree _ _ h2
      obtain ⟨nn, hn, e3⟩ := hasTree _ _ h3
      obtain ⟨f4, x4, ws, rfl, e4, l4, r4⟩ := hasSl (m := 32) (e := 93) (g := wA) (R := WE.wf) (by kernel_rfl) (by kernel_rfl) h4 fun j b hj hb => hasWE hb
      obtain ⟨f5, x5, ks, rfl, e5, l5, r5⟩ := hasSl (m := 208) (e := 95) (g := kA) (R := fun x => i64R x.at_ ∧ wfE x.e) (by kernel_rfl) (by kernel_rfl) h5 fun j b hj hb => by
        cases j with
        | zero => exact hb.elim
        | succ j =>
          unfold Has at hb
          rw [und_ke] at hb
          simp only at hb
          rw [hasL_types, fld_ke] at hb
          obtain ⟨_, _, rfl, g1, _, _, rfl, g2, rfl⟩ := hb
          obtain ⟨a, ha, rfl⟩ := hasI g1
          obtain ⟨e, he, ee⟩ := ih j (by omega) _ g2
          refine ⟨.mk a e, ⟨ha, he⟩, ?_⟩
          rw [mk_ke, kA_eq]
          simp only [A.soft, List.cons_append, List.nil_append, List.append_nil, A.softL, ee]
          rfl
      obtain ⟨l, hl, rfl⟩ := hasI h6
      obtain ⟨f7, x7, os, rfl, e7, l7, r7⟩ := hasSl (m := 240) (e := 98) (g := oA) (R := WfO) (by kernel_rfl) (by kernel_rfl) h7 fun j b hj hb => by
        cases j with
        | zero => exact hb.elim
        | succ j =>
          unfold Has at hb
          rw [und_op] at hb
          simp only at hb
          rw [hasL_types, fld_op] at hb
          obtain ⟨_, _, rfl, g1, _, _, rfl, g2, _, _, rfl, g3, _, _, rfl, g4, rfl⟩ := hb
          obtain ⟨k, hk, rfl⟩ := hasI g1
          obtain ⟨m, hm, rfl⟩ := hasI g2
          obtain ⟨f, xs, tl, rfl, et, lt, rt⟩ := hasTrees g3
          obtain ⟨e, he, ee⟩ := ih j (by omega) _ g4
          refine ⟨.mk k m tl e, ⟨hk, hm, rt, lt, he⟩, ?_⟩
          rw [mk_op, oA_eq]
          simp only [A.soft, List.cons_append, List.nil_append, List.append_nil, A.softL, ee, et]
          rfl
      refine ⟨.mk k o nn ws ks l os, wfE_iff.2 ⟨hk, hl, ho, hn, r4, l4, l5, l7, r5, r7⟩, ?_⟩
      simp only [List.cons_append, List.nil_append, List.append_nil, A.softL, A.soft, softL_app, e2, e3, e4, e5, e7]
      rfl
end Go.Proofs.Ytigdcnlhgelkaaa
