/-
  Chapter 5: a nil arena.
-/
import Derived.Test.YtfdlelcipnabpaaD05e
namespace Go.Proofs.Ytfdlelcipnabpaa
set_option linter.unusedVariables false
set_option linter.unusedSimpArgs false
open Go Go.G Go.Proofs

abbrev nilA : A := .v (.pointer none)
theorem lenN_spec : G.Spec Try.prog 21 [nilA] (iv 0) := by
  refine spec_of t_arena_Arena_Len (by simp) fun w0 I0 => ?_
  unfold c_arena_Arena_Len
  simp
  exact frz_bare rfl
theorem leftN_spec : G.Spec Try.prog 27 [nilA] (iv 0) := by
  refine spec_of t_arena_Arena_Left (by simp) fun w0 I0 => ?_
  unfold c_arena_Arena_Left
  simp
  exact frz_bare rfl
theorem sizeN_spec (s : Int) : G.Spec Try.prog 34 [nilA, iv s] (iv 0) := by
  refine spec_of t_arena_Arena_Size (by simp) fun w0 I0 => ?_
  unfold c_arena_Arena_Size
  simp
  refine sc_call_gf rfl (fun _ => lenN_spec) (fun e => by simp [e]) rfl ?_
  simp
  exact fun _ => frz_bare rfl
theorem hasN_spec (s a n : Int) : G.Spec Try.prog 20 [nilA, iv s, iv a, iv n] (bv false) := by
  refine spec_of t_arena_Arena_Has (by simp) fun w0 I0 => ?_
  unfold c_arena_Arena_Has
  simp
  refine sc_call (sizeN_spec s) rfl ?_
  simp
  refine sc_call_gt rfl (fun _ => lenN_spec) (fun e => by simp [e]) rfl ?_
  simp
  refine frz_bool ?_
  rw [Bool.eq_false_iff]
  simp
  omega
theorem getN_spec (s a : Int) : G.Spec Try.prog 31 [nilA, iv s, iv a] (.tup [uv 0, bv false]) := by
  refine spec_of t_arena_Arena_Get (by simp) fun w0 I0 => ?_
  unfold c_arena_Arena_Get
  simp
  refine sc_call (hasN_spec s a 1) rfl ?_
  simp
  exact frz_bare rfl
theorem partN_spec (s a n : Int) : G.Spec Try.prog 32 [nilA, iv s, iv a, iv n] (.tup [ws [], bv false]) := by
  refine spec_of t_arena_Arena_Part (by simp) fun w0 I0 => ?_
  unfold c_arena_Arena_Part
  simp
  refine sc_call (hasN_spec s a n) rfl ?_
  simp
  refine frz_tup ?_
  simp
  exact ⟨frz_sl, frz_bare rfl⟩
theorem putN_spec (s a w : Int) : G.Spec Try.prog 33 [nilA, iv s, iv a, uv w] (bv false) := by
  refine spec_of t_arena_Arena_Put (by simp) fun w0 I0 => ?_
  unfold c_arena_Arena_Put
  simp
  refine sc_call (hasN_spec s a 1) rfl ?_
  simp
  exact frz_bare rfl
theorem segsN_spec : G.Spec Try.prog 25 [nilA] (sgs []) := by
  refine spec_of t_arena_Arena_Segments (by simp) fun w0 I0 => ?_
  unfold c_arena_Arena_Segments
  simp
  exact frz_sl
theorem giveN_spec (n : Int) : G.Spec Try.prog 19 [nilA, iv n] (.tup [iv 0, iv 0, bv false]) := by
  refine spec_of t_arena_Arena_Give (by simp) fun w0 I0 => ?_
  unfold c_arena_Arena_Give
  simp
  refine sc_call_gf rfl (fun h => by cases h) (fun h => by cases h) (L := []) (x := .any) rfl ?_
  simp
  exact frz_bare rfl
theorem inN_spec (s n : Int) : G.Spec Try.prog 26 [nilA, iv s, iv n] (.tup [iv 0, bv false]) := by
  refine spec_of t_arena_Arena_In (by simp) fun w0 I0 => ?_
  unfold c_arena_Arena_In
  have hd : (decide (s < 0) || decide ((0 : Int) ≤ s)) = true := by simp; omega
  simp
  refine sc_call_gf rfl (fun _ => lenN_spec) (fun e => by simp [e]) rfl ?_
  simp [hd]
  refine sc_call_gf rfl (fun h => by cases h) (fun h => by cases h) (L := []) (x := .any) rfl ?_
  simp
  refine sc_call_gf rfl (fun h => by cases h) (fun h => by cases h) (L := []) (x := .any) rfl ?_
  simp
  exact frz_bare rfl
set_option pp.deepTerms true in
set_option pp.maxSteps 1000000 in
theorem ArenaNone_spec (k s a n w : Int) : G.Spec Try.prog 8 [.agg [iv k, iv s, iv a, iv n, uv w]] (bv true) := by
  refine spec_of t_centolaw05_ArenaNone (by simp) fun w0 I0 => ?_
  unfold c_centolaw05_ArenaNone
  simp
  refine sc_call (getN_spec s a) rfl ?_
  simp
  refine sc_call (partN_spec s a n) rfl ?_
  simp
  refine sc_call (inN_spec s n) rfl ?_
  simp
  refine sc_call (giveN_spec n) rfl ?_
  simp
  refine sc_call_gt rfl (fun _ => putN_spec s a w) (fun _ => rfl) rfl ?_
  simp
  refine sc_call_gt rfl (fun _ => hasN_spec s a n) (fun _ => rfl) rfl ?_
  simp
  refine sc_call_gt rfl (fun _ => lenN_spec) (fun _ => rfl) rfl ?_
  simp
  refine sc_call_gt rfl (fun _ => sizeN_spec s) (fun _ => rfl) rfl ?_
  simp
  refine sc_call_gt rfl (fun _ => leftN_spec) (fun _ => rfl) rfl ?_
  simp
  refine sc_call_gt rfl (fun _ => segsN_spec) (fun _ => rfl) rfl ?_
  simp
  refine sc_call_gt rfl (fun _ => awake5_spec) (fun _ => rfl) rfl ?_
  simp
  exact frz_bare rfl
end Go.Proofs.Ytfdlelcipnabpaa
