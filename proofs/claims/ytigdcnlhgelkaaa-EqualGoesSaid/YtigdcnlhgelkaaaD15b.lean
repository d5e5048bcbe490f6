/-
  Chapter 15: the law EqualGoes.
-/
import Derived.Test.YtigdcnlhgelkaaaD10d
namespace Go.Proofs.Ytigdcnlhgelkaaa
set_option linter.unusedVariables false
set_option linter.unusedSimpArgs false
open Go Go.G Go.Proofs Go.PL

abbrev s1 : List (List Int) := [[4294967296, 7]]
abbrev s2 : List (List Int) := [[8589934592, 7, 0]]
abbrev s3 : List (List Int) := [[4294967296, 8]]
theorem sg1 : Sg s1 := ⟨fun x hx => by simp at hx; subst hx; simp, fun x hx y hy => by simp at hx; subst hx; simp at hy; omega⟩
theorem sg2 : Sg s2 := ⟨fun x hx => by simp at hx; subst hx; simp, fun x hx y hy => by simp at hx; subst hx; simp at hy; omega⟩
theorem sg3 : Sg s3 := ⟨fun x hx => by simp at hx; subst hx; simp, fun x hx y hy => by simp at hx; subst hx; simp at hy; omega⟩
theorem unf1 : unfP s1 64 3000 = (.mk 1 [7] [], 2, 0) := by kernel_rfl
theorem unf2 : unfP s2 64 3000 = (.mk 1 [7, 0] [], 3, 0) := by kernel_rfl
theorem unf3 : unfP s3 64 3000 = (.mk 1 [8] [], 2, 0) := by kernel_rfl
theorem awake15_spec : G.Spec Try.prog 21 [] (bv true) := by
  have m1 := unfold_means sg1 (a := 64) (b := 3000) (by rw [unf1])
  have m2 := unfold_means sg2 (a := 64) (b := 3000) (by rw [unf2])
  have m3 := unfold_means sg3 (a := 64) (b := 3000) (by rw [unf3])
  rw [unf1] at m1
  rw [unf2] at m2
  rw [unf3] at m3
  have v12 := values_spec sg1 sg2 _ _ _ _ m1 m2
  have v13 := values_spec sg1 sg3 _ _ _ _ m1 m3
  have e12 : eqT (.mk 1 [7] []) (.mk 1 [7, 0] []) = true := eqT_iff.2 (by simp [norm_mk, trimW, trimK])
  have e13 : eqT (.mk 1 [7] []) (.mk 1 [8] []) = false := by
    rw [Bool.eq_false_iff]
    intro h
    have := eqT_iff.1 h
    simp [norm_mk, trimW, trimK] at this
  rw [e12] at v12
  rw [e13] at v13
  refine spec_of t_centolaw15_awake (by simp) fun w0 I0 => ?_
  unfold c_centolaw15_awake
  simp
  refine sc_call ((root15_spec sg1 (by simp)).soft (by simp [A.softL, A.soft])) rfl ?_
  simp
  refine sc_call ((root15_spec sg2 (by simp)).soft (by simp [A.softL, A.soft])) rfl ?_
  simp
  refine sc_call v12 (by simp) ?_
  simp
  refine sc_call ((root15_spec sg1 (by simp)).soft (by simp [A.softL, A.soft])) rfl ?_
  simp
  refine sc_call ((root15_spec sg3 (by simp)).soft (by simp [A.softL, A.soft])) rfl ?_
  simp
  refine sc_call v13 (by simp) ?_
  simp
  exact frz_bare rfl
set_option maxRecDepth 8000 in
theorem EqualGoes_spec {l m k : List (List Int)} (hl : Sg l) (hm : Sg m) (hk : Sg k) (l1 : l.length * 24 ≤ 140737488355328) (m1 : m.length * 24 ≤ 140737488355328) (k1 : k.length * 24 ≤ 140737488355328) (a b c d : Int) : G.Spec Try.prog 4 [sgs l, sgs m, sgs k, liX a b c d] (bv true) := by
  refine spec_of t_centolaw15_EqualGoes (by simp) fun w0 I0 => ?_
  unfold c_centolaw15_EqualGoes
  simp
  refine sc_call (light_spec a b c d) rfl ?_
  simp
  refine sc_call (unfold_spec hl a (lightZ b) c d) rfl ?_
  simp
  refine sc_call (unfold_spec hm a (lightZ b) c d) rfl ?_
  simp
  refine sc_call (unfold_spec hk a (lightZ b) c d) rfl ?_
  have hl' := unfold_means hl (a := a) (b := lightZ b)
  have hm' := unfold_means hm (a := a) (b := lightZ b)
  have hk' := unfold_means hk (a := a) (b := lightZ b)
  generalize unfP l a (lightZ b) = x at hl'
  generalize unfP m a (lightZ b) = y at hm'
  generalize unfP k a (lightZ b) = z at hk'
  obtain ⟨t, _, e1⟩ := x
  obtain ⟨u, _, e2⟩ := y
  obtain ⟨w, _, e3⟩ := z
  simp only at hl' hm' hk'
  by_cases he : e1 = 0 ∧ e2 = 0 ∧ e3 = 0
  · obtain ⟨rfl, rfl, rfl⟩ := he
    have ht := hl' rfl
    have hu := hm' rfl
    have hw := hk' rfl
    have tt : eqT t t = true := eqT_iff.2 rfl
    have tu : eqT u t = eqT t u := by rw [Bool.eq_iff_iff, eqT_iff, eqT_iff]; exact eq_comm
    have tw : eqT t u = true → eqT u w = eqT t w := fun h => by rw [Bool.eq_iff_iff, eqT_iff, eqT_iff, eqT_iff.1 h]
    have v1 := values_spec hl hl _ _ _ _ ht ht
    have v2 := values_spec hl hm _ _ _ _ ht hu
    have v3 := values_spec hm hl _ _ _ _ hu ht
    have v4 := values_spec hm hk _ _ _ _ hu hw
    have v5 := values_spec hl hk _ _ _ _ ht hw
    rw [tt] at v1
    rw [tu] at v3
    generalize eqT t u = p at v2 v3 tw
    generalize eqT u w = q at v4 tw
    generalize eqT t w = s at v5 tw
    simp
    refine sc_call (root15_spec hl l1) (by simp) ?_
    simp
    refine sc_call (root15_spec hm m1) (by simp) ?_
    simp
    refine sc_call (root15_spec hk k1) (by simp) ?_
    simp
    refine sc_call v1 (by simp) ?_
    simp
    refine sc_call v2 (by simp) ?_
    simp
    refine sc_call v3 (by simp) ?_
    simp
    refine sc_call v4 (by simp) ?_
    simp
    refine sc_call v5 (by simp) ?_
    cases p with
    | true =>
      have := tw rfl
      subst this
      cases q <;>
      · simp
        refine sc_call_gt rfl (fun _ => awake15_spec) (fun _ => rfl) rfl ?_
        simp
        exact frz_bare rfl
    | false =>
      cases q <;> cases s <;>
      · simp
        refine sc_call_gt rfl (fun _ => awake15_spec) (fun _ => rfl) rfl ?_
        simp
        exact frz_bare rfl
  · have hd : ((!decide (e1 = 0) || !decide (e2 = 0)) || !decide (e3 = 0)) = true := by simp; omega
    simp [hd]
    refine sc_call awake15_spec rfl ?_
    simp
    exact frz_bare rfl
end Go.Proofs.Ytigdcnlhgelkaaa
