/-
  The document's edits: those of which statements ask.
-/
import Derived.Test.YtigdcnlhgelkaaaD20b
namespace Go.Proofs.Ytigdcnlhgelkaaa
set_option linter.unusedVariables false
set_option linter.unusedSimpArgs false
open Go Go.G Go.Proofs Go.PL

/-- Each step keeps no more than lists may have. -/
def Nice (e : E) : Prop := ∀ x, x ∈ e.ops → 0 ≤ x.n ∧ x.n ≤ 1048576
mutual
def niceE : E → Prop
  | .mk _ _ _ _ ks _ os => (∀ x, x ∈ os → 0 ≤ x.n ∧ x.n ≤ 1048576) ∧ niceKs ks ∧ niceOs os
def niceKs : List KE → Prop
  | [] => True
  | .mk _ e :: l => niceE e ∧ niceKs l
def niceOs : List OP → Prop
  | [] => True
  | .mk _ _ _ e :: l => niceE e ∧ niceOs l
end
theorem niceKs_all : ∀ {l : List KE}, niceKs l ↔ ∀ x, x ∈ l → niceE x.e
  | [] => by simp [niceKs]
  | .mk a e :: l => by simp [niceKs, niceKs_all (l := l)]
theorem niceOs_all : ∀ {l : List OP}, niceOs l ↔ ∀ x, x ∈ l → niceE x.e
  | [] => by simp [niceOs]
  | .mk k n t e :: l => by simp [niceOs, niceOs_all (l := l)]
theorem nice_E0 {e : E} (h : sameE e = true) : niceE e := by
  obtain ⟨k, o, n, ws, ks, l, os⟩ := e
  simp [sameE, List.isEmpty_iff] at h
  obtain ⟨⟨_, ⟨_, h1⟩, h2⟩, _⟩ := h
  subst h1 h2
  simp [niceE, niceKs, niceOs]
theorem nice_right : ∀ (e : E) (d : Nat), rightE d e = true → niceE e := by
  refine E.ind fun k o n ws ks l os ihk iho d h => ?_
  rw [rightE_mk] at h
  split at h
  · cases h
  rename_i hh
  obtain ⟨d0, k0, k3, c1, c2, c3⟩ := headOk_spec hh
  have e0 : ∀ {l : List KE}, l.length = 0 → niceKs l := fun h => by rw [List.eq_nil_of_length_eq_zero h]; simp [niceKs]
  have e1 : ∀ {l : List OP}, l.length = 0 → niceOs l ∧ ∀ x, x ∈ l → 0 ≤ x.n ∧ x.n ≤ 1048576 := fun h => by rw [List.eq_nil_of_length_eq_zero h]; simp [niceOs]
  rw [niceE]
  by_cases h1 : k = 1
  · have a := e1 (c3 (by omega)).2
    exact ⟨a.2, e0 (c2 (by omega)).2, a.1⟩
  · rw [if_neg h1] at h
    split at h
    · cases h
    split at h
    · cases h
    rename_i hk
    split at h
    · cases h
    split at h
    · cases h
    rename_i ho
    simp only [Bool.not_eq_false] at hk ho
    have hk1 := kids_at hk
    have ho1 := rightOs_all.1 ho
    refine ⟨fun x hx => op_n (ho1 x hx), niceKs_all.2 fun x hx => ihk x hx _ (hk1 x hx).2.2.2, niceOs_all.2 fun x hx => ?_⟩
    have := ho1 x hx
    rw [rightO_eq, Bool.and_eq_true] at this
    obtain ⟨f1, f2⟩ := this
    by_cases k3 : x.kind = 3
    · rw [if_pos k3] at f2
      simp at f2
      exact iho x hx _ f2.1.2
    · unfold opFlat at f1
      split at f1
      · simp at f1; exact nice_E0 f1.2
      · split at f1
        · cases f1
        · rw [if_pos (by omega)] at f1
          simp at f1; exact nice_E0 f1.2

abbrev LightS (e : E) : Prop := G.Spec Try.prog 48 [eX e] (bv (lightE e))
section
variable {n0 : Nat} {w0 : World} {I0 : Nat → Prop} {Q : Exit → Sta → Prop}
theorem light_l1 {e : E} (hl : e.kids.length * 208 ≤ 140737488355328) (ih : ∀ x, x ∈ e.kids → LightS x.e) {H : Hp} (hA : H [0] = ⟨1, .cells (eL e)⟩) : ∀ (m i : Nat), i + m = e.kids.length →
    (lightKs (e.kids.drop i) = true → ∀ i' q, Q (.exit 0) ⟨lk [(1, .pob [0] 1 0), (5, iv i'), (22, bv q)], H⟩) → (lightKs (e.kids.drop i) = false → Q .ret ⟨lk [(2, bv false)], H⟩) →
    LoopC (cx Try.prog w0 I0 n0) l1_centoref20_Light Q ⟨lk [(1, .pob [0] 1 0), (5, iv i)], H⟩ := by
  intro m
  induction m with
  | zero =>
    intro i hi h1 h2
    have : i = e.kids.length := by omega
    subst this
    refine loopC_once mixed l1_centoref20_Light.eq_1 ?_
    simp [hA]
    exact h1 (by simp) _ _
  | succ m ihm =>
    intro i hi h1 h2
    have hlt : i < e.kids.length := by omega
    have ed : e.kids.drop i = e.kids[i] :: e.kids.drop (i + 1) := List.drop_eq_getElem_cons hlt
    have ei : IntKind.i64.wrap ((i : Int) + 1) = ((i + 1 : Nat) : Int) := i64_same (by omega) (by omega)
    rw [ed, lightKs_cons] at h1 h2
    refine loopC_once mixed l1_centoref20_Light.eq_1 ?_
    simp [hA, hlt]
    refine sc_call (ih _ (List.getElem_mem hlt)) rfl ?_
    cases hr : lightE e.kids[i].e with
    | false =>
      simp
      exact h2 (by simp [hr])
    | true =>
      simp [ei]
      exact ihm (i + 1) (by omega) (fun hh => h1 (by simp [hr, hh])) (fun hh => h2 (by simp [hh]))
theorem light_l2 {e : E} (hl : e.ops.length * 240 ≤ 140737488355328) (ih : ∀ x, x ∈ e.ops → LightS x.e) {H : Hp} (hA : H [0] = ⟨1, .cells (eL e)⟩) : ∀ (m i : Nat), i + m = e.ops.length →
    (lightOs (e.ops.drop i) = true → ∀ i' q, Q (.exit 2) ⟨lk [(1, .pob [0] 1 0), (6, iv i'), (37, bv q)], H⟩) → (lightOs (e.ops.drop i) = false → Q .ret ⟨lk [(2, bv false)], H⟩) →
    LoopC (cx Try.prog w0 I0 n0) l2_centoref20_Light Q ⟨lk [(1, .pob [0] 1 0), (6, iv i)], H⟩ := by
  intro m
  induction m with
  | zero =>
    intro i hi h1 h2
    have : i = e.ops.length := by omega
    subst this
    refine loopC_once mixed l2_centoref20_Light.eq_1 ?_
    simp [hA]
    exact h1 (by simp) _ _
  | succ m ihm =>
    intro i hi h1 h2
    have hlt : i < e.ops.length := by omega
    have ed : e.ops.drop i = e.ops[i] :: e.ops.drop (i + 1) := List.drop_eq_getElem_cons hlt
    have ei : IntKind.i64.wrap ((i : Int) + 1) = ((i + 1 : Nat) : Int) := i64_same (by omega) (by omega)
    rw [ed, lightOs_cons] at h1 h2
    refine loopC_once mixed l2_centoref20_Light.eq_1 ?_
    simp [hA, hlt]
    refine sc_call (ih _ (List.getElem_mem hlt)) rfl ?_
    cases hr : lightE e.ops[i].e with
    | false =>
      simp
      exact h2 (by simp [hr])
    | true =>
      simp [ei]
      exact ihm (i + 1) (by omega) (fun hh => h1 (by simp [hr, hh])) (fun hh => h2 (by simp [hh]))
end
theorem light_spec : ∀ (e : E), wfE e → niceE e → LightS e := by
  refine E.ind fun k o nn ws ks l os ihk iho hw hn => ?_
  have h := wfE_iff.1 hw
  rw [niceE, niceKs_all, niceOs_all] at hn
  obtain ⟨n1, n2, n3⟩ := hn
  refine spec_of t_centoref20_Light (by simp) fun w0 I0 => ?_
  unfold c_centoref20_Light
  rw [lightE_mk]
  simp
  refine sc_call (rLengths_spec (e := .mk k o nn ws ks l os) h.ol (fun x hx => ⟨(n1 x hx).1, (n1 x hx).2, (h.os x hx).ll⟩)) rfl ?_
  simp
  refine ⟨fun hc => ?_, fun a b => ?_⟩
  · refine frz_bool ?_
    rcases hc with hc | hc <;> simp [hc]
  · have a' : ¬ 2000 < (lengths 0 0 os).1 := by omega
    have b' : ¬ 2000 < (lengths 0 0 os).2 := by omega
    refine light_l1 (e := .mk k o nn ws ks l os) h.kl (fun x hx => ihk x hx (h.ks x hx).2 (n2 x hx)) (by simp) ks.length 0 (by simp) (fun hr i' q => ?_) (fun hr => ?_)
    · simp at hr
      simp
      refine light_l2 (e := .mk k o nn ws ks l os) h.ol (fun x hx => iho x hx (h.os x hx).e (n3 x hx)) (by simp) os.length 0 (by simp) (fun hr2 i' q => ?_) (fun hr2 => ?_)
      · simp at hr2
        simp
        exact frz_bool (by simp [a', b', hr, hr2])
      · simp at hr2
        simp
        exact frz_bool (by simp [hr2])
    · simp at hr
      simp
      exact frz_bool (by simp [hr])
def goodE (e : E) : Bool := fewE e && rightE 64 e && lightE e
theorem good_spec {e : E} (h : wfE e) : G.Spec Try.prog 12 [eX e] (bv (goodE e)) := by
  refine spec_of t_centoref20_Good (by simp) fun w0 I0 => ?_
  unfold c_centoref20_Good
  simp
  refine sc_call (fewE_spec h) rfl ?_
  simp
  refine sc_call_gt rfl (fun _ => eright_spec e h 64 (by omega)) (fun e => by simp [e]) rfl ?_
  simp
  by_cases hr : rightE 64 e = true
  · refine sc_call_gt rfl (fun _ => light_spec e h (nice_right e 64 hr)) (fun e => by simp at e; simp [e]) rfl ?_
    simp
    exact frz_bool rfl
  · simp at hr
    simp [hr]
    refine sc_call_off rfl ?_
    simp
    exact frz_bool (by simp [goodE, hr])
end Go.Proofs.Ytigdcnlhgelkaaa
