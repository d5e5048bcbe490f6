/-
  The document's trees.
-/
import Derived.Test.YtigdcnlhgelkaaaD01a
import Derived.Test.YtigdcnlhgelkaaaD06a
import Derived.Test.YtigdcnlhgelkaaaGFns7
namespace Go.Proofs.Ytigdcnlhgelkaaa
set_option linter.unusedVariables false
set_option linter.unusedSimpArgs false
open Go Go.G Go.Proofs Go.PL

mutual
theorem shallow_range : ∀ (t : T) (d : Nat) (n : Int), -1 ≤ shallow d n t ∧ (-1 ≤ n → shallow d n t ≤ n)
  | .mk k w l, d, n => by
    rw [shallow_mk]
    split
    · omega
    · have := shallowL_range l (d - 1) (n - 1 - w.length) (by omega)
      omega
theorem shallowL_range : ∀ (l : List T) (d : Nat) (n : Int), -1 ≤ n → -1 ≤ shallowL d n l ∧ shallowL d n l ≤ n
  | [], d, n, h => by simp; omega
  | t :: l, d, n, h => by
    rw [shallowL_cons]
    split
    · omega
    · have h1 := shallow_range t d n
      have h2 := shallowL_range l d (shallow d n t) h1.1
      omega
end
theorem shallowL_neg (l : List T) (d : Nat) {n : Int} (h : n < 0) : shallowL d n l = n := by
  cases l with
  | nil => simp
  | cons t l => simp [h]

section
variable {n0 : Nat} {w0 : World} {I0 : Nat → Prop} {Q : Exit → Sta → Prop}
theorem shallow_l1 {t : T} {d : Nat} (hd : 1 ≤ d) (hd1 : d ≤ 1000) (hl : t.kids.length * 56 ≤ 140737488355328) (ih : ∀ c, c ∈ t.kids → ∀ (d : Nat) (n : Int), d ≤ 1000 → 0 ≤ n → n ≤ 1000000 → G.Spec Try.prog 67 [tX c, iv d, iv n] (iv (shallow d n c)))
    {H : Hp} (hH : H [0] = ⟨1, .cells [iv t.kind, uws t.words, tKs t.kids]⟩) : ∀ (m i : Nat) (n : Int), i + m = t.kids.length → -1 ≤ n → n ≤ 1000000 →
    (∀ i' q, Q (.exit 0) ⟨lk [(1, iv d), (2, iv (shallowL (d - 1) n (t.kids.drop i))), (3, .pob [0] 1 0), (7, iv i'), (28, bv q)], H⟩) →
    LoopC (cx Try.prog w0 I0 n0) l1_centoref07_Shallow Q ⟨lk [(1, iv d), (2, iv n), (3, .pob [0] 1 0), (7, iv i)], H⟩ := by
  intro m
  induction m with
  | zero =>
    intro i n hi h1 h2 hq
    have : i = t.kids.length := by omega
    subst this
    refine loopC_once mixed l1_centoref07_Shallow.eq_1 ?_
    simp [hH]
    simpa using hq _ false
  | succ m ihm =>
    intro i n hi h1 h2 hq
    have hlt : i < t.kids.length := by omega
    refine loopC_once mixed l1_centoref07_Shallow.eq_1 ?_
    have e : t.kids.drop i = t.kids[i] :: t.kids.drop (i + 1) := List.drop_eq_getElem_cons hlt
    by_cases hn : n < 0
    · simp [hH, hlt, show ¬ (0 : Int) ≤ n by omega]
      have := hq i false
      rwa [shallowL_neg _ _ hn] at this
    · have hn' : 0 ≤ n := by omega
      simp [hH, hlt, hn']
      have ed : IntKind.i64.wrap ((d : Int) - 1) = ((d - 1 : Nat) : Int) := by rw [i64_same (by omega) (by omega)]; omega
      rw [ed]
      refine sc_call (ih _ (List.getElem_mem hlt) (d - 1) n (by omega) hn' h2) rfl ?_
      simp
      have hr := shallow_range t.kids[i] (d - 1) n
      rw [i64_same (by omega) (by omega)]
      refine ihm (i + 1) _ (by omega) hr.1 (by omega) fun i' q => ?_
      have := hq i' q
      rw [e, shallowL_cons, if_neg (by omega)] at this
      exact this
end
theorem shallow_spec : ∀ (t : T), wfT t → ∀ (d : Nat) (n : Int), d ≤ 1000 → 0 ≤ n → n ≤ 1000000 → G.Spec Try.prog 67 [tX t, iv d, iv n] (iv (shallow d n t)) := by
  refine T.ind fun k w l ih hw d n hd hn hn1 => ?_
  have hw' := wfT_iff.1 hw
  have hwl := hw'.wl
  have hkl := hw'.kl
  simp at hwl hkl
  have ihc : ∀ c, c ∈ (T.mk k w l).kids → ∀ (d : Nat) (n : Int), d ≤ 1000 → 0 ≤ n → n ≤ 1000000 → G.Spec Try.prog 67 [tX c, iv d, iv n] (iv (shallow d n c)) := fun c hc => ih c hc (hw'.ks c hc)
  refine spec_of t_centoref07_Shallow (by simp) fun w0 I0 => ?_
  unfold c_centoref07_Shallow
  have e1 : IntKind.i64.wrap (IntKind.i64.wrap (n - 1) - (w.length : Int)) = n - 1 - w.length := by rw [i64_same (n := n - 1) (by omega) (by omega), i64_same (by omega) (by omega)]
  rw [shallow_mk]
  by_cases hc : d = 0 ∨ n - 1 - (w.length : Int) < 0
  · have hd : (decide (d = 0) || decide (n - 1 - (w.length : Int) < 0)) = true := by simp; omega
    simp [e1, hd, hc]
    exact frz_bare rfl
  · have hd : (decide (d = 0) || decide (n - 1 - (w.length : Int) < 0)) = false := by simp; omega
    simp [e1, hd, hc]
    refine shallow_l1 (t := .mk k w l) (by omega) (by omega) hkl ihc (by simp) l.length 0 _ (by simp) (by omega) (by omega) fun i' q => ?_
    simp
    exact frz_bare rfl
def fewT (t : T) : Bool := decide (0 ≤ shallow 80 3000 t)
theorem few_spec {t : T} (h : wfT t) : G.Spec Try.prog 32 [tX t] (bv (fewT t)) := by
  refine spec_of t_centoref07_Few (by simp) fun w0 I0 => ?_
  unfold c_centoref07_Few
  simp
  refine sc_call (shallow_spec t h 80 3000 (by omega) (by omega) (by omega)) rfl ?_
  simp
  exact frz_bare rfl
end Go.Proofs.Ytigdcnlhgelkaaa
