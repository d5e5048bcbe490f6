/-
  Texts, merged, without what is not reached.
-/
import Derived.Test.YtmeldaflhkiopaaKPb
/-
  Plain: which trees mean the same, place by place.
-/
namespace Go.PL
set_option linter.unusedVariables false
set_option linter.unusedSimpArgs false
def trimG {α : Type} (p : α → Bool) (l : List α) : List α := (l.reverse.dropWhile p).reverse
theorem trimG_snoc {α : Type} {p : α → Bool} (l : List α) (x : α) : trimG p (l ++ [x]) = if p x = true then trimG p l else l ++ [x] := by
  unfold trimG
  rw [List.reverse_append, List.reverse_singleton, List.singleton_append, List.dropWhile_cons]
  split <;> simp
theorem snocRec {α : Type} {P : List α → Prop} (h0 : P []) (h1 : ∀ l x, P l → P (l ++ [x])) (l : List α) : P l := by
  have : ∀ m : List α, P m.reverse := by
    intro m
    induction m with
    | nil => exact h0
    | cons x m ih => rw [List.reverse_cons]; exact h1 _ _ ih
  have := this l.reverse
  rwa [List.reverse_reverse] at this
theorem trimG_getD {α : Type} {p : α → Bool} {z : α} (l : List α) : (∀ x, x ∈ l → p x = true → x = z) → ∀ i, (trimG p l).getD i z = l.getD i z := by
  refine snocRec (P := fun l => (∀ x, x ∈ l → p x = true → x = z) → ∀ i, (trimG p l).getD i z = l.getD i z) (fun _ i => rfl) (fun l x ih h i => ?_) l
  rw [trimG_snoc]
  split
  · rename_i hx
    rw [ih (fun y hy => h y (by simp [hy])) i]
    have := h x (by simp) hx
    subst this
    simp only [List.getD_eq_getElem?_getD, List.getElem?_append]
    split
    · rfl
    · rw [List.getElem?_eq_none (by omega)]
      by_cases e : i - l.length = 0
      · simp [e]
      · rw [List.getElem?_eq_none (by simp; omega)]
  · rfl
theorem trimG_last {α : Type} {p : α → Bool} {z : α} (l : List α) : trimG p l ≠ [] → p ((trimG p l).getD ((trimG p l).length - 1) z) = false := by
  refine snocRec (P := fun l => trimG p l ≠ [] → p ((trimG p l).getD ((trimG p l).length - 1) z) = false) (fun h => absurd rfl h) (fun l x ih h => ?_) l
  rw [trimG_snoc] at h ⊢
  split
  · rename_i hx
    rw [if_pos hx] at h
    exact ih h
  · rename_i hx
    simp at hx ⊢
    exact hx
theorem trimG_eq {α : Type} {p : α → Bool} {z : α} (hz : p z = true) {a b : List α} (ha : ∀ x, x ∈ a → p x = true → x = z) (hb : ∀ x, x ∈ b → p x = true → x = z) : trimG p a = trimG p b ↔ ∀ i, a.getD i z = b.getD i z := by
  constructor
  · intro h i
    rw [← trimG_getD a ha, h, trimG_getD b hb]
  · intro h
    have h' : ∀ i, (trimG p a).getD i z = (trimG p b).getD i z := fun i => by rw [trimG_getD a ha, trimG_getD b hb, h]
    have one : ∀ c d : List α, (∀ i, (trimG p c).getD i z = (trimG p d).getD i z) → (trimG p c).length ≤ (trimG p d).length := fun c d hcd => by
      by_cases e : trimG p c = []
      · simp [e]
      · have hl := trimG_last (z := z) c e
        have hpos : 0 < (trimG p c).length := List.length_pos_iff.2 e
        rw [hcd] at hl
        refine Nat.le_of_not_lt fun hlt => ?_
        rw [List.getD_eq_getElem?_getD, List.getElem?_eq_none (by omega)] at hl
        simp [hz] at hl
    have hlen : (trimG p a).length = (trimG p b).length := Nat.le_antisymm (one a b h') (one b a fun i => (h' i).symm)
    apply List.ext_getElem hlen
    intro i h1 h2
    have := h' i
    simpa [List.getD_eq_getElem?_getD, h1, h2] using this
theorem trimW_G (l : List Int) : trimW l = trimG (fun x => x == 0) l := rfl
theorem trimK_G (l : List T) : trimK l = trimG (fun x => x.kind == 0) l := rfl
theorem trimW_eq {a b : List Int} : trimW a = trimW b ↔ ∀ i, a.getD i 0 = b.getD i 0 := by
  rw [trimW_G, trimW_G]
  exact trimG_eq rfl (fun x _ h => by simpa using h) (fun x _ h => by simpa using h)
theorem norm_kind0 {t : T} (h : t.kind = 0) : norm t = T0 := by cases t; simp at h; rw [norm_mk, if_pos h]
theorem norm_T0 : norm T0 = T0 := norm_kind0 rfl
theorem getD_norm (l : List T) (i : Nat) : (l.map norm).getD i T0 = norm (l.getD i T0) := by
  simp only [List.getD_eq_getElem?_getD, List.getElem?_map]
  cases l[i]? with
  | none => simp [norm_T0]
  | some x => rfl
theorem trimK_eq {a b : List T} : trimK (a.map norm) = trimK (b.map norm) ↔ ∀ i, norm (a.getD i T0) = norm (b.getD i T0) := by
  have hz : ∀ c : List T, ∀ x, x ∈ c.map norm → (x.kind == 0) = true → x = T0 := fun c x hx h0 => by
    obtain ⟨y, _, rfl⟩ := List.mem_map.1 hx
    simp at h0
    exact norm_kind0 h0
  rw [trimK_G, trimK_G, trimG_eq (z := T0) rfl (hz a) (hz b)]
  constructor
  · intro h i; rw [← getD_norm, ← getD_norm]; exact h i
  · intro h i; rw [getD_norm, getD_norm]; exact h i
theorem struct_eq {w w' : List Int} {a b : List T} : norm (.mk 1 w a) = norm (.mk 1 w' b) ↔ (∀ i, w.getD i 0 = w'.getD i 0) ∧ ∀ i, norm (a.getD i T0) = norm (b.getD i T0) := by
  rw [norm_mk, norm_mk]
  simp only [if_neg (show ¬ (1 : Int) = 0 by decide), if_true, T.mk.injEq, true_and]
  rw [trimW_eq, trimK_eq]
theorem other_eq {k : Int} {w w' : List Int} {a b : List T} (h0 : k ≠ 0) (h1 : k ≠ 1) : norm (.mk k w a) = norm (.mk k w' b) ↔ w = w' ∧ a.map norm = b.map norm := by
  rw [norm_mk, norm_mk]
  simp [h0, h1]
end Go.PL

/-
  Chapter 27, plain: an edit told by the Norm of its tree.
-/
namespace Go.PL
set_option linter.unusedVariables false
set_option linter.unusedSimpArgs false
/-! ### what is right stays so -/
/-! ### no value has very many kids -/
inductive SmT : T → Prop
  | mk (k : Int) (w : List Int) (l : List T) : l.length ≤ 1048576 → (∀ t, t ∈ l → SmT t) → SmT (.mk k w l)
theorem SmT.len {t : T} (h : SmT t) : t.kids.length ≤ 1048576 := by cases h; assumption
end Go.PL

/-
  Chapter 29: whether a value means what a tree does.
-/
namespace Go.Proofs.Ytmeldaflhkiopaa
set_option linter.unusedVariables false
set_option linter.unusedSimpArgs false
open Go Go.G Go.Proofs Go.PL
theorem kids_same {a b : List T} (hl : a.length = b.length) : a.map norm = b.map norm ↔ ∀ i, norm (a.getD i T0) = norm (b.getD i T0) := by
  constructor
  · intro h i; rw [← getD_norm, h, getD_norm]
  · intro h
    apply List.ext_getElem (by simpa using hl)
    intro i h1 h2
    have := h i
    simp at h1 h2
    simpa [List.getD_eq_getElem?_getD, h1, h2] using this
/-! ### the walk -/
section
variable {n0 : Nat} {w0 : World} {I0 : Nat → Prop} {Q : Exit → Sta → Prop}
end
end Go.Proofs.Ytmeldaflhkiopaa

/-
  The program's trees: which mean the same.
-/
namespace Go.Proofs.Ytmeldaflhkiopaa
set_option linter.unusedVariables false
set_option linter.unusedSimpArgs false
open Go Go.G Go.Proofs Go.PL
section
variable {n0 : Nat} {w0 : World} {I0 : Nat → Prop} {Q : Exit → Sta → Prop}
theorem seq_l1 {a b : List Int} (hl : a.length = b.length) (hb : a.length * 8 ≤ 140737488355328) {H : Hp} : ∀ (m i : Nat), i + m = a.length → a.take i = b.take i → (a = b → ∀ q, Q (.exit 0) ⟨lk [(0, uws a), (1, uws b), (12, iv a.length), (13, iv a.length), (14, bv q)], H⟩) → (a ≠ b → Q .ret ⟨lk [(4, bv false)], H⟩) →
    LoopC (cx Try.prog w0 I0 n0) l1_slices_Equal_uint64_uint64 Q ⟨lk [(0, uws a), (1, uws b), (12, iv a.length), (13, iv i)], H⟩ := by
  intro m
  induction m with
  | zero =>
    intro i hi ht h1 h2
    have : i = a.length := by omega
    subst this
    rw [List.take_of_length_le (Nat.le_refl _), List.take_of_length_le (by omega)] at ht
    refine loopC_once mixed l1_slices_Equal_uint64_uint64.eq_1 ?_
    simp
    exact h1 ht _
  | succ m ih =>
    intro i hi ht h1 h2
    have hlt : i < a.length := by omega
    have hlt' : i < b.length := by omega
    have ei : IntKind.i64.wrap ((i : Int) + 1) = ((i + 1 : Nat) : Int) := i64_same (by omega) (by omega)
    refine loopC_once mixed l1_slices_Equal_uint64_uint64.eq_1 ?_
    by_cases e : a[i] = b[i]
    · simp [hlt, hlt', e, ei]
      refine ih (i + 1) (by omega) ?_ h1 h2
      rw [List.take_succ_eq_append_getElem hlt, List.take_succ_eq_append_getElem hlt', ht, e]
    · simp [hlt, hlt', e]
      exact h2 fun q => e (by simp [q])
end
theorem sEqual_spec (a b : List Int) (hb : a.length * 8 ≤ 140737488355328) : G.Spec Try.prog 45 [uws a, uws b] (bv (decide (a = b))) := by
  refine spec_of t_slices_Equal_uint64_uint64 (by simp) fun w0 I0 => ?_
  unfold c_slices_Equal_uint64_uint64
  by_cases hl : a.length = b.length
  · simp [hl]
    have := seq_l1 (n0 := 26) (w0 := w0) (I0 := I0) (a := a) (b := b) (H := lkH []) (Q := InBlock 0 (ThenC (WPC (cx Try.prog w0 I0 26) (.keep [] (.seq (.reg [co (some 4) (.assign (.const (.bool true))) none] [4]) .ret)) (RetC Try.prog [.tmp 4] (bv (decide (a = b))))) (RetC Try.prog [.tmp 4] (bv (decide (a = b)))))) hl hb a.length 0 (by simp) rfl (fun e q => ?_) (fun e => ?_)
    · rw [hl] at this
      simpa using this
    · simp
      exact frz_bool (by simp [e])
    · simp
      exact frz_bool (by simp [e])
  · have hl' : ¬ (a.length : Int) = b.length := by omega
    simp [hl, hl']
    exact frz_bool (by simp; intro e; exact absurd (by rw [e]) hl)
theorem eqS_kind {t u : T} (h : t.kind ≠ u.kind ∨ t.kind = 0) : eqT t u = decide (t.kind = u.kind) := by
  rw [Bool.eq_iff_iff, eqT_iff, decide_eq_true_eq]
  constructor
  · intro e; rw [← norm_kind t, e, norm_kind]
  · intro e
    rcases h with h | h
    · exact absurd e h
    · rw [norm_kind0 h, norm_kind0 (by omega)]
theorem pEqual_null {t u : T} (h : t.kind ≠ u.kind ∨ t.kind = 0) : G.Spec Try.prog 29 [tX t, tX u] (bv (eqT t u)) := by
  refine spec_of t_tree_Equal (by simp) fun w0 I0 => ?_
  unfold c_tree_Equal
  rw [eqS_kind h]
  by_cases e : t.kind = u.kind
  · have h0 : u.kind = 0 := by omega
    simp [e, h0]
    exact frz_bare rfl
  · simp [e]
    exact frz_bool (by simp [e])
section
variable {n0 : Nat} {w0 : World} {I0 : Nat → Prop} {Q : Exit → Sta → Prop}
theorem pequal_l1 {t u : T} {n : Nat} (hN : n ≤ 100000000000000) {H : Hp} (h0 : H [0] = ⟨1, .cells (tL t)⟩) (h1 : H [1] = ⟨1, .cells (tL u)⟩)
    (hq : (∀ i, i < n → t.words.getD i 0 = u.words.getD i 0) → ∀ (q : Bool), Q (.exit 0) ⟨lk [(2, .pob [0] 1 0), (3, .pob [1] 1 0), (48, iv n), (49, iv n), (50, bv q)], H⟩)
    (hf : (∃ i, t.words.getD i 0 ≠ u.words.getD i 0) → Q .ret ⟨lk [(4, bv false)], H⟩) :
    ∀ (j i : Nat), i + j = n → (∀ i', i' < i → t.words.getD i' 0 = u.words.getD i' 0) →
    LoopC (cx Try.prog w0 I0 n0) l1_tree_Equal Q ⟨lk [(2, .pob [0] 1 0), (3, .pob [1] 1 0), (48, iv n), (49, iv i)], H⟩ := by
  intro j
  induction j with
  | zero =>
    intro i hi he
    have : i = n := by omega
    subst this
    refine loopC_once mixed l1_tree_Equal.eq_1 ?_
    simp
    exact hq he _
  | succ j ih =>
    intro i hi he
    have hlt : i < n := by omega
    have ei : IntKind.i64.wrap ((i : Int) + 1) = ((i + 1 : Nat) : Int) := i64_same (by omega) (by omega)
    refine loopC_once mixed l1_tree_Equal.eq_1 ?_
    simp [hlt, h0, h1]
    refine sc_call (treeWord_spec t i) (by simp) ?_
    simp [h0, h1]
    refine sc_call (treeWord_spec u i) (by simp) ?_
    by_cases hw : t.words.getD i 0 = u.words.getD i 0
    · have hw' := hw
      simp only [List.getD_eq_getElem?_getD] at hw'
      simp [hw', ei]
      refine ih (i + 1) (by omega) (fun i' hi' => ?_)
      by_cases e : i' = i
      · rw [e]; exact hw
      · exact he i' (by omega)
    · have hw' := hw
      simp only [List.getD_eq_getElem?_getD] at hw'
      simp [hw']
      exact hf ⟨i, hw⟩
end
theorem getD_none {α : Type} {l : List α} {i : Nat} {z : α} (h : l.length ≤ i) : l.getD i z = z := by rw [List.getD_eq_getElem?_getD, List.getElem?_eq_none h]; rfl
end Go.Proofs.Ytmeldaflhkiopaa

/-
  tree.Equal on any trees (not right ones alone).
-/
namespace Go.Proofs.Ytmeldaflhkiopaa
set_option linter.unusedVariables false
set_option linter.unusedSimpArgs false
open Go Go.G Go.Proofs Go.PL
theorem wf_getD {u : T} (hw : wfT u) (i : Nat) : wfT (u.kids.getD i T0) := by
  by_cases hi' : i < u.kids.length
  · have e : u.kids.getD i T0 = u.kids[i] := by simp [List.getD_eq_getElem?_getD, hi']
    rw [e]
    exact (wfT_iff.1 hw).ks _ (List.getElem_mem hi')
  · have e : u.kids.getD i T0 = T0 := by rw [List.getD_eq_getElem?_getD, List.getElem?_eq_none (by simpa using hi')]; rfl
    rw [e]
    exact wfT_iff.2 ⟨by simp [i64R], by simp, by simp, by simp, by simp⟩
def EqG (t : T) : Prop := ∀ u : T, wfT t → wfT u → G.Spec Try.prog 29 [tX t, tX u] (bv (eqT t u))
theorem eqT_any {k : Int} {w : List Int} {a : List T} {u : T} (h0 : k ≠ 0) : eqT (.mk k w a) u = true ↔ k = u.kind ∧ (k = 1 ∨ (a.length = u.kids.length ∧ w = u.words)) ∧ (∀ i, w.getD i 0 = u.words.getD i 0) ∧ ∀ i, norm (a.getD i T0) = norm (u.kids.getD i T0) := by
  rw [eqT_iff]
  obtain ⟨k', w', b⟩ := u
  by_cases hk : k = k'
  rotate_left
  · constructor
    · intro h
      have := congrArg T.kind h
      simp at this
      exact absurd this hk
    · intro h; exact absurd h.1 hk
  subst hk
  by_cases h1 : k = 1
  · subst h1
    rw [struct_eq]
    simp
  rw [other_eq h0 h1]
  constructor
  · rintro ⟨rfl, h⟩
    have hl : a.length = b.length := by simpa using congrArg List.length h
    exact ⟨rfl, .inr ⟨hl, rfl⟩, fun i => rfl, (kids_same hl).1 h⟩
  · rintro ⟨_, h, _, h3⟩
    rcases h with h | ⟨hl, rfl⟩
    · exact absurd h h1
    · exact ⟨rfl, (kids_same hl).2 h3⟩
section
variable {n0 : Nat} {w0 : World} {I0 : Nat → Prop} {Q : Exit → Sta → Prop}
theorem eqg_l2 {t u : T} {n : Nat} (hn : n ≤ 100000000000000) (hw : wfT t) (hwu : wfT u) (hk : ∀ i, i < n → EqG (t.kids.getD i T0)) {H : Hp} (h0 : H [0] = ⟨1, .cells (tL t)⟩) (h1 : H [1] = ⟨1, .cells (tL u)⟩)
    (hq : (∀ i, i < n → norm (t.kids.getD i T0) = norm (u.kids.getD i T0)) → ∀ (q : Bool), Q (.exit 2) ⟨lk [(2, .pob [0] 1 0), (3, .pob [1] 1 0), (66, iv n), (67, iv n), (68, bv q)], H⟩)
    (hf : (∃ i, norm (t.kids.getD i T0) ≠ norm (u.kids.getD i T0)) → Q .ret ⟨lk [(4, bv false)], H⟩) :
    ∀ (j i : Nat), i + j = n → (∀ i', i' < i → norm (t.kids.getD i' T0) = norm (u.kids.getD i' T0)) →
    LoopC (cx Try.prog w0 I0 n0) l2_tree_Equal Q ⟨lk [(2, .pob [0] 1 0), (3, .pob [1] 1 0), (66, iv n), (67, iv i)], H⟩ := by
  intro j
  induction j with
  | zero =>
    intro i hi he
    have : i = n := by omega
    subst this
    refine loopC_once mixed l2_tree_Equal.eq_1 ?_
    simp
    exact hq he _
  | succ j ih =>
    intro i hi he
    have hlt : i < n := by omega
    have ei : IntKind.i64.wrap ((i : Int) + 1) = ((i + 1 : Nat) : Int) := i64_same (by omega) (by omega)
    have hrec := hk i hlt (u.kids.getD i T0) (wf_getD hw i) (wf_getD hwu i)
    refine loopC_once mixed l2_tree_Equal.eq_1 ?_
    simp [hlt, h0, h1]
    refine sc_call (treeKid_spec t i) (by simp) ?_
    simp [h0, h1]
    refine sc_call (treeKid_spec u i) (by simp) ?_
    simp [h0, h1]
    refine sc_call hrec (by simp) ?_
    cases hb : eqT (t.kids.getD i T0) (u.kids.getD i T0) with
    | true =>
      simp [ei]
      refine ih (i + 1) (by omega) (fun i' hi' => ?_)
      by_cases e : i' = i
      · rw [e]; exact eqT_iff.1 hb
      · exact he i' (by omega)
    | false =>
      simp
      exact hf ⟨i, fun e => by rw [eqT_iff.2 e] at hb; cases hb⟩
end
set_option maxRecDepth 8000 in
theorem eqG_all : ∀ t : T, EqG t := by
  refine T.ind fun k w ks ih u hw hwu => ?_
  have hw' := wfT_iff.1 hw
  have hu' := wfT_iff.1 hwu
  have hwl := hw'.wl
  have hkl := hw'.kl
  have hul := hu'.wl
  have huk := hu'.kl
  simp only [T.words_mk, T.kids_mk] at hwl hkl
  have hk0 : ∀ i, EqG ((T.mk k w ks).kids.getD i T0) := fun i => by
    by_cases hi : i < ks.length
    · have e : (T.mk k w ks).kids.getD i T0 = ks[i] := by simp [List.getD_eq_getElem?_getD, hi]
      rw [e]; exact ih _ (List.getElem_mem hi)
    · have e : (T.mk k w ks).kids.getD i T0 = T0 := getD_none (by simpa using hi)
      rw [e]
      intro u _ _
      exact pEqual_null (.inr rfl)
  by_cases hkk : k ≠ u.kind ∨ k = 0
  · exact pEqual_null hkk
  have h1 : k = u.kind := by omega
  have h0 : ¬ u.kind = 0 := by omega
  simp only [T.kids_mk] at hk0
  have yes : (k = 1 ∨ (ks.length = u.kids.length ∧ w = u.words)) → (∀ i, w.getD i 0 = u.words.getD i 0) → (∀ i, norm (ks.getD i T0) = norm (u.kids.getD i T0)) → eqT (.mk k w ks) u = true := fun a b c => (eqT_any (by omega)).2 ⟨h1, a, b, c⟩
  have no : ¬ ((k = 1 ∨ (ks.length = u.kids.length ∧ w = u.words)) ∧ (∀ i, w.getD i 0 = u.words.getD i 0) ∧ (∀ i, norm (ks.getD i T0) = norm (u.kids.getD i T0))) → eqT (.mk k w ks) u = false := fun h => by
    rw [Bool.eq_false_iff]
    intro e
    exact h ((eqT_any (by omega)).1 e).2
  obtain ⟨N, hN⟩ : ∃ N : Nat, N = max w.length u.words.length := ⟨_, rfl⟩
  obtain ⟨M, hM⟩ : ∃ M : Nat, M = max ks.length u.kids.length := ⟨_, rfl⟩
  have eN : max (w.length : Int) (u.words.length : Int) = (N : Int) := by omega
  have eM : max (ks.length : Int) (u.kids.length : Int) = (M : Int) := by omega
  refine spec_of t_tree_Equal (by simp) fun w0 I0 => ?_
  have main : (k = 1 ∨ (ks.length = u.kids.length ∧ w = u.words)) → WPC (cx Try.prog w0 I0 79) k1_tree_Equal (RetC Try.prog [.tmp 4] (bv (eqT (.mk k w ks) u))) ⟨lk [(2, .pob [0] 1 0), (3, .pob [1] 1 0)], lkH [([0], ⟨1, .cells [iv k, uws w, tKs ks]⟩), ([1], ⟨1, .cells [iv u.kind, uws u.words, tKs u.kids]⟩)]⟩ := fun hc => by
    rw [k1_tree_Equal.eq_1]
    simp [eN]
    refine pequal_l1 (t := .mk k w ks) (u := u) (by omega) (by simp) (by simp) (fun he q => ?_) (fun hf => ?_) N 0 (by omega) (fun i hi => by omega)
    · have heq : ∀ i, w.getD i 0 = u.words.getD i 0 := fun i => by
        by_cases hi : i < N
        · exact he i hi
        · rw [getD_none (by omega), getD_none (by omega)]
      simp [eM]
      refine eqg_l2 (t := .mk k w ks) (u := u) (by omega) hw hwu (fun i _ => hk0 i) (by simp) (by simp) (fun he2 q => ?_) (fun hf => ?_) M 0 (by omega) (fun i hi => by omega)
      · simp
        refine frz_bool (yes hc heq fun i => ?_).symm
        by_cases hi : i < M
        · exact he2 i hi
        · rw [getD_none (by omega), getD_none (by omega)]
      · simp
        refine frz_bool (no fun h => ?_).symm
        obtain ⟨i, hi⟩ := hf
        exact hi (h.2.2 i)
    · simp
      refine frz_bool (no fun h => ?_).symm
      obtain ⟨i, hi⟩ := hf
      exact hi (h.2.1 i)
  unfold c_tree_Equal
  by_cases k1 : k = 1
  · have u1 : u.kind = 1 := by omega
    have hm := main (.inl k1)
    rw [u1] at hm
    subst k1
    simp [u1]
    refine sc_call_off rfl ?_
    simp
    exact stop_go hm
  · have u1 : ¬ u.kind = 1 := by omega
    by_cases hl : ks.length = u.kids.length
    · have hl' : (ks.length : Int) = u.kids.length := by omega
      simp [h1, h0, u1, hl']
      refine sc_call_gf rfl (fun _ => sEqual_spec w u.words (by omega)) (fun _ => rfl) rfl ?_
      by_cases hww : w = u.words
      · simp [hww]
        have := main (.inr ⟨hl, hww⟩)
        rw [h1, hww] at this
        exact stop_go this
      · simp [hww]
        refine frz_bool ?_
        rw [← h1]
        refine (no fun h => ?_).symm
        rcases h.1 with h | h
        · exact k1 h
        · exact hww h.2
    · have hl' : ¬ (ks.length : Int) = u.kids.length := by omega
      simp [h1, h0, u1, hl, hl']
      refine sc_call_off rfl ?_
      simp
      refine frz_bool ?_
      rw [← h1]
      exact (no fun h => by
        rcases h.1 with h | h
        · exact k1 h
        · exact hl h.1).symm
theorem eqG_spec {t u : T} (hw : wfT t) (hwu : wfT u) : G.Spec Try.prog 29 [tX t, tX u] (bv (eqT t u)) := eqG_all t u hw hwu
end Go.Proofs.Ytmeldaflhkiopaa

/-
  Plain: how like two trees are.
-/
namespace Go.PL
set_option linter.unusedVariables false
set_option linter.unusedSimpArgs false
def cntW : List Int → List Int → Nat
  | a :: l, b :: m => (if a = b then 1 else 0) + cntW l m
  | _, _ => 0
noncomputable def cntK : List T → List T → Nat
  | a :: l, b :: m => (if eqT a b = true then 1 else 0) + cntK l m
  | _, _ => 0
noncomputable def scoreT (a b : T) : Nat := if a.kind ≠ b.kind ∨ a.kind = 0 ∨ a.kind = 10 then 0 else 1 + cntW a.words b.words + cntK a.kids b.kids
theorem eqT_comm (a b : T) : eqT a b = eqT b a := by
  rw [Bool.eq_iff_iff, eqT_iff, eqT_iff]
  exact eq_comm
theorem cntW_comm : ∀ l m, cntW l m = cntW m l
  | [], [] => rfl
  | [], _ :: _ => rfl
  | _ :: _, [] => rfl
  | a :: l, b :: m => by
    unfold cntW
    rw [cntW_comm l m]
    by_cases h : a = b
    · simp [h]
    · simp [h, Ne.symm h]
theorem cntK_comm : ∀ l m, cntK l m = cntK m l
  | [], [] => rfl
  | [], _ :: _ => rfl
  | _ :: _, [] => rfl
  | a :: l, b :: m => by
    unfold cntK
    rw [cntK_comm l m, eqT_comm]
theorem scoreT_comm (a b : T) : scoreT a b = scoreT b a := by
  unfold scoreT
  rw [cntW_comm, cntK_comm]
  by_cases h : a.kind = b.kind
  · rw [h]
  · rw [if_pos (.inl h), if_pos (.inl (Ne.symm h))]
theorem cntW_at {l m : List Int} {i : Nat} (h1 : i < l.length) (h2 : i < m.length) : cntW (l.drop i) (m.drop i) = (if l[i] = m[i] then 1 else 0) + cntW (l.drop (i + 1)) (m.drop (i + 1)) := by
  rw [(List.getElem_cons_drop h1).symm, (List.getElem_cons_drop h2).symm, cntW]
theorem cntK_at {l m : List T} {i : Nat} (h1 : i < l.length) (h2 : i < m.length) : cntK (l.drop i) (m.drop i) = (if eqT l[i] m[i] = true then 1 else 0) + cntK (l.drop (i + 1)) (m.drop (i + 1)) := by
  rw [(List.getElem_cons_drop h1).symm, (List.getElem_cons_drop h2).symm, cntK]
theorem cntW_end {l m : List Int} {i : Nat} (h : i = min l.length m.length) : cntW (l.drop i) (m.drop i) = 0 := by
  by_cases h1 : i = l.length
  · rw [List.drop_eq_nil_of_le (by omega : l.length ≤ i)]; cases m.drop i <;> rfl
  · rw [List.drop_eq_nil_of_le (by omega : m.length ≤ i)]; cases l.drop i <;> rfl
theorem cntK_end {l m : List T} {i : Nat} (h : i = min l.length m.length) : cntK (l.drop i) (m.drop i) = 0 := by
  by_cases h1 : i = l.length
  · rw [List.drop_eq_nil_of_le (by omega : l.length ≤ i)]; cases m.drop i <;> rfl
  · rw [List.drop_eq_nil_of_le (by omega : m.length ≤ i)]; cases l.drop i <;> rfl
theorem cntW_len : ∀ l m, cntW l m ≤ l.length
  | [], _ => by simp [cntW]
  | _ :: _, [] => by simp [cntW]
  | a :: l, b :: m => by
    have := cntW_len l m
    unfold cntW
    simp
    split <;> omega
end Go.PL

/-
  pair.Score, centoref19.Score.
-/
namespace Go.Proofs.Ytmeldaflhkiopaa
set_option linter.unusedVariables false
set_option linter.unusedSimpArgs false
open Go Go.G Go.Proofs Go.PL
section
variable {n0 : Nat} {w0 : World} {I0 : Nat → Prop} {Q : Exit → Sta → Prop}
theorem rsc_l1 {a b : T} {H : Hp} (ha : wfT a) (hb : wfT b) (h0 : H [0] = ⟨1, .cells (tL a)⟩) (h1 : H [1] = ⟨1, .cells (tL b)⟩) : ∀ (m i n : Nat), i + m = min a.words.length b.words.length → n ≤ 1 + i →
    (∀ st, Q (.exit 0) ⟨lk ([(2, .pob [0] 1 0), (3, .pob [1] 1 0), (5, nv (n + cntW (a.words.drop i) (b.words.drop i)))] ++ st), H⟩) →
    LoopC (cx Try.prog w0 I0 n0) l1_centoref19_Score Q ⟨lk [(2, .pob [0] 1 0), (3, .pob [1] 1 0), (5, nv n), (6, iv i)], H⟩ := by
  have hal := (wfT_iff.1 ha).wl
  intro m
  induction m with
  | zero =>
    intro i n hm hn hq
    refine loopC_once mixed l1_centoref19_Score.eq_1 ?_
    rw [cntW_end (by omega)] at hq
    by_cases hlt : i < a.words.length
    · have : ¬ i < b.words.length := by omega
      simp [h0, h1, hlt, this]
      exact hq [(6, iv i), (34, bv false)]
    · simp [h0, h1, hlt]
      exact hq [(6, iv i), (34, bv false)]
  | succ m ih =>
    intro i n hm hn hq
    have hi : i < a.words.length := by omega
    have hj : i < b.words.length := by omega
    have e1 : IntKind.i64.wrap ((i : Int) + 1) = ((i + 1 : Nat) : Int) := by rw [i64_same (by omega) (by omega)]; omega
    have e2 : IntKind.i64.wrap ((n : Int) + 1) = ((n + 1 : Nat) : Int) := by rw [i64_same (by omega) (by omega)]; omega
    rw [cntW_at hi hj] at hq
    refine loopC_once mixed l1_centoref19_Score.eq_1 ?_
    by_cases h : a.words[i] = b.words[i]
    · simp [h0, h1, hi, hj, h, e1, e2]
      refine ih (i + 1) (n + 1) (by omega) (by omega) fun st => ?_
      have := hq st
      rw [if_pos h] at this
      rw [show n + 1 + cntW (a.words.drop (i + 1)) (b.words.drop (i + 1)) = n + (1 + cntW (a.words.drop (i + 1)) (b.words.drop (i + 1))) by omega]
      exact this
    · simp [h0, h1, hi, hj, h, e1]
      refine ih (i + 1) n (by omega) (by omega) fun st => ?_
      have := hq st
      rw [if_neg h, Nat.zero_add] at this
      exact this
theorem rsc_l2 {a b : T} {H : Hp} (ha : wfT a) (hb : wfT b) (h0 : H [0] = ⟨1, .cells (tL a)⟩) (h1 : H [1] = ⟨1, .cells (tL b)⟩) : ∀ (m i n : Nat), i + m = min a.kids.length b.kids.length → n ≤ 100000000000000 + i →
    (∀ st, Q (.exit 2) ⟨lk ([(2, .pob [0] 1 0), (3, .pob [1] 1 0), (5, nv (n + cntK (a.kids.drop i) (b.kids.drop i)))] ++ st), H⟩) →
    LoopC (cx Try.prog w0 I0 n0) l2_centoref19_Score Q ⟨lk [(2, .pob [0] 1 0), (3, .pob [1] 1 0), (5, nv n), (7, iv i)], H⟩ := by
  have hal := (wfT_iff.1 ha).kl
  intro m
  induction m with
  | zero =>
    intro i n hm hn hq
    refine loopC_once mixed l2_centoref19_Score.eq_1 ?_
    rw [cntK_end (by omega)] at hq
    by_cases hlt : i < a.kids.length
    · have : ¬ i < b.kids.length := by omega
      simp [h0, h1, hlt, this]
      exact hq [(7, iv i), (61, bv false)]
    · simp [h0, h1, hlt]
      exact hq [(7, iv i), (61, bv false)]
  | succ m ih =>
    intro i n hm hn hq
    have hi : i < a.kids.length := by omega
    have hj : i < b.kids.length := by omega
    have e1 : IntKind.i64.wrap ((i : Int) + 1) = ((i + 1 : Nat) : Int) := by rw [i64_same (by omega) (by omega)]; omega
    have e2 : IntKind.i64.wrap ((n : Int) + 1) = ((n + 1 : Nat) : Int) := by rw [i64_same (by omega) (by omega)]; omega
    have hE := rEqual_spec ((wfT_iff.1 ha).ks _ (List.getElem_mem hi)) ((wfT_iff.1 hb).ks _ (List.getElem_mem hj)) (wf_norm _ ((wfT_iff.1 ha).ks _ (List.getElem_mem hi)))
    rw [cntK_at hi hj] at hq
    refine loopC_once mixed l2_centoref19_Score.eq_1 ?_
    simp [h0, h1, hi, hj]
    refine sc_call hE (by simp) ?_
    cases h : eqT a.kids[i] b.kids[i] with
    | true =>
      simp [e1, e2]
      refine ih (i + 1) (n + 1) (by omega) (by omega) fun st => ?_
      have := hq st
      rw [if_pos h] at this
      rw [show n + 1 + cntK (a.kids.drop (i + 1)) (b.kids.drop (i + 1)) = n + (1 + cntK (a.kids.drop (i + 1)) (b.kids.drop (i + 1))) by omega]
      exact this
    | false =>
      simp [e1]
      refine ih (i + 1) n (by omega) (by omega) fun st => ?_
      have := hq st
      rw [if_neg (by rw [h]; decide), Nat.zero_add] at this
      exact this
end
theorem rScore_spec {a b : T} (ha : wfT a) (hb : wfT b) : G.Spec Try.prog 13 [tX a, tX b] (nv (scoreT a b)) := by
  have hal := (wfT_iff.1 ha).wl
  refine spec_of t_centoref19_Score (by simp) fun w0 I0 => ?_
  unfold c_centoref19_Score
  by_cases hk : a.kind = b.kind
  · by_cases h0 : b.kind = 0
    · simp [hk, h0]
      exact frz_int (by simp [scoreT, hk, h0])
    · by_cases h10 : b.kind = 10
      · simp [hk, h0, h10]
        exact frz_int (by simp [scoreT, hk, h10])
      · simp [hk, h0, h10]
        refine LoopC.le (le_list [(2, .pob [0] 1 0), (3, .pob [1] 1 0), (5, nv 1), (6, iv (0 : Nat))] (by simp)) ?_
        refine rsc_l1 ha hb (by simp [updF_app, hk]) (by simp [updF_app]) _ 0 1 (Nat.zero_add _) (by omega) fun st => ?_
        simp
        refine LoopC.le (le_list [(2, .pob [0] 1 0), (3, .pob [1] 1 0), (5, nv (1 + cntW a.words b.words)), (7, iv (0 : Nat))] (by simp)) ?_
        have := cntW_len a.words b.words
        refine rsc_l2 ha hb (by simp [updF_app, hk]) (by simp [updF_app]) _ 0 _ (Nat.zero_add _) (by omega) fun st => ?_
        simp
        refine frz_int ?_
        simp [scoreT, hk, h0, h10]
  · simp [hk]
    exact frz_int (by simp [scoreT, hk])
section
variable {n0 : Nat} {w0 : World} {I0 : Nat → Prop} {Q : Exit → Sta → Prop}
theorem psc_l1 {a b : T} {H : Hp} (ha : wfT a) (hb : wfT b) (h0 : H [0] = ⟨1, .cells (tL a)⟩) (h1 : H [1] = ⟨1, .cells (tL b)⟩) : ∀ (m i n : Nat), i + m = min a.words.length b.words.length → n ≤ 1 + i →
    (∀ st, Q (.exit 0) ⟨lk ([(2, .pob [0] 1 0), (3, .pob [1] 1 0), (5, nv (n + cntW (a.words.drop i) (b.words.drop i)))] ++ st), H⟩) →
    LoopC (cx Try.prog w0 I0 n0) l1_pair_Score Q ⟨lk [(2, .pob [0] 1 0), (3, .pob [1] 1 0), (5, nv n), (29, iv (min a.words.length b.words.length : Nat)), (30, iv i)], H⟩ := by
  have hal := (wfT_iff.1 ha).wl
  intro m
  induction m with
  | zero =>
    intro i n hm hn hq
    refine loopC_once mixed l1_pair_Score.eq_1 ?_
    rw [cntW_end (by omega)] at hq
    generalize min a.words.length b.words.length = N at *
    simp [show ¬ i < N by omega]
    exact hq [(29, iv N), (30, iv i), (31, bv false)]
  | succ m ih =>
    intro i n hm hn hq
    have hi : i < a.words.length := by omega
    have hj : i < b.words.length := by omega
    have e1 : IntKind.i64.wrap ((i : Int) + 1) = ((i + 1 : Nat) : Int) := by rw [i64_same (by omega) (by omega)]; omega
    have e2 : IntKind.i64.wrap ((n : Int) + 1) = ((n + 1 : Nat) : Int) := by rw [i64_same (by omega) (by omega)]; omega
    rw [cntW_at hi hj] at hq
    generalize min a.words.length b.words.length = N at *
    have hN : i < N := by omega
    refine loopC_once mixed l1_pair_Score.eq_1 ?_
    by_cases h : a.words[i] = b.words[i]
    · simp [h0, h1, hi, hj, hN, h, e1, e2]
      refine ih (i + 1) (n + 1) (by omega) (by omega) fun st => ?_
      have := hq st
      rw [if_pos h] at this
      rw [show n + 1 + cntW (a.words.drop (i + 1)) (b.words.drop (i + 1)) = n + (1 + cntW (a.words.drop (i + 1)) (b.words.drop (i + 1))) by omega]
      exact this
    · simp [h0, h1, hi, hj, hN, h, e1]
      refine ih (i + 1) n (by omega) (by omega) fun st => ?_
      have := hq st
      rw [if_neg h, Nat.zero_add] at this
      exact this
theorem psc_l2 {a b : T} {H : Hp} (ha : wfT a) (hb : wfT b) (h0 : H [0] = ⟨1, .cells (tL a)⟩) (h1 : H [1] = ⟨1, .cells (tL b)⟩) : ∀ (m i n : Nat), i + m = min a.kids.length b.kids.length → n ≤ 100000000000000 + i →
    (∀ st, Q (.exit 2) ⟨lk ([(2, .pob [0] 1 0), (3, .pob [1] 1 0), (5, nv (n + cntK (a.kids.drop i) (b.kids.drop i)))] ++ st), H⟩) →
    LoopC (cx Try.prog w0 I0 n0) l2_pair_Score Q ⟨lk [(2, .pob [0] 1 0), (3, .pob [1] 1 0), (5, nv n), (53, iv (min a.kids.length b.kids.length : Nat)), (54, iv i)], H⟩ := by
  have hal := (wfT_iff.1 ha).kl
  intro m
  induction m with
  | zero =>
    intro i n hm hn hq
    refine loopC_once mixed l2_pair_Score.eq_1 ?_
    rw [cntK_end (by omega)] at hq
    generalize min a.kids.length b.kids.length = N at *
    simp [show ¬ i < N by omega]
    exact hq [(53, iv N), (54, iv i), (55, bv false)]
  | succ m ih =>
    intro i n hm hn hq
    have hi : i < a.kids.length := by omega
    have hj : i < b.kids.length := by omega
    have e1 : IntKind.i64.wrap ((i : Int) + 1) = ((i + 1 : Nat) : Int) := by rw [i64_same (by omega) (by omega)]; omega
    have e2 : IntKind.i64.wrap ((n : Int) + 1) = ((n + 1 : Nat) : Int) := by rw [i64_same (by omega) (by omega)]; omega
    have hE := eqG_spec ((wfT_iff.1 ha).ks _ (List.getElem_mem hi)) ((wfT_iff.1 hb).ks _ (List.getElem_mem hj))
    rw [cntK_at hi hj] at hq
    generalize min a.kids.length b.kids.length = N at *
    have hN : i < N := by omega
    refine loopC_once mixed l2_pair_Score.eq_1 ?_
    simp [h0, h1, hi, hj, hN]
    refine sc_call hE (by simp) ?_
    cases h : eqT a.kids[i] b.kids[i] with
    | true =>
      simp [e1, e2]
      refine ih (i + 1) (n + 1) (by omega) (by omega) fun st => ?_
      have := hq st
      rw [if_pos h] at this
      rw [show n + 1 + cntK (a.kids.drop (i + 1)) (b.kids.drop (i + 1)) = n + (1 + cntK (a.kids.drop (i + 1)) (b.kids.drop (i + 1))) by omega]
      exact this
    | false =>
      simp [e1]
      refine ih (i + 1) n (by omega) (by omega) fun st => ?_
      have := hq st
      rw [if_neg (by rw [h]; decide), Nat.zero_add] at this
      exact this
end
theorem pScore_spec {a b : T} (ha : wfT a) (hb : wfT b) : G.Spec Try.prog 12 [tX a, tX b] (nv (scoreT a b)) := by
  have hal := (wfT_iff.1 ha).wl
  refine spec_of t_pair_Score (by simp) fun w0 I0 => ?_
  unfold c_pair_Score
  by_cases hk : a.kind = b.kind
  · by_cases h0 : b.kind = 0
    · simp [hk, h0]
      exact frz_int (by simp [scoreT, hk, h0])
    · by_cases h10 : b.kind = 10
      · simp [hk, h0, h10]
        exact frz_int (by simp [scoreT, hk, h10])
      · simp [hk, h0, h10]
        refine LoopC.le (le_list [(2, .pob [0] 1 0), (3, .pob [1] 1 0), (5, nv 1), (29, iv (min a.words.length b.words.length : Nat)), (30, iv (0 : Nat))] (by simp; omega)) ?_
        refine psc_l1 ha hb (by simp [updF_app, hk]) (by simp [updF_app]) _ 0 1 (Nat.zero_add _) (by omega) fun st => ?_
        simp
        refine LoopC.le (le_list [(2, .pob [0] 1 0), (3, .pob [1] 1 0), (5, nv (1 + cntW a.words b.words)), (53, iv (min a.kids.length b.kids.length : Nat)), (54, iv (0 : Nat))] (by simp; omega)) ?_
        have := cntW_len a.words b.words
        refine psc_l2 ha hb (by simp [updF_app, hk]) (by simp [updF_app]) _ 0 _ (Nat.zero_add _) (by omega) fun st => ?_
        simp
        refine frz_int ?_
        simp [scoreT, hk, h0, h10]
  · simp [hk]
    exact frz_int (by simp [scoreT, hk])
end Go.Proofs.Ytmeldaflhkiopaa

/-
  Chapter 19: small, the example, the laws PairPicks and PairScores.
-/
namespace Go.Proofs.Ytmeldaflhkiopaa
set_option linter.unusedVariables false
set_option linter.unusedSimpArgs false
open Go Go.G Go.Proofs Go.PL
def smallB (rs : List (List Int)) : Bool := rs.all (fun r => decide (r.length ≤ 40)) && decide (rs.length ≤ 40)
theorem small_l1 {n0 : Nat} {w0 : World} {I0 : Nat → Prop} {Q : Exit → Sta → Prop} {rs : List (List Int)} {H : Hp} (hrs : rs.length ≤ 100000000000000) (hq : (∀ r, r ∈ rs → r.length ≤ 40) → ∀ st, Q (.exit 0) ⟨lk ([(0, ivss rs)] ++ st), H⟩) (hq2 : (∃ r, r ∈ rs ∧ ¬ r.length ≤ 40) → Q .ret ⟨lk [(2, bv false)], H⟩) : ∀ (m i : Nat), i + m = rs.length → (∀ r, r ∈ rs.take i → r.length ≤ 40) →
    LoopC (cx Try.prog w0 I0 n0) l1_centolaw19_small Q ⟨lk [(0, ivss rs), (3, iv i)], H⟩ := by
  intro m
  induction m with
  | zero =>
    intro i hm hf
    refine loopC_once mixed l1_centolaw19_small.eq_1 ?_
    simp [show ¬ i < rs.length by omega]
    exact hq (by rwa [List.take_of_length_le (by omega)] at hf) [(3, iv i), (7, bv false)]
  | succ m ih =>
    intro i hm hf
    have hi : i < rs.length := by omega
    have e1 : IntKind.i64.wrap ((i : Int) + 1) = ((i + 1 : Nat) : Int) := by rw [i64_same (by omega) (by omega)]; omega
    refine loopC_once mixed l1_centolaw19_small.eq_1 ?_
    by_cases h : 40 < rs[i].length
    · simp [hi, show (40 : Int) < rs[i].length by omega]
      exact hq2 ⟨rs[i], List.getElem_mem hi, by omega⟩
    · simp [hi, show ¬ (40 : Int) < rs[i].length by omega, e1]
      refine ih (i + 1) (by omega) fun r hr => ?_
      rw [List.take_succ_eq_append_getElem hi] at hr
      rcases List.mem_append.1 hr with hr | hr
      · exact hf r hr
      · simp at hr; subst hr; omega
theorem small_spec (rs : List (List Int)) (hrs : rs.length ≤ 100000000000000) : G.Spec Try.prog 7 [ivss rs] (bv (smallB rs)) := by
  refine spec_of t_centolaw19_small (by simp) fun w0 I0 => ?_
  unfold c_centolaw19_small
  simp
  refine LoopC.le (le_list [(0, ivss rs), (3, iv (0 : Nat))] (by simp)) ?_
  refine small_l1 hrs (fun h st => ?_) (fun h => ?_) rs.length 0 (by omega) (by simp)
  · simp
    refine frz_bool ?_
    have : rs.all (fun r => decide (r.length ≤ 40)) = true := by rw [List.all_eq_true]; intro r hr; simpa using h r hr
    rw [smallB, this]
    by_cases h2 : rs.length ≤ 40
    · simp [h2]; omega
    · simp [h2]; omega
  · simp
    refine frz_bool ?_
    obtain ⟨r, h1, h2⟩ := h
    have : rs.all (fun r => decide (r.length ≤ 40)) = false := by rw [List.all_eq_false]; exact ⟨r, h1, by simpa using h2⟩
    rw [smallB, this]; rfl
theorem small_has {rs : List (List Int)} (h : smallB rs = true) : rs.length ≤ 1000000 ∧ ∀ r, r ∈ rs → r.length ≤ 1000000 := by
  unfold smallB at h
  simp at h
  exact ⟨by omega, fun r hr => by have := h.1 r hr; omega⟩
theorem picks_all (rs : List (List Int)) : ∃ o', Picks (candS 0 rs) [] o' ∧ o'.length ≤ 16 := by
  have hc := candS_len (rs := rs) (i := 0)
  obtain ⟨o', ho⟩ := picks_any (all := candS 0 rs) (by omega)
  refine ⟨o', ho, ?_⟩
  obtain ⟨h1, h2⟩ := picks_facts ho
  obtain ⟨g1, g2⟩ := srt_ok h1
  have := rises_len (srtI o') 0 16 g1 fun x hx => ⟨by omega, (candS_mem (h2 x (g2.subset hx))).2.1⟩
  rw [g2.length_eq] at this
  omega
theorem awake19_spec : G.Spec Try.prog 8 [] (bv true) := by
  have ho : Picks (candS 0 [[1, 2], [3, 1]]) [] [⟨1, 0, 3⟩] := by
    have e : candS 0 [[1, 2], [3, 1]] = [⟨0, 0, 1⟩, ⟨0, 1, 2⟩, ⟨1, 0, 3⟩, ⟨1, 1, 1⟩] := by decide
    rw [e]
    refine .step (x := ⟨1, 0, 3⟩) ⟨by simp, rfl, by decide⟩ (.done (by decide))
  have hP := pick_spec [[1, 2], [3, 1]] (by simp) (by simp) ho (by simp)
  refine spec_of t_centolaw19_awake (by simp) fun w0 I0 => ?_
  unfold c_centolaw19_awake
  simp
  refine sc_call (hP.soft (by simp [A.softL, A.soft, ivss])) (by simp) ?_
  simp [srtI, insI, prA, prC]
  exact frz_bare rfl
theorem pp_l1 {n0 : Nat} {w0 : World} {I0 : Nat → Prop} {Q : Exit → Sta → Prop} {l : List Sc} {H : Hp} (hl : l.length ≤ 1000) (hq : ∀ st, Q (.exit 0) ⟨lk st, H⟩) : ∀ (m i : Nat), i + m = l.length →
    LoopC (cx Try.prog w0 I0 n0) l1_centolaw19_PairPicks Q ⟨lk [(3, prs l), (4, prs l), (5, iv i)], H⟩ := by
  intro m
  induction m with
  | zero =>
    intro i hm
    refine loopC_once mixed l1_centolaw19_PairPicks.eq_1 ?_
    simp [show ¬ i < l.length by omega]
    exact hq [(3, prs l), (4, prs l), (5, iv i), (22, bv false)]
  | succ m ih =>
    intro i hm
    have hi : i < l.length := by omega
    have e1 : IntKind.i64.wrap ((i : Int) + 1) = ((i + 1 : Nat) : Int) := by rw [i64_same (by omega) (by omega)]; omega
    refine loopC_once mixed l1_centolaw19_PairPicks.eq_1 ?_
    simp [hi, prA, prC, e1]
    exact ih (i + 1) (by omega)
theorem PairPicks_spec (rs : List (List Int)) (hrs : rs.length ≤ 100000000000000) : G.Spec Try.prog 3 [ivss rs] (bv true) := by
  refine spec_of t_centolaw19_PairPicks (by simp) fun w0 I0 => ?_
  unfold c_centolaw19_PairPicks
  simp
  refine sc_call (small_spec rs hrs) rfl ?_
  cases h : smallB rs with
  | false =>
    simp
    refine sc_call awake19_spec rfl ?_
    simp
    exact frz_bare rfl
  | true =>
    obtain ⟨h1, h2⟩ := small_has h
    obtain ⟨o', ho, hl⟩ := picks_all rs
    have hs := (srt_ok (picks_facts ho).1).2.length_eq
    simp
    refine sc_call (pick_spec rs h1 h2 ho hl) rfl ?_
    simp
    refine sc_call (rpk_spec rs h1 h2 ho hl) rfl ?_
    simp
    refine LoopC.le (le_list [(3, prs (srtI o')), (4, prs (srtI o')), (5, iv (0 : Nat))] (by simp)) ?_
    refine pp_l1 (by omega) (fun st => ?_) (srtI o').length 0 (by omega)
    simp
    refine sc_call awake19_spec rfl ?_
    simp
    exact frz_bare rfl
theorem PairScores_spec {a b : T} (ha : wfT a) (hb : wfT b) : G.Spec Try.prog 5 [tX a, tX b] (bv true) := by
  refine spec_of t_centolaw19_PairScores (by simp) fun w0 I0 => ?_
  unfold c_centolaw19_PairScores
  simp
  refine sc_call (few_spec ha) (by simp) ?_
  cases h1 : fewT a with
  | false =>
    simp
    refine sc_call_off rfl ?_
    simp
    refine sc_call awake19_spec rfl ?_
    simp
    exact frz_bare rfl
  | true =>
    simp
    refine sc_call_gf rfl (fun _ => few_spec hb) (fun _ => by simp) (by simp) ?_
    cases h2 : fewT b with
    | false =>
      simp
      refine sc_call awake19_spec rfl ?_
      simp
      exact frz_bare rfl
    | true =>
      simp
      refine sc_call (pScore_spec ha hb) (by simp) ?_
      simp [updF_app]
      refine sc_call (rScore_spec ha hb) (by simp) ?_
      simp [updF_app]
      refine sc_call_gt rfl (fun _ => pScore_spec hb ha) (fun _ => by simp) (by simp) ?_
      simp [updF_app]
      refine sc_call_gt rfl (fun _ => rScore_spec ha hb) (fun _ => by simp) (by simp) ?_
      simp [scoreT_comm b a]
      refine sc_call_gt rfl (fun _ => awake19_spec) (fun _ => rfl) rfl ?_
      simp
      exact frz_bare rfl
end Go.Proofs.Ytmeldaflhkiopaa

/-
  Chapter 19: the law PairRises.
-/
namespace Go.Proofs.Ytmeldaflhkiopaa
set_option linter.unusedVariables false
set_option linter.unusedSimpArgs false
open Go Go.G Go.Proofs Go.PL
section
variable {n0 : Nat} {w0 : World} {I0 : Nat → Prop} {Q : Exit → Sta → Prop}
/-- What is told of a pair that is picked. -/
def InRs (rs : List (List Int)) (x : Sc) : Prop := ∃ r, rs[x.i]? = some r ∧ r[x.j]? = some x.n
set_option maxRecDepth 100000 in
theorem ri_l1 {rs : List (List Int)} {l : List Sc} {H : Hp} (hl : l.length ≤ 1000) (hin : ∀ x, x ∈ l → InRs rs x) (hr : ∀ k (hk : k + 1 < l.length), l[k].i < l[k + 1].i ∧ l[k].j < l[k + 1].j)
    (hq : ∀ M st, (∀ x, x ∈ l → x.n ≤ M) → 0 ≤ M → Q (.exit 0) ⟨lk ([(0, ivss rs), (3, prs l), (4, iv M)] ++ st), H⟩) : ∀ (m i : Nat) (M : Int), i + m = l.length → 0 ≤ M → (∀ x, x ∈ l.take i → x.n ≤ M) →
    LoopC (cx Try.prog w0 I0 n0) l1_centolaw19_PairRises Q ⟨lk [(0, ivss rs), (3, prs l), (4, iv M), (5, iv i)], H⟩ := by
  intro m
  induction m with
  | zero =>
    intro i M hm h0 hM
    refine loopC_once mixed l1_centolaw19_PairRises.eq_1 ?_
    simp [show ¬ i < l.length by omega]
    rw [List.take_of_length_le (by omega)] at hM
    exact hq M [(5, iv i), (17, bv false)] hM h0
  | succ m ih =>
    intro i M hm h0 hM
    have hi : i < l.length := by omega
    have e1 : IntKind.i64.wrap ((i : Int) + 1) = ((i + 1 : Nat) : Int) := by rw [i64_same (by omega) (by omega)]; omega
    have next : ∀ M', M ≤ M' → l[i].n ≤ M' → LoopC (cx Try.prog w0 I0 n0) l1_centolaw19_PairRises Q ⟨lk [(0, ivss rs), (3, prs l), (4, iv M'), (5, iv (i + 1 : Nat))], H⟩ := fun M' h1 h2 => ih (i + 1) M' (by omega) (by omega) fun x hx => by
      rw [List.take_succ_eq_append_getElem hi] at hx
      rcases List.mem_append.1 hx with hx | hx
      · have := hM x hx; omega
      · simp at hx; subst hx; exact h2
    obtain ⟨r, q1, q2⟩ := hin l[i] (List.getElem_mem hi)
    obtain ⟨b1, b1'⟩ := List.getElem?_eq_some_iff.1 q1
    obtain ⟨b2, b2'⟩ := List.getElem?_eq_some_iff.1 q2
    have key : (i = 0 ∨ ∃ y : Sc, ∃ k : Nat, i = k + 1 ∧ l[k]? = some y ∧ y.i < l[i].i ∧ y.j < l[i].j) := by
      cases i with
      | zero => exact .inl rfl
      | succ k => exact .inr ⟨l[k], k, rfl, by simp, (hr k hi).1, (hr k hi).2⟩
    generalize hy : l[i] = y at *
    have n1 : ¬ (y.i : Int) < 0 := by omega
    have n2 : ¬ (y.j : Int) < 0 := by omega
    have n3 : ¬ rs.length ≤ y.i := by omega
    have n4 : ¬ r.length ≤ y.j := by omega
    refine loopC_once mixed l1_centolaw19_PairRises.eq_1 ?_
    rcases key with h0i | ⟨z, k, hk, c1, c2, c3⟩
    · have h0' : ¬ 0 < i := by omega
      by_cases h : M < y.n
      · simp [hi, hy, prA, prC, b1', b2', b1, b2, h, e1, h0', n1, n2, n3, n4]
        exact next y.n (by omega) (by omega)
      · simp [hi, hy, prA, prC, b1', b2', b1, b2, h, e1, h0', n1, n2, n3, n4]
        exact next M (by omega) (by omega)
    · have e2 : IntKind.i64.wrap ((i : Int) - 1) = (k : Int) := by rw [i64_same (by omega) (by omega)]; omega
      have h0' : 0 < i := by omega
      have hk' : k < l.length := by omega
      obtain ⟨_, c1'⟩ := List.getElem?_eq_some_iff.1 c1
      have n5 : ¬ y.i ≤ z.i := by omega
      have n6 : ¬ y.j ≤ z.j := by omega
      by_cases h : M < y.n
      · simp [hi, hy, prA, prC, b1', b2', b1, b2, h, e1, e2, h0', hk', c1', n1, n2, n3, n4, n5, n6]
        exact next y.n (by omega) (by omega)
      · simp [hi, hy, prA, prC, b1', b2', b1, b2, h, e1, e2, h0', hk', c1', n1, n2, n3, n4, n5, n6]
        exact next M (by omega) (by omega)
theorem ri_l2 {rs : List (List Int)} {M : Int} {i : Nat} {H : Hp} (hi : i < rs.length) (hr : rs[i].length ≤ 1000000) (hM : ∀ j (hj : j < rs[i].length), j < 16 → rs[i][j] ≤ M)
    (hq : ∀ st, Q (.exit 4) ⟨lk ([(0, ivss rs), (4, iv M), (6, iv i)] ++ st), H⟩) : ∀ (m j : Nat), j + m = rs[i].length →
    LoopC (cx Try.prog w0 I0 n0) l2_centolaw19_PairRises Q ⟨lk [(0, ivss rs), (4, iv M), (6, iv i), (7, iv j)], H⟩ := by
  intro m
  induction m with
  | zero =>
    intro j hm
    refine loopC_once mixed l2_centolaw19_PairRises.eq_1 ?_
    simp [hi, show ¬ j < rs[i].length by omega]
    exact hq [(7, iv j), (143, bv false)]
  | succ m ih =>
    intro j hm
    have hj : j < rs[i].length := by omega
    have e1 : IntKind.i64.wrap ((j : Int) + 1) = ((j + 1 : Nat) : Int) := by rw [i64_same (by omega) (by omega)]; omega
    refine loopC_once mixed l2_centolaw19_PairRises.eq_1 ?_
    by_cases h16 : j < 16
    · have := hM j hj h16
      simp [hi, hj, show (j : Int) < 16 by omega, show ¬ M < rs[i][j] by omega, e1]
      exact ih (j + 1) (by omega)
    · simp [hi, hj, show ¬ (j : Int) < 16 by omega]
      exact hq [(7, iv j), (143, bv false)]
theorem ri_l3 {rs : List (List Int)} {M : Int} {H : Hp} (hrs : rs.length ≤ 1000000) (hr : ∀ r, r ∈ rs → r.length ≤ 1000000) (hM : ∀ i (hi : i < rs.length) j (hj : j < rs[i].length), i < 16 → j < 16 → rs[i][j] ≤ M)
    (hq : ∀ st, Q (.exit 2) ⟨lk st, H⟩) : ∀ (m i : Nat), i + m = rs.length →
    LoopC (cx Try.prog w0 I0 n0) l3_centolaw19_PairRises Q ⟨lk [(0, ivss rs), (4, iv M), (6, iv i)], H⟩ := by
  intro m
  induction m with
  | zero =>
    intro i hm
    refine loopC_once mixed l3_centolaw19_PairRises.eq_1 ?_
    simp [show ¬ i < rs.length by omega]
    exact hq _
  | succ m ih =>
    intro i hm
    have hi : i < rs.length := by omega
    have e1 : IntKind.i64.wrap ((i : Int) + 1) = ((i + 1 : Nat) : Int) := by rw [i64_same (by omega) (by omega)]; omega
    refine loopC_once mixed l3_centolaw19_PairRises.eq_1 ?_
    by_cases h16 : i < 16
    · simp [hi, show (i : Int) < 16 by omega]
      refine LoopC.le (le_list [(0, ivss rs), (4, iv M), (6, iv i), (7, iv (0 : Nat))] (by simp)) ?_
      refine ri_l2 hi (hr _ (List.getElem_mem hi)) (fun j hj h => hM i hi j hj h16 h) (fun st => ?_) rs[i].length 0 (by omega)
      simp [e1]
      exact ih (i + 1) (by omega)
    · simp [hi, show ¬ (i : Int) < 16 by omega]
      exact hq _
end
theorem PairRises_spec (rs : List (List Int)) (hrs : rs.length ≤ 100000000000000) : G.Spec Try.prog 4 [ivss rs] (bv true) := by
  refine spec_of t_centolaw19_PairRises (by simp) fun w0 I0 => ?_
  unfold c_centolaw19_PairRises
  simp
  refine sc_call (small_spec rs hrs) rfl ?_
  cases h : smallB rs with
  | false =>
    simp
    refine sc_call awake19_spec rfl ?_
    simp
    exact frz_bare rfl
  | true =>
    obtain ⟨h1, h2⟩ := small_has h
    obtain ⟨o', ho, hl⟩ := picks_all rs
    obtain ⟨f1, f2⟩ := picks_facts ho
    have hp := (srt_ok f1).2
    have hs := hp.length_eq
    simp
    refine sc_call (pick_spec rs h1 h2 ho hl) rfl ?_
    simp
    refine LoopC.le (le_list [(0, ivss rs), (3, prs (srtI o')), (4, iv 0), (5, iv (0 : Nat))] (by simp)) ?_
    refine ri_l1 (by omega) (fun x hx => ?_) (fun k hk => srt_both f1 hk) (fun M st hM h0 => ?_) (srtI o').length 0 0 (by omega) (by omega) (by simp)
    · obtain ⟨_, _, _, _, r, g1, g2⟩ := candS_mem (f2 x (hp.subset hx))
      exact ⟨r, by simpa using g1, g2⟩
    · simp
      refine LoopC.le (le_list [(0, ivss rs), (4, iv M), (6, iv (0 : Nat))] (by simp)) ?_
      refine ri_l3 h1 h2 (fun i hi j hj hi16 hj16 => ?_) (fun st => ?_) rs.length 0 (by omega)
      · by_cases hpos : 0 < rs[i][j]
        · have := candS_has (rs := rs) (i := 0) (k := i) (j := j) hi hj (by omega) hj16 hpos
          obtain ⟨x, hx, hle⟩ := picks_most ho _ this
          have := hM x (hp.symm.subset hx)
          simp at hle
          omega
        · omega
      · simp
        refine sc_call awake19_spec rfl ?_
        simp
        exact frz_bare rfl
end Go.Proofs.Ytmeldaflhkiopaa

/-
  What an argument holds: trees and edits out of readings.
-/
namespace Go.Proofs.Ytmeldaflhkiopaa
set_option linter.unusedVariables false
set_option linter.unusedSimpArgs false
open Go Go.G Go.Proofs Go.PL Go.RowKit
theorem lit_i64 {m : Int} (h : (Lit.int .i64 m).wf = true) : i64R m := by
  simp [Lit.wf, IntKind.min, IntKind.max, IntKind.bits, IntKind.signed] at h
  unfold i64R; omega
theorem lit_u64 {m : Int} (h : (Lit.int .u64 m).wf = true) : u64R m := by
  simp [Lit.wf, IntKind.min, IntKind.max, IntKind.bits, IntKind.signed] at h
  unfold u64R; omega
theorem und_int' : Try.prog.underlying 3 = some (.int .i64) := by kernel_rfl
theorem und_u64' : Try.prog.underlying 68 = some (.int .u64) := by kernel_rfl
theorem hasI {n : Nat} {b : List A} (h : Has Try.prog n 3 b) : ∃ m, i64R m ∧ b = [iv m] := by
  cases n with
  | zero => exact h.elim
  | succ n =>
    unfold Has at h
    rw [und_int'] at h
    obtain ⟨m, hm, rfl⟩ := h
    exact ⟨m, lit_i64 hm, rfl⟩
theorem hasU {n : Nat} {b : List A} (h : Has Try.prog n 68 b) : ∃ m, u64R m ∧ b = [uv m] := by
  cases n with
  | zero => exact h.elim
  | succ n =>
    unfold Has at h
    rw [und_u64'] at h
    obtain ⟨m, hm, rfl⟩ := h
    exact ⟨m, lit_u64 hm, rfl⟩
theorem rowOf {α : Type} {xs : List A} {g : α → A} {R : α → Prop} (h : ∀ x, x ∈ xs → ∃ y, R y ∧ x.soft = g y) : ∃ l : List α, A.softL xs = l.map g ∧ l.length = xs.length ∧ ∀ y, y ∈ l → R y := by
  induction xs with
  | nil => exact ⟨[], rfl, rfl, fun y h => nomatch h⟩
  | cons x xs ih =>
    obtain ⟨y, hy, e⟩ := h x (by simp)
    obtain ⟨l, e2, e3, hl⟩ := ih fun z hz => h z (by simp [hz])
    refine ⟨y :: l, by simp [A.softL, e, e2], by simp [e3], fun z hz => ?_⟩
    rcases List.mem_cons.1 hz with rfl | hz
    · exact hy
    · exact hl z hz
theorem hasSl {P : Program} {t e : TypeId} {m : Nat} (u : P.underlying t = some (.slice e)) (hb : P.bytesOf e = m) {n : Nat} {b : List A} (h : Has P n t b) {α : Type} {g : α → A} {R : α → Prop} (hx : ∀ k b, k < n → Has P k e b → ∃ y, R y ∧ (mk P e b).soft = g y) :
    ∃ (f : Bool) (xs : List A) (l : List α), b = [.sl f xs] ∧ A.softL xs = l.map g ∧ l.length * m ≤ 140737488355328 ∧ ∀ y, y ∈ l → R y := by
  cases n with
  | zero => exact h.elim
  | succ n =>
    unfold Has at h
    rw [u] at h
    obtain ⟨f, xs, rfl, _, hz, hf, hx'⟩ := h
    rw [hb] at hz
    obtain ⟨l, e1, e2, hl⟩ := rowOf (g := g) (R := R) (xs := xs) fun x hxx => by
      obtain ⟨b, hb', rfl⟩ := hx' x hxx
      exact hx n b (by omega) hb'
    exact ⟨f, xs, l, rfl, e1, by rw [e2]; exact Nat.le_trans hz (by decide), hl⟩
theorem mk_int (b : List A) : mk Try.prog 3 b = b.headD .any := by unfold mk; rw [und_int']
theorem mk_u64 (b : List A) : mk Try.prog 68 b = b.headD .any := by unfold mk; rw [und_u64']
theorem hasWs {n : Nat} {b : List A} (h : Has Try.prog n 33 b) : ∃ (f : Bool) (xs : List A) (l : List Int), b = [.sl f xs] ∧ A.softL xs = l.map uv ∧ l.length * 8 ≤ 140737488355328 ∧ ∀ y, y ∈ l → u64R y :=
  hasSl (e := 68) (by kernel_rfl) (by kernel_rfl) h fun k b _ hb => by
    obtain ⟨m, h1, rfl⟩ := hasU hb
    exact ⟨m, h1, by rw [mk_u64]; rfl⟩
theorem und_tree : Try.prog.underlying 36 = some (.struct (Try.prog.fieldsOf 36)) := by kernel_rfl
theorem fld_tree : (Try.prog.fieldsOf 36).toList.map Field.type = [3, 33, 34] := by kernel_rfl
theorem mk_tree (b : List A) : mk Try.prog 36 b = .agg b := by unfold mk; rw [und_tree]
theorem hasTree : ∀ (n : Nat) (b : List A), Has Try.prog n 36 b → ∃ t, wfT t ∧ A.softL b = [iv t.kind, uws t.words, tKs t.kids] := by
  intro n
  induction n using Nat.strongRecOn with
  | ind n ih =>
    intro b h
    cases n with
    | zero => exact h.elim
    | succ n =>
      unfold Has at h
      rw [und_tree] at h
      simp only at h
      rw [hasL_types, fld_tree] at h
      obtain ⟨_, _, rfl, h1, _, _, rfl, h2, _, _, rfl, h3, rfl⟩ := h
      obtain ⟨k, hk, rfl⟩ := hasI h1
      obtain ⟨f, xs, w, rfl, e2, l2, r2⟩ := hasWs h2
      obtain ⟨f3, ys, l, rfl, e3, l3, r3⟩ := hasSl (m := 56) (e := 36) (g := tA) (R := wfT) (by kernel_rfl) (by kernel_rfl) h3 fun j b hj hb => by
        obtain ⟨t, ht, e⟩ := ih j (by omega) b hb
        exact ⟨t, ht, by rw [mk_tree]; simp only [A.soft, e]; rw [tA_eq]⟩
      refine ⟨.mk k w l, wfT_iff.2 ⟨hk, r2, l2, l3, r3⟩, ?_⟩
      simp only [List.cons_append, List.nil_append, List.append_nil, A.softL, A.soft, e2, e3]
      rfl
end Go.Proofs.Ytmeldaflhkiopaa

/-
  Chapter 19: each law, whatever its arguments hold.
-/
namespace Go.Proofs.Ytmeldaflhkiopaa
set_option linter.unusedVariables false
set_option linter.unusedSimpArgs false
open Go Go.G Go.Proofs Go.PL Go.RowKit
theorem und19_i : Try.prog.underlying 32 = some (.slice 3) := by kernel_rfl
theorem und19_ii : Try.prog.underlying 22 = some (.slice 32) := by kernel_rfl
theorem mk19_i (b : List A) : mk Try.prog 32 b = b.headD .any := by unfold mk; rw [und19_i]
theorem mk19_ii (b : List A) : mk Try.prog 22 b = b.headD .any := by unfold mk; rw [und19_ii]
theorem hasIs {n : Nat} {b : List A} (h : Has Try.prog n 32 b) : ∃ (f : Bool) (xs : List A) (l : List Int), b = [.sl f xs] ∧ A.softL xs = l.map iv ∧ l.length * 8 ≤ 140737488355328 ∧ ∀ y, y ∈ l → i64R y :=
  hasSl (e := 3) (by kernel_rfl) (by kernel_rfl) h fun k b _ hb => by
    obtain ⟨m, h1, rfl⟩ := hasI hb
    exact ⟨m, h1, by rw [mk_int]; rfl⟩
theorem hasIss {n : Nat} {b : List A} (h : Has Try.prog n 22 b) : ∃ (f : Bool) (xs : List A) (l : List (List Int)), b = [.sl f xs] ∧ A.softL xs = l.map ivs ∧ l.length * 24 ≤ 140737488355328 ∧ ∀ y, y ∈ l → True :=
  hasSl (e := 32) (by kernel_rfl) (by kernel_rfl) h fun k b _ hb => by
    obtain ⟨f, xs, l, rfl, e, _, _⟩ := hasIs hb
    exact ⟨l, trivial, by rw [mk19_i]; simp [A.soft, e]⟩
set_option maxRecDepth 100000 in
theorem said_pairPicks (xs : List A) (h : ArgsHas Try.prog Try.f3.params.toList xs) : G.Spec Try.prog 3 xs (.v (.bool true)) := by
  have h : ArgsHas Try.prog [22] xs := h
  match xs, h with
  | [a], ⟨⟨n, b, h1, h2⟩, _⟩ =>
    obtain ⟨f, ys, l, e1, e2, e3, _⟩ := hasIss h1
    rw [h2, mk19_ii, e1]
    exact (PairPicks_spec l (by omega)).soft (by simp only [A.softL, A.soft, List.headD, e2])
set_option maxRecDepth 100000 in
theorem said_pairRises (xs : List A) (h : ArgsHas Try.prog Try.f4.params.toList xs) : G.Spec Try.prog 4 xs (.v (.bool true)) := by
  have h : ArgsHas Try.prog [22] xs := h
  match xs, h with
  | [a], ⟨⟨n, b, h1, h2⟩, _⟩ =>
    obtain ⟨f, ys, l, e1, e2, e3, _⟩ := hasIss h1
    rw [h2, mk19_ii, e1]
    exact (PairRises_spec l (by omega)).soft (by simp only [A.softL, A.soft, List.headD, e2])
set_option maxRecDepth 100000 in
theorem said_pairScores (xs : List A) (h : ArgsHas Try.prog Try.f5.params.toList xs) : G.Spec Try.prog 5 xs (.v (.bool true)) := by
  have h : ArgsHas Try.prog [36, 36] xs := h
  match xs, h with
  | [a, a2], ⟨⟨n, b, h1, h2⟩, ⟨n2, b2, h12, h22⟩, _⟩ =>
    obtain ⟨t, ht, et⟩ := hasTree _ _ h1
    obtain ⟨t2, ht2, et2⟩ := hasTree _ _ h12
    rw [h2, mk_tree, h22, mk_tree]
    exact (PairScores_spec ht ht2).soft (by simp only [A.softL, A.soft, et, et2])
end Go.Proofs.Ytmeldaflhkiopaa
