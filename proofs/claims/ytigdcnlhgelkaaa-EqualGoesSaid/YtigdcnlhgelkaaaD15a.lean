/-
  Chapters 14 and 15: what counts of a value; whether two mean the same.
-/
import Derived.Test.YtigdcnlhgelkaaaD09c
namespace Go.Proofs.Ytigdcnlhgelkaaa
set_option linter.unusedVariables false
set_option linter.unusedSimpArgs false
open Go Go.G Go.Proofs Go.PL

theorem means_bare {l : List (List Int)} {r : Rf} {t : T} (h : Means l r t) : Bare t := fun h0 => by
  have hk := means_kind h
  have hw := (means_word h).1
  have hn := means_nk h
  have hr := means_ok h
  rw [h0] at hk
  have : nwR r = 0 ∧ nk r = 0 := by
    cases hr <;> simp [nwR, nk, Rf.zero] at hk ⊢ <;> omega
  exact ⟨List.eq_nil_of_length_eq_zero (by omega), List.eq_nil_of_length_eq_zero (by omega)⟩
theorem means_len {l : List (List Int)} {r : Rf} {t : T} (h : Means l r t) : t.words.length ≤ 65536 ∧ t.kids.length < 536870912 := by
  have hw := (means_word h).1
  have hn := means_nk h
  have hr := means_ok h
  have := nk_nonneg hr
  have : nwR r ≤ 65536 := by
    cases hr <;> simp [nwR, Rf.zero] <;> (try split) <;> omega
  omega
section
variable {n0 : Nat} {w0 : World} {I0 : Nat → Prop} {Q : Exit → Sta → Prop} {H : Hp}
theorem long_l1 {l : List (List Int)} (hs : Sg l) {r : Rf} {t : T} (hm : Means l r t) (hH : H [0] = ⟨1, .cells (paL l r)⟩) (hq : ∀ q, Q (.exit 0) ⟨lk [(1, .pob [0] 1 0), (3, iv (trimW t.words).length), (14, bv q)], H⟩) : ∀ (n : Nat), n ≤ t.words.length → trimW (t.words.take n) = trimW t.words →
    LoopC (cx Try.prog w0 I0 n0) l1_copy_Long Q ⟨lk [(1, .pob [0] 1 0), (3, iv n)], H⟩ := by
  have hlen := means_len hm
  intro n
  induction n with
  | zero =>
    intro hn ht
    refine loopC_once mixed l1_copy_Long.eq_1 ?_
    simp
    refine sc_call_off rfl ?_
    have e : (trimW t.words).length = 0 := by rw [← ht]; rfl
    have := hq false
    rw [e] at this
    simp
    exact this
  | succ n ih =>
    intro hn ht
    have hlt : n < t.words.length := by omega
    have e : IntKind.i64.wrap (n : Int) = n := i64_same (by omega) (by omega)
    have hp : (0 : Int) < (n : Int) + 1 := by omega
    have hwd := (means_word hm).2 n hlt
    refine loopC_once mixed l1_copy_Long.eq_1 ?_
    simp [hp, hH, e]
    refine sc_call_gt rfl (fun _ => word_spec' hs (means_ok hm) n) (fun _ => rfl) (by simp) ?_
    rw [hwd]
    by_cases h0 : t.words[n] = 0
    · simp [h0, e]
      exact ih (by omega) (by rw [← trimW_zero hlt h0]; exact ht)
    · have e2 : (trimW t.words).length = n + 1 := by rw [← ht, trimW_stop hlt h0]; simp; omega
      have := hq false
      rw [e2] at this
      simp [h0]
      exact this
theorem wide_l1 {l : List (List Int)} (hs : Sg l) {r : Rf} {t : T} (hm : Means l r t) : ∀ (n : Nat) (H : Hp), H [0] = ⟨1, .cells (paL l r)⟩ → n ≤ t.kids.length → trimK (t.kids.take n) = trimK t.kids → ((trimK t.kids).length = 0 → ∀ k q H', Q (.exit 0) ⟨lk [(1, .pob [0] 1 0), (4, iv k), (10, bv q)], H'⟩) → ((trimK t.kids).length ≠ 0 → ∀ H', Q .ret ⟨lk [(2, iv (trimK t.kids).length), (3, iv 0)], H'⟩) →
    LoopC (cx Try.prog w0 I0 n0) l1_copy_Wide Q ⟨lk [(1, .pob [0] 1 0), (4, iv n)], H⟩ := by
  have hlen := means_len hm
  intro n
  induction n with
  | zero =>
    intro H hH hn ht h1 h2
    refine loopC_once mixed l1_copy_Wide.eq_1 ?_
    simp
    exact h1 (by rw [← ht]; rfl) _ _ _
  | succ n ih =>
    intro H hH hn ht h1 h2
    have hlt : n < t.kids.length := by omega
    have e : IntKind.i64.wrap (n : Int) = n := i64_same (by omega) (by omega)
    have hp : (0 : Int) < (n : Int) + 1 := by omega
    obtain ⟨k1, k2⟩ := means_kid hm hlt
    have kk := means_kind k2
    refine loopC_once mixed l1_copy_Wide.eq_1 ?_
    simp [hp, hH, e]
    refine sc_call (kid_spec hs (means_ok hm) n) (by simp) ?_
    simp [k1, updF_app]
    refine sc_call_gf rfl (fun _ => refKind_spec l (kidP l r n).1) (fun _ => rfl) (by simp) ?_
    rw [kk]
    by_cases h0 : t.kids[n].kind = 0
    · simp [h0, e]
      exact ih _ (by simp [updF_app, hH]) (by omega) (by rw [← trimK_zero hlt h0]; exact ht) h1 h2
    · have e2 : (trimK t.kids).length = n + 1 := by rw [← ht, trimK_stop hlt h0]; simp; omega
      simp [h0]
      have := h2 (by omega) 
      rw [e2] at this
      exact this _
end
theorem long_spec {l : List (List Int)} (hs : Sg l) {r : Rf} {t : T} (hm : Means l r t) : G.Spec Try.prog 45 [paX l r] (iv (trimW t.words).length) := by
  refine spec_of t_copy_Long (by simp) fun w0 I0 => ?_
  unfold c_copy_Long
  simp
  refine sc_call (refWords_spec' l r) (by simp) ?_
  rw [(means_word hm).1]
  simp
  refine long_l1 hs hm (by simp) (fun q => ?_) t.words.length (Nat.le_refl _) (by rw [List.take_of_length_le (Nat.le_refl _)])
  simp
  exact frz_bare rfl
theorem wide_spec {l : List (List Int)} (hs : Sg l) {r : Rf} {t : T} (hm : Means l r t) : G.Spec Try.prog 44 [paX l r] (.tup [iv (trimK t.kids).length, iv 0]) := by
  refine spec_of t_copy_Wide (by simp) fun w0 I0 => ?_
  unfold c_copy_Wide
  simp
  refine sc_call (refKids_spec' l r) (by simp) ?_
  rw [means_nk hm]
  simp
  refine wide_l1 hs hm t.kids.length _ (by simp) (Nat.le_refl _) (by rw [List.take_of_length_le (Nat.le_refl _)]) (fun h k q H' => ?_) (fun h H' => ?_)
  · simp
    exact frz_is rfl (by simp [h])
  · simp
    exact frz_bare rfl
theorem ekids_spec {l : List (List Int)} (hs : Sg l) {r : Rf} {t : T} (hm : Means l r t) : G.Spec Try.prog 61 [paX l r] (.tup [iv (nK t), iv 0]) := by
  refine spec_of t_equal_kids (by simp) fun w0 I0 => ?_
  unfold c_equal_kids
  simp
  refine sc_call (refKind_spec l r) (by simp) ?_
  rw [means_kind hm]
  by_cases h1 : t.kind = 1
  · simp [h1]
    refine sc_call (wide_spec hs hm) (by simp) ?_
    simp
    exact frz_is rfl (by simp [nK, h1])
  · simp [h1]
    refine sc_call (refKids_spec' l r) (by simp) ?_
    rw [means_nk hm]
    simp
    exact frz_is rfl (by simp [nK, h1])
theorem ewords_spec {l : List (List Int)} (hs : Sg l) {r : Rf} {t : T} (hm : Means l r t) : G.Spec Try.prog 62 [paX l r] (iv (nW t)) := by
  refine spec_of t_equal_words (by simp) fun w0 I0 => ?_
  unfold c_equal_words
  simp
  refine sc_call (refKind_spec l r) (by simp) ?_
  rw [means_kind hm]
  by_cases h1 : t.kind = 1
  · simp [h1]
    refine sc_call (long_spec hs hm) (by simp) ?_
    simp
    exact frz_is rfl (by simp [nW, h1])
  · simp [h1]
    refine sc_call (refWords_spec' l r) (by simp) ?_
    rw [(means_word hm).1]
    simp
    exact frz_is rfl (by simp [nW, h1])

/-! ### alike -/
noncomputable def alikeB (t u : T) : Bool := by classical exact decide (t.kind = u.kind ∧ nW t = nW u ∧ nK t = nK u ∧ ∀ i : Nat, i < nW t → t.words[i]? = u.words[i]?)
theorem alikeB_iff {t u : T} : alikeB t u = true ↔ t.kind = u.kind ∧ nW t = nW u ∧ nK t = nK u ∧ ∀ i : Nat, i < nW t → t.words[i]? = u.words[i]? := by simp [alikeB]
section
variable {n0 : Nat} {w0 : World} {I0 : Nat → Prop} {Q : Exit → Sta → Prop} {H : Hp}
theorem alike_l1 {l m : List (List Int)} (hl : Sg l) (hm : Sg m) {r s : Rf} {t u : T} (ht : Means l r t) (hu : Means m s u) (hW : nW t = nW u) (hA : H [0] = ⟨1, .cells (paL l r)⟩) (hB : H [1] = ⟨1, .cells (paL m s)⟩) {k : Int} : ∀ (j i : Nat), i + j = nW t → (∀ x : Nat, x < i → t.words[x]? = u.words[x]?) →
    ((∀ x : Nat, x < nW t → t.words[x]? = u.words[x]?) → ∀ i' q, Q (.exit 0) ⟨lk [(2, .pob [0] 1 0), (3, .pob [1] 1 0), (7, iv k), (10, .fnc 63 [] []), (46, iv (nW t)), (47, iv i'), (48, bv q)], H⟩) →
    (¬ (∀ x : Nat, x < nW t → t.words[x]? = u.words[x]?) → Q .ret ⟨lk [(4, iv 0), (5, bv false), (6, iv 0)], H⟩) →
    LoopC (cx Try.prog w0 I0 n0) l1_equal_alike Q ⟨lk [(2, .pob [0] 1 0), (3, .pob [1] 1 0), (7, iv k), (10, .fnc 63 [] []), (46, iv (nW t)), (47, iv i)], H⟩ := by
  have h1 := means_len ht
  have h2 := means_len hu
  have w1 := nW_le t
  have w2 := nW_le u
  intro j
  induction j with
  | zero =>
    intro i hi he hq hq2
    have : i = nW t := by omega
    subst this
    refine loopC_once mixed l1_equal_alike.eq_1 ?_
    simp
    exact hq he _ _
  | succ j ih =>
    intro i hi he hq hq2
    have hlt : i < nW t := by omega
    have lt1 : i < t.words.length := by omega
    have lt2 : i < u.words.length := by omega
    have hlt' : (i : Int) < nW t := by omega
    have ei : IntKind.i64.wrap ((i : Int) + 1) = ((i + 1 : Nat) : Int) := i64_same (by omega) (by omega)
    refine loopC_once mixed l1_equal_alike.eq_1 ?_
    simp [hlt, hA, hB]
    refine sc_callv rfl (word_spec' hl (means_ok ht) i) (by simp) ?_
    rw [(means_word ht).2 i lt1]
    simp [hA, hB]
    refine sc_callv rfl (word_spec' hm (means_ok hu) i) (by simp) ?_
    rw [(means_word hu).2 i lt2]
    by_cases hx : t.words[i] = u.words[i]
    · simp [hx, ei]
      refine ih (i + 1) (by omega) (fun x hx' => ?_) hq hq2
      by_cases e : x = i
      · subst e; rw [List.getElem?_eq_getElem lt1, List.getElem?_eq_getElem lt2, hx]
      · exact he x (by omega)
    · simp [hx]
      refine hq2 fun hh => hx ?_
      have := hh i hlt
      rw [List.getElem?_eq_getElem lt1, List.getElem?_eq_getElem lt2] at this
      exact Option.some.inj this
end
theorem alike_spec {l m : List (List Int)} (hl : Sg l) (hm : Sg m) {r s : Rf} {t u : T} (ht : Means l r t) (hu : Means m s u) : G.Spec Try.prog 58 [paX l r, paX m s] (.tup [iv (if alikeB t u = true then nK t else 0), bv (alikeB t u), iv 0]) := by
  refine spec_of t_equal_alike (by simp) fun w0 I0 => ?_
  unfold c_equal_alike
  simp
  refine sc_call (refKind_spec l r) (by simp) ?_
  simp
  refine sc_call (refKind_spec m s) (by simp) ?_
  rw [means_kind ht, means_kind hu]
  have no : ¬ (t.kind = u.kind ∧ nW t = nW u ∧ nK t = nK u ∧ ∀ i : Nat, i < nW t → t.words[i]? = u.words[i]?) → alikeB t u = false := fun h => by rw [Bool.eq_false_iff]; exact fun e => h (alikeB_iff.1 e)
  by_cases h1 : t.kind = u.kind
  · simp [h1]
    refine sc_call_gf rfl (fun _ => ewords_spec hl ht) (fun _ => rfl) (by simp) ?_
    simp
    refine sc_call_gf rfl (fun _ => ewords_spec hm hu) (fun _ => rfl) (by simp) ?_
    by_cases h2 : nW t = nW u
    · simp [h2]
      refine sc_call (ekids_spec hl ht) (by simp) ?_
      simp
      refine sc_call (ekids_spec hm hu) (by simp) ?_
      by_cases h3 : nK t = nK u
      · simp [h3]
        refine sc_call (ewords_spec hl ht) (by simp) ?_
        simp
        refine alike_l1 hl hm ht hu h2 (by simp) (by simp) (nW t) 0 (by omega) (fun x hx => by omega) (fun hh i' q => ?_) (fun hh => ?_)
        · have : alikeB t u = true := alikeB_iff.2 ⟨h1, h2, h3, hh⟩
          simp
          exact frz_is rfl (by simp [this, h3])
        · have := no fun ⟨_, _, _, h⟩ => hh h
          simp
          exact frz_is rfl (by simp [this])
      · have := no fun ⟨_, _, h, _⟩ => h3 h
        simp [h3]
        refine ⟨fun h => absurd (by omega) h3, fun _ => ?_⟩
        exact frz_is rfl (by simp [this])
    · have := no fun ⟨_, h, _, _⟩ => h2 h
      simp [h2]
      refine ⟨fun h => absurd (by omega) h2, fun _ => ?_⟩
      exact frz_is rfl (by simp [this])
  · have := no fun ⟨h, _, _, _⟩ => h1 h
    simp [h1]
    refine sc_call_off rfl ?_
    simp
    refine sc_call_off rfl ?_
    simp
    exact frz_is rfl (by simp [this])

/-! ### whether two mean the same -/
theorem eqT_alike {t u : T} (ht : Bare t) (hu : Bare u) : eqT t u = true ↔ alikeB t u = true ∧ ∀ i : Nat, i < nK t → (t.kids[i]?).map norm = (u.kids[i]?).map norm := by
  rw [eqT_iff, norm_eq ht hu, alikeB_iff]
  constructor
  · rintro ⟨a, b, c, d, e⟩; exact ⟨⟨a, b, c, d⟩, e⟩
  · rintro ⟨⟨a, b, c, d⟩, e⟩; exact ⟨a, b, c, d, e⟩
section
variable {n0 : Nat} {w0 : World} {I0 : Nat → Prop} {Q : Exit → Sta → Prop}
abbrev ValS (l m : List (List Int)) (t u : T) : Prop := ∀ r s, Means l r t → Means m s u → G.Spec Try.prog 23 [paX l r, paX m s] (.tup [bv (eqT t u), iv 0])
theorem values_l1 {l m : List (List Int)} (hl : Sg l) (hm : Sg m) {r s : Rf} {t u : T} (ht : Means l r t) (hu : Means m s u) (hK : nK t = nK u) (ih : ∀ c, c ∈ t.kids → ∀ d, ValS l m c d) : ∀ (j i : Nat) (H : Hp), i + j = nK t → H [0] = ⟨1, .cells (paL l r)⟩ → H [1] = ⟨1, .cells (paL m s)⟩ → (∀ x : Nat, x < i → (t.kids[x]?).map norm = (u.kids[x]?).map norm) →
    ((∀ x : Nat, x < nK t → (t.kids[x]?).map norm = (u.kids[x]?).map norm) → ∀ i' q H', Q (.exit 0) ⟨lk [(2, .pob [0] 1 0), (3, .pob [1] 1 0), (29, iv (nK t)), (30, iv i'), (31, bv q)], H'⟩) →
    (¬ (∀ x : Nat, x < nK t → (t.kids[x]?).map norm = (u.kids[x]?).map norm) → ∀ H', Q .ret ⟨lk [(4, bv false), (5, iv 0)], H'⟩) →
    LoopC (cx Try.prog w0 I0 n0) l1_equal_Values Q ⟨lk [(2, .pob [0] 1 0), (3, .pob [1] 1 0), (29, iv (nK t)), (30, iv i)], H⟩ := by
  have h1 := means_len ht
  have h2 := means_len hu
  have w1 := nK_le t
  have w2 := nK_le u
  intro j
  induction j with
  | zero =>
    intro i H hi hA hB he hq hq2
    have : i = nK t := by omega
    subst this
    refine loopC_once mixed l1_equal_Values.eq_1 ?_
    simp
    exact hq he _ _ _
  | succ j ihj =>
    intro i H hi hA hB he hq hq2
    have hlt : i < nK t := by omega
    have lt1 : i < t.kids.length := by omega
    have lt2 : i < u.kids.length := by omega
    have ei : IntKind.i64.wrap ((i : Int) + 1) = ((i + 1 : Nat) : Int) := i64_same (by omega) (by omega)
    obtain ⟨a1, a2⟩ := means_kid ht lt1
    obtain ⟨b1, b2⟩ := means_kid hu lt2
    have ihc := ih _ (List.getElem_mem lt1) u.kids[i] _ _ a2 b2
    refine loopC_once mixed l1_equal_Values.eq_1 ?_
    simp [hlt, hA]
    refine sc_call (kid_spec hl (means_ok ht) i) (by simp) ?_
    simp [a1, updF_app, hB]
    refine sc_call (kid_spec hm (means_ok hu) i) (by simp) ?_
    simp [b1, updF_app]
    refine sc_call ihc (by simp) ?_
    cases hq' : eqT t.kids[i] u.kids[i] with
    | true =>
      simp [ei]
      refine ihj (i + 1) _ (by omega) (by simp [updF_app, hA]) (by simp [updF_app, hB]) (fun x hx' => ?_) hq hq2
      by_cases e : x = i
      · subst e; rw [List.getElem?_eq_getElem lt1, List.getElem?_eq_getElem lt2]; simp [eqT_iff.1 hq']
      · exact he x (by omega)
    | false =>
      simp
      refine hq2 (fun hh => ?_) _
      have := hh i hlt
      rw [List.getElem?_eq_getElem lt1, List.getElem?_eq_getElem lt2] at this
      have := eqT_iff.2 (Option.some.inj this)
      rw [hq'] at this
      cases this
end
theorem values_spec {l m : List (List Int)} (hl : Sg l) (hm : Sg m) : ∀ t u, ValS l m t u := by
  refine T.ind fun k w ks ih u r s ht hu => ?_
  have hb := eqT_alike (means_bare ht) (means_bare hu)
  refine spec_of t_equal_Values (by simp) fun w0 I0 => ?_
  unfold c_equal_Values
  simp
  refine sc_call (alike_spec hl hm ht hu) (by simp) ?_
  cases ha : alikeB (.mk k w ks) u with
  | false =>
    have : eqT (.mk k w ks) u = false := by rw [Bool.eq_false_iff]; intro e; have := (hb.1 e).1; rw [ha] at this; cases this
    simp
    exact frz_is rfl (by simp [this])
  | true =>
    obtain ⟨_, _, hK, _⟩ := alikeB_iff.1 ha
    simp
    refine values_l1 hl hm ht hu hK (fun c hc d => ih c hc d) (nK (.mk k w ks)) 0 _ (by omega) (by simp) (by simp) (fun x hx => by omega) (fun hh i' q H' => ?_) (fun hh H' => ?_)
    · have := hb.2 ⟨ha, hh⟩
      simp
      exact frz_is rfl (by simp [this])
    · have : eqT (.mk k w ks) u = false := by rw [Bool.eq_false_iff]; intro e; exact hh (hb.1 e).2
      simp
      exact frz_is rfl (by simp [this])
end Go.Proofs.Ytigdcnlhgelkaaa
