/-
  The document's trees: how many words they take; which ones are right.
-/
import Derived.Test.YtigdcnlhgelkaaaD07b
namespace Go.Proofs.Ytigdcnlhgelkaaa
set_option linter.unusedVariables false
set_option linter.unusedSimpArgs false
open Go Go.G Go.Proofs Go.PL

theorem wf_norm : ∀ (t : T), wfT t → wfT (norm t) := by
  refine T.ind fun k w l ih hw => ?_
  have hw' := wfT_iff.1 hw
  rw [norm_mk]
  have h2 : ∀ (l : List T), (∀ t, t ∈ l → ∃ u, u ∈ l ∧ t = u) → True := fun _ _ => trivial
  have hm : ∀ t, t ∈ l.map norm → wfT t := fun t ht => by
    obtain ⟨u, hu, rfl⟩ := List.mem_map.1 ht
    exact ih u hu (hw'.ks u hu)
  split
  · exact wfT_iff.2 ⟨by simp [i64R], by simp, by simp, by simp, by simp⟩
  · split
    · refine wfT_iff.2 ⟨by simp [i64R], fun x hx => ?_, ?_, ?_, fun t ht => ?_⟩
      · simp only [T.words_mk] at hx
        rw [trimW_take] at hx
        exact hw'.w x (List.mem_of_mem_take hx)
      · have := trimW_le w
        have := hw'.wl
        simp at this ⊢
        omega
      · have := trimK_le (l.map norm)
        have := hw'.kl
        simp at this ⊢
        simp at *
        omega
      · simp only [T.kids_mk] at ht
        rw [trimK_take] at ht
        exact hm t (List.mem_of_mem_take ht)
    · exact wfT_iff.2 ⟨hw'.k, hw'.w, hw'.wl, by simpa using hw'.kl, by simpa using hm⟩

section
variable {n0 : Nat} {w0 : World} {I0 : Nat → Prop} {Q : Exit → Sta → Prop}
theorem size_l3 {t : T} (hl : t.kids.length * 56 ≤ 140737488355328) (ih : ∀ c, c ∈ t.kids → G.Spec Try.prog 17 [tX c] (iv (i64w (sizeT c)))) {H : Hp} (hA : H [0] = ⟨1, .cells (tL t)⟩) : ∀ (m i : Nat) (x : Int), i + m = t.kids.length →
    (∀ i' q, Q (.exit 5) ⟨lk [(1, .pob [0] 1 0), (3, iv (i64w (x + sizeL (t.kids.drop i)))), (8, iv i'), (89, bv q)], H⟩) →
    LoopC (cx Try.prog w0 I0 n0) l3_centoref07_Size Q ⟨lk [(1, .pob [0] 1 0), (3, iv (i64w x)), (8, iv i)], H⟩ := by
  intro m
  induction m with
  | zero =>
    intro i x hi hq
    have : i = t.kids.length := by omega
    subst this
    refine loopC_once mixed l3_centoref07_Size.eq_1 ?_
    simp [hA]
    simpa using hq t.kids.length false
  | succ m ihm =>
    intro i x hi hq
    have hlt : i < t.kids.length := by omega
    have e : t.kids.drop i = t.kids[i] :: t.kids.drop (i + 1) := List.drop_eq_getElem_cons hlt
    have ei : IntKind.i64.wrap ((i : Int) + 1) = ((i + 1 : Nat) : Int) := i64_same (by omega) (by omega)
    refine loopC_once mixed l3_centoref07_Size.eq_1 ?_
    simp [hA, hlt]
    refine sc_call (ih _ (List.getElem_mem hlt)) rfl ?_
    simp [ei, i64_add_l, i64_add_r]
    exact ihm (i + 1) (x + sizeT t.kids[i]) (by omega) fun i' q => by
      have := hq i' q
      rw [e, sizeL_cons, ← Int.add_assoc] at this
      exact this
theorem size_l1 {t : T} (hl : t.kids.length * 56 ≤ 140737488355328) {i : Nat} (hi : i < t.kids.length) (hl2 : t.kids[i].kids.length * 56 ≤ 140737488355328) (ih : ∀ c, c ∈ t.kids[i].kids → G.Spec Try.prog 17 [tX c] (iv (i64w (sizeT c)))) {H : Hp} (hA : H [0] = ⟨1, .cells (tL t)⟩) : ∀ (m j : Nat) (x : Int), j + m = t.kids[i].kids.length →
    (∀ i' q, Q (.exit 3) ⟨lk [(1, .pob [0] 1 0), (3, iv (i64w (x + sizeL (t.kids[i].kids.drop j)))), (6, iv i), (7, iv i'), (69, bv q)], H⟩) →
    LoopC (cx Try.prog w0 I0 n0) l1_centoref07_Size Q ⟨lk [(1, .pob [0] 1 0), (3, iv (i64w x)), (6, iv i), (7, iv j)], H⟩ := by
  intro m
  induction m with
  | zero =>
    intro j x hj hq
    have : j = t.kids[i].kids.length := by omega
    subst this
    refine loopC_once mixed l1_centoref07_Size.eq_1 ?_
    simp [hA, hi]
    simpa using hq t.kids[i].kids.length false
  | succ m ihm =>
    intro j x hj hq
    have hlt : j < t.kids[i].kids.length := by omega
    have e : t.kids[i].kids.drop j = t.kids[i].kids[j] :: t.kids[i].kids.drop (j + 1) := List.drop_eq_getElem_cons hlt
    have ej : IntKind.i64.wrap ((j : Int) + 1) = ((j + 1 : Nat) : Int) := i64_same (by omega) (by omega)
    refine loopC_once mixed l1_centoref07_Size.eq_1 ?_
    simp [hA, hi, hlt]
    refine sc_call (ih _ (List.getElem_mem hlt)) rfl ?_
    simp [ej, i64_add_l, i64_add_r]
    exact ihm (j + 1) (x + sizeT t.kids[i].kids[j]) (by omega) fun i' q => by
      have := hq i' q
      rw [e, sizeL_cons, ← Int.add_assoc] at this
      exact this
theorem size_l2 {t : T} (hl : t.kids.length * 56 ≤ 140737488355328) (hl2 : ∀ c, c ∈ t.kids → c.kids.length * 56 ≤ 140737488355328) (ih : ∀ c, c ∈ t.kids → ∀ d, d ∈ c.kids → G.Spec Try.prog 17 [tX d] (iv (i64w (sizeT d)))) {H : Hp} (hA : H [0] = ⟨1, .cells (tL t)⟩) : ∀ (m i : Nat) (x : Int), i + m = t.kids.length →
    (∀ i' q, Q (.exit 1) ⟨lk [(1, .pob [0] 1 0), (3, iv (i64w (x + sizeLL (t.kids.drop i)))), (6, iv i'), (58, bv q)], H⟩) →
    LoopC (cx Try.prog w0 I0 n0) l2_centoref07_Size Q ⟨lk [(1, .pob [0] 1 0), (3, iv (i64w x)), (6, iv i)], H⟩ := by
  intro m
  induction m with
  | zero =>
    intro i x hi hq
    have : i = t.kids.length := by omega
    subst this
    refine loopC_once mixed l2_centoref07_Size.eq_1 ?_
    simp [hA]
    simpa using hq t.kids.length false
  | succ m ihm =>
    intro i x hi hq
    have hlt : i < t.kids.length := by omega
    have e : t.kids.drop i = t.kids[i] :: t.kids.drop (i + 1) := List.drop_eq_getElem_cons hlt
    have ei : IntKind.i64.wrap ((i : Int) + 1) = ((i + 1 : Nat) : Int) := i64_same (by omega) (by omega)
    refine loopC_once mixed l2_centoref07_Size.eq_1 ?_
    simp [hA, hlt]
    refine size_l1 hl hlt (hl2 _ (List.getElem_mem hlt)) (ih _ (List.getElem_mem hlt)) hA t.kids[i].kids.length 0 x (by omega) fun i' q => ?_
    simp [ei]
    exact ihm (i + 1) (x + sizeL t.kids[i].kids) (by omega) fun i' q => by
      have := hq i' q
      rw [e, sizeLL_cons, ← Int.add_assoc] at this
      exact this
end
set_option maxRecDepth 8000 in
theorem size_all : ∀ (t : T), wfT t → G.Spec Try.prog 17 [tX t] (iv (i64w (sizeT t))) ∧ ∀ c, c ∈ t.kids → G.Spec Try.prog 17 [tX c] (iv (i64w (sizeT c))) := by
  refine T.ind fun k w l ih hw => ?_
  have hw' := wfT_iff.1 hw
  have hwl := hw'.wl
  have hkl := hw'.kl
  simp at hwl hkl
  have ih1 : ∀ c, c ∈ (T.mk k w l).kids → G.Spec Try.prog 17 [tX c] (iv (i64w (sizeT c))) := fun c hc => (ih c hc (hw'.ks c hc)).1
  refine ⟨?_, ih1⟩
  refine spec_of t_centoref07_Size (by simp) fun w0 I0 => ?_
  unfold c_centoref07_Size
  rw [sizeT_mk]
  have fin : ∀ (x y : Int) (H : Hp) (r : Int), y = i64w x → H [0] = ⟨1, .cells (tL (.mk k w l))⟩ → r = x + sizeL l → WPC (cx Try.prog w0 I0 101) k2_centoref07_Size (RetC Try.prog [.tmp 2] (iv (i64w r))) ⟨lk [(1, .pob [0] 1 0), (3, iv y)], H⟩ := fun x y H r hy hH hr => by
    subst hy
    rw [k2_centoref07_Size.eq_1]
    simp
    refine size_l3 (t := .mk k w l) (by simpa using hkl) ih1 hH l.length 0 x (by simp) fun i' q => ?_
    simp [hr]
    exact frz_bare rfl
  have room : 2 ≤ k ∧ k ≤ 7 → i64w (roomZ (k - 2) l.length) = roomZ (k - 2) l.length := fun hk => by
    have : 0 ≤ roomZ (k - 2) l.length ∧ roomZ (k - 2) l.length ≤ 1099511627776 := by
      unfold roomZ bitsZ
      repeat' split
      all_goals omega
    exact i64_same (by omega) (by omega)
  by_cases h1 : k = 1
  · simp [h1]
    exact fin _ _ _ _ rfl (by simp [h1]) rfl
  by_cases h8 : k = 8
  · simp [h8]
    exact fin _ _ _ _ (i64_same (by omega) (by omega)).symm (by simp [h8]) rfl
  by_cases h27 : 2 ≤ k ∧ k ≤ 7
  · have hr := room h27
    have h6 : k = 2 ∨ k = 3 ∨ k = 4 ∨ k = 5 ∨ k = 6 ∨ k = 7 := by omega
    rw [if_neg h1, if_neg h8, if_pos h27, hr]
    clear fin hr room ih ih1 hw hw' h27
    rcases h6 with rfl | rfl | rfl | rfl | rfl | rfl
    all_goals
      simp
      rw [k1_centoref07_Size.eq_1]
      simp
      refine sc_call (rRoom_spec _ _) rfl ?_
      simp
      exact frz_bare rfl
  rw [if_neg h1, if_neg h8, if_neg h27]
  by_cases h9 : k = 9
  · subst h9
    simp
    rw [k1_centoref07_Size.eq_1]
    simp
    refine sc_call (rFrame_spec (.mk 9 w l) (by simpa using hkl)) rfl ?_
    simp [i64_add_r, i64_mul_r]
    refine size_l2 (t := .mk 9 w l) (by simpa using hkl) (fun c hc => (wfT_iff.1 (hw'.ks c hc)).kl) (fun c hc => (ih c hc (hw'.ks c hc)).2) (by simp) l.length 0 _ (by simp) fun i' q => ?_
    simp
    exact frz_bare rfl
  · have h2 : ¬ k = 2 := by omega
    have h3 : ¬ k = 3 := by omega
    have h4 : ¬ k = 4 := by omega
    have h5 : ¬ k = 5 := by omega
    have h6 : ¬ k = 6 := by omega
    have h7 : ¬ k = 7 := by omega
    simp [h1, h2, h3, h4, h5, h6, h7, h8, h9]
    rw [k1_centoref07_Size.eq_1]
    simp [h9]
    exact fin 0 _ _ _ (by decide) (by simp) (by simp)
theorem rSize_spec (t : T) (h : wfT t) : G.Spec Try.prog 17 [tX t] (iv (i64w (sizeT t))) := (size_all t h).1

/-! ### right -/
theorem fits_word {c : T} (h : wfT c) (hl : c.words.length = 1) : ∃ x, c.words = [x] ∧ u64R x := by
  have := (wfT_iff.1 h).w
  match hc : c.words, hl with
  | [x], _ => exact ⟨x, rfl, this x (by simp [hc])⟩
theorem right_kind10 {d : Nat} {c : T} (h : rightT d c = true) (h10 : c.kind = 10) : c.words.length = 1 := by
  obtain ⟨k, w, l⟩ := c
  simp at h10
  subst h10
  rw [rightT_mk] at h
  simp at h
  exact h.1
section
variable {n0 : Nat} {w0 : World} {I0 : Nat → Prop} {Q : Exit → Sta → Prop}
theorem right_l1 {t : T} (hl : t.kids.length * 56 ≤ 140737488355328) (hk0 : 0 ≤ t.kind) (hk1 : t.kind ≤ 10) {d : Nat} (hd : 1 ≤ d) (hd1 : d ≤ 1000) (hw : ∀ c, c ∈ t.kids → wfT c) (ih : ∀ c, c ∈ t.kids → ∀ d : Nat, d ≤ 1000 → G.Spec Try.prog 15 [tX c, iv d] (bv (rightT d c))) : ∀ (m i : Nat) (H : Hp), i + m = t.kids.length → H [0] = ⟨1, .cells (tL t)⟩ →
    (rightL (d - 1) t.kind (t.kids.drop i) = true → ∀ i' q H', Q (.exit 0) ⟨lk [(1, iv d), (2, .pob [0] 1 0), (5, iv i'), (82, bv q)], H'⟩) → (rightL (d - 1) t.kind (t.kids.drop i) = false → ∀ H', Q .ret ⟨lk [(4, bv false)], H'⟩) →
    LoopC (cx Try.prog w0 I0 n0) l1_centoref07_Right Q ⟨lk [(1, iv d), (2, .pob [0] 1 0), (5, iv i)], H⟩ := by
  intro m
  induction m with
  | zero =>
    intro i H hi hA h1 h2
    have : i = t.kids.length := by omega
    subst this
    refine loopC_once mixed l1_centoref07_Right.eq_1 ?_
    simp [hA]
    exact h1 (by simp) _ _ _
  | succ m ihm =>
    intro i H hi hA h1 h2
    have hlt : i < t.kids.length := by omega
    have e : t.kids.drop i = t.kids[i] :: t.kids.drop (i + 1) := List.drop_eq_getElem_cons hlt
    have ei : IntKind.i64.wrap ((i : Int) + 1) = ((i + 1 : Nat) : Int) := i64_same (by omega) (by omega)
    have ed : IntKind.i64.wrap ((d : Int) - 1) = ((d - 1 : Nat) : Int) := by rw [i64_same (by omega) (by omega)]; omega
    rw [e, rightL_cons] at h1 h2
    have hwc := hw _ (List.getElem_mem hlt)
    have ihc := ih _ (List.getElem_mem hlt) (d - 1) (by omega)
    generalize hc : t.kids[i] = c at *
    refine loopC_once mixed l1_centoref07_Right.eq_1 ?_
    simp [hA, hlt, hc, updF_app, ed]
    refine sc_call ihc rfl ?_
    cases hr : rightT (d - 1) c with
    | false =>
      simp
      exact h2 (by simp [hr]) _
    | true =>
      rw [hr] at h1 h2
      have good : kidOk t.kind c = true → ∀ H', H' [0] = ⟨1, .cells (tL t)⟩ → LoopC (cx Try.prog w0 I0 n0) l1_centoref07_Right Q ⟨lk [(1, iv d), (2, .pob [0] 1 0), (5, iv ((i : Int) + 1))], H'⟩ := fun hg H' hA' =>
        ihm (i + 1) H' (by omega) hA' (fun hh => h1 (by simp [hg, hh])) (fun hh => h2 (by simp [hh]))
      have bad : kidOk t.kind c = false → ∀ H', Q .ret ⟨lk [(4, bv false)], H'⟩ := fun hg => h2 (by simp [hg])
      rw [show ((i + 1 : Nat) : Int) = (i : Int) + 1 from rfl] at ei
      by_cases hD : 2 ≤ t.kind ∧ t.kind ≤ 7
      · obtain ⟨d2, d7⟩ := hD
        have d9 : ¬ t.kind = 9 := by omega
        by_cases h10 : c.kind = 10
        · obtain ⟨x, hx, hx64⟩ := fits_word hwc (right_kind10 hr h10)
          have hk : kidOk t.kind c = fitsZ (t.kind - 2) x := by simp [kidOk, isData, d2, d7, d9, h10, hx]
          have e2 : IntKind.i64.wrap (t.kind - 2) = t.kind - 2 := i64_same (by omega) (by omega)
          simp [updF_app, hA, d2, d7, d9, h10, hx, e2]
          refine sc_call_gt rfl (fun _ => rFits_spec hx64) (fun _ => rfl) rfl ?_
          cases hf : fitsZ (t.kind - 2) x with
          | false => simp; exact bad (by rw [hk, hf]) _
          | true => simp [ei]; exact good (by rw [hk, hf]) _ (by simp [updF_app, hA])
        · have hk : kidOk t.kind c = false := by simp [kidOk, isData, d2, d7, d9, h10]
          simp [updF_app, hA, d2, d7, d9, h10]
          refine sc_call_off rfl ?_
          simp
          exact bad hk _
      · have hD' : (decide (2 ≤ t.kind) && decide (t.kind ≤ 7)) = false := by simp; omega
        by_cases h10 : c.kind = 10
        · have hk : kidOk t.kind c = false := by simp [kidOk, isData, hD', h10]
          simp [updF_app, hA, hD', h10]
          refine sc_call_off rfl ?_
          simp
          exact bad hk _
        · by_cases h9 : t.kind = 9
          · by_cases h1' : c.kind = 1
            · have hk : kidOk t.kind c = true := by simp [kidOk, isData, hD', h9, h1']
              rw [h9] at hD'
              simp [updF_app, hA, hD', h10, h9, h1']
              refine sc_call_off rfl ?_
              simp [ei]
              exact good hk _ (by simp [updF_app, hA])
            · have hk : kidOk t.kind c = false := by simp [kidOk, isData, hD', h9, h1', h10]
              rw [h9] at hD'
              simp [updF_app, hA, hD', h10, h9, h1']
              refine sc_call_off rfl ?_
              simp
              exact bad hk _
          · have hk : kidOk t.kind c = true := by simp [kidOk, isData, hD', h9, h10]
            simp [updF_app, hA, hD', h10, h9]
            refine sc_call_off rfl ?_
            simp [ei]
            exact good hk _ (by simp [updF_app, hA])
end
theorem rRight_spec : ∀ (t : T), wfT t → ∀ d : Nat, d ≤ 1000 → G.Spec Try.prog 15 [tX t, iv d] (bv (rightT d t)) := by
  refine T.ind fun k w l ih hw d hd => ?_
  have hw' := wfT_iff.1 hw
  have hwl := hw'.wl
  have hkl := hw'.kl
  simp at hwl hkl
  refine spec_of t_centoref07_Right (by simp) fun w0 I0 => ?_
  unfold c_centoref07_Right
  rw [rightT_mk]
  by_cases h0 : k = 0
  · simp [h0]
    exact frz_bool (by cases w <;> cases l <;> simp <;> (rw [← List.length_eq_zero_iff]; omega))
  by_cases h10 : k = 10
  · simp [h10]
    exact frz_bool (by cases w <;> cases l <;> simp <;> (rw [← List.length_eq_zero_iff]; omega))
  rw [if_neg h0, if_neg h10]
  have bad : tooBig k d w.length l.length = true → ∀ H, Frz H (bv false) (bv (if tooBig k d w.length l.length = true then false else rightL (d - 1) k l)) := fun hb H => frz_bool (by simp [hb])
  by_cases ha : k < 0 ∨ 10 < k ∨ d = 0 ∨ 65536 ≤ w.length
  · have ha' : (decide (k < 0) || decide (10 < k) || decide (d = 0) || decide (65536 ≤ (w.length : Int))) = true := by simp; omega
    simp [h0, h10, ha']
    have := bad (by simp [tooBig]; omega) (lkH [([0], { u := 1, ob := Ob.cells [iv k, uws w, tKs l] })])
    simpa using this
  have ha' : (decide (k < 0) || decide (10 < k) || decide (d = 0) || decide (65536 ≤ (w.length : Int))) = false := by simp; omega
  by_cases h1 : k = 1 ∧ 65536 ≤ l.length
  · have hl : (65536 : Int) ≤ l.length := by omega
    simp [h0, h10, ha', h1.1, hl]
    have := bad (by simp [tooBig]; omega) (lkH [([0], { u := 1, ob := Ob.cells [iv k, uws w, tKs l] })])
    simpa [h1.1] using this
  by_cases h2 : 1048576 ≤ l.length
  · have hl : (1048576 : Int) ≤ l.length := by omega
    have hk1 : ¬ k = 1 := by omega
    simp [h0, h10, ha', hk1, hl]
    have := bad (by simp [tooBig]; omega) (lkH [([0], { u := 1, ob := Ob.cells [iv k, uws w, tKs l] })])
    simpa using this
  have hl2 : ¬ (1048576 : Int) ≤ l.length := by omega
  by_cases h3 : 1 < k ∧ 0 < w.length
  · have hk1 : ¬ k = 1 := by omega
    have hw0 : w ≠ [] := fun e => by simp [e] at h3
    simp [h0, h10, ha', hk1, hl2, h3.1, h3.2, hw0]
    have := bad (by simp [tooBig]; omega) (lkH [([0], { u := 1, ob := Ob.cells [iv k, uws w, tKs l] })])
    simpa using this
  have hb : tooBig k d w.length l.length = false := by
    rw [Bool.eq_false_iff]
    unfold tooBig
    simp only [Bool.or_eq_true, Bool.and_eq_true, decide_eq_true_eq, ne_eq]
    omega
  have hw0 : (1 < k → w = []) := fun h => List.eq_nil_of_length_eq_zero (by omega)
  have fin : LoopC (cx Try.prog w0 I0 132) l1_centoref07_Right (InBlock 0 (ThenC (WPC (cx Try.prog w0 I0 132) (.keep [] (.seq (.reg [co (some 4) (.assign (.const (.bool true))) none] [4]) .ret)) (RetC Try.prog [.tmp 4] (bv (rightL (d - 1) k l)))) (RetC Try.prog [.tmp 4] (bv (rightL (d - 1) k l))))) ⟨lk [(1, iv d), (2, .pob [0] 1 0), (5, iv 0)], lkH [([0], ⟨1, .cells [iv k, uws w, tKs l]⟩)]⟩ := by
    refine right_l1 (t := .mk k w l) (by simpa using hkl) (by simp; omega) (by simp; omega) (by omega) hd (fun c hc => hw'.ks c hc) (fun c hc => ih c hc (hw'.ks c hc)) l.length 0 _ (by simp) (by simp) (fun hr i' q H' => ?_) (fun hr H' => ?_)
    · simp
      exact frz_bool (by simpa using hr.symm)
    · simp
      exact frz_bool (by simpa using hr.symm)
  rw [if_neg (by simp [hb])]
  by_cases k1 : k = 1
  · have hl3 : ¬ (65536 : Int) ≤ l.length := by omega
    have ha1 : (decide (d = 0) || decide (65536 ≤ (w.length : Int))) = false := by simp; omega
    simp [ha1, k1, hl2, hl3]
    simpa [k1] using fin
  · simp [h0, h10, ha', k1, hl2]
    refine ⟨fun a b => absurd ⟨a, by omega⟩ h3, fun _ => ?_⟩
    exact fin
end Go.Proofs.Ytigdcnlhgelkaaa
