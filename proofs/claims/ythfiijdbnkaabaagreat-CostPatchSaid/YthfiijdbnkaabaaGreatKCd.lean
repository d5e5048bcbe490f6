/-
  Texts, merged, without what is not reached.
-/
import Derived.Test.YthfiijdbnkaabaaGreatKCc
/-
  The program's edits: which ones are right. The parts.
-/
namespace Go.Proofs.YthfiijdbnkaabaaGreat
set_option linter.unusedVariables false
set_option linter.unusedSimpArgs false
open Go Go.G Go.Proofs Go.PL
theorem pNone_spec {t : T} (h : wfT t) : G.Spec Tryz.prog 125 [tX t] (bv (noneT t)) := by
  have hw := (wfT_iff.1 h).wl
  have hk := (wfT_iff.1 h).kl
  refine spec_of t_edit_bare_1 (by simp) fun w0 I0 => ?_
  unfold c_edit_bare_1
  simp
  have e : IntKind.i64.wrap ((t.words.length : Int) + t.kids.length) = (t.words.length : Int) + t.kids.length := i64_same (by omega) (by omega)
  simp [e]
  refine frz_bool ?_
  rw [Bool.eq_iff_iff]
  simp [noneT, List.isEmpty_iff, ← List.length_eq_zero_iff]
  omega
def bareB (k : Int) (o n : T) (nw nk : Nat) (l : Int) (no : Nat) : Bool := !(!decide (k = 1) && !(noneT o && noneT n)) && !(!decide (k = 2) && decide (0 < nw + nk)) && (decide (k = 3) || decide (l = 0) && decide (no = 0))
def bareE (e : E) : Bool := bareB e.kind e.old e.new e.words.length e.kids.length e.list e.ops.length
theorem headOk_bare {d : Nat} {k : Int} {o n : T} {nw nk : Nat} {l : Int} {no : Nat} : headOk d k o n nw nk l no = (!(decide (d = 0) || decide (k < 0) || decide (k > 3)) && bareB k o n nw nk l no) := by
  rw [Bool.eq_iff_iff, headOk_iff]
  unfold bareB
  simp only [Bool.and_eq_true, Bool.not_eq_true', Bool.or_eq_false_iff, Bool.or_eq_true, Bool.and_eq_false_iff, decide_eq_false_iff_not, Bool.not_eq_false', decide_eq_true_eq]
  constructor
  · rintro ⟨h1, h2, h3, h4, h5, h6⟩
    refine ⟨⟨⟨h1, by omega⟩, by omega⟩, ⟨?_, ?_⟩, ?_⟩
    · by_cases hk : k = 1
      · exact .inl hk
      · exact .inr (h4 hk)
    · by_cases hk : k = 2
      · exact .inl hk
      · exact .inr (by have := h5 hk; omega)
    · by_cases hk : k = 3
      · exact .inl hk
      · exact .inr (h6 hk)
  · rintro ⟨⟨⟨h1, h2⟩, h3⟩, ⟨h4, h5⟩, h6⟩
    refine ⟨h1, by omega, by omega, fun hk => ?_, fun hk => ?_, fun hk => ?_⟩
    · rcases h4 with h4 | h4
      · exact absurd h4 hk
      · exact h4
    · rcases h5 with h5 | h5
      · exact absurd h5 hk
      · omega
    · rcases h6 with h6 | h6
      · exact absurd h6 hk
      · exact h6
set_option maxRecDepth 8000 in
theorem pBare_spec {e : E} (h : WfE e) : G.Spec Tryz.prog 87 [eX e] (bv (bareE e)) := by
  have hwl := h.wl
  have hkl := h.kl
  have hol := h.ol
  have e1 : IntKind.i64.wrap ((e.words.length : Int) + e.kids.length) = (e.words.length : Int) + e.kids.length := i64_same (by omega) (by omega)
  obtain ⟨R, hR⟩ : ∃ R, R = bareE e := ⟨_, rfl⟩
  rw [← hR]
  have c2 : (decide (0 < (e.words.length : Int) + e.kids.length)) = decide (0 < e.words.length + e.kids.length) := by rw [Bool.eq_iff_iff]; simp; omega
  refine spec_of t_edit_bare (by simp) fun w0 I0 => ?_
  unfold c_edit_bare
  unfold bareE at hR
  have cl : decide (e.ops.length = 0) = decide (e.ops = []) := by rw [Bool.eq_iff_iff]; simp
  by_cases k1 : e.kind = 1
  · have k2 : ¬ e.kind = 2 := by omega
    have k3 : ¬ e.kind = 3 := by omega
    have hR' : R = (!decide (0 < e.words.length + e.kids.length) && (decide (e.list = 0) && decide (e.ops = []))) := by
      rw [hR, ← cl]; simp [bareB, k1]
    simp [k1]
    rw [sc_guard]; simp
    rw [sc_guard]; simp
    simp [e1, k2, k3]
    refine ⟨fun hc => ?_, fun hc => ?_⟩
    · have a1 : 0 < e.words.length + e.kids.length := by omega
      exact frz_bool (by rw [hR']; simp [a1])
    · have a1 : ¬ 0 < e.words.length + e.kids.length := by omega
      exact frz_bool (by rw [hR']; simp [a1])
  · simp [k1]
    rw [sc_guard]; simp
    refine sc_callv rfl (pNone_spec h.o) rfl ?_
    cases n1 : noneT e.old with
    | false =>
      simp
      rw [sc_guard]; simp
      exact frz_bool (by rw [hR]; simp [bareB, k1, n1])
    | true =>
      simp
      rw [sc_guard]; simp
      refine sc_callv rfl (pNone_spec h.n) rfl ?_
      cases n2 : noneT e.new with
      | false =>
        simp
        exact frz_bool (by rw [hR]; simp [bareB, k1, n1, n2])
      | true =>
        simp
        have hR' : R = (!(!decide (e.kind = 2) && decide (0 < e.words.length + e.kids.length)) && (decide (e.kind = 3) || decide (e.list = 0) && decide (e.ops = []))) := by
          rw [hR, ← cl]; simp [bareB, k1, n1, n2]
        by_cases k2 : e.kind = 2
        · have k3 : ¬ e.kind = 3 := by omega
          simp [e1, k2]
          exact frz_bool (by rw [hR']; simp [k2])
        · by_cases k3 : e.kind = 3
          · simp [e1, k3]
            refine ⟨fun hc => ?_, fun hc => ?_⟩
            · have a1 : 0 < e.words.length + e.kids.length := by omega
              exact frz_bool (by rw [hR']; simp [a1, k2])
            · have a1 : ¬ 0 < e.words.length + e.kids.length := by omega
              exact frz_bool (by rw [hR']; simp [a1, k3])
          · simp [e1, k2, k3]
            refine ⟨fun hc => ?_, fun hc => ?_⟩
            · have a1 : 0 < e.words.length + e.kids.length := by omega
              exact frz_bool (by rw [hR']; simp [a1, k2])
            · have a1 : ¬ 0 < e.words.length + e.kids.length := by omega
              exact frz_bool (by rw [hR']; simp [a1, k3, k2])
theorem pValue_spec {t : T} (h : wfT t) : G.Spec Tryz.prog 88 [tX t] (bv (!decide (t.kind = 10) && rightT 64 t)) := by
  refine spec_of t_edit_value (by simp) fun w0 I0 => ?_
  unfold c_edit_value
  by_cases k1 : t.kind = 10
  · simp [k1]
    refine sc_call_off rfl ?_
    simp
    exact frz_bare rfl
  · simp [k1]
    refine sc_call_gt rfl (fun _ => ptRight_spec h) (fun _ => rfl) rfl ?_
    simp
    exact frz_bare rfl
section
variable {n0 : Nat} {w0 : World} {I0 : Nat → Prop} {Q : Exit → Sta → Prop}
theorem pwords_k1 {Q' : Exit → Sta → Prop} {x : WE} (hw : WE.wf x) {a b c d : A} {u : Nat} {H : Hp} (hH : H [0] = ⟨u, .cells [iv x.at_, u8 x.mask, uv x.old, uv x.new]⟩)
    (h1 : (withinZ x.old x.mask && withinZ x.new x.mask) = true → Q' .normal ⟨lk [(0, a), (5, b), (6, c), (7, d), (53, bv false)], H⟩) (h2 : (withinZ x.old x.mask && withinZ x.new x.mask) = false → Q' .ret ⟨lk [(2, bv false)], H⟩) :
    WPC (cx Tryz.prog w0 I0 n0) k1_edit_words Q' ⟨lk [(0, a), (4, .pob [0] u 0), (5, b), (6, c), (7, d)], H⟩ := by
  obtain ⟨w1, w2, w3, w4⟩ := hw
  have z := mix_zero x.old x.mask
  have z2 := mix_zero x.new x.mask
  have u0 : u64R 0 := ⟨by omega, by omega⟩
  rw [k1_edit_words.eq_1]
  simp [hH]
  refine sc_call (pMix_spec w3 u0 w2.1 w2.2) rfl ?_
  by_cases m1 : mixZ x.old 0 x.mask = 0
  · rw [m1] at z ⊢
    simp [hH]
    refine sc_call_gf rfl (fun _ => pMix_spec w4 u0 w2.1 w2.2) (fun _ => rfl) rfl ?_
    by_cases m2 : mixZ x.new 0 x.mask = 0
    · rw [m2] at z2 ⊢
      simp
      exact h1 (by rw [← z, ← z2]; simp)
    · simp [m2]
      exact h2 (by rw [← z, ← z2]; simp [m2])
  · simp [m1]
    refine sc_call_off rfl ?_
    simp
    exact h2 (by rw [← z]; simp [m1])
theorem pwords_l1 {ws : List WE} (hl : ws.length * 32 ≤ 140737488355328) (hw : ∀ x, x ∈ ws → WE.wf x) : ∀ (m i : Nat) (last : Int) (H : Hp), i + m = ws.length → -1 ≤ last → (i = 0 → last = -1) → (∀ h : 0 < i ∧ i ≤ ws.length, ws[i - 1].at_ = last) →
    (wordsOk last (ws.drop i) = true → ∀ q H', Q (.exit 0) ⟨lk [(0, wKs ws), (5, wKs ws), (6, iv ws.length), (7, iv ws.length), (8, bv q)], H'⟩) → (wordsOk last (ws.drop i) = false → ∀ H', Q .ret ⟨lk [(2, bv false)], H'⟩) →
    LoopC (cx Tryz.prog w0 I0 n0) l1_edit_words Q ⟨lk [(0, wKs ws), (5, wKs ws), (6, iv ws.length), (7, iv i)], H⟩ := by
  intro m
  induction m with
  | zero =>
    intro i last H hi hm h0 hp h1 h2
    have : i = ws.length := by omega
    subst this
    refine loopC_once mixed l1_edit_words.eq_1 ?_
    simp
    exact h1 (by simp [wordsOk]) _ _
  | succ m ihm =>
    intro i last H hi hm h0 hp h1 h2
    have hlt : i < ws.length := by omega
    have ed : ws.drop i = ws[i] :: ws.drop (i + 1) := List.drop_eq_getElem_cons hlt
    have ei : IntKind.i64.wrap ((i : Int) + 1) = ((i + 1 : Nat) : Int) := i64_same (by omega) (by omega)
    obtain ⟨w1, w2, w3, w4⟩ := hw _ (List.getElem_mem hlt)
    have next := fun H' (hr : wordOk last ws[i] = true) => ihm (i + 1) ws[i].at_ H' (by omega) (by
      simp [wordOk] at hr
      omega) (fun h => by omega) (fun h => rfl) (fun hh => h1 (by rw [ed, wordsOk, hr, hh]; rfl)) (fun hh => h2 (by rw [ed, wordsOk, hr, hh]; rfl))
    have bad : wordOk last ws[i] = false → ∀ H', Q .ret ⟨lk [(2, bv false)], H'⟩ := fun hr => h2 (by rw [ed, wordsOk, hr]; rfl)
    clear h1 h2 ed ihm
    generalize hx : ws[i] = x at *
    have hok : wordOk last x = !(decide (x.at_ ≤ last) || decide (65534 < x.at_) || decide (x.mask = 0) || !withinZ x.old x.mask || !withinZ x.new x.mask) := rfl
    refine loopC_once mixed l1_edit_words.eq_1 ?_
    by_cases hA : x.at_ < 0 ∨ 65535 ≤ x.at_ ∨ x.at_ ≤ last ∨ x.mask = 0
    · have hb : wordOk last x = false := by
        rw [hok]
        rcases hA with h | h | h | h
        · have : x.at_ ≤ last := by omega
          simp [this]
        · have : 65534 < x.at_ := by omega
          simp [this]
        · simp [h]
        · simp [h]
      by_cases i0 : i = 0
      · have hl1 := h0 i0
        subst i0
        have : (decide (x.at_ < 0) || decide (65535 ≤ x.at_) || decide (x.mask = 0)) = true := by simp; omega
        simp [hx, hlt, updF_app, this]
        exact bad hb _
      · have i1 : 0 < i := by omega
        have hpi := hp ⟨i1, by omega⟩
        have em : IntKind.i64.wrap ((i : Int) - 1) = ((i - 1 : Nat) : Int) := by rw [i64_same (by omega) (by omega)]; omega
        have : (decide (x.at_ < 0) || decide (65535 ≤ x.at_) || decide (x.at_ ≤ last) || decide (x.mask = 0)) = true := by simp; omega
        have hlt1 : i - 1 < ws.length := by omega
        simp [hx, hlt, i1, em, hlt1, hpi, updF_app, this]
        exact bad hb _
    · have c1 : ¬ x.at_ < 0 := by omega
      have c2 : ¬ 65535 ≤ x.at_ := by omega
      have c3 : ¬ x.at_ ≤ last := by omega
      have c4 : ¬ x.mask = 0 := by omega
      have c2' : ¬ 65534 < x.at_ := by omega
      have hok' : wordOk last x = (withinZ x.old x.mask && withinZ x.new x.mask) := by rw [hok]; simp [c2', c3, c4]
      have wfx : WE.wf x := ⟨w1, w2, w3, w4⟩
      by_cases i0 : i = 0
      · subst i0
        simp [hx, hlt, updF_app, c1, c2, c4]
        refine stop_go (pwords_k1 wfx (by simp [updF_app]) (fun hr => ?_) (fun hr => ?_))
        · simp at ei
          simp [ei]
          exact next _ (by rw [hok', hr])
        · simp
          exact bad (by rw [hok', hr]) _
      · have i1 : 0 < i := by omega
        have hpi := hp ⟨i1, by omega⟩
        have em : IntKind.i64.wrap ((i : Int) - 1) = ((i - 1 : Nat) : Int) := by rw [i64_same (by omega) (by omega)]; omega
        have hlt1 : i - 1 < ws.length := by omega
        simp [hx, hlt, i1, em, hlt1, hpi, updF_app, c1, c2, c3, c4]
        refine stop_go (pwords_k1 wfx (by simp [updF_app]) (fun hr => ?_) (fun hr => ?_))
        · simp [ei]
          exact next _ (by rw [hok', hr])
        · simp
          exact bad (by rw [hok', hr]) _
end
theorem pWords_spec {ws : List WE} (hl : ws.length * 32 ≤ 140737488355328) (hw : ∀ x, x ∈ ws → WE.wf x) : G.Spec Tryz.prog 89 [wKs ws] (bv (wordsOk (-1) ws)) := by
  refine spec_of t_edit_words (by simp) fun w0 I0 => ?_
  unfold c_edit_words
  simp
  refine pwords_l1 hl hw ws.length 0 (-1) _ (by simp) (by omega) (fun _ => rfl) (fun h => by omega) (fun hr q H' => ?_) (fun hr H' => ?_)
  · simp
    exact frz_bool (by simpa using hr.symm)
  · simp
    exact frz_bool (by simpa using hr.symm)
end Go.Proofs.YthfiijdbnkaabaaGreat

/-
  The program's edits: which ones are right.
-/
namespace Go.Proofs.YthfiijdbnkaabaaGreat
set_option linter.unusedVariables false
set_option linter.unusedSimpArgs false
open Go Go.G Go.Proofs Go.PL
abbrev PRightS (e : E) : Prop := ∀ d : Nat, d ≤ 1000 → G.Spec Tryz.prog 57 [eX e, iv d] (bv (rightE d e))
section
variable {n0 : Nat} {w0 : World} {I0 : Nat → Prop} {Q : Exit → Sta → Prop}
theorem pkids_l1 {ks : List KE} {d : Nat} (hd : d ≤ 1000) (hl : ks.length * 208 ≤ 140737488355328) (ih : ∀ x, x ∈ ks → PRightS x.e) : ∀ (m i : Nat) (last : Int) (H : Hp), i + m = ks.length → -1 ≤ last → (i = 0 → last = -1) → (∀ h : 0 < i ∧ i ≤ ks.length, ks[i - 1].at_ = last) →
    (rightKs d last (ks.drop i) = true → ∀ q H', Q (.exit 0) ⟨lk [(0, kKs ks), (1, iv d), (7, kKs ks), (8, iv ks.length), (9, iv ks.length), (10, bv q)], H'⟩) → (rightKs d last (ks.drop i) = false → ∀ H', Q .ret ⟨lk [(4, bv false)], H'⟩) →
    LoopC (cx Tryz.prog w0 I0 n0) l1_edit_kids Q ⟨lk [(0, kKs ks), (1, iv d), (7, kKs ks), (8, iv ks.length), (9, iv i)], H⟩ := by
  intro m
  induction m with
  | zero =>
    intro i last H hi hm h0 hp h1 h2
    have : i = ks.length := by omega
    subst this
    refine loopC_once mixed l1_edit_kids.eq_1 ?_
    simp
    exact h1 (by simp) _ _
  | succ m ihm =>
    intro i last H hi hm h0 hp h1 h2
    have hlt : i < ks.length := by omega
    have ed : ks.drop i = ks[i] :: ks.drop (i + 1) := List.drop_eq_getElem_cons hlt
    have ei : IntKind.i64.wrap ((i : Int) + 1) = ((i + 1 : Nat) : Int) := i64_same (by omega) (by omega)
    have ihx := ih _ (List.getElem_mem hlt) d hd
    have next := fun H' (ha : last < ks[i].at_ ∧ ks[i].at_ ≤ 65534) (hk : ¬ ks[i].e.kind = 0) (hr : rightE d ks[i].e = true) => ihm (i + 1) ks[i].at_ H' (by omega) (by omega) (fun h => by omega) (fun h => rfl)
      (fun hh => h1 (by rw [ed, rightKs_cons, hr, hh]; simp [hk]; omega)) (fun hh => h2 (by rw [ed, rightKs_cons, hr, hh]; simp))
    have bad : (ks[i].at_ ≤ last ∨ 65534 < ks[i].at_ ∨ ks[i].e.kind = 0 ∨ rightE d ks[i].e = false) → ∀ H', Q .ret ⟨lk [(4, bv false)], H'⟩ := fun hr => h2 (by
      rw [ed, rightKs_cons]
      rcases hr with h | h | h | h <;> simp [h])
    clear h1 h2 ed ihm
    generalize hx : ks[i] = x at *
    refine loopC_once mixed l1_edit_kids.eq_1 ?_
    by_cases hA : x.at_ < 0 ∨ 65535 ≤ x.at_ ∨ x.at_ ≤ last ∨ x.e.kind = 0
    · have hb := bad (by omega)
      by_cases i0 : i = 0
      · have hl1 := h0 i0
        subst i0
        have : (decide (x.at_ < 0) || decide (65535 ≤ x.at_) || decide (x.e.kind = 0)) = true := by simp; omega
        simp [hx, hlt, updF_app, this]
        refine sc_call_off rfl ?_
        simp [this]
        exact hb _
      · have i1 : 0 < i := by omega
        have hpi := hp ⟨i1, by omega⟩
        have em : IntKind.i64.wrap ((i : Int) - 1) = ((i - 1 : Nat) : Int) := by rw [i64_same (by omega) (by omega)]; omega
        have : (decide (x.at_ < 0) || decide (65535 ≤ x.at_) || decide (x.at_ ≤ last) || decide (x.e.kind = 0)) = true := by simp; omega
        have hlt1 : i - 1 < ks.length := by omega
        simp [hx, hlt, i1, em, hlt1, hpi, updF_app, this]
        refine sc_call_off rfl ?_
        simp [this]
        exact hb _
    · have c1 : ¬ x.at_ < 0 := by omega
      have c2 : ¬ 65535 ≤ x.at_ := by omega
      have c3 : ¬ x.at_ ≤ last := by omega
      have c4 : ¬ x.e.kind = 0 := by omega
      by_cases i0 : i = 0
      · subst i0
        simp [hx, hlt, updF_app, c1, c2, c4]
        refine sc_call_gf rfl (fun _ => ihx) (fun _ => rfl) rfl ?_
        cases hr : rightE d x.e with
        | false => simp; exact bad (.inr (.inr (.inr hr))) _
        | true =>
          simp at ei
          simp [ei]
          exact next _ (by omega) c4 hr
      · have i1 : 0 < i := by omega
        have hpi := hp ⟨i1, by omega⟩
        have em : IntKind.i64.wrap ((i : Int) - 1) = ((i - 1 : Nat) : Int) := by rw [i64_same (by omega) (by omega)]; omega
        have hlt1 : i - 1 < ks.length := by omega
        simp [hx, hlt, i1, em, hlt1, hpi, updF_app, c1, c2, c3, c4]
        refine sc_call_gf rfl (fun _ => ihx) (fun _ => rfl) rfl ?_
        cases hr : rightE d x.e with
        | false => simp; exact bad (.inr (.inr (.inr hr))) _
        | true => simp [ei]; exact next _ (by omega) c4 hr
end
theorem pKids_spec {ks : List KE} {d : Nat} (hd : d ≤ 1000) (hl : ks.length * 208 ≤ 140737488355328) (ih : ∀ x, x ∈ ks → PRightS x.e) : G.Spec Tryz.prog 90 [kKs ks, iv d] (bv (rightKs d (-1) ks)) := by
  refine spec_of t_edit_kids (by simp) fun w0 I0 => ?_
  unfold c_edit_kids
  simp
  refine pkids_l1 hd hl ih ks.length 0 (-1) _ (by simp) (by omega) (fun _ => rfl) (fun h => by omega) (fun hr q H' => ?_) (fun hr H' => ?_)
  · simp
    exact frz_bool (by simpa using hr.symm)
  · simp
    exact frz_bool (by simpa using hr.symm)
theorem wf_one {list : Int} (hk : i64R list) {t : T} (h : wfT t) : wfT (.mk list [] [t]) := wfT_iff.2 ⟨hk, by simp, by simp, by simp, fun x hx => by simp at hx; rw [hx]; exact h⟩
theorem peKid_spec {list : Int} (hk : i64R list) {t : T} (h : wfT t) : G.Spec Tryz.prog 149 [iv list, tX t] (bv (rightT 64 (.mk list [] [t]))) := by
  refine spec_of t_edit_kid (by simp) fun w0 I0 => ?_
  unfold c_edit_kid
  simp
  refine sc_calle rfl ((ptRight_spec (wf_one hk h)).soft (by simp [A.softL, A.soft, soft_uv, soft_tKs])) rfl ?_
  simp
  exact frz_bare rfl
def withinB (list : Int) (e : E) : Bool := !(isData list || decide (e.kind = 0)) && ((decide (list = 8) || decide (e.kind = 2)) || (decide (e.kind = 1) && decide (e.old.kind = 1) && decide (e.new.kind = 1)))
set_option maxRecDepth 8000 in
theorem pWithin_spec (list : Int) (e : E) : G.Spec Tryz.prog 150 [iv list, eX e] (bv (withinB list e)) := by
  obtain ⟨R, hR⟩ : ∃ R, R = withinB list e := ⟨_, rfl⟩
  rw [← hR]
  unfold withinB at hR
  refine spec_of t_edit_within (by simp) fun w0 I0 => ?_
  unfold c_edit_within
  simp
  refine sc_call (data_spec list) rfl ?_
  cases hd : isData list with
  | true => simp; exact frz_bool (by rw [hR]; simp [hd])
  | false =>
    by_cases k0 : e.kind = 0
    · simp [k0]; exact frz_bool (by rw [hR]; simp [k0])
    · by_cases l8 : list = 8
      · simp [k0, l8]; exact frz_bool (by rw [hR]; simp [hd, k0, l8, isData])
      · by_cases k2 : e.kind = 2
        · simp [l8, k2]; exact frz_bool (by rw [hR]; simp [hd, k2])
        · by_cases k1 : e.kind = 1
          · simp [l8, k1]; exact frz_bool (by rw [hR]; simp [hd, k1, l8])
          · simp [k0, l8, k2, k1]; exact frz_bool (by rw [hR]; simp [hd, k0, k1, k2, l8])
abbrev boxI (list : Int) : A := .pim [iv list]
theorem opKid_spec {list : Int} (hk : i64R list) {t : T} (h : wfT t) : G.Spec Tryz.prog 148 [tX t, boxI list] (bv (!rightT 64 (.mk list [] [t]))) := by
  refine spec_of t_edit_op_1 (by simp) fun w0 I0 => ?_
  unfold c_edit_op_1
  simp
  refine sc_call (peKid_spec hk h) rfl ?_
  simp
  exact frz_bare rfl
def idxZ (p : T → Bool) : Nat → List T → Int
  | _, [] => -1
  | i, t :: l => if p t = true then i else idxZ p (i + 1) l
theorem idxZ_any (p : T → Bool) : ∀ (l : List T) (i : Nat), decide (0 ≤ idxZ p i l) = l.any p
  | [], i => rfl
  | t :: l, i => by
    rw [idxZ, List.any_cons]
    cases h : p t with
    | true => simp
    | false => simp only [Bool.false_eq_true, if_false, Bool.false_or]; exact idxZ_any p l (i + 1)
abbrev clo (list : Int) : A := .fnc 148 [] [boxI list]
section
variable {n0 : Nat} {w0 : World} {I0 : Nat → Prop} {Q : Exit → Sta → Prop}
theorem index_l1 {list : Int} (hk : i64R list) {l : List T} (hl : l.length * 56 ≤ 140737488355328) (hw : ∀ t, t ∈ l → wfT t) {R : Int} {H : Hp} : ∀ (m i : Nat), i + m = l.length → R = idxZ (fun t => !rightT 64 (.mk list [] [t])) i (l.drop i) →
    (R = -1 → ∀ q, Q (.exit 0) ⟨lk [(0, tKs l), (1, clo list), (7, iv l.length), (8, iv l.length), (9, bv q)], H⟩) → (Q .ret ⟨lk [(4, iv R)], H⟩) →
    LoopC (cx Tryz.prog w0 I0 n0) l1_slices_IndexFunc_api_Tree_api_Tree Q ⟨lk [(0, tKs l), (1, clo list), (7, iv l.length), (8, iv i)], H⟩ := by
  intro m
  induction m with
  | zero =>
    intro i hi hR h1 h2
    have : i = l.length := by omega
    subst this
    refine loopC_once mixed l1_slices_IndexFunc_api_Tree_api_Tree.eq_1 ?_
    simp
    exact h1 (by rw [hR]; simp [idxZ]) _
  | succ m ih =>
    intro i hi hR h1 h2
    have hlt : i < l.length := by omega
    have ed : l.drop i = l[i] :: l.drop (i + 1) := List.drop_eq_getElem_cons hlt
    have ei : IntKind.i64.wrap ((i : Int) + 1) = ((i + 1 : Nat) : Int) := i64_same (by omega) (by omega)
    rw [ed, idxZ] at hR
    refine loopC_once mixed l1_slices_IndexFunc_api_Tree_api_Tree.eq_1 ?_
    simp [hlt]
    refine sc_callv rfl (opKid_spec hk (hw _ (List.getElem_mem hlt))) rfl ?_
    cases hr : rightT 64 (.mk list [] [l[i]]) with
    | false =>
      rw [if_pos (by rw [hr]; rfl)] at hR
      simp
      rw [← hR]
      exact h2
    | true =>
      rw [if_neg (by rw [hr]; simp)] at hR
      simp [ei]
      exact ih (i + 1) (by omega) hR h1 h2
end
theorem pIndex_spec {list : Int} (hk : i64R list) {l : List T} (hl : l.length * 56 ≤ 140737488355328) (hw : ∀ t, t ∈ l → wfT t) : G.Spec Tryz.prog 161 [tKs l, clo list] (iv (idxZ (fun t => !rightT 64 (.mk list [] [t])) 0 l)) := by
  refine spec_of t_slices_IndexFunc_api_Tree_api_Tree (by simp) fun w0 I0 => ?_
  unfold c_slices_IndexFunc_api_Tree_api_Tree
  simp
  refine index_l1 hk hl hw l.length 0 (by simp) rfl (fun hR q => ?_) ?_
  · simp
    exact frz_int (by simpa using hR.symm)
  · simp
    exact frz_int (by simp)
theorem pContains_spec {list : Int} (hk : i64R list) {l : List T} (hl : l.length * 56 ≤ 140737488355328) (hw : ∀ t, t ∈ l → wfT t) : G.Spec Tryz.prog 147 [tKs l, clo list] (bv (l.any fun t => !rightT 64 (.mk list [] [t]))) := by
  refine spec_of t_slices_ContainsFunc_api_Tree_api_Tree (by simp) fun w0 I0 => ?_
  unfold c_slices_ContainsFunc_api_Tree_api_Tree
  simp
  refine sc_call (pIndex_spec hk hl hw) rfl ?_
  simp
  exact frz_bool (idxZ_any _ l 0)
theorem same_right {e : E} : (rightE 1 e && decide (e.kind = 0)) = sameE e := by
  rw [Bool.eq_iff_iff, Bool.and_eq_true, decide_eq_true_eq]
  constructor
  · rintro ⟨h, h0⟩
    obtain ⟨k, o, n, ws, ks, l, os⟩ := e
    have R := rightE_iff.1 h
    have h0 : k = 0 := h0
    subst h0
    obtain ⟨rfl, rfl⟩ := R.one (by omega)
    obtain ⟨rfl, rfl⟩ := R.two (by omega)
    obtain ⟨rfl, rfl⟩ := R.three (by omega)
    rfl
  · intro h
    rw [sameE_eq h]
    refine ⟨rightE_iff.2 ⟨by omega, by omega, by omega, fun _ => ⟨rfl, rfl⟩, fun _ => ⟨rfl, rfl⟩, fun _ => ⟨rfl, rfl⟩, fun h => by omega, rfl, by simp, fun h => by omega, by simp, by simp [lengths]⟩, rfl⟩
end Go.Proofs.YthfiijdbnkaabaaGreat

/-
  The program's edits: which ones are right. The whole.
-/
namespace Go.Proofs.YthfiijdbnkaabaaGreat
set_option linter.unusedVariables false
set_option linter.unusedSimpArgs false
open Go Go.G Go.Proofs Go.PL
abbrev oL (o : OP) : List A := iv o.kind :: iv o.n :: tKs o.l :: eL o.e
section
variable {n0 : Nat} {w0 : World} {I0 : Nat → Prop} {Q : Exit → Sta → Prop}
theorem pop_k1 {list : Int} (hk : i64R list) {o : OP} (h : WfO o) (ih : PRightS o.e) {H : Hp} (hH : H [1] = ⟨1, .cells (oL o)⟩) {R : Bool} (hR : R = (decide (o.n = 0) && !o.l.isEmpty && sameE o.e && (o.l.all fun t => rightT 64 (.mk list [] [t])))) :
    WPC (cx Tryz.prog w0 I0 n0) k1_edit_op (RetC Tryz.prog [.tmp 6] (bv R)) ⟨lk [(3, boxI list), (4, .pob [1] 1 0)], H⟩ := by
  have hll := h.ll
  rw [k1_edit_op.eq_1]
  have ih1 := ih 1 (by omega)
  rw [← same_right] at hR
  by_cases c1 : o.n = 0
  rotate_left
  · simp [hH, c1]
    refine sc_call_off rfl ?_
    simp [hH]
    refine sc_call_off rfl ?_
    simp
    exact frz_bool (by rw [hR]; simp [c1])
  by_cases c2 : o.l = []
  · simp [hH, c1, c2]
    refine sc_call_off rfl ?_
    simp [hH, c2]
    refine sc_call_off rfl ?_
    simp
    exact frz_bool (by rw [hR]; simp [c2])
  have c2' : 0 < o.l.length := List.length_pos_iff.2 c2
  have c2e : o.l.isEmpty = false := by cases hh : o.l <;> simp_all
  simp [hH, c1, c2']
  refine sc_call_gt rfl (fun _ => ih1) (fun _ => rfl) rfl ?_
  cases hr : rightE 1 o.e with
  | false =>
    simp [hH, c1, c2']
    refine sc_call_off rfl ?_
    simp
    exact frz_bool (by rw [hR, hr]; simp)
  | true =>
    by_cases c4 : o.e.kind = 0
    · simp [hH, c4]
      refine sc_call_gt rfl (fun _ => pContains_spec hk hll h.l) (fun _ => rfl) rfl ?_
      simp
      refine frz_bool ?_
      rw [hR, hr, c1, c4, c2e]
      simp [List.all_eq_not_any_not]
    · simp [hH, c4]
      refine sc_call_off rfl ?_
      simp
      exact frz_bool (by rw [hR]; simp [c4])
end
set_option maxRecDepth 8000 in
theorem pOp_spec {list : Int} (hk : 2 ≤ list ∧ list ≤ 9) {o : OP} (h : WfO o) (ih : PRightS o.e) {d : Nat} (hd : d ≤ 1000) : G.Spec Tryz.prog 127 [iv list, oX o, iv d] (bv (rightO d list o)) := by
  have he := wfE_iff.1 h.e
  have hll := h.ll
  have hk64 : i64R list := ⟨by omega, by omega⟩
  obtain ⟨R, hR⟩ : ∃ R, R = rightO d list o := ⟨_, rfl⟩
  rw [← hR]
  rw [rightO_eq] at hR
  unfold opFlat at hR
  refine spec_of t_edit_op (by simp) fun w0 I0 => ?_
  unfold c_edit_op
  have stopper : (o.kind = 1 ∨ o.kind = 2) → StopK (cx Tryz.prog w0 I0 90) (WPC (cx Tryz.prog w0 I0 90) k1_edit_op (RetC Tryz.prog [.tmp 6] (bv R))) ⟨lk [(3, .pob [0] 1 0), (4, .pob [1] 1 0)], lkH [([0], ⟨1, .cells [iv list]⟩), ([1], ⟨1, .cells (oL o)⟩)]⟩ := fun hkk => by
    refine stop_le (le_freezeL (c := cx Tryz.prog w0 I0 90) [[0]] 3 (boxI list) (fun _ _ h => h) ?_) (stop_le (le_list [(3, boxI list), (4, .pob [1] 1 0)] (by simp [upd])) (stop_go ?_))
    · exact frz_pob (cs := [iv list]) (by simp [onlyH]) ⟨frz_bare rfl, trivial⟩ rfl
    · simp [lessH]
      refine pop_k1 hk64 h ih ?_ ?_
      · first | rfl | simp
      rw [hR, if_neg (by omega)]
      by_cases c1 : o.n = 0
      · rw [if_neg (by omega), if_pos (by omega), if_neg (by omega)]
        simp [c1]
        cases o.l.isEmpty <;> simp [Bool.and_comm]
      · rw [if_pos (by omega)]
        simp [c1]
  by_cases k0 : o.kind = 0
  · rw [if_pos k0, if_neg (by omega), Bool.and_true, ← same_right] at hR
    simp [k0]
    by_cases c : 1 ≤ o.n ∧ o.n ≤ 1048576 ∧ o.l = []
    · obtain ⟨a, b, c⟩ := c
      simp [a, b, c]
      refine sc_call_gt rfl (fun _ => ih 1 (by omega)) (fun _ => rfl) rfl ?_
      simp
      refine frz_bool ?_
      rw [hR]
      simp [a, b, c]
    · have hc : (decide (1 ≤ o.n) && decide (o.n ≤ 1048576) && decide (o.l = [])) = false := by
        rw [Bool.eq_false_iff]; intro e; simp at e; exact c ⟨e.1.1, e.1.2, e.2⟩
      simp [hc]
      refine sc_call_off rfl ?_
      simp [hc]
      refine frz_bool ?_
      rw [hR]
      have : (decide (1 ≤ o.n) && decide (o.n ≤ 1048576) && o.l.isEmpty) = false := by
        rw [← hc]; cases o.l <;> simp
      rw [this]
      rfl
  by_cases k1 : o.kind = 1
  · simp [k1]
    repeat rw [InBlock_other (by decide)]
    try simp
    repeat rw [InBlock_other (by decide)]
    try simp
    repeat rw [InBlock_other (by decide)]
    try simp
    have := stopper (.inl k1)
    unfold oL at this
    rw [k1] at this
    exact this
  by_cases k2 : o.kind = 2
  · simp [k2]
    repeat rw [InBlock_other (by decide)]
    try simp
    repeat rw [InBlock_other (by decide)]
    try simp
    repeat rw [InBlock_other (by decide)]
    try simp
    have := stopper (.inr k2)
    unfold oL at this
    rw [k2] at this
    exact this
  by_cases k3 : o.kind = 3
  · rw [if_neg k0, if_pos k3] at hR
    simp [k3]
    repeat rw [InBlock_other (by decide)]
    try simp
    repeat rw [InBlock_other (by decide)]
    try simp
    repeat rw [InBlock_other (by decide)]
    try simp
    have hfit : withinB list o.e = (!decide (o.e.kind = 0) && !decide (list ≤ 7) && opFit list o) := by
      have hd7 : isData list = decide (list ≤ 7) := by rw [Bool.eq_iff_iff]; simp [isData]; omega
      unfold withinB opFit
      rw [hd7]
      cases decide (list ≤ 7) <;> cases decide (o.e.kind = 0) <;> simp [Bool.or_assoc]
    by_cases c : o.n = 0 ∧ o.l = []
    · obtain ⟨c1, c2⟩ := c
      have hR' : R = (withinB list o.e && rightE d o.e) := by
        rw [hR, if_neg (by omega), if_neg (by omega), hfit]
        unfold opDeep
        rw [c2]
        cases rightE d o.e <;> simp
      simp [c1, c2]
      refine sc_call_gt rfl (fun _ => pWithin_spec list o.e) (fun _ => rfl) rfl ?_
      cases hw : withinB list o.e with
      | false =>
        simp
        refine sc_call_off rfl ?_
        simp
        exact frz_bool (by rw [hR', hw]; rfl)
      | true =>
        simp
        refine sc_call_gt rfl (fun _ => ih d hd) (fun _ => rfl) rfl ?_
        simp
        exact frz_bool (by rw [hR', hw]; simp)
    · have hc : (decide (o.n = 0) && decide (o.l = [])) = false := by
        rw [Bool.eq_false_iff]; intro e; simp at e; exact c e
      simp [hc]
      refine sc_call_off rfl ?_
      simp [hc]
      refine sc_call_off rfl ?_
      simp [hc]
      refine frz_bool ?_
      rw [hR]
      by_cases c1 : o.n = 0
      · have c2 : o.l.isEmpty = false := by
          cases hh : o.l with
          | nil => exact absurd ⟨c1, hh⟩ c
          | cons x l => rfl
        unfold opDeep
        rw [c2]
        simp
      · rw [if_pos (by omega)]
        rfl
  · simp [k0, k1, k2, k3]
    repeat rw [InBlock_other (by decide)]
    try simp
    repeat rw [InBlock_other (by decide)]
    try simp
    repeat rw [InBlock_other (by decide)]
    try simp
    refine frz_bool ?_
    rw [hR, if_neg k0, if_pos (by omega)]
    rfl
/-! ### lengths -/
theorem sat_min (n : Int) : min n 1048576 = sat n := by unfold sat; split <;> omega
section
variable {n0 : Nat} {w0 : World} {I0 : Nat → Prop} {Q : Exit → Sta → Prop}
theorem plen_k2 {Q' : Exit → Sta → Prop} {o : OP} {a b z : Int} {x y i : A} {u : Nat} {H : Hp} (hH : H [1] = ⟨u, .cells (oL o)⟩) (a0 : 0 ≤ a) (a1 : a ≤ 1048576) (b0 : 0 ≤ b) (b1 : b ≤ 1048576) (z0 : 0 ≤ z) (z1 : z < 100000000000000)
    (h : Q' .normal ⟨lk [(4, iv (sat (if o.kind = 2 then a else a + z))), (5, iv (sat (if o.kind = 1 then b else b + z))), (10, x), (11, y), (12, i)], H⟩)
    (h' : Q' .normal ⟨lk [(4, iv (sat (if o.kind = 2 then a else a + z))), (5, iv (sat (if o.kind = 1 then b else b + z))), (8, iv z), (10, x), (11, y), (12, i), (34, bv false)], H⟩) :
    WPC (cx Tryz.prog w0 I0 n0) k2_edit_Lengths Q' ⟨lk [(4, iv a), (5, iv b), (7, .pob [1] u 0), (8, iv z), (10, x), (11, y), (12, i)], H⟩ := by
  have ea : IntKind.i64.wrap (a + z) = a + z := i64_same (by omega) (by omega)
  have eb : IntKind.i64.wrap (b + z) = b + z := i64_same (by omega) (by omega)
  have sa : sat a = a := by unfold sat; rw [if_neg (by omega)]
  have sb : sat b = b := by unfold sat; rw [if_neg (by omega)]
  rw [k2_edit_Lengths.eq_1]
  by_cases h2 : o.kind = 2
  · have h1 : ¬ o.kind = 1 := by omega
    simp [hH, h2]
    rw [k1_edit_Lengths.eq_1]
    simp [hH, h2, eb, sat_min]
    simpa [h2, sa] using h
  · by_cases h1 : o.kind = 1
    · simp [hH, h1, ea, sat_min]
      rw [k1_edit_Lengths.eq_1]
      simp [hH, h1]
      simpa [h1, sb] using h'
    · simp [hH, h2, ea, sat_min]
      rw [k1_edit_Lengths.eq_1]
      simp [hH, h1, eb, sat_min]
      simpa [h1, h2] using h
theorem plen_l1 {os : List OP} (hl : os.length * 240 ≤ 140737488355328) (ho : ∀ x, x ∈ os → 0 ≤ x.n ∧ x.n ≤ 1048576 ∧ x.l.length * 56 ≤ 140737488355328) : ∀ (m i : Nat) (a b : Int) (H : Hp), i + m = os.length → 0 ≤ a → a ≤ 1048576 → 0 ≤ b → b ≤ 1048576 →
    (∀ q H', Q (.exit 0) ⟨lk [(4, iv (lengths a b (os.drop i)).1), (5, iv (lengths a b (os.drop i)).2), (10, oKs os), (11, iv os.length), (12, iv os.length), (13, bv q)], H'⟩) →
    LoopC (cx Tryz.prog w0 I0 n0) l1_edit_Lengths Q ⟨lk [(4, iv a), (5, iv b), (10, oKs os), (11, iv os.length), (12, iv i)], H⟩ := by
  intro m
  induction m with
  | zero =>
    intro i a b H hi a0 a1 b0 b1 hq
    have : i = os.length := by omega
    subst this
    refine loopC_once mixed l1_edit_Lengths.eq_1 ?_
    simp
    simpa [lengths] using hq false H
  | succ m ih =>
    intro i a b H hi a0 a1 b0 b1 hq
    have hlt : i < os.length := by omega
    have ed : os.drop i = os[i] :: os.drop (i + 1) := List.drop_eq_getElem_cons hlt
    have ei : IntKind.i64.wrap ((i : Int) + 1) = ((i + 1 : Nat) : Int) := i64_same (by omega) (by omega)
    obtain ⟨n1, n2, n3⟩ := ho _ (List.getElem_mem hlt)
    rw [ed] at hq
    generalize ho' : os[i] = o at *
    have next : ∀ (a' b' : Int) H', a' = sat (if o.kind = 2 then a else a + opLen o) → b' = sat (if o.kind = 1 then b else b + opLen o) → LoopC (cx Tryz.prog w0 I0 n0) l1_edit_Lengths Q ⟨lk [(4, iv a'), (5, iv b'), (10, oKs os), (11, iv os.length), (12, iv ((i + 1 : Nat) : Int))], H'⟩ := fun a' b' H' ha hb => by
      have h0 : 0 ≤ opLen o ∧ opLen o < 100000000000000 := by unfold opLen; split <;> omega
      have s1 := sat_range (n := if o.kind = 2 then a else a + opLen o) (by split <;> omega)
      have s2 := sat_range (n := if o.kind = 1 then b else b + opLen o) (by split <;> omega)
      refine ih (i + 1) a' b' H' (by omega) (by omega) (by omega) (by omega) (by omega) fun q H2 => ?_
      have := hq q H2
      have f1 : (if o.kind ≠ 2 then a + opLen o else a) = if o.kind = 2 then a else a + opLen o := by by_cases e : o.kind = 2 <;> simp [e]
      have f2 : (if o.kind ≠ 1 then b + opLen o else b) = if o.kind = 1 then b else b + opLen o := by by_cases e : o.kind = 1 <;> simp [e]
      rw [lengths, f1, f2, ← ha, ← hb] at this
      exact this
    have h0 : 0 ≤ opLen o ∧ opLen o < 100000000000000 := by unfold opLen; split <;> omega
    refine loopC_once mixed l1_edit_Lengths.eq_1 ?_
    have e1 : IntKind.i64.wrap (o.n + (o.l.length : Int)) = o.n + o.l.length := i64_same (by omega) (by omega)
    simp [hlt, ho', updF_app, e1]
    refine ⟨fun h3 => ?_, fun h3 => ?_⟩
    · have ez : opLen o = 1 := by simp [opLen, h3]
      refine plen_k2 (o := o) (u := (H [1]).u + 1) (z := 1) (by simp [updF_app]) (by omega) (by omega) (by omega) (by omega) (by omega) (by omega) ?_ ?_
      all_goals
        simp [ei]
        rw [ez] at next
        exact next _ _ _ rfl rfl
    · have ez : opLen o = o.n + o.l.length := by simp [opLen, h3]
      rw [← ez]
      refine plen_k2 (o := o) (u := (H [1]).u + 1) (z := opLen o) (by simp [updF_app]) (by omega) (by omega) (by omega) (by omega) (by omega) (by omega) ?_ ?_
      all_goals
        simp [ei]
        exact next _ _ _ rfl rfl
end
theorem pLengths_spec {e : E} (hl : e.ops.length * 240 ≤ 140737488355328) (ho : ∀ x, x ∈ e.ops → 0 ≤ x.n ∧ x.n ≤ 1048576 ∧ x.l.length * 56 ≤ 140737488355328) : G.Spec Tryz.prog 128 [eX e] (.tup [iv (lengths 0 0 e.ops).1, iv (lengths 0 0 e.ops).2]) := by
  refine spec_of t_edit_Lengths (by simp) fun w0 I0 => ?_
  unfold c_edit_Lengths
  simp
  refine plen_l1 (os := e.ops) hl ho e.ops.length 0 0 0 _ (by omega) (by omega) (by omega) (by omega) (by omega) fun q H' => ?_
  simp
  exact frz_bare rfl
section
variable {n0 : Nat} {w0 : World} {I0 : Nat → Prop} {Q : Exit → Sta → Prop}
theorem pops_l1 {e : E} {d : Nat} (hd : d ≤ 1000) (hk : 2 ≤ e.list ∧ e.list ≤ 9) (hl : e.ops.length * 240 ≤ 140737488355328) (hw : ∀ x, x ∈ e.ops → WfO x) (ih : ∀ x, x ∈ e.ops → PRightS x.e) : ∀ (m i : Nat) (H : Hp), i + m = e.ops.length → H [0] = ⟨1, .cells (eL e)⟩ →
    (rightOs d e.list (e.ops.drop i) = true → ∀ q H', H' [0] = ⟨1, .cells (eL e)⟩ → Q (.exit 0) ⟨lk [(1, iv d), (2, .pob [0] 1 0), (10, oKs e.ops), (11, iv e.ops.length), (12, iv e.ops.length), (13, bv q)], H'⟩) → (rightOs d e.list (e.ops.drop i) = false → ∀ H', Q .ret ⟨lk [(4, bv false)], H'⟩) →
    LoopC (cx Tryz.prog w0 I0 n0) l1_edit_ops Q ⟨lk [(1, iv d), (2, .pob [0] 1 0), (10, oKs e.ops), (11, iv e.ops.length), (12, iv i)], H⟩ := by
  intro m
  induction m with
  | zero =>
    intro i H hi hA h1 h2
    have : i = e.ops.length := by omega
    subst this
    refine loopC_once mixed l1_edit_ops.eq_1 ?_
    simp
    exact h1 (by simp) _ _ hA
  | succ m ihm =>
    intro i H hi hA h1 h2
    have hlt : i < e.ops.length := by omega
    have ed : e.ops.drop i = e.ops[i] :: e.ops.drop (i + 1) := List.drop_eq_getElem_cons hlt
    have ei : IntKind.i64.wrap ((i : Int) + 1) = ((i + 1 : Nat) : Int) := i64_same (by omega) (by omega)
    have hop := pOp_spec hk (hw _ (List.getElem_mem hlt)) (ih _ (List.getElem_mem hlt)) hd
    rw [ed, rightOs_cons] at h1 h2
    refine loopC_once mixed l1_edit_ops.eq_1 ?_
    simp [hA, hlt, updF_app]
    refine sc_call hop rfl ?_
    cases hr : rightO d e.list e.ops[i] with
    | false =>
      simp
      exact h2 (by simp [hr]) _
    | true =>
      simp [ei]
      exact ihm (i + 1) _ (by omega) (by simp [updF_app, hA]) (fun hh => h1 (by simp [hr, hh])) (fun hh => h2 (by simp [hh]))
end
theorem pOps_spec {e : E} (hw : WfE e) {d : Nat} (hd : d ≤ 1000) (hk : 2 ≤ e.list ∧ e.list ≤ 9) (ih : ∀ x, x ∈ e.ops → PRightS x.e) : G.Spec Tryz.prog 92 [eX e, iv d] (bv (rightOs d e.list e.ops && (decide ((lengths 0 0 e.ops).1 < 1048576) && decide ((lengths 0 0 e.ops).2 < 1048576)))) := by
  refine spec_of t_edit_ops (by simp) fun w0 I0 => ?_
  unfold c_edit_ops
  simp
  refine pops_l1 hd hk hw.ol hw.os ih e.ops.length 0 _ (by omega) (by simp) (fun hr q H' hA => ?_) (fun hr H' => ?_)
  · simp only [List.drop_zero] at hr
    simp [hA]
    refine sc_call (pLengths_spec hw.ol (fun x hx => ⟨(op_n (rightOs_all.1 hr x hx)).1, (op_n (rightOs_all.1 hr x hx)).2, (hw.os x hx).ll⟩)) rfl ?_
    simp
    refine frz_bool ?_
    rw [hr]
    simp
  · simp only [List.drop_zero] at hr
    simp
    exact frz_bool (by rw [hr]; rfl)
set_option maxRecDepth 10000 in
theorem pright_all : ∀ (e : E), wfE e → PRightS e := by
  refine E.ind fun k o nn ws ks l os ihk iho hw d hd => ?_
  have h := wfE_iff.1 hw
  have hb := pBare_spec h
  obtain ⟨R, hR⟩ : ∃ R, R = rightE d (.mk k o nn ws ks l os) := ⟨_, rfl⟩
  rw [← hR]
  rw [rightE_mk, headOk_bare] at hR
  have eb : bareE (.mk k o nn ws ks l os) = bareB k o nn ws.length ks.length l os.length := rfl
  rw [eb] at hb
  have ed : 1 ≤ d → IntKind.i64.wrap ((d : Int) - 1) = ((d - 1 : Nat) : Int) := fun h => by rw [i64_same (by omega) (by omega)]; omega
  refine spec_of t_edit_right (by simp) fun w0 I0 => ?_
  unfold c_edit_right
  simp
  refine sc_call hb rfl ?_
  generalize hB : bareB k o nn ws.length ks.length l os.length = B at hR
  cases B with
  | false =>
    simp
    refine frz_bool ?_
    rw [hR]
    simp
  | true =>
    by_cases hd0 : d = 0
    · subst hd0
      simp
      refine frz_bool ?_
      rw [hR]
      simp
    have ed' := ed (by omega)
    have hh := headOk_bare (d := d) (k := k) (o := o) (n := nn) (nw := ws.length) (nk := ks.length) (l := l) (no := os.length)
    rw [hB] at hh
    simp only [Bool.and_true] at hR hh
    by_cases kr : k < 0 ∨ 3 < k
    · have k0 : ¬ k = 0 := by omega
      have k1 : ¬ k = 1 := by omega
      have k2 : ¬ k = 2 := by omega
      have k3 : ¬ k = 3 := by omega
      simp [hd0, k0, k1, k2, k3]
      refine frz_bool ?_
      rw [hR, if_pos]
      simp
      omega
    have hh1 : headOk d k o nn ws.length ks.length l os.length = true := by
      rw [hh]
      simp
      omega
    obtain ⟨_, k0, k3, c1, c2, c3⟩ := headOk_iff.1 hh1
    rw [← hh, if_neg (by rw [hh1]; simp)] at hR
    have hk : k = 0 ∨ k = 1 ∨ k = 2 ∨ k = 3 := by omega
    rcases hk with rfl | rfl | rfl | rfl
    · obtain ⟨w0', s0⟩ := c2 (by omega)
      obtain ⟨l0, o0⟩ := c3 (by omega)
      obtain rfl := List.eq_nil_of_length_eq_zero w0'
      obtain rfl := List.eq_nil_of_length_eq_zero s0
      obtain rfl := List.eq_nil_of_length_eq_zero o0
      simp [hd0]
      refine frz_bool ?_
      rw [hR]
      simp [wordsOk, lengths]
    · simp [hd0]
      refine sc_call (pValue_spec h.o) rfl ?_
      simp
      refine sc_call_gt rfl (fun _ => pValue_spec h.n) (fun e => by simp [e]) rfl ?_
      simp
      refine frz_bool ?_
      rw [hR]
      simp
      cases rightT 64 o <;> cases rightT 64 nn <;> simp <;> rfl
    · obtain ⟨l0, o0⟩ := c3 (by omega)
      obtain rfl := List.eq_nil_of_length_eq_zero o0
      simp [hd0]
      refine sc_call (pWords_spec h.wl h.w) rfl ?_
      simp [ed']
      refine sc_call_gt rfl (fun _ => pKids_spec (d := d - 1) (by omega) h.kl (fun x hx => ihk x hx (h.ks x hx).2)) (fun e => by simp [e]) rfl ?_
      simp
      refine frz_bool ?_
      rw [hR]
      cases wordsOk (-1) ws <;> cases rightKs (d - 1) (-1) ks <;> simp [lengths]
    · obtain ⟨w0', s0⟩ := c2 (by omega)
      obtain rfl := List.eq_nil_of_length_eq_zero w0'
      obtain rfl := List.eq_nil_of_length_eq_zero s0
      simp [hd0]
      refine sc_call (tList_spec l) rfl ?_
      by_cases hl : 2 ≤ l ∧ l ≤ 9
      · have hl' : ¬ (l < 2 ∨ l > 9) := by omega
        simp [hl.1, hl.2, ed']
        refine sc_call_gt rfl (fun _ => pOps_spec (e := .mk 3 o nn [] [] l os) (d := d - 1) h (by omega) hl (fun x hx => iho x hx (h.os x hx).e)) (fun e => rfl) rfl ?_
        simp
        refine frz_bool ?_
        rw [hR]
        simp [wordsOk, hl']
        cases rightOs (d - 1) l os <;> simp <;> rfl
      · have hl' : l < 2 ∨ l > 9 := by omega
        have hf : (decide (2 ≤ l) && decide (l ≤ 9)) = false := by rw [Bool.eq_false_iff]; intro e; simp at e; omega
        simp [hf]
        refine sc_call_off rfl ?_
        simp
        refine frz_bool ?_
        rw [hR]
        simp [wordsOk, hl']
theorem peRight_spec {e : E} (h : wfE e) : G.Spec Tryz.prog 29 [eX e] (bv (rightE 64 e)) := by
  refine spec_of t_edit_Right (by simp) fun w0 I0 => ?_
  unfold c_edit_Right
  simp
  refine sc_call (pright_all e h 64 (by omega)) rfl ?_
  simp
  exact frz_bare rfl
end Go.Proofs.YthfiijdbnkaabaaGreat

/-
  The document's edits: those of which statements ask.
-/
namespace Go.Proofs.YthfiijdbnkaabaaGreat
set_option linter.unusedVariables false
set_option linter.unusedSimpArgs false
open Go Go.G Go.Proofs Go.PL
mutual
def niceE : E → Prop
  | .mk _ _ _ _ ks _ os => (∀ x, x ∈ os → 0 ≤ x.n ∧ x.n ≤ 1048576) ∧ niceKs ks ∧ niceOs os
def niceKs : List KE → Prop
  | [] => True
  | .mk _ e :: l => niceE e ∧ niceKs l
def niceOs : List OP → Prop
  | [] => True
  | .mk _ _ _ e :: l => niceE e ∧ niceOs l
end
theorem niceKs_all : ∀ {l : List KE}, niceKs l ↔ ∀ x, x ∈ l → niceE x.e
  | [] => by simp [niceKs]
  | .mk a e :: l => by simp [niceKs, niceKs_all (l := l)]
theorem niceOs_all : ∀ {l : List OP}, niceOs l ↔ ∀ x, x ∈ l → niceE x.e
  | [] => by simp [niceOs]
  | .mk k n t e :: l => by simp [niceOs, niceOs_all (l := l)]
theorem nice_E0 {e : E} (h : sameE e = true) : niceE e := by
  obtain ⟨k, o, n, ws, ks, l, os⟩ := e
  simp [sameE, List.isEmpty_iff] at h
  obtain ⟨⟨_, ⟨_, h1⟩, h2⟩, _⟩ := h
  subst h1 h2
  simp [niceE, niceKs, niceOs]
theorem nice_right : ∀ (e : E) (d : Nat), rightE d e = true → niceE e := by
  refine E.ind fun k o n ws ks l os ihk iho d h => ?_
  rw [rightE_mk] at h
  split at h
  · cases h
  rename_i hh
  obtain ⟨d0, k0, k3, c1, c2, c3⟩ := headOk_spec hh
  have e0 : ∀ {l : List KE}, l.length = 0 → niceKs l := fun h => by rw [List.eq_nil_of_length_eq_zero h]; simp [niceKs]
  have e1 : ∀ {l : List OP}, l.length = 0 → niceOs l ∧ ∀ x, x ∈ l → 0 ≤ x.n ∧ x.n ≤ 1048576 := fun h => by rw [List.eq_nil_of_length_eq_zero h]; simp [niceOs]
  rw [niceE]
  by_cases h1 : k = 1
  · have a := e1 (c3 (by omega)).2
    exact ⟨a.2, e0 (c2 (by omega)).2, a.1⟩
  · rw [if_neg h1] at h
    split at h
    · cases h
    split at h
    · cases h
    rename_i hk
    split at h
    · cases h
    split at h
    · cases h
    rename_i ho
    simp only [Bool.not_eq_false] at hk ho
    have hk1 := kids_at hk
    have ho1 := rightOs_all.1 ho
    refine ⟨fun x hx => op_n (ho1 x hx), niceKs_all.2 fun x hx => ihk x hx _ (hk1 x hx).2.2.2, niceOs_all.2 fun x hx => ?_⟩
    have := ho1 x hx
    rw [rightO_eq, Bool.and_eq_true] at this
    obtain ⟨f1, f2⟩ := this
    by_cases k3 : x.kind = 3
    · rw [if_pos k3] at f2
      simp at f2
      exact iho x hx _ f2.1.2
    · unfold opFlat at f1
      split at f1
      · simp at f1; exact nice_E0 f1.2
      · split at f1
        · cases f1
        · rw [if_pos (by omega)] at f1
          simp at f1; exact nice_E0 f1.2
abbrev LightS (e : E) : Prop := G.Spec Tryz.prog 24 [eX e] (bv (lightE e))
section
variable {n0 : Nat} {w0 : World} {I0 : Nat → Prop} {Q : Exit → Sta → Prop}
theorem elight_l1 {e : E} (hl : e.kids.length * 208 ≤ 140737488355328) (ih : ∀ x, x ∈ e.kids → LightS x.e) {H : Hp} (hA : H [0] = ⟨1, .cells (eL e)⟩) : ∀ (m i : Nat), i + m = e.kids.length →
    (lightKs (e.kids.drop i) = true → ∀ i' q, Q (.exit 0) ⟨lk [(1, .pob [0] 1 0), (5, iv i'), (22, bv q)], H⟩) → (lightKs (e.kids.drop i) = false → Q .ret ⟨lk [(2, bv false)], H⟩) →
    LoopC (cx Tryz.prog w0 I0 n0) l1_centoref20_Light Q ⟨lk [(1, .pob [0] 1 0), (5, iv i)], H⟩ := by
  intro m
  induction m with
  | zero =>
    intro i hi h1 h2
    have : i = e.kids.length := by omega
    subst this
    refine loopC_once mixed l1_centoref20_Light.eq_1 ?_
    simp [hA]
    exact h1 (by simp) _ _
  | succ m ihm =>
    intro i hi h1 h2
    have hlt : i < e.kids.length := by omega
    have ed : e.kids.drop i = e.kids[i] :: e.kids.drop (i + 1) := List.drop_eq_getElem_cons hlt
    have ei : IntKind.i64.wrap ((i : Int) + 1) = ((i + 1 : Nat) : Int) := i64_same (by omega) (by omega)
    rw [ed, lightKs_cons] at h1 h2
    refine loopC_once mixed l1_centoref20_Light.eq_1 ?_
    simp [hA, hlt]
    refine sc_call (ih _ (List.getElem_mem hlt)) rfl ?_
    cases hr : lightE e.kids[i].e with
    | false =>
      simp
      exact h2 (by simp [hr])
    | true =>
      simp [ei]
      exact ihm (i + 1) (by omega) (fun hh => h1 (by simp [hr, hh])) (fun hh => h2 (by simp [hh]))
theorem elight_l2 {e : E} (hl : e.ops.length * 240 ≤ 140737488355328) (ih : ∀ x, x ∈ e.ops → LightS x.e) {H : Hp} (hA : H [0] = ⟨1, .cells (eL e)⟩) : ∀ (m i : Nat), i + m = e.ops.length →
    (lightOs (e.ops.drop i) = true → ∀ i' q, Q (.exit 2) ⟨lk [(1, .pob [0] 1 0), (6, iv i'), (37, bv q)], H⟩) → (lightOs (e.ops.drop i) = false → Q .ret ⟨lk [(2, bv false)], H⟩) →
    LoopC (cx Tryz.prog w0 I0 n0) l2_centoref20_Light Q ⟨lk [(1, .pob [0] 1 0), (6, iv i)], H⟩ := by
  intro m
  induction m with
  | zero =>
    intro i hi h1 h2
    have : i = e.ops.length := by omega
    subst this
    refine loopC_once mixed l2_centoref20_Light.eq_1 ?_
    simp [hA]
    exact h1 (by simp) _ _
  | succ m ihm =>
    intro i hi h1 h2
    have hlt : i < e.ops.length := by omega
    have ed : e.ops.drop i = e.ops[i] :: e.ops.drop (i + 1) := List.drop_eq_getElem_cons hlt
    have ei : IntKind.i64.wrap ((i : Int) + 1) = ((i + 1 : Nat) : Int) := i64_same (by omega) (by omega)
    rw [ed, lightOs_cons] at h1 h2
    refine loopC_once mixed l2_centoref20_Light.eq_1 ?_
    simp [hA, hlt]
    refine sc_call (ih _ (List.getElem_mem hlt)) rfl ?_
    cases hr : lightE e.ops[i].e with
    | false =>
      simp
      exact h2 (by simp [hr])
    | true =>
      simp [ei]
      exact ihm (i + 1) (by omega) (fun hh => h1 (by simp [hr, hh])) (fun hh => h2 (by simp [hh]))
end
theorem elight_spec : ∀ (e : E), wfE e → niceE e → LightS e := by
  refine E.ind fun k o nn ws ks l os ihk iho hw hn => ?_
  have h := wfE_iff.1 hw
  rw [niceE, niceKs_all, niceOs_all] at hn
  obtain ⟨n1, n2, n3⟩ := hn
  refine spec_of t_centoref20_Light (by simp) fun w0 I0 => ?_
  unfold c_centoref20_Light
  rw [lightE_mk]
  simp
  refine sc_call (rLengths_spec (e := .mk k o nn ws ks l os) h.ol (fun x hx => ⟨(n1 x hx).1, (n1 x hx).2, (h.os x hx).ll⟩)) rfl ?_
  simp
  refine ⟨fun hc => ?_, fun a b => ?_⟩
  · refine frz_bool ?_
    rcases hc with hc | hc <;> simp [hc]
  · have a' : ¬ 2000 < (lengths 0 0 os).1 := by omega
    have b' : ¬ 2000 < (lengths 0 0 os).2 := by omega
    refine elight_l1 (e := .mk k o nn ws ks l os) h.kl (fun x hx => ihk x hx (h.ks x hx).2 (n2 x hx)) (by simp) ks.length 0 (by simp) (fun hr i' q => ?_) (fun hr => ?_)
    · simp at hr
      simp
      refine elight_l2 (e := .mk k o nn ws ks l os) h.ol (fun x hx => iho x hx (h.os x hx).e (n3 x hx)) (by simp) os.length 0 (by simp) (fun hr2 i' q => ?_) (fun hr2 => ?_)
      · simp at hr2
        simp
        exact frz_bool (by simp [a', b', hr, hr2])
      · simp at hr2
        simp
        exact frz_bool (by simp [hr2])
    · simp at hr
      simp
      exact frz_bool (by simp [hr])
def goodE (e : E) : Bool := fewE e && rightE 64 e && lightE e
theorem good_spec {e : E} (h : wfE e) : G.Spec Tryz.prog 8 [eX e] (bv (goodE e)) := by
  refine spec_of t_centoref20_Good (by simp) fun w0 I0 => ?_
  unfold c_centoref20_Good
  simp
  refine sc_call (fewE_spec h) rfl ?_
  simp
  refine sc_call_gt rfl (fun _ => eright_spec e h 64 (by omega)) (fun e => by simp [e]) rfl ?_
  simp
  by_cases hr : rightE 64 e = true
  · refine sc_call_gt rfl (fun _ => elight_spec e h (nice_right e 64 hr)) (fun e => by simp at e; simp [e]) rfl ?_
    simp
    exact frz_bool rfl
  · simp at hr
    simp [hr]
    refine sc_call_off rfl ?_
    simp
    exact frz_bool (by simp [goodE, hr])
end Go.Proofs.YthfiijdbnkaabaaGreat

/-
  The tree of an edit, as the document has it.
-/
namespace Go.Proofs.YthfiijdbnkaabaaGreat
set_option linter.unusedVariables false
set_option linter.unusedSimpArgs false
open Go Go.G Go.Proofs Go.PL
/-! ### few parts -/
mutual
def smE : Int → E → Prop
  | N, .mk _ _ _ ws ks _ os => ws.length ≤ N ∧ ks.length ≤ N ∧ os.length ≤ N ∧ smKs N ks ∧ smOs N os
def smKs : Int → List KE → Prop
  | _, [] => True
  | N, .mk _ e :: l => smE N e ∧ smKs N l
def smOs : Int → List OP → Prop
  | _, [] => True
  | N, .mk _ _ _ e :: l => smE N e ∧ smOs N l
end
theorem smKs_all {N : Int} : ∀ {l : List KE}, smKs N l ↔ ∀ x, x ∈ l → smE N x.e
  | [] => by simp [smKs]
  | .mk a e :: l => by simp [smKs, smKs_all (l := l)]
theorem smOs_all {N : Int} : ∀ {l : List OP}, smOs N l ↔ ∀ x, x ∈ l → smE N x.e
  | [] => by simp [smOs]
  | .mk k n t e :: l => by simp [smOs, smOs_all (l := l)]
mutual
theorem left_sm {N : Int} : ∀ (e : E) (d : Nat) (n : Int), n ≤ N → 0 ≤ leftE d n e → leftE d n e ≤ n - 1 ∧ smE N e
  | .mk k o nn ws ks l os, d, n, hn, h => by
    rw [leftE_mk] at h ⊢
    rw [smE]
    split at h
    · omega
    rename_i hc
    rw [if_neg hc]
    have h1 := shallow_range o 80 (n - 1 - ws.length - os.length)
    have h2 := shallow_range nn 80 (shallow 80 (n - 1 - ws.length - os.length) o)
    have h3 : left2 n ws.length os.length o nn ≤ n - 1 - ws.length - os.length := by rw [left2_eq]; split <;> omega
    obtain ⟨a1, a2, a3⟩ := leftOs_sm (N := N) os (d - 1) _ h (by
      have := leftKs_range ks (d - 1) (left2 n ws.length os.length o nn) (by rw [left2_eq]; split <;> omega)
      omega)
    obtain ⟨b1, b2, b3⟩ := leftKs_sm (N := N) ks (d - 1) _ a3 (by omega)
    exact ⟨by omega, by omega, by omega, by omega, b2, a2⟩
theorem leftKs_sm {N : Int} : ∀ (l : List KE) (d : Nat) (n : Int), 0 ≤ leftKs d n l → n ≤ N → leftKs d n l ≤ n - l.length ∧ smKs N l ∧ 0 ≤ n
  | [], d, n, h, hn => by simp at h; simp [smKs]; omega
  | .mk a e :: l, d, n, h, hn => by
    rw [leftKs_cons] at h ⊢
    split at h
    · omega
    rename_i hc
    rw [if_neg hc]
    simp only [KE.e_mk] at h ⊢
    have h1 := leftE_range e d n
    obtain ⟨b1, b2, b3⟩ := leftKs_sm (N := N) l d _ h (by omega)
    obtain ⟨c1, c2⟩ := left_sm (N := N) e d n hn b3
    rw [smKs]
    exact ⟨by simp; omega, ⟨c2, b2⟩, by omega⟩
theorem leftOs_sm {N : Int} : ∀ (l : List OP) (d : Nat) (n : Int), 0 ≤ leftOs d n l → n ≤ N → leftOs d n l ≤ n ∧ smOs N l ∧ 0 ≤ n
  | [], d, n, h, hn => by simp at h; simp [smOs]; omega
  | .mk k m t e :: l, d, n, h, hn => by
    rw [leftOs_cons] at h ⊢
    split at h
    · omega
    rename_i hc
    rw [if_neg hc]
    simp only [OP.e_mk, OP.l_mk] at h ⊢
    have h0 := shallowL_range t 80 n (by omega)
    have h1 := leftE_range e d (shallowL 80 n t)
    have h3 : (if shallowL 80 n t < 0 then shallowL 80 n t else leftE d (shallowL 80 n t) e) ≤ n := by split <;> omega
    obtain ⟨b1, b2, b3⟩ := leftOs_sm (N := N) l d _ h (by exact Int.le_trans h3 hn)
    rw [smOs]
    refine ⟨Int.le_trans b1 h3, ⟨?_, b2⟩, by omega⟩
    by_cases hs : shallowL 80 n t < 0
    · simp only [hs, if_true] at b3
      omega
    · simp only [hs, if_false] at b3
      exact (left_sm (N := N) e d _ (by omega) b3).2
end
theorem few_sm {e : E} (h : fewE e = true) : smE 1048575 e := (left_sm (N := 1048575) e 80 3000 (by omega) (by simpa [fewE] using h)).2
/-! ### rows whose elements read otherwise -/
section
variable {n0 : Nat} {w0 : World} {I0 : Nat → Prop} {Q : Exit → Sta → Prop}
end
end Go.Proofs.YthfiijdbnkaabaaGreat

/-
  The tree of an edit, by the program.
-/
namespace Go.Proofs.YthfiijdbnkaabaaGreat
set_option linter.unusedVariables false
set_option linter.unusedSimpArgs false
open Go Go.G Go.Proofs Go.PL
theorem number_spec {a b : Int} {k : Nat} (a0 : 0 ≤ a) (a1 : a < 2 ^ k) (hk : k = 8 ∨ k = 32) (b0 : 0 ≤ b) (b1 : b < 4294967296) : G.Spec Tryz.prog 36 [iv a, iv b, iv k] (uv (a + 2 ^ k * b)) := by
  refine spec_of t_patch_number (by simp) fun w0 I0 => ?_
  unfold c_patch_number
  have hb64 : IntKind.u64.bits = 64 := rfl
  rcases hk with rfl | rfl
  · have e1 : IntKind.u64.wrap a = a := u64_same (by omega) (by omega)
    have e2 : IntKind.u64.wrap b = b := u64_same (by omega) (by omega)
    have e3 : IntKind.u64.wrap (b * 256) = b * 256 := u64_same (by omega) (by omega)
    have e4 : bits .or .u64 a (b * 256) = a + b * 256 := u64_or' 8 a0 a1 (by omega) (by omega) (by omega) (by omega)
    have e5 : IntKind.u64.wrap (a + b * 256) = a + b * 256 := u64_same (by omega) (by omega)
    simp [e1, e2, hb64, e3, e4, e5]
    exact frz_int (by omega)
  · have e1 : IntKind.u64.wrap a = a := u64_same (by omega) (by omega)
    have e2 : IntKind.u64.wrap b = b := u64_same (by omega) (by omega)
    have e3 : IntKind.u64.wrap (b * 4294967296) = b * 4294967296 := u64_same (by omega) (by omega)
    have e4 : bits .or .u64 a (b * 4294967296) = a + b * 4294967296 := u64_or' 32 a0 a1 (by omega) (by omega) (by omega) (by omega)
    have e5 : IntKind.u64.wrap (a + b * 4294967296) = a + b * 4294967296 := u64_same (by omega) (by omega)
    simp [e1, e2, hb64, e3, e4, e5]
    exact frz_int (by omega)
theorem structure_spec (W : List Int) (l : List T) : G.Spec Tryz.prog 35 [uws W, tKs l] (tX (.mk 1 W l)) := by
  refine spec_of t_patch_structure (by simp) fun w0 I0 => ?_
  unfold c_patch_structure
  simp
  exact frz_agg (by simp; exact ⟨frz_bare rfl, frz_bare rfl, frz_bare rfl⟩)
theorem prow_spec (l : List T) : G.Spec Tryz.prog 37 [tKs l] (tX (rowT' l)) := by
  refine spec_of t_patch_row (by simp) fun w0 I0 => ?_
  unfold c_patch_row
  cases l with
  | nil => simp; exact frz_T0
  | cons t l =>
    simp
    refine ⟨fun h => absurd h (by omega), fun _ => ?_⟩
    exact frz_agg (by simp; exact ⟨frz_bare rfl, frz_sl, frz_is rfl (by simp)⟩)
def PTreeS (e : E) : Prop := G.Spec Tryz.prog 13 [eX e] (tX (treeE e))
theorem popT_spec {list : Int} {d : Nat} {o : OP} (O : RightO d list o) (ih : o.kind = 3 → PTreeS o.e) : G.Spec Tryz.prog 38 [iv list, oX o] (tX (treeO list o)) := by
  have hn : 0 ≤ o.n ∧ o.n ≤ 1048576 := by
    by_cases q : o.kind = 0
    · have := O.keep q; omega
    · have := O.nn q; omega
  have k0 := O.k0
  have k3 := O.k3
  have hnum := number_spec (a := o.kind) (b := o.n) (k := 8) (by omega) (by show o.kind < 256; omega) (.inl rfl) hn.1 (by omega)
  have hu : u64m (o.kind + 256 * o.n) = o.kind + 2 ^ 8 * o.n := u64m_of (by omega) (by omega)
  have ht : treeO list o = .mk 1 [o.kind + 2 ^ 8 * o.n] (if o.kind = 3 then [treeE o.e] else if o.kind > 0 then [.mk list [] o.l] else []) := by rw [← hu]; rfl
  rw [ht]
  generalize hN : o.kind + 2 ^ 8 * o.n = N at hnum ⊢
  refine spec_of t_patch_op (by simp) fun w0 I0 => ?_
  unfold c_patch_op
  simp
  refine sc_call hnum rfl ?_
  have hk : o.kind = 0 ∨ o.kind = 1 ∨ o.kind = 2 ∨ o.kind = 3 := by omega
  rcases hk with h | h | h | h
  · simp [h]
    rw [k1_patch_op.eq_1]
    simp
    refine sc_calle rfl ((structure_spec [N] []).soft (by simp [A.softL, A.soft, soft_uv])) rfl ?_
    simp
    exact frz_bare rfl
  · simp [h]
    rw [k1_patch_op.eq_1]
    simp
    refine sc_calle rfl ((structure_spec [N] [.mk list [] o.l]).soft (by simp [A.softL, A.soft, soft_tKs])) rfl ?_
    simp
    exact frz_bare rfl
  · simp [h]
    rw [k1_patch_op.eq_1]
    simp
    refine sc_calle rfl ((structure_spec [N] [.mk list [] o.l]).soft (by simp [A.softL, A.soft, soft_tKs])) rfl ?_
    simp
    exact frz_bare rfl
  · simp [h]
    rw [k1_patch_op.eq_1]
    simp
    refine sc_call (ih h) rfl ?_
    simp
    refine sc_calle rfl ((structure_spec [N] [treeE o.e]).soft (by simp [A.softL, A.soft, soft_uv, soft_tKs])) rfl ?_
    simp
    exact frz_bare rfl
section
variable {n0 : Nat} {w0 : World} {I0 : Nat → Prop} {Q : Exit → Sta → Prop}
theorem ptree_l1 {ws : List WE} (hl : ws.length ≤ 1048575) (hw : ∀ x, x ∈ ws → 0 ≤ x.at_ ∧ x.at_ ≤ 65534 ∧ 0 ≤ x.mask ∧ x.mask < 256) {v0 v1 v5 : VOb} : ∀ (m i u : Nat) (H : Hp), i + m = ws.length → H [0] = v0 → H [1] = v1 → H [5] = v5 → H [3] = ⟨u, .arr 3 ((ws.take i).map (tA ∘ treeW))⟩ →
    (∀ q u' H', H' [0] = v0 → H' [1] = v1 → H' [5] = v5 → H' [3] = ⟨u', .arr 3 (ws.map (tA ∘ treeW))⟩ → Q (.exit 1) ⟨lk [(1, .pob [0] 1 0), (2, .pob [1] 1 0), (3, .osl [3] u' 3 0 ws.length), (4, .sl true []), (26, wKs ws), (27, iv ws.length), (28, iv ws.length), (29, bv q)], H'⟩) →
    LoopC (cx Tryz.prog w0 I0 n0) l1_patch_Tree Q ⟨lk [(1, .pob [0] 1 0), (2, .pob [1] 1 0), (3, .osl [3] u 3 0 i), (4, .sl true []), (26, wKs ws), (27, iv ws.length), (28, iv i)], H⟩ := by
  intro m
  induction m with
  | zero =>
    intro i u H hi h0 h1 h5 h3 hq
    have : i = ws.length := by omega
    subst this
    refine loopC_once mixed l1_patch_Tree.eq_1 ?_
    simp
    exact hq _ u H h0 h1 h5 (by rw [h3]; simp)
  | succ m ihm =>
    intro i u H hi h0 h1 h5 h3 hq
    have hlt : i < ws.length := by omega
    have ei : IntKind.i64.wrap ((i : Int) + 1) = ((i + 1 : Nat) : Int) := i64_same (by omega) (by omega)
    obtain ⟨a0, a1, m0, m1⟩ := hw _ (List.getElem_mem hlt)
    have hrow := row_succ (f := tA ∘ treeW) hlt rfl
    simp only [Function.comp, treeW] at hrow
    generalize hx : ws[i] = x at *
    have hnum := number_spec (a := x.at_) (b := x.mask) (k := 32) (by omega) (by show x.at_ < 4294967296; omega) (.inr rfl) m0 (by omega)
    have em : IntKind.i64.wrap x.mask = x.mask := i64_same (by omega) (by omega)
    have hu : u64m (x.at_ + 4294967296 * x.mask) = x.at_ + 2 ^ 32 * x.mask := u64m_of (by omega) (by omega)
    rw [hu] at hrow
    generalize hN : x.at_ + 2 ^ 32 * x.mask = N at hnum hrow
    refine loopC_once mixed l1_patch_Tree.eq_1 ?_
    simp [hlt, hx, updF_app, em]
    refine sc_call hnum rfl ?_
    simp [updF_app]
    refine sc_calle rfl ((structure_spec [N, x.old, x.new] []).soft (by simp [A.softL, A.soft, soft_uv])) rfl ?_
    simp [updF_app, h3]
    refine ⟨⟨by omega, by omega⟩, ?_⟩
    rw [ei]
    refine ihm (i + 1) (u + 1) _ (by omega) (by simp [updF_app, h0]) (by simp [updF_app, h1]) (by simp [updF_app, h5]) ?_ hq
    simp only [updF_app, if_true]
    refine congrArg (fun r => (⟨u + 1, .arr 3 r⟩ : VOb)) ?_
    rw [← hrow]
    simp
theorem ptree_l2 {ks : List KE} (hl : ks.length ≤ 1048575) (hw : ∀ x, x ∈ ks → 0 ≤ x.at_ ∧ x.at_ ≤ 65534) (ih : ∀ x, x ∈ ks → PTreeS x.e) {v1 v3 : VOb} {a3 : A} : ∀ (m i u : Nat) (H : Hp), i + m = ks.length → H [1] = v1 → H [3] = v3 → H [5] = ⟨u, .arr 3 ((ks.take i).map (tA ∘ treeK))⟩ →
    (∀ q u' H', H' [1] = v1 → H' [3] = v3 → H' [5] = ⟨u', .arr 3 (ks.map (tA ∘ treeK))⟩ → Q (.exit 3) ⟨lk [(2, .pob [1] 1 0), (3, a3), (4, .osl [5] u' 3 0 ks.length), (49, kKs ks), (50, iv ks.length), (51, iv ks.length), (52, bv q)], H'⟩) →
    LoopC (cx Tryz.prog w0 I0 n0) l2_patch_Tree Q ⟨lk [(2, .pob [1] 1 0), (3, a3), (4, .osl [5] u 3 0 i), (49, kKs ks), (50, iv ks.length), (51, iv i)], H⟩ := by
  intro m
  induction m with
  | zero =>
    intro i u H hi h1 h3 h5 hq
    have : i = ks.length := by omega
    subst this
    refine loopC_once mixed l2_patch_Tree.eq_1 ?_
    simp
    exact hq _ u H h1 h3 (by rw [h5]; simp)
  | succ m ihm =>
    intro i u H hi h1 h3 h5 hq
    have hlt : i < ks.length := by omega
    have ei : IntKind.i64.wrap ((i : Int) + 1) = ((i + 1 : Nat) : Int) := i64_same (by omega) (by omega)
    obtain ⟨a0, a1⟩ := hw _ (List.getElem_mem hlt)
    have ihx := ih _ (List.getElem_mem hlt)
    unfold PTreeS at ihx
    have hrow := row_succ (f := tA ∘ treeK) hlt rfl
    simp only [Function.comp, treeK] at hrow
    generalize hx : ks[i] = x at *
    have eu : IntKind.u64.wrap x.at_ = x.at_ := u64_same (by omega) (by omega)
    rw [u64m_of a0 (by omega)] at hrow
    refine loopC_once mixed l2_patch_Tree.eq_1 ?_
    simp [hlt, hx, updF_app, eu]
    refine sc_call ihx rfl ?_
    simp [updF_app]
    refine sc_calle rfl ((structure_spec [x.at_] [treeE x.e]).soft (by simp [A.softL, A.soft, soft_uv, soft_tKs])) rfl ?_
    simp [updF_app, h5]
    refine ⟨⟨by omega, by omega⟩, ?_⟩
    rw [ei]
    refine ihm (i + 1) (u + 1) _ (by omega) (by simp [updF_app, h1]) (by simp [updF_app, h3]) ?_ hq
    simp only [updF_app, if_true]
    refine congrArg (fun r => (⟨u + 1, .arr 3 r⟩ : VOb)) ?_
    rw [← hrow]
    simp
theorem ptree_l3 {e : E} {d : Nat} (hl : e.ops.length ≤ 1048575) (hw : ∀ x, x ∈ e.ops → RightO d e.list x) (ih : ∀ x, x ∈ e.ops → x.kind = 3 → PTreeS x.e) {v1 : VOb} : ∀ (m i u : Nat) (H : Hp), i + m = e.ops.length → H [0] = ⟨1, .cells (eL e)⟩ → H [1] = v1 → H [7] = ⟨u, .arr 3 ((e.ops.take i).map (tA ∘ treeO e.list))⟩ →
    (∀ q u' H', H' [0] = ⟨1, .cells (eL e)⟩ → H' [1] = v1 → H' [7] = ⟨u', .arr 3 (e.ops.map (tA ∘ treeO e.list))⟩ → Q (.exit 5) ⟨lk [(1, .pob [0] 1 0), (2, .pob [1] 1 0), (9, .osl [7] u' 3 0 e.ops.length), (78, oKs e.ops), (79, iv e.ops.length), (80, iv e.ops.length), (81, bv q)], H'⟩) →
    LoopC (cx Tryz.prog w0 I0 n0) l3_patch_Tree Q ⟨lk [(1, .pob [0] 1 0), (2, .pob [1] 1 0), (9, .osl [7] u 3 0 i), (78, oKs e.ops), (79, iv e.ops.length), (80, iv i)], H⟩ := by
  intro m
  induction m with
  | zero =>
    intro i u H hi h0 h1 h7 hq
    have : i = e.ops.length := by omega
    subst this
    refine loopC_once mixed l3_patch_Tree.eq_1 ?_
    simp
    exact hq _ u H h0 h1 (by rw [h7]; simp)
  | succ m ihm =>
    intro i u H hi h0 h1 h7 hq
    have hlt : i < e.ops.length := by omega
    have ei : IntKind.i64.wrap ((i : Int) + 1) = ((i + 1 : Nat) : Int) := i64_same (by omega) (by omega)
    have hop := popT_spec (hw _ (List.getElem_mem hlt)) (ih _ (List.getElem_mem hlt))
    have hrow := row_succ (f := tA ∘ treeO e.list) hlt rfl
    simp only [Function.comp] at hrow
    refine loopC_once mixed l3_patch_Tree.eq_1 ?_
    simp [hlt, h0, updF_app]
    refine sc_call hop rfl ?_
    simp [updF_app, h7]
    refine ⟨⟨by omega, by omega⟩, ?_⟩
    rw [ei]
    refine ihm (i + 1) (u + 1) _ (by omega) (by simp [updF_app, h0]) (by simp [updF_app, h1]) ?_ hq
    simp only [updF_app, if_true]
    refine congrArg (fun r => (⟨u + 1, .arr 3 r⟩ : VOb)) ?_
    rw [← hrow]
    simp
end
end Go.Proofs.YthfiijdbnkaabaaGreat

/-
  The tree of an edit, by the program: the whole.
-/
namespace Go.Proofs.YthfiijdbnkaabaaGreat
set_option linter.unusedVariables false
set_option linter.unusedSimpArgs false
open Go Go.G Go.Proofs Go.PL
theorem frz_rowTT {H : Hp} {o : Nm} {u n : Nat} {α : Type} {l : List α} {f : α → T} (h : H o = ⟨u, .arr 3 (l.map (tA ∘ f))⟩) (hn : n = l.length) : Frz H (.osl o u 3 0 n) (tKs (l.map f)) := by
  have := frz_row (H := H) (o := o) (u := u) (n := n) (sz := 3) (l := l) (f := tA ∘ f) (by simp [h]) hn (fun x => by simp)
  rw [← List.map_map] at this
  exact this
theorem soft_tKf {α : Type} (f : α → T) (l : List α) : A.softL (l.map (tA ∘ f)) = l.map (tA ∘ f) := by rw [← List.map_map]; exact soft_tKs _
set_option maxRecDepth 10000 in
theorem pTree_all : ∀ (e : E), wfE e → smE 1048575 e → (∃ d, rightE d e = true) → PTreeS e := by
  refine E.ind fun k o nn ws ks l os ihk iho hwf hs hr => ?_
  obtain ⟨d, hr⟩ := hr
  have hw := wfE_iff.1 hwf
  have R := rightE_iff.1 hr
  rw [smE, smKs_all, smOs_all] at hs
  obtain ⟨s1, s2, s3, s4, s5⟩ := hs
  have hks := fun x hx => rightKs_allE (by omega) R.kok x hx
  have hos := fun x hx => rightO_of (rightOs_all.1 R.ook x hx)
  have ihk' : ∀ x, x ∈ ks → PTreeS x.e := fun x hx => ihk x hx (hw.ks x hx).2 (s4 x hx) ⟨_, (hks x hx).2.2.2⟩
  have iho' : ∀ x, x ∈ os → x.kind = 3 → PTreeS x.e := fun x hx h3 => iho x hx (hw.os x hx).e (s5 x hx) ⟨_, ((hos x hx).down h3).2.2.2.1⟩
  have hww : ∀ x, x ∈ ws → 0 ≤ x.at_ ∧ x.at_ ≤ 65534 ∧ 0 ≤ x.mask ∧ x.mask < 256 := fun x hx => by
    have h1 := wordsOk_in (by omega) R.wok x hx
    have h2 := (hw.w x hx).2.1
    omega
  unfold PTreeS
  have hk : k = 0 ∨ k = 1 ∨ k = 2 ∨ k = 3 := by have := R.k0; have := R.k3; omega
  refine spec_of t_patch_Tree (by simp) fun w0 I0 => ?_
  unfold c_patch_Tree
  rw [treeE_mk]
  rcases hk with rfl | rfl | rfl | rfl
  · simp
    exact frz_T0
  · obtain ⟨rfl, rfl⟩ := R.three (by omega)
    simp
    refine sc_calle rfl ((structure_spec [1] [o, nn]).soft (by simp [A.softL, A.soft, soft_uv, soft_tKs])) rfl ?_
    simp
    refine frz_is rfl ?_
    simp [u64m]
  · obtain ⟨rfl, rfl⟩ := R.three (by omega)
    simp
    refine LoopC.le (le_blank 3 [3] 3 (by simp)) ?_
    refine LoopC.le (le_list [(1, .pob [0] 1 0), (2, .pob [1] 1 0), (3, .osl [3] 1 3 0 0), (4, .sl true []), (26, wKs ws), (27, iv ws.length), (28, iv 0)] (by simp [upd])) ?_
    refine ptree_l1 (by omega) hww ws.length 0 1 _ (by simp) (by simp; rfl) (by simp; rfl) (by simp; rfl) (by simp) fun q u' H' a0 a1 a5 a3 => ?_
    simp [a0]
    refine LoopC.le (le_blank 4 [5] 3 (by simp)) ?_
    refine LoopC.le (le_list [(2, .pob [1] 1 0), (3, .osl [3] u' 3 0 ws.length), (4, .osl [5] 1 3 0 0), (49, kKs ks), (50, iv ks.length), (51, iv 0)] (by simp [upd, a5])) ?_
    refine ptree_l2 (by omega) (fun x hx => by have := hks x hx; omega) ihk' ks.length 0 _ _ (by simp) (by simp [updF_app, a1]; rfl) (by simp [updF_app, a3]; rfl) (by simp [updF_app, a5]) fun q2 u2 H2 b1 b3 b5 => ?_
    simp
    refine stop_le (le_freezeD (d := [3]) (fun _ h => h) 3 (tKs (ws.map treeW)) (fun H1 hH => frz_rowTT (by rw [hH, b3]) rfl)) ?_
    refine stop_le (le_freezeD (d := [5]) (fun _ h => h) 4 (tKs (ks.map treeK)) (fun H1 hH => frz_rowTT (by rw [hH]; simp [updF_app, b5]) rfl)) (stop_go ?_)
    simp
    refine sc_call (prow_spec _) rfl ?_
    simp
    refine sc_call (prow_spec _) rfl ?_
    simp
    refine sc_calle rfl ((structure_spec [2] [rowT' (ws.map treeW), rowT' (ks.map treeK)]).soft (by simp [A.softL, A.soft, soft_uv, soft_tKs, soft_tKf])) rfl ?_
    simp [updF_app, b1]
    refine frz_is rfl ?_
    simp [u64m, treeKs_map]
  · obtain ⟨l2, l9⟩ := R.lst rfl
    have hnum := number_spec (a := 3) (b := l) (k := 8) (by omega) (by decide) (.inl rfl) (by omega) (by omega)
    have hu : u64m (3 + 256 * l) = 3 + 2 ^ 8 * l := u64m_of (by omega) (by omega)
    rw [hu]
    generalize hN : 3 + 2 ^ 8 * l = N at hnum ⊢
    simp
    refine LoopC.le (le_blank 9 [7] 3 (by simp)) ?_
    refine LoopC.le (le_list [(1, .pob [0] 1 0), (2, .pob [1] 1 0), (9, .osl [7] 1 3 0 0), (78, oKs os), (79, iv os.length), (80, iv 0)] (by simp [upd])) ?_
    refine ptree_l3 (e := .mk 3 o nn ws ks l os) (d := d - 1) (by simp; omega) hos iho' os.length 0 1 _ (by simp) (by simp) (by simp; rfl) (by simp) fun q u' H' a0 a1 a7 => ?_
    simp
    refine stop_le (le_freezeD (d := [7]) (fun _ h => h) 9 (tKs (os.map (treeO l))) (fun H1 hH => frz_rowTT (by rw [hH, a7]; rfl) rfl)) (stop_go ?_)
    simp [updF_app, a0]
    refine sc_call hnum rfl ?_
    simp
    refine sc_call (prow_spec _) rfl ?_
    simp
    refine sc_calle rfl ((structure_spec [N] [rowT' (os.map (treeO l))]).soft (by simp [A.softL, A.soft, soft_uv, soft_tKs, soft_tKf])) rfl ?_
    simp [updF_app, a1]
    refine frz_is rfl ?_
    simp [treeOs_map]
end Go.Proofs.YthfiijdbnkaabaaGreat

/-
  The edit that a tree would be of, by the program.
-/
namespace Go.Proofs.YthfiijdbnkaabaaGreat
set_option linter.unusedVariables false
set_option linter.unusedSimpArgs false
open Go Go.G Go.Proofs Go.PL
theorem pWd_spec (t : T) (i : Nat) : G.Spec Tryz.prog 70 [tX t, iv i] (uv (wdT t i)) := treeWord_spec t i
section
variable {n0 : Nat} {w0 : World} {I0 : Nat → Prop} {Q : Exit → Sta → Prop}
end
end Go.Proofs.YthfiijdbnkaabaaGreat

/-
  Chapter 5's functions: arenas out of which words are given.
-/
namespace Go.Proofs.YthfiijdbnkaabaaGreat
set_option linter.unusedVariables false
set_option linter.unusedSimpArgs false
open Go Go.G Go.Proofs
/-- An arena: its segments, each with its row's version; the versions of its cells and of the row of segments; its numbers. -/
structure Ar where
  l : List (Nat × List Int)
  u : Nat
  ur : Nat
  size : Int
  most : Int
  used : Int
/-- As it is read. -/
def Ar.w (S : Ar) : List (List Int) := S.l.map Prod.snd
abbrev Ar.a (S : Ar) : A := arX S.w S.size S.most S.used
end Go.Proofs.YthfiijdbnkaabaaGreat

/-
  Chapter 5: calls that turn an arena.
-/
namespace Go.Proofs.YthfiijdbnkaabaaGreat
set_option linter.unusedVariables false
set_option linter.unusedSimpArgs false
open Go Go.G Go.Proofs
/-- It is as arenas are. -/
structure Ar.Ok (S : Ar) : Prop where
  used0 : 0 ≤ S.used
  used1 : S.used ≤ S.most
  most1 : S.most ≤ 131072
  size0 : 1 ≤ S.size
  size1 : S.size < 9223372036854775808
  len : S.l.length ≤ 16
  seg : ∀ e, e ∈ S.l → (e.2.length : Int) ≤ S.used
theorem Ar.Ok.szAt {S : Ar} (h : S.Ok) (s : Int) : 0 ≤ (Go.Proofs.YthfiijdbnkaabaaGreat.szAt S.w s : Int) ∧ (Go.Proofs.YthfiijdbnkaabaaGreat.szAt S.w s : Int) ≤ S.used := by
  refine ⟨by omega, ?_⟩
  unfold Go.Proofs.YthfiijdbnkaabaaGreat.szAt
  cases e : Go.Proofs.YthfiijdbnkaabaaGreat.seg S.w s with
  | none => exact h.used0
  | some g =>
    obtain ⟨_, _, h2, rfl⟩ := seg_some e
    simp only [Option.map_some, Option.getD_some]
    simp only [Ar.w, List.getElem_map]
    exact h.seg _ (List.getElem_mem _)
end Go.Proofs.YthfiijdbnkaabaaGreat

/-
  Chapter 5's definition: arenas that grow word by word.
-/
namespace Go.Proofs.YthfiijdbnkaabaaGreat
set_option linter.unusedVariables false
set_option linter.unusedSimpArgs false
open Go Go.G Go.Proofs
@[simp] theorem segS_len' {S : Ar} {k i : Nat} {f : Nat × List Int → Nat × List Int} : (S.l.modify k f).length = S.l.length := by simp
section
end
end Go.Proofs.YthfiijdbnkaabaaGreat

/-
  Chapter 13's definition: a builder over an arena.
-/
namespace Go.Proofs.YthfiijdbnkaabaaGreat
set_option linter.unusedVariables false
set_option linter.unusedSimpArgs false
open Go Go.G Go.Proofs
/-- How many words a segment holds. -/
def wl (S : Ar) (k : Nat) : Nat := ((S.l[k]?).map fun e => e.2.length).getD 0
/-- All its words are words. -/
def Wd (S : Ar) : Prop := ∀ e, e ∈ S.l → ∀ x, x ∈ e.2 → u64R x
/-- It is good, and holds no less. -/
structure Gr (S S' : Ar) : Prop where
  ok : S'.Ok
  wd : Wd S'
  wl : ∀ k, Go.Proofs.YthfiijdbnkaabaaGreat.wl S k ≤ Go.Proofs.YthfiijdbnkaabaaGreat.wl S' k
theorem Gr.trans {S S' S2 : Ar} (h : Gr S S') (k : Gr S' S2) : Gr S S2 := ⟨k.ok, k.wd, fun i => Nat.le_trans (h.wl i) (k.wl i)⟩
end Go.Proofs.YthfiijdbnkaabaaGreat

/-
  Chapter 13: what is right can be laid.
-/
namespace Go.Proofs.YthfiijdbnkaabaaGreat
set_option linter.unusedVariables false
set_option linter.unusedSimpArgs false
open Go Go.G Go.Proofs Go.PL
theorem laid_right : ∀ (t : T) (d : Nat), rightT d t = true → wfT t → t.kind ≠ 10 → LayOk (norm t) := by
  refine T.ind fun k w ks ih d hr hw h10 => ?_
  have hst := rightT_struct hr
  have hwk := (wfT_iff.1 hw).ks
  simp at h10
  rw [rightT_mk] at hr
  rw [norm_mk]
  by_cases h0 : k = 0
  · rw [if_pos h0]; exact .null _
  rw [if_neg h0] at hr ⊢
  rw [if_neg h10] at hr
  have htb : tooBig k d w.length ks.length = false := by
    cases e : tooBig k d w.length ks.length with
    | false => rfl
    | true => rw [e] at hr; simp at hr
  simp [tooBig] at htb
  by_cases h1 : k = 1
  · rw [if_pos h1]
    have hb2 := trimW_le w
    have hb3 := trimK_le (ks.map norm)
    rw [List.length_map] at hb3
    refine .str _ _ (by omega) (by omega) fun t ht => ?_
    rw [trimK_map] at ht
    obtain ⟨u, hu, rfl⟩ := List.mem_map.1 (List.mem_of_mem_take ht)
    obtain ⟨g1, g2⟩ := hst u hu
    refine ih u hu _ g1 (hwk u hu) fun e => ?_
    subst h1
    simp [kidOk, isData, e] at g2
  rw [if_neg h1]
  by_cases h8 : k = 8
  · subst h8
    refine .ptrs _ _ (by simp; omega) fun t ht => ?_
    obtain ⟨u, hu, rfl⟩ := List.mem_map.1 ht
    obtain ⟨g1, g2⟩ := hst u hu
    refine ih u hu _ g1 (hwk u hu) fun e => ?_
    simp [kidOk, isData, e] at g2
  by_cases h9 : k = 9
  · subst h9
    have kk : ∀ u, u ∈ ks → u.kind = 1 ∧ LayOk (norm u) := fun u hu => by
      obtain ⟨g1, g2⟩ := hst u hu
      have hk1 : u.kind = 1 := by
        simp [kidOk, isData] at g2
        exact g2.2
      exact ⟨hk1, ih u hu _ g1 (hwk u hu) (by omega)⟩
    have two : ∀ u, u ∈ ks → (norm u).words.length < 65536 ∧ (norm u).kids.length < 65536 ∧ ∀ c, c ∈ (norm u).kids → LayOk c := fun u hu => by
      obtain ⟨e1, hL⟩ := kk u hu
      have hkn2 : (norm u).kind = 1 := by rw [norm_kind]; exact e1
      generalize norm u = x at hL hkn2
      cases hL with
      | str w ks b1 b2 h => exact ⟨b1, b2, h⟩
      | _ => simp at hkn2 <;> omega
    refine .comp _ _ (by simp; omega) (fun t ht => ?_) fun t ht c hc => ?_
    · obtain ⟨u, hu, rfl⟩ := List.mem_map.1 ht
      exact ⟨(two u hu).1, (two u hu).2.1⟩
    · obtain ⟨u, hu, rfl⟩ := List.mem_map.1 ht
      exact (two u hu).2.2 c hc
  refine .data _ _ _ (by omega) (by omega) (by simp; omega) fun c hc => ?_
  obtain ⟨u, hu, rfl⟩ := List.mem_map.1 hc
  obtain ⟨g1, g2⟩ := hst u hu
  have hd : isData k = true := by simp [isData]; omega
  have hwu := hwk u hu
  obtain ⟨k2, w2, l2⟩ := u
  simp [kidOk, hd] at g2
  obtain ⟨⟨e1, e2⟩, e3⟩ := g2
  have e1 : k2 = 10 := of_decide_eq_true e1
  subst e1
  rw [rightT_mk, if_neg (by decide), if_pos rfl] at g1
  simp at g1
  obtain ⟨x, hx⟩ := List.length_eq_one_iff.1 g1.1
  subst hx
  have hr := (wfT_iff.1 hwu).w x (by simp)
  refine ⟨x, by rw [norm_mk]; simp, hr.1, hr.2, by simpa using e3⟩
end Go.Proofs.YthfiijdbnkaabaaGreat

/-
  Chapter 4: the statements.
-/
namespace Go.Proofs.YthfiijdbnkaabaaGreat
set_option linter.unusedVariables false
set_option linter.unusedSimpArgs false
open Go Go.G Go.Proofs
/-- Does the document give it a word? -/
def right (p : Pt) : Bool :=
  if p.kind = 0 then decide (p = ⟨0, 0, 0, 0, 0, 0, 0, false⟩)
  else if p.kind = 1 then decide (-536870912 ≤ p.off ∧ p.off < 536870912 ∧ 0 ≤ p.data ∧ p.data < 65536 ∧ 0 ≤ p.ptrs ∧ p.ptrs < 65536 ∧ p = ⟨1, p.off, p.data, p.ptrs, 0, 0, 0, false⟩ ∧ (p.off ≠ 0 ∨ p.data ≠ 0 ∨ p.ptrs ≠ 0))
  else if p.kind = 2 then decide (-536870912 ≤ p.off ∧ p.off < 536870912 ∧ 0 ≤ p.code ∧ p.code < 8 ∧ 0 ≤ p.count ∧ p.count < 536870912 ∧ p = ⟨2, p.off, 0, 0, p.code, p.count, 0, false⟩)
  else if p.kind = 3 then decide (0 ≤ p.off ∧ p.off < 536870912 ∧ 0 ≤ p.seg ∧ p.seg < 4294967296 ∧ p = ⟨3, p.off, 0, 0, 0, 0, p.seg, p.dbl⟩)
  else false
end Go.Proofs.YthfiijdbnkaabaaGreat

/-
  Chapter 4: any pointer has a word just if the document says so.
-/
namespace Go.Proofs.YthfiijdbnkaabaaGreat
set_option linter.unusedVariables false
set_option linter.unusedSimpArgs false
open Go Go.G Go.Proofs
theorem offs_of {o r : Int} (h1 : -536870912 ≤ o) (h2 : o < 536870912) (h3 : 0 ≤ r) (k : Int) (hk : 0 ≤ k) (hk4 : k < 4) : offs (o * 4 % 4294967296 + k + r * 4294967296) = o := by
  unfold offs
  split <;> omega
theorem enc_right (p : Pt) : encB p = right p := by
  obtain ⟨k, o, d, q, co, n, s, b⟩ := p
  by_cases h1 : k = 1
  · subst h1
    by_cases hr : -536870912 ≤ o ∧ o < 536870912 ∧ 0 ≤ d ∧ d ≤ 65535 ∧ 0 ≤ q ∧ q ≤ 65535
    · have e : encW ⟨1, o, d, q, co, n, s, b⟩ = o * 4 % 4294967296 + d * 4294967296 + q * 281474976710656 := by rw [encW, if_pos rfl, if_pos hr]
      obtain ⟨a1, a2, a3, a4, a5, a6⟩ := hr
      refine Bool.eq_iff_iff.2 ?_
      simp only [encB, e]
      by_cases hz : o = 0 ∧ d = 0 ∧ q = 0
      · obtain ⟨rfl, rfl, rfl⟩ := hz
        simp [dec, right]
      · have e2 : dec (o * 4 % 4294967296 + d * 4294967296 + q * 281474976710656) = ⟨1, o, d, q, 0, 0, 0, false⟩ := by
          have eo := offs_of (r := d + q * 65536) a1 a2 (by omega) 0 (by omega) (by omega)
          rw [show o * 4 % 4294967296 + 0 + (d + q * 65536) * 4294967296 = o * 4 % 4294967296 + d * 4294967296 + q * 281474976710656 from by omega] at eo
          rw [dec, if_neg (by omega), if_pos (by omega), eo]
          congr 1 <;> omega
        rw [e2]
        cases b <;> simp [right] <;> omega
    · have e : encW ⟨1, o, d, q, co, n, s, b⟩ = 0 := by rw [encW, if_pos rfl, if_neg hr]
      refine Bool.eq_iff_iff.2 ?_
      simp [encB, e, dec, right]
      omega
  by_cases h2 : k = 2
  · subst h2
    by_cases hr : -536870912 ≤ o ∧ o < 536870912 ∧ 0 ≤ co ∧ co ≤ 7 ∧ 0 ≤ n ∧ n ≤ 536870911
    · have e : encW ⟨2, o, d, q, co, n, s, b⟩ = o * 4 % 4294967296 + 1 + co * 4294967296 + n * 34359738368 := by rw [encW, if_neg (by simp), if_pos rfl, if_pos hr]
      obtain ⟨a1, a2, a3, a4, a5, a6⟩ := hr
      refine Bool.eq_iff_iff.2 ?_
      simp only [encB, e]
      have e2 : dec (o * 4 % 4294967296 + 1 + co * 4294967296 + n * 34359738368) = ⟨2, o, 0, 0, co, n, 0, false⟩ := by
        have eo := offs_of (r := co + n * 8) a1 a2 (by omega) 1 (by omega) (by omega)
        rw [show o * 4 % 4294967296 + 1 + (co + n * 8) * 4294967296 = o * 4 % 4294967296 + 1 + co * 4294967296 + n * 34359738368 from by omega] at eo
        rw [dec, if_neg (by omega), if_neg (by omega), if_pos (by omega), eo]
        congr 1 <;> omega
      rw [e2]
      cases b <;> simp [right] <;> omega
    · have e : encW ⟨2, o, d, q, co, n, s, b⟩ = 0 := by rw [encW, if_neg (by simp), if_pos rfl, if_neg hr]
      refine Bool.eq_iff_iff.2 ?_
      simp [encB, e, dec, right]
      omega
  by_cases h3 : k = 3
  · subst h3
    by_cases hr : 0 ≤ o ∧ o ≤ 536870911 ∧ 0 ≤ s ∧ s ≤ 4294967295
    · have e : encW ⟨3, o, d, q, co, n, s, b⟩ = o * 8 + 2 + s * 4294967296 + (if b = true then 4 else 0) := by rw [encW, if_neg (by simp), if_neg (by simp), if_pos rfl, if_pos hr]
      obtain ⟨a1, a2, a3, a4⟩ := hr
      refine Bool.eq_iff_iff.2 ?_
      simp only [encB, e]
      have e2 : dec (o * 8 + 2 + s * 4294967296 + (if b = true then 4 else 0)) = ⟨3, o, 0, 0, 0, 0, s, b⟩ := by
        cases b with
        | true =>
          rw [if_pos rfl, dec, if_neg (by omega), if_neg (by omega), if_neg (by omega), if_pos (by omega)]
          congr 1 <;> first | omega | (simp; omega)
        | false =>
          rw [if_neg (by simp), dec, if_neg (by omega), if_neg (by omega), if_neg (by omega), if_pos (by omega)]
          congr 1 <;> first | omega | (simp; omega)
      rw [e2]
      simp [right]
      omega
    · have e : encW ⟨3, o, d, q, co, n, s, b⟩ = 0 := by rw [encW, if_neg (by simp), if_neg (by simp), if_pos rfl, if_neg hr]
      refine Bool.eq_iff_iff.2 ?_
      simp [encB, e, dec, right]
      omega
  have e : encW ⟨k, o, d, q, co, n, s, b⟩ = 0 := by rw [encW, if_neg h1, if_neg h2, if_neg h3]
  refine Bool.eq_iff_iff.2 ?_
  simp [encB, e, dec, right, h1, h2, h3]
  by_cases h0 : k = 0
  · cases b <;> simp [h0] <;> omega
  · simp [h0]
    intro hk
    omega
end Go.Proofs.YthfiijdbnkaabaaGreat

/-
  Words of trees, as they stand alone: numbers side by side; what is given, and pointed to.
-/
namespace Go.Proofs.YthfiijdbnkaabaaGreat
set_option linter.unusedVariables false
set_option linter.unusedSimpArgs false
open Go Go.G Go.Proofs Go.PL
section
variable {n0 : Nat} {w0 : World} {I0 : Nat → Prop} {Q : Exit → Sta → Prop}
theorem pPut_l1 {c : Int} {ns : List Int} (hn : ns.length ≤ 1000000000) {w : Nat} (hw : w = 0 ∨ w = 1 ∨ w = 8 ∨ w = 16 ∨ w = 32 ∨ w = 64) (hwc : widthZ c = w) (hfit : ∀ x, x ∈ ns → u64R x ∧ fitsZ c x = true) {m : Nat} (hm : w ≠ 0 → m = (ns.length * w + 63) / 64)
    (hq : ∀ (q : Bool) (H' : Hp) (out : List Int), out = putL w ns 0 (List.replicate m 0) → H' [0] = ⟨1, .arr 1 (out.map uv)⟩ → Q (.exit 0) ⟨lk [(0, iv c), (6, nv w), (8, .osl [0] 1 1 0 m), (23, uws ns), (24, nv ns.length), (25, nv ns.length), (26, bv q)], H'⟩) :
    ∀ (j i : Nat) (out : List Int) (H : Hp), i + j = ns.length → out.length = m → (w ≠ 0 → PutI w i out) → putL w (ns.drop i) i out = putL w ns 0 (List.replicate m 0) → H [0] = ⟨1, .arr 1 (out.map uv)⟩ →
    LoopC (cx Tryz.prog w0 I0 n0) l1_word_Put Q ⟨lk [(0, iv c), (6, nv w), (8, .osl [0] 1 1 0 m), (23, uws ns), (24, nv ns.length), (25, nv i)], H⟩ := by
  have hw64 : w ≤ 64 := by omega
  intro j
  induction j with
  | zero =>
    intro i out H hi hl hI hp hH
    have : i = ns.length := by omega
    subst this
    rw [List.drop_eq_nil_of_le (Nat.le_refl _), putL] at hp
    refine loopC_once mixed l1_word_Put.eq_1 ?_
    simp
    exact hq _ H out hp hH
  | succ j ih =>
    intro i out H hi hl hI hp hH
    have hlt : i < ns.length := by omega
    have ei : IntKind.i64.wrap ((i : Int) + 1) = ((i + 1 : Nat) : Int) := i64_same (by omega) (by omega)
    obtain ⟨f1, f2⟩ := hfit _ (List.getElem_mem hlt)
    have f1' := f1
    unfold u64R at f1'
    have hx2 := fits_lt hwc f1'.1 f2
    obtain ⟨e1, e2, e3⟩ := prod_mod (i := i) hw64 (by omega)
    rw [List.drop_eq_getElem_cons hlt, putL] at hp
    refine loopC_once mixed l1_word_Put.eq_1 ?_
    simp [hlt]
    refine sc_call (pFits_spec f1) (by simp) ?_
    simp [f2]
    by_cases h0 : w = 0
    · subst h0
      rw [if_pos rfl] at hp
      simp [ei]
      exact ih (i + 1) out H (by omega) hl (fun h => absurd rfl h) hp hH
    · rw [if_neg h0] at hp
      have hat : i * w / 64 < out.length := by rw [hl, hm h0]; exact put_at (by omega) hlt
      obtain ⟨p1, p2, p3, p4, p5⟩ := putI_step (hI h0) (by omega) f1'.1 hx2 hat
      have hw0 : (0 : Int) < w := by omega
      have hw0' : 0 < w := by omega
      have hg : out.getD (i * w / 64) 0 = out[i * w / 64] := by simp [hat]
      have hatm : i * w / 64 < m := by omega
      rw [hg] at p1 p2 p3 p5 hp
      have hnn := Int.mul_nonneg f1'.1 (show (0 : Int) ≤ 2 ^ (i * w % 64) from Int.le_of_lt (Int.pow_pos (by decide)))
      have hs64 : i * w % 64 < 64 := Nat.mod_lt _ (by decide)
      have esh : IntKind.u64.wrap (ns[i] * 2 ^ min (i * w % 64) IntKind.u64.bits) = ns[i] * 2 ^ (i * w % 64) := by
        rw [show min (i * w % 64) IntKind.u64.bits = i * w % 64 from by simp [IntKind.bits]; omega]
        exact u64_same hnn p4
      have hor : bits .or .u64 out[i * w / 64] (ns[i] * 2 ^ (i * w % 64)) = out[i * w / 64] + ns[i] * 2 ^ (i * w % 64) :=
        u64_or' (i * w % 64) p2 p3 (by omega) hnn (Int.mul_emod_left _ _) p4
      have him : i * w ≤ 1000000000 * 64 := Nat.mul_le_mul (by omega) hw64
      have eP : IntKind.i64.wrap ((i * w / 64 : Nat) : Int) = ((i * w / 64 : Nat) : Int) := i64_same (by omega) (by omega)
      have eS : IntKind.i64.wrap ((i * w % 64 : Nat) : Int) = ((i * w % 64 : Nat) : Int) := i64_same (by omega) (by omega)
      generalize i * w % 64 = s at *
      generalize i * w / 64 = P at *
      simp [hw0', e1, e2, e3, hH, hat, hatm, eP, eS, esh, hor, ei]
      refine ⟨?_, fun h => absurd h h0⟩
      refine ih (i + 1) (out.set P (out[P] + ns[i] * 2 ^ s)) _ (by omega) (by simpa using hl) (fun _ => p1) hp ?_
      simp [List.map_set]
end
theorem pPut_spec {c : Int} (c0 : 0 ≤ c) (c6 : c < 6) {ns : List Int} (hn : ns.length ≤ 1000000000) (hfit : ∀ x, x ∈ ns → u64R x ∧ fitsZ c x = true) : G.Spec Tryz.prog 99 [iv c, uws ns] (.tup [uws (putZ c ns), bv true]) := by
  obtain ⟨w, w1, w2, w3⟩ := width_cases c0 c6
  have hroom : roomZ c ns.length = (((ns.length * w + 63) / 64 : Nat) : Int) := by
    unfold roomZ
    rw [if_neg (by omega), w2]
    have e : (ns.length : Int) * w = ((ns.length * w : Nat) : Int) := by rw [Int.natCast_mul]
    rw [e]
    omega
  have hm : (roomZ c ns.length).toNat = (ns.length * w + 63) / 64 := by rw [hroom]; omega
  have hb : (ns.length * w + 63) / 64 ≤ 1000000001 := by
    have : ns.length * w ≤ 1000000000 * 64 := Nat.mul_le_mul hn (by omega)
    omega
  refine spec_of t_word_Put (by simp) fun w0 I0 => ?_
  unfold c_word_Put
  simp
  refine sc_call (width_spec c) rfl ?_
  rw [w1]
  have hnn : ¬ (w : Int) < 0 := by omega
  simp [hnn]
  refine sc_call (room_spec' c ns.length) (by simp) ?_
  rw [hroom]
  generalize hM : (ns.length * w + 63) / 64 = m at *
  have hm8 : (m : Int) * 8 ≤ 140737488355328 := by omega
  have hz : putZ c ns = putL w ns 0 (List.replicate m 0) := by
    unfold putZ
    rw [w1, hm]
    simp
  rw [hz]
  simp [hm8]
  refine ⟨by omega, ?_⟩
  refine pPut_l1 hn w3 w1 hfit (m := m) (fun _ => hM.symm) (fun q H' out ho hH => ?_) ns.length 0 (List.replicate m 0) _ (by omega) (by simp) (fun _ => PutI.start w m) (by simp) ?_
  rotate_left
  · simp
  subst ho
  simp
  refine frz_tup ?_
  simp
  exact ⟨frz_row (f := uv) (by rw [hH]; simp) (by simp [putL_length]) (fun x => by simp), frz_bare rfl⟩
/-! ### a writer -/
def wrF (r : Nat) (S : Cp) : Nm → VOb
  | [] => ⟨1, .cells [.osl [r, 0] S.v 1 0 S.W.length]⟩
  | [0] => ⟨S.v, .arr 1 (S.W.map uv)⟩
  | _ => ⟨0, .none⟩
@[simp] theorem wrF_nil {r : Nat} {S : Cp} : wrF r S [] = ⟨1, .cells [.osl [r, 0] S.v 1 0 S.W.length]⟩ := rfl
@[simp] theorem wrF_0 {r : Nat} {S : Cp} : wrF r S [0] = ⟨S.v, .arr 1 (S.W.map uv)⟩ := rfl
theorem wrF_but {r : Nat} {S S' : Cp} {p : Nm} (h0 : p ≠ []) (h1 : p ≠ [0]) : wrF r S p = wrF r S' p := by
  match p, h0, h1 with
  | [], h, _ => exact absurd rfl h
  | [0], _, h => exact absurd rfl h
  | 0 :: a :: q, _, _ => rfl
  | (a + 1) :: q, _, _ => rfl
def wrM (S : Cp) : Fam := ⟨fun r => wrF r S, fun {g δ r r'} hg hd p => by
    match p with
    | [] => simp [VOb.ren, Ob.ren, A.renL, A.ren, hg, hd]
    | [0] => exact Fam.arr_ren (renL_uv _)
    | 0 :: a :: q => rfl
    | (a + 1) :: q => rfl, fun {D r} hD p => by
    match p with
    | [] => simp [Ob.refs, A.refsL, A.refs, hD]
    | [0] =>
      refine refsL_iff.2 fun x hx => ?_
      obtain ⟨c, _, rfl⟩ := List.mem_map.1 hx
      trivial
    | 0 :: a :: q => trivial
    | (a + 1) :: q => trivial⟩
@[simp] theorem wrM_F {S : Cp} {r : Nat} : (wrM S).F r = wrF r S := rfl
theorem wGive_spec (S : Cp) (hS : S.W.length ≤ 131072) (n : Nat) (hn : n ≤ 1000000) : SpecF Tryz.prog 62 (fun r => [.pob [r] 1 0, nv n]) (wrM S) (fun _ => nv S.W.length) (wrM ⟨S.v + 1, S.W ++ List.replicate n 0⟩) := by
  refine specF_of t_canon_writer_give (by simp) (famL_cons famA_pob (famL_cons famA_v famL_nil)) famA_v fun w0 I0 M0 m0 => ?_
  unfold c_canon_writer_give
  have hle : (S.W.length + n) * 8 ≤ 140737488355328 := by omega
  have hn1 : (n : Int) * 8 ≤ 140737488355328 := by omega
  simp [updF_app, hle, hn1]
  refine reth_fam rfl rfl fun p => ?_
  refine updF_is ?_ (fun h1 => updF_is ?_ (fun h2 => wrF_but h1 h2))
  · simp
  · simp [List.take_of_length_le]
theorem wpoint_k1 {n : Nat} {w0 : World} {I0 : Nat → Prop} {M0 : Nm → Nat → Prop} {m0 : Mu} {S : Cp} {q : Pt} {a : Nat} {t : A} (ha : a < S.W.length) {H : Hp} (hH : ∀ p, H (0 :: p) = wrF 0 S p) (hP : H [1] = ⟨1, .cells (ptL q)⟩) :
    WPC (cxh Tryz.prog w0 I0 M0 n m0) k1_canon_writer_point (RetH (cxh Tryz.prog w0 I0 M0 n m0) [.tmp 8] 1 (bv (encB q)) (ov 0 (wrF 0 ⟨S.v, S.W.set a (encW q)⟩) (lkH []))) ⟨lk [(0, .pob [0] 1 0), (1, nv a), (7, .pob [1] 1 0)], H⟩ := by
  unfold k1_canon_writer_point
  have ha' : (a : Int) < S.W.length := by omega
  simp [hP, hH]
  refine sc_call (Encode_spec q) (by simp) ?_
  simp [hH, ha]
  refine reth_famN rfl rfl fun p => ?_
  by_cases h0 : p = [0]
  · subst h0
    simp [updF_app, List.map_set]
  · by_cases h1 : p = []
    · subst h1
      simp [updF_app, hH]
    · simp only [updF_app]
      rw [if_neg (by simpa using h0), hH]
      exact wrF_but h1 h0
theorem wPoint_spec (S : Cp) {a : Nat} (ha : a < S.W.length) (ha2 : a ≤ 200000) {to : Int} (t0 : 0 ≤ to) (t1 : to ≤ 200000) (p : Pt) (d0 : 0 ≤ p.data) (d1 : p.data ≤ 200000) (k0 : 0 ≤ p.ptrs) (k1 : p.ptrs ≤ 200000) :
    SpecF Tryz.prog 95 (fun r => [.pob [r] 1 0, nv a, iv to, p.a]) (wrM S) (fun _ => bv (encB (ptQ p a to))) (wrM ⟨S.v, S.W.set a (encW (ptQ p a to))⟩) := by
  refine specF_of t_canon_writer_point (by simp) (famL_cons famA_pob (famL_cons famA_v (famL_cons famA_v (famL_cons (famA_agg (FamL.all fun x hx => ?_)) famL_nil)))) famA_v fun w0 I0 M0 m0 => ?_
  · simp at hx
    rcases hx with rfl | rfl | rfl | rfl | rfl | rfl | rfl | rfl <;> simp
  unfold c_canon_writer_point
  have e1 : IntKind.i64.wrap (to - (a : Int)) = to - a := i64_same (by omega) (by omega)
  have e2 : IntKind.i64.wrap (to - (a : Int) - 1) = to - a - 1 := i64_same (by omega) (by omega)
  have e3 : IntKind.i64.wrap (p.data + p.ptrs) = p.data + p.ptrs := i64_same (by omega) (by omega)
  obtain ⟨kind, off, data, ptrs, code, count, sg, dbl⟩ := p
  simp only at d0 d1 k0 k1 e3
  by_cases h1 : kind = 1
  · subst h1
    by_cases h2 : data + ptrs = 0
    · have hq : ptQ ⟨1, off, data, ptrs, code, count, sg, dbl⟩ a to = ⟨1, -1, data, ptrs, code, count, sg, dbl⟩ := by simp [ptQ, h2]
      rw [h2] at e3
      simp [e1, e2, e3, h2, updF_app, Pt.a]
      rw [hq]
      exact wpoint_k1 (t := .any) ha (fun p => by simp) (by simp)
    · have hq : ptQ ⟨1, off, data, ptrs, code, count, sg, dbl⟩ a to = ⟨1, to - a - 1, data, ptrs, code, count, sg, dbl⟩ := by simp [ptQ, h2]
      simp [e1, e2, e3, h2, updF_app, Pt.a]
      rw [hq]
      exact wpoint_k1 (t := .any) ha (fun p => by simp) (by simp)
  · have hq : ptQ ⟨kind, off, data, ptrs, code, count, sg, dbl⟩ a to = ⟨kind, to - a - 1, data, ptrs, code, count, sg, dbl⟩ := by simp [ptQ, h1]
    simp [e1, e2, e3, h1, updF_app, Pt.a]
    rw [hq]
    exact wpoint_k1 (t := .any) ha (fun p => by simp) (by simp)
/-- These pointers stand. -/
theorem encB_str {at_ to w k : Int} (h0 : 0 ≤ at_) (h1 : at_ ≤ 200000) (h2 : 0 ≤ to) (h3 : to ≤ 200000) (hlt : at_ < to) (w0 : 0 ≤ w) (w1 : w < 65536) (k0 : 0 ≤ k) (k1 : k < 65536) : encB (ptQ ⟨1, 0, w, k, 0, 0, 0, false⟩ at_ to) = true := by
  rw [enc_right]
  by_cases hz : w + k = 0
  · have e : ptQ ⟨1, 0, w, k, 0, 0, 0, false⟩ at_ to = ⟨1, -1, w, k, 0, 0, 0, false⟩ := by simp [ptQ, hz]
    rw [e]
    simp [right]
    omega
  · have e : ptQ ⟨1, 0, w, k, 0, 0, 0, false⟩ at_ to = ⟨1, to - at_ - 1, w, k, 0, 0, 0, false⟩ := by simp [ptQ, hz]
    rw [e]
    simp [right]
    omega
theorem encB_list {at_ to c n : Int} (h0 : 0 ≤ at_) (h1 : at_ ≤ 200000) (h2 : 0 ≤ to) (h3 : to ≤ 200000) (c0 : 0 ≤ c) (c1 : c ≤ 7) (n0 : 0 ≤ n) (n1 : n < 536870912) : encB (ptQ ⟨2, 0, 0, 0, c, n, 0, false⟩ at_ to) = true := by
  rw [enc_right]
  have e : ptQ ⟨2, 0, 0, 0, c, n, 0, false⟩ at_ to = ⟨2, to - at_ - 1, 0, 0, c, n, 0, false⟩ := by simp [ptQ]
  rw [e]
  simp [right]
  omega
end Go.Proofs.YthfiijdbnkaabaaGreat

/-
  Words of trees, as they stand alone: kids, structs, lists of structs, numbers, trees.
-/
namespace Go.Proofs.YthfiijdbnkaabaaGreat
set_option linter.unusedVariables false
set_option linter.unusedSimpArgs false
open Go Go.G Go.Proofs Go.PL
@[simp] theorem elems_sl {H : Hp} {s : Nat} {f : Bool} {xs : List A} : elemsA H s (.sl f xs) = if lens s xs = true then some xs else none := rfl
theorem setW_eq : ∀ (ws : List Int) (b : Nat) (l : List Int), b + ws.length ≤ l.length → setW b ws l = l.take b ++ ws ++ l.drop (b + ws.length)
  | [], b, l, h => by simp [setW]
  | x :: ws, b, l, h => by
    simp only [List.length_cons] at h
    rw [setW, setW_eq ws (b + 1) _ (by simp; omega)]
    have e1 : (l.set b x).take (b + 1) = l.take b ++ [x] := by
      rw [List.take_succ_eq_append_getElem (by simp; omega), List.getElem_set_self, List.take_set_of_le (Nat.le_refl _)]
    have e2 : (l.set b x).drop (b + 1 + ws.length) = l.drop (b + (ws.length + 1)) := by
      rw [List.drop_set_of_lt (by omega)]
      congr 1
      omega
    rw [e1, e2]
    simp
theorem famA_tXw (t : T) : FamA (fun _ => tX t) := famA_bare rfl fun y hy => by
  simp at hy
  rcases hy with rfl | rfl | rfl <;> rfl
theorem faW (t : T) (a : Nat) : FamL (fun r => [.pob [r] 1 0, nv a, tX t]) := famL_cons famA_pob (famL_cons famA_v (famL_cons (famA_tXw t) famL_nil))
theorem faW2 (t : T) (a w : Nat) : FamL (fun r => [.pob [r] 1 0, nv a, nv w, tX t]) := famL_cons famA_pob (famL_cons famA_v (famL_cons famA_v (famL_cons (famA_tXw t) famL_nil)))
/-- A tree is laid. -/
def WVS (t : T) : Prop := LayOk t → ∀ (S : Cp) (a : Nat), a < S.W.length → (S.W.length : Int) + sizeT t ≤ 131072 →
  ∃ v' : Nat, SpecF Tryz.prog 61 (fun q => [.pob [q] 1 0, nv a, tX t]) (wrM S) (fun _ => bv true) (wrM ⟨v', layT t a S.W⟩)
def WKS (t : T) : Prop := (∀ u, u ∈ t.kids → LayOk u) → ∀ (S : Cp) (a : Nat), a + t.kids.length ≤ S.W.length → (S.W.length : Int) + sizeL t.kids ≤ 131072 →
  ∃ v' : Nat, SpecF Tryz.prog 98 (fun q => [.pob [q] 1 0, nv a, tX t]) (wrM S) (fun _ => bv true) (wrM ⟨v', layL t.kids a S.W⟩)
def WFS (t : T) : Prop := (∀ u, u ∈ t.kids → LayOk u) → ∀ (S : Cp) (a w : Nat), t.words.length ≤ w → w ≤ 131072 → a + w + t.kids.length ≤ S.W.length → (S.W.length : Int) + sizeL t.kids ≤ 131072 →
  ∃ v' : Nat, SpecF Tryz.prog 96 (fun q => [.pob [q] 1 0, nv a, nv w, tX t]) (wrM S) (fun _ => bv true) (wrM ⟨v', layL t.kids (a + w) (setW a t.words S.W)⟩)
theorem layT_le (t : T) (a : Nat) (l : List Int) : l.length ≤ (layT t a l).length := (lay_ls t).1.2 a l
theorem wkids_l1 {t : T} {a : Nat} (hk : t.kids.length ≤ 200000) (ih : ∀ c, c ∈ t.kids → WVS c) (hlay : ∀ u, u ∈ t.kids → LayOk u) : ∀ (j i : Nat) (S : Cp), i + j = t.kids.length → a + t.kids.length ≤ S.W.length → (S.W.length : Int) + sizeL (t.kids.drop i) ≤ 131072 →
    ∃ v' : Nat, ∀ {n0 : Nat} {w0 : World} {I0 : Nat → Prop} {M0 : Nm → Nat → Prop} {m0 : Mu} {Q : Exit → Sta → Prop} (H : Hp), (∀ p, H (0 :: p) = wrF 0 S p) →
      (∀ q H', (∀ p, H' (0 :: p) = wrF 0 ⟨v', layL (t.kids.drop i) (a + i) S.W⟩ p) → Q (.exit 0) ⟨lk [(0, .pob [0] 1 0), (1, nv a), (10, tKs t.kids), (11, nv t.kids.length), (12, nv t.kids.length), (13, bv q)], H'⟩) →
      LoopC (cxh Tryz.prog w0 I0 M0 n0 m0) l1_canon_writer_kids Q ⟨lk [(0, .pob [0] 1 0), (1, nv a), (10, tKs t.kids), (11, nv t.kids.length), (12, nv i)], H⟩ := by
  intro j
  induction j with
  | zero =>
    intro i S hi ha hS
    have : i = t.kids.length := by omega
    subst this
    have hd : t.kids.drop t.kids.length = [] := List.drop_eq_nil_of_le (Nat.le_refl _)
    refine ⟨S.v, fun H hH hq => ?_⟩
    rw [hd] at hq
    refine loopC_once mixed l1_canon_writer_kids.eq_1 ?_
    simp
    exact hq _ H (by simpa using hH)
  | succ j ihj =>
    intro i S hi ha hS
    have hlt : i < t.kids.length := by omega
    have hdr : t.kids.drop i = t.kids[i] :: t.kids.drop (i + 1) := List.drop_eq_getElem_cons hlt
    have hm := List.getElem_mem hlt
    have hle := layT_le t.kids[i] (a + i) S.W
    have hlen := (lay_len _).1 (hlay _ hm) (a + i) S.W
    have hrest := sizeL_nonneg (ts := t.kids.drop (i + 1)) fun u hu => hlay u (List.mem_of_mem_drop hu)
    rw [hdr] at hS ⊢
    simp only [sizeL_cons, layL_cons] at hS ⊢
    obtain ⟨v1, q4⟩ := ih _ hm (hlay _ hm) S (a + i) (by omega) (by omega)
    obtain ⟨v2, p4⟩ := ihj (i + 1) ⟨v1, layT t.kids[i] (a + i) S.W⟩ (by omega) (by simp only; omega) (by simp only; omega)
    have hn0 := (size_nonneg t.kids[i]).1 (hlay _ hm)
    have ei : IntKind.i64.wrap ((i : Int) + 1) = ((i + 1 : Nat) : Int) := i64_same (by omega) (by omega)
    have ea : IntKind.i64.wrap ((a : Int) + i) = ((a + i : Nat) : Int) := i64_same (by omega) (by omega)
    refine ⟨v2, fun H hH hq => ?_⟩
    refine loopC_once mixed l1_canon_writer_kids.eq_1 ?_
    simp [hlt, ea, updF_app]
    refine sc_fam 0 q4 (fun p => by simp [updF_app, hH]) (by simp) (by simp) ?_
    simp [ei]
    exact p4 _ (fun p => by simp) hq
theorem wKids_spec {t : T} (ih : ∀ c, c ∈ t.kids → WVS c) : WKS t := fun hlay S a ha hS => by
  have hn := sizeL_nonneg hlay
  obtain ⟨v', q4⟩ := wkids_l1 (t := t) (a := a) (by omega) ih hlay t.kids.length 0 S (by omega) ha (by simpa using hS)
  refine ⟨v', specF_of t_canon_writer_kids (by simp) (faW t a) famA_v fun w0 I0 M0 m0 => ?_⟩
  unfold c_canon_writer_kids
  simp
  refine q4 _ (fun p => by simp) (fun q H' hH => ?_)
  simp
  exact reth_fam rfl rfl (by simpa using hH)
theorem wStruct_spec {t : T} (ih : ∀ c, c ∈ t.kids → WVS c) : WFS t := fun hlay S a w hw hw2 ha hS => by
  obtain ⟨v', q4⟩ := wKids_spec ih hlay ⟨S.v, setW a t.words S.W⟩ (a + w) (by simpa using ha) (by simpa using hS)
  have hn := sizeL_nonneg hlay
  refine ⟨v', specF_of t_canon_writer_structure (by simp) (faW2 t a w) famA_v fun w0 I0 M0 m0 => ?_⟩
  have ew : IntKind.i64.wrap ((a : Int) + w) = ((a + w : Nat) : Int) := i64_same (by omega) (by omega)
  have ha1 : a ≤ S.W.length := by omega
  have ha2 : (a : Int) ≤ S.W.length := by omega
  have hmin : min t.words.length (S.W.length - a) = t.words.length := by omega
  have hfit : a + (S.W.length - a) ≤ S.W.length := by omega
  unfold c_canon_writer_structure
  simp [ha1, ha2, hmin, hfit, ew]
  refine sc_fam 0 q4 (fun p => ?_) (by simp) (by simp) ?_
  · simp only [ov_cons, if_true, wrM_F]
    refine updF_is ?_ (fun h1 => ?_)
    · have e : List.take t.words.length (t.words.map uv) = t.words.map uv := List.take_of_length_le (by simp)
      simp [setW_eq _ _ _ (show a + t.words.length ≤ S.W.length by omega), List.map_take, List.map_drop, e]
    · by_cases h0 : p = []
      · subst h0; simp
      · exact wrF_but h0 h1
  simp
  exact reth_fam rfl rfl (by simp)
/-! ### lists of structs -/
theorem tag_ok (n w k : Nat) (hn : n < 536870912) (hw : w < 65536) (hk : k < 65536) : encB ⟨1, n, w, k, 0, 0, 0, false⟩ = !decide ((n : Int) + ((w : Int) + k) = 0) := by
  rw [enc_right]
  by_cases hz : n + (w + k) = 0
  · obtain rfl : n = 0 := by omega
    obtain rfl : w = 0 := by omega
    obtain rfl : k = 0 := by omega
    simp [right]
  · have h1 : ¬ ((n : Int) + ((w : Int) + k) = 0) := by omega
    have h2 : (n : Int) ≠ 0 ∨ (w : Int) ≠ 0 ∨ (k : Int) ≠ 0 := by omega
    unfold right
    rw [if_neg (by simp), if_pos rfl]
    simp only [h1, decide_false, Bool.not_false]
    exact decide_eq_true ⟨by omega, by omega, by omega, by omega, by omega, by omega, trivial, h2⟩
theorem wcomp_l1 {t : T} (hk : t.kids.length ≤ 536870912) (ih : ∀ c, c ∈ t.kids → WFS c) (hlay : ∀ c, c ∈ t.kids → ∀ u, u ∈ c.kids → LayOk u) {w long to : Nat} {x : A} {v1 : VOb} (hw : ∀ c, c ∈ t.kids → c.words.length ≤ w ∧ w + c.kids.length ≤ long) (hw2 : w ≤ 65536) : ∀ (j i : Nat) (S : Cp), i + j = t.kids.length → to + 1 + t.kids.length * long ≤ S.W.length → (S.W.length : Int) + sizeLL (t.kids.drop i) ≤ 131072 →
    ∃ v' : Nat, ∀ {n0 : Nat} {w0 : World} {I0 : Nat → Prop} {M0 : Nm → Nat → Prop} {m0 : Mu} {Q : Exit → Sta → Prop} (H : Hp), (∀ p, H (0 :: p) = wrF 0 S p) → H [1] = v1 →
      (∀ q H', (∀ p, H' (0 :: p) = wrF 0 ⟨v', cpC w long (t.kids.drop i) (to + 1 + i * long) S.W⟩ p) → H' [1] = v1 → Q (.exit 0) ⟨lk [(0, .pob [0] 1 0), (5, .pob [1] 1 0), (7, nv w), (9, nv long), (11, x), (12, nv to), (62, tKs t.kids), (63, nv t.kids.length), (64, nv t.kids.length), (65, bv q)], H'⟩) →
      LoopC (cxh Tryz.prog w0 I0 M0 n0 m0) l1_canon_writer_composite Q ⟨lk [(0, .pob [0] 1 0), (5, .pob [1] 1 0), (7, nv w), (9, nv long), (11, x), (12, nv to), (62, tKs t.kids), (63, nv t.kids.length), (64, nv i)], H⟩ := by
  intro j
  induction j with
  | zero =>
    intro i S hi ha hS
    have : i = t.kids.length := by omega
    subst this
    have hd : t.kids.drop t.kids.length = [] := List.drop_eq_nil_of_le (Nat.le_refl _)
    refine ⟨S.v, fun H hH h1 hq => ?_⟩
    rw [hd] at hq
    refine loopC_once mixed l1_canon_writer_composite.eq_1 ?_
    simp
    exact hq _ H (by simpa [cpC] using hH) h1
  | succ j ihj =>
    intro i S hi ha hS
    have hlt : i < t.kids.length := by omega
    have hdr : t.kids.drop i = t.kids[i] :: t.kids.drop (i + 1) := List.drop_eq_getElem_cons hlt
    have hm := List.getElem_mem hlt
    have hil : (i + 1) * long ≤ t.kids.length * long := Nat.mul_le_mul_right _ (by omega)
    rw [Nat.add_mul, Nat.one_mul] at hil
    obtain ⟨w1, w2⟩ := hw _ hm
    have hlen := layL_len (hlay _ hm) (to + 1 + i * long + w) (setW (to + 1 + i * long) t.kids[i].words S.W)
    rw [setW_length] at hlen
    have hrest : 0 ≤ sizeLL (t.kids.drop (i + 1)) := sizeLL_nonneg fun u hu => hlay u (List.mem_of_mem_drop hu)
    have hk0 := sizeL_nonneg (hlay _ hm)
    rw [hdr] at hS ⊢
    simp only [sizeLL_cons, cpC] at hS ⊢
    obtain ⟨v1', q4⟩ := ih _ hm (hlay _ hm) S (to + 1 + i * long) w w1 (by omega) (by omega) (by omega)
    obtain ⟨v2, p4⟩ := ihj (i + 1) ⟨v1', layL t.kids[i].kids (to + 1 + i * long + w) (setW (to + 1 + i * long) t.kids[i].words S.W)⟩ (by omega) (by simp only; omega) (by simp only; omega)
    rw [show to + 1 + (i + 1) * long = to + 1 + i * long + long from by rw [Nat.add_mul, Nat.one_mul]; omega] at p4
    have ei : IntKind.i64.wrap ((i : Int) + 1) = ((i + 1 : Nat) : Int) := i64_same (by omega) (by omega)
    have em : IntKind.i64.wrap ((i : Int) * long) = ((i * long : Nat) : Int) := by
      rw [Int.natCast_mul]
      have : (i : Int) * long = ((i * long : Nat) : Int) := by rw [Int.natCast_mul]
      exact i64_same (by omega) (by omega)
    have et : IntKind.i64.wrap ((to : Int) + 1) = ((to + 1 : Nat) : Int) := i64_same (by omega) (by omega)
    have ea : IntKind.i64.wrap ((to : Int) + 1 + (i : Int) * long) = (to : Int) + 1 + (i : Int) * long := by
      have : (i : Int) * long = ((i * long : Nat) : Int) := by rw [Int.natCast_mul]
      exact i64_same (by omega) (by omega)
    refine ⟨v2, fun H hH h1 hq => ?_⟩
    refine loopC_once mixed l1_canon_writer_composite.eq_1 ?_
    simp [hlt, em, et, ea, updF_app]
    refine sc_fam 0 q4 (fun p => by simp [updF_app, hH]) (by simp) (by simp) ?_
    simp [ei]
    exact p4 _ (fun p => by simp) (by simp [updF_app, h1]) hq
theorem wComp_spec {t : T} (hk : t.kind = 9) (hok : LayOk t) (ih : ∀ c, c ∈ t.kids → WFS c) (S : Cp) (a : Nat) (ha : a < S.W.length) (hS : (S.W.length : Int) + sizeT t ≤ 131072) :
    ∃ v' : Nat, SpecF Tryz.prog 97 (fun q => [.pob [q] 1 0, nv a, tX t]) (wrM S) (fun _ => bv true) (wrM ⟨v', layT t a S.W⟩) := by
  obtain ⟨k, ws, ks⟩ := t
  simp at hk
  subst hk
  simp only [T.kids_mk] at ih
  cases hok with
  | data k w ks h1 h2 => exact absurd h2 (by decide)
  | comp w ks hn hsz hlay =>
    have hbound := frame_bound (ts := ks) (w := 65535) (k := 65535) fun u hu => by have := hsz u hu; omega
    have hcond : ∀ c, c ∈ ks → c.words.length ≤ frameW ks ∧ frameW ks + c.kids.length ≤ frameW ks + frameK ks := fun c hc => by
      have h1 := frameW_le hc
      have h2 := frameK_le hc
      omega
    have hcond2 : ∀ c, c ∈ ks → c.words.length ≤ frameW ks ∧ c.kids.length ≤ frameK ks := fun c hc => ⟨frameW_le hc, frameK_le hc⟩
    have hLL : 0 ≤ sizeLL ks := sizeLL_nonneg hlay
    have hfr := tFrame_spec (.mk 9 ws ks) (by simp; omega)
    simp only [T.kids_mk] at hfr
    have eT : sizeT (.mk 9 ws ks) = 1 + ks.length * ((frameW ks : Int) + frameK ks) + sizeLL ks := by
      rw [sizeT_mk]
      simp
    have hlay9 : ∀ W, layT (.mk 9 ws ks) a W = layC (frameW ks) (frameK ks) ks (W.length + 1) (W.set a (ptrZ a W.length 1 (7 + 8 * (ks.length * (frameW ks + frameK ks) : Nat))) ++ [4 * (ks.length : Int) + 4294967296 * ((frameW ks : Int) + 65536 * frameK ks)] ++ rowsC (frameW ks) (frameK ks) ks) := fun W => by
      rw [layT_mk, if_neg (by decide), if_neg (by decide), if_neg (by decide), if_pos rfl]
    have hl1 := fun x v1 => wcomp_l1 (t := .mk 9 ws ks) (by simp; omega) ih hlay (w := frameW ks) (long := frameW ks + frameK ks) (to := S.W.length) (x := x) (v1 := v1) hcond (by omega) ks.length 0
    have hc2 := cpC_eq (w := frameW ks) (k := frameK ks) ks
    have hf2 := fillC_app (w := frameW ks) (k := frameK ks) ks
    rw [eT] at hS
    simp only [hlay9]
    clear hlay9 eT hcond
    generalize frameW ks = w at *
    generalize frameK ks = k at *
    have hnl : ks.length * (w + k) ≤ 536870912 * 131070 := Nat.mul_le_mul (by omega) (by omega)
    have hcast : (ks.length : Int) * ((w : Int) + k) = ((ks.length * (w + k) : Nat) : Int) := by rw [Int.natCast_mul, Int.natCast_add]
    rw [hcast] at hS
    have hzero : ks.length + (w + k) = 0 → ks.length * (w + k) = 0 := fun h => by rw [show ks.length = 0 from by omega]; simp
    generalize hL : ks.length * (w + k) = L at *
    have e1 : IntKind.i64.wrap ((w : Int) + k) = (w : Int) + k := i64_same (by omega) (by omega)
    have e2 : IntKind.i64.wrap ((ks.length : Int) * ((w : Int) + k)) = (L : Int) := by rw [hcast]; exact i64_same (by omega) (by omega)
    have e3 : IntKind.i64.wrap (1 + (L : Int)) = ((1 + L : Nat) : Int) := (i64_same (by omega) (by omega)).trans (by omega)
    have e4 : IntKind.i64.wrap ((ks.length : Int) + ((w : Int) + k)) = (ks.length : Int) + ((w : Int) + k) := i64_same (by omega) (by omega)
    have hG := wGive_spec S (by omega) (1 + L) (by omega)
    have hE := Encode_spec ⟨1, ks.length, w, k, 0, 0, 0, false⟩
    have htag : encW ⟨1, ks.length, w, k, 0, 0, 0, false⟩ = 4 * (ks.length : Int) + 4294967296 * ((w : Int) + 65536 * k) := by
      unfold encW
      simp only
      rw [if_pos trivial, if_pos (by omega)]
      omega
    have hB := tag_ok ks.length w k hn (by omega) (by omega)
    rw [htag, hB] at hE
    have hP := wPoint_spec ⟨S.v + 1, (S.W ++ List.replicate (1 + L) 0).set S.W.length (4 * (ks.length : Int) + 4294967296 * ((w : Int) + 65536 * k))⟩ (a := a) (by simp; omega) (by omega) (to := (S.W.length : Int)) (by omega) (by omega) ⟨2, 0, 0, 0, 7, L, 0, false⟩ (by simp) (by simp) (by simp) (by simp)
    rw [enc_list (by omega) (by omega) (by omega) (by omega) (by omega) (by omega) (by omega) (by omega), encB_list (by omega) (by omega) (by omega) (by omega) (by omega) (by omega) (by omega) (by omega)] at hP
    have hW3 : ((S.W ++ List.replicate (1 + L) 0).set S.W.length (4 * (ks.length : Int) + 4294967296 * ((w : Int) + 65536 * k))).set a (ptrZ a S.W.length 1 (7 + 8 * (L : Int))) = (S.W.set a (ptrZ a S.W.length 1 (7 + 8 * (L : Int))) ++ [4 * (ks.length : Int) + 4294967296 * ((w : Int) + 65536 * k)]) ++ List.replicate L 0 := by
      rw [List.set_append_right _ _ (Nat.le_refl _), Nat.sub_self, Nat.add_comm 1 L, List.replicate_succ, List.set_cons_zero, List.set_append_left _ _ ha]
      simp
    simp only at hP
    rw [hW3] at hP
    generalize hTg : 4 * (ks.length : Int) + 4294967296 * ((w : Int) + 65536 * k) = Tg at *
    have hTz : (ks.length : Int) + ((w : Int) + k) = 0 → Tg = 0 := fun h => by omega
    obtain ⟨v', q4⟩ := hl1 (bv (!decide ((ks.length : Int) + ((w : Int) + k) = 0))) ⟨1, .cells (tL (.mk 9 ws ks))⟩ ⟨S.v + 1, (S.W.set a (ptrZ a S.W.length 1 (7 + 8 * (L : Int))) ++ [Tg]) ++ List.replicate L 0⟩ (by simp) (by simp; omega) (by simp; omega)
    simp only [List.drop_zero, Nat.zero_mul, Nat.add_zero, T.kids_mk] at q4
    refine ⟨v', ?_⟩
    have hWe : cpC w (w + k) ks (S.W.length + 1) ((S.W.set a (ptrZ a S.W.length 1 (7 + 8 * (L : Int))) ++ [Tg]) ++ List.replicate L 0) = layC w k ks (S.W.length + 1) (S.W.set a (ptrZ a S.W.length 1 (7 + 8 * (L : Int))) ++ [Tg] ++ rowsC w k ks) := by
      rw [hc2 _ _ hcond2 (by simp [hL]; omega)]
      have := hf2 (S.W.set a (ptrZ a S.W.length 1 (7 + 8 * (L : Int))) ++ [Tg]) (fun u hu => by have := (hcond2 u hu).1; omega)
      simp only [List.length_append, List.length_set, List.length_singleton, hL] at this
      rw [this]
    rw [hWe] at q4
    refine specF_of t_canon_writer_composite (by simp) (faW _ a) famA_v fun w0 I0 M0 m0 => ?_
    unfold c_canon_writer_composite
    simp
    refine sc_call hfr (by simp) ?_
    simp [e1]
    refine sc_call hE (by simp) ?_
    have fin : ∀ H : Hp, (∀ p, H (0 :: p) = wrF 0 S p) → H [1] = ⟨1, .cells (tL (.mk 9 ws ks))⟩ → WPC (cxh Tryz.prog w0 I0 M0 90 m0) k1_canon_writer_composite (RetH (cxh Tryz.prog w0 I0 M0 90 m0) [.tmp 6] 1 (bv true) (ov 0 (wrF 0 ⟨v', layC w k ks (S.W.length + 1) (S.W.set a (ptrZ a S.W.length 1 (7 + 8 * (L : Int))) ++ [Tg] ++ rowsC w k ks)⟩) (lkH [])))
        ⟨lk [(0, .pob [0] 1 0), (1, nv a), (5, .pob [1] 1 0), (7, nv w), (9, nv (w + k)), (10, uv Tg), (11, bv (!decide ((ks.length : Int) + ((w : Int) + k) = 0)))], H⟩ := fun H hH h1 => by
      unfold k1_canon_writer_composite
      have hlt1 : (S.W.length : Int) < S.W.length + (1 + (L : Int)) := by omega
      have hget : (List.map uv S.W ++ List.replicate (1 + L) (uv 0))[S.W.length]? = some (uv 0) := by
        rw [List.getElem?_append_right (by simp), Nat.add_comm 1 L, List.replicate_succ]
        simp
      simp [h1, e2, e3]
      refine sc_fam 0 hG (fun p => by simp [hH]) (by simp) (by simp) ?_
      simp [updF_app, hlt1, hget, h1, e2]
      refine sc_fam 0 hP (fun p => ?_) (by simp) (by simp) ?_
      · simp only [ov_cons, if_true, wrM_F]
        refine updF_is ?_ (fun h1 => ?_)
        · simp [List.map_set]
        · by_cases h0 : p = []
          · subst h0; simp
          · exact wrF_but h0 h1
      simp [h1, updF_app]
      refine q4 _ (fun p => by simp) (by simp [updF_app, h1]) (fun q H' hH' h1' => ?_)
      simp [h1', e4]
      exact reth_fam rfl rfl (by simpa using hH')
    by_cases hz : (ks.length : Int) + ((w : Int) + k) = 0
    · have hT0 := hTz hz
      subst hT0
      simp [hz]
      have := fin (ov 0 (wrF 0 S) (lkH [([1], ⟨1, .cells (tL (.mk 9 ws ks))⟩)])) (fun p => by simp) (by simp)
      simp [hz] at this
      exact this
    · simp [hz]
      have := fin (ov 0 (wrF 0 S) (lkH [([1], ⟨1, .cells (tL (.mk 9 ws ks))⟩)])) (fun p => by simp) (by simp)
      simp [hz] at this
      exact this
end Go.Proofs.YthfiijdbnkaabaaGreat

/-
  Words of trees, as they stand alone: the whole.
-/
namespace Go.Proofs.YthfiijdbnkaabaaGreat
set_option linter.unusedVariables false
set_option linter.unusedSimpArgs false
open Go Go.G Go.Proofs Go.PL
section
variable {n0 : Nat} {w0 : World} {I0 : Nat → Prop} {M0 : Nm → Nat → Prop} {m0 : Mu} {Q : Exit → Sta → Prop}
theorem wtree_l1 {t : T} {a : Nat} {c : A} {v0 : Nm → VOb} {v1 : VOb} (hl : t.kids.length ≤ 536870912) (hw : ∀ c, c ∈ t.kids → ∃ x, c.words = [x]) : ∀ (m i u : Nat) (H : Hp), i + m = t.kids.length → (∀ p, H (0 :: p) = v0 p) → H [1] = v1 → H [3] = ⟨u, .arr 1 ((t.kids.take i).map (uv ∘ hd))⟩ →
    (∀ q u' H', (∀ p, H' (0 :: p) = v0 p) → H' [1] = v1 → H' [3] = ⟨u', .arr 1 (t.kids.map (uv ∘ hd))⟩ → Q (.exit 1) ⟨lk [(0, .pob [0] 1 0), (1, nv a), (5, .pob [1] 1 0), (9, c), (10, .osl [3] u' 1 0 t.kids.length), (88, tKs t.kids), (89, nv t.kids.length), (90, nv t.kids.length), (91, bv q)], H'⟩) →
    LoopC (cxh Tryz.prog w0 I0 M0 n0 m0) l1_canon_writer_tree Q ⟨lk [(0, .pob [0] 1 0), (1, nv a), (5, .pob [1] 1 0), (9, c), (10, .osl [3] u 1 0 i), (88, tKs t.kids), (89, nv t.kids.length), (90, nv i)], H⟩ := by
  intro m
  induction m with
  | zero =>
    intro i u H hi h0 h1 h3 hq
    have : i = t.kids.length := by omega
    subst this
    refine loopC_once mixed l1_canon_writer_tree.eq_1 ?_
    simp
    exact hq _ u H h0 h1 (by rw [h3]; simp)
  | succ m ihm =>
    intro i u H hi h0 h1 h3 hq
    have hlt : i < t.kids.length := by omega
    have ei : IntKind.i64.wrap ((i : Int) + 1) = ((i + 1 : Nat) : Int) := i64_same (by omega) (by omega)
    obtain ⟨x, hx⟩ := hw _ (List.getElem_mem hlt)
    have hwd : wdT t.kids[i] 0 = hd t.kids[i] := by simp [wdT, hd, hx]
    have hrow := row_succ (f := uv ∘ hd) hlt rfl
    simp only [Function.comp] at hrow
    refine loopC_once mixed l1_canon_writer_tree.eq_1 ?_
    simp [hlt, updF_app]
    refine sc_call (pWd_spec t.kids[i] 0) rfl ?_
    rw [hwd]
    have hn1 : ((i : Int) + 1) * 8 ≤ 140737488355328 := by omega
    have hn2 : (i + 1) * 8 ≤ 140737488355328 := by omega
    simp [updF_app, h3, hn1, hn2, ei]
    rw [hrow]
    refine ⟨by omega, ?_⟩
    exact ihm (i + 1) (u + 1) _ (by omega) (fun p => by simp [updF_app, h0]) (by simp [updF_app, h1]) (by simp [updF_app]) hq
end
theorem wTree_spec : ∀ t : T, WVS t ∧ WFS t := by
  refine T.ind fun k w ks ih => ?_
  have hF : WFS (.mk k w ks) := wStruct_spec fun c hc => (ih c hc).1
  have hK : WKS (.mk k w ks) := wKids_spec fun c hc => (ih c hc).1
  refine ⟨fun hok S a ha hS => ?_, hF⟩
  have h0 := (size_nonneg (.mk k w ks)).1 hok
  by_cases k9 : k = 9
  · subst k9
    obtain ⟨v', q4⟩ := wComp_spec rfl hok (fun c hc => (ih c hc).2) S a ha hS
    refine ⟨v', specF_of t_canon_writer_tree (by simp) (faW _ a) famA_v fun w0 I0 M0 m0 => ?_⟩
    unfold c_canon_writer_tree
    simp
    refine sc_fam 0 q4 (fun p => by simp) (by simp) (by simp) ?_
    simp
    exact reth_fam rfl rfl (by simp)
  cases hok with
  | null =>
    refine ⟨S.v, specF_of t_canon_writer_tree (by simp) (faW _ a) famA_v fun w0 I0 M0 m0 => ?_⟩
    unfold c_canon_writer_tree
    simp
    rw [layT_mk, if_pos rfl]
    exact reth_fam rfl rfl (by simp)
  | comp => exact absurd rfl k9
  | str w ks b1 b2 hl =>
    have hn := sizeL_nonneg hl
    rw [sizeT_mk, if_pos rfl] at hS
    have hG := wGive_spec S (by omega) (w.length + ks.length) (by omega)
    have hP := wPoint_spec ⟨S.v + 1, S.W ++ List.replicate (w.length + ks.length) 0⟩ (a := a) (by simp; omega) (by omega) (to := (S.W.length : Int)) (by omega) (by omega) ⟨1, 0, w.length, ks.length, 0, 0, 0, false⟩ (by simp) (by simp; omega) (by simp) (by simp; omega)
    rw [enc_str (by omega) (by omega) (by omega) (by omega) (by omega) (by omega) (by omega) (by omega), encB_str (by omega) (by omega) (by omega) (by omega) (by omega) (by omega) (by omega) (by omega) (by omega)] at hP
    simp only at hP
    rw [List.set_append_left _ _ ha] at hP
    generalize hX : S.W.set a (ptrZ a (if (w.length : Int) + ks.length = 0 then (a : Int) else S.W.length) 0 (w.length + 65536 * ks.length)) = X at hP
    have hXl : X.length = S.W.length := by rw [← hX]; simp
    have hsw := setW_app w X (List.replicate (w.length + ks.length) 0) (by simp)
    have hdrop : List.drop w.length (List.replicate (w.length + ks.length) (0 : Int)) = List.replicate ks.length 0 := by simp
    rw [hXl, hdrop] at hsw
    obtain ⟨v', q4⟩ := hF hl ⟨S.v + 1, X ++ List.replicate (w.length + ks.length) 0⟩ S.W.length w.length (by simp) (by omega) (by simp; omega) (by simp; omega)
    simp only [T.words_mk, T.kids_mk] at q4
    rw [hsw] at q4
    have hlay : layT (.mk 1 w ks) a S.W = layL ks (S.W.length + w.length) (X ++ w ++ List.replicate ks.length 0) := by
      rw [layT_mk, if_neg (by decide), if_pos rfl, ← hX]
      have hz : ((w.length : Int) + ks.length = 0) = (w.length + ks.length = 0) := by
        rw [eq_iff_iff]
        omega
      simp only [hz]
    rw [hlay]
    have ew : IntKind.i64.wrap ((w.length : Int) + ks.length) = ((w.length + ks.length : Nat) : Int) := i64_same (by omega) (by omega)
    refine ⟨v', specF_of t_canon_writer_tree (by simp) (faW _ a) famA_v fun w0 I0 M0 m0 => ?_⟩
    unfold c_canon_writer_tree
    simp [ew]
    refine sc_fam 0 hG (fun p => by simp) (by simp) (by simp) ?_
    simp
    refine sc_fam 0 hP (fun p => by simp) (by simp) (by simp) ?_
    simp
    rw [sc_guard]
    simp
    refine sc_fam 0 q4 (fun p => by simp) (by simp) (by simp) ?_
    simp
    exact reth_fam rfl rfl (by simp)
  | ptrs w ks b1 hl =>
    have hn := sizeL_nonneg hl
    rw [sizeT_mk, if_neg (by decide), if_pos rfl] at hS
    have hG := wGive_spec S (by omega) ks.length (by omega)
    have hP := wPoint_spec ⟨S.v + 1, S.W ++ List.replicate ks.length 0⟩ (a := a) (by simp; omega) (by omega) (to := (S.W.length : Int)) (by omega) (by omega) ⟨2, 0, 0, 0, 6, ks.length, 0, false⟩ (by simp) (by simp) (by simp) (by simp)
    rw [enc_list (by omega) (by omega) (by omega) (by omega) (by omega) (by omega) (by omega) (by omega), encB_list (by omega) (by omega) (by omega) (by omega) (by omega) (by omega) (by omega) (by omega)] at hP
    simp only at hP
    rw [List.set_append_left _ _ ha] at hP
    obtain ⟨v', q4⟩ := hK hl ⟨S.v + 1, S.W.set a (ptrZ a S.W.length 1 (6 + 8 * ks.length)) ++ List.replicate ks.length 0⟩ S.W.length (by simp) (by simp; omega)
    simp only [T.kids_mk] at q4
    have hlay : layT (.mk 8 w ks) a S.W = layL ks S.W.length (S.W.set a (ptrZ a S.W.length 1 (6 + 8 * ks.length)) ++ List.replicate ks.length 0) := by
      rw [layT_mk, if_neg (by decide), if_neg (by decide), if_pos rfl]
    rw [hlay]
    refine ⟨v', specF_of t_canon_writer_tree (by simp) (faW _ a) famA_v fun w0 I0 M0 m0 => ?_⟩
    unfold c_canon_writer_tree
    simp
    refine sc_fam 0 hG (fun p => by simp) (by simp) (by simp) ?_
    simp
    refine sc_fam 0 hP (fun p => by simp) (by simp) (by simp) ?_
    simp
    rw [sc_guard]
    simp
    refine sc_fam 0 q4 (fun p => by simp) (by simp) (by simp) ?_
    simp
    exact reth_fam rfl rfl (by simp)
  | data k w ks h1 h2 hn hc =>
    have hsz : sizeT (.mk k w ks) = roomZ (k - 2) ks.length := by
      rw [sizeT_mk, if_neg (by omega), if_neg (by omega), if_pos ⟨h1, h2⟩]
    have hlay : layT (.mk k w ks) a S.W = S.W.set a (ptrZ a S.W.length 1 (k - 2 + 8 * ks.length)) ++ putZ (k - 2) (ks.map hd) := by
      rw [layT_mk, if_neg (by omega), if_neg (by omega), if_neg (by omega), if_neg (by omega)]
    have hpl := putZ_length (k - 2) (ks.map hd)
    have hr0 := roomZ_nonneg (k - 2) ks.length
    rw [List.length_map] at hpl
    rw [hsz] at hS h0
    have hfit : ∀ x, x ∈ ks.map hd → u64R x ∧ fitsZ (k - 2) x = true := fun x hx => by
      obtain ⟨c, hc', rfl⟩ := List.mem_map.1 hx
      obtain ⟨y, y1, y2, y3, y4⟩ := hc c hc'
      have : hd c = y := by simp [hd, y1]
      rw [this]
      exact ⟨⟨y2, y3⟩, y4⟩
    have hPut := pPut_spec (c := k - 2) (by omega) (by omega) (ns := ks.map hd) (by simp; omega) hfit
    rw [hlay]
    generalize hZ : putZ (k - 2) (ks.map hd) = Z at *
    have hZl : (Z.length : Int) = roomZ (k - 2) ks.length := by omega
    have hG := wGive_spec S (by omega) Z.length (by omega)
    have hP := wPoint_spec ⟨S.v + 1, S.W ++ Z⟩ (a := a) (by simp; omega) (by omega) (to := (S.W.length : Int)) (by omega) (by omega) ⟨2, 0, 0, 0, k - 2, ks.length, 0, false⟩ (by simp) (by simp) (by simp) (by simp)
    rw [enc_list (by omega) (by omega) (by omega) (by omega) (by omega) (by omega) (by omega) (by omega), encB_list (by omega) (by omega) (by omega) (by omega) (by omega) (by omega) (by omega) (by omega)] at hP
    simp only at hP
    rw [List.set_append_left _ _ ha] at hP
    have ek : IntKind.i64.wrap (k - 2) = k - 2 := i64_same (by omega) (by omega)
    refine ⟨S.v + 1, specF_of' t_canon_writer_tree (by simp) (faW _ a) famA_v fun w0 I0 M0 m0 hM => ?_⟩
    unfold c_canon_writer_tree
    have n0 : ¬ k = 0 := by omega
    have n1 : ¬ k = 1 := by omega
    have n8 : ¬ k = 8 := by omega
    simp [n0, n1, n8, k9, ek]
    refine LoopC.le (le_blank 10 [3] 1 (by simp)) ?_
    refine LoopC.le (le_list [(0, .pob [0] 1 0), (1, nv a), (5, .pob [1] 1 0), (9, iv (k - 2)), (10, .osl [3] 1 1 0 0), (88, tKs ks), (89, nv ks.length), (90, nv 0)] (by simp [upd])) ?_
    refine wtree_l1 (t := .mk k w ks) (v0 := wrF 0 S) (v1 := ⟨1, .cells (tL (.mk k w ks))⟩) (by simp; omega) (fun c hc' => (hc c hc').imp fun x hx => hx.1) ks.length 0 1 _ (by simp) (fun p => by simp [updF_app]) (by simp [updF_app]) (by simp [updF_app]) (fun q u' H' g0 g1 g3 => ?_)
    simp
    refine stop_le (le_freezeD (d := [3]) (fun b => hM 3 [] b (by omega)) 10 (uws (ks.map hd)) (fun H1 hH => ?_)) (stop_go ?_)
    · have := frz_row (H := H1) (o := [3]) (u := u') (n := ks.length) (sz := 1) (l := ks) (f := uv ∘ hd) (by rw [hH, g3]; simp) rfl (fun x => by simp)
      rw [← List.map_map] at this
      exact this
    simp
    refine sc_call hPut rfl ?_
    simp
    refine sc_fam 0 hG (fun p => by simp [updF_app, g0]) (by simp) (by simp) ?_
    have hle1 : (S.W.length : Int) ≤ S.W.length + Z.length := by omega
    have hmin : min Z.length (S.W.length + Z.length - S.W.length) = Z.length := by omega
    have hadd : S.W.length + (S.W.length + Z.length - S.W.length) ≤ S.W.length + Z.length := by omega
    have htk : List.take Z.length (Z.map uv) = Z.map uv := List.take_of_length_le (by simp)
    have hdr : List.drop (S.W.length + Z.length) (S.W.map uv ++ List.replicate Z.length (uv 0)) = [] := List.drop_eq_nil_of_le (by simp)
    simp [updF_app, hle1, hmin, hadd, g1]
    rw [sc_guard]
    simp
    refine sc_fam 0 hP (fun p => ?_) (by simp) (by simp) ?_
    · simp only [ov_cons, if_true, wrM_F]
      refine updF_is ?_ (fun h1 => ?_)
      · rw [htk, hdr]
        simp
      · by_cases h0 : p = []
        · subst h0; simp
        · exact wrF_but h0 h1
    simp
    exact reth_fam rfl rfl (by simp)
end Go.Proofs.YthfiijdbnkaabaaGreat

/-
  Words of trees, as they stand alone: Encode.
-/
namespace Go.Proofs.YthfiijdbnkaabaaGreat
set_option linter.unusedVariables false
set_option linter.unusedSimpArgs false
open Go Go.G Go.Proofs Go.PL
/-- Is it told? -/
def cnOk (most : Int) (t : T) : Bool := rightT 64 t && !decide (t.kind = 10) && decide (sizeT (norm t) < most) && decide (sizeT (norm t) < 131072)
def cnW (most : Int) (t : T) : List Int := if cnOk most t = true then layT (norm t) 0 [0] else []
theorem cnEnc_spec {t : T} (hw : wfT t) (most : Int) (hsz : rightT 64 t = true → t.kind ≠ 10 → sizeT (norm t) < 9223372036854775808) :
    G.Spec Tryz.prog 30 [tX t, iv most] (.tup [uws (cnW most t), bv (cnOk most t)]) := by
  refine spec_of t_canon_Encode (by simp) fun w0 I0 => ?_
  unfold c_canon_Encode
  have no : cnOk most t = false → cnW most t = [] := fun h => by simp [cnW, h]
  simp
  refine sc_call (ptRight_spec hw) rfl ?_
  by_cases hr : rightT 64 t = true
  · by_cases h10 : t.kind = 10
    · have hf : cnOk most t = false := by simp [cnOk, h10]
      rw [no hf, hf]
      simp [hr, h10]
      exact frz_tup (by simp; exact ⟨frz_sl, frz_bare rfl⟩)
    · have hlay := laid_right t 64 hr hw h10
      have h0 := (size_nonneg (norm t)).1 hlay
      have h1 := hsz hr h10
      have hS := tSize_spec (norm t) (wf_norm t hw)
      rw [norm_norm, size_norm t 64 hr] at hS
      have hsame : i64w (sizeT (norm t)) = sizeT (norm t) := i64_same (by omega) (by omega)
      rw [hsame] at hS
      simp [hr, h10]
      refine sc_call (tNorm_spec t hw) rfl ?_
      simp
      refine sc_calle (L := [tX (norm t)]) (by simp) hS rfl ?_
      generalize hN : norm t = N at *
      have hNk : N.kind = t.kind := by rw [← hN]; simp
      by_cases hm : cnOk most t = true
      · have hW : cnW most t = layT N 0 [0] := by simp [cnW, hm, hN]
        rw [hW, hm]
        simp [cnOk, hN] at hm
        obtain ⟨⟨_, m1⟩, m2⟩ := hm
        have n1 : ¬ most ≤ sizeT N := by omega
        have n2 : ¬ 131072 ≤ sizeT N := by omega
        simp [n1, n2]
        refine stop_le (le_blankC (d := [1]) 0 [1, 0] 1 rfl rfl (by simp)) (stop_go ?_)
        have hG := wGive_spec ⟨1, []⟩ (by simp) 1 (by omega)
        obtain ⟨v', q4⟩ := (wTree_spec N).1 hlay ⟨2, [0]⟩ 0 (by simp) (by simp; omega)
        have hF : ∀ H : Hp, H [1] = ⟨1, .cells [.osl [1, 0] 1 1 0 0]⟩ → H [1, 0] = ⟨1, .arr 1 []⟩ → (∀ p, p ≠ [] → p ≠ [0] → H (1 :: p) = ⟨0, .none⟩) → ∀ p, H (1 :: p) = (wrM ⟨1, []⟩).F 1 p := fun H h1 h2 h3 p => by
          by_cases p0 : p = []
          · subst p0; rw [h1]; simp
          · by_cases p1 : p = [0]
            · subst p1; rw [h2]; simp
            · rw [h3 p p0 p1]
              match p, p0, p1 with
              | [], h, _ => exact absurd rfl h
              | [0], _, h => exact absurd rfl h
              | 0 :: a :: q, _, _ => rfl
              | (a + 1) :: q, _, _ => rfl
        simp [updF_app]
        refine sc_fam 1 hG (hF _ (by simp [updF_app]) (by simp [updF_app]) (fun p h1 h2 => by simp [updF_app, Ne.symm h1, h1, h2, Ne.symm h2])) (by simp) (by simp) ?_
        simp [updF_app]
        refine ⟨by decide, ?_⟩
        refine sc_fam 1 q4 (fun p => by simp [updF_app]) (by simp [hNk]) (by simp) ?_
        simp
        refine frz_tup ?_
        simp
        exact ⟨frz_row (f := uv) (by simp) rfl (fun x => by simp), frz_bare rfl⟩
      · have hf : cnOk most t = false := by simpa using hm
        rw [no hf, hf]
        simp [cnOk, hN, hr, h10] at hm
        by_cases n1 : most ≤ sizeT N
        · simp [n1]
          exact frz_tup (by simp; exact ⟨frz_sl, frz_bare rfl⟩)
        · have n2 : 131072 ≤ sizeT N := by omega
          simp [n1, n2]
          exact frz_tup (by simp; exact ⟨frz_sl, frz_bare rfl⟩)
  · have hf : cnOk most t = false := by simp [cnOk, hr]
    rw [no hf, hf]
    simp at hr
    simp [hr]
    exact frz_tup (by simp; exact ⟨frz_sl, frz_bare rfl⟩)
end Go.Proofs.YthfiijdbnkaabaaGreat

/-
  Whether a message means something, within limits, by the program (valid).
-/
namespace Go.Proofs.YthfiijdbnkaabaaGreat
set_option linter.unusedVariables false
set_option linter.unusedSimpArgs false
open Go Go.G Go.Proofs Go.PL
/-! ### plain -/
theorem loopM_data {l : List (List Int)} {r : Rf} (hr : RfOk l r) (hd : isData r.kind = true) : ∀ (m i : Nat) (acc : List T) (left : Int), ((i + m : Nat) : Int) = nk r → (loopM (stepM l (leafM l) r) m i acc left).2 = (left, 0)
  | 0, i, acc, left, h => rfl
  | m + 1, i, acc, left, h => by
    have hk : (kidP l r i).2 = 0 := by
      cases hr with
      | dat c s a n c0 c6 n0 n1 hh =>
        have hn : nk ⟨2 + c, s, a, 0, 0, n, 0⟩ = n := by simp only [nk]; rw [if_neg (by omega)]
        rw [hn] at h
        rw [kidP_data (by omega) (by omega) (by omega) (by omega) (by omega)]
      | _ => simp [isData, Rf.zero] at hd
    have hst : stepM l (leafM l) r i left = leafM l (kidP l r i).1 left := by simp [stepM, hk]
    rw [loopM, hst, if_neg (by simp [leafM])]
    exact loopM_data hr hd m (i + 1) _ _ (by omega)
/-! ### a meter -/
def mtM (u B : Int) : Fam := ⟨fun _ p => if p = [] then ⟨1, .cells [iv u, iv B]⟩ else ⟨0, .none⟩, fun {g δ r r'} hg hd p => by
    by_cases hp : p = []
    · rw [if_pos hp]
      exact Fam.cells_ren (by simp [A.renL, A.ren])
    · rw [if_neg hp]; rfl, fun {D r} hD p => by
    by_cases hp : p = []
    · rw [if_pos hp]
      simp [Ob.refs, A.refsL, A.refs]
    · rw [if_neg hp]; trivial⟩
@[simp] theorem mtM_F {u B : Int} {r : Nat} {p : Nm} : (mtM u B).F r p = if p = [] then ⟨1, .cells [iv u, iv B]⟩ else ⟨0, .none⟩ := rfl
theorem vSpend_spec {u B n : Int} (u0 : 0 ≤ u) (u1 : u ≤ B) (B1 : B ≤ 1000000) (n0 : 0 ≤ n) (n1 : n ≤ 100000000000000) : SpecF Tryz.prog 103 (fun q => [.pob [q] 1 0, iv n]) (mtM u B) (fun _ => bv (decide (n ≤ B - u))) (mtM (if n ≤ B - u then u + n else u) B) := by
  refine specF_of t_valid_meter_spend (by simp) (famL_cons famA_pob (famL_cons famA_v famL_nil)) famA_v fun w0 I0 M0 m0 => ?_
  unfold c_valid_meter_spend
  have e1 : IntKind.i64.wrap (B - u) = B - u := i64_same (by omega) (by omega)
  by_cases h : n ≤ B - u
  · have h' : ¬ B - u < n := by omega
    have e2 : IntKind.i64.wrap (u + n) = u + n := i64_same (by omega) (by omega)
    simp [e1, h', h, e2]
    refine reth_fam rfl rfl (fun p => ?_)
    by_cases hp : p = []
    · subst hp; simp [updF_app]
    · simp [updF_app, hp]
  · have h' : B - u < n := by omega
    simp [e1, h', h]
    exact reth_fam rfl rfl (fun p => by simp)
theorem vFrame_spec (l : List (List Int)) (r : Rf) : G.Spec Tryz.prog 138 [paX l r] (.tup [iv (if r.kind = 9 then r.data else 0), iv (if r.kind = 9 then r.kids else 0)]) := by
  refine spec_of t_reader_Ref_Frame (by simp) fun w0 I0 => ?_
  unfold c_reader_Ref_Frame
  by_cases h : r.kind = 9
  · simp [h]
    exact frz_bare rfl
  · simp [h]
    exact frz_bare rfl
theorem vOwn_spec {l : List (List Int)} {r : Rf} (hr : RfOk l r) : G.Spec Tryz.prog 104 [paX l r] (iv (costM r)) := by
  have hc := costM_pos hr
  refine spec_of t_valid_own (by simp) fun w0 I0 => ?_
  unfold c_valid_own
  simp
  refine sc_call (refKind_spec l r) (by simp) ?_
  by_cases h1 : r.kind = 1
  · have hd : 0 ≤ r.data ∧ r.data < 65536 ∧ 0 ≤ r.kids ∧ r.kids < 65536 := by cases hr <;> simp [Rf.zero] at h1 ⊢ <;> omega
    have e1 : IntKind.i64.wrap (1 + r.data) = 1 + r.data := i64_same (by omega) (by omega)
    have e2 : IntKind.i64.wrap (1 + r.data + r.kids) = 1 + r.data + r.kids := i64_same (by omega) (by omega)
    have hw : nwR r = r.data := by simp [nwR, h1]
    have hn : nk r = r.kids := by simp [nk, h1]
    have hcc : costM r = 1 + r.data + r.kids := by simp [costM, h1]
    rw [hcc]
    simp [h1]
    refine sc_calle (L := [paX l r]) (by simp [h1]) (refWords_spec' l r) (by simp) ?_
    rw [hw]
    simp [e1]
    refine sc_calle (L := [paX l r]) (by simp [h1]) (refKids_spec' l r) (by simp) ?_
    rw [hn]
    simp [e1, e2]
    exact frz_bare rfl
  · simp [h1]
    refine sc_call (refKind_spec l r) (by simp) ?_
    by_cases h9 : r.kind = 9
    · have hd : 0 ≤ r.data ∧ r.data < 65536 ∧ 0 ≤ r.kids ∧ r.kids < 65536 ∧ 0 ≤ r.count ∧ r.count < 536870912 := by
        cases hr <;> simp [Rf.zero] at h9 ⊢ <;> omega
      have hn : nk r = r.count := by simp [nk, h1]
      have hcc : costM r = 1 + r.count * (1 + r.data + r.kids) := by simp [costM, h9]
      rw [hcc] at hc ⊢
      have e1 : IntKind.i64.wrap (1 + r.data) = 1 + r.data := i64_same (by omega) (by omega)
      have e2 : IntKind.i64.wrap (1 + r.data + r.kids) = 1 + r.data + r.kids := i64_same (by omega) (by omega)
      have e3 : IntKind.i64.wrap (r.count * (1 + r.data + r.kids)) = r.count * (1 + r.data + r.kids) := i64_same (by omega) (by omega)
      have e4 : IntKind.i64.wrap (1 + r.count * (1 + r.data + r.kids)) = 1 + r.count * (1 + r.data + r.kids) := i64_same (by omega) (by omega)
      simp [h9]
      refine sc_calle (L := [paX l r]) (by simp [h9]) (vFrame_spec l r) (by simp) ?_
      simp [h9]
      refine sc_calle (L := [paX l r]) (by simp [h9]) (refKids_spec' l r) (by simp) ?_
      rw [hn]
      simp [e1, e2, e3, e4]
      exact frz_bare rfl
    · have hcc : costM r = 1 + nk r := by simp [costM, h9, h1]
      rw [hcc] at hc ⊢
      have e1 : IntKind.i64.wrap (1 + nk r) = 1 + nk r := i64_same (by omega) (by omega)
      simp [h9]
      refine sc_call (refKids_spec' l r) (by simp) ?_
      simp [e1]
      exact frz_bare rfl
/-! ### kids -/
/-- What is left after a step. -/
def UV (B : Int) (x : T × Int × Int) (u : Int) : Prop := x.2.2 = 0 → u = B - x.2.1
theorem faP (l : List (List Int)) (r : Rf) (d : Int) : FamL (fun q => [.pob [q] 1 0, paX l r, iv d]) := famL_cons famA_pob (famL_cons (famA_pa l r) (famL_cons famA_v famL_nil))
theorem faP2 (l : List (List Int)) (r : Rf) (i d : Int) : FamL (fun q => [.pob [q] 1 0, paX l r, iv i, iv d]) := famL_cons famA_pob (famL_cons (famA_pa l r) (famL_cons famA_v (famL_cons famA_v famL_nil)))
def RV (l : List (List Int)) (B : Int) (d : Int) (rec : Rf → Int → T × Int × Int) : Prop := ∀ r, RfOk l r → ∀ left : Int, 0 ≤ left → left ≤ B →
  ∃ u : Int, UV B (rec r left) u ∧ SpecF Tryz.prog 65 (fun q => [.pob [q] 1 0, paX l r, iv d]) (mtM (B - left) B) (fun _ => iv (rec r left).2.2) (mtM u B)
def KV (l : List (List Int)) (B : Int) (d : Int) (r : Rf) (i : Nat) (f : Nat → Int → T × Int × Int) : Prop := ∀ left : Int, 0 ≤ left → left ≤ B →
  ∃ u : Int, UV B (f i left) u ∧ SpecF Tryz.prog 106 (fun q => [.pob [q] 1 0, paX l r, nv i, iv d]) (mtM (B - left) B) (fun _ => iv (f i left).2.2) (mtM u B)
/-- A kid that is no struct of a list. -/
theorem vKid_spec {l : List (List Int)} (hs : Sg l) {B d : Int} {rec : Rf → Int → T × Int × Int} (hrec : RV l B d rec) {r : Rf} (hr : RfOk l r) (h9 : r.kind ≠ 9) (i : Nat) : KV l B d r i (stepM l rec r) := fun left l0 l1 => by
  unfold stepM
  by_cases he : (kidP l r i).2 = 0
  · obtain ⟨u, hu, hw⟩ := hrec _ (kid_ok hs.w hr i) left l0 l1
    rw [if_neg (by simpa using he)]
    refine ⟨u, hu, ?_⟩
    refine specF_of t_valid_meter_kid (by simp) (faP2 l r i d) famA_v fun w0 I0 M0 m0 => ?_
    unfold c_valid_meter_kid
    simp
    refine sc_call (kid_spec hs hr i) (by simp) ?_
    simp [he]
    refine sc_call (refKind_spec l r) (by simp) ?_
    simp [h9]
    refine sc_fam 0 hw (fun p => by simp [updF_app]) (by simp) (by simp) ?_
    simp
    exact reth_fam rfl rfl (fun p => by simp)
  · rw [if_pos he]
    refine ⟨B - left, fun h => absurd h he, ?_⟩
    refine specF_of t_valid_meter_kid (by simp) (faP2 l r i d) famA_v fun w0 I0 M0 m0 => ?_
    unfold c_valid_meter_kid
    simp
    refine sc_call (kid_spec hs hr i) (by simp) ?_
    simp [he]
    exact reth_fam rfl rfl (fun p => by simp)
theorem loopM_step {f : Nat → Int → T × Int × Int} {m i : Nat} {acc : List T} {left : Int} : loopM f (m + 1) i acc left = if (f i left).2.2 ≠ 0 then (acc, (f i left).2.1, (f i left).2.2) else loopM f m (i + 1) (acc ++ [(f i left).1]) (f i left).2.1 := by rw [loopM]
/-- A struct of a list: its kids. -/
theorem vkid_l1 {l : List (List Int)} {B d : Int} {k : Rf} {n : Nat} (hn : n ≤ 1000000000) {f : Nat → Int → T × Int × Int} (hf : ∀ i, i < n → KV l B d k i f) (hlb : ∀ i left, 0 ≤ left → left ≤ B → 0 ≤ (f i left).2.1 ∧ (f i left).2.1 ≤ B) : ∀ (m i : Nat) (acc : List T) (left : Int), i + m = n → 0 ≤ left → left ≤ B →
    ∃ u : Int, ((loopM f m i acc left).2.2 = 0 → u = B - (loopM f m i acc left).2.1) ∧
      ∀ {n0 : Nat} {w0 : World} {I0 : Nat → Prop} {M0 : Nm → Nat → Prop} {m0 : Mu} {Q : Exit → Sta → Prop} (H : Hp), (∀ p, H (0 :: p) = (mtM (B - left) B).F 0 p) → H [2] = ⟨1, .cells (paL l k)⟩ →
      ((loopM f m i acc left).2.2 = 0 → ∀ q H', (∀ p, H' (0 :: p) = (mtM u B).F 0 p) → Q (.exit 0) ⟨lk [(0, .pob [0] 1 0), (3, iv d), (9, .pob [2] 1 0), (30, nv n), (31, nv n), (32, bv q)], H'⟩) →
      ((loopM f m i acc left).2.2 ≠ 0 → ∀ H', (∀ p, H' (0 :: p) = (mtM u B).F 0 p) → Q .ret ⟨lk [(8, iv (loopM f m i acc left).2.2)], H'⟩) →
      LoopC (cxh Tryz.prog w0 I0 M0 n0 m0) l1_valid_meter_kid Q ⟨lk [(0, .pob [0] 1 0), (3, iv d), (9, .pob [2] 1 0), (30, nv n), (31, nv i)], H⟩ := by
  intro m
  induction m with
  | zero =>
    intro i acc left hi l0 l1
    have : i = n := by omega
    subst this
    refine ⟨B - left, fun _ => rfl, fun H hH h2 hq _ => ?_⟩
    refine loopC_once mixed l1_valid_meter_kid.eq_1 ?_
    simp
    exact hq rfl _ H hH
  | succ m ihm =>
    intro i acc left hi l0 l1
    have hlt : i < n := by omega
    have ei : IntKind.i64.wrap ((i : Int) + 1) = ((i + 1 : Nat) : Int) := i64_same (by omega) (by omega)
    obtain ⟨u1, hu1, hk⟩ := hf i hlt left l0 l1
    obtain ⟨b0, b1⟩ := hlb i left l0 l1
    unfold UV at hu1
    rw [loopM_step]
    generalize hx : f i left = x at *
    obtain ⟨t, lf, e⟩ := x
    simp only at hu1 hk b0 b1 ⊢
    by_cases he : e = 0
    · subst he
      have := hu1 rfl
      subst this
      obtain ⟨u2, hu2, hw⟩ := ihm (i + 1) (acc ++ [t]) lf (by omega) b0 b1
      rw [if_neg (by simp)]
      refine ⟨u2, hu2, fun H hH h2 hq hq2 => ?_⟩
      refine loopC_once mixed l1_valid_meter_kid.eq_1 ?_
      simp [hlt, h2]
      refine sc_fam 0 hk (fun p => by simp [hH]) (by simp) (by simp) ?_
      simp [ei]
      exact hw _ (fun p => by simp) (by simp [h2]) hq hq2
    · rw [if_pos (by simpa using he)]
      refine ⟨u1, fun h => absurd h he, fun H hH h2 hq hq2 => ?_⟩
      refine loopC_once mixed l1_valid_meter_kid.eq_1 ?_
      simp [hlt, h2]
      refine sc_fam 0 hk (fun p => by simp [hH]) (by simp) (by simp) ?_
      simp [he]
      exact hq2 he _ (fun p => by simp)
theorem vwalk_l1 {l : List (List Int)} {B d : Int} {k : Rf} {n : Nat} (hn : n ≤ 1000000000) {f : Nat → Int → T × Int × Int} (hf : ∀ i, i < n → KV l B d k i f) (hlb : ∀ i left, 0 ≤ left → left ≤ B → 0 ≤ (f i left).2.1 ∧ (f i left).2.1 ≤ B) : ∀ (m i : Nat) (acc : List T) (left : Int), i + m = n → 0 ≤ left → left ≤ B →
    ∃ u : Int, ((loopM f m i acc left).2.2 = 0 → u = B - (loopM f m i acc left).2.1) ∧
      ∀ {n0 : Nat} {w0 : World} {I0 : Nat → Prop} {M0 : Nm → Nat → Prop} {m0 : Mu} {Q : Exit → Sta → Prop} (H : Hp), (∀ p, H (0 :: p) = (mtM (B - left) B).F 0 p) → H [1] = ⟨1, .cells (paL l k)⟩ →
      ((loopM f m i acc left).2.2 = 0 → ∀ q H', (∀ p, H' (0 :: p) = (mtM u B).F 0 p) → Q (.exit 0) ⟨lk [(0, .pob [0] 1 0), (4, .pob [1] 1 0), (7, iv d), (42, nv n), (43, nv n), (44, bv q)], H'⟩) →
      ((loopM f m i acc left).2.2 ≠ 0 → ∀ H', (∀ p, H' (0 :: p) = (mtM u B).F 0 p) → Q .ret ⟨lk [(6, iv (loopM f m i acc left).2.2)], H'⟩) →
      LoopC (cxh Tryz.prog w0 I0 M0 n0 m0) l1_valid_meter_walk Q ⟨lk [(0, .pob [0] 1 0), (4, .pob [1] 1 0), (7, iv d), (42, nv n), (43, nv i)], H⟩ := by
  intro m
  induction m with
  | zero =>
    intro i acc left hi l0 l1
    have : i = n := by omega
    subst this
    refine ⟨B - left, fun _ => rfl, fun H hH h2 hq _ => ?_⟩
    refine loopC_once mixed l1_valid_meter_walk.eq_1 ?_
    simp
    exact hq rfl _ H hH
  | succ m ihm =>
    intro i acc left hi l0 l1
    have hlt : i < n := by omega
    have ei : IntKind.i64.wrap ((i : Int) + 1) = ((i + 1 : Nat) : Int) := i64_same (by omega) (by omega)
    obtain ⟨u1, hu1, hk⟩ := hf i hlt left l0 l1
    obtain ⟨b0, b1⟩ := hlb i left l0 l1
    unfold UV at hu1
    rw [loopM_step]
    generalize hx : f i left = x at *
    obtain ⟨t, lf, e⟩ := x
    simp only at hu1 hk b0 b1 ⊢
    by_cases he : e = 0
    · subst he
      have := hu1 rfl
      subst this
      obtain ⟨u2, hu2, hw⟩ := ihm (i + 1) (acc ++ [t]) lf (by omega) b0 b1
      rw [if_neg (by simp)]
      refine ⟨u2, hu2, fun H hH h2 hq hq2 => ?_⟩
      refine loopC_once mixed l1_valid_meter_walk.eq_1 ?_
      simp [hlt, h2]
      refine sc_fam 0 hk (fun p => by simp [hH]) (by simp) (by simp) ?_
      simp [ei]
      exact hw _ (fun p => by simp) (by simp [h2]) hq hq2
    · rw [if_pos (by simpa using he)]
      refine ⟨u1, fun h => absurd h he, fun H hH h2 hq hq2 => ?_⟩
      refine loopC_once mixed l1_valid_meter_walk.eq_1 ?_
      simp [hlt, h2]
      refine sc_fam 0 hk (fun p => by simp [hH]) (by simp) (by simp) ?_
      simp [he]
      exact hq2 he _ (fun p => by simp)
theorem vKidC_spec {l : List (List Int)} (hs : Sg l) {B d : Int} {rec : Rf → Int → T × Int × Int} (hrec : RV l B d rec) (hlb : LB l B rec) {r : Rf} (hr : RfOk l r) (h9 : r.kind = 9) (i : Nat) (hi : (i : Int) < nk r) : KV l B d r i (stepM l (kidsM l rec) r) := fun left l0 l1 => by
  unfold stepM
  by_cases he : (kidP l r i).2 = 0
  · rw [if_neg (by simpa using he)]
    have hk1 : (kidP l r i).1.kind = 1 := kid_comp h9 (by omega) hi
    have hok := kid_ok hs.w hr i
    have hkin := kids_in hok
    have hsp := kid_spec hs hr i
    have hnk : nk (kidP l r i).1 = (kidP l r i).1.kids := by simp [nk, hk1]
    generalize (kidP l r i).2 = e at *
    subst he
    generalize (kidP l r i).1 = k at *
    obtain ⟨n, hn⟩ : ∃ n : Nat, k.kids = n := ⟨k.kids.toNat, by omega⟩
    have ht : k.kids.toNat = n := by omega
    unfold kidsM
    rw [ht]
    obtain ⟨u, hu, hw⟩ := vkid_l1 (n := n) (by omega) (fun i _ => vKid_spec hs hrec hok (by omega) i) (fun i left a b => stepM_lb hs.w hlb hok i left a b) n 0 [] left (by omega) l0 l1
    generalize loopM (stepM l rec k) n 0 [] left = y at hu hw
    obtain ⟨ts, lf, e⟩ := y
    simp only at hu hw ⊢
    refine ⟨u, hu, ?_⟩
    refine specF_of t_valid_meter_kid (by simp) (faP2 l r i d) famA_v fun w0 I0 M0 m0 => ?_
    unfold c_valid_meter_kid
    simp
    refine sc_call hsp (by simp) ?_
    simp
    refine sc_call (refKind_spec l r) (by simp) ?_
    simp [h9]
    refine sc_call (refKids_spec' l k) (by simp) ?_
    rw [hnk, hn]
    simp
    refine hw _ (fun p => by simp [updF_app]) (by simp [updF_app]) (fun h0 q H' hH => ?_) (fun h0 H' hH => ?_)
    · rw [h0]
      simp
      exact reth_fam rfl rfl hH
    · exact reth_fam rfl rfl hH
  · rw [if_pos he]
    refine ⟨B - left, fun h => absurd h he, ?_⟩
    refine specF_of t_valid_meter_kid (by simp) (faP2 l r i d) famA_v fun w0 I0 M0 m0 => ?_
    unfold c_valid_meter_kid
    simp
    refine sc_call (kid_spec hs hr i) (by simp) ?_
    simp [he]
    exact reth_fam rfl rfl (fun p => by simp)
end Go.Proofs.YthfiijdbnkaabaaGreat

/-
  Whether a message means something, within limits, by the program: values.
-/
namespace Go.Proofs.YthfiijdbnkaabaaGreat
set_option linter.unusedVariables false
set_option linter.unusedSimpArgs false
open Go Go.G Go.Proofs Go.PL
def mean1 (l : List (List Int)) (d : Nat) (r : Rf) (rec1 rec2 : Rf → Int → T × Int × Int) (left : Int) : T × Int × Int :=
  if r.kind = 0 then leafM l r left else if d = 0 ∨ r.kind = 9 ∧ 0 < r.count ∧ d = 1 then stopM l r left else if left < costM r then stopM l r left else restM l r rec1 rec2 left
theorem meaning_0 {l : List (List Int)} {r : Rf} {left : Int} {rec1 rec2 : Rf → Int → T × Int × Int} : meaning l 0 r left = mean1 l 0 r rec1 rec2 left := by
  rw [meaning, mean1]; simp
theorem meaning_1 {l : List (List Int)} {r : Rf} {left : Int} : meaning l 1 r left = mean1 l 1 r (meaning l 0) (fun r left => stopM l r left) left := by
  rw [meaning, mean1]; simp
theorem meaning_2 {l : List (List Int)} {d : Nat} {r : Rf} {left : Int} : meaning l (d + 2) r left = mean1 l (d + 2) r (meaning l (d + 1)) (meaning l d) left := by
  rw [meaning, mean1]; simp
theorem vWalk_core {l : List (List Int)} (hs : Sg l) {B : Int} (hB : B ≤ 1000000) {d : Nat} (hd : d ≤ 1000) {rec1 rec2 : Rf → Int → T × Int × Int} (h1 : 1 ≤ d → RV l B ((d : Int) - 1) rec1) (h2 : 2 ≤ d → RV l B ((d : Int) - 2) rec2) (b1 : LB l B rec1) (b2 : LB l B rec2) :
    RV l B d (fun r left => mean1 l d r rec1 rec2 left) := fun r hr left l0 l1 => by
  have hn := nk_nonneg hr
  dsimp only
  have hc := costM_pos hr
  unfold mean1
  by_cases k0 : r.kind = 0
  · simp only [k0, if_true]
    refine ⟨B - left, fun _ => rfl, specF_of t_valid_meter_walk (by simp) (faP l r d) famA_v fun w0 I0 M0 m0 => ?_⟩
    unfold c_valid_meter_walk
    simp
    refine sc_call (refKind_spec l r) (by simp) ?_
    simp [k0]
    exact reth_fam rfl rfl (fun p => by simp)
  have e1 : IntKind.i64.wrap ((d : Int) - 1) = (d : Int) - 1 := i64_same (by omega) (by omega)
  have e2 : IntKind.i64.wrap ((d : Int) - 1 - 1) = (d : Int) - 2 := (i64_same (by omega) (by omega)).trans (by omega)
  simp only [if_neg k0]
  -- what is written below
  obtain ⟨b, hb, hbd⟩ : ∃ b : Int, (b = if r.kind = 9 ∧ 0 < nk r then (d : Int) - 2 else (d : Int) - 1) ∧ -2 ≤ b := ⟨_, rfl, by split <;> omega⟩
  have hn9 : r.kind = 9 → nk r = r.count := fun h => by simp [nk, h]
  have front : ∀ {w0 I0 M0 m0} {res : Int} {u : Int}, WPC (cxh Tryz.prog w0 I0 M0 55 m0) k1_valid_meter_walk (RetH (cxh Tryz.prog w0 I0 M0 55 m0) [.tmp 6] 1 (iv res) (ov 0 ((mtM u B).F 0) (lkH []))) ⟨lk [(0, .pob [0] 1 0), (2, iv d), (4, .pob [1] 1 0), (7, iv b)], ov 0 ((mtM (B - left) B).F 0) (lkH [([1], ⟨1, .cells (paL l r)⟩)])⟩ →
      WPC (cxh Tryz.prog w0 I0 M0 55 m0) c_valid_meter_walk (RetH (cxh Tryz.prog w0 I0 M0 55 m0) [.tmp 6] 1 (iv res) (ov 0 ((mtM u B).F 0) (lkH []))) ⟨argS [.pob [0] 1 0, paX l r, iv d], ov 0 ((mtM (B - left) B).F 0) (lkH [])⟩ := fun {w0 I0 M0 m0 res u} h => by
    unfold c_valid_meter_walk
    simp
    refine sc_call (refKind_spec l r) (by simp) ?_
    simp [k0, e1]
    refine sc_call (refKind_spec l r) (by simp) ?_
    by_cases h9 : r.kind = 9
    · simp [h9]
      rw [sc_guard]
      simp
      refine sc_calle (L := [paX l r]) (by simp [h9]) (refKids_spec' l r) (by simp) ?_
      by_cases hp : 0 < nk r
      · have hb' : b = (d : Int) - 2 := by rw [hb, if_pos ⟨h9, hp⟩]
        subst hb'
        simp [hp, e2]
        simpa [h9] using h
      · have hb' : b = (d : Int) - 1 := by rw [hb, if_neg (by omega)]
        subst hb'
        simp [hp]
        simpa [h9] using h
    · have hb' : b = (d : Int) - 1 := by rw [hb, if_neg (by omega)]
      subst hb'
      simp [h9]
      refine sc_call_off rfl ?_
      simp
      simpa using h
  have args := faP l r d
  by_cases hd0 : d = 0
  · subst hd0
    rw [if_pos (.inl rfl)]
    refine ⟨B - left, fun h => by simp [stopM] at h, specF_of t_valid_meter_walk (by simp) args famA_v fun w0 I0 M0 m0 => front ?_⟩
    unfold k1_valid_meter_walk
    simp
    refine sc_call_off rfl ?_
    simp
    refine sc_call_off rfl ?_
    simp [stopM]
    exact reth_fam rfl rfl (fun p => by simp)
  have hd1 : ¬ (d : Int) < 1 := by omega
  by_cases hlim : r.kind = 9 ∧ 0 < r.count ∧ d = 1
  · rw [if_pos (.inr hlim)]
    have hb' : b < 0 := by rw [hb, if_pos ⟨hlim.1, by rw [hn9 hlim.1]; exact hlim.2.1⟩]; omega
    refine ⟨B - left, fun h => by simp [stopM] at h, specF_of t_valid_meter_walk (by simp) args famA_v fun w0 I0 M0 m0 => front ?_⟩
    unfold k1_valid_meter_walk
    simp [hd1, hb']
    refine sc_call_off rfl ?_
    simp
    refine sc_call_off rfl ?_
    simp [stopM]
    exact reth_fam rfl rfl (fun p => by simp)
  rw [if_neg (by omega)]
  have hb0 : ¬ b < 0 := by
    rw [hb]
    split
    · rename_i hx
      have := hn9 hx.1
      omega
    · omega
  by_cases hw : left < costM r
  · rw [if_pos hw]
    have hsp := vSpend_spec (u := B - left) (B := B) (n := costM r) (by omega) (by omega) hB (by omega) (by omega)
    have hno : ¬ costM r ≤ B - (B - left) := by omega
    rw [if_neg hno] at hsp
    simp only [hno, decide_false] at hsp
    refine ⟨B - left, fun h => by simp [stopM] at h, specF_of t_valid_meter_walk (by simp) args famA_v fun w0 I0 M0 m0 => front ?_⟩
    unfold k1_valid_meter_walk
    simp [hd1, hb0]
    rw [sc_guard]
    simp
    refine sc_call (vOwn_spec hr) (by simp) ?_
    simp
    rw [sc_guard]
    simp
    refine sc_fam 0 hsp (fun p => by simp) (by simp) (by simp) ?_
    simp [stopM]
    exact reth_fam rfl rfl (fun p => by simp)
  rw [if_neg hw]
  have hsp := vSpend_spec (u := B - left) (B := B) (n := costM r) (by omega) (by omega) hB (by omega) (by omega)
  have hyes : costM r ≤ B - (B - left) := by omega
  rw [if_pos hyes, show B - left + costM r = B - (left - costM r) from by omega] at hsp
  simp only [hyes, decide_true] at hsp
  obtain ⟨n, hnn⟩ : ∃ n : Nat, nk r = n := ⟨(nk r).toNat, by omega⟩
  have hR : ∀ f, f = stepM l (recM l r rec1 rec2) r → (restM l r rec1 rec2 left).2 = (loopM f n 0 [] (left - costM r)).2 := fun f hf => by
    subst hf
    unfold restM
    rw [hnn]
    rfl
  by_cases hdt : isData r.kind = true
  · have hk9 : ¬ r.kind = 9 ∧ ¬ r.kind = 1 ∧ ¬ r.kind = 8 := by simp [isData] at hdt; omega
    have hre : recM l r rec1 rec2 = leafM l := by rw [recM, if_neg hk9.1, if_neg (by omega)]
    have h2' := hR _ rfl
    rw [hre, loopM_data hr hdt n 0 [] (left - costM r) (by omega)] at h2'
    generalize restM l r rec1 rec2 left = X at h2'
    obtain ⟨t, lf, e⟩ := X
    simp only [Prod.mk.injEq] at h2'
    obtain ⟨rfl, rfl⟩ := h2'
    refine ⟨B - (left - costM r), fun _ => rfl, specF_of t_valid_meter_walk (by simp) args famA_v fun w0 I0 M0 m0 => front ?_⟩
    unfold k1_valid_meter_walk
    simp [hd1, hb0]
    rw [sc_guard]
    simp
    refine sc_call (vOwn_spec hr) (by simp) ?_
    simp
    rw [sc_guard]
    simp
    refine sc_fam 0 hsp (fun p => by simp) (by simp) (by simp) ?_
    simp
    refine sc_call (refKind_spec l r) (by simp) ?_
    simp
    refine sc_call (data_spec r.kind) (by simp) ?_
    simp [hdt]
    exact reth_fam rfl rfl (fun p => by simp)
  have hdt' : isData r.kind = false := by simpa using hdt
  have hlbR : LB l B (recM l r rec1 rec2) := by
    unfold recM
    split
    · exact kidsM_lb hs.w b2
    · split
      · exact b1
      · exact leafM_lb
  have hf : ∀ i, i < n → KV l B b r i (stepM l (recM l r rec1 rec2) r) := fun i hi => by
    by_cases h9 : r.kind = 9
    · have hcnt := hn9 h9
      have hbe : b = (d : Int) - 2 := by rw [hb, if_pos ⟨h9, by omega⟩]
      have hre : recM l r rec1 rec2 = kidsM l rec2 := by rw [recM, if_pos h9]
      rw [hre, hbe]
      exact vKidC_spec hs (h2 (by omega)) b2 hr h9 i (by omega)
    · have hbe : b = (d : Int) - 1 := by rw [hb, if_neg (by omega)]
      have h18 : r.kind = 1 ∨ r.kind = 8 := by
        simp [isData] at hdt'
        cases hr <;> simp [Rf.zero, nk] at k0 h9 hdt' hnn ⊢ <;> omega
      have hre : recM l r rec1 rec2 = rec1 := by rw [recM, if_neg h9, if_pos h18]
      rw [hre, hbe]
      exact vKid_spec hs (h1 (by omega)) hr h9 i
  have h2' := hR _ rfl
  generalize hfe : stepM l (recM l r rec1 rec2) r = f at h2' hf hR
  have hlb : ∀ i left, 0 ≤ left → left ≤ B → 0 ≤ (f i left).2.1 ∧ (f i left).2.1 ≤ B := fun i left a b => by
    rw [← hfe]
    exact stepM_lb hs.w hlbR hr i left a b
  obtain ⟨u, hu, hloop⟩ := vwalk_l1 (k := r) (n := n) (by omega) hf hlb n 0 [] (left - costM r) (by omega) (by omega) (by omega)
  generalize loopM f n 0 [] (left - costM r) = Y at h2' hu hloop
  generalize restM l r rec1 rec2 left = X at h2'
  obtain ⟨t, lf, e⟩ := X
  obtain ⟨t', lf', e'⟩ := Y
  simp only [Prod.mk.injEq] at h2' hu hloop
  obtain ⟨rfl, rfl⟩ := h2'
  refine ⟨u, hu, specF_of t_valid_meter_walk (by simp) args famA_v fun w0 I0 M0 m0 => front ?_⟩
  unfold k1_valid_meter_walk
  simp [hd1, hb0]
  rw [sc_guard]
  simp
  refine sc_call (vOwn_spec hr) (by simp) ?_
  simp
  rw [sc_guard]
  simp
  refine sc_fam 0 hsp (fun p => by simp) (by simp) (by simp) ?_
  simp
  refine sc_call (refKind_spec l r) (by simp) ?_
  simp
  refine sc_call (data_spec r.kind) (by simp) ?_
  simp [hdt']
  refine sc_call (refKids_spec' l r) (by simp) ?_
  rw [hnn]
  simp
  refine hloop _ (fun p => by simp) (by simp) (fun h0 q H' hH => ?_) (fun h0 H' hH => ?_)
  · rw [h0]
    simp
    exact reth_fam rfl rfl hH
  · exact reth_fam rfl rfl hH
theorem vWalk_spec {l : List (List Int)} (hs : Sg l) {B : Int} (hB : B ≤ 1000000) : ∀ d : Nat, d ≤ 1000 → RV l B d (meaning l d)
  | 0, hd => fun r hr left l0 l1 => by
    have := vWalk_core hs hB (d := 0) (by omega) (rec1 := leafM l) (rec2 := leafM l) (fun h => absurd h (by omega)) (fun h => absurd h (by omega)) leafM_lb leafM_lb r hr left l0 l1
    dsimp only at this
    rwa [← meaning_0] at this
  | 1, hd => fun r hr left l0 l1 => by
    have := vWalk_core hs hB (d := 1) (by omega) (rec1 := meaning l 0) (rec2 := fun r left => stopM l r left) (fun _ => by simpa using vWalk_spec hs hB 0 (by omega)) (fun h => absurd h (by omega)) (meaning_lb hs.w 0) (fun r hr left h0 h1 => ⟨h0, h1⟩) r hr left l0 l1
    dsimp only at this
    rwa [← meaning_1] at this
  | d + 2, hd => fun r hr left l0 l1 => by
    have := vWalk_core hs hB (d := d + 2) (by omega) (rec1 := meaning l (d + 1)) (rec2 := meaning l d) (fun _ => by
      have := vWalk_spec hs hB (d + 1) (by omega)
      rwa [show ((d + 1 : Nat) : Int) = ((d + 2 : Nat) : Int) - 1 from by omega] at this) (fun _ => by
      have := vWalk_spec hs hB d (by omega)
      rwa [show (d : Int) = ((d + 2 : Nat) : Int) - 2 from by omega] at this) (meaning_lb hs.w (d + 1)) (meaning_lb hs.w d) r hr left l0 l1
    dsimp only at this
    rwa [← meaning_2] at this
end Go.Proofs.YthfiijdbnkaabaaGreat

/-
  Check, Message, Decode.
-/
namespace Go.Proofs.YthfiijdbnkaabaaGreat
set_option linter.unusedVariables false
set_option linter.unusedSimpArgs false
open Go Go.G Go.Proofs Go.PL
theorem clamp_min {x m : Int} (h : 0 ≤ m) : min (max x 0) m = clampZ x m := by
  unfold clampZ
  split
  · omega
  · split <;> omega
theorem vLimits_spec (a b c d : Int) : G.Spec Tryz.prog 63 [liX a b c d] (liX (clampZ a 64) (clampZ b 65536) (clampZ c 4096) (clampZ d 131072)) := by
  refine spec_of t_valid_Limits (by simp) fun w0 I0 => ?_
  unfold c_valid_Limits
  simp
  rw [clamp_min (by decide), clamp_min (by decide), clamp_min (by decide), clamp_min (by decide)]
  exact frz_bare rfl
theorem vCheck_spec {l : List (List Int)} (hs : Sg l) (a b c d : Int) : G.Spec Tryz.prog 31 [arn l, liX a b c d] (.tup [iv (unfP l a b).2.1, iv (unfP l a b).2.2]) := by
  have ha := clamp_in a 64 (by decide)
  have hb := clamp_in b 65536 (by decide)
  refine spec_of t_valid_Check (by simp) fun w0 I0 => ?_
  unfold c_valid_Check
  simp
  refine sc_call (vLimits_spec a b c d) rfl ?_
  simp
  refine sc_call (root_spec hs) rfl ?_
  simp
  unfold unfP
  have hok := at_ok hs.w 0 0
  generalize hx : atP l 0 0 = x at hok
  obtain ⟨r, e⟩ := x
  simp only
  by_cases he : e = 0
  · rw [if_neg (by simp [he])]
    obtain ⟨D, hD⟩ : ∃ D : Nat, clampZ a 64 = (D : Int) := ⟨(clampZ a 64).toNat, by omega⟩
    obtain ⟨u, hu, hw⟩ := vWalk_spec hs (B := clampZ b 65536) (by omega) D (by omega) r hok (clampZ b 65536) hb.1 (Int.le_refl _)
    simp [he, hD, updF_app]
    rw [Int.sub_self] at hw
    generalize meaning l D r (clampZ b 65536) = y at hu hw
    obtain ⟨t, lf, e2⟩ := y
    unfold UV at hu
    simp only at hu hw ⊢
    have hF : ∀ H : Hp, H [2] = ⟨1, .cells [iv 0, iv (clampZ b 65536)]⟩ → (∀ p, p ≠ [] → H (2 :: p) = ⟨0, .none⟩) → ∀ p, H (2 :: p) = (mtM 0 (clampZ b 65536)).F 2 p := fun H h1 h2 p => by
      by_cases p0 : p = []
      · subst p0; rw [h1]; simp
      · rw [h2 p p0]; simp [p0]
    refine sc_fam 2 hw (hF _ (by simp [updF_app]) (fun p hp => by simp [updF_app, hp, Ne.symm hp])) (by simp) (by simp) ?_
    by_cases he2 : e2 = 0
    · have := hu he2
      subst this
      simp [he2]
      exact frz_bare rfl
    · simp [he2]
      exact frz_bare rfl
  · rw [if_pos he]
    simp [he]
    exact frz_bare rfl
end Go.Proofs.YthfiijdbnkaabaaGreat

/-
  Chapter 39: how many words a patch takes.
-/
namespace Go.Proofs.YthfiijdbnkaabaaGreat
set_option linter.unusedVariables false
set_option linter.unusedSimpArgs false
open Go Go.G Go.Proofs Go.PL
section
variable {n0 : Nat} {w0 : World} {I0 : Nat → Prop} {Q : Exit → Sta → Prop}
theorem pointers_l1 {l : List T} {H : Hp} (hl : l.length * 56 ≤ 140737488355328) : ∀ (n : Nat), n ≤ l.length → trimK (l.take n) = trimK l → ((trimK l).length = 0 → ∀ q, Q (.exit 0) ⟨lk [(0, tKs l), (3, iv 0), (7, bv q)], H⟩) → ((trimK l).length ≠ 0 → Q .ret ⟨lk [(2, iv (trimK l).length)], H⟩) →
    LoopC (cx Tryz.prog w0 I0 n0) l1_cost_pointers Q ⟨lk [(0, tKs l), (3, iv n)], H⟩ := by
  intro n
  induction n with
  | zero =>
    intro hn ht h1 h2
    refine loopC_once mixed l1_cost_pointers.eq_1 ?_
    simp
    exact h1 (by rw [← ht]; rfl) _
  | succ n ih =>
    intro hn ht h1 h2
    have hlt : n < l.length := by omega
    have e : IntKind.i64.wrap (n : Int) = n := i64_same (by omega) (by omega)
    have hp : (0 : Int) < (n : Int) + 1 := by omega
    refine loopC_once mixed l1_cost_pointers.eq_1 ?_
    by_cases h0 : l[n].kind = 0
    · simp [hp, e, hlt, h0]
      exact ih (by omega) (by rw [← trimK_zero hlt h0]; exact ht) h1 h2
    · have e2 : (trimK l).length = n + 1 := by rw [← ht, trimK_stop hlt h0]; simp; omega
      simp [hp, e, hlt, h0]
      have := h2 (by omega)
      rw [e2] at this
      exact this
end
theorem pointers_spec (l : List T) (hl : l.length * 56 ≤ 140737488355328) : G.Spec Tryz.prog 107 [tKs l] (iv (trimK l).length) := by
  refine spec_of t_cost_pointers (by simp) fun w0 I0 => ?_
  unfold c_cost_pointers
  simp
  refine pointers_l1 hl l.length (Nat.le_refl _) (by rw [List.take_of_length_le (Nat.le_refl _)]) (fun h q => ?_) (fun h => ?_)
  · simp
    exact frz_int (by omega)
  · simp
    exact frz_bare rfl
theorem kids_spec {a b : T} (ha : wfT a) (hb : wfT b) : G.Spec Tryz.prog 67 [tKs [a, b]] (iv (i64w (kids2 a b))) := by
  have p0 : G.Spec Tryz.prog 107 [.sl false []] (iv 0) := pointers_spec [] (by simp)
  have p1 : G.Spec Tryz.prog 107 [.sl false [tX a]] (iv (if a.kind = 0 then 0 else 1)) := by
    have := pointers_spec [a] (by simp)
    have e : tKs [a] = .sl false [tX a] := by simp
    rw [e, trimK_1] at this
    split at this <;> rename_i h <;> simp [h] <;> simpa using this
  refine spec_of t_cost_kids (by simp) fun w0 I0 => ?_
  unfold c_cost_kids
  simp
  refine loopC_once mixed l1_cost_kids.eq_1 ?_
  simp
  refine sc_call (tSize_spec a ha) rfl ?_
  have two : ∀ (x y r : Int) (H : Hp), y = i64w x → r = x + sizeP (norm b) + (if b.kind ≠ 0 then 2 - (if a.kind ≠ 0 then 1 else 0) else 0) → LoopC (cx Tryz.prog w0 I0 31) l1_cost_kids (InBlock 0 (ThenC (WPC (cx Tryz.prog w0 I0 31) (.keep [3] (.seq (.reg [co (some 30) (.move (.tmp 3)) none, co (some 2) (.assign (.tmp 30)) none] [2]) .ret)) (RetC Tryz.prog [.tmp 2] (iv (i64w r)))) (RetC Tryz.prog [.tmp 2] (iv (i64w r))))) ⟨lk [(0, tKs [a, b]), (3, iv y), (6, tKs [a, b]), (7, iv 2), (8, iv 1)], H⟩ := fun x y r H hy hr => by
    subst hy
    have fin : ∀ (y : Int) (H : Hp), y = i64w r → LoopC (cx Tryz.prog w0 I0 31) l1_cost_kids (InBlock 0 (ThenC (WPC (cx Tryz.prog w0 I0 31) (.keep [3] (.seq (.reg [co (some 30) (.move (.tmp 3)) none, co (some 2) (.assign (.tmp 30)) none] [2]) .ret)) (RetC Tryz.prog [.tmp 2] (iv (i64w r)))) (RetC Tryz.prog [.tmp 2] (iv (i64w r))))) ⟨lk [(0, tKs [a, b]), (3, iv y), (6, tKs [a, b]), (7, iv 2), (8, iv 2)], H⟩ := fun y H hy => by
      refine loopC_once mixed l1_cost_kids.eq_1 ?_
      simp [hy]
      exact frz_bare rfl
    have e2 : IntKind.i64.wrap 2 = 2 := by decide
    refine loopC_once mixed l1_cost_kids.eq_1 ?_
    simp [updF_app]
    refine sc_call (tSize_spec b hb) rfl ?_
    by_cases h0 : b.kind = 0
    · simp [h0, updF_app, i64_add_l, i64_add_r, e2]
      exact fin _ _ (by rw [hr]; simp [h0])
    · simp [h0, updF_app]
      refine sc_call p1 rfl ?_
      simp [i64_add_l, i64_add_r, i64_sub_l, e2]
      refine fin _ _ ?_
      rw [hr]
      by_cases ha0 : a.kind = 0 <;> simp [h0, ha0]
  have e1 : IntKind.i64.wrap 1 = 1 := by decide
  by_cases h0 : a.kind = 0
  · simp [h0, e1]
    exact two (sizeP (norm a)) _ _ _ (by unfold i64w; rw [i64_i64]) (by unfold kids2; simp [h0])
  · simp [h0]
    refine sc_call p0 rfl ?_
    simp [e1, i64_add_l, i64_add_r]
    exact two (sizeP (norm a) + 1) _ _ _ rfl (by unfold kids2; simp [h0])
abbrev NodeS (e : E) : Prop := G.Spec Tryz.prog 34 [eX e] (iv (i64w (nodeE e)))
def structZ (e : E) : Int := (if e.words = [] then 0 else 2 + e.words.length * wideW 1 e.words) + (if e.kids.isEmpty = true then 0 else 2 + e.kids.length * (if lastAt e.kids = 0 then 1 else 2) + (if e.words = [] then 1 else 0) + nodeKs e.kids)
def listZ (e : E) : Int := if e.ops.isEmpty = true then 0 else 2 + e.ops.length * wideO 1 e.ops + nodeOs e.list e.ops
section
variable {n0 : Nat} {w0 : World} {I0 : Nat → Prop} {Q : Exit → Sta → Prop}
theorem struct_l1 {l : List WE} (hl : l.length * 32 ≤ 140737488355328) {a1 a3 : A} {n : Int} {v : VOb} : ∀ (m i : Nat) (x : Int) (H : Hp), i + m = l.length → H [0] = v →
    (∀ i' q H', H' [0] = v → Q (.exit 0) ⟨lk [(1, a1), (3, a3), (4, iv n), (5, iv (wideW x (l.drop i))), (18, wKs l), (19, iv l.length), (20, iv i'), (21, bv q)], H'⟩) →
    LoopC (cx Tryz.prog w0 I0 n0) l1_cost_structure Q ⟨lk [(1, a1), (3, a3), (4, iv n), (5, iv x), (18, wKs l), (19, iv l.length), (20, iv i)], H⟩ := by
  intro m
  induction m with
  | zero =>
    intro i x H hi h0 hq
    have : i = l.length := by omega
    subst this
    refine loopC_once mixed l1_cost_structure.eq_1 ?_
    simp
    simpa [wideW] using hq l.length false H h0
  | succ m ihm =>
    intro i x H hi h0 hq
    have hlt : i < l.length := by omega
    have ed : l.drop i = l[i] :: l.drop (i + 1) := List.drop_eq_getElem_cons hlt
    have ei : IntKind.i64.wrap ((i : Int) + 1) = ((i + 1 : Nat) : Int) := i64_same (by omega) (by omega)
    rw [ed, wideW] at hq
    refine loopC_once mixed l1_cost_structure.eq_1 ?_
    by_cases h1 : l[i].new = 0
    · by_cases h2 : l[i].old = 0
      · simp [hlt, h1, h2, updF_app, ei]
        simp [h1, h2] at hq
        exact ihm (i + 1) _ _ (by omega) (by simp [updF_app, h0]) (fun i' q H' hh => by cases q; exact (hq i').1 H' hh; exact (hq i').2 H' hh)
      · simp [hlt, h1, h2, updF_app, ei]
        simp [h1, h2] at hq
        exact ihm (i + 1) _ _ (by omega) (by simp [updF_app, h0]) (fun i' q H' hh => by cases q; exact (hq i').1 H' hh; exact (hq i').2 H' hh)
    · simp [hlt, h1, updF_app, ei]
      simp [h1] at hq
      exact ihm (i + 1) _ _ (by omega) (by simp [updF_app, h0]) (fun i' q H' hh => by cases q; exact (hq i').1 H' hh; exact (hq i').2 H' hh)
theorem struct_l2 {l : List KE} (hl : l.length * 208 ≤ 140737488355328) (ih : ∀ x, x ∈ l → NodeS x.e) : ∀ (m i : Nat) (x y : Int) (H : Hp), i + m = l.length → y = i64w x →
    (∀ i' q H', Q (.exit 3) ⟨lk [(3, iv (i64w (x + nodeKs (l.drop i)))), (67, kKs l), (68, iv l.length), (69, iv i'), (70, bv q)], H'⟩) →
    LoopC (cx Tryz.prog w0 I0 n0) l2_cost_structure Q ⟨lk [(3, iv y), (67, kKs l), (68, iv l.length), (69, iv i)], H⟩ := by
  intro m
  induction m with
  | zero =>
    intro i x y H hi hy hq
    have : i = l.length := by omega
    subst this hy
    refine loopC_once mixed l2_cost_structure.eq_1 ?_
    simp
    simpa using hq l.length false H
  | succ m ihm =>
    intro i x y H hi hy hq
    subst hy
    have hlt : i < l.length := by omega
    have ed : l.drop i = l[i] :: l.drop (i + 1) := List.drop_eq_getElem_cons hlt
    have ei : IntKind.i64.wrap ((i : Int) + 1) = ((i + 1 : Nat) : Int) := i64_same (by omega) (by omega)
    rw [ed, nodeKs_cons] at hq
    refine loopC_once mixed l2_cost_structure.eq_1 ?_
    simp [hlt, updF_app]
    refine sc_call (ih _ (List.getElem_mem hlt)) rfl ?_
    simp [ei, i64_add_l, i64_add_r]
    refine ihm (i + 1) (x + nodeE l[i].e) _ _ (by omega) rfl fun i' q H' => ?_
    have := hq i' q H'
    rw [← Int.add_assoc] at this
    exact this
theorem list_l1 {e : E} (hl : e.ops.length * 240 ≤ 140737488355328) (hw : WfE e) (ih : ∀ x, x ∈ e.ops → x.kind = 3 → NodeS x.e) : ∀ (m i : Nat) (x z y : Int) (H : Hp), i + m = e.ops.length → H [0] = ⟨1, .cells (eL e)⟩ → y = i64w z →
    (∀ i' q H', H' [0] = ⟨1, .cells (eL e)⟩ → Q (.exit 0) ⟨lk [(1, .pob [0] 1 0), (3, iv (wideO x (e.ops.drop i))), (4, iv (i64w (z + nodeOs e.list (e.ops.drop i)))), (12, oKs e.ops), (13, iv e.ops.length), (14, iv i'), (15, bv q)], H'⟩) →
    LoopC (cx Tryz.prog w0 I0 n0) l1_cost_list Q ⟨lk [(1, .pob [0] 1 0), (3, iv x), (4, iv y), (12, oKs e.ops), (13, iv e.ops.length), (14, iv i)], H⟩ := by
  intro m
  induction m with
  | zero =>
    intro i x z y H hi h0 hy hq
    have : i = e.ops.length := by omega
    subst this hy
    refine loopC_once mixed l1_cost_list.eq_1 ?_
    simp
    simpa [wideO] using hq e.ops.length false H h0
  | succ m ihm =>
    intro i x z y H hi h0 hy hq
    subst hy
    have hlt : i < e.ops.length := by omega
    have ed : e.ops.drop i = e.ops[i] :: e.ops.drop (i + 1) := List.drop_eq_getElem_cons hlt
    have ei : IntKind.i64.wrap ((i : Int) + 1) = ((i + 1 : Nat) : Int) := i64_same (by omega) (by omega)
    rw [ed, nodeOs_cons, wideO] at hq
    have ihx := ih _ (List.getElem_mem hlt)
    have hwo := hw.os _ (List.getElem_mem hlt)
    generalize ho : e.ops[i] = o at *
    have next : ∀ (x' z' y' : Int) H', H' [0] = ⟨1, .cells (eL e)⟩ → x' = (if o.kind = 1 ∨ o.kind = 2 ∨ o.kind = 3 then 2 else x) → y' = i64w z' → z' = z + (if o.kind = 1 ∨ o.kind = 2 then sizeP (norm (.mk e.list [] o.l)) else if o.kind = 3 then nodeE o.e else 0) →
        LoopC (cx Tryz.prog w0 I0 n0) l1_cost_list Q ⟨lk [(1, .pob [0] 1 0), (3, iv x'), (4, iv y'), (12, oKs e.ops), (13, iv e.ops.length), (14, iv ((i + 1 : Nat) : Int))], H'⟩ := fun x' z' y' H' hH hx hy hz =>
      ihm (i + 1) x' z' y' H' (by omega) hH hy fun i' q H2 hh => by
        have := hq i' q H2 hh
        rw [← hx, ← Int.add_assoc, ← hz] at this
        exact this
    have hwt : wfT (.mk e.list [] o.l) := wfT_iff.2 ⟨hw.l, by simp, by simp, hwo.ll, hwo.l⟩
    have tS : G.Spec Tryz.prog 60 [.agg [iv e.list, .sl true [], tKs o.l]] (iv (i64w (sizeP (norm (.mk e.list [] o.l))))) := (tSize_spec (.mk e.list [] o.l) hwt).soft (by simp [A.softL, A.soft, soft_tKs])
    refine loopC_once mixed l1_cost_list.eq_1 ?_
    by_cases k1 : o.kind = 1
    · simp [hlt, ho, updF_app, k1]
      rw [k1_cost_list.eq_1]
      simp [h0, updF_app]
      refine sc_call tS rfl ?_
      simp [ei, i64_add_l, i64_add_r]
      exact next _ _ _ _ (by simp [updF_app, h0]) (by simp [k1]) rfl (by simp [k1])
    · by_cases k2 : o.kind = 2
      · simp [hlt, ho, updF_app, k2]
        rw [k1_cost_list.eq_1]
        simp [h0, updF_app]
        refine sc_call tS rfl ?_
        simp [ei, i64_add_l, i64_add_r]
        exact next _ _ _ _ (by simp [updF_app, h0]) (by simp [k2]) rfl (by simp [k2])
      · by_cases k3 : o.kind = 3
        · simp [hlt, ho, updF_app, k3]
          rw [k1_cost_list.eq_1]
          simp [h0, updF_app]
          refine sc_call (ihx k3) rfl ?_
          simp [ei, i64_add_l, i64_add_r]
          exact next _ _ _ _ (by simp [updF_app, h0]) (by simp [k3]) rfl (by simp [k3])
        · simp [hlt, ho, updF_app, k1, k2]
          rw [k1_cost_list.eq_1]
          simp [k3, ei]
          exact next x z _ _ (by simp [updF_app, h0]) (by simp [k1, k2, k3]) rfl (by simp [k1, k2, k3])
end
theorem list_spec {e : E} (hw : WfE e) (ih : ∀ x, x ∈ e.ops → x.kind = 3 → NodeS x.e) : G.Spec Tryz.prog 69 [eX e] (iv (i64w (listZ e))) := by
  have hol := hw.ol
  refine spec_of t_cost_list (by simp) fun w0 I0 => ?_
  unfold c_cost_list
  by_cases h0 : e.ops = []
  · have hz : listZ e = 0 := by simp [listZ, h0]
    simp [h0, hz]
    exact frz_int (by decide)
  · have hz : listZ e = 2 + e.ops.length * wideO 1 e.ops + nodeOs e.list e.ops := by simp [listZ, h0]
    simp [h0]
    refine list_l1 hol hw ih e.ops.length 0 1 0 _ _ (by omega) (by simp) (by decide) fun i' q H' hA => ?_
    simp [hA, i64_add_l, i64_add_r, i64_mul_r, hz]
    exact frz_bare rfl
theorem lastAt_get : ∀ {l : List KE} (h : 0 < l.length), lastAt l = (l[l.length - 1]'(by omega)).at_
  | [x], _ => rfl
  | x :: y :: l, _ => by
    have := lastAt_get (l := y :: l) (by simp)
    simp only [lastAt]
    rw [this]
    simp
section
variable {n0 : Nat} {w0 : World} {I0 : Nat → Prop}
theorem struct_k1 {Q' : Exit → Sta → Prop} {e : E} (hl : e.kids.length * 208 ≤ 140737488355328) (ih : ∀ x, x ∈ e.kids → NodeS x.e) {H : Hp} (hH : H [0] = ⟨1, .cells (eL e)⟩) {x y : Int} (hy : y = i64w x)
    (h : ∀ l H', Q' .normal ⟨lk ((3, iv (i64w (x + nodeKs e.kids))) :: l), H'⟩) : WPC (cx Tryz.prog w0 I0 n0) k1_cost_structure Q' ⟨lk [(1, .pob [0] 1 0), (3, iv y)], H⟩ := by
  rw [k1_cost_structure.eq_1]
  simp [hH]
  refine struct_l2 hl ih e.kids.length 0 x _ _ (by omega) hy fun i' q H' => ?_
  simp
  exact h _ _
theorem struct_k2 {Q' : Exit → Sta → Prop} {e : E} (hl : e.kids.length * 208 ≤ 140737488355328) (ih : ∀ x, x ∈ e.kids → NodeS x.e) {H : Hp} (hH : H [0] = ⟨1, .cells (eL e)⟩) {x w : Int}
    (h : ∀ l H', Q' .normal ⟨lk ((3, iv (i64w (x + (2 + e.kids.length * w) + (if e.words = [] then 1 else 0) + nodeKs e.kids))) :: l), H'⟩) : WPC (cx Tryz.prog w0 I0 n0) k2_cost_structure Q' ⟨lk [(1, .pob [0] 1 0), (3, iv (i64w x)), (8, iv e.kids.length), (9, iv w)], H⟩ := by
  rw [k2_cost_structure.eq_1]
  by_cases hw : e.words = []
  · simp [hH, hw, i64_add_l, i64_add_r, i64_mul_r]
    refine struct_k1 hl ih hH rfl fun l H' => ?_
    simpa [hw] using h l H'
  · simp [hH, hw, i64_add_l, i64_add_r, i64_mul_r]
    refine struct_k1 hl ih hH rfl fun l H' => ?_
    simpa [hw] using h l H'
end
theorem struct_spec {e : E} (hw : WfE e) (ih : ∀ x, x ∈ e.kids → NodeS x.e) : G.Spec Tryz.prog 68 [eX e] (iv (i64w (structZ e))) := by
  have hwl := hw.wl
  have hkl := hw.kl
  refine spec_of t_cost_structure (by simp) fun w0 I0 => ?_
  unfold c_cost_structure
  have k3 : ∀ (x y : Int) (H : Hp), H [0] = ⟨1, .cells (eL e)⟩ → y = i64w x → x = (if e.words = [] then 0 else 2 + e.words.length * wideW 1 e.words) → WPC (cx Tryz.prog w0 I0 80) k3_cost_structure (RetC Tryz.prog [.tmp 2] (iv (i64w (structZ e)))) ⟨lk [(1, .pob [0] 1 0), (3, iv y)], H⟩ := fun x y H hH hy hx => by
    subst hy
    rw [k3_cost_structure.eq_1]
    by_cases h0 : e.kids = []
    · simp [hH, h0]
      refine frz_is rfl ?_
      simp [structZ, h0, hx]
    · have hpos : 0 < e.kids.length := List.length_pos_iff.2 h0
      have hlt : e.kids.length - 1 < e.kids.length := by omega
      have em : IntKind.i64.wrap ((e.kids.length : Int) - 1) = ((e.kids.length - 1 : Nat) : Int) := by rw [i64_same (by omega) (by omega)]; omega
      have hlast := lastAt_get hpos
      have hz : structZ e = x + (2 + e.kids.length * (if lastAt e.kids = 0 then 1 else 2)) + (if e.words = [] then 1 else 0) + nodeKs e.kids := by
        rw [hx]; simp [structZ, h0]; omega
      by_cases h1 : lastAt e.kids = 0
      · have h1' := h1
        rw [hlast] at h1'
        simp [hH, hpos, em, hlt, h1']
        refine struct_k2 hkl ih hH fun l H' => ?_
        simp [hz, h1]
        exact frz_bare rfl
      · have h1' := h1
        rw [hlast] at h1'
        simp [hH, hpos, em, hlt, h1']
        refine struct_k2 hkl ih hH fun l H' => ?_
        simp [hz, h1]
        exact frz_bare rfl
  by_cases h0 : e.words = []
  · simp [h0]
    exact k3 0 _ _ (by simp [h0]) (by decide) (by simp [h0])
  · have hpos : 0 < e.words.length := List.length_pos_iff.2 h0
    simp [hpos]
    refine struct_l1 hwl e.words.length 0 1 _ (by omega) rfl fun i' q H' hA => ?_
    simp [i64_add_r, i64_mul_r]
    exact k3 (2 + e.words.length * wideW 1 e.words) _ _ (by rw [hA]; simp) (by unfold i64w; rw [i64_i64]) (by simp [h0])
theorem node_spec : ∀ (e : E), wfE e → NodeS e := by
  refine E.ind fun k o n ws ks l os ihk iho hw => ?_
  have h := wfE_iff.1 hw
  have ihk' : ∀ x, x ∈ (E.mk k o n ws ks l os).kids → NodeS x.e := fun x hx => ihk x hx (h.ks x hx).2
  have iho' : ∀ x, x ∈ (E.mk k o n ws ks l os).ops → x.kind = 3 → NodeS x.e := fun x hx _ => iho x hx (h.os x hx).e
  refine spec_of t_cost_node (by simp) fun w0 I0 => ?_
  unfold c_cost_node
  rw [nodeE_mk]
  by_cases h1 : k = 1
  · simp [h1]
    refine sc_call ((kids_spec h.o h.n).soft (by simp [A.softL, A.soft, soft_uv, soft_tKs])) rfl ?_
    simp [i64_add_r]
    exact frz_bare rfl
  by_cases h2 : k = 2
  · subst h2
    simp
    refine sc_call (struct_spec h ihk') rfl ?_
    simp [i64_add_r]
    exact frz_int (by by_cases hks : ks = [] <;> by_cases hws : ws = [] <;> by_cases hla : lastAt ks = 0 <;> simp [structZ, i64w, hks, hws, hla])
  by_cases h3 : k = 3
  · subst h3
    simp
    refine sc_call (list_spec h iho') rfl ?_
    simp [i64_add_r]
    exact frz_int (by simp [listZ, i64w])
  · simp [h1, h2, h3]
    exact frz_int (by decide)
theorem words39_spec {e : E} (h : wfE e) : G.Spec Tryz.prog 11 [eX e] (iv (i64w (1 + nodeE e))) := by
  refine spec_of t_cost_Words (by simp) fun w0 I0 => ?_
  unfold c_cost_Words
  simp
  refine sc_call (node_spec e h) rfl ?_
  simp [i64_add_r]
  exact frz_bare rfl
theorem wf_T0 : wfT T0 := wfT_iff.2 ⟨by simp [i64R], by simp, by simp, by simp, by simp⟩
theorem wf_E (k : Int) (h : i64R k) : wfE (.mk k T0 T0 [] [] 0 []) := wfE_iff.2 ⟨h, by simp [i64R], wf_T0, wf_T0, by simp, by simp, by simp, by simp, by simp, by simp⟩
theorem awake39_spec : G.Spec Tryz.prog 9 [] (bv true) := by
  have e0 : i64w (1 + nodeE (.mk 0 T0 T0 [] [] 0 [])) = 1 := by rw [nodeE_mk]; decide
  have e1 : i64w (1 + nodeE (.mk 1 T0 T0 [] [] 0 [])) = 2 := by rw [nodeE_mk]; simp [kids2, norm_mk, sizeP_mk]; decide
  refine spec_of t_centolaw39_awake (by simp) fun w0 I0 => ?_
  unfold c_centolaw39_awake
  simp
  refine sc_call ((words39_spec (wf_E 0 (by simp [i64R]))).soft (by simp [A.softL, A.soft])) rfl ?_
  rw [e0]
  simp
  refine sc_call_gt rfl (fun _ => (words39_spec (wf_E 1 (by simp [i64R]))).soft (by simp [A.softL, A.soft])) (fun _ => rfl) rfl ?_
  rw [e1]
  simp
  exact frz_bare rfl
theorem wf_tree : ∀ (e : E), wfE e → smE 1048575 e → rightE 64 e = true ∨ True → wfT (treeE e) := by
  refine E.ind fun k o n ws ks l os ihk iho hw hs _ => ?_
  have h := wfE_iff.1 hw
  rw [smE, smKs_all, smOs_all] at hs
  obtain ⟨s1, s2, s3, s4, s5⟩ := hs
  have u : ∀ x, u64R (u64m x) := fun x => by unfold u64R u64m; omega
  have row : ∀ (m : List T), m.length ≤ 1048575 → (∀ t, t ∈ m → wfT t) → wfT (rowT' m) := fun m hm hmt => by
    cases m with
    | nil => rw [rowT'_nil]; exact wf_T0
    | cons t m => rw [rowT'_cons]; exact wfT_iff.2 ⟨by simp [i64R], by simp, by simp, by simp at hm ⊢; omega, hmt⟩
  have tk : ∀ w : OP, (treeO l w).kids.length * 56 ≤ 140737488355328 := fun w => by
    simp only [treeO, T.kids_mk]
    repeat' split
    all_goals simp
  rw [treeE_mk]
  split
  · exact wf_T0
  · split
    · refine wfT_iff.2 ⟨by simp [i64R], ?_, by simp, by simp, ?_⟩
      · intro x hx; simp at hx; rw [hx]; exact u _
      · intro x hx; simp at hx; rcases hx with rfl | rfl; exact h.o; exact h.n
    · split
      · refine wfT_iff.2 ⟨by simp [i64R], ?_, by simp, by simp, ?_⟩
        · intro x hx; simp at hx; rw [hx]; exact u _
        · intro x hx
          simp at hx
          rcases hx with rfl | rfl
          · refine row _ (by simp; omega) fun t ht => ?_
            obtain ⟨w, hw', rfl⟩ := List.mem_map.1 ht
            obtain ⟨w1, w2, w3, w4⟩ := h.w w hw'
            exact wfT_iff.2 ⟨by simp [treeW, i64R], by intro x hx; simp [treeW] at hx; rcases hx with rfl | rfl | rfl; exact u _; exact w3; exact w4, by simp [treeW], by simp [treeW], by simp [treeW]⟩
          · rw [treeKs_map]
            refine row _ (by simp; omega) fun t ht => ?_
            obtain ⟨w, hw', rfl⟩ := List.mem_map.1 ht
            exact wfT_iff.2 ⟨by simp [treeK, i64R], by intro x hx; simp [treeK] at hx; rw [hx]; exact u _, by simp [treeK], by simp [treeK], by intro x hx; simp [treeK] at hx; rw [hx]; exact ihk w hw' (h.ks w hw').2 (s4 w hw') (.inr trivial)⟩
      · refine wfT_iff.2 ⟨by simp [i64R], ?_, by simp, by simp, ?_⟩
        · intro x hx; simp at hx; rw [hx]; exact u _
        · intro x hx
          simp at hx
          subst hx
          rw [treeOs_map]
          refine row _ (by simp; omega) fun t ht => ?_
          obtain ⟨w, hw', rfl⟩ := List.mem_map.1 ht
          have hwo := h.os w hw'
          refine wfT_iff.2 ⟨by simp [treeO, i64R], by intro x hx; simp [treeO] at hx; rw [hx]; exact u _, by simp [treeO], tk w, ?_⟩
          intro x hx
          simp only [treeO, T.kids_mk] at hx
          split at hx
          · simp at hx; rw [hx]; exact iho w hw' hwo.e (s5 w hw') (.inr trivial)
          · split at hx
            · simp at hx; rw [hx]; exact wfT_iff.2 ⟨h.l, by simp, by simp, hwo.ll, hwo.l⟩
            · simp at hx
theorem masks_wf : ∀ (e : E), wfE e → masksE e := by
  refine E.ind fun k o n ws ks l os ihk iho hw => ?_
  have h := wfE_iff.1 hw
  have hk : ∀ (m : List KE), (∀ x, x ∈ m → masksE x.e) → masksK m := by
    intro m
    induction m with
    | nil => intro _; simp [masksK]
    | cons x m ih => intro hm; obtain ⟨a, e⟩ := x; rw [masksK]; exact ⟨hm (.mk a e) (by simp), ih fun y hy => hm y (by simp [hy])⟩
  have ho : ∀ (m : List OP), (∀ x, x ∈ m → masksE x.e) → masksO m := by
    intro m
    induction m with
    | nil => intro _; simp [masksO]
    | cons x m ih => intro hm; obtain ⟨a, b, c, e⟩ := x; rw [masksO]; exact ⟨hm (.mk a b c e) (by simp), ih fun y hy => hm y (by simp [hy])⟩
  rw [masksE]
  exact ⟨fun w hw' => (h.w w hw').2.1, hk ks fun x hx => ihk x hx (h.ks x hx).2, ho os fun x hx => iho x hx (h.os x hx).e⟩
end Go.Proofs.YthfiijdbnkaabaaGreat

/-
  Laid words are words.
-/
namespace Go.Proofs.YthfiijdbnkaabaaGreat
set_option linter.unusedVariables false
set_option linter.unusedSimpArgs false
open Go Go.G Go.Proofs Go.PL
def AllW (l : List Int) : Prop := ∀ y, y ∈ l → u64R y
theorem allW_app {a b : List Int} : AllW (a ++ b) ↔ AllW a ∧ AllW b := by
  unfold AllW
  simp only [List.mem_append]
  exact ⟨fun h => ⟨fun y hy => h y (.inl hy), fun y hy => h y (.inr hy)⟩, fun h y hy => hy.elim (h.1 y) (h.2 y)⟩
theorem allW_set {l : List Int} {p : Nat} {x : Int} (h : AllW l) (hx : u64R x) : AllW (l.set p x) := fun y hy => by
  rcases List.mem_or_eq_of_mem_set hy with hy | rfl
  · exact h y hy
  · exact hx
theorem allW_rep (n : Nat) : AllW (List.replicate n 0) := fun y hy => by rw [List.eq_of_mem_replicate hy]; exact ⟨by decide, by decide⟩
theorem ptrZ_rng {a to k u : Int} (h0 : 0 ≤ a) (h1 : a ≤ 200000) (t0 : 0 ≤ to) (t1 : to ≤ 200000) (k0 : 0 ≤ k) (k1 : k < 4) (u0 : 0 ≤ u) (u1 : u < 4294967296) : u64R (ptrZ a to k u) := by
  unfold ptrZ u64R
  split <;> omega
theorem putL_in {w : Nat} (hw : w = 1 ∨ w = 8 ∨ w = 16 ∨ w = 32 ∨ w = 64) : ∀ (ns : List Int) (i : Nat) (out : List Int), PutI w i out → (∀ x, x ∈ ns → 0 ≤ x ∧ x < 2 ^ w) → (∀ j, j < i + ns.length → j * w / 64 < out.length) → AllW (putL w ns i out)
  | [], i, out, hI, _, _ => fun y hy => by
    rw [putL] at hy
    obtain ⟨j, hj, rfl⟩ := List.mem_iff_getElem.1 hy
    exact hI.rng j hj
  | n :: ns, i, out, hI, hn, hl => by
    obtain ⟨h0, h1⟩ := hn n (by simp)
    rw [putL, if_neg (by omega)]
    have := putI_step hI hw h0 h1 (hl i (by simp))
    exact putL_in hw ns (i + 1) _ this.1 (fun x hx => hn x (by simp [hx])) (fun j hj => by rw [List.length_set]; exact hl j (by simp at hj ⊢; omega))
theorem putZ_all {c : Int} (c0 : 0 ≤ c) (c6 : c < 6) {ns : List Int} (hnl : ns.length ≤ 1000000000) (hfit : ∀ x, x ∈ ns → u64R x ∧ fitsZ c x = true) : AllW (putZ c ns) := by
  obtain ⟨w, w1, w2, w3⟩ := width_cases c0 c6
  unfold putZ
  rw [w1]
  simp only [Int.toNat_natCast]
  by_cases h0 : w = 0
  · subst h0
    have : ∀ (ns : List Int) (i : Nat) (o : List Int), putL 0 ns i o = o := fun ns => by
      induction ns with
      | nil => intro i o; rfl
      | cons n ns ih => intro i o; rw [putL, if_pos rfl, ih]
    rw [this]
    exact allW_rep _
  · refine putL_in (by omega) ns 0 _ (PutI.start w _) (fun x hx => ?_) (fun j hj => ?_)
    · obtain ⟨a, b⟩ := hfit x hx
      exact ⟨a.1, fits_lt w1 a.1 b⟩
    · rw [List.length_replicate]
      have hroom : roomZ c ns.length = (((ns.length * w + 63) / 64 : Nat) : Int) := by
        unfold roomZ
        rw [if_neg (by omega), w2]
        have e : (ns.length : Int) * w = ((ns.length * w : Nat) : Int) := by rw [Int.natCast_mul]
        rw [e]
        omega
      rw [hroom, Int.toNat_natCast]
      exact put_at (by omega) (by omega)
def LW (f : Nat → List Int → List Int) (n : Nat) : Prop := ∀ (a : Nat) (l : List Int), a + n ≤ l.length → (f a l).length ≤ 200000 → AllW l → AllW (f a l)
theorem layL_lw : ∀ {ts : List T}, (∀ t, t ∈ ts → LW (layT t) 1) → LW (layL ts) ts.length
  | [], _ => fun a l _ _ h => by simpa using h
  | t :: ts, h => fun a l ha hl hw => by
    simp only [List.length_cons] at ha
    rw [layL_cons] at hl ⊢
    have h1 := layL_lm ts (a + 1) (layT t a l)
    have h2 := layT_le t a l
    exact layL_lw (fun u hu => h u (by simp [hu])) (a + 1) _ (by omega) hl (h t (by simp) a l (by omega) (by omega) hw)
theorem layC_lw {w k : Nat} : ∀ {ts : List T}, (∀ t, t ∈ ts → LW (layL t.kids) t.kids.length ∧ t.kids.length ≤ k) → ∀ (a : Nat) (l : List Int), a + ts.length * (w + k) ≤ l.length → (layC w k ts a l).length ≤ 200000 → AllW l → AllW (layC w k ts a l)
  | [], _ => fun a l _ _ h => by simpa using h
  | t :: ts, h => fun a l ha hl hw => by
    obtain ⟨g1, g2⟩ := h t (by simp)
    simp only [List.length_cons, Nat.add_mul, Nat.one_mul] at ha
    rw [layC_cons] at hl ⊢
    have h1 := layC_lm w k ts (a + (w + k)) (layL t.kids (a + w) l)
    have h2 := layL_lm t.kids (a + w) l
    exact layC_lw (fun u hu => h u (by simp [hu])) (a + (w + k)) _ (by omega) hl (g1 (a + w) l (by omega) (by omega) hw)
theorem rowsC_in {w k : Nat} : ∀ {ts : List T}, (∀ t, t ∈ ts → AllW t.words) → AllW (rowsC w k ts)
  | [], _ => fun y hy => by simp [rowsC] at hy
  | t :: ts, h => by
    rw [rowsC]
    exact allW_app.2 ⟨allW_app.2 ⟨h t (by simp), allW_rep _⟩, rowsC_in fun u hu => h u (by simp [hu])⟩
theorem lay_lw : ∀ t : T, wfT t → (LayOk t → LW (layT t) 1) ∧ ((∀ u, u ∈ t.kids → LayOk u) → LW (layL t.kids) t.kids.length) := by
  refine T.ind fun k w ks ih hw => ?_
  have hwt := wfT_iff.1 hw
  have hK : (∀ u, u ∈ ks → LayOk u) → LW (layL ks) ks.length := fun h => layL_lw fun t ht => (ih t ht (hwt.ks t ht)).1 (h t ht)
  refine ⟨fun hok a l ha hl hA => ?_, hK⟩
  cases hok with
  | null => rw [layT_mk, if_pos rfl]; exact hA
  | str w ks b1 b2 h =>
    rw [layT_mk, if_neg (by decide), if_pos rfl] at hl ⊢
    have hm := Nat.le_trans (layL_lm ks _ _) hl
    simp only [List.length_append, List.length_set, List.length_replicate] at hm
    refine hK h _ _ (by simp; omega) hl (allW_app.2 ⟨allW_app.2 ⟨allW_set hA (ptrZ_rng (by omega) (by omega) (by omega) (by split <;> omega) (by omega) (by omega) (by omega) (by omega)), hwt.w⟩, allW_rep _⟩)
  | ptrs w ks b1 h =>
    rw [layT_mk, if_neg (by decide), if_neg (by decide), if_pos rfl] at hl ⊢
    have hm := layL_lm ks l.length (l.set a (ptrZ a l.length 1 (6 + 8 * ks.length)) ++ List.replicate ks.length 0)
    simp only [List.length_append, List.length_set, List.length_replicate] at hm
    exact hK h _ _ (by simp) hl (allW_app.2 ⟨allW_set hA (ptrZ_rng (by omega) (by omega) (by omega) (by omega) (by omega) (by omega) (by omega) (by omega)), allW_rep _⟩)
  | comp w ks b1 b2 h =>
    rw [layT_mk, if_neg (by decide), if_neg (by decide), if_neg (by decide), if_pos rfl] at hl ⊢
    have hbound := frame_bound (ts := ks) (w := 65535) (k := 65535) fun u hu => by have := b2 u hu; omega
    have hr := rowsC_length (w := frameW ks) (k := frameK ks) ks fun t ht => by have := frameW_le ht; omega
    have hm := layC_lm (frameW ks) (frameK ks) ks (l.length + 1) (l.set a (ptrZ a l.length 1 (7 + 8 * (ks.length * (frameW ks + frameK ks) : Nat))) ++ [4 * (ks.length : Int) + 4294967296 * ((frameW ks : Int) + 65536 * frameK ks)] ++ rowsC (frameW ks) (frameK ks) ks)
    simp only [List.length_append, List.length_set, List.length_singleton, hr] at hm
    have hkf : ∀ t, t ∈ ks → t.kids.length ≤ frameK ks := fun t ht => frameK_le ht
    generalize frameW ks = W at *
    generalize frameK ks = K at *
    generalize hL : ks.length * (W + K) = L at *
    refine layC_lw (fun t ht => ⟨(ih t ht (hwt.ks t ht)).2 (h t ht), hkf t ht⟩) _ _ (by simp only [List.length_append, List.length_set, List.length_singleton, hr]; omega) hl (allW_app.2 ⟨allW_app.2 ⟨allW_set hA (ptrZ_rng (by omega) (by omega) (by omega) (by omega) (by omega) (by omega) (by omega) (by omega)), fun y hy => ?_⟩, rowsC_in fun t ht => (wfT_iff.1 (hwt.ks t ht)).w⟩)
    simp only [List.mem_singleton] at hy
    subst hy
    unfold u64R
    omega
  | data k w ks h1 h2 b1 hc =>
    rw [layT_mk, if_neg (by omega), if_neg (by omega), if_neg (by omega), if_neg (by omega)] at hl ⊢
    rw [List.length_append, List.length_set] at hl
    refine allW_app.2 ⟨allW_set hA (ptrZ_rng (by omega) (by omega) (by omega) (by omega) (by omega) (by omega) (by omega) (by omega)), putZ_all (by omega) (by omega) (by simp; omega) fun x hx => ?_⟩
    obtain ⟨c, hc', rfl⟩ := List.mem_map.1 hx
    obtain ⟨y, y1, y2, y3, y4⟩ := hc c hc'
    have : hd c = y := by simp [hd, y1]
    rw [this]
    exact ⟨⟨y2, y3⟩, y4⟩
/-- What is told is a segment. -/
theorem cn_sg {most : Int} {t : T} (hw : wfT t) : Sg [cnW most t] := by
  by_cases h : cnOk most t = true
  · have hW : cnW most t = layT (norm t) 0 [0] := by simp [cnW, h]
    simp [cnOk] at h
    obtain ⟨⟨⟨hr, h10⟩, _⟩, hs⟩ := h
    have hok := laid_right t 64 hr hw h10
    have hlen := (lay_len (norm t)).1 hok 0 [0]
    simp only [List.length_singleton] at hlen
    have hwd := (lay_lw (norm t) (wf_norm t hw)).1 hok 0 [0] (by simp) (by omega) (allW_rep 1)
    rw [hW]
    exact ⟨fun x hx => by simp at hx; subst hx; omega, fun x hx y hy => by simp at hx; subst hx; exact hwd y hy⟩
  · have hW : cnW most t = [] := by simp [cnW, h]
    rw [hW]
    exact ⟨fun x hx => by simp at hx; subst hx; simp, fun x hx y hy => by simp at hx; subst hx; cases hy⟩
end Go.Proofs.YthfiijdbnkaabaaGreat

/-
  Encode and Decode, of both: trees as words; edits as words.
-/
namespace Go.Proofs.YthfiijdbnkaabaaGreat
set_option linter.unusedVariables false
set_option linter.unusedSimpArgs false
open Go Go.G Go.Proofs Go.PL
/-! ### edits as words -/
def pkOk (most : Int) (e : E) : Bool := rightE 64 e && cnOk most (treeE e) && decide ((unfP [cnW most (treeE e)] 64 65536).2.2 = 0)
def pkW (most : Int) (e : E) : List Int := if pkOk most e = true then cnW most (treeE e) else []
theorem pLimits_spec : G.Spec Tryz.prog 33 [] (liX 64 65536 0 0) := by
  refine spec_of t_patch_limits (by simp) fun w0 I0 => ?_
  unfold c_patch_limits
  simp
  exact frz_bare rfl
theorem pkEnc_spec {e : E} (hw : wfE e) (hs : smE 1048575 e) (most : Int) (hsz : rightE 64 e = true → rightT 64 (treeE e) = true → sizeT (norm (treeE e)) < 9223372036854775808) :
    G.Spec Tryz.prog 10 [eX e, iv most] (.tup [uws (pkW most e), bv (pkOk most e)]) := by
  have no : pkOk most e = false → pkW most e = [] := fun h => by simp [pkW, h]
  have hwt := wf_tree e hw hs (.inr trivial)
  have sg := cn_sg (most := most) hwt
  refine spec_of t_patch_Encode (by simp) fun w0 I0 => ?_
  unfold c_patch_Encode
  simp
  refine sc_call (peRight_spec hw) (by simp) ?_
  by_cases hr : rightE 64 e = true
  · simp [hr]
    refine sc_call (pTree_all e hw hs ⟨64, hr⟩) (by simp) ?_
    simp
    refine sc_call (cnEnc_spec hwt most (fun h1 _ => hsz hr h1)) (by simp) ?_
    by_cases hc : cnOk most (treeE e) = true
    · simp [hc]
      refine sc_call ((of_spec [cnW most (treeE e)] (by simp) sg.b).soft (by simp [A.softL, A.soft, soft_uv])) (by simp) ?_
      simp
      refine sc_call pLimits_spec (by simp) ?_
      simp
      refine sc_call (vCheck_spec sg 64 65536 0 0) (by simp) ?_
      by_cases hu : (unfP [cnW most (treeE e)] 64 65536).2.2 = 0
      · have hf : pkOk most e = true := by simp [pkOk, hr, hc, hu]
        have hW : pkW most e = cnW most (treeE e) := by simp [pkW, hf]
        rw [hW, hf]
        simp [hu]
        exact frz_bare rfl
      · have hf : pkOk most e = false := by simp [pkOk, hu]
        rw [no hf, hf]
        simp [hu]
        exact frz_tup (by simp; exact ⟨frz_sl, frz_bare rfl⟩)
    · have hf : pkOk most e = false := by simp [pkOk, hc]
      rw [no hf, hf]
      simp at hc
      simp [hc]
      exact frz_tup (by simp; exact ⟨frz_sl, frz_bare rfl⟩)
  · have hf : pkOk most e = false := by simp [pkOk, hr]
    rw [no hf, hf]
    simp at hr
    simp [hr]
    exact frz_tup (by simp; exact ⟨frz_sl, frz_bare rfl⟩)
end Go.Proofs.YthfiijdbnkaabaaGreat

/-
  Chapter 27, plain: how many words few parts are.
-/
namespace Go.PL
set_option linter.unusedVariables false
set_option linter.unusedSimpArgs false
mutual
def partsT : T → Int
  | .mk _ w l => 1 + w.length + partsL l
def partsL : List T → Int
  | [] => 0
  | t :: l => partsT t + partsL l
end
@[simp] theorem partsT_mk (k : Int) (w : List Int) (l : List T) : partsT (.mk k w l) = 1 + w.length + partsL l := by rw [partsT]
@[simp] theorem partsL_nil : partsL [] = 0 := by rw [partsL]
@[simp] theorem partsL_cons (t : T) (l : List T) : partsL (t :: l) = partsT t + partsL l := by rw [partsL]
theorem partsL_len {l : List T} (h : ∀ t, t ∈ l → 1 ≤ partsT t) : (l.length : Int) ≤ partsL l := by
  induction l with
  | nil => simp
  | cons t l ih =>
    have := h t (by simp)
    have := ih fun u hu => h u (by simp [hu])
    simp
    omega
theorem partsT_pos : ∀ t : T, 1 ≤ partsT t := by
  refine T.ind fun k w l ih => ?_
  have := partsL_len ih
  simp
  omega
theorem partsL_pos (l : List T) : (l.length : Int) ≤ partsL l := partsL_len fun t _ => partsT_pos t
theorem sizeL_parts {l : List T} (h : ∀ t, t ∈ l → sizeT (norm t) + 139999 ≤ 140000 * partsT t) : sizeL (l.map norm) + 139999 * l.length ≤ 140000 * partsL l := by
  induction l with
  | nil => simp
  | cons t l ih =>
    have := h t (by simp)
    have := ih fun u hu => h u (by simp [hu])
    simp
    omega
theorem frame_max {l : List T} {B : Nat} (h : ∀ t, t ∈ l → t.words.length ≤ B ∧ t.kids.length ≤ B) : frameW l ≤ B ∧ frameK l ≤ B := by
  induction l with
  | nil => simp [frameW, frameK]
  | cons t l ih =>
    have := h t (by simp)
    have := ih fun u hu => h u (by simp [hu])
    simp only [frameW, frameK]
    omega
theorem size_parts : ∀ (t : T) (D : Nat), rightT D t = true → sizeT (norm t) + 139999 ≤ 140000 * partsT t := by
  refine T.ind fun k w l ih D hD => ?_
  have hst := rightT_struct hD
  have ihl : ∀ t, t ∈ l → sizeT (norm t) + 139999 ≤ 140000 * partsT t := fun t ht => ih t ht _ (hst t ht).1
  have hS := sizeL_parts ihl
  have hlp := partsL_pos l
  rw [rightT_mk] at hD
  rw [partsT_mk]
  by_cases k0 : k = 0
  · rw [norm_mk, if_pos k0]; simp; omega
  rw [if_neg k0] at hD
  by_cases k10 : k = 10
  · rw [if_pos k10] at hD
    simp at hD
    rw [norm_mk, if_neg k0, if_neg (by omega), k10, sizeT_mk, hD.2]
    simp
    omega
  rw [if_neg k10] at hD
  split at hD
  · cases hD
  rename_i hb
  simp [tooBig] at hb
  by_cases k1 : k = 1
  · subst k1
    rw [size_one]
    have := trimW_le w
    have := trimK_le (l.map norm)
    rw [List.length_map] at this
    omega
  rw [norm_mk, if_neg k0, if_neg k1, sizeT_mk, if_neg k1]
  by_cases k8 : k = 8
  · rw [if_pos k8, List.length_map]; omega
  rw [if_neg k8]
  by_cases kd : 2 ≤ k ∧ k ≤ 7
  · rw [if_pos kd, List.length_map]
    have : roomZ (k - 2) l.length ≤ l.length := by
      unfold roomZ bitsZ
      repeat' split
      all_goals omega
    omega
  rw [if_neg kd]
  by_cases k9 : k = 9
  · subst k9
    rw [if_pos rfl, List.length_map]
    have k1s : ∀ t, t ∈ l → t.kind = 1 := fun t ht => kidOk_9 (hst t ht).2
    have bnd : frameW (l.map norm) ≤ 65535 ∧ frameK (l.map norm) ≤ 65535 := frame_max fun u hu => by
      obtain ⟨t, ht, rfl⟩ := List.mem_map.1 hu
      have h1 := k1s t ht
      have h2 := (hst t ht).1
      obtain ⟨kk, ww, ll⟩ := t
      simp at h1
      subst h1
      rw [rightT_mk] at h2
      simp [tooBig] at h2
      rw [norm_mk]
      simp
      have := trimW_le ww
      have := trimK_le (ll.map norm)
      rw [List.length_map] at this
      omega
    have hsub : ∀ (m : List T), (∀ t, t ∈ m → t.kind = 1 ∧ sizeT (norm t) + 139999 ≤ 140000 * partsT t) → sizeLL (m.map norm) + 139999 * m.length ≤ 140000 * partsL m := fun m => by
      induction m with
      | nil => intro _; simp
      | cons t m ihm =>
        intro h
        obtain ⟨a, b⟩ := h t (by simp)
        have := ihm fun u hu => h u (by simp [hu])
        have hk : sizeL (norm t).kids ≤ sizeT (norm t) := by
          have hn : (norm t).kind = 1 := by simpa using a
          generalize norm t = x at hn
          obtain ⟨kk, ww, ll⟩ := x
          simp at hn
          subst hn
          rw [sizeT_mk, if_pos rfl]
          simp
          omega
        simp
        omega
    have h9 := hsub l fun t ht => ⟨k1s t ht, ihl t ht⟩
    have hm : (l.length : Int) * ((frameW (l.map norm) : Int) + frameK (l.map norm)) ≤ l.length * 131070 := Int.mul_le_mul_of_nonneg_left (by omega) (by omega)
    omega
  · rw [if_neg k9]; omega
/-! ### what is left -/
theorem parts_shallow : ∀ (t : T) (d : Nat) (n : Int), 0 ≤ shallow d n t → partsT t ≤ n - shallow d n t := by
  refine T.ind fun k w l ih d n h => ?_
  have hl : ∀ (m : List T) (d : Nat) (n : Int), (∀ t, t ∈ m → t ∈ l) → 0 ≤ shallowL d n m → partsL m ≤ n - shallowL d n m := by
    intro m
    induction m with
    | nil => intro d n _ _; simp
    | cons t m ihm =>
      intro d n hin h
      rw [shallowL_cons] at h ⊢
      split at h
      · omega
      · rename_i hc
        rw [if_neg hc]
        have h1 := ihm d (shallow d n t) (fun u hu => hin u (by simp [hu])) h
        have h3 : 0 ≤ shallow d n t := by
          cases m with
          | nil => simpa using h
          | cons u m =>
            rw [shallowL_cons] at h
            split at h <;> omega
        have := ih t (hin t (by simp)) d n h3
        simp
        omega
  rw [shallow_mk] at h ⊢
  split at h
  · omega
  rename_i hc
  rw [if_neg hc]
  have := hl l (d - 1) _ (fun t ht => ht) h
  simp
  omega
theorem partsL_shallow : ∀ (m : List T) (d : Nat) (n : Int), 0 ≤ shallowL d n m → partsL m ≤ n - shallowL d n m ∧ 0 ≤ n
  | [], d, n, h => by simp at h ⊢; exact h
  | t :: m, d, n, h => by
    rw [shallowL_cons] at h ⊢
    split at h
    · omega
    · rename_i hc
      rw [if_neg hc]
      obtain ⟨h1, h2⟩ := partsL_shallow m d _ h
      have := parts_shallow t d n h2
      simp
      omega
theorem rowT'_parts (l : List T) : partsT (rowT' l) = 1 + partsL l := by cases l <;> simp
theorem treeW_parts (ws : List WE) : partsL (ws.map treeW) = 4 * ws.length := by
  induction ws with
  | nil => simp
  | cons w ws ih => simp [ih, treeW]; omega
mutual
theorem left_parts : ∀ (e : E) (d : Nat) (n : Int), 0 ≤ leftE d n e → partsT (treeE e) + 6 ≤ 10 * (n - leftE d n e)
  | .mk k o nn ws ks l os, d, n, h => by
    rw [leftE_mk] at h ⊢
    split at h
    · omega
    rename_i hc
    rw [if_neg hc]
    obtain ⟨a1, a2⟩ := leftOs_parts os l (d - 1) _ h
    obtain ⟨b1, b2⟩ := leftKs_parts ks (d - 1) _ a2
    have po := partsT_pos o
    have pn := partsT_pos nn
    have pk := partsL_pos (treeKs ks)
    have pos := partsL_pos (treeOs l os)
    have c1 : partsT o + partsT nn ≤ n - 1 - ws.length - os.length - left2 n ws.length os.length o nn := by
      rw [left2_eq] at b2 ⊢
      split at b2
      · omega
      · rename_i hs
        rw [if_neg hs]
        have := parts_shallow o 80 _ (by omega : 0 ≤ shallow 80 (n - 1 - ws.length - os.length) o)
        have := parts_shallow nn 80 _ b2
        omega
    rw [treeE_mk]
    split
    · simp; omega
    · split
      · simp; omega
      · split
        · simp [rowT'_parts, treeW_parts]; omega
        · simp [rowT'_parts]; omega
theorem leftKs_parts : ∀ (ks : List KE) (d : Nat) (n : Int), 0 ≤ leftKs d n ks → partsL (treeKs ks) ≤ 10 * (n - leftKs d n ks) ∧ 0 ≤ n
  | [], d, n, h => by rw [treeKs]; simp at h ⊢; exact h
  | .mk a e :: l, d, n, h => by
    rw [leftKs_cons] at h ⊢
    split at h
    · omega
    rename_i hc
    rw [if_neg hc]
    simp only [KE.e_mk] at h ⊢
    obtain ⟨b1, b2⟩ := leftKs_parts l d _ h
    have := left_parts e d n b2
    rw [treeKs]
    simp
    omega
theorem leftOs_parts : ∀ (os : List OP) (list : Int) (d : Nat) (n : Int), 0 ≤ leftOs d n os → partsL (treeOs list os) ≤ 10 * (n - leftOs d n os) ∧ 0 ≤ n
  | [], list, d, n, h => by rw [treeOs]; simp at h ⊢; exact h
  | .mk k m t e :: l, list, d, n, h => by
    rw [leftOs_cons] at h ⊢
    split at h
    · omega
    rename_i hc
    rw [if_neg hc]
    simp only [OP.e_mk, OP.l_mk] at h ⊢
    obtain ⟨b1, b2⟩ := leftOs_parts l list d _ h
    by_cases hs : shallowL 80 n t < 0
    · simp only [hs, if_true] at b2
      omega
    · simp only [hs, if_false] at b1 b2 ⊢
      have h1 := left_parts e d _ b2
      have h2 := (partsL_shallow t 80 n (by omega)).1
      have h3 := partsL_pos t
      have h4 := partsT_pos (treeE e)
      rw [treeOs]
      refine ⟨?_, by omega⟩
      by_cases k3 : k = 3
      · rw [if_pos k3]; simp; omega
      · rw [if_neg k3]
        split
        · simp; omega
        · simp; omega
end
def fewE' (e : E) : Bool := decide (0 ≤ leftE 80 3000 e)
theorem few_size {e : E} {D : Nat} (hf : fewE' e = true) (hr : rightT D (treeE e) = true) : sizeT (norm (treeE e)) ≤ 5000000000 := by
  have h := left_parts e 80 3000 (by simpa [fewE'] using hf)
  have h0 : 0 ≤ leftE 80 3000 e := by simpa [fewE'] using hf
  have := size_parts (treeE e) D hr
  omega
end Go.PL

/-
  The law CostPatch.
-/
namespace Go.Proofs.YthfiijdbnkaabaaGreat
set_option linter.unusedVariables false
set_option linter.unusedSimpArgs false
open Go Go.G Go.Proofs Go.PL
theorem few_enc {e : E} (hf : fewE e = true) : rightE 64 e = true → rightT 64 (treeE e) = true → sizeT (norm (treeE e)) < 9223372036854775808 := fun _ hr => by
  have := few_size (e := e) (D := 64) hf hr
  omega
/-- What is told has so many words. -/
theorem cnW_len {most : Int} {t : T} (hw : wfT t) (h : cnOk most t = true) : ((cnW most t).length : Int) = 1 + sizeT (norm t) := by
  have hW : cnW most t = layT (norm t) 0 [0] := by simp [cnW, h]
  simp [cnOk] at h
  obtain ⟨⟨⟨hr, h10⟩, _⟩, hs⟩ := h
  have hok := laid_right t 64 hr hw h10
  have hlen := (lay_len (norm t)).1 hok 0 [0]
  rw [hW]
  simpa using hlen
theorem cnOk_iff {most : Int} {t : T} : cnOk most t = true ↔ rightT 64 t = true ∧ t.kind ≠ 10 ∧ sizeT (norm t) < most ∧ sizeT (norm t) < 131072 := by
  unfold cnOk
  simp only [Bool.and_eq_true, Bool.not_eq_true', decide_eq_true_eq, decide_eq_false_iff_not, and_assoc]
theorem CostPatch_spec {e : E} (h : wfE e) : G.Spec Tryz.prog 3 [eX e] (bv true) := by
  refine spec_of t_centolaw39_CostPatch (by simp) fun w0 I0 => ?_
  unfold c_centolaw39_CostPatch
  simp
  refine sc_call (good_spec h) rfl ?_
  cases hg : goodE e with
  | false =>
    simp
    refine sc_call awake39_spec rfl ?_
    simp
    exact frz_bare rfl
  | true =>
    simp [goodE] at hg
    obtain ⟨⟨hf, hr⟩, hlt⟩ := hg
    have hs := few_sm hf
    simp
    refine sc_call (pkEnc_spec h hs 131072 (few_enc hf)) (by simp) ?_
    by_cases hk : pkOk 131072 e = true
    · have hW : pkW 131072 e = cnW 131072 (treeE e) := by simp [pkW, hk]
      have hc : cnOk 131072 (treeE e) = true := by simp [pkOk] at hk; exact hk.1.2
      have hwt := wf_tree e h hs (.inr trivial)
      have hlen := cnW_len hwt hc
      have key := node_size e 64 hr (masks_wf e h)
      obtain ⟨hrt, h10, _, hsz⟩ := cnOk_iff.1 hc
      have h0 := (size_nonneg (norm (treeE e))).1 (laid_right _ 64 hrt hwt h10)
      have ew : i64w (1 + nodeE e) = ((cnW 131072 (treeE e)).length : Int) := by
        rw [key, hlen]
        exact i64_same (by omega) (by omega)
      rw [hW, hk]
      simp
      refine sc_call_gf rfl (fun _ => words39_spec h) (fun _ => rfl) rfl ?_
      rw [ew]
      simp
      refine sc_call_gt rfl (fun _ => awake39_spec) (fun _ => rfl) rfl ?_
      simp
      exact frz_bare rfl
    · have hk' : pkOk 131072 e = false := by simpa using hk
      rw [hk']
      simp
      refine sc_call_off rfl ?_
      simp
      refine sc_call_gt rfl (fun _ => awake39_spec) (fun _ => rfl) rfl ?_
      simp
      exact frz_bare rfl
end Go.Proofs.YthfiijdbnkaabaaGreat

/-
  What an argument holds: trees and edits out of readings.
-/
namespace Go.Proofs.YthfiijdbnkaabaaGreat
set_option linter.unusedVariables false
set_option linter.unusedSimpArgs false
open Go Go.G Go.Proofs Go.PL Go.RowKit
theorem lit_i64 {m : Int} (h : (Lit.int .i64 m).wf = true) : i64R m := by
  simp [Lit.wf, IntKind.min, IntKind.max, IntKind.bits, IntKind.signed] at h
  unfold i64R; omega
theorem lit_u64 {m : Int} (h : (Lit.int .u64 m).wf = true) : u64R m := by
  simp [Lit.wf, IntKind.min, IntKind.max, IntKind.bits, IntKind.signed] at h
  unfold u64R; omega
theorem lit_u8 {m : Int} (h : (Lit.int .u8 m).wf = true) : 0 ≤ m ∧ m < 256 := by
  simp [Lit.wf, IntKind.min, IntKind.max, IntKind.bits, IntKind.signed] at h
  omega
theorem und_int' : Tryz.prog.underlying 3 = some (.int .i64) := by kernel_rfl
theorem und_u64' : Tryz.prog.underlying 60 = some (.int .u64) := by kernel_rfl
theorem hasI {n : Nat} {b : List A} (h : Has Tryz.prog n 3 b) : ∃ m, i64R m ∧ b = [iv m] := by
  cases n with
  | zero => exact h.elim
  | succ n =>
    unfold Has at h
    rw [und_int'] at h
    obtain ⟨m, hm, rfl⟩ := h
    exact ⟨m, lit_i64 hm, rfl⟩
theorem hasU {n : Nat} {b : List A} (h : Has Tryz.prog n 60 b) : ∃ m, u64R m ∧ b = [uv m] := by
  cases n with
  | zero => exact h.elim
  | succ n =>
    unfold Has at h
    rw [und_u64'] at h
    obtain ⟨m, hm, rfl⟩ := h
    exact ⟨m, lit_u64 hm, rfl⟩
theorem rowOf {α : Type} {xs : List A} {g : α → A} {R : α → Prop} (h : ∀ x, x ∈ xs → ∃ y, R y ∧ x.soft = g y) : ∃ l : List α, A.softL xs = l.map g ∧ l.length = xs.length ∧ ∀ y, y ∈ l → R y := by
  induction xs with
  | nil => exact ⟨[], rfl, rfl, fun y h => nomatch h⟩
  | cons x xs ih =>
    obtain ⟨y, hy, e⟩ := h x (by simp)
    obtain ⟨l, e2, e3, hl⟩ := ih fun z hz => h z (by simp [hz])
    refine ⟨y :: l, by simp [A.softL, e, e2], by simp [e3], fun z hz => ?_⟩
    rcases List.mem_cons.1 hz with rfl | hz
    · exact hy
    · exact hl z hz
theorem hasSl {P : Program} {t e : TypeId} {m : Nat} (u : P.underlying t = some (.slice e)) (hb : P.bytesOf e = m) {n : Nat} {b : List A} (h : Has P n t b) {α : Type} {g : α → A} {R : α → Prop} (hx : ∀ k b, k < n → Has P k e b → ∃ y, R y ∧ (mk P e b).soft = g y) :
    ∃ (f : Bool) (xs : List A) (l : List α), b = [.sl f xs] ∧ A.softL xs = l.map g ∧ l.length * m ≤ 140737488355328 ∧ ∀ y, y ∈ l → R y := by
  cases n with
  | zero => exact h.elim
  | succ n =>
    unfold Has at h
    rw [u] at h
    obtain ⟨f, xs, rfl, _, hz, hf, hx'⟩ := h
    rw [hb] at hz
    obtain ⟨l, e1, e2, hl⟩ := rowOf (g := g) (R := R) (xs := xs) fun x hxx => by
      obtain ⟨b, hb', rfl⟩ := hx' x hxx
      exact hx n b (by omega) hb'
    exact ⟨f, xs, l, rfl, e1, by rw [e2]; exact Nat.le_trans hz (by decide), hl⟩
theorem mk_u64 (b : List A) : mk Tryz.prog 60 b = b.headD .any := by unfold mk; rw [und_u64']
theorem hasWs {n : Nat} {b : List A} (h : Has Tryz.prog n 22 b) : ∃ (f : Bool) (xs : List A) (l : List Int), b = [.sl f xs] ∧ A.softL xs = l.map uv ∧ l.length * 8 ≤ 140737488355328 ∧ ∀ y, y ∈ l → u64R y :=
  hasSl (e := 60) (by kernel_rfl) (by kernel_rfl) h fun k b _ hb => by
    obtain ⟨m, h1, rfl⟩ := hasU hb
    exact ⟨m, h1, by rw [mk_u64]; rfl⟩
theorem und_tree : Tryz.prog.underlying 25 = some (.struct (Tryz.prog.fieldsOf 25)) := by kernel_rfl
theorem fld_tree : (Tryz.prog.fieldsOf 25).toList.map Field.type = [3, 22, 23] := by kernel_rfl
theorem mk_tree (b : List A) : mk Tryz.prog 25 b = .agg b := by unfold mk; rw [und_tree]
theorem hasTree : ∀ (n : Nat) (b : List A), Has Tryz.prog n 25 b → ∃ t, wfT t ∧ A.softL b = [iv t.kind, uws t.words, tKs t.kids] := by
  intro n
  induction n using Nat.strongRecOn with
  | ind n ih =>
    intro b h
    cases n with
    | zero => exact h.elim
    | succ n =>
      unfold Has at h
      rw [und_tree] at h
      simp only at h
      rw [hasL_types, fld_tree] at h
      obtain ⟨_, _, rfl, h1, _, _, rfl, h2, _, _, rfl, h3, rfl⟩ := h
      obtain ⟨k, hk, rfl⟩ := hasI h1
      obtain ⟨f, xs, w, rfl, e2, l2, r2⟩ := hasWs h2
      obtain ⟨f3, ys, l, rfl, e3, l3, r3⟩ := hasSl (m := 56) (e := 25) (g := tA) (R := wfT) (by kernel_rfl) (by kernel_rfl) h3 fun j b hj hb => by
        obtain ⟨t, ht, e⟩ := ih j (by omega) b hb
        exact ⟨t, ht, by rw [mk_tree]; simp only [A.soft, e]; rw [tA_eq]⟩
      refine ⟨.mk k w l, wfT_iff.2 ⟨hk, r2, l2, l3, r3⟩, ?_⟩
      simp only [List.cons_append, List.nil_append, List.append_nil, A.softL, A.soft, e2, e3]
      rfl
theorem hasTrees {n : Nat} {b : List A} (h : Has Tryz.prog n 23 b) : ∃ (f : Bool) (xs : List A) (l : List T), b = [.sl f xs] ∧ A.softL xs = l.map tA ∧ l.length * 56 ≤ 140737488355328 ∧ ∀ y, y ∈ l → wfT y :=
  hasSl (e := 25) (by kernel_rfl) (by kernel_rfl) h fun k b _ hb => by
    obtain ⟨t, h1, e⟩ := hasTree k b hb
    exact ⟨t, h1, by rw [mk_tree]; simp only [A.soft, e]; rw [tA_eq]⟩
end Go.Proofs.YthfiijdbnkaabaaGreat

/-
  What an argument holds: edits out of readings.
-/
namespace Go.Proofs.YthfiijdbnkaabaaGreat
set_option linter.unusedVariables false
set_option linter.unusedSimpArgs false
open Go Go.G Go.Proofs Go.PL Go.RowKit
theorem softL_app : ∀ (a b : List A), A.softL (a ++ b) = A.softL a ++ A.softL b
  | [], b => by simp [A.softL]
  | x :: a, b => by simp [A.softL, softL_app a b]
theorem und_we : Tryz.prog.underlying 63 = some (.struct (Tryz.prog.fieldsOf 63)) := by kernel_rfl
theorem fld_we : (Tryz.prog.fieldsOf 63).toList.map Field.type = [3, 5, 60, 60] := by kernel_rfl
theorem mk_we (b : List A) : mk Tryz.prog 63 b = .agg b := by unfold mk; rw [und_we]
theorem hasB8 {n : Nat} {b : List A} (h : Has Tryz.prog n 5 b) : ∃ m, (0 ≤ m ∧ m < 256) ∧ b = [u8 m] := by
  cases n with
  | zero => exact h.elim
  | succ n =>
    have u : Tryz.prog.underlying 5 = some (.int .u8) := by kernel_rfl
    unfold Has at h
    rw [u] at h
    obtain ⟨m, hm, rfl⟩ := h
    exact ⟨m, lit_u8 hm, rfl⟩
theorem hasWE {n : Nat} {b : List A} (h : Has Tryz.prog n 63 b) : ∃ w : WE, WE.wf w ∧ (mk Tryz.prog 63 b).soft = wA w := by
  cases n with
  | zero => exact h.elim
  | succ n =>
    unfold Has at h
    rw [und_we] at h
    simp only at h
    rw [hasL_types, fld_we] at h
    obtain ⟨_, _, rfl, h1, _, _, rfl, h2, _, _, rfl, h3, _, _, rfl, h4, rfl⟩ := h
    obtain ⟨a, ha, rfl⟩ := hasI h1
    obtain ⟨m, hm, rfl⟩ := hasB8 h2
    obtain ⟨o, ho, rfl⟩ := hasU h3
    obtain ⟨w, hw, rfl⟩ := hasU h4
    exact ⟨⟨a, m, o, w⟩, ⟨ha, hm, ho, hw⟩, by rw [mk_we]; rfl⟩
theorem und_e : Tryz.prog.underlying 30 = some (.struct (Tryz.prog.fieldsOf 30)) := by kernel_rfl
theorem fld_e : (Tryz.prog.fieldsOf 30).toList.map Field.type = [3, 25, 25, 26, 27, 3, 28] := by kernel_rfl
theorem mk_e (b : List A) : mk Tryz.prog 30 b = .agg b := by unfold mk; rw [und_e]
theorem und_ke : Tryz.prog.underlying 66 = some (.struct (Tryz.prog.fieldsOf 66)) := by kernel_rfl
theorem fld_ke : (Tryz.prog.fieldsOf 66).toList.map Field.type = [3, 30] := by kernel_rfl
theorem mk_ke (b : List A) : mk Tryz.prog 66 b = .agg b := by unfold mk; rw [und_ke]
theorem und_op : Tryz.prog.underlying 69 = some (.struct (Tryz.prog.fieldsOf 69)) := by kernel_rfl
theorem fld_op : (Tryz.prog.fieldsOf 69).toList.map Field.type = [3, 3, 23, 30] := by kernel_rfl
theorem mk_op (b : List A) : mk Tryz.prog 69 b = .agg b := by unfold mk; rw [und_op]
theorem hasEdit : ∀ (n : Nat) (b : List A), Has Tryz.prog n 30 b → ∃ e, wfE e ∧ A.softL b = eL e := by
  intro n
  induction n using Nat.strongRecOn with
  | ind n ih =>
    intro b h
    cases n with
    | zero => exact h.elim
    | succ n =>
      unfold Has at h
      rw [und_e] at h
      simp only at h
      rw [hasL_types, fld_e] at h
      obtain ⟨_, _, rfl, h1, _, _, rfl, h2, _, _, rfl, h3, _, _, rfl, h4, _, _, rfl, h5, _, _, rfl, h6, _, _, rfl, h7, rfl⟩ := h
      obtain ⟨k, hk, rfl⟩ := hasI h1
      obtain ⟨o, ho, e2⟩ := hasTree _ _ h2
      obtain ⟨nn, hn, e3⟩ := hasTree _ _ h3
      obtain ⟨f4, x4, ws, rfl, e4, l4, r4⟩ := hasSl (m := 32) (e := 63) (g := wA) (R := WE.wf) (by kernel_rfl) (by kernel_rfl) h4 fun j b hj hb => hasWE hb
      obtain ⟨f5, x5, ks, rfl, e5, l5, r5⟩ := hasSl (m := 208) (e := 66) (g := kA) (R := fun x => i64R x.at_ ∧ wfE x.e) (by kernel_rfl) (by kernel_rfl) h5 fun j b hj hb => by
        cases j with
        | zero => exact hb.elim
        | succ j =>
          unfold Has at hb
          rw [und_ke] at hb
          simp only at hb
          rw [hasL_types, fld_ke] at hb
          obtain ⟨_, _, rfl, g1, _, _, rfl, g2, rfl⟩ := hb
          obtain ⟨a, ha, rfl⟩ := hasI g1
          obtain ⟨e, he, ee⟩ := ih j (by omega) _ g2
          refine ⟨.mk a e, ⟨ha, he⟩, ?_⟩
          rw [mk_ke, kA_eq]
          simp only [A.soft, List.cons_append, List.nil_append, List.append_nil, A.softL, ee]
          rfl
      obtain ⟨l, hl, rfl⟩ := hasI h6
      obtain ⟨f7, x7, os, rfl, e7, l7, r7⟩ := hasSl (m := 240) (e := 69) (g := oA) (R := WfO) (by kernel_rfl) (by kernel_rfl) h7 fun j b hj hb => by
        cases j with
        | zero => exact hb.elim
        | succ j =>
          unfold Has at hb
          rw [und_op] at hb
          simp only at hb
          rw [hasL_types, fld_op] at hb
          obtain ⟨_, _, rfl, g1, _, _, rfl, g2, _, _, rfl, g3, _, _, rfl, g4, rfl⟩ := hb
          obtain ⟨k, hk, rfl⟩ := hasI g1
          obtain ⟨m, hm, rfl⟩ := hasI g2
          obtain ⟨f, xs, tl, rfl, et, lt, rt⟩ := hasTrees g3
          obtain ⟨e, he, ee⟩ := ih j (by omega) _ g4
          refine ⟨.mk k m tl e, ⟨hk, hm, rt, lt, he⟩, ?_⟩
          rw [mk_op, oA_eq]
          simp only [A.soft, List.cons_append, List.nil_append, List.append_nil, A.softL, ee, et]
          rfl
      refine ⟨.mk k o nn ws ks l os, wfE_iff.2 ⟨hk, hl, ho, hn, r4, l4, l5, l7, r5, r7⟩, ?_⟩
      simp only [List.cons_append, List.nil_append, List.append_nil, A.softL, A.soft, softL_app, e2, e3, e4, e5, e7]
      rfl
end Go.Proofs.YthfiijdbnkaabaaGreat

/-
  Chapters 27 and 39: each law, whatever its arguments hold.
-/
namespace Go.Proofs.YthfiijdbnkaabaaGreat
set_option linter.unusedVariables false
set_option linter.unusedSimpArgs false
open Go Go.G Go.Proofs Go.PL Go.RowKit
set_option maxRecDepth 100000 in
theorem said_costPatch (xs : List A) (h : ArgsHas Tryz.prog Tryz.f3.params.toList xs) : G.Spec Tryz.prog 3 xs (.v (.bool true)) := by
  have h : ArgsHas Tryz.prog [30] xs := h
  match xs, h with
  | [a], ⟨⟨n, b, h1, h2⟩, _⟩ =>
    obtain ⟨e, he, ee⟩ := hasEdit _ _ h1
    rw [h2, mk_e]
    exact (CostPatch_spec he).soft (by simp only [A.softL, A.soft, ee])
end Go.Proofs.YthfiijdbnkaabaaGreat
