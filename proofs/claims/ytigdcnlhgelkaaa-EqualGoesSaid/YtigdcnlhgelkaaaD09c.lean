/-
  Chapters 9, 14, 15: kids; what counts of values; whether they mean the same.
-/
import Derived.Test.YtigdcnlhgelkaaaD09b
namespace Go.Proofs.Ytigdcnlhgelkaaa
set_option linter.unusedVariables false
set_option linter.unusedSimpArgs false
open Go Go.G Go.Proofs Go.PL

theorem word_drop {l : List (List Int)} {s a : Int} (ha : 0 ≤ a) (k : Nat) : ((((seg l s).getD []).drop a.toNat)[k]?).getD 0 = (word l s (a + k)).getD 0 := by
  unfold word
  rw [if_pos (by omega)]
  cases seg l s with
  | none => simp
  | some g =>
    simp only [Option.getD_some, Option.bind_some, List.getElem?_drop]
    have : a.toNat + k = (a + k).toNat := by omega
    rw [this]
theorem atom_spec {l : List (List Int)} (hs : Sg l) {c s a n : Int} (c0 : 0 ≤ c) (c6 : c < 6) (n0 : 0 ≤ n) (n1 : n < 536870912) (h : hasW l s a ((n * bitsOf c + 63) / 64) = true) {i : Int} (i0 : 0 ≤ i) (i1 : i < n) :
    G.Spec Try.prog 77 [paX l ⟨2 + c, s, a, 0, 0, n, 0⟩, iv i] (uv (atomZ l ⟨2 + c, s, a, 0, 0, n, 0⟩ i)) := by
  have hb := hasW_bound hs h
  have e2 : IntKind.i64.wrap c = c := i64_same (by omega) (by omega)
  have nz : ¬ (2 + c = 0) := by omega
  have key : ∀ w per : Int, widthZ c = w → w * per = 64 → (w = 1 ∨ w = 8 ∨ w = 16 ∨ w = 32 ∨ w = 64) → getZ [(word l s (a + i / per)).getD 0] c (i % per) = atomZ l ⟨2 + c, s, a, 0, 0, n, 0⟩ i := fun w per hw hp hw' => by
    unfold atomZ getZ
    simp only [show 2 + c - 2 = c by omega, hw]
    have hk : (i % per * w / 64).toNat = 0 ∧ i % per * w % 64 = i * w % 64 ∧ i * w / 64 = i / per ∧ ¬ (i % per < 0) ∧ ¬ 1099511627776 < i % per := by
      rcases hw' with rfl | rfl | rfl | rfl | rfl
      · have : per = 64 := by omega
        subst this; omega
      · have : per = 8 := by omega
        subst this; omega
      · have : per = 4 := by omega
        subst this; omega
      · have : per = 2 := by omega
        subst this; omega
      · have : per = 1 := by omega
        subst this; omega
    obtain ⟨k1, k2, k3, k4, k5⟩ := hk
    rw [if_neg (by omega), if_neg (by omega), k1, k2, k3]
    have hd0 : 0 ≤ i / per := by rw [← k3]; rcases hw' with rfl | rfl | rfl | rfl | rfl <;> omega
    have := word_drop (l := l) (s := s) (a := a) hb.1 (i / per).toNat
    rw [show ((i / per).toNat : Int) = i / per by omega] at this
    rw [this]
    simp
  have e2' : IntKind.i64.wrap (2 + c - 2) = c := by rw [i64_same (by omega) (by omega)]; omega
  have hw64 : ∀ x : Int, 0 ≤ (word l s x).getD 0 ∧ (word l s x).getD 0 < 18446744073709551616 := fun x => by
    cases e : word l s x with
    | none => simp
    | some y => exact word_in hs.w e
  refine spec_of t_reader_Ref_atom (by simp) fun w0 I0 => ?_
  unfold c_reader_Ref_atom
  simp [e2']
  refine sc_call (wWidth_spec c) rfl ?_
  by_cases hc0 : c = 0
  · subst hc0
    simp [widthZ]
    exact frz_is rfl (by simp [atomZ, getZ, widthZ])
  have hx : ∃ w per : Int, widthZ c = w ∧ w * per = 64 ∧ (w = 1 ∨ w = 8 ∨ w = 16 ∨ w = 32 ∨ w = 64) ∧ (per = 64 ∨ per = 8 ∨ per = 4 ∨ per = 2 ∨ per = 1) ∧ IntKind.i64.wrap ((64 : Int).tdiv w) = per := by
    have hc : c = 1 ∨ c = 2 ∨ c = 3 ∨ c = 4 ∨ c = 5 := by omega
    rcases hc with rfl | rfl | rfl | rfl | rfl
    · exact ⟨1, 64, rfl, rfl, by omega, by omega, by decide⟩
    · exact ⟨8, 8, rfl, rfl, by omega, by omega, by decide⟩
    · exact ⟨16, 4, rfl, rfl, by omega, by omega, by decide⟩
    · exact ⟨32, 2, rfl, rfl, by omega, by omega, by decide⟩
    · exact ⟨64, 1, rfl, rfl, by omega, by omega, by decide⟩
  obtain ⟨w, per, hw, hp, hw', hper, ep⟩ := hx
  have hk := key w per hw hp hw'
  have wn : ¬ w < 0 := by omega
  have wz : ¬ w = 0 := by omega
  have pz : ¬ per = 0 := by omega
  have hq : 0 ≤ i / per ∧ i / per ≤ i := by rcases hper with rfl | rfl | rfl | rfl | rfl <;> omega
  have hm : 0 ≤ i % per := Int.emod_nonneg _ pz
  have e3 : IntKind.i64.wrap (i.tdiv per) = i / per := by rw [Int.tdiv_eq_ediv_of_nonneg i0, i64_same (by omega) (by omega)]
  have e4 : IntKind.i64.wrap (a + i / per) = a + i / per := i64_same (by omega) (by omega)
  have e5 : i.tmod per = i % per := Int.tmod_eq_emod_of_nonneg i0
  simp [hw, wn, wz, ep, pz, e3, e4, arO, nz]
  refine sc_call (get_spec l hs.b s (a + i / per)) rfl ?_
  simp [pz, e5]
  have hx := hw64 (a + i / per)
  refine sc_call ((wGet_spec (g := [(word l s (a + i / per)).getD 0]) (fun x hx' => by simp at hx'; rw [hx']; exact hx) (by simp) c (i % per)).soft (by simp [A.softL, A.soft])) rfl ?_
  simp
  rw [hk]
  exact frz_bare rfl
theorem kid_spec {l : List (List Int)} (hs : Sg l) {r : Rf} (hr : RfOk l r) (i : Int) : G.Spec Try.prog 43 [paX l r, iv i] (.tup [paX l (kidP l r i).1, iv (kidP l r i).2]) := by
  refine spec_of t_reader_Ref_Kid (by simp) fun w0 I0 => ?_
  unfold c_reader_Ref_Kid
  simp
  refine sc_call_gf rfl (fun _ => refKids_spec' l r) (fun e => by simp [e]) (by simp) ?_
  by_cases hi : i < 0 ∨ nk r ≤ i
  · have hd : (decide (i < 0) || decide (nk r ≤ i)) = true := by simpa using hi
    simp [hd]
    exact frz_is (tup_bare (by simp)) (by simp [kidP, hi, Rf.zero, arO])
  · have hd : (decide (i < 0) || decide (nk r ≤ i)) = false := by simpa using hi
    have hi0 : 0 ≤ i := by omega
    have hi1 : i < nk r := by omega
    have hk := nk_nonneg hr
    rw [kidP, if_neg hi]
    cases hr with
    | zero => simp [nk, Rf.zero] at hi1; omega
    | str s a d k a1 a2 a3 a4 h =>
      have hb := hasW_bound hs h
      have e1 : IntKind.i64.wrap (IntKind.i64.wrap (a + d) + i) = a + d + i := by
        rw [i64_same (n := a + d) (by omega) (by omega), i64_same (by omega) (by omega)]
      simp [hd, arO, e1]
      refine sc_call (at_spec hs s (a + d + i)) rfl ?_
      simp
      exact frz_bare (tup_bare (by simp))
    | dat c s a n a1 a2 a3 a4 h =>
      have n0 : ¬ (2 + c = 0) := by omega
      have n1 : ¬ (2 + c = 1) := by omega
      have n8 : ¬ (2 + c = 8) := by omega
      have n9 : ¬ (2 + c = 9) := by omega
      have hn : i < n := by simpa [nk, n1] using hi1
      have := atom_spec hs a1 a2 a3 a4 h hi0 hn
      simp [hd, n1, n8, n9]
      refine sc_call this (by simp) ?_
      simp
      exact frz_is (tup_bare (by simp)) (by simp [arO, n0])
    | ptrs s a n a1 a2 h =>
      have hb := hasW_bound hs h
      have e1 : IntKind.i64.wrap (a + i) = a + i := i64_same (by omega) (by omega)
      simp [hd, arO, e1]
      refine sc_call (at_spec hs s (a + i)) rfl ?_
      simp
      exact frz_bare (tup_bare (by simp))
    | comp s a d k n a1 a2 a3 a4 a5 a6 h =>
      have hb := hasW_bound hs h
      have hn : i < n := by simpa [nk] using hi1
      have m1 : 0 ≤ i * (d + k) := Int.mul_nonneg hi0 (by omega)
      have m2 : i * (d + k) ≤ n * (d + k) := mul_le_of (by omega) (by omega)
      have e1 : IntKind.i64.wrap (d + k) = d + k := i64_same (by omega) (by omega)
      have e2 : IntKind.i64.wrap (i * (d + k)) = i * (d + k) := i64_same (by omega) (by omega)
      have e3 : IntKind.i64.wrap (a + i * (d + k)) = a + i * (d + k) := i64_same (by omega) (by omega)
      simp [hd, arO, e1, e2, e3]
      exact frz_is (tup_bare (by simp)) (by simp [arO])
    | atom n a1 a2 => simp [nk] at hi1; omega

/-! ### what counts -/
theorem means_word {l : List (List Int)} {r : Rf} {t : T} (h : Means l r t) : nwR r = t.words.length ∧ ∀ (i : Nat) (hi : i < t.words.length), wordAt l r i = t.words[i] := by
  cases h with
  | mk _ _ hr hk hw hn he hm =>
    have hl : nwR r = (wordsR l r).length := by
      cases hr with
      | str s a d k a1 a2 a3 a4 h =>
        obtain ⟨h1, h2, h3, h4, h5, e, h6⟩ := hasW_in h
        simp [nwR, wordsR, part, e]
        omega
      | dat c s a n a1 a2 a3 a4 h =>
        have : ¬ (2 + c = 10) := by omega
        have h1 : ¬ (2 + c = 1) := by omega
        simp [nwR, wordsR, this, h1]
      | _ => simp [nwR, wordsR, Rf.zero]
    rw [← hw]
    refine ⟨hl, fun i hi => ?_⟩
    have hi' : (i : Int) < nwR r := by rw [hl]; omega
    rw [wordAt, if_neg (by omega)]
    cases hr with
    | str s a d k a1 a2 a3 a4 h =>
      obtain ⟨h1, h2, h3, h4, h5, e, h6⟩ := hasW_in h
      simp [wordsR, part, e]
      have := word_drop (l := l) (s := s) (a := a) h3 i
      rw [e] at this
      simp at this
      rw [← this, List.getElem?_eq_getElem (by simp [nwR] at hi'; omega)]
      simp
    | atom n a1 a2 =>
      simp [wordsR] at hi ⊢
    | dat c s a n a1 a2 a3 a4 h =>
      have : ¬ (2 + c = 10) := by omega
      have h1 : ¬ (2 + c = 1) := by omega
      simp [nwR, this, h1] at hi'
      omega
    | _ => simp [nwR, Rf.zero] at hi' <;> omega
theorem means_ok {l : List (List Int)} {r : Rf} {t : T} (h : Means l r t) : RfOk l r := by cases h; assumption
theorem means_kind {l : List (List Int)} {r : Rf} {t : T} (h : Means l r t) : r.kind = t.kind := by cases h; assumption
theorem means_nk {l : List (List Int)} {r : Rf} {t : T} (h : Means l r t) : nk r = t.kids.length := by cases h; assumption
theorem means_kid {l : List (List Int)} {r : Rf} {t : T} (h : Means l r t) {i : Nat} (hi : i < t.kids.length) : (kidP l r i).2 = 0 ∧ Means l (kidP l r i).1 t.kids[i] := by
  cases h with
  | mk _ _ hr hk hw hn he hm => exact ⟨he i hi, hm i hi⟩
end Go.Proofs.Ytigdcnlhgelkaaa
