/-
  Chapter 6: far pointers are followed, by the program and by the document.
-/
import Derived.Test.YtigdcnlhgelkaaaD06a
namespace Go.Proofs.Ytigdcnlhgelkaaa
set_option linter.unusedVariables false
set_option linter.unusedSimpArgs false
open Go Go.G Go.Proofs

/-- How many bits each kid has. -/
def bitsOf (c : Int) : Int := if c = 0 then 0 else if c = 1 then 1 else if c = 2 then 8 else if c = 3 then 16 else if c = 4 then 32 else 64
/-- How many words what is pointed to takes. -/
def wordsP (p : Pt) : Option Int :=
  if p.kind = 1 then some (p.data + p.ptrs)
  else if p.kind = 2 ∧ p.code = 7 then some (p.count + 1)
  else if p.kind = 2 ∧ 0 ≤ p.code ∧ p.code ≤ 6 ∧ 0 ≤ p.count ∧ p.count ≤ 536870911 then some ((p.count * bitsOf p.code + 63) / 64)
  else none
/-- Its sums do not turn round. -/
def Sums (p : Pt) : Prop := -9223372036854775808 ≤ p.data + p.ptrs ∧ p.data + p.ptrs < 9223372036854775808 ∧ -9223372036854775808 ≤ p.count + 1 ∧ p.count + 1 < 9223372036854775808

set_option maxRecDepth 8000 in
theorem words_spec (p : Pt) (hs : Sums p) : G.Spec Try.prog 153 [p.a] (.tup [iv ((wordsP p).getD 0), bv (wordsP p).isSome]) := by
  obtain ⟨s1, s2, s3, s4⟩ := hs
  refine spec_of t_ptr_Ptr_Words (by simp) fun w0 I0 => ?_
  unfold c_ptr_Ptr_Words
  simp
  refine ⟨fun h => ?_, fun h => ⟨fun h2 h3 => ?_, fun h2 => ?_⟩⟩
  · rw [i64_same s1 s2]
    refine frz_is rfl ?_
    simp [wordsP, h]
  · rw [i64_same s3 s4]
    refine frz_is rfl ?_
    simp [wordsP, h, h2, h3]
  · refine sc_call_gt rfl (fun _ => within_spec p.code 6) (fun e => by simp [e]) rfl ?_
    simp
    refine sc_call_gt rfl (fun _ => within_spec p.count 536870911) (fun e => by simp [e]) rfl ?_
    simp
    refine ⟨fun a1 a2 a3 a4 a5 => ?_, fun hn => ?_⟩
    · obtain ⟨k, o, d, q, co, n, sg, b⟩ := p
      simp only at *
      have hc : co = 0 ∨ co = 1 ∨ co = 2 ∨ co = 3 ∨ co = 4 ∨ co = 5 ∨ co = 6 := by omega
      rcases hc with rfl | rfl | rfl | rfl | rfl | rfl | rfl
      all_goals
        simp
        simp (disch := omega) only [i64_same, Int.tdiv_eq_ediv_of_nonneg]
        refine frz_is rfl ?_
        simp [wordsP, a1, a4, a5, bitsOf]
    · refine frz_is rfl ?_
      have e : wordsP p = none := by
        rw [wordsP, if_neg h, if_neg (fun ⟨h3, h4⟩ => h2 h3 h4), if_neg (fun ⟨b1, b2, b3, b4, b5⟩ => by have := hn b1 b2 b3 b4; omega)]
      simp [e]

/-- What a pointer points to. -/
structure Lc where
  p : Pt
  s : Int
  at_ : Int
deriving DecidableEq
def Pt.l (p : Pt) : List A := [iv p.kind, iv p.off, iv p.data, iv p.ptrs, iv p.code, iv p.count, iv p.seg, bv p.dbl]
@[simp] theorem Pt.l_eq (p : Pt) : p.l = [iv p.kind, iv p.off, iv p.data, iv p.ptrs, iv p.code, iv p.count, iv p.seg, bv p.dbl] := rfl
def Pt.zero : Pt := ⟨0, 0, 0, 0, 0, 0, 0, false⟩
def Lc.zero : Lc := ⟨Pt.zero, 0, 0⟩
abbrev Lc.a (x : Lc) : A := .agg [iv x.p.kind, iv x.p.off, iv x.p.data, iv x.p.ptrs, iv x.p.code, iv x.p.count, iv x.p.seg, bv x.p.dbl, iv x.s, iv x.at_]

/-- All of it in its segment? -/
def insideP (l : List (List Int)) (x : Lc) : Lc × Int := if hasW l x.s x.at_ ((wordsP x.p).getD 0) = true then (⟨{ x.p with off := 0 }, x.s, x.at_⟩, 0) else (Lc.zero, 7)

theorem inside_spec (l : List (List Int)) (hb : ∀ x, x ∈ l → x.length * 8 ≤ 140737488355328) (x : Lc) (hs : Sums x.p) : G.Spec Try.prog 146 [arn l, x.a] (.tup [(insideP l x).1.a, iv (insideP l x).2]) := by
  refine spec_of t_far_inside (by simp) fun w0 I0 => ?_
  unfold c_far_inside
  simp
  refine sc_call (words_spec x.p hs) rfl ?_
  simp
  refine sc_call (has_spec l hb _ _ _) rfl ?_
  simp
  refine ⟨fun h => ?_, fun h => ?_⟩
  · refine frz_is rfl ?_
    simp [insideP, h]
  · refine frz_is rfl ?_
    simp [insideP, h, Lc.zero, Pt.zero]

def nearP (l : List (List Int)) (p : Pt) (s a : Int) : Lc × Int :=
  if p.kind = 1 ∨ p.kind = 2 then insideP l ⟨p, s, a + 1 + p.off⟩ else if p.kind = 4 then (Lc.zero, 9) else (Lc.zero, 8)

theorem far_near_spec (l : List (List Int)) (hb : ∀ x, x ∈ l → x.length * 8 ≤ 140737488355328) (p : Pt) (s a : Int) (hs : Sums p) (h1 : -1000000000000000000 ≤ a) (h2 : a ≤ 1000000000000000000) (h3 : -1000000000000000000 ≤ p.off) (h4 : p.off ≤ 1000000000000000000) :
    G.Spec Try.prog 130 [arn l, p.a, iv s, iv a] (.tup [(nearP l p s a).1.a, iv (nearP l p s a).2]) := by
  refine spec_of t_far_near (by simp) fun w0 I0 => ?_
  unfold c_far_near
  simp
  have go : p.kind = 1 ∨ p.kind = 2 → nearP l p s a = insideP l ⟨p, s, a + 1 + p.off⟩ := fun h => by rw [nearP, if_pos h]
  refine ⟨fun h => ?_, fun h => ?_⟩
  · have hd : decide (p.kind = 1) = true := by simp [h]
    rw [k1_far_near.eq_1]
    simp [hd]
    simp (disch := omega) only [i64_same]
    refine sc_call (inside_spec l hb ⟨p, s, a + 1 + p.off⟩ hs) rfl ?_
    simp
    rw [go (.inl h)]
    exact frz_bare rfl
  · rw [k1_far_near.eq_1]
    simp
    refine ⟨fun h2 => ?_, fun h2 => ⟨fun h4 => ?_, fun h4 => ?_⟩⟩
    · simp (disch := omega) only [i64_same]
      refine sc_call (inside_spec l hb ⟨p, s, a + 1 + p.off⟩ hs) rfl ?_
      simp
      rw [go (.inr h2)]
      exact frz_bare rfl
    · refine frz_is rfl ?_
      simp [nearP, h4, Lc.zero, Pt.zero]
    · refine frz_is rfl ?_
      simp [nearP, h, h2, h4, Lc.zero, Pt.zero]

/-- All of it are words. -/
def Wds (l : List (List Int)) : Prop := ∀ x, x ∈ l → ∀ y, y ∈ x → 0 ≤ y ∧ y < 18446744073709551616
theorem dec_sums {w : Int} (h0 : 0 ≤ w) (h1 : w < 18446744073709551616) : Sums (dec w) := by
  unfold Sums dec
  repeat' split
  all_goals simp only
  all_goals omega
theorem dec_off {w : Int} (h0 : 0 ≤ w) (h1 : w < 18446744073709551616) : -536870912 ≤ (dec w).off ∧ (dec w).off ≤ 536870912 ∧ 0 ≤ (dec w).seg ∧ (dec w).seg < 4294967296 := by
  obtain ⟨o1, o2, _⟩ := offs_in w
  unfold dec
  repeat' split
  all_goals simp only
  all_goals omega
theorem word_in {l : List (List Int)} (hw : Wds l) {s a x : Int} (h : word l s a = some x) : 0 ≤ x ∧ x < 18446744073709551616 := by
  obtain ⟨_, _, _, h1, h2, rfl⟩ := word_some h
  exact hw _ (List.getElem_mem h1) _ (List.getElem_mem h2)

/-- Two words: a far pointer to what is meant, and its shape. -/
def doubleP (l : List (List Int)) (s a : Int) : Lc × Int :=
  match word l s a, word l s (a + 1) with
  | some v, some w =>
    if (dec v).kind ≠ 3 ∨ (dec v).dbl = true then (Lc.zero, 8)
    else if (dec w).kind = 4 then (Lc.zero, 9)
    else if ((dec w).kind ≠ 1 ∧ (dec w).kind ≠ 2) ∨ (dec w).off ≠ 0 then (Lc.zero, 8)
    else insideP l ⟨dec w, (dec v).seg, (dec v).off⟩
  | _, _ => (Lc.zero, 7)

theorem hasW_two {l : List (List Int)} {s a : Int} : hasW l s a 2 = ((word l s a).isSome && (word l s (a + 1)).isSome) := by
  rw [← hasW_one, ← hasW_one, Bool.eq_iff_iff]
  simp only [hasW, Bool.and_eq_true, decide_eq_true_eq]
  omega
theorem part_two {l : List (List Int)} {s a v w : Int} (h1 : word l s a = some v) (h2 : word l s (a + 1) = some w) : part l s a 2 = [v, w] := by
  obtain ⟨k1, k2, k3, k4, k5, rfl⟩ := word_some h1
  obtain ⟨_, _, k6, _, k7, rfl⟩ := word_some h2
  obtain ⟨_, e⟩ := seg_in k1 k2
  have e1 : (a + 1).toNat = a.toNat + 1 := by omega
  simp only [e1] at k7
  rw [part, e]
  simp only [Option.getD_some, e1]
  rw [List.drop_eq_getElem_cons k5, List.drop_eq_getElem_cons k7]
  rfl

theorem double_spec (l : List (List Int)) (hb : ∀ x, x ∈ l → x.length * 8 ≤ 140737488355328) (hw : Wds l) (s a : Int) :
    G.Spec Try.prog 131 [arn l, iv s, iv a] (.tup [(doubleP l s a).1.a, iv (doubleP l s a).2]) := by
  refine spec_of t_far_double (by simp) fun w0 I0 => ?_
  unfold c_far_double
  simp
  refine sc_call (part_spec l hb s a 2) rfl ?_
  rw [hasW_two]
  cases h1 : word l s a with
  | none =>
    simp
    refine frz_is rfl ?_
    simp [doubleP, h1, Lc.zero, Pt.zero]
  | some v =>
    cases h2 : word l s (a + 1) with
    | none =>
      simp
      refine frz_is rfl ?_
      simp [doubleP, h1, h2, Lc.zero, Pt.zero]
    | some w =>
      obtain ⟨v0, v1⟩ := word_in hw h1
      obtain ⟨w0', w1⟩ := word_in hw h2
      rw [part_two h1 h2]
      simp
      refine sc_call (Decode_spec v0 v1) rfl ?_
      simp
      refine sc_call (Decode_spec w0' w1) rfl ?_
      simp
      have hs := dec_sums w0' w1
      generalize hv : dec v = p
      generalize hq : dec w = q at hs
      have e : doubleP l s a = if p.kind ≠ 3 ∨ p.dbl = true then (Lc.zero, 8) else if q.kind = 4 then (Lc.zero, 9) else if (q.kind ≠ 1 ∧ q.kind ≠ 2) ∨ q.off ≠ 0 then (Lc.zero, 8) else insideP l ⟨q, p.seg, p.off⟩ := by
        simp only [doubleP, h1, h2, hv, hq]
      refine ⟨fun h => ?_, fun a1 a2 => ⟨fun h3 => ?_, fun h3 => ⟨fun h4 => ?_, fun h4 h5 => ?_⟩⟩⟩
      · rw [e, if_pos h]
        exact frz_bare rfl
      · rw [e, if_neg (by simp [a1, a2]), if_pos h3]
        exact frz_bare rfl
      · rw [e, if_neg (by simp [a1, a2]), if_neg h3, if_pos (by simpa using h4)]
        exact frz_bare rfl
      · refine sc_call (inside_spec l hb ⟨q, p.seg, p.off⟩ hs) rfl ?_
        simp
        rw [e, if_neg (by simp [a1, a2]), if_neg h3, if_neg (by simp [h5]; omega)]
        exact frz_bare rfl

/-- What the pointer points to that stands in a word. -/
def followP (l : List (List Int)) (s a : Int) : Lc × Int :=
  match word l s a with
  | none => (Lc.zero, 7)
  | some w =>
    if (dec w).kind = 0 then (Lc.zero, 0)
    else if (dec w).kind ≠ 3 then nearP l (dec w) s a
    else if (dec w).dbl = true then doubleP l (dec w).seg (dec w).off
    else match word l (dec w).seg (dec w).off with
      | none => (Lc.zero, 7)
      | some v => nearP l (dec v) (dec w).seg (dec w).off

theorem follow_spec (l : List (List Int)) (hb : ∀ x, x ∈ l → x.length * 8 ≤ 140737488355328) (hw : Wds l) (s a : Int) :
    G.Spec Try.prog 103 [arn l, iv s, iv a] (.tup [(followP l s a).1.a, iv (followP l s a).2]) := by
  refine spec_of t_far_Follow (by simp) fun w0 I0 => ?_
  unfold c_far_Follow
  simp
  refine sc_call (get_spec l hb s a) rfl ?_
  simp
  cases h1 : word l s a with
  | none =>
    simp
    refine frz_is rfl ?_
    simp [followP, h1, Lc.zero, Pt.zero]
  | some w =>
    obtain ⟨k1, k2, k3, k4, k5, _⟩ := word_some h1
    have hla := hb _ (List.getElem_mem k4)
    obtain ⟨v0, v1⟩ := word_in hw h1
    simp
    refine sc_call (Decode_spec v0 v1) rfl ?_
    simp
    have hs := dec_sums v0 v1
    obtain ⟨o1, o2, o3, o4⟩ := dec_off v0 v1
    generalize hv : dec w = p at *
    have e : followP l s a = if p.kind = 0 then (Lc.zero, 0) else if p.kind ≠ 3 then nearP l p s a else if p.dbl = true then doubleP l p.seg p.off else match word l p.seg p.off with | none => (Lc.zero, 7) | some v => nearP l (dec v) p.seg p.off := by
      simp only [followP, h1, hv]
    refine ⟨fun h0 => ?_, fun h0 => ⟨fun h3 => ⟨fun hd => ?_, fun hd => ?_⟩, fun h3 => ?_⟩⟩
    · rw [e, if_pos h0]
      exact frz_bare rfl
    · refine sc_call (double_spec l hb hw p.seg p.off) rfl ?_
      simp
      rw [e, if_neg h0, if_neg (by simp [h3]), if_pos hd]
      exact frz_bare rfl
    · rw [if_neg h0, if_neg (by simp [h3]), if_neg (by simp [hd])] at e
      refine sc_call (get_spec l hb p.seg p.off) rfl ?_
      simp
      cases h2 : word l p.seg p.off with
      | none =>
        simp [h2] at e
        simp
        rw [e]
        exact frz_bare rfl
      | some v =>
        simp [h2] at e
        simp
        obtain ⟨j0, j1⟩ := word_in hw h2
        obtain ⟨q1, q2, q3, q4⟩ := dec_off j0 j1
        refine sc_call (Decode_spec j0 j1) rfl ?_
        simp
        refine sc_call (far_near_spec l hb (dec v) p.seg p.off (dec_sums j0 j1) (by omega) (by omega) (by omega) (by omega)) rfl ?_
        simp
        rw [e]
        exact frz_bare rfl
    · refine sc_call (far_near_spec l hb p s a hs (by omega) (by omega) (by omega) (by omega)) rfl ?_
      simp
      rw [e, if_neg h0, if_pos (by simpa using h3)]
      exact frz_bare rfl
end Go.Proofs.Ytigdcnlhgelkaaa
