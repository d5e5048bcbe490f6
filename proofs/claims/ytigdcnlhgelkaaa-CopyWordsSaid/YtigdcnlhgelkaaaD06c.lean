/-
  Chapter 6: the document's answer.
-/
import Derived.Test.YtigdcnlhgelkaaaD06b
namespace Go.Proofs.Ytigdcnlhgelkaaa
set_option linter.unusedVariables false
set_option linter.unusedSimpArgs false
open Go Go.G Go.Proofs

theorem refWords_k1 {n : Nat} {w0 : World} {I0 : Nat → Prop} {p : Pt} {m r : Int} (m0 : 0 < m) (m1 : m ≤ 64) (n0 : 0 ≤ p.count) (n1 : p.count < 536870912) (hr : r = if 0 < p.count % m then p.count / m + 1 else p.count / m) :
    WPC (cx Try.prog w0 I0 n) k1_centoref04_Words (RetC Try.prog [.tmp 2] (iv r)) ⟨lk [(1, .pob [0] 1 0), (3, iv m)], lkH [([0], ⟨1, .cells [iv p.kind, iv p.off, iv p.data, iv p.ptrs, iv p.code, iv p.count, iv p.seg, bv p.dbl]⟩)]⟩ := by
  have hm : ¬ m = 0 := by omega
  have d1 : 0 ≤ p.count / m := Int.ediv_nonneg n0 (by omega)
  have d2 : p.count / m ≤ p.count := Int.ediv_le_self _ n0
  unfold k1_centoref04_Words
  simp [hm, Int.tmod_eq_emod_of_nonneg n0, Int.tdiv_eq_ediv_of_nonneg n0]
  simp (disch := omega) only [i64_same]
  refine ⟨fun h => ?_, fun h => ?_⟩
  · rw [hr, if_pos h]
    exact frz_bare rfl
  · rw [hr, if_neg (by omega)]
    exact frz_bare rfl

theorem refWords_spec (p : Pt) (hs : Sums p) : G.Spec Try.prog 142 [p.a] (iv ((wordsP p).getD (-1))) := by
  obtain ⟨s1, s2, s3, s4⟩ := hs
  refine spec_of t_centoref04_Words (by simp) fun w0 I0 => ?_
  unfold c_centoref04_Words
  simp
  have go : p.kind = 2 → 0 ≤ p.code → p.code ≤ 6 → 0 ≤ p.count → p.count < 536870912 → (wordsP p).getD (-1) = (p.count * bitsOf p.code + 63) / 64 := fun h2 b1 b2 b3 b4 => by
    rw [wordsP, if_neg (by omega), if_neg (by omega), if_pos ⟨h2, b1, b2, b3, by omega⟩]
    rfl
  refine ⟨fun h => ?_, fun h => ⟨fun h2 => ⟨fun h7 => ?_, fun h7 => ⟨fun hx => ?_, fun b1 b2 b3 b4 => ⟨fun c0 => ?_, fun c0 => ⟨fun c1 => ?_, fun c1 => ⟨fun c2 => ?_, fun c2 => ⟨fun c3 => ?_, fun c3 => ⟨fun c4 => ?_, fun c4 => ?_⟩⟩⟩⟩⟩⟩⟩, fun h2 => ?_⟩⟩
  · rw [i64_same s1 s2]
    exact frz_int (by simp [wordsP, h])
  · rw [i64_same s3 s4]
    exact frz_int (by simp [wordsP, h2, h7])
  · refine frz_int ?_
    rw [wordsP, if_neg h, if_neg (by omega), if_neg (by omega)]
    rfl
  · refine frz_int ?_
    rw [go h2 b1 b2 b3 b4, c0]
    simp [bitsOf]
  · refine refWords_k1 (m := 64) (by omega) (by omega) b3 b4 ?_
    rw [go h2 b1 b2 b3 b4, c1, show bitsOf 1 = 1 from rfl]
    split <;> omega
  · refine refWords_k1 (m := 8) (by omega) (by omega) b3 b4 ?_
    rw [go h2 b1 b2 b3 b4, c2, show bitsOf 2 = 8 from rfl]
    split <;> omega
  · refine refWords_k1 (m := 4) (by omega) (by omega) b3 b4 ?_
    rw [go h2 b1 b2 b3 b4, c3, show bitsOf 3 = 16 from rfl]
    split <;> omega
  · refine refWords_k1 (m := 2) (by omega) (by omega) b3 b4 ?_
    rw [go h2 b1 b2 b3 b4, c4, show bitsOf 4 = 32 from rfl]
    split <;> omega
  · refine refWords_k1 (m := 1) (by omega) (by omega) b3 b4 ?_
    have h56 : p.code = 5 ∨ p.code = 6 := by omega
    rw [go h2 b1 b2 b3 b4]
    have hb : bitsOf p.code = 64 := by rcases h56 with h | h <;> rw [h] <;> rfl
    rw [hb]; split <;> omega
  · refine frz_int ?_
    rw [wordsP, if_neg h, if_neg (by omega), if_neg (by omega)]
    rfl

theorem refHas_spec (l : List (List Int)) (s a : Int) : G.Spec Try.prog 119 [sgs l, iv s, iv a] (bv (word l s a).isSome) := by
  refine spec_of t_centoref06_has (by simp) fun w0 I0 => ?_
  unfold c_centoref06_has
  simp
  by_cases h : 0 ≤ s ∧ s < l.length ∧ 0 ≤ a
  · obtain ⟨h0, h1, h2⟩ := h
    obtain ⟨h3, e1⟩ := seg_in h0 h1
    simp [h0, h1, h2, h3]
    refine frz_bool ?_
    rw [Bool.eq_iff_iff]
    simp [word, h2, e1]
  · have hd : (decide (0 ≤ s) && decide (s < l.length) && decide (0 ≤ a)) = false := by
      rw [Bool.eq_false_iff]
      intro h'
      simp at h'
      exact h ⟨h'.1.1, h'.1.2, h'.2⟩
    simp [hd]
    refine ⟨fun h0 h1 h2 => absurd ⟨h0, h1, h2⟩ h, ?_⟩
    refine frz_bool ?_
    cases e : word l s a with
    | none => rfl
    | some x =>
      obtain ⟨k1, k2, k3, _⟩ := word_some e
      exact absurd ⟨k1, k2, k3⟩ h

set_option maxRecDepth 8000 in
theorem whole_spec (l : List (List Int)) (hb : ∀ x, x ∈ l → x.length * 8 ≤ 140737488355328) (x : Lc) (hs : Sums x.p) (h0 : ∀ n, wordsP x.p = some n → 0 ≤ n) : G.Spec Try.prog 121 [sgs l, x.a] (.tup [(insideP l x).1.a, iv (insideP l x).2]) := by
  refine spec_of t_centoref06_whole (by simp) fun w0 I0 => ?_
  unfold c_centoref06_whole
  simp
  refine sc_call (refWords_spec x.p hs) rfl ?_
  by_cases h : x.s < 0 ∨ l.length ≤ x.s ∨ x.at_ < 0
  · have hd : (decide (x.s < 0) || decide ((l.length : Int) ≤ x.s) || decide (x.at_ < 0)) = true := by
      simp
      omega
    have hh : hasW l x.s x.at_ ((wordsP x.p).getD 0) = false := by
      simp only [hasW, decide_eq_false_iff_not]
      omega
    simp [hd]
    refine frz_is rfl ?_
    simp [insideP, hh, Lc.zero, Pt.zero]
  · have k1 : 0 ≤ x.s := by omega
    have k2 : x.s < l.length := by omega
    have k3 : 0 ≤ x.at_ := by omega
    have k4 : ¬ (x.s < 0) := by omega
    have k5 : ¬ ((l.length : Int) ≤ x.s) := by omega
    have k6 : ¬ (x.at_ < 0) := by omega
    obtain ⟨k7, e1⟩ := seg_in k1 k2
    have hg := hb _ (List.getElem_mem k7)
    have hsz : szAt l x.s = l[x.s.toNat].length := by simp [szAt, e1]
    simp [k1, k2, k3, k4, k5, k6, k7]
    have hg2 : x.at_ ≤ l[x.s.toNat].length → IntKind.i64.wrap (l[x.s.toNat].length - x.at_) = l[x.s.toNat].length - x.at_ := fun h => i64_same (by omega) (by omega)
    have hw : hasW l x.s x.at_ ((wordsP x.p).getD 0) = true ↔ x.at_ ≤ l[x.s.toNat].length ∧ (wordsP x.p).getD (-1) ≤ l[x.s.toNat].length - x.at_ := by
      simp only [hasW, decide_eq_true_eq, hsz]
      cases e : wordsP x.p with
      | none => simp only [Option.getD_none]; omega
      | some n =>
        have := h0 n e
        simp only [Option.getD_some]; omega
    refine ⟨fun q => ?_, fun q1 q2 => ?_⟩
    · refine frz_is rfl ?_
      have hn : ¬ hasW l x.s x.at_ ((wordsP x.p).getD 0) = true := by
        rw [hw]
        rintro ⟨q1, q2⟩
        rw [hg2 q1] at q
        omega
      simp [insideP, hn, Lc.zero, Pt.zero]
    · refine frz_is rfl ?_
      rw [hg2 q1] at q2
      have hn := hw.2 ⟨q1, q2⟩
      simp [insideP, hn]

/-- A struct's or a list's pointer? -/
def shapeE (p : Pt) : Int := if p.kind = 4 then 9 else if p.kind ≠ 1 ∧ p.kind ≠ 2 then 8 else 0
theorem shape_spec (p : Pt) : G.Spec Try.prog 120 [p.a] (iv (shapeE p)) := by
  refine spec_of t_centoref06_shape (by simp) fun w0 I0 => ?_
  unfold c_centoref06_shape
  simp
  refine ⟨fun h => ?_, fun h => ⟨fun h1 h2 => ?_, fun h1 => ?_⟩⟩
  · exact frz_int (by simp [shapeE, h])
  · exact frz_int (by simp [shapeE, h, h1, h2])
  · refine frz_int ?_
    rw [shapeE, if_neg h, if_neg (by omega)]

theorem dec_words {w : Int} (h0 : 0 ≤ w) (h1 : w < 18446744073709551616) : ∀ n, wordsP (dec w) = some n → 0 ≤ n := by
  unfold dec
  repeat' split
  all_goals intro n
  all_goals simp only [wordsP, bitsOf]
  all_goals repeat' split
  all_goals intro h
  all_goals first | cases h | skip
  all_goals first | omega | skip

abbrev zs : List A := [iv 0, iv 0, iv 0, iv 0, iv 0, iv 0, iv 0, bv false, iv 0, iv 0]
theorem shapeE_is {p : Pt} : (shapeE p = 9 ∧ p.kind = 4) ∨ (shapeE p = 8 ∧ p.kind ≠ 4 ∧ p.kind ≠ 1 ∧ p.kind ≠ 2) ∨ (shapeE p = 0 ∧ (p.kind = 1 ∨ p.kind = 2)) := by
  unfold shapeE
  repeat' split
  all_goals omega

set_option maxRecDepth 8000 in
theorem refFollow_k2 {n : Nat} {w0 : World} {I0 : Nat → Prop} {l : List (List Int)} (hb : ∀ x, x ∈ l → x.length * 8 ≤ 140737488355328) {p : Pt} {s a : Int} (hs : Sums p) (h0 : ∀ n, wordsP p = some n → 0 ≤ n) (h1 : -1000000000000000000 ≤ a) (h2 : a ≤ 1000000000000000000) (h3 : -1000000000000000000 ≤ p.off) (h4 : p.off ≤ 1000000000000000000) :
    WPC (cx Try.prog w0 I0 n) k2_centoref06_Follow (RetC Try.prog [.cell 6 150, .tmp 7] (.tup [(nearP l p s a).1.a, iv (nearP l p s a).2])) ⟨lk [(0, sgs l), (1, iv s), (2, iv a), (6, .pob [0] 1 0), (8, .pob [1] 1 0)], lkH [([0], ⟨1, .cells zs⟩), ([1], ⟨1, .cells [iv p.kind, iv p.off, iv p.data, iv p.ptrs, iv p.code, iv p.count, iv p.seg, bv p.dbl]⟩)]⟩ := by
  unfold k2_centoref06_Follow
  simp
  refine sc_call (shape_spec p) rfl ?_
  simp
  rcases shapeE_is (p := p) with ⟨e, k⟩ | ⟨e, k⟩ | ⟨e, k⟩
  · simp [e]
    refine frz_is rfl ?_
    simp [nearP, k, Lc.zero, Pt.zero]
  · simp [e]
    refine frz_is rfl ?_
    simp [nearP, k, Lc.zero, Pt.zero]
  · simp [e]
    rw [i64_same (n := a + 1) (by omega) (by omega), i64_same (by omega) (by omega)]
    refine sc_call (whole_spec l hb ⟨p, s, a + 1 + p.off⟩ hs h0) rfl ?_
    simp
    refine frz_is rfl ?_
    simp [nearP, k]

set_option maxRecDepth 8000 in
theorem refFollow_k1 {n : Nat} {w0 : World} {I0 : Nat → Prop} {l : List (List Int)} (hb : ∀ x, x ∈ l → x.length * 8 ≤ 140737488355328) {p q : Pt} (hs : Sums q) (h0 : ∀ n, wordsP q = some n → 0 ≤ n) {e : Int} {x : Lc × Int} (hx : x = if e = 0 then insideP l ⟨q, p.seg, p.off⟩ else (Lc.zero, e)) {X : Sta → Prop} {v : VOb} :
    WPC (cx Try.prog w0 I0 n) k1_centoref06_Follow (ThenC X (RetC Try.prog [.cell 6 150, .tmp 7] (.tup [x.1.a, iv x.2]))) ⟨lk [(0, sgs l), (6, .pob [0] 1 0), (9, .pob [2] 1 0), (10, .pob [3] 1 0), (11, iv e)], lkH [([0], ⟨1, .cells zs⟩), ([1], v), ([2], ⟨1, .cells [iv p.kind, iv p.off, iv p.data, iv p.ptrs, iv p.code, iv p.count, iv p.seg, bv p.dbl]⟩), ([3], ⟨1, .cells [iv q.kind, iv q.off, iv q.data, iv q.ptrs, iv q.code, iv q.count, iv q.seg, bv q.dbl]⟩)]⟩ := by
  unfold k1_centoref06_Follow
  simp
  refine ⟨fun he => ?_, fun he => ?_⟩
  rotate_left
  · refine frz_is rfl ?_
    simp [hx, he, Lc.zero, Pt.zero]
  · refine sc_call (whole_spec l hb ⟨q, p.seg, p.off⟩ hs h0) rfl ?_
    simp
    refine frz_is rfl ?_
    simp [hx, he]

set_option maxRecDepth 8000 in
theorem refFollow_spec (l : List (List Int)) (hb : ∀ x, x ∈ l → x.length * 8 ≤ 140737488355328) (hw : Wds l) (s a : Int) :
    G.Spec Try.prog 89 [sgs l, iv s, iv a] (.tup [(followP l s a).1.a, iv (followP l s a).2]) := by
  refine spec_of t_centoref06_Follow (by simp) fun w0 I0 => ?_
  unfold c_centoref06_Follow
  simp
  refine sc_call (refHas_spec l s a) rfl ?_
  cases e1 : word l s a with
  | none =>
    simp
    refine frz_is rfl ?_
    simp [followP, e1, Lc.zero, Pt.zero]
  | some w =>
    obtain ⟨k1, k2, k3, k4, k5, rfl⟩ := word_some e1
    obtain ⟨v0, v1⟩ := word_in hw e1
    have hla := hb _ (List.getElem_mem k4)
    simp [k1, k2, k3, k4, k5]
    refine ⟨by omega, ?_⟩
    refine sc_call (refDecode_spec v0 v1) rfl ?_
    have hs := dec_sums v0 v1
    have hn := dec_words v0 v1
    obtain ⟨o1, o2, o3, o4⟩ := dec_off v0 v1
    generalize hv : dec l[s.toNat][a.toNat] = p at *
    have e : followP l s a = if p.kind = 0 then (Lc.zero, 0) else if p.kind ≠ 3 then nearP l p s a else if p.dbl = true then doubleP l p.seg p.off else match word l p.seg p.off with | none => (Lc.zero, 7) | some v => nearP l (dec v) p.seg p.off := by
      simp only [followP, e1, hv]
      rfl
    by_cases h0 : p.kind = 0
    · simp [h0]
      refine frz_is rfl ?_
      simp [e, h0, Lc.zero, Pt.zero]
    by_cases h3 : p.kind = 3
    · cases hd : p.dbl with
      | true =>
        simp [h3, hd]
        rw [if_neg h0, if_neg (by simp [h3]), if_pos hd] at e
        refine sc_call (refHas_spec l p.seg p.off) rfl ?_
        cases e2 : word l p.seg p.off with
        | none =>
          simp
          refine sc_call_gf rfl (fun _ => refHas_spec l p.seg (p.off + 1)) (fun e => by simp at e) rfl ?_
          simp
          refine frz_is rfl ?_
          simp [e, doubleP, e2, Lc.zero, Pt.zero]
        | some v =>
          simp
          rw [i64_same (by omega) (by omega)]
          refine sc_call_gf rfl (fun _ => refHas_spec l p.seg (p.off + 1)) (fun e => by simp [e]) rfl ?_
          cases e3 : word l p.seg (p.off + 1) with
          | none =>
            simp
            refine frz_is rfl ?_
            simp [e, doubleP, e2, e3, Lc.zero, Pt.zero]
          | some w =>
            obtain ⟨k1, k2, k3, k4, k5, rfl⟩ := word_some e2
            obtain ⟨_, _, k6, _, k7, rfl⟩ := word_some e3
            obtain ⟨v0, v1⟩ := word_in hw e2
            obtain ⟨w0', w1⟩ := word_in hw e3
            have dd : doubleP l p.seg p.off = if (dec l[p.seg.toNat][p.off.toNat]).kind ≠ 3 ∨ (dec l[p.seg.toNat][p.off.toNat]).dbl = true then (Lc.zero, 8) else if shapeE (dec l[p.seg.toNat][(p.off + 1).toNat]) = 0 ∧ (dec l[p.seg.toNat][(p.off + 1).toNat]).off = 0 then insideP l ⟨dec l[p.seg.toNat][(p.off + 1).toNat], (dec l[p.seg.toNat][p.off.toNat]).seg, (dec l[p.seg.toNat][p.off.toNat]).off⟩ else (Lc.zero, if shapeE (dec l[p.seg.toNat][(p.off + 1).toNat]) = 0 then 8 else shapeE (dec l[p.seg.toNat][(p.off + 1).toNat])) := by
              simp only [doubleP, e2, e3]
              generalize dec l[p.seg.toNat][p.off.toNat] = x
              generalize dec l[p.seg.toNat][(p.off + 1).toNat] = y
              split
              · rfl
              · rcases shapeE_is (p := y) with ⟨e, k⟩ | ⟨e, k⟩ | ⟨e, k⟩
                · simp [e, k]
                · simp [e, k]
                · rw [if_neg (by omega)]
                  simp [e]
                  by_cases ho : y.off = 0
                  · rw [if_neg (by omega), if_pos ho]
                  · rw [if_pos (by omega), if_neg ho]
            rw [e, dd]
            simp [k1, k2, k3, k4, k5, k6, k7]
            have hs := dec_sums w0' w1
            have hn := dec_words w0' w1
            refine ⟨by omega, ?_⟩
            refine sc_call (refDecode_spec v0 v1) rfl ?_
            simp [k1, k2, k3, k4, k5, k6, k7]
            rw [i64_same (by omega) (by omega)]
            simp [k6, k7]
            refine ⟨by omega, ?_⟩
            refine sc_call (refDecode_spec w0' w1) rfl ?_
            generalize dec l[p.seg.toNat][p.off.toNat] = x
            generalize dec l[p.seg.toNat][(p.off + 1).toNat] = y at *
            simp
            refine ⟨fun h => ?_, fun a1 a2 => ?_⟩
            · refine frz_is rfl ?_
              rw [if_pos h]
              rfl
            · rw [if_neg (by simp [a1, a2])]
              refine sc_call (shape_spec y) rfl ?_
              simp
              refine ⟨fun h1 h2 => ?_, fun h => ?_⟩
              · exact refFollow_k1 hb hs hn (by simp [h1, h2])
              · refine refFollow_k1 hb hs hn ?_
                by_cases h1 : shapeE y = 0
                · simp [h1, h h1]
                · simp [h1]
      | false =>
        simp [h3, hd]
        rw [if_neg h0, if_neg (by simp [h3]), if_neg (by simp [hd])] at e
        refine sc_call (refHas_spec l p.seg p.off) rfl ?_
        cases e2 : word l p.seg p.off with
        | none =>
          simp
          refine frz_is rfl ?_
          simp [e, e2, Lc.zero, Pt.zero]
        | some w =>
          obtain ⟨k1, k2, k3, k4, k5, rfl⟩ := word_some e2
          obtain ⟨v0, v1⟩ := word_in hw e2
          have hla := hb _ (List.getElem_mem k4)
          simp [k1, k2, k3, k4, k5]
          refine ⟨by omega, ?_⟩
          refine sc_call (refDecode_spec v0 v1) rfl ?_
          have hs := dec_sums v0 v1
          have hn := dec_words v0 v1
          obtain ⟨q1, q2, q3, q4⟩ := dec_off v0 v1
          rw [e2] at e
          simp only at e
          rw [e]
          simp
          exact refFollow_k2 hb hs hn (by omega) (by omega) (by omega) (by omega)
    · simp [h0, h3]
      rw [e, if_neg h0, if_pos h3]
      exact refFollow_k2 hb hs hn (by omega) (by omega) (by omega) (by omega)

end Go.Proofs.Ytigdcnlhgelkaaa
