/-
  Chapter 9's reference: values where they lie.
-/
import Derived.Test.YtigdcnlhgelkaaaD15a
namespace Go.Proofs.Ytigdcnlhgelkaaa
set_option linter.unusedVariables false
set_option linter.unusedSimpArgs false
open Go Go.G Go.Proofs Go.PL

abbrev raX (r : Rf) : A := .agg [iv r.kind, iv r.s, iv r.at_, iv r.data, iv r.kids, iv r.count, uv r.n]
def bitZ (g : List Int) (i : Int) : Int := if i < 0 then 0 else ((g[(i / 64).toNat]?).getD 0) / 2 ^ (i % 64).toNat % 2

section
variable {n0 : Nat} {w0 : World} {I0 : Nat → Prop} {Q : Exit → Sta → Prop} {H : Hp}
theorem rBit_l1 {i : Int} (hi : 0 ≤ i) : ∀ (m : Nat) (x j : Int), 0 ≤ x → x < 18446744073709551616 → 0 ≤ j → j + m = i % 64 → (∀ j' b, Q (.exit 0) ⟨lk [(1, iv i), (5, uv (x / 2 ^ m)), (6, iv j'), (24, bv b)], H⟩) →
    LoopC (cx Try.prog w0 I0 n0) l1_centoref01_Bit Q ⟨lk [(1, iv i), (5, uv x), (6, iv j)], H⟩ := by
  have e : i.tmod 64 = i % 64 := Int.tmod_eq_emod_of_nonneg hi
  intro m
  induction m with
  | zero =>
    intro x j h0 h1 h2 h3 hq
    have : j = i % 64 := by simpa using h3
    subst this
    refine loopC_once mixed l1_centoref01_Bit.eq_1 ?_
    simp [e]
    simpa using hq _ _
  | succ m ih =>
    intro x j h0 h1 h2 h3 hq
    refine loopC_once mixed l1_centoref01_Bit.eq_1 ?_
    have hj : j < i % 64 := by omega
    simp [e, hj]
    rw [i64_same (by omega) (by omega), Int.tdiv_eq_ediv_of_nonneg h0, u64_same (by omega) (by omega)]
    exact ih _ _ (by omega) (by omega) (by omega) (by omega) (by rw [pow_half]; exact hq)
end
theorem rBit_spec {g : List Int} (hg : ∀ x, x ∈ g → 0 ≤ x ∧ x < 18446744073709551616) {i : Int} (hi1 : i < 1000000000000000000) (hi : 0 ≤ i) : G.Spec Try.prog 143 [uws g, iv i] (uv (bitZ g i)) := by
  refine spec_of t_centoref01_Bit (by simp) fun w0 I0 => ?_
  unfold c_centoref01_Bit
  have e2 : IntKind.i64.wrap (i.tdiv 64) = i / 64 := by rw [Int.tdiv_eq_ediv_of_nonneg hi, i64_same (by omega) (by omega)]
  have hn : ¬ i < 0 := by omega
  have hd0 : 0 ≤ i / 64 := by omega
  by_cases hr : (g.length : Int) ≤ i / 64
  · have en : g[(i / 64).toNat]? = none := List.getElem?_eq_none (by omega)
    simp [hn, e2, hr, hi]
    exact frz_is rfl (by simp [bitZ, en])
  · have hlt : (i / 64).toNat < g.length := by omega
    have hlt' : i / 64 < g.length := by omega
    have hx := hg _ (List.getElem_mem hlt)
    simp [hn, e2, hr, hi, hd0, hlt, hlt']
    have hx0 : 0 ≤ g[(i / 64).toNat] / 2 ^ (i % 64).toNat := Int.ediv_nonneg hx.1 (Int.le_of_lt (Int.pow_pos (by decide)))
    have hx1 : g[(i / 64).toNat] / 2 ^ (i % 64).toNat < 18446744073709551616 := Int.lt_of_le_of_lt (Int.ediv_le_self _ hx.1) hx.2
    refine rBit_l1 hi (i % 64).toNat _ 0 hx.1 hx.2 (by omega) (by omega) fun j' b => ?_
    simp [Int.tmod_eq_emod_of_nonneg hx0]
    exact frz_is rfl (by simp [bitZ, hn, hlt])

theorem bits_up (y : Int) (m k : Nat) : y / 2 ^ (m + 1) % 2 ^ k * 2 + y / 2 ^ m % 2 = y / 2 ^ m % 2 ^ (k + 1) := by
  have e : y / 2 ^ (m + 1) = y / 2 ^ m / 2 := by
    rw [Int.pow_succ, Int.ediv_ediv_of_nonneg (Int.le_of_lt (Int.pow_pos (by decide)))]
  rw [e]
  generalize y / 2 ^ m = z
  have e2 : z % 2 ^ (k + 1) = z - 2 ^ (k + 1) * (z / 2 ^ (k + 1)) := Int.emod_def ..
  have e3 : z / 2 ^ (k + 1) = z / 2 / 2 ^ k := by rw [Int.pow_succ, Int.mul_comm, Int.ediv_ediv_of_nonneg (by decide)]
  have e4 : z / 2 % 2 ^ k = z / 2 - 2 ^ k * (z / 2 / 2 ^ k) := Int.emod_def ..
  rw [e2, e3, e4, Int.pow_succ, Int.mul_comm (2 ^ k) 2, Int.mul_assoc]
  generalize 2 ^ k * (z / 2 / 2 ^ k) = q
  omega
/-- A word's bit, seen from the item's first. -/
theorem bit_of {g : List Int} {i w : Int} (hi : 0 ≤ i) (hw : w = 1 ∨ w = 8 ∨ w = 16 ∨ w = 32 ∨ w = 64) (m : Nat) (hm : (m : Int) < w) : bitZ g (i * w + m) = ((g[(i * w / 64).toNat]?).getD 0) / 2 ^ (i * w % 64).toNat / 2 ^ m % 2 := by
  have hp : 0 ≤ i * w := by rcases hw with rfl | rfl | rfl | rfl | rfl <;> omega
  have h1 : (i * w + m) / 64 = i * w / 64 ∧ (i * w + m) % 64 = i * w % 64 + m := by
    rcases hw with rfl | rfl | rfl | rfl | rfl <;> omega
  unfold bitZ
  rw [if_neg (by omega), h1.1, h1.2, Int.ediv_ediv_of_nonneg (Int.le_of_lt (Int.pow_pos (by decide))), ← Int.pow_add]
  have : (i * w % 64 + (m : Int)).toNat = (i * w % 64).toNat + m := by omega
  rw [this]

section
variable {n0 : Nat} {w0 : World} {I0 : Nat → Prop} {Q : Exit → Sta → Prop} {H : Hp}
theorem rGet_l1 {g : List Int} (hg : ∀ x, x ∈ g → 0 ≤ x ∧ x < 18446744073709551616) {i w y : Int} (hi : 0 ≤ i) (hi1 : i ≤ 1099511627776) (hw : w = 1 ∨ w = 8 ∨ w = 16 ∨ w = 32 ∨ w = 64) (hy : y = ((g[(i * w / 64).toNat]?).getD 0) / 2 ^ (i * w % 64).toNat) (y0 : 0 ≤ y) (y1 : y < 18446744073709551616) : ∀ (m : Nat) (k : Nat) (x j : Int), k + m = w → j = (m : Int) - 1 → x = y / 2 ^ m % 2 ^ k →
    (∀ j' b, Q (.exit 0) ⟨lk [(0, uws g), (2, iv i), (7, iv w), (8, uv (y % 2 ^ w.toNat)), (9, iv j'), (25, bv b)], H⟩) →
    LoopC (cx Try.prog w0 I0 n0) l1_centoref01_Get Q ⟨lk [(0, uws g), (2, iv i), (7, iv w), (8, uv x), (9, iv j)], H⟩ := by
  intro m
  induction m with
  | zero =>
    intro k x j hk hj hx hq
    subst hj
    refine loopC_once mixed l1_centoref01_Get.eq_1 ?_
    simp
    have : w.toNat = k := by omega
    rw [this] at hq
    rw [hx]
    simpa using hq _ _
  | succ m ih =>
    intro k x j hk hj hx hq
    have hj' : j = m := by omega
    subst hj'
    have hm : (m : Int) < w := by omega
    have hb : 0 ≤ i * w ∧ i * w ≤ 70368744177664 := by rcases hw with rfl | rfl | rfl | rfl | rfl <;> omega
    have e1 : IntKind.i64.wrap (i * w) = i * w := i64_same (by omega) (by omega)
    have e2 : IntKind.i64.wrap (i * w + m) = i * w + m := i64_same (by omega) (by omega)
    have e3 : IntKind.i64.wrap ((m : Int) - 1) = m - 1 := i64_same (by omega) (by omega)
    refine loopC_once mixed l1_centoref01_Get.eq_1 ?_
    simp [e1, e2]
    refine sc_call (rBit_spec hg (i := i * w + m) (by omega) (by omega)) rfl ?_
    simp [e3]
    rw [bit_of hi hw m hm, ← hy]
    have hu := bits_up y m k
    have hz0 : 0 ≤ y / 2 ^ m := Int.ediv_nonneg y0 (Int.le_of_lt (Int.pow_pos (by decide)))
    have hz1 : y / 2 ^ m ≤ y := Int.ediv_le_self _ y0
    have p2 : (0 : Int) < 2 ^ (k + 1) := Int.pow_pos (by omega)
    have m0 := Int.emod_nonneg (y / 2 ^ m) (by omega : (2 : Int) ^ (k + 1) ≠ 0)
    have m1 : y / 2 ^ m % 2 ^ (k + 1) ≤ y / 2 ^ m := by
      rw [Int.emod_def]
      have := Int.mul_nonneg (a := 2 ^ (k + 1)) (b := y / 2 ^ m / 2 ^ (k + 1)) (by omega) (Int.ediv_nonneg hz0 (by omega))
      omega
    have p3 : (0 : Int) < 2 ^ k := Int.pow_pos (by omega)
    have n0 := Int.emod_nonneg (y / 2 ^ (m + 1)) (by omega : (2 : Int) ^ k ≠ 0)
    rw [← hx] at hu n0
    rw [u64_same (n := x * 2) (by omega) (by omega), u64_same (by omega) (by omega)]
    exact ih (k + 1) _ _ (by omega) rfl hu hq
end
theorem rGet_spec {g : List Int} (hg : ∀ x, x ∈ g → 0 ≤ x ∧ x < 18446744073709551616) (c i : Int) : G.Spec Try.prog 123 [uws g, iv c, iv i] (uv (getZ g c i)) := by
  refine spec_of t_centoref01_Get (by simp) fun w0 I0 => ?_
  unfold c_centoref01_Get
  simp
  refine sc_call (rWidth_spec c) rfl ?_
  have hw := widthZ_cases c
  by_cases h0 : widthZ c < 1 ∨ i < 0 ∨ 1099511627776 < i
  · have e : getZ g c i = 0 := by unfold getZ; rw [if_pos h0]
    rw [e]
    have hd : (decide (widthZ c < 1) || decide (i < 0) || decide (1099511627776 < i)) = true := by simp; omega
    simp [hd]
    exact frz_bare rfl
  · have hw1 : widthZ c = 1 ∨ widthZ c = 8 ∨ widthZ c = 16 ∨ widthZ c = 32 ∨ widthZ c = 64 := by omega
    have hd : (decide (widthZ c < 1) || decide (i < 0) || decide (1099511627776 < i)) = false := by simp; omega
    have hi0 : 0 ≤ i := by omega
    have e : getZ g c i = ((g[(i * widthZ c / 64).toNat]?).getD 0) / 2 ^ (i * widthZ c % 64).toNat % 2 ^ (widthZ c).toNat := by unfold getZ; rw [if_neg h0]
    rw [e]
    simp [hd]
    clear e hw
    generalize widthZ c = w at hw1 h0
    rw [i64_same (by omega) (by omega)]
    have hx : 0 ≤ (g[(i * w / 64).toNat]?).getD 0 ∧ (g[(i * w / 64).toNat]?).getD 0 < 18446744073709551616 := by
      cases e : g[(i * w / 64).toNat]? with
      | none => simp
      | some x => exact hg x (List.mem_of_getElem? e)
    have y0 : 0 ≤ (g[(i * w / 64).toNat]?).getD 0 / 2 ^ (i * w % 64).toNat := Int.ediv_nonneg hx.1 (Int.le_of_lt (Int.pow_pos (by decide)))
    have y1 : (g[(i * w / 64).toNat]?).getD 0 / 2 ^ (i * w % 64).toNat < 18446744073709551616 := Int.lt_of_le_of_lt (Int.ediv_le_self _ hx.1) hx.2
    refine rGet_l1 hg hi0 (by omega) hw1 rfl y0 y1 w.toNat 0 0 _ (by omega) (by omega) (by simp) fun j' b => ?_
    simp
    exact frz_is rfl rfl

/-! ### a value -/
theorem raKids_spec (r : Rf) : G.Spec Try.prog 92 [raX r] (iv (nk r)) := by
  refine spec_of t_centoref09_Ref_Kids (by simp) fun w0 I0 => ?_
  unfold c_centoref09_Ref_Kids
  by_cases h1 : r.kind = 1
  · simp [h1]; exact frz_is rfl (by simp [nk, h1])
  · simp [h1]; exact frz_is rfl (by simp [nk, h1])
theorem raAt_spec {l : List (List Int)} (hs : Sg l) (s a : Int) : G.Spec Try.prog 56 [sgs l, iv s, iv a] (.tup [raX (atP l s a).1, iv (atP l s a).2]) := by
  have hf := follow_folw hs.w s a
  refine spec_of t_centoref09_At (by simp) fun w0 I0 => ?_
  unfold c_centoref09_At
  simp
  refine sc_call (refFollow_spec l hs.b hs.w s a) rfl ?_
  unfold atP
  generalize followP l s a = x at hf
  obtain ⟨x, e⟩ := x
  unfold Folw at hf
  simp only at hf ⊢
  by_cases hc : e ≠ 0 ∨ x.p.kind = 0
  · have hd : (!decide (e = 0) || decide (x.p.kind = 0)) = true := by simp; omega
    simp [hd, hc]
    exact frz_is rfl (by simp [Rf.zero])
  · have hd : (!decide (e = 0) || decide (x.p.kind = 0)) = false := by simp; omega
    have he : e = 0 := by omega
    obtain h0 | ⟨hk, hsh, hw⟩ := hf he
    · omega
    have hbd := hasW_bound hs hw
    rw [if_neg hc]
    simp [hd]
    unfold refP
    by_cases k1 : x.p.kind = 1
    · simp [k1, he]
      exact frz_is rfl rfl
    · have k2 : x.p.kind = 2 := by omega
      obtain ⟨c0, c1, _, _⟩ := hsh.k2 k2
      by_cases c7 : x.p.code < 7
      · have e2 : IntKind.i64.wrap (2 + x.p.code) = 2 + x.p.code := i64_same (by omega) (by omega)
        simp [k1, c7, e2]
        exact ⟨frz_is rfl rfl, fun h => absurd h (by omega)⟩
      · rw [wordsP_comp k2 (by omega)] at hw
        have hcnt := (hsh.k2 k2).2.2
        obtain ⟨q1, q2, q3, q4, q5, q6, q7⟩ := hasW_in hw
        simp only [Option.getD_some] at q7
        have q8 : x.at_.toNat < l[x.s.toNat].length := by omega
        have q9 : x.at_ < l[x.s.toNat].length := by omega
        have e0 : (word l x.s x.at_).getD 0 = l[x.s.toNat][x.at_.toNat] := by
          unfold word
          rw [if_pos q3, q6]
          simp [q8]
        have h0 : 0 ≤ (word l x.s x.at_).getD 0 ∧ (word l x.s x.at_).getD 0 < 18446744073709551616 := by
          cases e : word l x.s x.at_ with
          | none => simp
          | some x => exact word_in hs.w e
        simp [k1, c7, q1, q2, q3, q5, q8, q9, ws]
        unfold compP
        rw [← e0]
        generalize (word l x.s x.at_).getD 0 = w at h0
        intro _
        refine sc_call (refDecode_spec h0.1 h0.2) rfl ?_
        have hsh := dec_shp h0.1 h0.2
        have ho := dec_off h0.1 h0.2
        have hdp : 0 ≤ (dec w).data ∧ (dec w).data < 65536 ∧ 0 ≤ (dec w).ptrs ∧ (dec w).ptrs < 65536 := by
          unfold dec
          repeat' split
          all_goals simp
          all_goals omega
        generalize dec w = p at hsh ho hdp
        have hb : -70368744177664 ≤ p.off * (p.data + p.ptrs) ∧ p.off * (p.data + p.ptrs) ≤ 70368744177664 := by
          have b1 : p.off * (p.data + p.ptrs) ≤ 536870912 * (p.data + p.ptrs) := Int.mul_le_mul_of_nonneg_right (by omega) (by omega)
          have b2 : -536870912 * (p.data + p.ptrs) ≤ p.off * (p.data + p.ptrs) := Int.mul_le_mul_of_nonneg_right (by omega) (by omega)
          omega
        have e1 : IntKind.i64.wrap (p.data + p.ptrs) = p.data + p.ptrs := i64_same (by omega) (by omega)
        have e2 : IntKind.i64.wrap (p.off * (p.data + p.ptrs)) = p.off * (p.data + p.ptrs) := i64_same (by omega) (by omega)
        have e3 : IntKind.i64.wrap (x.at_ + 1) = x.at_ + 1 := i64_same (by omega) (by omega)
        by_cases hc : (w ≠ 0 ∧ p.kind ≠ 1) ∨ p.off < 0 ∨ x.p.count < p.off * (p.data + p.ptrs)
        · have hd : (((!decide (w = 0) && !decide (p.kind = 1)) || decide (p.off < 0)) || decide (x.p.count < p.off * (p.data + p.ptrs))) = true := by simp; omega
          rw [if_pos hc]
          simp [e1, e2, hd]
          exact frz_is rfl (by simp [Rf.zero])
        · have hd : (((!decide (w = 0) && !decide (p.kind = 1)) || decide (p.off < 0)) || decide (x.p.count < p.off * (p.data + p.ptrs))) = false := by simp; omega
          rw [if_neg hc]
          simp [e1, e2, e3, hd]
          exact frz_is rfl rfl
theorem raKid_spec {l : List (List Int)} (hs : Sg l) {r : Rf} (hr : RfOk l r) (i : Int) : G.Spec Try.prog 93 [raX r, sgs l, iv i] (.tup [raX (kidP l r i).1, iv (kidP l r i).2]) := by
  refine spec_of t_centoref09_Ref_Kid (by simp) fun w0 I0 => ?_
  unfold c_centoref09_Ref_Kid
  simp
  refine sc_call_gf rfl (fun _ => raKids_spec r) (fun e => by simp [e]) (by simp) ?_
  by_cases hi : i < 0 ∨ nk r ≤ i
  · have hd : (decide (i < 0) || decide (nk r ≤ i)) = true := by simpa using hi
    simp [hd]
    exact frz_is rfl (by simp [kidP, hi, Rf.zero])
  · have hd : (decide (i < 0) || decide (nk r ≤ i)) = false := by simpa using hi
    have hi0 : 0 ≤ i := by omega
    have hi1 : i < nk r := by omega
    have hk := nk_nonneg hr
    rw [kidP, if_neg hi]
    cases hr with
    | zero => simp [nk, Rf.zero] at hi1; omega
    | str s a d k a1 a2 a3 a4 h =>
      have hb := hasW_bound hs h
      have e1 : IntKind.i64.wrap (IntKind.i64.wrap (a + d) + i) = a + d + i := by
        rw [i64_same (n := a + d) (by omega) (by omega), i64_same (by omega) (by omega)]
      simp [hd, e1]
      refine sc_call (raAt_spec hs s (a + d + i)) rfl ?_
      simp
      exact frz_is rfl rfl
    | dat c s a n a1 a2 a3 a4 h =>
      have n1 : ¬ (2 + c = 1) := by omega
      have n8 : ¬ (2 + c = 8) := by omega
      have n9 : ¬ (2 + c = 9) := by omega
      obtain ⟨q1, q2, q3, q4, q5, q6, q7⟩ := hasW_in h
      have hz : 0 ≤ (n * bitsOf c + 63) / 64 := q4
      have q8 : a ≤ l[s.toNat].length := by omega
      have e2 : IntKind.i64.wrap (2 + c - 2) = 2 + c - 2 := i64_same (by omega) (by omega)
      have et : List.take (l[s.toNat].length - a.toNat) (List.drop a.toNat (List.map uv l[s.toNat])) = (l[s.toNat].drop a.toNat).map uv := by
        rw [List.take_of_length_le (by simp), List.map_drop]
      simp [hd, n1, n8, n9, q1, q2, q3, q5, q8, e2, et]
      refine sc_calle (L := [uws (l[s.toNat].drop a.toNat), iv (2 + c - 2), iv i]) (by simp) (rGet_spec (fun x hx => hs.w _ (List.getElem_mem q5) x (List.mem_of_mem_drop hx)) (2 + c - 2) i) rfl ?_
      simp
      exact frz_is rfl (by simp [atomZ, q6])
    | ptrs s a n a1 a2 h =>
      have hb := hasW_bound hs h
      have e1 : IntKind.i64.wrap (a + i) = a + i := i64_same (by omega) (by omega)
      simp [hd, e1]
      refine sc_call (raAt_spec hs s (a + i)) rfl ?_
      simp
      exact frz_is rfl rfl
    | comp s a d k n a1 a2 a3 a4 a5 a6 h =>
      have hb := hasW_bound hs h
      have hn : i < n := by simpa [nk] using hi1
      have m1 : 0 ≤ i * (d + k) := Int.mul_nonneg hi0 (by omega)
      have m2 : i * (d + k) ≤ n * (d + k) := mul_le_of (by omega) (by omega)
      have e1 : IntKind.i64.wrap (d + k) = d + k := i64_same (by omega) (by omega)
      have e2 : IntKind.i64.wrap (i * (d + k)) = i * (d + k) := i64_same (by omega) (by omega)
      have e3 : IntKind.i64.wrap (a + i * (d + k)) = a + i * (d + k) := i64_same (by omega) (by omega)
      simp [hd, e1, e2, e3]
      exact frz_is rfl rfl
    | atom n a1 a2 => simp [nk] at hi1; omega
theorem raWords_spec {l : List (List Int)} (hs : Sg l) {r : Rf} (hr : RfOk l r) : G.Spec Try.prog 91 [raX r, sgs l] (uws (wordsR l r)) := by
  refine spec_of t_centoref09_Ref_Words (by simp) fun w0 I0 => ?_
  unfold c_centoref09_Ref_Words
  by_cases h10 : r.kind = 10
  · simp [h10]
    have : wordsR l r = [r.n] := by simp [wordsR, h10]
    rw [this]
    exact frz_sl
  by_cases h1 : r.kind = 1
  · cases hr with
    | str s a d k a1 a2 a3 a4 h =>
      obtain ⟨q1, q2, q3, q4, q5, q6, q7⟩ := hasW_in h
      have hbd := hasW_bound hs h
      have e1 : IntKind.i64.wrap (a + d) = a + d := i64_same (by omega) (by omega)
      have g1 : a ≤ a + d := by omega
      have g2 : a + d ≤ l[s.toNat].length := by omega
      have g3 := hs.b _ (List.getElem_mem q5)
      have g4 : 0 ≤ a + d := by omega
      have g5 : a.toNat ≤ (a + d).toNat := by omega
      have g6 : (a + d).toNat ≤ l[s.toNat].length := by omega
      have g7 : max (a + d) 0 = a + d := by omega
      simp [e1, q1, q2, q3, q5, g1, g2, g4, g5, g6, g7]
      have gl : (List.take ((a + d).toNat - a.toNat) (List.drop a.toNat (List.map uv l[s.toNat]))) = (part l s a d).map uv := by
        simp only [part, q6, Option.getD_some, List.map_take, List.map_drop]
        congr 1
        omega
      refine ⟨by omega, ?_⟩
      rw [gl]
      have : wordsR l ⟨1, s, a, d, k, 0, 0⟩ = part l s a d := by simp [wordsR]
      rw [this]
      exact frz_row (sz := 1) (by simp) (by simp [part, q6]; omega) (by simp)
    | dat c s a n a1 a2 a3 a4 h => simp at h1; omega
    | _ => simp [Rf.zero] at h1
  · have : wordsR l r = [] := by simp [wordsR, h1, h10]
    rw [this]
    simp [h1, h10]
    exact frz_sl
end Go.Proofs.Ytigdcnlhgelkaaa
