/-
  Chapter 9: values are read where they lie, by the program.
-/
import Derived.Test.YtigdcnlhgelkaaaD09a
import Derived.Test.YtigdcnlhgelkaaaD01a
import Derived.Test.YtigdcnlhgelkaaaD07w
import Derived.Test.YtigdcnlhgelkaaaGFns9
namespace Go.Proofs.Ytigdcnlhgelkaaa
set_option linter.unusedVariables false
set_option linter.unusedSimpArgs false
open Go Go.G Go.Proofs Go.PL

/-- Segments that memory can hold. -/
structure Sg (l : List (List Int)) : Prop where
  b : ∀ x, x ∈ l → x.length * 8 ≤ 140737488355328
  w : Wds l
def arO (l : List (List Int)) (r : Rf) : A := if r.kind = 0 then .v (.pointer none) else arn l
@[simp] theorem arO_cells (l : List (List Int)) (r : Rf) : (arO l r).cells = [arO l r] := by unfold arO; split <;> rfl
@[simp] theorem arO_one (l : List (List Int)) (r : Rf) : (arO l r).one = true := by unfold arO; split <;> rfl
@[simp] theorem arO_bare (l : List (List Int)) (r : Rf) : (arO l r).bare = true := by unfold arO; split <;> rfl
@[simp] theorem arO_bare1 (l : List (List Int)) (r : Rf) : (arO l r).bare1 = true := by unfold arO; split <;> rfl
@[simp] theorem arO_bare2 (l : List (List Int)) (r : Rf) : (arO l r).bare2 = true := by unfold arO; split <;> rfl
theorem arO_nz {l : List (List Int)} {r : Rf} (h : r.kind ≠ 0) : arO l r = arn l := if_neg h
abbrev paL (l : List (List Int)) (r : Rf) : List A := [arO l r, iv r.kind, iv r.s, iv r.at_, iv r.data, iv r.kids, iv r.count, uv r.n]
abbrev paX (l : List (List Int)) (r : Rf) : A := .agg (paL l r)
def nwR (r : Rf) : Int := if r.kind = 1 then r.data else if r.kind = 10 then 1 else 0
def wordAt (l : List (List Int)) (r : Rf) (i : Int) : Int := if i < 0 ∨ nwR r ≤ i then 0 else if r.kind = 10 then r.n else (word l r.s (r.at_ + i)).getD 0

/-! ### small numbers -/
theorem u64_shr (x : Int) (k : Int) (h0 : 0 ≤ k) (h1 : k < 64) : x / 2 ^ (min k.toNat IntKind.u64.bits) = x / 2 ^ k.toNat := by
  have : min k.toNat IntKind.u64.bits = k.toNat := by
    have : IntKind.u64.bits = 64 := rfl
    omega
  rw [this]
set_option maxRecDepth 8000 in
theorem wGet_spec {g : List Int} (hg : ∀ x, x ∈ g → 0 ≤ x ∧ x < 18446744073709551616) (hl : g.length * 8 ≤ 140737488355328) (c i : Int) : G.Spec Try.prog 114 [uws g, iv c, iv i] (uv (getZ g c i)) := by
  refine spec_of t_word_Get (by simp) fun w0 I0 => ?_
  unfold c_word_Get
  simp
  refine sc_call (width_spec c) rfl ?_
  have hw := widthZ_cases c
  by_cases h0 : widthZ c < 1 ∨ i < 0 ∨ 1099511627776 < i
  · have e : getZ g c i = 0 := by unfold getZ; rw [if_pos h0]
    rw [e]
    rcases hw with h | h | h | h | h | h | h
    · simp [h]; exact frz_bare rfl
    · simp [h]; exact frz_bare rfl
    all_goals
      by_cases hi : i < 0
      · simp [h, hi]; exact frz_bare rfl
      · have hb : 1099511627776 < i := by omega
        simp [h, hi, hb]; exact frz_bare rfl
  · have hw1 : widthZ c = 1 ∨ widthZ c = 8 ∨ widthZ c = 16 ∨ widthZ c = 32 ∨ widthZ c = 64 := by omega
    have hi0 : 0 ≤ i := by omega
    have hi1 : i ≤ 1099511627776 := by omega
    have e : getZ g c i = ((g[(i * widthZ c / 64).toNat]?).getD 0) / 2 ^ (i * widthZ c % 64).toNat % 2 ^ (widthZ c).toNat := by unfold getZ; rw [if_neg h0]
    rw [e]
    clear e hw
    generalize widthZ c = w at hw1 h0
    have hn : ¬ w < 0 := by omega
    have hn0 : ¬ w = 0 := by omega
    have hp : 0 ≤ w := by omega
    have hneg : ¬ i < 0 := by omega
    have hbig : ¬ 1099511627776 < i := by omega
    have hb : 0 ≤ i * w ∧ i * w ≤ 70368744177664 := by rcases hw1 with rfl | rfl | rfl | rfl | rfl <;> omega
    have e1 : IntKind.i64.wrap (i * w) = i * w := i64_same (by omega) (by omega)
    have e2 : IntKind.i64.wrap ((i * w).tdiv 64) = i * w / 64 := by rw [Int.tdiv_eq_ediv_of_nonneg hb.1, i64_same (by omega) (by omega)]
    have e3 : (i * w).tmod 64 = i * w % 64 := Int.tmod_eq_emod_of_nonneg hb.1
    have hm : 0 ≤ i * w % 64 := by omega
    have hm1 : i * w % 64 < 64 := by omega
    have hd0 : 0 ≤ i * w / 64 := by omega
    by_cases hr : (g.length : Int) ≤ i * w / 64
    · have en : g[(i * w / 64).toNat]? = none := List.getElem?_eq_none (by omega)
      simp [hn, hn0, hp, hneg, hbig, e1, e2, hr, en]
      exact frz_bare rfl
    · have hlt : (i * w / 64).toNat < g.length := by omega
      have hlt' : i * w / 64 < g.length := by omega
      have hx := hg _ (List.getElem_mem hlt)
      simp [hn, hn0, hp, hneg, hbig, e1, e2, e3, hr, hd0, hlt, hlt', hm, u64_shr _ _ hm hm1]
      have hx0 : 0 ≤ g[(i * w / 64).toNat] / 2 ^ (i * w % 64).toNat := Int.ediv_nonneg hx.1 (Int.le_of_lt (Int.pow_pos (by decide)))
      have hx1 : g[(i * w / 64).toNat] / 2 ^ (i * w % 64).toNat < 18446744073709551616 := Int.lt_of_le_of_lt (Int.ediv_le_self _ hx.1) hx.2
      generalize g[(i * w / 64).toNat] / 2 ^ (i * w % 64).toNat = y at hx0 hx1
      refine ⟨fun h => ?_, fun h => ?_⟩
      · refine frz_int ?_
        rw [h]
        exact (Int.emod_eq_of_lt hx0 (by simpa using hx1)).symm
      · refine frz_int ?_
        have em : ∀ k : Nat, k < 64 → IntKind.u64.wrap (IntKind.u64.wrap (2 ^ min k IntKind.u64.bits) - 1) = 2 ^ k - 1 := fun k hk => by
          have h64 : min k IntKind.u64.bits = k := by
            have : IntKind.u64.bits = 64 := rfl
            omega
          have hp : (2 : Int) ^ k ≤ 9223372036854775808 := by
            have h2 := Int.ofNat_le.2 (Nat.pow_le_pow_right (n := 2) (by decide) (by omega : k ≤ 63))
            rw [Int.natCast_pow] at h2
            exact h2
          have hp0 : (0 : Int) < 2 ^ k := Int.pow_pos (by decide)
          rw [h64, u64_same (n := 2 ^ k) (by omega) (by omega), u64_same (by omega) (by omega)]
        rw [em w.toNat (by omega)]
        exact u64_mask w.toNat (by omega) hx0 hx1
theorem wWidth_spec (c : Int) : G.Spec Try.prog 113 [iv c] (.tup [iv (if widthZ c < 0 then 0 else widthZ c), bv (decide (0 ≤ widthZ c))]) := by
  refine spec_of t_word_Width (by simp) fun w0 I0 => ?_
  unfold c_word_Width
  simp
  refine sc_call (width_spec c) rfl ?_
  simp
  exact frz_bare rfl
theorem tup_bare {cs : List A} {x : Value} (h : cs.all A.bare2 = true) : (A.tup [.agg cs, .v x]).bare = true := by
  simp only [A.bare, List.all_cons, List.all_nil, Bool.and_true]
  rw [h]; rfl

/-! ### a value -/
theorem refKind_spec (l : List (List Int)) (r : Rf) : G.Spec Try.prog 60 [paX l r] (iv r.kind) := by
  refine spec_of t_reader_Ref_Kind (by simp) fun w0 I0 => ?_
  unfold c_reader_Ref_Kind
  simp
  exact frz_bare rfl
theorem refWords_spec' (l : List (List Int)) (r : Rf) : G.Spec Try.prog 78 [paX l r] (iv (nwR r)) := by
  refine spec_of t_reader_Ref_Words (by simp) fun w0 I0 => ?_
  unfold c_reader_Ref_Words
  by_cases h1 : r.kind = 1
  · simp [h1]; exact frz_is rfl (by simp [nwR, h1])
  · by_cases h10 : r.kind = 10
    · simp [h10]; exact frz_is rfl (by simp [nwR, h10])
    · simp [h1, h10]; exact frz_is rfl (by simp [nwR, h1, h10])
theorem refKids_spec' (l : List (List Int)) (r : Rf) : G.Spec Try.prog 71 [paX l r] (iv (nk r)) := by
  refine spec_of t_reader_Ref_Kids (by simp) fun w0 I0 => ?_
  unfold c_reader_Ref_Kids
  by_cases h1 : r.kind = 1
  · simp [h1]; exact frz_is rfl (by simp [nk, h1])
  · simp [h1]; exact frz_is rfl (by simp [nk, h1])
theorem hasW_bound {l : List (List Int)} (hs : Sg l) {s a n : Int} (h : hasW l s a n = true) : 0 ≤ a ∧ 0 ≤ n ∧ a + n ≤ 17592186044416 := by
  obtain ⟨h1, h2, h3, h4, h5, _, h6⟩ := hasW_in h
  have := hs.b _ (List.getElem_mem h5)
  omega
theorem word_spec' {l : List (List Int)} (hs : Sg l) {r : Rf} (hr : RfOk l r) (i : Int) : G.Spec Try.prog 63 [paX l r, iv i] (uv (wordAt l r i)) := by
  refine spec_of t_reader_Ref_Word (by simp) fun w0 I0 => ?_
  unfold c_reader_Ref_Word
  simp
  refine sc_call_gf rfl (fun _ => refWords_spec' l r) (fun e => by simp [e]) (by simp) ?_
  by_cases hi : i < 0 ∨ nwR r ≤ i
  · have hd : (decide (i < 0) || decide (nwR r ≤ i)) = true := by simpa using hi
    simp [hd]
    exact frz_is rfl (by simp [wordAt, hi])
  · have hd : (decide (i < 0) || decide (nwR r ≤ i)) = false := by simpa using hi
    simp [hd]
    have e : wordAt l r i = if r.kind = 10 then r.n else (word l r.s (r.at_ + i)).getD 0 := by rw [wordAt, if_neg hi]
    by_cases h10 : r.kind = 10
    · simp [h10]
      exact frz_is rfl (by rw [e, if_pos h10])
    · have h1 : r.kind = 1 := by
        cases hr <;> simp [nwR, Rf.zero] at hi h10 ⊢ <;> omega
      simp [h10]
      rw [e, if_neg h10, arO_nz (by omega)]
      have hb : IntKind.i64.wrap (r.at_ + i) = r.at_ + i := by
        cases hr with
        | str s a d k a1 a2 a3 a4 h =>
          have := hasW_bound hs h
          simp [nwR] at hi ⊢
          exact i64_same (by omega) (by omega)
        | _ => simp [Rf.zero] at h1 <;> omega
      rw [hb]
      refine sc_call (get_spec l hs.b r.s (r.at_ + i)) rfl ?_
      simp
      exact frz_bare rfl
theorem comp_spec {l : List (List Int)} (hs : Sg l) (s a n : Int) (ha : 0 ≤ a) (ha1 : a ≤ 17592186044416) : G.Spec Try.prog 104 [.agg [arn l, iv 0, iv s, iv a, iv 0, iv 0, iv 0, uv 0], iv n] (.tup [paX l (compP l s a n).1, iv (compP l s a n).2]) := by
  have h0 : 0 ≤ (word l s a).getD 0 ∧ (word l s a).getD 0 < 18446744073709551616 := by
    cases e : word l s a with
    | none => simp
    | some x => exact word_in hs.w e
  refine spec_of t_reader_Ref_composite (by simp) fun w0 I0 => ?_
  unfold c_reader_Ref_composite
  simp
  refine sc_call (get_spec l hs.b s a) rfl ?_
  simp
  unfold compP
  generalize (word l s a).getD 0 = w at h0
  refine sc_call (Decode_spec h0.1 h0.2) rfl ?_
  have hsh := dec_shp h0.1 h0.2
  have ho := dec_off h0.1 h0.2
  have hdp : 0 ≤ (dec w).data ∧ (dec w).data < 65536 ∧ 0 ≤ (dec w).ptrs ∧ (dec w).ptrs < 65536 := by
    unfold dec
    repeat' split
    all_goals simp
    all_goals omega
  generalize dec w = p at hsh ho hdp
  have hb : -70368744177664 ≤ p.off * (p.data + p.ptrs) ∧ p.off * (p.data + p.ptrs) ≤ 70368744177664 := by
    have b1 : p.off * (p.data + p.ptrs) ≤ 536870912 * (p.data + p.ptrs) := Int.mul_le_mul_of_nonneg_right (by omega) (by omega)
    have b2 : -536870912 * (p.data + p.ptrs) ≤ p.off * (p.data + p.ptrs) := Int.mul_le_mul_of_nonneg_right (by omega) (by omega)
    omega
  have e1 : IntKind.i64.wrap (p.data + p.ptrs) = p.data + p.ptrs := i64_same (by omega) (by omega)
  have e2 : IntKind.i64.wrap (p.off * (p.data + p.ptrs)) = p.off * (p.data + p.ptrs) := i64_same (by omega) (by omega)
  have e3 : IntKind.i64.wrap (a + 1) = a + 1 := i64_same (by omega) (by omega)
  by_cases hc : (w ≠ 0 ∧ p.kind ≠ 1) ∨ p.off < 0 ∨ n < p.off * (p.data + p.ptrs)
  · have hd : (((!decide (w = 0) && !decide (p.kind = 1)) || decide (p.off < 0)) || decide (n < p.off * (p.data + p.ptrs))) = true := by simp; omega
    rw [if_pos hc]
    simp [e1, e2, hd]
    exact frz_is (tup_bare (by simp)) (by simp [Rf.zero, arO])
  · have hd : (((!decide (w = 0) && !decide (p.kind = 1)) || decide (p.off < 0)) || decide (n < p.off * (p.data + p.ptrs))) = false := by simp; omega
    rw [if_neg hc]
    simp [e1, e2, e3, hd]
    exact frz_is (tup_bare (by simp)) (by simp [arO])
theorem at_spec {l : List (List Int)} (hs : Sg l) (s a : Int) : G.Spec Try.prog 72 [arn l, iv s, iv a] (.tup [paX l (atP l s a).1, iv (atP l s a).2]) := by
  have hf := follow_folw hs.w s a
  refine spec_of t_reader_At (by simp) fun w0 I0 => ?_
  unfold c_reader_At
  simp
  refine sc_call (follow_spec l hs.b hs.w s a) rfl ?_
  unfold atP
  generalize followP l s a = x at hf
  obtain ⟨x, e⟩ := x
  unfold Folw at hf
  simp only at hf ⊢
  by_cases hc : e ≠ 0 ∨ x.p.kind = 0
  · have hd : (!decide (e = 0) || decide (x.p.kind = 0)) = true := by simp; omega
    simp [hd, hc]
    exact frz_is (tup_bare (by simp)) (by simp [Rf.zero, arO])
  · have hd : (!decide (e = 0) || decide (x.p.kind = 0)) = false := by simp; omega
    have he : e = 0 := by omega
    obtain h0 | ⟨hk, hsh, hw⟩ := hf he
    · omega
    have hbd := hasW_bound hs hw
    rw [if_neg hc]
    simp [hd]
    unfold refP
    by_cases k1 : x.p.kind = 1
    · simp [k1]
      exact frz_is (tup_bare (by simp)) (by simp [arO])
    · have k2 : x.p.kind = 2 := by omega
      obtain ⟨c0, c1, _, _⟩ := hsh.k2 k2
      by_cases c6 : x.p.code < 6
      · have e2 : IntKind.i64.wrap (2 + x.p.code) = 2 + x.p.code := i64_same (by omega) (by omega)
        have c7 : x.p.code < 7 := by omega
        have nz : ¬ (2 + x.p.code = 0) := by omega
        simp [k1, c6, c7, e2]
        exact ⟨frz_is (tup_bare (by simp)) (by simp [arO, nz]), fun h => absurd h (by omega)⟩
      · by_cases c6' : x.p.code = 6
        · simp [k1, c6']
          exact frz_is (tup_bare (by simp)) (by simp [arO])
        · have c7 : ¬ x.p.code < 7 := by omega
          simp [k1, c6, c6', c7]
          intro _
          refine sc_call (comp_spec hs x.s x.at_ x.p.count hbd.1 (by omega)) rfl ?_
          simp
          exact frz_bare (tup_bare (by simp))
theorem root_spec {l : List (List Int)} (hs : Sg l) : G.Spec Try.prog 38 [arn l] (.tup [paX l (atP l 0 0).1, iv (atP l 0 0).2]) := by
  refine spec_of t_reader_Root (by simp) fun w0 I0 => ?_
  unfold c_reader_Root
  simp
  refine sc_call (at_spec hs 0 0) rfl ?_
  simp
  exact frz_bare (tup_bare (by simp))
end Go.Proofs.Ytigdcnlhgelkaaa
