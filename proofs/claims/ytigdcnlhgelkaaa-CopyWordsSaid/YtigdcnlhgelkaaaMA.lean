/-
  Several texts, merged: D09a, D09b, D09c, D15a, D10a, D10b, D10c, D10d, D15b, D15c, D15d, D15e, DL15.
-/
import Derived.Test.YtigdcnlhgelkaaaD06c
import Derived.Test.YtigdcnlhgelkaaaP07
import Derived.Test.YtigdcnlhgelkaaaD01a
import Derived.Test.YtigdcnlhgelkaaaD07w
import Derived.Test.YtigdcnlhgelkaaaGFns9
import Derived.Test.YtigdcnlhgelkaaaGCall3
import Derived.Test.YtigdcnlhgelkaaaGFnsH
import Derived.Test.YtigdcnlhgelkaaaD07c
import Derived.Test.YtigdcnlhgelkaaaGOpen
/-
  Chapters 9 and 10, plain: values where they lie, and what they mean.
-/
namespace Go.Proofs.Ytigdcnlhgelkaaa
set_option linter.unusedVariables false
set_option linter.unusedSimpArgs false
open Go Go.G Go.Proofs Go.PL

/-- A value where it lies. -/
structure Rf where
  kind : Int
  s : Int
  at_ : Int
  data : Int
  kids : Int
  count : Int
  n : Int
def Rf.zero : Rf := ⟨0, 0, 0, 0, 0, 0, 0⟩
def nk (r : Rf) : Int := if r.kind = 1 then r.kids else r.count
def compP (l : List (List Int)) (s a m : Int) : Rf × Int :=
  if ((word l s a).getD 0 ≠ 0 ∧ (dec ((word l s a).getD 0)).kind ≠ 1) ∨ (dec ((word l s a).getD 0)).off < 0 ∨ m < (dec ((word l s a).getD 0)).off * ((dec ((word l s a).getD 0)).data + (dec ((word l s a).getD 0)).ptrs) then (Rf.zero, 8)
  else (⟨9, s, a + 1, (dec ((word l s a).getD 0)).data, (dec ((word l s a).getD 0)).ptrs, (dec ((word l s a).getD 0)).off, 0⟩, 0)
/-- What a shape at a place is. -/
def refP (l : List (List Int)) (x : Lc) : Rf × Int :=
  if x.p.kind = 1 then (⟨1, x.s, x.at_, x.p.data, x.p.ptrs, 0, 0⟩, 0)
  else if x.p.code < 7 then (⟨2 + x.p.code, x.s, x.at_, 0, 0, x.p.count, 0⟩, 0)
  else compP l x.s x.at_ x.p.count
def atP (l : List (List Int)) (s a : Int) : Rf × Int :=
  if (followP l s a).2 ≠ 0 ∨ (followP l s a).1.p.kind = 0 then (Rf.zero, (followP l s a).2) else refP l (followP l s a).1
def getZ (g : List Int) (c i : Int) : Int :=
  if widthZ c < 1 ∨ i < 0 ∨ 1099511627776 < i then 0 else ((g[(i * widthZ c / 64).toNat]?).getD 0) / 2 ^ (i * widthZ c % 64).toNat % 2 ^ (widthZ c).toNat
def atomZ (l : List (List Int)) (r : Rf) (i : Int) : Int := getZ (((seg l r.s).getD []).drop r.at_.toNat) (r.kind - 2) i
def kidP (l : List (List Int)) (r : Rf) (i : Int) : Rf × Int :=
  if i < 0 ∨ nk r ≤ i then (Rf.zero, 0)
  else if r.kind = 1 then atP l r.s (r.at_ + r.data + i)
  else if r.kind = 8 then atP l r.s (r.at_ + i)
  else if r.kind = 9 then (⟨1, r.s, r.at_ + i * (r.data + r.kids), r.data, r.kids, 0, 0⟩, 0)
  else (⟨10, 0, 0, 0, 0, 0, atomZ l r i⟩, 0)
def wordsR (l : List (List Int)) (r : Rf) : List Int := if r.kind = 10 then [r.n] else if r.kind ≠ 1 then [] else part l r.s r.at_ r.data

/-- It lies in its segment. -/
inductive RfOk (l : List (List Int)) : Rf → Prop
  | zero : RfOk l Rf.zero
  | str (s a d k : Int) : 0 ≤ d → d < 65536 → 0 ≤ k → k < 65536 → hasW l s a (d + k) = true → RfOk l ⟨1, s, a, d, k, 0, 0⟩
  | dat (c s a n : Int) : 0 ≤ c → c < 6 → 0 ≤ n → n < 536870912 → hasW l s a ((n * bitsOf c + 63) / 64) = true → RfOk l ⟨2 + c, s, a, 0, 0, n, 0⟩
  | ptrs (s a n : Int) : 0 ≤ n → n < 536870912 → hasW l s a n = true → RfOk l ⟨8, s, a, 0, 0, n, 0⟩
  | comp (s a d k n : Int) : 0 ≤ d → d < 65536 → 0 ≤ k → k < 65536 → 0 ≤ n → n < 536870912 → hasW l s a (n * (d + k)) = true → RfOk l ⟨9, s, a, d, k, n, 0⟩
  | atom (n : Int) : 0 ≤ n → n < 18446744073709551616 → RfOk l ⟨10, 0, 0, 0, 0, 0, n⟩

/-! ### what is followed lies in its segment -/
structure Shp (p : Pt) : Prop where
  k1 : p.kind = 1 → 0 ≤ p.data ∧ p.data < 65536 ∧ 0 ≤ p.ptrs ∧ p.ptrs < 65536
  k2 : p.kind = 2 → 0 ≤ p.code ∧ p.code < 8 ∧ 0 ≤ p.count ∧ p.count < 536870912
  k : p.kind = 0 ∨ p.kind = 1 ∨ p.kind = 2 ∨ p.kind = 3 ∨ p.kind = 4
theorem dec_shp {w : Int} (h0 : 0 ≤ w) (h1 : w < 18446744073709551616) : Shp (dec w) := by
  unfold dec
  repeat' split
  all_goals refine ⟨?_, ?_, ?_⟩
  all_goals simp
  all_goals omega
def Folw (l : List (List Int)) (x : Lc × Int) : Prop := x.2 = 0 → x.1.p.kind = 0 ∨ ((x.1.p.kind = 1 ∨ x.1.p.kind = 2) ∧ Shp x.1.p ∧ hasW l x.1.s x.1.at_ ((wordsP x.1.p).getD 0) = true)
theorem inside_folw {l : List (List Int)} {x : Lc} (h : x.p.kind = 1 ∨ x.p.kind = 2) (hs : Shp x.p) : Folw l (insideP l x) := by
  unfold insideP
  split
  · rename_i hh
    intro _
    exact .inr ⟨h, ⟨hs.k1, hs.k2, hs.k⟩, hh⟩
  · intro h; cases h
theorem near_folw {l : List (List Int)} {p : Pt} {s a : Int} (hs : Shp p) : Folw l (nearP l p s a) := by
  unfold nearP
  split
  · exact inside_folw (by assumption) hs
  · split <;> (intro h; cases h)
theorem double_folw {l : List (List Int)} (hw : Wds l) (s a : Int) : Folw l (doubleP l s a) := by
  unfold doubleP
  split
  · rename_i v w h1 h2
    obtain ⟨a1, a2⟩ := word_in hw h2
    have hs := dec_shp a1 a2
    repeat' split
    all_goals first
      | (intro h; cases h; done)
      | skip
    refine inside_folw ?_ hs
    simp only
    omega
  · intro h; cases h
theorem follow_folw {l : List (List Int)} (hw : Wds l) (s a : Int) : Folw l (followP l s a) := by
  unfold followP
  split
  · intro h; cases h
  · rename_i w h1
    obtain ⟨a1, a2⟩ := word_in hw h1
    split
    · intro _; exact .inl rfl
    · split
      · exact near_folw (dec_shp a1 a2)
      · split
        · exact double_folw hw _ _
        · split
          · intro h; cases h
          · rename_i v h2
            obtain ⟨b1, b2⟩ := word_in hw h2
            exact near_folw (dec_shp b1 b2)

theorem wordsP_str {p : Pt} (h : p.kind = 1) : wordsP p = some (p.data + p.ptrs) := by simp [wordsP, h]
theorem wordsP_dat {p : Pt} (h : p.kind = 2) (hs : Shp p) (h6 : p.code < 7) : wordsP p = some ((p.count * bitsOf p.code + 63) / 64) := by
  obtain ⟨a, b, c, d⟩ := hs.k2 h
  rw [wordsP, if_neg (by omega), if_neg (by omega), if_pos (by omega)]
theorem wordsP_comp {p : Pt} (h : p.kind = 2) (h7 : p.code = 7) : wordsP p = some (p.count + 1) := by simp [wordsP, h, h7]
theorem mul_le_of {a b c : Int} (h : a ≤ b) (hc : 0 ≤ c) : a * c ≤ b * c := Int.mul_le_mul_of_nonneg_right h hc
theorem hasW_sub {l : List (List Int)} {s a n b m : Int} (h : hasW l s a n = true) (h1 : a ≤ b) (h2 : 0 ≤ m) (h3 : b + m ≤ a + n) : hasW l s b m = true := by
  simp only [hasW, decide_eq_true_eq] at h ⊢
  omega
theorem dec_off' {w : Int} (h0 : 0 ≤ w) (h1 : w < 18446744073709551616) : (dec w).off < 536870912 := by
  have := (offs_in w).2.1
  unfold dec
  repeat' split
  all_goals simp
  all_goals omega
theorem comp_ok {l : List (List Int)} (hw : Wds l) {s a m : Int} (h : hasW l s a (m + 1) = true) : RfOk l (compP l s a m).1 := by
  unfold compP
  have h0 : 0 ≤ (word l s a).getD 0 ∧ (word l s a).getD 0 < 18446744073709551616 := by
    cases e : word l s a with
    | none => simp
    | some x => exact word_in hw e
  generalize (word l s a).getD 0 = w at h0
  have hs := dec_shp h0.1 h0.2
  have ho := dec_off h0.1 h0.2
  have ho' := dec_off' h0.1 h0.2
  split
  · exact .zero
  · rename_i hc
    have hk : (dec w).kind = 1 ∨ dec w = Pt.zero := by
      by_cases hw0 : w = 0
      · subst hw0; exact .inr rfl
      · left; omega
    have hd : 0 ≤ (dec w).data ∧ (dec w).data < 65536 ∧ 0 ≤ (dec w).ptrs ∧ (dec w).ptrs < 65536 := by
      rcases hk with hk | hk
      · exact hs.k1 hk
      · rw [hk]; decide
    refine .comp _ _ _ _ _ hd.1 hd.2.1 hd.2.2.1 hd.2.2.2 (by omega) (by omega) (hasW_sub h (by omega) ?_ (by omega))
    exact Int.mul_nonneg (by omega) (by omega)
theorem ref_ok {l : List (List Int)} (hw : Wds l) {x : Lc} (hk : x.p.kind = 1 ∨ x.p.kind = 2) (hs : Shp x.p) (h : hasW l x.s x.at_ ((wordsP x.p).getD 0) = true) : RfOk l (refP l x).1 := by
  unfold refP
  split
  · rename_i k1
    obtain ⟨a, b, c, d⟩ := hs.k1 k1
    rw [wordsP_str k1] at h
    exact .str _ _ _ _ a b c d h
  · rename_i k1
    have k2 : x.p.kind = 2 := by omega
    obtain ⟨a, b, c, d⟩ := hs.k2 k2
    split
    · rename_i h7
      rw [wordsP_dat k2 hs h7] at h
      by_cases h6 : x.p.code = 6
      · rw [h6] at h ⊢
        refine .ptrs _ _ _ c d (hasW_sub h (Int.le_refl _) c ?_)
        have e : bitsOf 6 = 64 := by decide
        simp only [Option.getD_some, e]
        omega
      · exact .dat _ _ _ _ a (by omega) c d h
    · rw [wordsP_comp k2 (by omega)] at h
      exact comp_ok hw h
theorem at_ok {l : List (List Int)} (hw : Wds l) (s a : Int) : RfOk l (atP l s a).1 := by
  unfold atP
  split
  · exact .zero
  · rename_i h
    rcases follow_folw hw s a (by omega) with h0 | ⟨h1, h2, h3⟩
    · omega
    · exact ref_ok hw h1 h2 h3
theorem getZ_range {g : List Int} {c i : Int} (hg : ∀ x, x ∈ g → 0 ≤ x ∧ x < 18446744073709551616) : 0 ≤ getZ g c i ∧ getZ g c i < 18446744073709551616 := by
  unfold getZ
  split
  · omega
  · have h0 : 0 ≤ (g[(i * widthZ c / 64).toNat]?).getD 0 ∧ (g[(i * widthZ c / 64).toNat]?).getD 0 < 18446744073709551616 := by
      cases e : g[(i * widthZ c / 64).toNat]? with
      | none => simp
      | some x => exact hg x (List.mem_of_getElem? e)
    generalize (g[(i * widthZ c / 64).toNat]?).getD 0 = x at h0
    have p1 : (0 : Int) < 2 ^ (i * widthZ c % 64).toNat := Int.pow_pos (by omega)
    have p2 : (0 : Int) < 2 ^ (widthZ c).toNat := Int.pow_pos (by omega)
    have d0 : 0 ≤ x / 2 ^ (i * widthZ c % 64).toNat := Int.ediv_nonneg h0.1 (by omega)
    have d1 : x / 2 ^ (i * widthZ c % 64).toNat ≤ x := Int.ediv_le_self _ h0.1
    have m0 := Int.emod_nonneg (x / 2 ^ (i * widthZ c % 64).toNat) (by omega : (2 : Int) ^ (widthZ c).toNat ≠ 0)
    have m1 : x / 2 ^ (i * widthZ c % 64).toNat % 2 ^ (widthZ c).toNat ≤ x / 2 ^ (i * widthZ c % 64).toNat := by
      rw [Int.emod_def]
      have := Int.mul_nonneg (a := 2 ^ (widthZ c).toNat) (b := x / 2 ^ (i * widthZ c % 64).toNat / 2 ^ (widthZ c).toNat) (by omega) (Int.ediv_nonneg d0 (by omega))
      omega
    omega
theorem kid_ok {l : List (List Int)} (hw : Wds l) {r : Rf} (hr : RfOk l r) (i : Int) : RfOk l (kidP l r i).1 := by
  unfold kidP
  split
  · exact .zero
  · rename_i hi
    cases hr with
    | zero => simp [nk, Rf.zero] at hi; omega
    | str s a d k a1 a2 a3 a4 h => simp; exact at_ok hw _ _
    | dat c s a n a1 a2 a3 a4 h =>
      simp
      rw [if_neg (by omega), if_neg (by omega), if_neg (by omega)]
      have := getZ_range (g := ((seg l s).getD []).drop a.toNat) (c := 2 + c - 2) (i := i) (fun x hx => by
        cases e : seg l s with
        | none => rw [e] at hx; simp at hx
        | some g =>
          rw [e] at hx
          obtain ⟨_, _, k1, rfl⟩ := seg_some e
          exact hw _ (List.getElem_mem k1) _ (List.mem_of_mem_drop hx))
      exact .atom _ this.1 this.2
    | ptrs s a n a1 a2 h => simp; exact at_ok hw _ _
    | comp s a d k n a1 a2 a3 a4 a5 a6 h =>
      simp [nk] at hi ⊢
      refine .str _ _ _ _ a1 a2 a3 a4 (hasW_sub h ?_ (by omega) ?_)
      · have := Int.mul_nonneg (by omega : 0 ≤ i) (by omega : 0 ≤ d + k)
        omega
      · have h1 : (i + 1) * (d + k) ≤ n * (d + k) := mul_le_of (by omega) (by omega)
        rw [Int.add_mul] at h1
        omega
    | atom n a1 a2 => simp [nk] at hi; omega

/-! ### what it means -/
inductive Means (l : List (List Int)) : Rf → T → Prop
  | mk (r : Rf) (t : T) : RfOk l r → r.kind = t.kind → wordsR l r = t.words → nk r = t.kids.length → (∀ (i : Nat) (h : i < t.kids.length), (kidP l r i).2 = 0) → (∀ (i : Nat) (h : i < t.kids.length), Means l (kidP l r i).1 t.kids[i]) → Means l r t

/-- Kids, one behind the other; what may be weighed still; an error. -/
def loopM (f : Nat → Int → T × Int × Int) : Nat → Nat → List T → Int → List T × Int × Int
  | 0, _, acc, left => (acc, left, 0)
  | m + 1, i, acc, left => if (f i left).2.2 ≠ 0 then (acc, (f i left).2.1, (f i left).2.2) else loopM f m (i + 1) (acc ++ [(f i left).1]) (f i left).2.1
def costM (r : Rf) : Int := if r.kind = 1 then 1 + r.data + r.kids else if r.kind = 9 then 1 + r.count * (1 + r.data + r.kids) else 1 + nk r
def stepM (l : List (List Int)) (rec : Rf → Int → T × Int × Int) (r : Rf) (i : Nat) (left : Int) : T × Int × Int :=
  if (kidP l r i).2 ≠ 0 then (T0, left, (kidP l r i).2) else rec (kidP l r i).1 left
def kidsM (l : List (List Int)) (rec : Rf → Int → T × Int × Int) (r : Rf) (left : Int) : T × Int × Int :=
  (.mk 1 (wordsR l r) (loopM (stepM l rec r) r.kids.toNat 0 [] left).1, (loopM (stepM l rec r) r.kids.toNat 0 [] left).2.1, (loopM (stepM l rec r) r.kids.toNat 0 [] left).2.2)
def leafM (l : List (List Int)) (r : Rf) (left : Int) : T × Int × Int := (.mk r.kind (wordsR l r) [], left, 0)
def restM (l : List (List Int)) (r : Rf) (rec1 rec2 : Rf → Int → T × Int × Int) (left : Int) : T × Int × Int :=
  (.mk r.kind (wordsR l r) (loopM (stepM l (if r.kind = 9 then kidsM l rec2 else if r.kind = 1 ∨ r.kind = 8 then rec1 else leafM l) r) (nk r).toNat 0 [] (left - costM r)).1,
    (loopM (stepM l (if r.kind = 9 then kidsM l rec2 else if r.kind = 1 ∨ r.kind = 8 then rec1 else leafM l) r) (nk r).toNat 0 [] (left - costM r)).2.1,
    (loopM (stepM l (if r.kind = 9 then kidsM l rec2 else if r.kind = 1 ∨ r.kind = 8 then rec1 else leafM l) r) (nk r).toNat 0 [] (left - costM r)).2.2)
def stopM (l : List (List Int)) (r : Rf) (left : Int) : T × Int × Int := (.mk r.kind (wordsR l r) [], left, 3)
def meaning (l : List (List Int)) : Nat → Rf → Int → T × Int × Int
  | 0, r, left => if r.kind = 0 then leafM l r left else stopM l r left
  | 1, r, left => if r.kind = 0 then leafM l r left else if r.kind = 9 ∧ 0 < r.count then stopM l r left else if left < costM r then stopM l r left
    else restM l r (meaning l 0) (fun r left => stopM l r left) left
  | d + 2, r, left => if r.kind = 0 then leafM l r left else if left < costM r then stopM l r left else restM l r (meaning l (d + 1)) (meaning l d) left

theorem loopM_ok {f : Nat → Int → T × Int × Int} : ∀ {m i : Nat} {acc : List T} {left : Int}, (loopM f m i acc left).2.2 = 0 → ∃ ks : List T, (loopM f m i acc left).1 = acc ++ ks ∧ ks.length = m ∧ ∀ (j : Nat) (h : j < ks.length), ∃ lf, (f (i + j) lf).2.2 = 0 ∧ (f (i + j) lf).1 = ks[j]
  | 0, i, acc, left, h => ⟨[], by simp [loopM], rfl, fun j h => by simp at h⟩
  | m + 1, i, acc, left, h => by
    rw [loopM] at h ⊢
    by_cases h0 : (f i left).2.2 ≠ 0
    · rw [if_pos h0] at h; exact absurd h h0
    · rw [if_neg h0] at h ⊢
      obtain ⟨ks, e1, e2, e3⟩ := loopM_ok h
      refine ⟨(f i left).1 :: ks, by rw [e1]; simp, by simp [e2], fun j hj => ?_⟩
      cases j with
      | zero => exact ⟨left, by simpa using h0, rfl⟩
      | succ j =>
        obtain ⟨lf, g1, g2⟩ := e3 j (by simpa using hj)
        refine ⟨lf, ?_, ?_⟩
        · rw [show i + (j + 1) = i + 1 + j by omega]; exact g1
        · rw [show i + (j + 1) = i + 1 + j by omega]; simpa using g2
theorem nk_nonneg {l : List (List Int)} {r : Rf} (h : RfOk l r) : 0 ≤ nk r ∧ nk r < 536870912 := by
  cases h <;> simp [nk, Rf.zero] <;> omega
theorem loop_means {l : List (List Int)} (hw : Wds l) {r : Rf} (hr : RfOk l r) {rec : Rf → Int → T × Int × Int} (hrec : ∀ (i : Nat) left, i < nk r → (rec (kidP l r i).1 left).2.2 = 0 → Means l (kidP l r i).1 (rec (kidP l r i).1 left).1) {k : Int} {left : Int} (hk : r.kind = k)
    (h : (loopM (stepM l rec r) (nk r).toNat 0 [] left).2.2 = 0) : Means l r (.mk k (wordsR l r) (loopM (stepM l rec r) (nk r).toNat 0 [] left).1) := by
  obtain ⟨ks, e1, e2, e3⟩ := loopM_ok h
  rw [e1]
  simp only [List.nil_append]
  have hn := nk_nonneg hr
  refine .mk _ _ hr (by simpa using hk) rfl (by simp [e2]; omega) (fun i hi => ?_) (fun i hi => ?_)
  all_goals
    simp only [T.kids_mk] at hi ⊢
    obtain ⟨lf, g1, g2⟩ := e3 i hi
    simp only [Nat.zero_add] at g1 g2
    unfold stepM at g1 g2
    by_cases h0 : (kidP l r i).2 ≠ 0
    · rw [if_pos h0] at g1; exact absurd g1 h0
    · rw [if_neg h0] at g1 g2
      first
        | (simpa using h0)
        | (rw [← g2]; exact hrec i _ (by omega) g1)
theorem leaf_means {l : List (List Int)} {r : Rf} (hr : RfOk l r) (h : r.kind = 0 ∨ r.kind = 10) {left : Int} : Means l r (leafM l r left).1 := by
  refine .mk _ _ hr rfl rfl ?_ (fun i hi => by simp [leafM] at hi) (fun i hi => by simp [leafM] at hi)
  cases hr <;> simp [leafM, nk, Rf.zero] at h ⊢ <;> omega
theorem kid_data {l : List (List Int)} {r : Rf} (hr : RfOk l r) (h0 : r.kind ≠ 0) (h1 : r.kind ≠ 1) (h8 : r.kind ≠ 8) (h9 : r.kind ≠ 9) (i : Int) : (kidP l r i).1.kind = 0 ∨ (kidP l r i).1.kind = 10 := by
  unfold kidP
  split
  · exact .inl rfl
  · exact .inr rfl
theorem rest_means {l : List (List Int)} (hw : Wds l) {r : Rf} (hr : RfOk l r) {rec1 rec2 : Rf → Int → T × Int × Int} (h1 : ∀ x left, RfOk l x → (rec1 x left).2.2 = 0 → Means l x (rec1 x left).1)
    (h2 : r.kind = 9 → 0 < r.count → ∀ x left, RfOk l x → (rec2 x left).2.2 = 0 → Means l x (rec2 x left).1) {left : Int} (h : (restM l r rec1 rec2 left).2.2 = 0) : Means l r (restM l r rec1 rec2 left).1 := by
  unfold restM at h ⊢
  refine loop_means hw hr (fun i lf hi hq => ?_) rfl h
  have hok := kid_ok hw hr (i : Int)
  by_cases h9 : r.kind = 9
  · simp only [if_pos h9] at hq ⊢
    have hk : nk r = r.count := by simp [nk, h9]
    have hkid : kidP l r i = (⟨1, r.s, r.at_ + i * (r.data + r.kids), r.data, r.kids, 0, 0⟩, 0) := by
      rw [kidP, if_neg (by omega), if_neg (by omega), if_neg (by omega), if_pos h9]
    rw [hkid] at hq hok ⊢
    unfold kidsM at hq ⊢
    exact loop_means hw hok (fun j lf' hj hq' => h2 h9 (by omega) _ _ (kid_ok hw hok _) hq') rfl hq
  · by_cases h18 : r.kind = 1 ∨ r.kind = 8
    · simp only [if_neg h9, if_pos h18] at hq ⊢
      exact h1 _ _ hok hq
    · simp only [if_neg h9, if_neg h18] at hq ⊢
      refine leaf_means hok ?_
      by_cases h0 : r.kind = 0
      · cases hr <;> simp [nk, Rf.zero] at hi h0 <;> omega
      · exact kid_data hr h0 (by omega) (by omega) h9 i
theorem meaning_means {l : List (List Int)} (hw : Wds l) : ∀ (d : Nat) (r : Rf) (left : Int), RfOk l r → (meaning l d r left).2.2 = 0 → Means l r (meaning l d r left).1
  | 0, r, left, hr, h => by
    rw [meaning] at h ⊢
    split at h
    · rename_i h0; rw [if_pos h0]; exact leaf_means hr (.inl h0)
    · exact absurd h (by simp [stopM])
  | 1, r, left, hr, h => by
    rw [meaning] at h ⊢
    split at h
    · rename_i h0; rw [if_pos h0]; exact leaf_means hr (.inl h0)
    · rename_i h0
      split at h
      · exact absurd h (by simp [stopM])
      · rename_i h9
        split at h
        · exact absurd h (by simp [stopM])
        · rename_i hc
          rw [if_neg h0, if_neg h9, if_neg hc]
          exact rest_means hw hr (fun x lf hx hq => meaning_means hw 0 x lf hx hq) (fun k9 hk => absurd ⟨k9, hk⟩ h9) h
  | d + 2, r, left, hr, h => by
    rw [meaning] at h ⊢
    split at h
    · rename_i h0; rw [if_pos h0]; exact leaf_means hr (.inl h0)
    · rename_i h0
      split at h
      · exact absurd h (by simp [stopM])
      · rename_i hc
        rw [if_neg h0, if_neg hc]
        exact rest_means hw hr (fun x lf hx hq => meaning_means hw (d + 1) x lf hx hq) (fun k9 hk x lf hx hq => meaning_means hw d x lf hx hq) h
end Go.Proofs.Ytigdcnlhgelkaaa

/-
  Chapter 9: values are read where they lie, by the program.
-/
namespace Go.Proofs.Ytigdcnlhgelkaaa
set_option linter.unusedVariables false
set_option linter.unusedSimpArgs false
open Go Go.G Go.Proofs Go.PL

/-- Segments that memory can hold. -/
structure Sg (l : List (List Int)) : Prop where
  b : ∀ x, x ∈ l → x.length * 8 ≤ 140737488355328
  w : Wds l
def arO (l : List (List Int)) (r : Rf) : A := if r.kind = 0 then .v (.pointer none) else arn l
@[simp] theorem arO_cells (l : List (List Int)) (r : Rf) : (arO l r).cells = [arO l r] := by unfold arO; split <;> rfl
@[simp] theorem arO_one (l : List (List Int)) (r : Rf) : (arO l r).one = true := by unfold arO; split <;> rfl
@[simp] theorem arO_bare (l : List (List Int)) (r : Rf) : (arO l r).bare = true := by unfold arO; split <;> rfl
@[simp] theorem arO_bare1 (l : List (List Int)) (r : Rf) : (arO l r).bare1 = true := by unfold arO; split <;> rfl
@[simp] theorem arO_bare2 (l : List (List Int)) (r : Rf) : (arO l r).bare2 = true := by unfold arO; split <;> rfl
theorem arO_nz {l : List (List Int)} {r : Rf} (h : r.kind ≠ 0) : arO l r = arn l := if_neg h
abbrev paL (l : List (List Int)) (r : Rf) : List A := [arO l r, iv r.kind, iv r.s, iv r.at_, iv r.data, iv r.kids, iv r.count, uv r.n]
abbrev paX (l : List (List Int)) (r : Rf) : A := .agg (paL l r)
def nwR (r : Rf) : Int := if r.kind = 1 then r.data else if r.kind = 10 then 1 else 0
def wordAt (l : List (List Int)) (r : Rf) (i : Int) : Int := if i < 0 ∨ nwR r ≤ i then 0 else if r.kind = 10 then r.n else (word l r.s (r.at_ + i)).getD 0

/-! ### small numbers -/
theorem u64_shr (x : Int) (k : Int) (h0 : 0 ≤ k) (h1 : k < 64) : x / 2 ^ (min k.toNat IntKind.u64.bits) = x / 2 ^ k.toNat := by
  have : min k.toNat IntKind.u64.bits = k.toNat := by
    have : IntKind.u64.bits = 64 := rfl
    omega
  rw [this]
set_option maxRecDepth 8000 in
theorem wGet_spec {g : List Int} (hg : ∀ x, x ∈ g → 0 ≤ x ∧ x < 18446744073709551616) (hl : g.length * 8 ≤ 140737488355328) (c i : Int) : G.Spec Try.prog 114 [uws g, iv c, iv i] (uv (getZ g c i)) := by
  refine spec_of t_word_Get (by simp) fun w0 I0 => ?_
  unfold c_word_Get
  simp
  refine sc_call (width_spec c) rfl ?_
  have hw := widthZ_cases c
  by_cases h0 : widthZ c < 1 ∨ i < 0 ∨ 1099511627776 < i
  · have e : getZ g c i = 0 := by unfold getZ; rw [if_pos h0]
    rw [e]
    rcases hw with h | h | h | h | h | h | h
    · simp [h]; exact frz_bare rfl
    · simp [h]; exact frz_bare rfl
    all_goals
      by_cases hi : i < 0
      · simp [h, hi]; exact frz_bare rfl
      · have hb : 1099511627776 < i := by omega
        simp [h, hi, hb]; exact frz_bare rfl
  · have hw1 : widthZ c = 1 ∨ widthZ c = 8 ∨ widthZ c = 16 ∨ widthZ c = 32 ∨ widthZ c = 64 := by omega
    have hi0 : 0 ≤ i := by omega
    have hi1 : i ≤ 1099511627776 := by omega
    have e : getZ g c i = ((g[(i * widthZ c / 64).toNat]?).getD 0) / 2 ^ (i * widthZ c % 64).toNat % 2 ^ (widthZ c).toNat := by unfold getZ; rw [if_neg h0]
    rw [e]
    clear e hw
    generalize widthZ c = w at hw1 h0
    have hn : ¬ w < 0 := by omega
    have hn0 : ¬ w = 0 := by omega
    have hp : 0 ≤ w := by omega
    have hneg : ¬ i < 0 := by omega
    have hbig : ¬ 1099511627776 < i := by omega
    have hb : 0 ≤ i * w ∧ i * w ≤ 70368744177664 := by rcases hw1 with rfl | rfl | rfl | rfl | rfl <;> omega
    have e1 : IntKind.i64.wrap (i * w) = i * w := i64_same (by omega) (by omega)
    have e2 : IntKind.i64.wrap ((i * w).tdiv 64) = i * w / 64 := by rw [Int.tdiv_eq_ediv_of_nonneg hb.1, i64_same (by omega) (by omega)]
    have e3 : (i * w).tmod 64 = i * w % 64 := Int.tmod_eq_emod_of_nonneg hb.1
    have hm : 0 ≤ i * w % 64 := by omega
    have hm1 : i * w % 64 < 64 := by omega
    have hd0 : 0 ≤ i * w / 64 := by omega
    by_cases hr : (g.length : Int) ≤ i * w / 64
    · have en : g[(i * w / 64).toNat]? = none := List.getElem?_eq_none (by omega)
      simp [hn, hn0, hp, hneg, hbig, e1, e2, hr, en]
      exact frz_bare rfl
    · have hlt : (i * w / 64).toNat < g.length := by omega
      have hlt' : i * w / 64 < g.length := by omega
      have hx := hg _ (List.getElem_mem hlt)
      simp [hn, hn0, hp, hneg, hbig, e1, e2, e3, hr, hd0, hlt, hlt', hm, u64_shr _ _ hm hm1]
      have hx0 : 0 ≤ g[(i * w / 64).toNat] / 2 ^ (i * w % 64).toNat := Int.ediv_nonneg hx.1 (Int.le_of_lt (Int.pow_pos (by decide)))
      have hx1 : g[(i * w / 64).toNat] / 2 ^ (i * w % 64).toNat < 18446744073709551616 := Int.lt_of_le_of_lt (Int.ediv_le_self _ hx.1) hx.2
      generalize g[(i * w / 64).toNat] / 2 ^ (i * w % 64).toNat = y at hx0 hx1
      refine ⟨fun h => ?_, fun h => ?_⟩
      · refine frz_int ?_
        rw [h]
        exact (Int.emod_eq_of_lt hx0 (by simpa using hx1)).symm
      · refine frz_int ?_
        have em : ∀ k : Nat, k < 64 → IntKind.u64.wrap (IntKind.u64.wrap (2 ^ min k IntKind.u64.bits) - 1) = 2 ^ k - 1 := fun k hk => by
          have h64 : min k IntKind.u64.bits = k := by
            have : IntKind.u64.bits = 64 := rfl
            omega
          have hp : (2 : Int) ^ k ≤ 9223372036854775808 := by
            have h2 := Int.ofNat_le.2 (Nat.pow_le_pow_right (n := 2) (by decide) (by omega : k ≤ 63))
            rw [Int.natCast_pow] at h2
            exact h2
          have hp0 : (0 : Int) < 2 ^ k := Int.pow_pos (by decide)
          rw [h64, u64_same (n := 2 ^ k) (by omega) (by omega), u64_same (by omega) (by omega)]
        rw [em w.toNat (by omega)]
        exact u64_mask w.toNat (by omega) hx0 hx1
theorem wWidth_spec (c : Int) : G.Spec Try.prog 113 [iv c] (.tup [iv (if widthZ c < 0 then 0 else widthZ c), bv (decide (0 ≤ widthZ c))]) := by
  refine spec_of t_word_Width (by simp) fun w0 I0 => ?_
  unfold c_word_Width
  simp
  refine sc_call (width_spec c) rfl ?_
  simp
  exact frz_bare rfl
theorem tup_bare {cs : List A} {x : Value} (h : cs.all A.bare2 = true) : (A.tup [.agg cs, .v x]).bare = true := by
  simp only [A.bare, List.all_cons, List.all_nil, Bool.and_true]
  rw [h]; rfl

/-! ### a value -/
theorem refKind_spec (l : List (List Int)) (r : Rf) : G.Spec Try.prog 60 [paX l r] (iv r.kind) := by
  refine spec_of t_reader_Ref_Kind (by simp) fun w0 I0 => ?_
  unfold c_reader_Ref_Kind
  simp
  exact frz_bare rfl
theorem refWords_spec' (l : List (List Int)) (r : Rf) : G.Spec Try.prog 78 [paX l r] (iv (nwR r)) := by
  refine spec_of t_reader_Ref_Words (by simp) fun w0 I0 => ?_
  unfold c_reader_Ref_Words
  by_cases h1 : r.kind = 1
  · simp [h1]; exact frz_is rfl (by simp [nwR, h1])
  · by_cases h10 : r.kind = 10
    · simp [h10]; exact frz_is rfl (by simp [nwR, h10])
    · simp [h1, h10]; exact frz_is rfl (by simp [nwR, h1, h10])
theorem refKids_spec' (l : List (List Int)) (r : Rf) : G.Spec Try.prog 71 [paX l r] (iv (nk r)) := by
  refine spec_of t_reader_Ref_Kids (by simp) fun w0 I0 => ?_
  unfold c_reader_Ref_Kids
  by_cases h1 : r.kind = 1
  · simp [h1]; exact frz_is rfl (by simp [nk, h1])
  · simp [h1]; exact frz_is rfl (by simp [nk, h1])
theorem hasW_bound {l : List (List Int)} (hs : Sg l) {s a n : Int} (h : hasW l s a n = true) : 0 ≤ a ∧ 0 ≤ n ∧ a + n ≤ 17592186044416 := by
  obtain ⟨h1, h2, h3, h4, h5, _, h6⟩ := hasW_in h
  have := hs.b _ (List.getElem_mem h5)
  omega
theorem word_spec' {l : List (List Int)} (hs : Sg l) {r : Rf} (hr : RfOk l r) (i : Int) : G.Spec Try.prog 63 [paX l r, iv i] (uv (wordAt l r i)) := by
  refine spec_of t_reader_Ref_Word (by simp) fun w0 I0 => ?_
  unfold c_reader_Ref_Word
  simp
  refine sc_call_gf rfl (fun _ => refWords_spec' l r) (fun e => by simp [e]) (by simp) ?_
  by_cases hi : i < 0 ∨ nwR r ≤ i
  · have hd : (decide (i < 0) || decide (nwR r ≤ i)) = true := by simpa using hi
    simp [hd]
    exact frz_is rfl (by simp [wordAt, hi])
  · have hd : (decide (i < 0) || decide (nwR r ≤ i)) = false := by simpa using hi
    simp [hd]
    have e : wordAt l r i = if r.kind = 10 then r.n else (word l r.s (r.at_ + i)).getD 0 := by rw [wordAt, if_neg hi]
    by_cases h10 : r.kind = 10
    · simp [h10]
      exact frz_is rfl (by rw [e, if_pos h10])
    · have h1 : r.kind = 1 := by
        cases hr <;> simp [nwR, Rf.zero] at hi h10 ⊢ <;> omega
      simp [h10]
      rw [e, if_neg h10, arO_nz (by omega)]
      have hb : IntKind.i64.wrap (r.at_ + i) = r.at_ + i := by
        cases hr with
        | str s a d k a1 a2 a3 a4 h =>
          have := hasW_bound hs h
          simp [nwR] at hi ⊢
          exact i64_same (by omega) (by omega)
        | _ => simp [Rf.zero] at h1 <;> omega
      rw [hb]
      refine sc_call (get_spec l hs.b r.s (r.at_ + i)) rfl ?_
      simp
      exact frz_bare rfl
theorem comp_spec {l : List (List Int)} (hs : Sg l) (s a n : Int) (ha : 0 ≤ a) (ha1 : a ≤ 17592186044416) : G.Spec Try.prog 104 [.agg [arn l, iv 0, iv s, iv a, iv 0, iv 0, iv 0, uv 0], iv n] (.tup [paX l (compP l s a n).1, iv (compP l s a n).2]) := by
  have h0 : 0 ≤ (word l s a).getD 0 ∧ (word l s a).getD 0 < 18446744073709551616 := by
    cases e : word l s a with
    | none => simp
    | some x => exact word_in hs.w e
  refine spec_of t_reader_Ref_composite (by simp) fun w0 I0 => ?_
  unfold c_reader_Ref_composite
  simp
  refine sc_call (get_spec l hs.b s a) rfl ?_
  simp
  unfold compP
  generalize (word l s a).getD 0 = w at h0
  refine sc_call (Decode_spec h0.1 h0.2) rfl ?_
  have hsh := dec_shp h0.1 h0.2
  have ho := dec_off h0.1 h0.2
  have hdp : 0 ≤ (dec w).data ∧ (dec w).data < 65536 ∧ 0 ≤ (dec w).ptrs ∧ (dec w).ptrs < 65536 := by
    unfold dec
    repeat' split
    all_goals simp
    all_goals omega
  generalize dec w = p at hsh ho hdp
  have hb : -70368744177664 ≤ p.off * (p.data + p.ptrs) ∧ p.off * (p.data + p.ptrs) ≤ 70368744177664 := by
    have b1 : p.off * (p.data + p.ptrs) ≤ 536870912 * (p.data + p.ptrs) := Int.mul_le_mul_of_nonneg_right (by omega) (by omega)
    have b2 : -536870912 * (p.data + p.ptrs) ≤ p.off * (p.data + p.ptrs) := Int.mul_le_mul_of_nonneg_right (by omega) (by omega)
    omega
  have e1 : IntKind.i64.wrap (p.data + p.ptrs) = p.data + p.ptrs := i64_same (by omega) (by omega)
  have e2 : IntKind.i64.wrap (p.off * (p.data + p.ptrs)) = p.off * (p.data + p.ptrs) := i64_same (by omega) (by omega)
  have e3 : IntKind.i64.wrap (a + 1) = a + 1 := i64_same (by omega) (by omega)
  by_cases hc : (w ≠ 0 ∧ p.kind ≠ 1) ∨ p.off < 0 ∨ n < p.off * (p.data + p.ptrs)
  · have hd : (((!decide (w = 0) && !decide (p.kind = 1)) || decide (p.off < 0)) || decide (n < p.off * (p.data + p.ptrs))) = true := by simp; omega
    rw [if_pos hc]
    simp [e1, e2, hd]
    exact frz_is (tup_bare (by simp)) (by simp [Rf.zero, arO])
  · have hd : (((!decide (w = 0) && !decide (p.kind = 1)) || decide (p.off < 0)) || decide (n < p.off * (p.data + p.ptrs))) = false := by simp; omega
    rw [if_neg hc]
    simp [e1, e2, e3, hd]
    exact frz_is (tup_bare (by simp)) (by simp [arO])
theorem at_spec {l : List (List Int)} (hs : Sg l) (s a : Int) : G.Spec Try.prog 72 [arn l, iv s, iv a] (.tup [paX l (atP l s a).1, iv (atP l s a).2]) := by
  have hf := follow_folw hs.w s a
  refine spec_of t_reader_At (by simp) fun w0 I0 => ?_
  unfold c_reader_At
  simp
  refine sc_call (follow_spec l hs.b hs.w s a) rfl ?_
  unfold atP
  generalize followP l s a = x at hf
  obtain ⟨x, e⟩ := x
  unfold Folw at hf
  simp only at hf ⊢
  by_cases hc : e ≠ 0 ∨ x.p.kind = 0
  · have hd : (!decide (e = 0) || decide (x.p.kind = 0)) = true := by simp; omega
    simp [hd, hc]
    exact frz_is (tup_bare (by simp)) (by simp [Rf.zero, arO])
  · have hd : (!decide (e = 0) || decide (x.p.kind = 0)) = false := by simp; omega
    have he : e = 0 := by omega
    obtain h0 | ⟨hk, hsh, hw⟩ := hf he
    · omega
    have hbd := hasW_bound hs hw
    rw [if_neg hc]
    simp [hd]
    unfold refP
    by_cases k1 : x.p.kind = 1
    · simp [k1]
      exact frz_is (tup_bare (by simp)) (by simp [arO])
    · have k2 : x.p.kind = 2 := by omega
      obtain ⟨c0, c1, _, _⟩ := hsh.k2 k2
      by_cases c6 : x.p.code < 6
      · have e2 : IntKind.i64.wrap (2 + x.p.code) = 2 + x.p.code := i64_same (by omega) (by omega)
        have c7 : x.p.code < 7 := by omega
        have nz : ¬ (2 + x.p.code = 0) := by omega
        simp [k1, c6, c7, e2]
        exact ⟨frz_is (tup_bare (by simp)) (by simp [arO, nz]), fun h => absurd h (by omega)⟩
      · by_cases c6' : x.p.code = 6
        · simp [k1, c6']
          exact frz_is (tup_bare (by simp)) (by simp [arO])
        · have c7 : ¬ x.p.code < 7 := by omega
          simp [k1, c6, c6', c7]
          intro _
          refine sc_call (comp_spec hs x.s x.at_ x.p.count hbd.1 (by omega)) rfl ?_
          simp
          exact frz_bare (tup_bare (by simp))
theorem root_spec {l : List (List Int)} (hs : Sg l) : G.Spec Try.prog 38 [arn l] (.tup [paX l (atP l 0 0).1, iv (atP l 0 0).2]) := by
  refine spec_of t_reader_Root (by simp) fun w0 I0 => ?_
  unfold c_reader_Root
  simp
  refine sc_call (at_spec hs 0 0) rfl ?_
  simp
  exact frz_bare (tup_bare (by simp))
end Go.Proofs.Ytigdcnlhgelkaaa

/-
  Chapters 9, 14, 15: kids; what counts of values; whether they mean the same.
-/
namespace Go.Proofs.Ytigdcnlhgelkaaa
set_option linter.unusedVariables false
set_option linter.unusedSimpArgs false
open Go Go.G Go.Proofs Go.PL

theorem word_drop {l : List (List Int)} {s a : Int} (ha : 0 ≤ a) (k : Nat) : ((((seg l s).getD []).drop a.toNat)[k]?).getD 0 = (word l s (a + k)).getD 0 := by
  unfold word
  rw [if_pos (by omega)]
  cases seg l s with
  | none => simp
  | some g =>
    simp only [Option.getD_some, Option.bind_some, List.getElem?_drop]
    have : a.toNat + k = (a + k).toNat := by omega
    rw [this]
theorem atom_spec {l : List (List Int)} (hs : Sg l) {c s a n : Int} (c0 : 0 ≤ c) (c6 : c < 6) (n0 : 0 ≤ n) (n1 : n < 536870912) (h : hasW l s a ((n * bitsOf c + 63) / 64) = true) {i : Int} (i0 : 0 ≤ i) (i1 : i < n) :
    G.Spec Try.prog 77 [paX l ⟨2 + c, s, a, 0, 0, n, 0⟩, iv i] (uv (atomZ l ⟨2 + c, s, a, 0, 0, n, 0⟩ i)) := by
  have hb := hasW_bound hs h
  have e2 : IntKind.i64.wrap c = c := i64_same (by omega) (by omega)
  have nz : ¬ (2 + c = 0) := by omega
  have key : ∀ w per : Int, widthZ c = w → w * per = 64 → (w = 1 ∨ w = 8 ∨ w = 16 ∨ w = 32 ∨ w = 64) → getZ [(word l s (a + i / per)).getD 0] c (i % per) = atomZ l ⟨2 + c, s, a, 0, 0, n, 0⟩ i := fun w per hw hp hw' => by
    unfold atomZ getZ
    simp only [show 2 + c - 2 = c by omega, hw]
    have hk : (i % per * w / 64).toNat = 0 ∧ i % per * w % 64 = i * w % 64 ∧ i * w / 64 = i / per ∧ ¬ (i % per < 0) ∧ ¬ 1099511627776 < i % per := by
      rcases hw' with rfl | rfl | rfl | rfl | rfl
      · have : per = 64 := by omega
        subst this; omega
      · have : per = 8 := by omega
        subst this; omega
      · have : per = 4 := by omega
        subst this; omega
      · have : per = 2 := by omega
        subst this; omega
      · have : per = 1 := by omega
        subst this; omega
    obtain ⟨k1, k2, k3, k4, k5⟩ := hk
    rw [if_neg (by omega), if_neg (by omega), k1, k2, k3]
    have hd0 : 0 ≤ i / per := by rw [← k3]; rcases hw' with rfl | rfl | rfl | rfl | rfl <;> omega
    have := word_drop (l := l) (s := s) (a := a) hb.1 (i / per).toNat
    rw [show ((i / per).toNat : Int) = i / per by omega] at this
    rw [this]
    simp
  have e2' : IntKind.i64.wrap (2 + c - 2) = c := by rw [i64_same (by omega) (by omega)]; omega
  have hw64 : ∀ x : Int, 0 ≤ (word l s x).getD 0 ∧ (word l s x).getD 0 < 18446744073709551616 := fun x => by
    cases e : word l s x with
    | none => simp
    | some y => exact word_in hs.w e
  refine spec_of t_reader_Ref_atom (by simp) fun w0 I0 => ?_
  unfold c_reader_Ref_atom
  simp [e2']
  refine sc_call (wWidth_spec c) rfl ?_
  by_cases hc0 : c = 0
  · subst hc0
    simp [widthZ]
    exact frz_is rfl (by simp [atomZ, getZ, widthZ])
  have hx : ∃ w per : Int, widthZ c = w ∧ w * per = 64 ∧ (w = 1 ∨ w = 8 ∨ w = 16 ∨ w = 32 ∨ w = 64) ∧ (per = 64 ∨ per = 8 ∨ per = 4 ∨ per = 2 ∨ per = 1) ∧ IntKind.i64.wrap ((64 : Int).tdiv w) = per := by
    have hc : c = 1 ∨ c = 2 ∨ c = 3 ∨ c = 4 ∨ c = 5 := by omega
    rcases hc with rfl | rfl | rfl | rfl | rfl
    · exact ⟨1, 64, rfl, rfl, by omega, by omega, by decide⟩
    · exact ⟨8, 8, rfl, rfl, by omega, by omega, by decide⟩
    · exact ⟨16, 4, rfl, rfl, by omega, by omega, by decide⟩
    · exact ⟨32, 2, rfl, rfl, by omega, by omega, by decide⟩
    · exact ⟨64, 1, rfl, rfl, by omega, by omega, by decide⟩
  obtain ⟨w, per, hw, hp, hw', hper, ep⟩ := hx
  have hk := key w per hw hp hw'
  have wn : ¬ w < 0 := by omega
  have wz : ¬ w = 0 := by omega
  have pz : ¬ per = 0 := by omega
  have hq : 0 ≤ i / per ∧ i / per ≤ i := by rcases hper with rfl | rfl | rfl | rfl | rfl <;> omega
  have hm : 0 ≤ i % per := Int.emod_nonneg _ pz
  have e3 : IntKind.i64.wrap (i.tdiv per) = i / per := by rw [Int.tdiv_eq_ediv_of_nonneg i0, i64_same (by omega) (by omega)]
  have e4 : IntKind.i64.wrap (a + i / per) = a + i / per := i64_same (by omega) (by omega)
  have e5 : i.tmod per = i % per := Int.tmod_eq_emod_of_nonneg i0
  simp [hw, wn, wz, ep, pz, e3, e4, arO, nz]
  refine sc_call (get_spec l hs.b s (a + i / per)) rfl ?_
  simp [pz, e5]
  have hx := hw64 (a + i / per)
  refine sc_call ((wGet_spec (g := [(word l s (a + i / per)).getD 0]) (fun x hx' => by simp at hx'; rw [hx']; exact hx) (by simp) c (i % per)).soft (by simp [A.softL, A.soft])) rfl ?_
  simp
  rw [hk]
  exact frz_bare rfl
theorem kid_spec {l : List (List Int)} (hs : Sg l) {r : Rf} (hr : RfOk l r) (i : Int) : G.Spec Try.prog 43 [paX l r, iv i] (.tup [paX l (kidP l r i).1, iv (kidP l r i).2]) := by
  refine spec_of t_reader_Ref_Kid (by simp) fun w0 I0 => ?_
  unfold c_reader_Ref_Kid
  simp
  refine sc_call_gf rfl (fun _ => refKids_spec' l r) (fun e => by simp [e]) (by simp) ?_
  by_cases hi : i < 0 ∨ nk r ≤ i
  · have hd : (decide (i < 0) || decide (nk r ≤ i)) = true := by simpa using hi
    simp [hd]
    exact frz_is (tup_bare (by simp)) (by simp [kidP, hi, Rf.zero, arO])
  · have hd : (decide (i < 0) || decide (nk r ≤ i)) = false := by simpa using hi
    have hi0 : 0 ≤ i := by omega
    have hi1 : i < nk r := by omega
    have hk := nk_nonneg hr
    rw [kidP, if_neg hi]
    cases hr with
    | zero => simp [nk, Rf.zero] at hi1; omega
    | str s a d k a1 a2 a3 a4 h =>
      have hb := hasW_bound hs h
      have e1 : IntKind.i64.wrap (IntKind.i64.wrap (a + d) + i) = a + d + i := by
        rw [i64_same (n := a + d) (by omega) (by omega), i64_same (by omega) (by omega)]
      simp [hd, arO, e1]
      refine sc_call (at_spec hs s (a + d + i)) rfl ?_
      simp
      exact frz_bare (tup_bare (by simp))
    | dat c s a n a1 a2 a3 a4 h =>
      have n0 : ¬ (2 + c = 0) := by omega
      have n1 : ¬ (2 + c = 1) := by omega
      have n8 : ¬ (2 + c = 8) := by omega
      have n9 : ¬ (2 + c = 9) := by omega
      have hn : i < n := by simpa [nk, n1] using hi1
      have := atom_spec hs a1 a2 a3 a4 h hi0 hn
      simp [hd, n1, n8, n9]
      refine sc_call this (by simp) ?_
      simp
      exact frz_is (tup_bare (by simp)) (by simp [arO, n0])
    | ptrs s a n a1 a2 h =>
      have hb := hasW_bound hs h
      have e1 : IntKind.i64.wrap (a + i) = a + i := i64_same (by omega) (by omega)
      simp [hd, arO, e1]
      refine sc_call (at_spec hs s (a + i)) rfl ?_
      simp
      exact frz_bare (tup_bare (by simp))
    | comp s a d k n a1 a2 a3 a4 a5 a6 h =>
      have hb := hasW_bound hs h
      have hn : i < n := by simpa [nk] using hi1
      have m1 : 0 ≤ i * (d + k) := Int.mul_nonneg hi0 (by omega)
      have m2 : i * (d + k) ≤ n * (d + k) := mul_le_of (by omega) (by omega)
      have e1 : IntKind.i64.wrap (d + k) = d + k := i64_same (by omega) (by omega)
      have e2 : IntKind.i64.wrap (i * (d + k)) = i * (d + k) := i64_same (by omega) (by omega)
      have e3 : IntKind.i64.wrap (a + i * (d + k)) = a + i * (d + k) := i64_same (by omega) (by omega)
      simp [hd, arO, e1, e2, e3]
      exact frz_is (tup_bare (by simp)) (by simp [arO])
    | atom n a1 a2 => simp [nk] at hi1; omega

/-! ### what counts -/
theorem means_word {l : List (List Int)} {r : Rf} {t : T} (h : Means l r t) : nwR r = t.words.length ∧ ∀ (i : Nat) (hi : i < t.words.length), wordAt l r i = t.words[i] := by
  cases h with
  | mk _ _ hr hk hw hn he hm =>
    have hl : nwR r = (wordsR l r).length := by
      cases hr with
      | str s a d k a1 a2 a3 a4 h =>
        obtain ⟨h1, h2, h3, h4, h5, e, h6⟩ := hasW_in h
        simp [nwR, wordsR, part, e]
        omega
      | dat c s a n a1 a2 a3 a4 h =>
        have : ¬ (2 + c = 10) := by omega
        have h1 : ¬ (2 + c = 1) := by omega
        simp [nwR, wordsR, this, h1]
      | _ => simp [nwR, wordsR, Rf.zero]
    rw [← hw]
    refine ⟨hl, fun i hi => ?_⟩
    have hi' : (i : Int) < nwR r := by rw [hl]; omega
    rw [wordAt, if_neg (by omega)]
    cases hr with
    | str s a d k a1 a2 a3 a4 h =>
      obtain ⟨h1, h2, h3, h4, h5, e, h6⟩ := hasW_in h
      simp [wordsR, part, e]
      have := word_drop (l := l) (s := s) (a := a) h3 i
      rw [e] at this
      simp at this
      rw [← this, List.getElem?_eq_getElem (by simp [nwR] at hi'; omega)]
      simp
    | atom n a1 a2 =>
      simp [wordsR] at hi ⊢
    | dat c s a n a1 a2 a3 a4 h =>
      have : ¬ (2 + c = 10) := by omega
      have h1 : ¬ (2 + c = 1) := by omega
      simp [nwR, this, h1] at hi'
      omega
    | _ => simp [nwR, Rf.zero] at hi' <;> omega
theorem means_ok {l : List (List Int)} {r : Rf} {t : T} (h : Means l r t) : RfOk l r := by cases h; assumption
theorem means_kind {l : List (List Int)} {r : Rf} {t : T} (h : Means l r t) : r.kind = t.kind := by cases h; assumption
theorem means_nk {l : List (List Int)} {r : Rf} {t : T} (h : Means l r t) : nk r = t.kids.length := by cases h; assumption
theorem means_kid {l : List (List Int)} {r : Rf} {t : T} (h : Means l r t) {i : Nat} (hi : i < t.kids.length) : (kidP l r i).2 = 0 ∧ Means l (kidP l r i).1 t.kids[i] := by
  cases h with
  | mk _ _ hr hk hw hn he hm => exact ⟨he i hi, hm i hi⟩
end Go.Proofs.Ytigdcnlhgelkaaa

/-
  Chapters 14 and 15: what counts of a value; whether two mean the same.
-/
namespace Go.Proofs.Ytigdcnlhgelkaaa
set_option linter.unusedVariables false
set_option linter.unusedSimpArgs false
open Go Go.G Go.Proofs Go.PL

theorem means_bare {l : List (List Int)} {r : Rf} {t : T} (h : Means l r t) : Bare t := fun h0 => by
  have hk := means_kind h
  have hw := (means_word h).1
  have hn := means_nk h
  have hr := means_ok h
  rw [h0] at hk
  have : nwR r = 0 ∧ nk r = 0 := by
    cases hr <;> simp [nwR, nk, Rf.zero] at hk ⊢ <;> omega
  exact ⟨List.eq_nil_of_length_eq_zero (by omega), List.eq_nil_of_length_eq_zero (by omega)⟩
theorem means_len {l : List (List Int)} {r : Rf} {t : T} (h : Means l r t) : t.words.length ≤ 65536 ∧ t.kids.length < 536870912 := by
  have hw := (means_word h).1
  have hn := means_nk h
  have hr := means_ok h
  have := nk_nonneg hr
  have : nwR r ≤ 65536 := by
    cases hr <;> simp [nwR, Rf.zero] <;> (try split) <;> omega
  omega
section
variable {n0 : Nat} {w0 : World} {I0 : Nat → Prop} {Q : Exit → Sta → Prop} {H : Hp}
theorem long_l1 {l : List (List Int)} (hs : Sg l) {r : Rf} {t : T} (hm : Means l r t) (hH : H [0] = ⟨1, .cells (paL l r)⟩) (hq : ∀ q, Q (.exit 0) ⟨lk [(1, .pob [0] 1 0), (3, iv (trimW t.words).length), (14, bv q)], H⟩) : ∀ (n : Nat), n ≤ t.words.length → trimW (t.words.take n) = trimW t.words →
    LoopC (cx Try.prog w0 I0 n0) l1_copy_Long Q ⟨lk [(1, .pob [0] 1 0), (3, iv n)], H⟩ := by
  have hlen := means_len hm
  intro n
  induction n with
  | zero =>
    intro hn ht
    refine loopC_once mixed l1_copy_Long.eq_1 ?_
    simp
    refine sc_call_off rfl ?_
    have e : (trimW t.words).length = 0 := by rw [← ht]; rfl
    have := hq false
    rw [e] at this
    simp
    exact this
  | succ n ih =>
    intro hn ht
    have hlt : n < t.words.length := by omega
    have e : IntKind.i64.wrap (n : Int) = n := i64_same (by omega) (by omega)
    have hp : (0 : Int) < (n : Int) + 1 := by omega
    have hwd := (means_word hm).2 n hlt
    refine loopC_once mixed l1_copy_Long.eq_1 ?_
    simp [hp, hH, e]
    refine sc_call_gt rfl (fun _ => word_spec' hs (means_ok hm) n) (fun _ => rfl) (by simp) ?_
    rw [hwd]
    by_cases h0 : t.words[n] = 0
    · simp [h0, e]
      exact ih (by omega) (by rw [← trimW_zero hlt h0]; exact ht)
    · have e2 : (trimW t.words).length = n + 1 := by rw [← ht, trimW_stop hlt h0]; simp; omega
      have := hq false
      rw [e2] at this
      simp [h0]
      exact this
theorem wide_l1 {l : List (List Int)} (hs : Sg l) {r : Rf} {t : T} (hm : Means l r t) : ∀ (n : Nat) (H : Hp), H [0] = ⟨1, .cells (paL l r)⟩ → n ≤ t.kids.length → trimK (t.kids.take n) = trimK t.kids → ((trimK t.kids).length = 0 → ∀ k q H', Q (.exit 0) ⟨lk [(1, .pob [0] 1 0), (4, iv k), (10, bv q)], H'⟩) → ((trimK t.kids).length ≠ 0 → ∀ H', Q .ret ⟨lk [(2, iv (trimK t.kids).length), (3, iv 0)], H'⟩) →
    LoopC (cx Try.prog w0 I0 n0) l1_copy_Wide Q ⟨lk [(1, .pob [0] 1 0), (4, iv n)], H⟩ := by
  have hlen := means_len hm
  intro n
  induction n with
  | zero =>
    intro H hH hn ht h1 h2
    refine loopC_once mixed l1_copy_Wide.eq_1 ?_
    simp
    exact h1 (by rw [← ht]; rfl) _ _ _
  | succ n ih =>
    intro H hH hn ht h1 h2
    have hlt : n < t.kids.length := by omega
    have e : IntKind.i64.wrap (n : Int) = n := i64_same (by omega) (by omega)
    have hp : (0 : Int) < (n : Int) + 1 := by omega
    obtain ⟨k1, k2⟩ := means_kid hm hlt
    have kk := means_kind k2
    refine loopC_once mixed l1_copy_Wide.eq_1 ?_
    simp [hp, hH, e]
    refine sc_call (kid_spec hs (means_ok hm) n) (by simp) ?_
    simp [k1, updF_app]
    refine sc_call_gf rfl (fun _ => refKind_spec l (kidP l r n).1) (fun _ => rfl) (by simp) ?_
    rw [kk]
    by_cases h0 : t.kids[n].kind = 0
    · simp [h0, e]
      exact ih _ (by simp [updF_app, hH]) (by omega) (by rw [← trimK_zero hlt h0]; exact ht) h1 h2
    · have e2 : (trimK t.kids).length = n + 1 := by rw [← ht, trimK_stop hlt h0]; simp; omega
      simp [h0]
      have := h2 (by omega) 
      rw [e2] at this
      exact this _
end
theorem long_spec {l : List (List Int)} (hs : Sg l) {r : Rf} {t : T} (hm : Means l r t) : G.Spec Try.prog 45 [paX l r] (iv (trimW t.words).length) := by
  refine spec_of t_copy_Long (by simp) fun w0 I0 => ?_
  unfold c_copy_Long
  simp
  refine sc_call (refWords_spec' l r) (by simp) ?_
  rw [(means_word hm).1]
  simp
  refine long_l1 hs hm (by simp) (fun q => ?_) t.words.length (Nat.le_refl _) (by rw [List.take_of_length_le (Nat.le_refl _)])
  simp
  exact frz_bare rfl
theorem wide_spec {l : List (List Int)} (hs : Sg l) {r : Rf} {t : T} (hm : Means l r t) : G.Spec Try.prog 44 [paX l r] (.tup [iv (trimK t.kids).length, iv 0]) := by
  refine spec_of t_copy_Wide (by simp) fun w0 I0 => ?_
  unfold c_copy_Wide
  simp
  refine sc_call (refKids_spec' l r) (by simp) ?_
  rw [means_nk hm]
  simp
  refine wide_l1 hs hm t.kids.length _ (by simp) (Nat.le_refl _) (by rw [List.take_of_length_le (Nat.le_refl _)]) (fun h k q H' => ?_) (fun h H' => ?_)
  · simp
    exact frz_is rfl (by simp [h])
  · simp
    exact frz_bare rfl
theorem ekids_spec {l : List (List Int)} (hs : Sg l) {r : Rf} {t : T} (hm : Means l r t) : G.Spec Try.prog 61 [paX l r] (.tup [iv (nK t), iv 0]) := by
  refine spec_of t_equal_kids (by simp) fun w0 I0 => ?_
  unfold c_equal_kids
  simp
  refine sc_call (refKind_spec l r) (by simp) ?_
  rw [means_kind hm]
  by_cases h1 : t.kind = 1
  · simp [h1]
    refine sc_call (wide_spec hs hm) (by simp) ?_
    simp
    exact frz_is rfl (by simp [nK, h1])
  · simp [h1]
    refine sc_call (refKids_spec' l r) (by simp) ?_
    rw [means_nk hm]
    simp
    exact frz_is rfl (by simp [nK, h1])
theorem ewords_spec {l : List (List Int)} (hs : Sg l) {r : Rf} {t : T} (hm : Means l r t) : G.Spec Try.prog 62 [paX l r] (iv (nW t)) := by
  refine spec_of t_equal_words (by simp) fun w0 I0 => ?_
  unfold c_equal_words
  simp
  refine sc_call (refKind_spec l r) (by simp) ?_
  rw [means_kind hm]
  by_cases h1 : t.kind = 1
  · simp [h1]
    refine sc_call (long_spec hs hm) (by simp) ?_
    simp
    exact frz_is rfl (by simp [nW, h1])
  · simp [h1]
    refine sc_call (refWords_spec' l r) (by simp) ?_
    rw [(means_word hm).1]
    simp
    exact frz_is rfl (by simp [nW, h1])

/-! ### alike -/
noncomputable def alikeB (t u : T) : Bool := by classical exact decide (t.kind = u.kind ∧ nW t = nW u ∧ nK t = nK u ∧ ∀ i : Nat, i < nW t → t.words[i]? = u.words[i]?)
theorem alikeB_iff {t u : T} : alikeB t u = true ↔ t.kind = u.kind ∧ nW t = nW u ∧ nK t = nK u ∧ ∀ i : Nat, i < nW t → t.words[i]? = u.words[i]? := by simp [alikeB]
section
variable {n0 : Nat} {w0 : World} {I0 : Nat → Prop} {Q : Exit → Sta → Prop} {H : Hp}
theorem alike_l1 {l m : List (List Int)} (hl : Sg l) (hm : Sg m) {r s : Rf} {t u : T} (ht : Means l r t) (hu : Means m s u) (hW : nW t = nW u) (hA : H [0] = ⟨1, .cells (paL l r)⟩) (hB : H [1] = ⟨1, .cells (paL m s)⟩) {k : Int} : ∀ (j i : Nat), i + j = nW t → (∀ x : Nat, x < i → t.words[x]? = u.words[x]?) →
    ((∀ x : Nat, x < nW t → t.words[x]? = u.words[x]?) → ∀ i' q, Q (.exit 0) ⟨lk [(2, .pob [0] 1 0), (3, .pob [1] 1 0), (7, iv k), (10, .fnc 63 [] []), (46, iv (nW t)), (47, iv i'), (48, bv q)], H⟩) →
    (¬ (∀ x : Nat, x < nW t → t.words[x]? = u.words[x]?) → Q .ret ⟨lk [(4, iv 0), (5, bv false), (6, iv 0)], H⟩) →
    LoopC (cx Try.prog w0 I0 n0) l1_equal_alike Q ⟨lk [(2, .pob [0] 1 0), (3, .pob [1] 1 0), (7, iv k), (10, .fnc 63 [] []), (46, iv (nW t)), (47, iv i)], H⟩ := by
  have h1 := means_len ht
  have h2 := means_len hu
  have w1 := nW_le t
  have w2 := nW_le u
  intro j
  induction j with
  | zero =>
    intro i hi he hq hq2
    have : i = nW t := by omega
    subst this
    refine loopC_once mixed l1_equal_alike.eq_1 ?_
    simp
    exact hq he _ _
  | succ j ih =>
    intro i hi he hq hq2
    have hlt : i < nW t := by omega
    have lt1 : i < t.words.length := by omega
    have lt2 : i < u.words.length := by omega
    have hlt' : (i : Int) < nW t := by omega
    have ei : IntKind.i64.wrap ((i : Int) + 1) = ((i + 1 : Nat) : Int) := i64_same (by omega) (by omega)
    refine loopC_once mixed l1_equal_alike.eq_1 ?_
    simp [hlt, hA, hB]
    refine sc_callv rfl (word_spec' hl (means_ok ht) i) (by simp) ?_
    rw [(means_word ht).2 i lt1]
    simp [hA, hB]
    refine sc_callv rfl (word_spec' hm (means_ok hu) i) (by simp) ?_
    rw [(means_word hu).2 i lt2]
    by_cases hx : t.words[i] = u.words[i]
    · simp [hx, ei]
      refine ih (i + 1) (by omega) (fun x hx' => ?_) hq hq2
      by_cases e : x = i
      · subst e; rw [List.getElem?_eq_getElem lt1, List.getElem?_eq_getElem lt2, hx]
      · exact he x (by omega)
    · simp [hx]
      refine hq2 fun hh => hx ?_
      have := hh i hlt
      rw [List.getElem?_eq_getElem lt1, List.getElem?_eq_getElem lt2] at this
      exact Option.some.inj this
end
theorem alike_spec {l m : List (List Int)} (hl : Sg l) (hm : Sg m) {r s : Rf} {t u : T} (ht : Means l r t) (hu : Means m s u) : G.Spec Try.prog 58 [paX l r, paX m s] (.tup [iv (if alikeB t u = true then nK t else 0), bv (alikeB t u), iv 0]) := by
  refine spec_of t_equal_alike (by simp) fun w0 I0 => ?_
  unfold c_equal_alike
  simp
  refine sc_call (refKind_spec l r) (by simp) ?_
  simp
  refine sc_call (refKind_spec m s) (by simp) ?_
  rw [means_kind ht, means_kind hu]
  have no : ¬ (t.kind = u.kind ∧ nW t = nW u ∧ nK t = nK u ∧ ∀ i : Nat, i < nW t → t.words[i]? = u.words[i]?) → alikeB t u = false := fun h => by rw [Bool.eq_false_iff]; exact fun e => h (alikeB_iff.1 e)
  by_cases h1 : t.kind = u.kind
  · simp [h1]
    refine sc_call_gf rfl (fun _ => ewords_spec hl ht) (fun _ => rfl) (by simp) ?_
    simp
    refine sc_call_gf rfl (fun _ => ewords_spec hm hu) (fun _ => rfl) (by simp) ?_
    by_cases h2 : nW t = nW u
    · simp [h2]
      refine sc_call (ekids_spec hl ht) (by simp) ?_
      simp
      refine sc_call (ekids_spec hm hu) (by simp) ?_
      by_cases h3 : nK t = nK u
      · simp [h3]
        refine sc_call (ewords_spec hl ht) (by simp) ?_
        simp
        refine alike_l1 hl hm ht hu h2 (by simp) (by simp) (nW t) 0 (by omega) (fun x hx => by omega) (fun hh i' q => ?_) (fun hh => ?_)
        · have : alikeB t u = true := alikeB_iff.2 ⟨h1, h2, h3, hh⟩
          simp
          exact frz_is rfl (by simp [this, h3])
        · have := no fun ⟨_, _, _, h⟩ => hh h
          simp
          exact frz_is rfl (by simp [this])
      · have := no fun ⟨_, _, h, _⟩ => h3 h
        simp [h3]
        refine ⟨fun h => absurd (by omega) h3, fun _ => ?_⟩
        exact frz_is rfl (by simp [this])
    · have := no fun ⟨_, h, _, _⟩ => h2 h
      simp [h2]
      refine ⟨fun h => absurd (by omega) h2, fun _ => ?_⟩
      exact frz_is rfl (by simp [this])
  · have := no fun ⟨h, _, _, _⟩ => h1 h
    simp [h1]
    refine sc_call_off rfl ?_
    simp
    refine sc_call_off rfl ?_
    simp
    exact frz_is rfl (by simp [this])

/-! ### whether two mean the same -/
theorem eqT_alike {t u : T} (ht : Bare t) (hu : Bare u) : eqT t u = true ↔ alikeB t u = true ∧ ∀ i : Nat, i < nK t → (t.kids[i]?).map norm = (u.kids[i]?).map norm := by
  rw [eqT_iff, norm_eq ht hu, alikeB_iff]
  constructor
  · rintro ⟨a, b, c, d, e⟩; exact ⟨⟨a, b, c, d⟩, e⟩
  · rintro ⟨⟨a, b, c, d⟩, e⟩; exact ⟨a, b, c, d, e⟩
section
variable {n0 : Nat} {w0 : World} {I0 : Nat → Prop} {Q : Exit → Sta → Prop}
abbrev ValS (l m : List (List Int)) (t u : T) : Prop := ∀ r s, Means l r t → Means m s u → G.Spec Try.prog 23 [paX l r, paX m s] (.tup [bv (eqT t u), iv 0])
theorem values_l1 {l m : List (List Int)} (hl : Sg l) (hm : Sg m) {r s : Rf} {t u : T} (ht : Means l r t) (hu : Means m s u) (hK : nK t = nK u) (ih : ∀ c, c ∈ t.kids → ∀ d, ValS l m c d) : ∀ (j i : Nat) (H : Hp), i + j = nK t → H [0] = ⟨1, .cells (paL l r)⟩ → H [1] = ⟨1, .cells (paL m s)⟩ → (∀ x : Nat, x < i → (t.kids[x]?).map norm = (u.kids[x]?).map norm) →
    ((∀ x : Nat, x < nK t → (t.kids[x]?).map norm = (u.kids[x]?).map norm) → ∀ i' q H', Q (.exit 0) ⟨lk [(2, .pob [0] 1 0), (3, .pob [1] 1 0), (29, iv (nK t)), (30, iv i'), (31, bv q)], H'⟩) →
    (¬ (∀ x : Nat, x < nK t → (t.kids[x]?).map norm = (u.kids[x]?).map norm) → ∀ H', Q .ret ⟨lk [(4, bv false), (5, iv 0)], H'⟩) →
    LoopC (cx Try.prog w0 I0 n0) l1_equal_Values Q ⟨lk [(2, .pob [0] 1 0), (3, .pob [1] 1 0), (29, iv (nK t)), (30, iv i)], H⟩ := by
  have h1 := means_len ht
  have h2 := means_len hu
  have w1 := nK_le t
  have w2 := nK_le u
  intro j
  induction j with
  | zero =>
    intro i H hi hA hB he hq hq2
    have : i = nK t := by omega
    subst this
    refine loopC_once mixed l1_equal_Values.eq_1 ?_
    simp
    exact hq he _ _ _
  | succ j ihj =>
    intro i H hi hA hB he hq hq2
    have hlt : i < nK t := by omega
    have lt1 : i < t.kids.length := by omega
    have lt2 : i < u.kids.length := by omega
    have ei : IntKind.i64.wrap ((i : Int) + 1) = ((i + 1 : Nat) : Int) := i64_same (by omega) (by omega)
    obtain ⟨a1, a2⟩ := means_kid ht lt1
    obtain ⟨b1, b2⟩ := means_kid hu lt2
    have ihc := ih _ (List.getElem_mem lt1) u.kids[i] _ _ a2 b2
    refine loopC_once mixed l1_equal_Values.eq_1 ?_
    simp [hlt, hA]
    refine sc_call (kid_spec hl (means_ok ht) i) (by simp) ?_
    simp [a1, updF_app, hB]
    refine sc_call (kid_spec hm (means_ok hu) i) (by simp) ?_
    simp [b1, updF_app]
    refine sc_call ihc (by simp) ?_
    cases hq' : eqT t.kids[i] u.kids[i] with
    | true =>
      simp [ei]
      refine ihj (i + 1) _ (by omega) (by simp [updF_app, hA]) (by simp [updF_app, hB]) (fun x hx' => ?_) hq hq2
      by_cases e : x = i
      · subst e; rw [List.getElem?_eq_getElem lt1, List.getElem?_eq_getElem lt2]; simp [eqT_iff.1 hq']
      · exact he x (by omega)
    | false =>
      simp
      refine hq2 (fun hh => ?_) _
      have := hh i hlt
      rw [List.getElem?_eq_getElem lt1, List.getElem?_eq_getElem lt2] at this
      have := eqT_iff.2 (Option.some.inj this)
      rw [hq'] at this
      cases this
end
theorem values_spec {l m : List (List Int)} (hl : Sg l) (hm : Sg m) : ∀ t u, ValS l m t u := by
  refine T.ind fun k w ks ih u r s ht hu => ?_
  have hb := eqT_alike (means_bare ht) (means_bare hu)
  refine spec_of t_equal_Values (by simp) fun w0 I0 => ?_
  unfold c_equal_Values
  simp
  refine sc_call (alike_spec hl hm ht hu) (by simp) ?_
  cases ha : alikeB (.mk k w ks) u with
  | false =>
    have : eqT (.mk k w ks) u = false := by rw [Bool.eq_false_iff]; intro e; have := (hb.1 e).1; rw [ha] at this; cases this
    simp
    exact frz_is rfl (by simp [this])
  | true =>
    obtain ⟨_, _, hK, _⟩ := alikeB_iff.1 ha
    simp
    refine values_l1 hl hm ht hu hK (fun c hc d => ih c hc d) (nK (.mk k w ks)) 0 _ (by omega) (by simp) (by simp) (fun x hx => by omega) (fun hh i' q H' => ?_) (fun hh H' => ?_)
    · have := hb.2 ⟨ha, hh⟩
      simp
      exact frz_is rfl (by simp [this])
    · have : eqT (.mk k w ks) u = false := by rw [Bool.eq_false_iff]; intro e; exact hh (hb.1 e).2
      simp
      exact frz_is rfl (by simp [this])
end Go.Proofs.Ytigdcnlhgelkaaa

/-
  Chapter 9's reference: values where they lie.
-/
namespace Go.Proofs.Ytigdcnlhgelkaaa
set_option linter.unusedVariables false
set_option linter.unusedSimpArgs false
open Go Go.G Go.Proofs Go.PL

abbrev raX (r : Rf) : A := .agg [iv r.kind, iv r.s, iv r.at_, iv r.data, iv r.kids, iv r.count, uv r.n]
def bitZ (g : List Int) (i : Int) : Int := if i < 0 then 0 else ((g[(i / 64).toNat]?).getD 0) / 2 ^ (i % 64).toNat % 2

section
variable {n0 : Nat} {w0 : World} {I0 : Nat → Prop} {Q : Exit → Sta → Prop} {H : Hp}
theorem rBit_l1 {i : Int} (hi : 0 ≤ i) : ∀ (m : Nat) (x j : Int), 0 ≤ x → x < 18446744073709551616 → 0 ≤ j → j + m = i % 64 → (∀ j' b, Q (.exit 0) ⟨lk [(1, iv i), (5, uv (x / 2 ^ m)), (6, iv j'), (24, bv b)], H⟩) →
    LoopC (cx Try.prog w0 I0 n0) l1_centoref01_Bit Q ⟨lk [(1, iv i), (5, uv x), (6, iv j)], H⟩ := by
  have e : i.tmod 64 = i % 64 := Int.tmod_eq_emod_of_nonneg hi
  intro m
  induction m with
  | zero =>
    intro x j h0 h1 h2 h3 hq
    have : j = i % 64 := by simpa using h3
    subst this
    refine loopC_once mixed l1_centoref01_Bit.eq_1 ?_
    simp [e]
    simpa using hq _ _
  | succ m ih =>
    intro x j h0 h1 h2 h3 hq
    refine loopC_once mixed l1_centoref01_Bit.eq_1 ?_
    have hj : j < i % 64 := by omega
    simp [e, hj]
    rw [i64_same (by omega) (by omega), Int.tdiv_eq_ediv_of_nonneg h0, u64_same (by omega) (by omega)]
    exact ih _ _ (by omega) (by omega) (by omega) (by omega) (by rw [pow_half]; exact hq)
end
theorem rBit_spec {g : List Int} (hg : ∀ x, x ∈ g → 0 ≤ x ∧ x < 18446744073709551616) {i : Int} (hi1 : i < 1000000000000000000) (hi : 0 ≤ i) : G.Spec Try.prog 143 [uws g, iv i] (uv (bitZ g i)) := by
  refine spec_of t_centoref01_Bit (by simp) fun w0 I0 => ?_
  unfold c_centoref01_Bit
  have e2 : IntKind.i64.wrap (i.tdiv 64) = i / 64 := by rw [Int.tdiv_eq_ediv_of_nonneg hi, i64_same (by omega) (by omega)]
  have hn : ¬ i < 0 := by omega
  have hd0 : 0 ≤ i / 64 := by omega
  by_cases hr : (g.length : Int) ≤ i / 64
  · have en : g[(i / 64).toNat]? = none := List.getElem?_eq_none (by omega)
    simp [hn, e2, hr, hi]
    exact frz_is rfl (by simp [bitZ, en])
  · have hlt : (i / 64).toNat < g.length := by omega
    have hlt' : i / 64 < g.length := by omega
    have hx := hg _ (List.getElem_mem hlt)
    simp [hn, e2, hr, hi, hd0, hlt, hlt']
    have hx0 : 0 ≤ g[(i / 64).toNat] / 2 ^ (i % 64).toNat := Int.ediv_nonneg hx.1 (Int.le_of_lt (Int.pow_pos (by decide)))
    have hx1 : g[(i / 64).toNat] / 2 ^ (i % 64).toNat < 18446744073709551616 := Int.lt_of_le_of_lt (Int.ediv_le_self _ hx.1) hx.2
    refine rBit_l1 hi (i % 64).toNat _ 0 hx.1 hx.2 (by omega) (by omega) fun j' b => ?_
    simp [Int.tmod_eq_emod_of_nonneg hx0]
    exact frz_is rfl (by simp [bitZ, hn, hlt])

theorem bits_up (y : Int) (m k : Nat) : y / 2 ^ (m + 1) % 2 ^ k * 2 + y / 2 ^ m % 2 = y / 2 ^ m % 2 ^ (k + 1) := by
  have e : y / 2 ^ (m + 1) = y / 2 ^ m / 2 := by
    rw [Int.pow_succ, Int.ediv_ediv_of_nonneg (Int.le_of_lt (Int.pow_pos (by decide)))]
  rw [e]
  generalize y / 2 ^ m = z
  have e2 : z % 2 ^ (k + 1) = z - 2 ^ (k + 1) * (z / 2 ^ (k + 1)) := Int.emod_def ..
  have e3 : z / 2 ^ (k + 1) = z / 2 / 2 ^ k := by rw [Int.pow_succ, Int.mul_comm, Int.ediv_ediv_of_nonneg (by decide)]
  have e4 : z / 2 % 2 ^ k = z / 2 - 2 ^ k * (z / 2 / 2 ^ k) := Int.emod_def ..
  rw [e2, e3, e4, Int.pow_succ, Int.mul_comm (2 ^ k) 2, Int.mul_assoc]
  generalize 2 ^ k * (z / 2 / 2 ^ k) = q
  omega
/-- A word's bit, seen from the item's first. -/
theorem bit_of {g : List Int} {i w : Int} (hi : 0 ≤ i) (hw : w = 1 ∨ w = 8 ∨ w = 16 ∨ w = 32 ∨ w = 64) (m : Nat) (hm : (m : Int) < w) : bitZ g (i * w + m) = ((g[(i * w / 64).toNat]?).getD 0) / 2 ^ (i * w % 64).toNat / 2 ^ m % 2 := by
  have hp : 0 ≤ i * w := by rcases hw with rfl | rfl | rfl | rfl | rfl <;> omega
  have h1 : (i * w + m) / 64 = i * w / 64 ∧ (i * w + m) % 64 = i * w % 64 + m := by
    rcases hw with rfl | rfl | rfl | rfl | rfl <;> omega
  unfold bitZ
  rw [if_neg (by omega), h1.1, h1.2, Int.ediv_ediv_of_nonneg (Int.le_of_lt (Int.pow_pos (by decide))), ← Int.pow_add]
  have : (i * w % 64 + (m : Int)).toNat = (i * w % 64).toNat + m := by omega
  rw [this]

section
variable {n0 : Nat} {w0 : World} {I0 : Nat → Prop} {Q : Exit → Sta → Prop} {H : Hp}
theorem rGet_l1 {g : List Int} (hg : ∀ x, x ∈ g → 0 ≤ x ∧ x < 18446744073709551616) {i w y : Int} (hi : 0 ≤ i) (hi1 : i ≤ 1099511627776) (hw : w = 1 ∨ w = 8 ∨ w = 16 ∨ w = 32 ∨ w = 64) (hy : y = ((g[(i * w / 64).toNat]?).getD 0) / 2 ^ (i * w % 64).toNat) (y0 : 0 ≤ y) (y1 : y < 18446744073709551616) : ∀ (m : Nat) (k : Nat) (x j : Int), k + m = w → j = (m : Int) - 1 → x = y / 2 ^ m % 2 ^ k →
    (∀ j' b, Q (.exit 0) ⟨lk [(0, uws g), (2, iv i), (7, iv w), (8, uv (y % 2 ^ w.toNat)), (9, iv j'), (25, bv b)], H⟩) →
    LoopC (cx Try.prog w0 I0 n0) l1_centoref01_Get Q ⟨lk [(0, uws g), (2, iv i), (7, iv w), (8, uv x), (9, iv j)], H⟩ := by
  intro m
  induction m with
  | zero =>
    intro k x j hk hj hx hq
    subst hj
    refine loopC_once mixed l1_centoref01_Get.eq_1 ?_
    simp
    have : w.toNat = k := by omega
    rw [this] at hq
    rw [hx]
    simpa using hq _ _
  | succ m ih =>
    intro k x j hk hj hx hq
    have hj' : j = m := by omega
    subst hj'
    have hm : (m : Int) < w := by omega
    have hb : 0 ≤ i * w ∧ i * w ≤ 70368744177664 := by rcases hw with rfl | rfl | rfl | rfl | rfl <;> omega
    have e1 : IntKind.i64.wrap (i * w) = i * w := i64_same (by omega) (by omega)
    have e2 : IntKind.i64.wrap (i * w + m) = i * w + m := i64_same (by omega) (by omega)
    have e3 : IntKind.i64.wrap ((m : Int) - 1) = m - 1 := i64_same (by omega) (by omega)
    refine loopC_once mixed l1_centoref01_Get.eq_1 ?_
    simp [e1, e2]
    refine sc_call (rBit_spec hg (i := i * w + m) (by omega) (by omega)) rfl ?_
    simp [e3]
    rw [bit_of hi hw m hm, ← hy]
    have hu := bits_up y m k
    have hz0 : 0 ≤ y / 2 ^ m := Int.ediv_nonneg y0 (Int.le_of_lt (Int.pow_pos (by decide)))
    have hz1 : y / 2 ^ m ≤ y := Int.ediv_le_self _ y0
    have p2 : (0 : Int) < 2 ^ (k + 1) := Int.pow_pos (by omega)
    have m0 := Int.emod_nonneg (y / 2 ^ m) (by omega : (2 : Int) ^ (k + 1) ≠ 0)
    have m1 : y / 2 ^ m % 2 ^ (k + 1) ≤ y / 2 ^ m := by
      rw [Int.emod_def]
      have := Int.mul_nonneg (a := 2 ^ (k + 1)) (b := y / 2 ^ m / 2 ^ (k + 1)) (by omega) (Int.ediv_nonneg hz0 (by omega))
      omega
    have p3 : (0 : Int) < 2 ^ k := Int.pow_pos (by omega)
    have n0 := Int.emod_nonneg (y / 2 ^ (m + 1)) (by omega : (2 : Int) ^ k ≠ 0)
    rw [← hx] at hu n0
    rw [u64_same (n := x * 2) (by omega) (by omega), u64_same (by omega) (by omega)]
    exact ih (k + 1) _ _ (by omega) rfl hu hq
end
theorem rGet_spec {g : List Int} (hg : ∀ x, x ∈ g → 0 ≤ x ∧ x < 18446744073709551616) (c i : Int) : G.Spec Try.prog 123 [uws g, iv c, iv i] (uv (getZ g c i)) := by
  refine spec_of t_centoref01_Get (by simp) fun w0 I0 => ?_
  unfold c_centoref01_Get
  simp
  refine sc_call (rWidth_spec c) rfl ?_
  have hw := widthZ_cases c
  by_cases h0 : widthZ c < 1 ∨ i < 0 ∨ 1099511627776 < i
  · have e : getZ g c i = 0 := by unfold getZ; rw [if_pos h0]
    rw [e]
    have hd : (decide (widthZ c < 1) || decide (i < 0) || decide (1099511627776 < i)) = true := by simp; omega
    simp [hd]
    exact frz_bare rfl
  · have hw1 : widthZ c = 1 ∨ widthZ c = 8 ∨ widthZ c = 16 ∨ widthZ c = 32 ∨ widthZ c = 64 := by omega
    have hd : (decide (widthZ c < 1) || decide (i < 0) || decide (1099511627776 < i)) = false := by simp; omega
    have hi0 : 0 ≤ i := by omega
    have e : getZ g c i = ((g[(i * widthZ c / 64).toNat]?).getD 0) / 2 ^ (i * widthZ c % 64).toNat % 2 ^ (widthZ c).toNat := by unfold getZ; rw [if_neg h0]
    rw [e]
    simp [hd]
    clear e hw
    generalize widthZ c = w at hw1 h0
    rw [i64_same (by omega) (by omega)]
    have hx : 0 ≤ (g[(i * w / 64).toNat]?).getD 0 ∧ (g[(i * w / 64).toNat]?).getD 0 < 18446744073709551616 := by
      cases e : g[(i * w / 64).toNat]? with
      | none => simp
      | some x => exact hg x (List.mem_of_getElem? e)
    have y0 : 0 ≤ (g[(i * w / 64).toNat]?).getD 0 / 2 ^ (i * w % 64).toNat := Int.ediv_nonneg hx.1 (Int.le_of_lt (Int.pow_pos (by decide)))
    have y1 : (g[(i * w / 64).toNat]?).getD 0 / 2 ^ (i * w % 64).toNat < 18446744073709551616 := Int.lt_of_le_of_lt (Int.ediv_le_self _ hx.1) hx.2
    refine rGet_l1 hg hi0 (by omega) hw1 rfl y0 y1 w.toNat 0 0 _ (by omega) (by omega) (by simp) fun j' b => ?_
    simp
    exact frz_is rfl rfl

/-! ### a value -/
theorem raKids_spec (r : Rf) : G.Spec Try.prog 92 [raX r] (iv (nk r)) := by
  refine spec_of t_centoref09_Ref_Kids (by simp) fun w0 I0 => ?_
  unfold c_centoref09_Ref_Kids
  by_cases h1 : r.kind = 1
  · simp [h1]; exact frz_is rfl (by simp [nk, h1])
  · simp [h1]; exact frz_is rfl (by simp [nk, h1])
theorem raAt_spec {l : List (List Int)} (hs : Sg l) (s a : Int) : G.Spec Try.prog 56 [sgs l, iv s, iv a] (.tup [raX (atP l s a).1, iv (atP l s a).2]) := by
  have hf := follow_folw hs.w s a
  refine spec_of t_centoref09_At (by simp) fun w0 I0 => ?_
  unfold c_centoref09_At
  simp
  refine sc_call (refFollow_spec l hs.b hs.w s a) rfl ?_
  unfold atP
  generalize followP l s a = x at hf
  obtain ⟨x, e⟩ := x
  unfold Folw at hf
  simp only at hf ⊢
  by_cases hc : e ≠ 0 ∨ x.p.kind = 0
  · have hd : (!decide (e = 0) || decide (x.p.kind = 0)) = true := by simp; omega
    simp [hd, hc]
    exact frz_is rfl (by simp [Rf.zero])
  · have hd : (!decide (e = 0) || decide (x.p.kind = 0)) = false := by simp; omega
    have he : e = 0 := by omega
    obtain h0 | ⟨hk, hsh, hw⟩ := hf he
    · omega
    have hbd := hasW_bound hs hw
    rw [if_neg hc]
    simp [hd]
    unfold refP
    by_cases k1 : x.p.kind = 1
    · simp [k1, he]
      exact frz_is rfl rfl
    · have k2 : x.p.kind = 2 := by omega
      obtain ⟨c0, c1, _, _⟩ := hsh.k2 k2
      by_cases c7 : x.p.code < 7
      · have e2 : IntKind.i64.wrap (2 + x.p.code) = 2 + x.p.code := i64_same (by omega) (by omega)
        simp [k1, c7, e2]
        exact ⟨frz_is rfl rfl, fun h => absurd h (by omega)⟩
      · rw [wordsP_comp k2 (by omega)] at hw
        have hcnt := (hsh.k2 k2).2.2
        obtain ⟨q1, q2, q3, q4, q5, q6, q7⟩ := hasW_in hw
        simp only [Option.getD_some] at q7
        have q8 : x.at_.toNat < l[x.s.toNat].length := by omega
        have q9 : x.at_ < l[x.s.toNat].length := by omega
        have e0 : (word l x.s x.at_).getD 0 = l[x.s.toNat][x.at_.toNat] := by
          unfold word
          rw [if_pos q3, q6]
          simp [q8]
        have h0 : 0 ≤ (word l x.s x.at_).getD 0 ∧ (word l x.s x.at_).getD 0 < 18446744073709551616 := by
          cases e : word l x.s x.at_ with
          | none => simp
          | some x => exact word_in hs.w e
        simp [k1, c7, q1, q2, q3, q5, q8, q9, ws]
        unfold compP
        rw [← e0]
        generalize (word l x.s x.at_).getD 0 = w at h0
        intro _
        refine sc_call (refDecode_spec h0.1 h0.2) rfl ?_
        have hsh := dec_shp h0.1 h0.2
        have ho := dec_off h0.1 h0.2
        have hdp : 0 ≤ (dec w).data ∧ (dec w).data < 65536 ∧ 0 ≤ (dec w).ptrs ∧ (dec w).ptrs < 65536 := by
          unfold dec
          repeat' split
          all_goals simp
          all_goals omega
        generalize dec w = p at hsh ho hdp
        have hb : -70368744177664 ≤ p.off * (p.data + p.ptrs) ∧ p.off * (p.data + p.ptrs) ≤ 70368744177664 := by
          have b1 : p.off * (p.data + p.ptrs) ≤ 536870912 * (p.data + p.ptrs) := Int.mul_le_mul_of_nonneg_right (by omega) (by omega)
          have b2 : -536870912 * (p.data + p.ptrs) ≤ p.off * (p.data + p.ptrs) := Int.mul_le_mul_of_nonneg_right (by omega) (by omega)
          omega
        have e1 : IntKind.i64.wrap (p.data + p.ptrs) = p.data + p.ptrs := i64_same (by omega) (by omega)
        have e2 : IntKind.i64.wrap (p.off * (p.data + p.ptrs)) = p.off * (p.data + p.ptrs) := i64_same (by omega) (by omega)
        have e3 : IntKind.i64.wrap (x.at_ + 1) = x.at_ + 1 := i64_same (by omega) (by omega)
        by_cases hc : (w ≠ 0 ∧ p.kind ≠ 1) ∨ p.off < 0 ∨ x.p.count < p.off * (p.data + p.ptrs)
        · have hd : (((!decide (w = 0) && !decide (p.kind = 1)) || decide (p.off < 0)) || decide (x.p.count < p.off * (p.data + p.ptrs))) = true := by simp; omega
          rw [if_pos hc]
          simp [e1, e2, hd]
          exact frz_is rfl (by simp [Rf.zero])
        · have hd : (((!decide (w = 0) && !decide (p.kind = 1)) || decide (p.off < 0)) || decide (x.p.count < p.off * (p.data + p.ptrs))) = false := by simp; omega
          rw [if_neg hc]
          simp [e1, e2, e3, hd]
          exact frz_is rfl rfl
theorem raKid_spec {l : List (List Int)} (hs : Sg l) {r : Rf} (hr : RfOk l r) (i : Int) : G.Spec Try.prog 93 [raX r, sgs l, iv i] (.tup [raX (kidP l r i).1, iv (kidP l r i).2]) := by
  refine spec_of t_centoref09_Ref_Kid (by simp) fun w0 I0 => ?_
  unfold c_centoref09_Ref_Kid
  simp
  refine sc_call_gf rfl (fun _ => raKids_spec r) (fun e => by simp [e]) (by simp) ?_
  by_cases hi : i < 0 ∨ nk r ≤ i
  · have hd : (decide (i < 0) || decide (nk r ≤ i)) = true := by simpa using hi
    simp [hd]
    exact frz_is rfl (by simp [kidP, hi, Rf.zero])
  · have hd : (decide (i < 0) || decide (nk r ≤ i)) = false := by simpa using hi
    have hi0 : 0 ≤ i := by omega
    have hi1 : i < nk r := by omega
    have hk := nk_nonneg hr
    rw [kidP, if_neg hi]
    cases hr with
    | zero => simp [nk, Rf.zero] at hi1; omega
    | str s a d k a1 a2 a3 a4 h =>
      have hb := hasW_bound hs h
      have e1 : IntKind.i64.wrap (IntKind.i64.wrap (a + d) + i) = a + d + i := by
        rw [i64_same (n := a + d) (by omega) (by omega), i64_same (by omega) (by omega)]
      simp [hd, e1]
      refine sc_call (raAt_spec hs s (a + d + i)) rfl ?_
      simp
      exact frz_is rfl rfl
    | dat c s a n a1 a2 a3 a4 h =>
      have n1 : ¬ (2 + c = 1) := by omega
      have n8 : ¬ (2 + c = 8) := by omega
      have n9 : ¬ (2 + c = 9) := by omega
      obtain ⟨q1, q2, q3, q4, q5, q6, q7⟩ := hasW_in h
      have hz : 0 ≤ (n * bitsOf c + 63) / 64 := q4
      have q8 : a ≤ l[s.toNat].length := by omega
      have e2 : IntKind.i64.wrap (2 + c - 2) = 2 + c - 2 := i64_same (by omega) (by omega)
      have et : List.take (l[s.toNat].length - a.toNat) (List.drop a.toNat (List.map uv l[s.toNat])) = (l[s.toNat].drop a.toNat).map uv := by
        rw [List.take_of_length_le (by simp), List.map_drop]
      simp [hd, n1, n8, n9, q1, q2, q3, q5, q8, e2, et]
      refine sc_calle (L := [uws (l[s.toNat].drop a.toNat), iv (2 + c - 2), iv i]) (by simp) (rGet_spec (fun x hx => hs.w _ (List.getElem_mem q5) x (List.mem_of_mem_drop hx)) (2 + c - 2) i) rfl ?_
      simp
      exact frz_is rfl (by simp [atomZ, q6])
    | ptrs s a n a1 a2 h =>
      have hb := hasW_bound hs h
      have e1 : IntKind.i64.wrap (a + i) = a + i := i64_same (by omega) (by omega)
      simp [hd, e1]
      refine sc_call (raAt_spec hs s (a + i)) rfl ?_
      simp
      exact frz_is rfl rfl
    | comp s a d k n a1 a2 a3 a4 a5 a6 h =>
      have hb := hasW_bound hs h
      have hn : i < n := by simpa [nk] using hi1
      have m1 : 0 ≤ i * (d + k) := Int.mul_nonneg hi0 (by omega)
      have m2 : i * (d + k) ≤ n * (d + k) := mul_le_of (by omega) (by omega)
      have e1 : IntKind.i64.wrap (d + k) = d + k := i64_same (by omega) (by omega)
      have e2 : IntKind.i64.wrap (i * (d + k)) = i * (d + k) := i64_same (by omega) (by omega)
      have e3 : IntKind.i64.wrap (a + i * (d + k)) = a + i * (d + k) := i64_same (by omega) (by omega)
      simp [hd, e1, e2, e3]
      exact frz_is rfl rfl
    | atom n a1 a2 => simp [nk] at hi1; omega
theorem raWords_spec {l : List (List Int)} (hs : Sg l) {r : Rf} (hr : RfOk l r) : G.Spec Try.prog 91 [raX r, sgs l] (uws (wordsR l r)) := by
  refine spec_of t_centoref09_Ref_Words (by simp) fun w0 I0 => ?_
  unfold c_centoref09_Ref_Words
  by_cases h10 : r.kind = 10
  · simp [h10]
    have : wordsR l r = [r.n] := by simp [wordsR, h10]
    rw [this]
    exact frz_sl
  by_cases h1 : r.kind = 1
  · cases hr with
    | str s a d k a1 a2 a3 a4 h =>
      obtain ⟨q1, q2, q3, q4, q5, q6, q7⟩ := hasW_in h
      have hbd := hasW_bound hs h
      have e1 : IntKind.i64.wrap (a + d) = a + d := i64_same (by omega) (by omega)
      have g1 : a ≤ a + d := by omega
      have g2 : a + d ≤ l[s.toNat].length := by omega
      have g3 := hs.b _ (List.getElem_mem q5)
      have g4 : 0 ≤ a + d := by omega
      have g5 : a.toNat ≤ (a + d).toNat := by omega
      have g6 : (a + d).toNat ≤ l[s.toNat].length := by omega
      have g7 : max (a + d) 0 = a + d := by omega
      simp [e1, q1, q2, q3, q5, g1, g2, g4, g5, g6, g7]
      have gl : (List.take ((a + d).toNat - a.toNat) (List.drop a.toNat (List.map uv l[s.toNat]))) = (part l s a d).map uv := by
        simp only [part, q6, Option.getD_some, List.map_take, List.map_drop]
        congr 1
        omega
      refine ⟨by omega, ?_⟩
      rw [gl]
      have : wordsR l ⟨1, s, a, d, k, 0, 0⟩ = part l s a d := by simp [wordsR]
      rw [this]
      exact frz_row (sz := 1) (by simp) (by simp [part, q6]; omega) (by simp)
    | dat c s a n a1 a2 a3 a4 h => simp at h1; omega
    | _ => simp [Rf.zero] at h1
  · have : wordsR l r = [] := by simp [wordsR, h1, h10]
    rw [this]
    simp [h1, h10]
    exact frz_sl
end Go.Proofs.Ytigdcnlhgelkaaa

/-
  Chapter 10's reference: what a value means.
-/
namespace Go.Proofs.Ytigdcnlhgelkaaa
set_option linter.unusedVariables false
set_option linter.unusedSimpArgs false
open Go Go.G Go.Proofs Go.PL

/-! ### plain -/
abbrev LB (l : List (List Int)) (B : Int) (rec : Rf → Int → T × Int × Int) : Prop := ∀ r, RfOk l r → ∀ left : Int, 0 ≤ left → left ≤ B → 0 ≤ (rec r left).2.1 ∧ (rec r left).2.1 ≤ B
theorem loopM_lb {B : Int} {f : Nat → Int → T × Int × Int} (hf : ∀ i left, 0 ≤ left → left ≤ B → 0 ≤ (f i left).2.1 ∧ (f i left).2.1 ≤ B) : ∀ (m i : Nat) (acc : List T) (left : Int), 0 ≤ left → left ≤ B → 0 ≤ (loopM f m i acc left).2.1 ∧ (loopM f m i acc left).2.1 ≤ B
  | 0, i, acc, left, h0, h1 => ⟨h0, h1⟩
  | m + 1, i, acc, left, h0, h1 => by
    rw [loopM]
    have := hf i left h0 h1
    split
    · exact this
    · exact loopM_lb hf m _ _ _ this.1 this.2
theorem stepM_lb {l : List (List Int)} (hw : Wds l) {B : Int} {rec : Rf → Int → T × Int × Int} (h : LB l B rec) {r : Rf} (hr : RfOk l r) (i : Nat) (left : Int) (h0 : 0 ≤ left) (h1 : left ≤ B) : 0 ≤ (stepM l rec r i left).2.1 ∧ (stepM l rec r i left).2.1 ≤ B := by
  unfold stepM
  split
  · exact ⟨h0, h1⟩
  · exact h _ (kid_ok hw hr i) _ h0 h1
theorem kidsM_lb {l : List (List Int)} (hw : Wds l) {B : Int} {rec : Rf → Int → T × Int × Int} (h : LB l B rec) : LB l B (kidsM l rec) := fun r hr left h0 h1 =>
  loopM_lb (stepM_lb hw h hr) _ _ _ _ h0 h1
theorem leafM_lb {l : List (List Int)} {B : Int} : LB l B (leafM l) := fun r hr left h0 h1 => ⟨h0, h1⟩
theorem costM_pos {l : List (List Int)} {r : Rf} (hr : RfOk l r) : 1 ≤ costM r ∧ costM r ≤ 100000000000000 := by
  cases hr with
  | zero => simp [costM, nk, Rf.zero]
  | str s a d k a1 a2 a3 a4 h => simp [costM]; omega
  | dat c s a n a1 a2 a3 a4 h => simp [costM, nk]; rw [if_neg (by omega), if_neg (by omega), if_neg (by omega)]; omega
  | ptrs s a n a1 a2 h => simp [costM, nk]; omega
  | comp s a d k n a1 a2 a3 a4 a5 a6 h =>
    simp [costM]
    have m1 : 0 ≤ n * (1 + d + k) := Int.mul_nonneg (by omega) (by omega)
    have m2 : n * (1 + d + k) ≤ 536870912 * (1 + d + k) := mul_le_of (by omega) (by omega)
    omega
  | atom n a1 a2 => simp [costM, nk]
theorem restM_lb {l : List (List Int)} (hw : Wds l) {B : Int} {r : Rf} (hr : RfOk l r) {rec1 rec2 : Rf → Int → T × Int × Int} (h1 : LB l B rec1) (h2 : LB l B rec2) {left : Int} (h3 : ¬ left < costM r) (h4 : left ≤ B) : 0 ≤ (restM l r rec1 rec2 left).2.1 ∧ (restM l r rec1 rec2 left).2.1 ≤ B := by
  have := costM_pos hr
  unfold restM
  refine loopM_lb (stepM_lb hw ?_ hr) _ _ _ _ (by omega) (by omega)
  split
  · exact kidsM_lb hw h2
  · split
    · exact h1
    · exact leafM_lb
theorem meaning_lb {l : List (List Int)} (hw : Wds l) {B : Int} : ∀ d : Nat, LB l B (meaning l d)
  | 0, r, hr, left, h0, h1 => by
    rw [meaning]; split <;> exact ⟨h0, h1⟩
  | 1, r, hr, left, h0, h1 => by
    rw [meaning]
    split
    · exact ⟨h0, h1⟩
    · split
      · exact ⟨h0, h1⟩
      · split
        · exact ⟨h0, h1⟩
        · rename_i hc
          exact restM_lb hw hr (meaning_lb hw 0) (fun r hr left h0 h1 => ⟨h0, h1⟩) hc h1
  | d + 2, r, hr, left, h0, h1 => by
    rw [meaning]
    split
    · exact ⟨h0, h1⟩
    · split
      · exact ⟨h0, h1⟩
      · rename_i hc
        exact restM_lb hw hr (meaning_lb hw (d + 1)) (meaning_lb hw d) hc h1

/-! ### the walks -/
abbrev M3 (x : T × Int × Int) : A := .tup [tX x.1, iv x.2.1, iv x.2.2]
abbrev raL (r : Rf) : List A := [iv r.kind, iv r.s, iv r.at_, iv r.data, iv r.kids, iv r.count, uv r.n]
abbrev RecS (l : List (List Int)) (g : FuncId) (d : Nat) (B : Int) (rec : Rf → Int → T × Int × Int) : Prop := ∀ r, RfOk l r → ∀ left : Int, 0 ≤ left → left ≤ B → G.Spec Try.prog g [sgs l, raX r, iv d, iv left] (M3 (rec r left))
abbrev zT : List A := [iv 0, .sl true [], .sl true []]
theorem kids_in {l : List (List Int)} {r : Rf} (hr : RfOk l r) : 0 ≤ r.kids ∧ r.kids < 65536 := by
  cases hr <;> simp [Rf.zero] <;> omega

section
variable {n0 : Nat} {w0 : World} {I0 : Nat → Prop} {Q : Exit → Sta → Prop}
theorem rkids_l1 {l : List (List Int)} (hs : Sg l) {r : Rf} (hr : RfOk l r) {rec : Rf → Int → T × Int × Int} {d : Nat} {B : Int} (hrec : RecS l 57 d B rec) (hlb : LB l B rec) {W : List Int} {ks : List T} {lf e : Int} : ∀ (m i u : Nat) (acc : List T) (left : Int) (H : Hp), (i : Int) + m = r.kids → acc.length = i → 0 ≤ left → left ≤ B → H [0] = ⟨1, .cells (raL r)⟩ → H [1] = ⟨1, .cells zT⟩ → H [2] = ⟨1, .cells [iv 1, uws W, .osl [5] u 3 0 i]⟩ → H [5] = ⟨u, .arr 3 (acc.map tA)⟩ → loopM (stepM l rec r) m i acc left = (ks, lf, e) →
    (e = 0 → ∀ i' q u' H', H' [1] = ⟨1, .cells zT⟩ → H' [2] = ⟨1, .cells [iv 1, uws W, .osl [5] u' 3 0 ks.length]⟩ → H' [5] = ⟨u', .arr 3 (ks.map tA)⟩ → Q (.exit 0) ⟨lk [(0, sgs l), (2, iv d), (3, iv lf), (5, .pob [0] 1 0), (8, .pob [1] 1 0), (11, .pob [2] 1 0), (12, iv i'), (25, bv q)], H'⟩) →
    (e ≠ 0 → ∀ u' H', H' [1] = ⟨1, .cells [iv 1, uws W, .osl [5] u' 3 0 ks.length]⟩ → H' [5] = ⟨u', .arr 3 (ks.map tA)⟩ → Q .ret ⟨lk [(8, .pob [1] 1 0), (9, iv lf), (10, iv e)], H'⟩) →
    LoopC (cx Try.prog w0 I0 n0) l1_centoref10_kids Q ⟨lk [(0, sgs l), (2, iv d), (3, iv left), (5, .pob [0] 1 0), (8, .pob [1] 1 0), (11, .pob [2] 1 0), (12, iv i)], H⟩ := by
  have hb := kids_in hr
  intro m
  induction m with
  | zero =>
    intro i u acc left H hi ha h0 h1 hA hR hO hK hX hq hq2
    have : (i : Int) = r.kids := by omega
    rw [loopM] at hX
    cases hX
    refine loopC_once mixed l1_centoref10_kids.eq_1 ?_
    simp [hA, this]
    refine hq rfl _ _ u H hR (by rw [hO, ha]) hK
  | succ m ihm =>
    intro i u acc left H hi ha h0 h1 hA hR hO hK hX hq hq2
    have hlt : (i : Int) < r.kids := by omega
    have ei : IntKind.i64.wrap ((i : Int) + 1) = ((i + 1 : Nat) : Int) := i64_same (by omega) (by omega)
    rw [loopM] at hX
    refine loopC_once mixed l1_centoref10_kids.eq_1 ?_
    simp [hA, hlt]
    refine sc_call (raKid_spec hs hr i) (by simp) ?_
    by_cases he : (kidP l r i).2 = 0
    · have hst : stepM l rec r i left = rec (kidP l r i).1 left := by rw [stepM, if_neg (by omega)]
      rw [hst] at hX
      have hlb' := hlb _ (kid_ok hs.w hr i) left h0 h1
      simp [he, hA, hR, hO, hK, updF_app]
      refine sc_call (hrec _ (kid_ok hs.w hr i) left h0 h1) (by simp) ?_
      generalize hy : rec (kidP l r i).1 left = y at hX hlb'
      obtain ⟨y, yl, ye⟩ := y
      simp only at hX hlb'
      by_cases hye : ye = 0
      · rw [if_neg (by simp [hye])] at hX
        simp [hye, hA, hR, hO, hK, updF_app]
        have hrow : List.take i (acc.map tA) ++ [tX y] = (acc ++ [y]).map tA := by rw [List.take_of_length_le (by simp; omega)]; simp
        have hrow' : List.take i (acc.map tA) = acc.map tA := List.take_of_length_le (by simp; omega)
        rw [ei]
        refine ⟨⟨by omega, by omega⟩, ?_⟩
        exact ihm (i + 1) (u + 1) (acc ++ [y]) yl _ (by omega) (by simp [ha]) hlb'.1 hlb'.2 (by simp [updF_app, hA]) (by simp [updF_app, hR]) (by simp [updF_app]) (by simp [updF_app, hrow']) hX hq hq2
      · rw [if_pos hye] at hX
        simp only [Prod.mk.injEq] at hX
        obtain ⟨rfl, rfl, rfl⟩ := hX
        simp [hye, hA, hR, hO, hK, updF_app]
        refine hq2 hye u _ ?_ ?_
        · simp [updF_app, hR, ha]
        · simp [updF_app, hK]
    · have hst : stepM l rec r i left = (T0, left, (kidP l r i).2) := by rw [stepM, if_pos he]
      rw [hst, if_pos he] at hX
      simp only [Prod.mk.injEq] at hX
      obtain ⟨rfl, rfl, rfl⟩ := hX
      simp [he, hA, hR, hO, hK, updF_app]
      refine hq2 he u _ ?_ ?_
      · simp [updF_app, hR, ha]
      · simp [updF_app, hK]
end
theorem rkids_spec {l : List (List Int)} (hs : Sg l) {rec : Rf → Int → T × Int × Int} {d : Nat} {B : Int} (hrec : RecS l 57 d B rec) (hlb : LB l B rec) : RecS l 94 d B (kidsM l rec) := fun r hr left h0 h1 => by
  have hb := kids_in hr
  refine spec_of t_centoref10_kids (by simp) fun w0 I0 => ?_
  unfold c_centoref10_kids
  simp
  refine sc_call (raWords_spec hs hr) (by simp) ?_
  simp
  refine LoopC.le (le_blankC (d := [2]) 2 [5] 3 rfl rfl (by simp)) ?_
  simp
  generalize hX : loopM (stepM l rec r) r.kids.toNat 0 [] left = X
  obtain ⟨ks, lf, e⟩ := X
  have fin : ∀ (H : Hp) (u : Nat), H [5] = ⟨u, .arr 3 (ks.map tA)⟩ → Frz H (.tup [.agg [iv 1, uws (wordsR l r), .osl [5] u 3 0 ks.length], iv lf, iv e]) (M3 (kidsM l rec r left)) := fun H u hH => by
    unfold kidsM
    rw [hX]
    refine frz_tup ?_
    simp
    refine ⟨frz_agg ?_, frz_bare rfl, frz_bare rfl⟩
    simp
    exact ⟨frz_bare rfl, frz_bare rfl, frz_row (by simp [hH]) rfl (by simp)⟩
  refine rkids_l1 (W := wordsR l r) hs hr hrec hlb r.kids.toNat 0 1 [] left _ (by omega) rfl h0 h1 (by simp) (by simp) (by simp) (by simp) hX (fun he i' q u' H' hR hO hK => ?_) (fun he u' H' hR hK => ?_)
  · simp [hR, hO, hK, updF_app]
    rw [← he]
    exact fin _ u' (by simp [updF_app, hK])
  · simp [hR, hK, updF_app]
    exact fin _ u' hK
end Go.Proofs.Ytigdcnlhgelkaaa

/-
  Chapter 10's reference: what a value means, whole.
-/
namespace Go.Proofs.Ytigdcnlhgelkaaa
set_option linter.unusedVariables false
set_option linter.unusedSimpArgs false
open Go Go.G Go.Proofs Go.PL

/-- A tree whose kids were never made. -/
def rawT (b : Bool) (t : T) : A := if b = true then .agg [iv t.kind, uws t.words, .sl true []] else tA t
theorem frz_raw {H : Hp} {o : Nm} {u n : Nat} {b : Bool} {l : List T} (h : vr (H o) u = some (3, l.map (rawT b))) (hn : n = l.length) (hb : b = true → ∀ t, t ∈ l → t.kids = []) : Frz H (.osl o u 3 0 n) (tKs l) := by
  subst hn
  cases b with
  | false =>
    have e : rawT false = tA := by funext t; simp [rawT]
    rw [e] at h
    exact frz_row (by simpa using h) rfl (by simp)
  | true =>
    refine frz_osl' (xs := l.map (rawT true)) (by simpa using h) (by simp) (by simp) (fun y hy => ?_) ?_ ?_
    · obtain ⟨x, hx, rfl⟩ := List.mem_map.1 hy
      simp
    · simp only [A.ones, List.all_eq_true, List.mem_flatMap]
      rintro y ⟨z, hz, hy⟩
      obtain ⟨x, hx, rfl⟩ := List.mem_map.1 hz
      simp at hy
      rcases hy with rfl | rfl | rfl <;> rfl
    · rw [List.drop_zero, List.take_of_length_le (by simp)]
      have : ∀ (m : List T), (∀ x, x ∈ m → x ∈ l) → FrzL H ((m.map (rawT true)).flatMap A.cells) ((m.map tA).flatMap A.cells) := by
        intro m
        induction m with
        | nil => intro _; simp
        | cons x m ih =>
          intro hm
          have := hb rfl x (hm x (by simp))
          have := ih fun y hy => hm y (by simp [hy])
          simp [rawT] at this ⊢
          exact ⟨frz_bare rfl, frz_bare rfl, by rw [hb rfl x (hm x (by simp))]; exact frz_sl, this⟩
      exact this l fun x hx => hx

def recM (l : List (List Int)) (r : Rf) (rec1 rec2 : Rf → Int → T × Int × Int) : Rf → Int → T × Int × Int := if r.kind = 9 then kidsM l rec2 else if r.kind = 1 ∨ r.kind = 8 then rec1 else leafM l
def leafB (r : Rf) : Bool := !(decide (r.kind = 9) || decide (r.kind = 1) || decide (r.kind = 8))
theorem leaf_kids {l : List (List Int)} {r : Rf} {rec1 rec2 : Rf → Int → T × Int × Int} (hb : leafB r = true) : ∀ (m i : Nat) (acc : List T) (left : Int), (∀ t, t ∈ acc → t.kids = []) → ∀ t, t ∈ (loopM (stepM l (recM l r rec1 rec2) r) m i acc left).1 → t.kids = []
  | 0, i, acc, left, ha, t, ht => ha t ht
  | m + 1, i, acc, left, ha, t, ht => by
    have e : recM l r rec1 rec2 = leafM l := by
      simp [leafB] at hb
      rw [recM, if_neg hb.1.1, if_neg (by omega)]
    rw [loopM] at ht
    split at ht
    · exact ha t ht
    · refine leaf_kids hb m _ _ _ (fun t ht => ?_) t ht
      rcases List.mem_append.1 ht with h | h
      · exact ha t h
      · simp only [List.mem_singleton] at h
        subst h
        rw [e]
        unfold stepM
        split
        · rfl
        · rfl

section
variable {n0 : Nat} {w0 : World} {I0 : Nat → Prop} {Q : Exit → Sta → Prop}
theorem meaning_l1 {l : List (List Int)} (hs : Sg l) {r : Rf} (hr : RfOk l r) {rec1 rec2 : Rf → Int → T × Int × Int} {d : Nat} (hd : d ≤ 1000) {B : Int}
    (h1 : r.kind = 1 ∨ r.kind = 8 → ∃ d1 : Nat, d = d1 + 1 ∧ RecS l 57 d1 B rec1 ∧ LB l B rec1)
    (h2 : r.kind = 9 → 0 < r.count → ∃ d2 : Nat, d = d2 + 2 ∧ RecS l 94 d2 B (kidsM l rec2) ∧ LB l B (kidsM l rec2))
    {W : List Int} {ks : List T} {lf e : Int} : ∀ (m i u : Nat) (acc : List T) (left : Int) (H : Hp), (i : Int) + m = nk r → acc.length = i → 0 ≤ left → left ≤ B → H [0] = ⟨1, .cells (raL r)⟩ → H [1] = ⟨1, .cells zT⟩ → H [2] = ⟨1, .cells [iv r.kind, uws W, .osl [5] u 3 0 i]⟩ → H [5] = ⟨u, .arr 3 (acc.map (rawT (leafB r)))⟩ → loopM (stepM l (recM l r rec1 rec2) r) m i acc left = (ks, lf, e) →
    (e = 0 → ∀ i' q u' H', H' [1] = ⟨1, .cells zT⟩ → H' [2] = ⟨1, .cells [iv r.kind, uws W, .osl [5] u' 3 0 ks.length]⟩ → H' [5] = ⟨u', .arr 3 (ks.map (rawT (leafB r)))⟩ → Q (.exit 0) ⟨lk [(0, sgs l), (2, iv d), (3, iv lf), (5, .pob [0] 1 0), (8, .pob [1] 1 0), (11, .pob [2] 1 0), (13, iv i'), (82, bv q)], H'⟩) →
    (e ≠ 0 → ∀ u' H', H' [1] = ⟨1, .cells [iv r.kind, uws W, .osl [5] u' 3 0 ks.length]⟩ → H' [5] = ⟨u', .arr 3 (ks.map (rawT (leafB r)))⟩ → Q .ret ⟨lk [(8, .pob [1] 1 0), (9, iv lf), (10, iv e)], H'⟩) →
    LoopC (cx Try.prog w0 I0 n0) l1_centoref10_Meaning Q ⟨lk [(0, sgs l), (2, iv d), (3, iv left), (5, .pob [0] 1 0), (8, .pob [1] 1 0), (11, .pob [2] 1 0), (13, iv i)], H⟩ := by
  have hb := nk_nonneg hr
  intro m
  induction m with
  | zero =>
    intro i u acc left H hi ha h0 hl hA hR hO hK hX hq hq2
    have : (i : Int) = nk r := by omega
    rw [loopM] at hX
    cases hX
    refine loopC_once mixed l1_centoref10_Meaning.eq_1 ?_
    simp [hA]
    refine sc_call (raKids_spec r) (by simp) ?_
    simp [this]
    refine hq rfl _ _ u H hR (by rw [hO, ha]) hK
  | succ m ihm =>
    intro i u acc left H hi ha h0 hl hA hR hO hK hX hq hq2
    have hlt : (i : Int) < nk r := by omega
    have ei : IntKind.i64.wrap ((i : Int) + 1) = ((i + 1 : Nat) : Int) := i64_same (by omega) (by omega)
    have hrow : List.take i (acc.map (rawT (leafB r))) = acc.map (rawT (leafB r)) := List.take_of_length_le (by simp; omega)
    rw [loopM] at hX
    refine loopC_once mixed l1_centoref10_Meaning.eq_1 ?_
    simp [hA]
    refine sc_call (raKids_spec r) (by simp) ?_
    simp [hA, hlt]
    refine sc_call (raKid_spec hs hr i) (by simp) ?_
    have hok := kid_ok hs.w hr i
    have next : ∀ (y : T) (yl ye : Int), stepM l (recM l r rec1 rec2) r i left = (y, yl, ye) → ye = 0 → 0 ≤ yl → yl ≤ B → ∀ (x : A) (H' : Hp), rawT (leafB r) y = x → H' [0] = ⟨1, .cells (raL r)⟩ → H' [1] = ⟨1, .cells zT⟩ → H' [2] = ⟨1, .cells [iv r.kind, uws W, .osl [5] (u + 1) 3 0 (i + 1)]⟩ → H' [5] = ⟨u + 1, .arr 3 (acc.map (rawT (leafB r)) ++ [x])⟩ →
        LoopC (cx Try.prog w0 I0 n0) l1_centoref10_Meaning Q ⟨lk [(0, sgs l), (2, iv d), (3, iv yl), (5, .pob [0] 1 0), (8, .pob [1] 1 0), (11, .pob [2] 1 0), (13, iv ((i + 1 : Nat) : Int))], H'⟩ := fun y yl ye hy he y0 y1 x H' hx a0 a1 a2 a5 => by
      rw [hy, if_neg (by simp [he])] at hX
      exact ihm (i + 1) (u + 1) (acc ++ [y]) yl H' (by omega) (by simp [ha]) y0 y1 a0 a1 a2 (by rw [a5, ← hx]; simp) hX hq hq2
    by_cases he : (kidP l r i).2 = 0
    · have hst : stepM l (recM l r rec1 rec2) r i left = recM l r rec1 rec2 (kidP l r i).1 left := by rw [stepM, if_neg (by omega)]
      rw [hst] at hX next
      simp [he, hA, hR, hO, hK, updF_app]
      refine sc_call (raWords_spec hs hok) (by simp) ?_
      simp [he, hA, hR, hO, hK, updF_app]
      by_cases h9 : r.kind = 9
      · have hrec : recM l r rec1 rec2 = kidsM l rec2 := by rw [recM, if_pos h9]
        have hlf : leafB r = false := by simp [leafB, h9]
        rw [hrec] at hX next
        obtain ⟨d2, ed, hsp, hlb⟩ := h2 h9 (by unfold nk at hlt; rw [if_neg (by omega)] at hlt; omega)
        have e2 : IntKind.i64.wrap ((d : Int) - 2) = (d2 : Int) := by rw [i64_same (by omega) (by omega)]; omega
        have hlb' := hlb _ hok left h0 hl
        simp [h9, e2, hA, updF_app]
        refine sc_call (hsp _ hok left h0 hl) (by simp) ?_
        generalize hy : kidsM l rec2 (kidP l r i).1 left = y at hX hlb' next
        obtain ⟨y, yl, ye⟩ := y
        simp only at hX hlb'
        rw [k1_centoref10_Meaning.eq_1]
        by_cases hye : ye = 0
        · simp [hye, hA, hR, hO, hK, updF_app, hrow]
          rw [ei]
          refine ⟨⟨by omega, by omega⟩, ?_⟩
          refine next y yl ye rfl hye hlb'.1 hlb'.2 _ _ rfl ?_ ?_ ?_ ?_
          · simp [updF_app, hA]
          · simp [updF_app, hR]
          · simp [updF_app, h9]
          · simp [updF_app, hlf, rawT]
        · rw [if_pos hye] at hX
          simp only [Prod.mk.injEq] at hX
          obtain ⟨rfl, rfl, rfl⟩ := hX
          simp [hye, hA, hR, hO, hK, updF_app]
          refine hq2 hye u _ ?_ ?_
          · simp [updF_app, hR, ha, h9]
          · simp [updF_app, hK]
      · by_cases h18 : r.kind = 1 ∨ r.kind = 8
        · have hrec : recM l r rec1 rec2 = rec1 := by rw [recM, if_neg h9, if_pos h18]
          have hlf : leafB r = false := by rcases h18 with h | h <;> simp [leafB, h]
          have hdc : (decide (r.kind = 1) || decide (r.kind = 8)) = true := by simpa using h18
          rw [hrec] at hX next
          obtain ⟨d1, ed, hsp, hlb⟩ := h1 h18
          have e2 : IntKind.i64.wrap ((d : Int) - 1) = (d1 : Int) := by rw [i64_same (by omega) (by omega)]; omega
          have hlb' := hlb _ hok left h0 hl
          simp [h9, hdc, e2, hA, updF_app]
          refine ⟨fun _ => ?_, fun a b => by omega⟩
          refine sc_call (hsp _ hok left h0 hl) (by simp) ?_
          generalize hy : rec1 (kidP l r i).1 left = y at hX hlb' next
          obtain ⟨y, yl, ye⟩ := y
          simp only at hX hlb'
          rw [k1_centoref10_Meaning.eq_1]
          by_cases hye : ye = 0
          · simp [hye, hA, hR, hO, hK, updF_app, hrow]
            rw [ei]
            refine ⟨⟨by omega, by omega⟩, ?_⟩
            refine next y yl ye rfl hye hlb'.1 hlb'.2 _ _ rfl ?_ ?_ ?_ ?_
            · simp [updF_app, hA]
            · simp [updF_app, hR]
            · simp [updF_app]
            · simp [updF_app, hlf, rawT]
          · rw [if_pos hye] at hX
            simp only [Prod.mk.injEq] at hX
            obtain ⟨rfl, rfl, rfl⟩ := hX
            simp [hye, hA, hR, hO, hK, updF_app]
            refine hq2 hye u _ ?_ ?_
            · simp [updF_app, hR, ha]
            · simp [updF_app, hK]
        · have hrec : recM l r rec1 rec2 = leafM l := by rw [recM, if_neg h9, if_neg h18]
          have hlf : leafB r = true := by simp [leafB]; omega
          have hdc : (decide (r.kind = 1) || decide (r.kind = 8)) = false := by simpa using h18
          rw [hrec] at next
          simp [h9, hdc, hA, updF_app]
          rw [k1_centoref10_Meaning.eq_1]
          simp [he, hA, hR, hO, hK, updF_app, hrow]
          rw [ei]
          refine ⟨fun h => absurd h h18, fun _ _ => ⟨⟨by omega, by omega⟩, ?_⟩⟩
          refine next _ _ _ rfl rfl h0 hl _ _ rfl ?_ ?_ ?_ ?_
          · simp [updF_app, hA]
          · simp [updF_app, hR]
          · simp [updF_app]
          · simp [updF_app, hlf, rawT]
    · have hst : stepM l (recM l r rec1 rec2) r i left = (T0, left, (kidP l r i).2) := by rw [stepM, if_pos he]
      rw [hst, if_pos he] at hX
      simp only [Prod.mk.injEq] at hX
      obtain ⟨rfl, rfl, rfl⟩ := hX
      simp [he, hA, hR, hO, hK, updF_app]
      refine hq2 he u _ ?_ ?_
      · simp [updF_app, hR, ha]
      · simp [updF_app, hK]
end
theorem meaning_step {l : List (List Int)} (hs : Sg l) {r : Rf} (hr : RfOk l r) {rec1 rec2 : Rf → Int → T × Int × Int} {d : Nat} (hd : d ≤ 1000) {B : Int} (hB : B ≤ 1000000)
    (h1 : r.kind = 1 ∨ r.kind = 8 → 0 < d → ∃ d1 : Nat, d = d1 + 1 ∧ RecS l 57 d1 B rec1 ∧ LB l B rec1)
    (h2 : r.kind = 9 → 0 < r.count → 1 < d → ∃ d2 : Nat, d = d2 + 2 ∧ RecS l 94 d2 B (kidsM l rec2) ∧ LB l B (kidsM l rec2))
    {left : Int} (h0 : 0 ≤ left) (hl : left ≤ B) {X : T × Int × Int} (hX : X = if r.kind = 0 then leafM l r left else if d < 1 ∨ (r.kind = 9 ∧ 0 < r.count ∧ d < 2) then stopM l r left else if left < costM r then stopM l r left else restM l r rec1 rec2 left) : G.Spec Try.prog 57 [sgs l, raX r, iv d, iv left] (M3 X) := by
  have hb := nk_nonneg hr
  have hc := costM_pos hr
  refine spec_of t_centoref10_Meaning (by simp) fun w0 I0 => ?_
  unfold c_centoref10_Meaning
  simp
  refine sc_call (raWords_spec hs hr) (by simp) ?_
  have leaf : ∀ (H : Hp) (k lf e : Int) (X : T × Int × Int), X = (.mk k (wordsR l r) [], lf, e) → Frz H (.tup [.agg [iv k, uws (wordsR l r), .sl true []], iv lf, iv e]) (M3 X) := fun H k lf e X hX => by
    rw [hX]
    exact frz_tup (by simp; exact ⟨frz_agg (by simp; exact ⟨frz_bare rfl, frz_bare rfl, frz_sl⟩), frz_bare rfl, frz_bare rfl⟩)
  by_cases k0 : r.kind = 0
  · rw [if_pos k0, leafM, k0] at hX
    simp [k0]
    exact leaf _ _ _ _ _ hX
  rw [if_neg k0] at hX
  by_cases hst : d < 1 ∨ (r.kind = 9 ∧ 0 < r.count ∧ d < 2)
  · have hd : (decide ((d : Int) < 1) || ((decide (r.kind = 9) && decide (0 < r.count)) && decide ((d : Int) < 2))) = true := by simp; omega
    rw [if_pos hst, stopM] at hX
    by_cases d0 : (d : Int) < 1
    · simp [k0, d0]
      exact leaf _ _ _ _ _ hX
    · have h9 : r.kind = 9 := by omega
      have hcn : 0 < r.count := by omega
      have d2 : (d : Int) < 2 := by omega
      simp [k0, d0, h9, hcn, d2]
      rw [h9] at hX
      exact leaf _ _ _ _ _ hX
  rw [if_neg hst] at hX
  have d0 : ¬ (d : Int) < 1 := by omega
  have fin : ∀ (H : Hp), H [0] = ⟨1, .cells (raL r)⟩ → H [1] = ⟨1, .cells zT⟩ → H [2] = ⟨1, .cells [iv r.kind, uws (wordsR l r), .sl true []]⟩ → H [5] = ⟨0, .none⟩ → WPC (cx Try.prog w0 I0 149) k2_centoref10_Meaning (RetC Try.prog [.cell 8 25, .tmp 9, .tmp 10] (M3 X)) ⟨lk [(0, sgs l), (2, iv d), (3, iv left), (5, .pob [0] 1 0), (8, .pob [1] 1 0), (11, .pob [2] 1 0), (12, iv (costM r))], H⟩ := fun H hA hR hO hN => by
    rw [k2_centoref10_Meaning.eq_1]
    by_cases hlc : left < costM r
    · rw [if_pos hlc, stopM] at hX
      simp [hlc, hA, hR, hO, updF_app]
      exact leaf _ _ _ _ _ hX
    · rw [if_neg hlc, restM] at hX
      have ew : IntKind.i64.wrap (left - costM r) = left - costM r := i64_same (by omega) (by omega)
      simp [hlc, hA, hR, hO, updF_app, ew]
      have hX' : X = (.mk r.kind (wordsR l r) (loopM (stepM l (recM l r rec1 rec2) r) (nk r).toNat 0 [] (left - costM r)).1, (loopM (stepM l (recM l r rec1 rec2) r) (nk r).toNat 0 [] (left - costM r)).2.1, (loopM (stepM l (recM l r rec1 rec2) r) (nk r).toNat 0 [] (left - costM r)).2.2) := hX
      have hleaf := fun hb => leaf_kids (rec1 := rec1) (rec2 := rec2) (l := l) (r := r) hb (nk r).toNat 0 [] (left - costM r) (by simp)
      generalize hY : loopM (stepM l (recM l r rec1 rec2) r) (nk r).toNat 0 [] (left - costM r) = Y at hX' hleaf
      obtain ⟨ks, lf, e⟩ := Y
      have done : ∀ (H : Hp) (u : Nat), H [5] = ⟨u, .arr 3 (ks.map (rawT (leafB r)))⟩ → Frz H (.tup [.agg [iv r.kind, uws (wordsR l r), .osl [5] u 3 0 ks.length], iv lf, iv e]) (M3 X) := fun H u hH => by
        rw [hX']
        exact frz_tup (by simp; exact ⟨frz_agg (by simp; exact ⟨frz_bare rfl, frz_bare rfl, frz_raw (by simp [hH]) rfl hleaf⟩), frz_bare rfl, frz_bare rfl⟩)
      refine LoopC.le (le_blankC (d := [2]) 2 [5] 3 hO rfl (by simp)) ?_
      refine meaning_l1 (W := wordsR l r) hs hr hd (fun k => h1 k (by omega)) (fun k k' => h2 k k' (by omega)) (nk r).toNat 0 1 [] (left - costM r) _ (by omega) rfl (by omega) (by omega) (by simp [updF_app, hA]) (by simp [updF_app, hR]) (by simp [updF_app, hN]) (by simp [updF_app, hN]) hY (fun he i' q u' H' hR hO hK => ?_) (fun he u' H' hR hK => ?_)
      · simp [hR, hO, hK, updF_app]
        rw [← he]
        exact done _ u' (by simp [updF_app, hK])
      · simp [hR, hK, updF_app]
        exact done _ u' hK
  have b0 : decide (r.kind = 0) = false := by simpa using k0
  have hst' : ((decide (r.kind = 9) && decide (0 < r.count)) && decide ((d : Int) < 2)) = false := by
    simp only [Bool.and_eq_false_iff, decide_eq_false_iff_not]
    omega
  simp [b0, d0, hst']
  refine sc_call (raKids_spec r) (by simp) ?_
  have ek : IntKind.i64.wrap (1 + nk r) = 1 + nk r := i64_same (by omega) (by omega)
  by_cases k1 : r.kind = 1
  · have b1 : decide (r.kind = 1) = true := by simpa using k1
    have b9 : decide (r.kind = 9) = false := by simp [k1]
    have ec : IntKind.i64.wrap (IntKind.i64.wrap (1 + r.data) + r.kids) = costM r := by
      cases hr with
      | str s a d k a1 a2 a3 a4 h =>
        rw [i64_same (n := 1 + _) (by simp; omega) (by simp; omega), i64_same (by simp; omega) (by simp; omega)]
        simp [costM]
      | dat c s a n a1 a2 a3 a4 h => simp at k1; omega
      | _ => simp [Rf.zero] at k1
    simp [b1]
    rw [k3_centoref10_Meaning.eq_1]
    simp [b9, ec]
    exact fin _ (by simp) (by simp) (by simp) (by simp)
  · have b1 : decide (r.kind = 1) = false := by simpa using k1
    by_cases k9 : r.kind = 9
    · have b9 : decide (r.kind = 9) = true := by simpa using k9
      have ec : IntKind.i64.wrap (1 + IntKind.i64.wrap (r.count * IntKind.i64.wrap (IntKind.i64.wrap (1 + r.data) + r.kids))) = costM r := by
        have e : costM r = 1 + r.count * (1 + r.data + r.kids) := by simp [costM, k9]
        have hd : 0 ≤ r.data ∧ r.data < 65536 ∧ 0 ≤ r.kids ∧ r.kids < 65536 := by
          cases hr with
          | comp s a d k n a1 a2 a3 a4 a5 a6 h => exact ⟨a1, a2, a3, a4⟩
          | dat c s a n a1 a2 a3 a4 h => simp at k9; omega
          | _ => simp [Rf.zero] at k9
        rw [i64_same (n := 1 + r.data) (by omega) (by omega), i64_same (n := 1 + r.data + r.kids) (by omega) (by omega), i64_same (n := r.count * _) (by omega) (by omega), i64_same (by omega) (by omega), e]
      simp [b1, ek]
      rw [k3_centoref10_Meaning.eq_1]
      simp [b9, ec]
      exact fin _ (by simp) (by simp) (by simp) (by simp)
    · have b9 : decide (r.kind = 9) = false := by simpa using k9
      have ec : 1 + nk r = costM r := by simp [costM, k1, k9]
      have ek' : IntKind.i64.wrap (1 + nk r) = costM r := by rw [ek, ec]
      simp [b1, ek']
      rw [k3_centoref10_Meaning.eq_1]
      simp [b9]
      refine fin _ ?_ ?_ ?_ ?_ <;> simp
theorem meaning_spec {l : List (List Int)} (hs : Sg l) {B : Int} (hB : B ≤ 1000000) : ∀ d : Nat, d ≤ 1000 → RecS l 57 d B (meaning l d)
  | 0, hd, r, hr, left, h0, hl => by
    refine meaning_step hs hr hd hB (rec1 := leafM l) (rec2 := leafM l) (fun _ h => absurd h (by omega)) (fun _ _ h => absurd h (by omega)) h0 hl ?_
    rw [meaning]
    simp
  | 1, hd, r, hr, left, h0, hl => by
    refine meaning_step hs hr hd hB (rec1 := meaning l 0) (rec2 := fun r left => stopM l r left) (fun _ _ => ⟨0, rfl, meaning_spec hs hB 0 (by omega), meaning_lb hs.w 0⟩) (fun _ _ h => absurd h (by omega)) h0 hl ?_
    rw [meaning]
    simp
  | d + 2, hd, r, hr, left, h0, hl => by
    refine meaning_step hs hr hd hB (rec1 := meaning l (d + 1)) (rec2 := meaning l d) (fun _ _ => ⟨d + 1, rfl, meaning_spec hs hB (d + 1) (by omega), meaning_lb hs.w (d + 1)⟩) (fun _ _ _ => ⟨d, rfl, rkids_spec hs (meaning_spec hs hB d (by omega)) (meaning_lb hs.w d), kidsM_lb hs.w (meaning_lb hs.w d)⟩) h0 hl ?_
    have n1 : ¬ (d + 2 < 1 ∨ r.kind = 9 ∧ 0 < r.count ∧ d + 2 < 2) := by omega
    rw [meaning, if_neg n1]
end Go.Proofs.Ytigdcnlhgelkaaa

/-
  Chapter 10's reference: what a message means; chapter 15's law.
-/
namespace Go.Proofs.Ytigdcnlhgelkaaa
set_option linter.unusedVariables false
set_option linter.unusedSimpArgs false
open Go Go.G Go.Proofs Go.PL

def clampZ (x m : Int) : Int := if x < 0 then 0 else if m < x then m else x
theorem within10_spec (x m : Int) : G.Spec Try.prog 88 [iv x, iv m] (iv (clampZ x m)) := by
  refine spec_of t_centoref10_within (by simp) fun w0 I0 => ?_
  unfold c_centoref10_within
  by_cases h : x < 0
  · simp [h]
    exact frz_is rfl (by simp [clampZ, h])
  · by_cases h2 : m < x
    · simp [h, h2]
      exact frz_is rfl (by simp [clampZ, h, h2])
    · simp [h, h2]
      exact frz_is rfl (by simp [clampZ, h, h2])
abbrev liX (a b c d : Int) : A := .agg [iv a, iv b, iv c, iv d]
set_option maxRecDepth 100000 in
theorem limits_spec (a b c d : Int) : G.Spec Try.prog 55 [liX a b c d] (liX (clampZ a 64) (clampZ b 65536) (clampZ c 4096) (clampZ d 131072)) := by
  refine spec_of t_centoref10_Limits (by simp) fun w0 I0 => ?_
  unfold c_centoref10_Limits
  simp
  refine sc_call (within10_spec a 64) rfl ?_
  simp
  refine sc_call (within10_spec b 65536) rfl ?_
  simp
  refine sc_call (within10_spec c 4096) rfl ?_
  simp
  refine sc_call (within10_spec d 131072) rfl ?_
  simp
  exact frz_bare rfl
def lightZ (b : Int) : Int := if 3000 < b then 3000 else b
theorem light_spec (a b c d : Int) : G.Spec Try.prog 19 [liX a b c d] (liX a (lightZ b) c d) := by
  refine spec_of t_centolaw10_Light (by simp) fun w0 I0 => ?_
  unfold c_centolaw10_Light
  by_cases h : 3000 < b
  · simp [h]
    exact frz_is rfl (by simp [lightZ, h])
  · simp [h]
    exact frz_is rfl (by simp [lightZ, h])
/-- What a message means; an error. -/
def unfP (l : List (List Int)) (a b : Int) : T × Int × Int :=
  if (atP l 0 0).2 ≠ 0 then (T0, 0, (atP l 0 0).2)
  else if (meaning l (clampZ a 64).toNat (atP l 0 0).1 (clampZ b 65536)).2.2 ≠ 0 then (T0, 0, (meaning l (clampZ a 64).toNat (atP l 0 0).1 (clampZ b 65536)).2.2)
  else ((meaning l (clampZ a 64).toNat (atP l 0 0).1 (clampZ b 65536)).1, clampZ b 65536 - (meaning l (clampZ a 64).toNat (atP l 0 0).1 (clampZ b 65536)).2.1, 0)
theorem clamp_in (x m : Int) (h : 0 ≤ m) : 0 ≤ clampZ x m ∧ clampZ x m ≤ m := by
  unfold clampZ; split
  · omega
  · split <;> omega
theorem unfold_spec {l : List (List Int)} (hs : Sg l) (a b c d : Int) : G.Spec Try.prog 20 [sgs l, liX a b c d] (M3 (unfP l a b)) := by
  have ha := clamp_in a 64 (by decide)
  have hb := clamp_in b 65536 (by decide)
  refine spec_of t_centoref10_Unfold (by simp) fun w0 I0 => ?_
  unfold c_centoref10_Unfold
  simp
  refine sc_call (limits_spec a b c d) rfl ?_
  simp
  refine sc_call (raAt_spec hs 0 0) rfl ?_
  simp
  unfold unfP
  have hok := at_ok hs.w 0 0
  generalize hx : atP l 0 0 = x at hok
  obtain ⟨r, e⟩ := x
  simp only
  by_cases he : e = 0
  · rw [if_neg (by simp [he])]
    obtain ⟨D, hD⟩ : ∃ D : Nat, clampZ a 64 = (D : Int) := ⟨(clampZ a 64).toNat, by omega⟩
    have hm := meaning_spec hs (B := 65536) (by omega) D (by omega) r hok (clampZ b 65536) hb.1 hb.2
    have hlb := meaning_lb hs.w (B := 65536) D r hok (clampZ b 65536) hb.1 hb.2
    simp [he, hD]
    refine sc_call hm (by simp) ?_
    generalize meaning l D r (clampZ b 65536) = y at hlb
    obtain ⟨t, lf, e2⟩ := y
    simp only at hlb ⊢
    by_cases he2 : e2 = 0
    · have ew : IntKind.i64.wrap (clampZ b 65536 - lf) = clampZ b 65536 - lf := i64_same (by omega) (by omega)
      simp [he2, ew]
      exact frz_bare (tup_bare (by simp))
    · simp [he2]
      exact frz_tup (by simp; exact ⟨frz_T0, frz_bare rfl, frz_bare rfl⟩)
  · rw [if_pos he]
    simp [he]
    exact frz_tup (by simp; exact ⟨frz_T0, frz_bare rfl, frz_bare rfl⟩)
theorem unfold_means {l : List (List Int)} (hs : Sg l) {a b : Int} (h : (unfP l a b).2.2 = 0) : Means l (atP l 0 0).1 (unfP l a b).1 := by
  unfold unfP at h ⊢
  split at h
  · rename_i h0; exact absurd h h0
  · rename_i h0
    rw [if_neg h0]
    split at h
    · rename_i h1; exact absurd h h1
    · rename_i h1
      rw [if_neg h1]
      exact meaning_means hs.w _ _ _ (at_ok hs.w 0 0) (by omega)
/-! ### the law -/
theorem root15_spec {l : List (List Int)} (hs : Sg l) (hl : l.length * 24 ≤ 140737488355328) : G.Spec Try.prog 22 [sgs l] (paX l (atP l 0 0).1) := by
  refine spec_of t_centolaw15_root (by simp) fun w0 I0 => ?_
  unfold c_centolaw15_root
  simp
  refine sc_call (of_spec l hl hs.b) rfl ?_
  simp
  refine sc_call (root_spec hs) rfl ?_
  simp
  exact frz_bare (by simp)
end Go.Proofs.Ytigdcnlhgelkaaa

/-
  Chapter 15: the law EqualGoes.
-/
namespace Go.Proofs.Ytigdcnlhgelkaaa
set_option linter.unusedVariables false
set_option linter.unusedSimpArgs false
open Go Go.G Go.Proofs Go.PL

abbrev s1 : List (List Int) := [[4294967296, 7]]
abbrev s2 : List (List Int) := [[8589934592, 7, 0]]
abbrev s3 : List (List Int) := [[4294967296, 8]]
theorem sg1 : Sg s1 := ⟨fun x hx => by simp at hx; subst hx; simp, fun x hx y hy => by simp at hx; subst hx; simp at hy; omega⟩
theorem sg2 : Sg s2 := ⟨fun x hx => by simp at hx; subst hx; simp, fun x hx y hy => by simp at hx; subst hx; simp at hy; omega⟩
theorem sg3 : Sg s3 := ⟨fun x hx => by simp at hx; subst hx; simp, fun x hx y hy => by simp at hx; subst hx; simp at hy; omega⟩
theorem unf1 : unfP s1 64 3000 = (.mk 1 [7] [], 2, 0) := by kernel_rfl
theorem unf2 : unfP s2 64 3000 = (.mk 1 [7, 0] [], 3, 0) := by kernel_rfl
theorem unf3 : unfP s3 64 3000 = (.mk 1 [8] [], 2, 0) := by kernel_rfl
theorem awake15_spec : G.Spec Try.prog 21 [] (bv true) := by
  have m1 := unfold_means sg1 (a := 64) (b := 3000) (by rw [unf1])
  have m2 := unfold_means sg2 (a := 64) (b := 3000) (by rw [unf2])
  have m3 := unfold_means sg3 (a := 64) (b := 3000) (by rw [unf3])
  rw [unf1] at m1
  rw [unf2] at m2
  rw [unf3] at m3
  have v12 := values_spec sg1 sg2 _ _ _ _ m1 m2
  have v13 := values_spec sg1 sg3 _ _ _ _ m1 m3
  have e12 : eqT (.mk 1 [7] []) (.mk 1 [7, 0] []) = true := eqT_iff.2 (by simp [norm_mk, trimW, trimK])
  have e13 : eqT (.mk 1 [7] []) (.mk 1 [8] []) = false := by
    rw [Bool.eq_false_iff]
    intro h
    have := eqT_iff.1 h
    simp [norm_mk, trimW, trimK] at this
  rw [e12] at v12
  rw [e13] at v13
  refine spec_of t_centolaw15_awake (by simp) fun w0 I0 => ?_
  unfold c_centolaw15_awake
  simp
  refine sc_call ((root15_spec sg1 (by simp)).soft (by simp [A.softL, A.soft])) rfl ?_
  simp
  refine sc_call ((root15_spec sg2 (by simp)).soft (by simp [A.softL, A.soft])) rfl ?_
  simp
  refine sc_call v12 (by simp) ?_
  simp
  refine sc_call ((root15_spec sg1 (by simp)).soft (by simp [A.softL, A.soft])) rfl ?_
  simp
  refine sc_call ((root15_spec sg3 (by simp)).soft (by simp [A.softL, A.soft])) rfl ?_
  simp
  refine sc_call v13 (by simp) ?_
  simp
  exact frz_bare rfl
set_option maxRecDepth 8000 in
theorem EqualGoes_spec {l m k : List (List Int)} (hl : Sg l) (hm : Sg m) (hk : Sg k) (l1 : l.length * 24 ≤ 140737488355328) (m1 : m.length * 24 ≤ 140737488355328) (k1 : k.length * 24 ≤ 140737488355328) (a b c d : Int) : G.Spec Try.prog 4 [sgs l, sgs m, sgs k, liX a b c d] (bv true) := by
  refine spec_of t_centolaw15_EqualGoes (by simp) fun w0 I0 => ?_
  unfold c_centolaw15_EqualGoes
  simp
  refine sc_call (light_spec a b c d) rfl ?_
  simp
  refine sc_call (unfold_spec hl a (lightZ b) c d) rfl ?_
  simp
  refine sc_call (unfold_spec hm a (lightZ b) c d) rfl ?_
  simp
  refine sc_call (unfold_spec hk a (lightZ b) c d) rfl ?_
  have hl' := unfold_means hl (a := a) (b := lightZ b)
  have hm' := unfold_means hm (a := a) (b := lightZ b)
  have hk' := unfold_means hk (a := a) (b := lightZ b)
  generalize unfP l a (lightZ b) = x at hl'
  generalize unfP m a (lightZ b) = y at hm'
  generalize unfP k a (lightZ b) = z at hk'
  obtain ⟨t, _, e1⟩ := x
  obtain ⟨u, _, e2⟩ := y
  obtain ⟨w, _, e3⟩ := z
  simp only at hl' hm' hk'
  by_cases he : e1 = 0 ∧ e2 = 0 ∧ e3 = 0
  · obtain ⟨rfl, rfl, rfl⟩ := he
    have ht := hl' rfl
    have hu := hm' rfl
    have hw := hk' rfl
    have tt : eqT t t = true := eqT_iff.2 rfl
    have tu : eqT u t = eqT t u := by rw [Bool.eq_iff_iff, eqT_iff, eqT_iff]; exact eq_comm
    have tw : eqT t u = true → eqT u w = eqT t w := fun h => by rw [Bool.eq_iff_iff, eqT_iff, eqT_iff, eqT_iff.1 h]
    have v1 := values_spec hl hl _ _ _ _ ht ht
    have v2 := values_spec hl hm _ _ _ _ ht hu
    have v3 := values_spec hm hl _ _ _ _ hu ht
    have v4 := values_spec hm hk _ _ _ _ hu hw
    have v5 := values_spec hl hk _ _ _ _ ht hw
    rw [tt] at v1
    rw [tu] at v3
    generalize eqT t u = p at v2 v3 tw
    generalize eqT u w = q at v4 tw
    generalize eqT t w = s at v5 tw
    simp
    refine sc_call (root15_spec hl l1) (by simp) ?_
    simp
    refine sc_call (root15_spec hm m1) (by simp) ?_
    simp
    refine sc_call (root15_spec hk k1) (by simp) ?_
    simp
    refine sc_call v1 (by simp) ?_
    simp
    refine sc_call v2 (by simp) ?_
    simp
    refine sc_call v3 (by simp) ?_
    simp
    refine sc_call v4 (by simp) ?_
    simp
    refine sc_call v5 (by simp) ?_
    cases p with
    | true =>
      have := tw rfl
      subst this
      cases q <;>
      · simp
        refine sc_call_gt rfl (fun _ => awake15_spec) (fun _ => rfl) rfl ?_
        simp
        exact frz_bare rfl
    | false =>
      cases q <;> cases s <;>
      · simp
        refine sc_call_gt rfl (fun _ => awake15_spec) (fun _ => rfl) rfl ?_
        simp
        exact frz_bare rfl
  · have hd : ((!decide (e1 = 0) || !decide (e2 = 0)) || !decide (e3 = 0)) = true := by simp; omega
    simp [hd]
    refine sc_call awake15_spec rfl ?_
    simp
    exact frz_bare rfl
end Go.Proofs.Ytigdcnlhgelkaaa

/-
  Chapter 15: the hash.
-/
namespace Go.Proofs.Ytigdcnlhgelkaaa
set_option linter.unusedVariables false
set_option linter.unusedSimpArgs false
open Go Go.G Go.Proofs Go.PL

def mixG (h x : Int) : Int := IntKind.u64.wrap (bits .xor .u64 h x * 1099511628211)
def mixH (h x : Int) : Int := bits .xor .u64 (mixG h x) (mixG h x / 2 ^ min 29 IntKind.u64.bits)
mutual
def hashN : T → Int
  | .mk k w l => hashL (w.foldl mixH (mixH (mixH 14695981039346656037 (IntKind.u64.wrap k)) (IntKind.u64.wrap w.length))) l
def hashL : Int → List T → Int
  | h, [] => h
  | h, t :: l => hashL (mixH h (hashN t)) l
end

/-- The mixer's objects. -/
def mxF (u : Nat) (h : Int) : Nm → VOb
  | [] => ⟨u, .cells [uv h]⟩
  | _ => ⟨0, .none⟩
@[simp] theorem mxF_nil {u : Nat} {h : Int} : mxF u h [] = ⟨u, .cells [uv h]⟩ := rfl
theorem mxAdd_spec (u : Nat) (h x : Int) : SpecH Try.prog 59 1 [.pob [0] u 0, uv x] (ov 0 (mxF u h) (lkH [])) (.tup []) (ov 0 (mxF u (mixH h x)) (lkH [])) := by
  refine specH_of t_equal_mixer_add (by simp) fun w0 I0 M0 m0 => ?_
  unfold c_equal_mixer_add
  simp [updF_app]
  refine reth_normal rfl rfl (fun i p hi => ?_)
  have hi0 : i = 0 := by omega
  subst hi0
  simp only [ov_cons, if_true]
  refine updF_is rfl (fun h1 => ?_)
  cases p with
  | nil => exact absurd rfl h1
  | cons a p => rfl

theorem sc_mix {P : Program} {K : Sta → Prop} {rest : List CO} {s : Nat → A} {H : Hp} {dd : Option Nat} {nm : Nm} {ix : Nat} {un : List Nat} {l : Bool} {lg : Lg} {g : FuncId} {fo : Operand} {aa : Array Operand} {ts : Array TypeId}
    {r u : Nat} {h x : Int} (ho : evs s fo = .fnc g [.pob [r] u 0] []) (hS : SpecH P g 1 [.pob [0] u 0, uv x] (ov 0 (mxF u h) (lkH [])) (.tup []) (ov 0 (mxF u (mixH h x)) (lkH []))) (hF : ∀ p, H (r :: p) = mxF u h p)
    (ha : aa.toList.map (evs s) = [uv x]) (hck : Ck un lg ⟨[], [([r], true)]⟩)
    (h : SeqC P K rest (addL l ix ⟨[], [([r], true)]⟩ lg) (Sta.put ⟨s, H⟩ dd (.tup []) (ov r (mxF u (mixH h x)) H))) :
    SeqC P K (⟨dd, .call { callee := .value fo, args := aa, argTypes := ts }, none, nm, ix, un, l⟩ :: rest) lg ⟨s, H⟩ := by
  have hd : ∀ p, dlt [r] 1 H (0 :: p) = 0 := fun p => rfl
  refine sc_callHv (L := [.pob [r] u 0, uv x]) ho (by rw [ha]; rfl) [r] 1 hS (by simp) (by simp) ?_ ?_ ?_ ?_ (by simp [A.refs, A.refsL]) ?_ (fun i p h1 h2 => by simp at h2; omega) rfl ?_ hck h
  · simp [A.renL, A.ren, dnN]
  · simp [A.refs, A.refsL, inS]
  · funext o
    cases o with
    | nil => rfl
    | cons i p =>
      by_cases hi : i < 1
      · have : i = 0 := by omega
        subst this
        simp only [inHp, if_pos hi, ov_cons, if_true]
        show (H (r :: p)).ren _ _ 0 = _
        rw [hF]
        cases p <;> rfl
      · simp only [inHp, if_neg hi, ov_cons]
        rw [if_neg (by omega)]
        rfl
  · intro j p hj
    have hjr : j = r := by
      have := (idx_mem (rs := [r])).1 (by simpa using hj)
      simpa using this
    rw [hjr, hF]
    cases p with
    | nil => simp [mxF, Ob.refs, A.refsL, A.refs]
    | cons a p => trivial
  · intro i p hi
    have : i = 0 := by simp at hi; omega
    subst this
    simp only [ov_cons, if_true]
    cases p with
    | nil => simp [mxF, Ob.refs, A.refsL, A.refs]
    | cons a p => trivial
  · funext o
    cases o with
    | nil => rfl
    | cons j p =>
      by_cases hj : j = r
      · subst hj
        simp only [outG, ov_cons, if_true]
        rw [if_pos (by simp)]
        have : [j].idxOf j = 0 := by simp
        rw [this, if_pos rfl, hd]
        cases p <;> rfl
      · have : ¬ [r].contains j = true := by simpa using hj
        simp only [outG, if_neg this, ov_cons, if_neg hj]
end Go.Proofs.Ytigdcnlhgelkaaa

/-
  Chapter 15: the hash, walked.
-/
namespace Go.Proofs.Ytigdcnlhgelkaaa
set_option linter.unusedVariables false
set_option linter.unusedSimpArgs false
open Go Go.G Go.Proofs Go.PL

abbrev mxV : A := .fnc 59 [.pob [1] 1 0] []
abbrev HashS (l : List (List Int)) (t : T) : Prop := ∀ r, Means l r t → G.Spec Try.prog 24 [paX l r] (.tup [uv (hashN (norm t)), iv 0])
section
variable {n0 : Nat} {w0 : World} {I0 : Nat → Prop} {Q : Exit → Sta → Prop}
theorem hash_l1 {l : List (List Int)} (hl : Sg l) {r : Rf} {t : T} (ht : Means l r t) : ∀ (m i : Nat) (h : Int) (H : Hp), i + m = nW t → H [0] = ⟨1, .cells (paL l r)⟩ → (∀ p, H (1 :: p) = mxF 1 h p) →
    (∀ i' q H', H' [0] = ⟨1, .cells (paL l r)⟩ → (∀ p, H' (1 :: p) = mxF 1 (((t.words.take (nW t)).drop i).foldl mixH h) p) → Q (.exit 0) ⟨lk [(1, .pob [0] 1 0), (4, .pob [1] 1 0), (5, mxV), (6, iv (nK t)), (36, iv (nW t)), (37, iv i'), (38, bv q)], H'⟩) →
    LoopC (cx Try.prog w0 I0 n0) l1_equal_Hash Q ⟨lk [(1, .pob [0] 1 0), (4, .pob [1] 1 0), (5, mxV), (6, iv (nK t)), (36, iv (nW t)), (37, iv i)], H⟩ := by
  have h1 := means_len ht
  have w1 := nW_le t
  intro m
  induction m with
  | zero =>
    intro i h H hi hA hM hq
    have : i = nW t := by omega
    subst this
    refine loopC_once mixed l1_equal_Hash.eq_1 ?_
    simp
    exact hq _ _ H hA (fun p => by rw [hM, List.drop_of_length_le (by simp; omega)]; rfl)
  | succ m ihm =>
    intro i h H hi hA hM hq
    have hlt : i < nW t := by omega
    have lt1 : i < t.words.length := by omega
    have ei : IntKind.i64.wrap ((i : Int) + 1) = ((i + 1 : Nat) : Int) := i64_same (by omega) (by omega)
    have hw := (means_word ht).2 i lt1
    refine loopC_once mixed l1_equal_Hash.eq_1 ?_
    simp [hlt, hA]
    refine sc_call (word_spec' hl (means_ok ht) i) (by simp) ?_
    rw [hw]
    simp
    refine sc_mix (x := t.words[i]) rfl (mxAdd_spec 1 h _) hM (by simp) (by simp) ?_
    simp [ei]
    refine ihm (i + 1) (mixH h t.words[i]) _ (by omega) (by simp [hA]) (fun p => by simp) fun i' q H' a0 a1 => hq i' q H' a0 fun p => ?_
    rw [a1]
    have : (t.words.take (nW t)).drop i = t.words[i] :: (t.words.take (nW t)).drop (i + 1) := by
      rw [List.drop_eq_getElem_cons (by simp; omega)]
      simp
    rw [this]
    rfl
theorem hash_l2 {l : List (List Int)} (hl : Sg l) {r : Rf} {t : T} (ht : Means l r t) (ih : ∀ c, c ∈ t.kids → HashS l c) : ∀ (m i : Nat) (h : Int) (H : Hp), i + m = nK t → H [0] = ⟨1, .cells (paL l r)⟩ → (∀ p, H (1 :: p) = mxF 1 h p) →
    (∀ i' q H', (∀ p, H' (1 :: p) = mxF 1 (hashL h (((t.kids.take (nK t)).map norm).drop i)) p) → Q (.exit 2) ⟨lk [(1, .pob [0] 1 0), (4, .pob [1] 1 0), (5, mxV), (46, iv (nK t)), (47, iv i'), (48, bv q)], H'⟩) →
    LoopC (cx Try.prog w0 I0 n0) l2_equal_Hash Q ⟨lk [(1, .pob [0] 1 0), (4, .pob [1] 1 0), (5, mxV), (46, iv (nK t)), (47, iv i)], H⟩ := by
  have h1 := means_len ht
  have w1 := nK_le t
  intro m
  induction m with
  | zero =>
    intro i h H hi hA hM hq
    have : i = nK t := by omega
    subst this
    refine loopC_once mixed l2_equal_Hash.eq_1 ?_
    simp
    exact hq _ _ H (fun p => by rw [hM, List.drop_of_length_le (by simp; omega), hashL])
  | succ m ihm =>
    intro i h H hi hA hM hq
    have hlt : i < nK t := by omega
    have lt1 : i < t.kids.length := by omega
    have ei : IntKind.i64.wrap ((i : Int) + 1) = ((i + 1 : Nat) : Int) := i64_same (by omega) (by omega)
    obtain ⟨a1, a2⟩ := means_kid ht lt1
    have ihc := ih _ (List.getElem_mem lt1) _ a2
    refine loopC_once mixed l2_equal_Hash.eq_1 ?_
    simp [hlt, hA]
    refine sc_call (kid_spec hl (means_ok ht) i) (by simp) ?_
    simp [a1, updF_app, hA]
    refine sc_call ihc (by simp) ?_
    simp
    refine sc_mix (x := hashN (norm t.kids[i])) rfl (mxAdd_spec 1 h _) (fun p => by simp [updF_app, hM]) (by simp) (by simp) ?_
    simp [ei]
    refine ihm (i + 1) (mixH h (hashN (norm t.kids[i]))) _ (by omega) (by simp [updF_app, hA]) (fun p => by simp) fun i' q H' a3 => hq i' q H' fun p => ?_
    rw [a3]
    have : ((t.kids.take (nK t)).map norm).drop i = norm t.kids[i] :: ((t.kids.take (nK t)).map norm).drop (i + 1) := by
      rw [List.drop_eq_getElem_cons (by simp; omega)]
      simp
    rw [this, hashL]
end
theorem hash_spec {l : List (List Int)} (hl : Sg l) : ∀ t, HashS l t := by
  refine T.ind fun k w ks ih r ht => ?_
  have hln := means_len ht
  have w1 := nW_le (.mk k w ks)
  have k1 := means_kind ht
  refine spec_of t_equal_Hash (by simp) fun w0 I0 => ?_
  unfold c_equal_Hash
  simp
  refine sc_call (refKind_spec l r) (by simp) ?_
  simp
  refine sc_mix (x := IntKind.u64.wrap r.kind) rfl (mxAdd_spec 1 14695981039346656037 _) (fun p => by cases p <;> simp [mxF]) (by simp) (by simp) ?_
  simp
  refine sc_call (ekids_spec hl ht) (by simp) ?_
  simp
  refine sc_call (ewords_spec hl ht) (by simp) ?_
  simp
  refine sc_mix (x := IntKind.u64.wrap (nW (.mk k w ks))) rfl (mxAdd_spec 1 _ _) (fun p => by simp; rfl) (by simp) (by simp) ?_
  simp
  refine sc_call (ewords_spec hl ht) (by simp) ?_
  simp
  refine hash_l1 hl ht (nW (.mk k w ks)) 0 _ _ (by omega) (by simp) (fun p => by simp; rfl) fun i' q H' hA hM => ?_
  simp
  refine hash_l2 hl ht ih (nK (.mk k w ks)) 0 _ H' (by omega) hA hM fun i' q H2 hM2 => ?_
  have h0 := hM2 []
  simp at h0
  simp [h0]
  refine frz_is rfl ?_
  have hb := means_bare ht
  have hw := norm_words hb
  have hk := norm_kids hb
  have key : hashN (norm (.mk k w ks)) = hashL (((T.mk k w ks).words.take (nW (.mk k w ks))).foldl mixH (mixH (mixH 14695981039346656037 (IntKind.u64.wrap k)) (IntKind.u64.wrap (nW (.mk k w ks))))) (((T.mk k w ks).kids.take (nK (.mk k w ks))).map norm) := by
    rw [T.eta (norm (.mk k w ks)), hashN, norm_kind, hw, hk]
    have : ((T.mk k w ks).words.take (nW (.mk k w ks))).length = nW (.mk k w ks) := by simp at w1 ⊢; omega
    rw [this, T.kind_mk]
  rw [key, k1, T.kind_mk]
  simp [List.map_take]
end Go.Proofs.Ytigdcnlhgelkaaa

/-
  Chapter 15: the law EqualValues.
-/
namespace Go.Proofs.Ytigdcnlhgelkaaa
set_option linter.unusedVariables false
set_option linter.unusedSimpArgs false
open Go Go.G Go.Proofs Go.PL

/-- What values mean are trees that memory can hold. -/
theorem means_wf {l : List (List Int)} (hs : Sg l) : ∀ (t : T) (r : Rf), Means l r t → wfT t := by
  refine T.ind fun k w ks ih r ht => ?_
  have hln := means_len ht
  have hk := means_kind ht
  have hok := means_ok ht
  simp at hln hk
  refine wfT_iff.2 ⟨?_, ?_, ?_, ?_, ?_⟩
  · simp only [T.kind_mk]
    rw [← hk]
    unfold i64R
    cases hok <;> simp [Rf.zero] <;> omega
  · intro x hx
    obtain ⟨i, hi, rfl⟩ := List.mem_iff_getElem.1 hx
    have := (means_word ht).2 i hi
    rw [← this]
    unfold u64R wordAt
    split
    · omega
    · split
      · cases hok with
        | atom n a1 a2 => exact ⟨a1, a2⟩
        | dat c s a n a1 a2 a3 a4 h => simp
        | _ => simp [Rf.zero]
      · cases e : word l r.s (r.at_ + i) with
        | none => simp
        | some x => exact word_in hs.w e
  · simp; omega
  · simp; omega
  · intro c hc
    obtain ⟨i, hi, rfl⟩ := List.mem_iff_getElem.1 hc
    exact ih _ (List.getElem_mem hi) _ (means_kid ht hi).2
set_option maxRecDepth 8000 in
theorem EqualValues_spec {l m : List (List Int)} (hl : Sg l) (hm : Sg m) (l1 : l.length * 24 ≤ 140737488355328) (m1 : m.length * 24 ≤ 140737488355328) (a b c d : Int) : G.Spec Try.prog 5 [sgs l, sgs m, liX a b c d] (bv true) := by
  refine spec_of t_centolaw15_EqualValues (by simp) fun w0 I0 => ?_
  unfold c_centolaw15_EqualValues
  simp
  refine sc_call (light_spec a b c d) rfl ?_
  simp
  refine sc_call (unfold_spec hl a (lightZ b) c d) rfl ?_
  simp
  refine sc_call (unfold_spec hm a (lightZ b) c d) rfl ?_
  have hl' := unfold_means hl (a := a) (b := lightZ b)
  have hm' := unfold_means hm (a := a) (b := lightZ b)
  generalize unfP l a (lightZ b) = x at hl'
  generalize unfP m a (lightZ b) = y at hm'
  obtain ⟨t, _, e1⟩ := x
  obtain ⟨u, _, e2⟩ := y
  simp only at hl' hm'
  by_cases he : e1 = 0 ∧ e2 = 0
  · obtain ⟨rfl, rfl⟩ := he
    have ht := hl' rfl
    have hu := hm' rfl
    have v1 := values_spec hl hm _ _ _ _ ht hu
    have h1 := hash_spec hl _ _ ht
    have h2 := hash_spec hm _ _ hu
    have wt := means_wf hl _ _ ht
    have wu := means_wf hm _ _ hu
    have q := rEqual_spec wt wu (wf_norm _ wt)
    have hh : eqT t u = true → hashN (norm t) = hashN (norm u) := fun h => by rw [eqT_iff.1 h]
    simp
    refine sc_call (root15_spec hl l1) (by simp) ?_
    simp
    refine sc_call (root15_spec hm m1) (by simp) ?_
    simp
    refine sc_call v1 (by simp) ?_
    simp
    refine sc_call h1 (by simp) ?_
    simp
    refine sc_call h2 (by simp) ?_
    simp
    refine sc_call q (by simp) ?_
    generalize eqT t u = p at hh
    generalize hashN (norm t) = x at hh
    generalize hashN (norm u) = y at hh
    cases p with
    | true =>
      have := hh rfl
      subst this
      simp
      refine sc_call_gt rfl (fun _ => awake15_spec) (fun _ => rfl) rfl ?_
      simp
      exact frz_bare rfl
    | false =>
      simp
      refine sc_call_gt rfl (fun _ => awake15_spec) (fun _ => rfl) rfl ?_
      simp
      exact frz_bare rfl
  · have hd : (!decide (e1 = 0) || !decide (e2 = 0)) = true := by simp; omega
    simp [hd]
    refine sc_call awake15_spec rfl ?_
    simp
    exact frz_bare rfl
end Go.Proofs.Ytigdcnlhgelkaaa

/-
  Chapter 15: each law, whatever its arguments hold.
-/
namespace Go.Proofs.Ytigdcnlhgelkaaa
set_option linter.unusedVariables false
set_option linter.unusedSimpArgs false
open Go Go.G Go.Proofs Go.RowKit

theorem lit15_i {m : Int} (h : (Lit.int .i64 m).wf = true) : -9223372036854775808 ≤ m ∧ m < 9223372036854775808 := by
  simp [Lit.wf, IntKind.min, IntKind.max, IntKind.bits, IntKind.signed] at h
  omega
theorem lit15_u {m : Int} (h : (Lit.int .u64 m).wf = true) : 0 ≤ m ∧ m < 18446744073709551616 := by
  simp [Lit.wf, IntKind.min, IntKind.max, IntKind.bits, IntKind.signed] at h
  omega
theorem und15_i : Try.prog.underlying 3 = some (.int .i64) := by kernel_rfl
theorem und15_u : Try.prog.underlying 45 = some (.int .u64) := by kernel_rfl
theorem und15_w : Try.prog.underlying 22 = some (.slice 45) := by kernel_rfl
theorem und15_s : Try.prog.underlying 38 = some (.slice 22) := by kernel_rfl
theorem byt15_u : Try.prog.bytesOf 45 = 8 := by kernel_rfl
theorem byt15_w : Try.prog.bytesOf 22 = 24 := by kernel_rfl
theorem has15_u64 {n : Nat} {b : List A} (h : Has Try.prog n 45 b) : ∃ m, 0 ≤ m ∧ m < 18446744073709551616 ∧ mk Try.prog 45 b = uv m := by
  cases n with
  | zero => exact h.elim
  | succ n =>
    simp only [Has, und15_u] at h
    obtain ⟨m, hm, rfl⟩ := h
    obtain ⟨h1, h2⟩ := lit15_u hm
    exact ⟨m, h1, h2, by simp [mk, und15_u]⟩
theorem list15_map {α : Type} {xs : List A} {g : α → A} {R : α → Prop} (h : ∀ x, x ∈ xs → ∃ y, R y ∧ x = g y) : ∃ l : List α, xs = l.map g ∧ ∀ y, y ∈ l → R y := by
  induction xs with
  | nil => exact ⟨[], rfl, fun y h => nomatch h⟩
  | cons x xs ih =>
    obtain ⟨y, hy, rfl⟩ := h x (by simp)
    obtain ⟨l, rfl, hl⟩ := ih fun z hz => h z (by simp [hz])
    refine ⟨y :: l, rfl, fun z hz => ?_⟩
    rcases List.mem_cons.1 hz with rfl | hz
    · exact hy
    · exact hl z hz
set_option maxRecDepth 100000 in
theorem has15_words {n : Nat} {b : List A} (h : Has Try.prog n 22 b) : ∃ f, ∃ l : List Int, mk Try.prog 22 b = .sl f (l.map uv) ∧ l.length * 8 ≤ 140737488355328 ∧ ∀ y, y ∈ l → 0 ≤ y ∧ y < 18446744073709551616 := by
  cases n with
  | zero => exact h.elim
  | succ n =>
    simp only [Has, und15_w] at h
    obtain ⟨f, xs, rfl, _, hz, hf, hx⟩ := h
    rw [byt15_u] at hz
    obtain ⟨l, rfl, hl⟩ := list15_map (g := uv) (R := fun y => 0 ≤ y ∧ y < 18446744073709551616) (xs := xs) fun x hx' => by
      obtain ⟨b, hb, rfl⟩ := hx x hx'
      obtain ⟨m, h0, h1, e⟩ := has15_u64 hb
      exact ⟨m, ⟨h0, h1⟩, e⟩
    exact ⟨f, l, by simp [mk, und15_w], by simp [reachBytes] at hz; omega, hl⟩
set_option maxRecDepth 100000 in
theorem has15_segs {n : Nat} {b : List A} (h : Has Try.prog n 38 b) : ∃ (f : Bool) (xs : List A) (l : List (List Int)), mk Try.prog 38 b = .sl f xs ∧ A.soft (.sl f xs) = sgs l ∧ l.length * 24 ≤ 140737488355328 ∧ Sg l := by
  cases n with
  | zero => exact h.elim
  | succ n =>
    simp only [Has, und15_s] at h
    obtain ⟨f, xs, rfl, _, hz, hf, hx⟩ := h
    rw [byt15_w] at hz
    obtain ⟨l, rfl, hl⟩ := list15_map (g := fun p : Bool × List Int => .sl p.1 (p.2.map uv)) (R := fun p => p.2.length * 8 ≤ 140737488355328 ∧ ∀ y, y ∈ p.2 → 0 ≤ y ∧ y < 18446744073709551616) (xs := xs) fun x hx' => by
      obtain ⟨b, hb, rfl⟩ := hx x hx'
      obtain ⟨f, l, e, h0, h1⟩ := has15_words hb
      exact ⟨(f, l), ⟨h0, h1⟩, e⟩
    have key : ∀ x, x ∈ l.map Prod.snd → x.length * 8 ≤ 140737488355328 ∧ ∀ y, y ∈ x → 0 ≤ y ∧ y < 18446744073709551616 := fun x hx => by
      obtain ⟨p, hp, rfl⟩ := List.mem_map.1 hx
      exact hl p hp
    refine ⟨f, l.map (fun p : Bool × List Int => .sl p.1 (p.2.map uv)), l.map Prod.snd, by simp [mk, und15_s], ?_, by simp [reachBytes] at hz; simpa using (by omega), ⟨fun x hx => (key x hx).1, fun x hx => (key x hx).2⟩⟩
    simp [A.soft, softL_map, Function.comp_def, sgs, ws]
theorem has15_lim {n : Nat} {b : List A} (hb : Has Try.prog n 40 b) : ∃ p q r s : Int, mk Try.prog 40 b = liX p q r s := by
  cases n with
  | zero => exact hb.elim
  | succ n =>
    have u : Try.prog.underlying 40 = some (.struct ((Try.prog.fieldsOf 40))) := by kernel_rfl
    unfold Has at hb
    rw [u] at hb
    have e : (Try.prog.fieldsOf 40).toList.map Field.type = [3, 3, 3, 3] := by kernel_rfl
    simp only at hb
    rw [hasL_types, e] at hb
    cases n with
    | zero => obtain ⟨a, b, rfl, h, _⟩ := hb; exact h.elim
    | succ n =>
      simp only [HasT, Has, und15_i] at hb
      obtain ⟨_, _, rfl, ⟨k1, _, rfl⟩, _, _, rfl, ⟨k2, _, rfl⟩, _, _, rfl, ⟨k3, _, rfl⟩, _, _, rfl, ⟨k4, _, rfl⟩, rfl⟩ := hb
      exact ⟨k1, k2, k3, k4, by simp [mk, u]⟩
set_option maxRecDepth 100000 in
theorem said_equalGoes (xs : List A) (h : ArgsHas Try.prog Try.f4.params.toList xs) : G.Spec Try.prog 4 xs (.v (.bool true)) := by
  have h : ArgsHas Try.prog [38, 38, 38, 40] xs := h
  match xs, h with
  | [a, a', a'', a3], ⟨⟨n, b, h1, h2⟩, ⟨n', b', h1', h2'⟩, ⟨n'', b'', h1'', h2''⟩, ⟨n3, b3, h13, h23⟩, _⟩ =>
    obtain ⟨f, xs, l, e, e', k1, k2⟩ := has15_segs h1
    obtain ⟨f', xs', l', ea, ea', ka1, ka2⟩ := has15_segs h1'
    obtain ⟨f'', xs'', l'', eb, eb', kb1, kb2⟩ := has15_segs h1''
    obtain ⟨p, q, r, s, e3⟩ := has15_lim h13
    rw [h2, h2', h2'', h23, e, ea, eb, e3]
    exact (EqualGoes_spec k2 ka2 kb2 k1 ka1 kb1 p q r s).soft (by simp only [A.softL, e', ea', eb']; rfl)
end Go.Proofs.Ytigdcnlhgelkaaa
