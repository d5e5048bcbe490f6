/-
  Several texts, merged: D09a, D09b, D09c, D15a, D10a, D10b, D10c, D10d, D15b, D15c, D15d, D15e, DL15, D16a, D16b, D14a, D14b, D14c, D14d, D14e, D14f, D14g, DL14.
-/
import Derived.Test.YtigdcnlhgelkaaaD06c
import Derived.Test.YtigdcnlhgelkaaaP07
import Derived.Test.YtigdcnlhgelkaaaD01a
import Derived.Test.YtigdcnlhgelkaaaD07w
import Derived.Test.YtigdcnlhgelkaaaGFns9
import Derived.Test.YtigdcnlhgelkaaaGCall3
import Derived.Test.YtigdcnlhgelkaaaGFnsH
import Derived.Test.YtigdcnlhgelkaaaD07c
import Derived.Test.YtigdcnlhgelkaaaGOpen
import Derived.Test.YtigdcnlhgelkaaaGFnsI
import Derived.Test.YtigdcnlhgelkaaaGFam
import Derived.Test.YtigdcnlhgelkaaaP16
import Derived.Test.YtigdcnlhgelkaaaGFnsJ
import Derived.Test.YtigdcnlhgelkaaaP14
/-
  Chapters 9 and 10, plain: values where they lie, and what they mean.
-/
namespace Go.Proofs.Ytigdcnlhgelkaaa
set_option linter.unusedVariables false
set_option linter.unusedSimpArgs false
open Go Go.G Go.Proofs Go.PL

/-- A value where it lies. -/
structure Rf where
  kind : Int
  s : Int
  at_ : Int
  data : Int
  kids : Int
  count : Int
  n : Int
def Rf.zero : Rf := ⟨0, 0, 0, 0, 0, 0, 0⟩
def nk (r : Rf) : Int := if r.kind = 1 then r.kids else r.count
def compP (l : List (List Int)) (s a m : Int) : Rf × Int :=
  if ((word l s a).getD 0 ≠ 0 ∧ (dec ((word l s a).getD 0)).kind ≠ 1) ∨ (dec ((word l s a).getD 0)).off < 0 ∨ m < (dec ((word l s a).getD 0)).off * ((dec ((word l s a).getD 0)).data + (dec ((word l s a).getD 0)).ptrs) then (Rf.zero, 8)
  else (⟨9, s, a + 1, (dec ((word l s a).getD 0)).data, (dec ((word l s a).getD 0)).ptrs, (dec ((word l s a).getD 0)).off, 0⟩, 0)
/-- What a shape at a place is. -/
def refP (l : List (List Int)) (x : Lc) : Rf × Int :=
  if x.p.kind = 1 then (⟨1, x.s, x.at_, x.p.data, x.p.ptrs, 0, 0⟩, 0)
  else if x.p.code < 7 then (⟨2 + x.p.code, x.s, x.at_, 0, 0, x.p.count, 0⟩, 0)
  else compP l x.s x.at_ x.p.count
def atP (l : List (List Int)) (s a : Int) : Rf × Int :=
  if (followP l s a).2 ≠ 0 ∨ (followP l s a).1.p.kind = 0 then (Rf.zero, (followP l s a).2) else refP l (followP l s a).1
def getZ (g : List Int) (c i : Int) : Int :=
  if widthZ c < 1 ∨ i < 0 ∨ 1099511627776 < i then 0 else ((g[(i * widthZ c / 64).toNat]?).getD 0) / 2 ^ (i * widthZ c % 64).toNat % 2 ^ (widthZ c).toNat
def atomZ (l : List (List Int)) (r : Rf) (i : Int) : Int := getZ (((seg l r.s).getD []).drop r.at_.toNat) (r.kind - 2) i
def kidP (l : List (List Int)) (r : Rf) (i : Int) : Rf × Int :=
  if i < 0 ∨ nk r ≤ i then (Rf.zero, 0)
  else if r.kind = 1 then atP l r.s (r.at_ + r.data + i)
  else if r.kind = 8 then atP l r.s (r.at_ + i)
  else if r.kind = 9 then (⟨1, r.s, r.at_ + i * (r.data + r.kids), r.data, r.kids, 0, 0⟩, 0)
  else (⟨10, 0, 0, 0, 0, 0, atomZ l r i⟩, 0)
def wordsR (l : List (List Int)) (r : Rf) : List Int := if r.kind = 10 then [r.n] else if r.kind ≠ 1 then [] else part l r.s r.at_ r.data

/-- It lies in its segment. -/
inductive RfOk (l : List (List Int)) : Rf → Prop
  | zero : RfOk l Rf.zero
  | str (s a d k : Int) : 0 ≤ d → d < 65536 → 0 ≤ k → k < 65536 → hasW l s a (d + k) = true → RfOk l ⟨1, s, a, d, k, 0, 0⟩
  | dat (c s a n : Int) : 0 ≤ c → c < 6 → 0 ≤ n → n < 536870912 → hasW l s a ((n * bitsOf c + 63) / 64) = true → RfOk l ⟨2 + c, s, a, 0, 0, n, 0⟩
  | ptrs (s a n : Int) : 0 ≤ n → n < 536870912 → hasW l s a n = true → RfOk l ⟨8, s, a, 0, 0, n, 0⟩
  | comp (s a d k n : Int) : 0 ≤ d → d < 65536 → 0 ≤ k → k < 65536 → 0 ≤ n → n < 536870912 → hasW l s a (n * (d + k)) = true → RfOk l ⟨9, s, a, d, k, n, 0⟩
  | atom (n : Int) : 0 ≤ n → n < 18446744073709551616 → RfOk l ⟨10, 0, 0, 0, 0, 0, n⟩

/-! ### what is followed lies in its segment -/
structure Shp (p : Pt) : Prop where
  k1 : p.kind = 1 → 0 ≤ p.data ∧ p.data < 65536 ∧ 0 ≤ p.ptrs ∧ p.ptrs < 65536
  k2 : p.kind = 2 → 0 ≤ p.code ∧ p.code < 8 ∧ 0 ≤ p.count ∧ p.count < 536870912
  k : p.kind = 0 ∨ p.kind = 1 ∨ p.kind = 2 ∨ p.kind = 3 ∨ p.kind = 4
theorem dec_shp {w : Int} (h0 : 0 ≤ w) (h1 : w < 18446744073709551616) : Shp (dec w) := by
  unfold dec
  repeat' split
  all_goals refine ⟨?_, ?_, ?_⟩
  all_goals simp
  all_goals omega
def Folw (l : List (List Int)) (x : Lc × Int) : Prop := x.2 = 0 → x.1.p.kind = 0 ∨ ((x.1.p.kind = 1 ∨ x.1.p.kind = 2) ∧ Shp x.1.p ∧ hasW l x.1.s x.1.at_ ((wordsP x.1.p).getD 0) = true)
theorem inside_folw {l : List (List Int)} {x : Lc} (h : x.p.kind = 1 ∨ x.p.kind = 2) (hs : Shp x.p) : Folw l (insideP l x) := by
  unfold insideP
  split
  · rename_i hh
    intro _
    exact .inr ⟨h, ⟨hs.k1, hs.k2, hs.k⟩, hh⟩
  · intro h; cases h
theorem near_folw {l : List (List Int)} {p : Pt} {s a : Int} (hs : Shp p) : Folw l (nearP l p s a) := by
  unfold nearP
  split
  · exact inside_folw (by assumption) hs
  · split <;> (intro h; cases h)
theorem double_folw {l : List (List Int)} (hw : Wds l) (s a : Int) : Folw l (doubleP l s a) := by
  unfold doubleP
  split
  · rename_i v w h1 h2
    obtain ⟨a1, a2⟩ := word_in hw h2
    have hs := dec_shp a1 a2
    repeat' split
    all_goals first
      | (intro h; cases h; done)
      | skip
    refine inside_folw ?_ hs
    simp only
    omega
  · intro h; cases h
theorem follow_folw {l : List (List Int)} (hw : Wds l) (s a : Int) : Folw l (followP l s a) := by
  unfold followP
  split
  · intro h; cases h
  · rename_i w h1
    obtain ⟨a1, a2⟩ := word_in hw h1
    split
    · intro _; exact .inl rfl
    · split
      · exact near_folw (dec_shp a1 a2)
      · split
        · exact double_folw hw _ _
        · split
          · intro h; cases h
          · rename_i v h2
            obtain ⟨b1, b2⟩ := word_in hw h2
            exact near_folw (dec_shp b1 b2)

theorem wordsP_str {p : Pt} (h : p.kind = 1) : wordsP p = some (p.data + p.ptrs) := by simp [wordsP, h]
theorem wordsP_dat {p : Pt} (h : p.kind = 2) (hs : Shp p) (h6 : p.code < 7) : wordsP p = some ((p.count * bitsOf p.code + 63) / 64) := by
  obtain ⟨a, b, c, d⟩ := hs.k2 h
  rw [wordsP, if_neg (by omega), if_neg (by omega), if_pos (by omega)]
theorem wordsP_comp {p : Pt} (h : p.kind = 2) (h7 : p.code = 7) : wordsP p = some (p.count + 1) := by simp [wordsP, h, h7]
theorem mul_le_of {a b c : Int} (h : a ≤ b) (hc : 0 ≤ c) : a * c ≤ b * c := Int.mul_le_mul_of_nonneg_right h hc
theorem hasW_sub {l : List (List Int)} {s a n b m : Int} (h : hasW l s a n = true) (h1 : a ≤ b) (h2 : 0 ≤ m) (h3 : b + m ≤ a + n) : hasW l s b m = true := by
  simp only [hasW, decide_eq_true_eq] at h ⊢
  omega
theorem dec_off' {w : Int} (h0 : 0 ≤ w) (h1 : w < 18446744073709551616) : (dec w).off < 536870912 := by
  have := (offs_in w).2.1
  unfold dec
  repeat' split
  all_goals simp
  all_goals omega
theorem comp_ok {l : List (List Int)} (hw : Wds l) {s a m : Int} (h : hasW l s a (m + 1) = true) : RfOk l (compP l s a m).1 := by
  unfold compP
  have h0 : 0 ≤ (word l s a).getD 0 ∧ (word l s a).getD 0 < 18446744073709551616 := by
    cases e : word l s a with
    | none => simp
    | some x => exact word_in hw e
  generalize (word l s a).getD 0 = w at h0
  have hs := dec_shp h0.1 h0.2
  have ho := dec_off h0.1 h0.2
  have ho' := dec_off' h0.1 h0.2
  split
  · exact .zero
  · rename_i hc
    have hk : (dec w).kind = 1 ∨ dec w = Pt.zero := by
      by_cases hw0 : w = 0
      · subst hw0; exact .inr rfl
      · left; omega
    have hd : 0 ≤ (dec w).data ∧ (dec w).data < 65536 ∧ 0 ≤ (dec w).ptrs ∧ (dec w).ptrs < 65536 := by
      rcases hk with hk | hk
      · exact hs.k1 hk
      · rw [hk]; decide
    refine .comp _ _ _ _ _ hd.1 hd.2.1 hd.2.2.1 hd.2.2.2 (by omega) (by omega) (hasW_sub h (by omega) ?_ (by omega))
    exact Int.mul_nonneg (by omega) (by omega)
theorem ref_ok {l : List (List Int)} (hw : Wds l) {x : Lc} (hk : x.p.kind = 1 ∨ x.p.kind = 2) (hs : Shp x.p) (h : hasW l x.s x.at_ ((wordsP x.p).getD 0) = true) : RfOk l (refP l x).1 := by
  unfold refP
  split
  · rename_i k1
    obtain ⟨a, b, c, d⟩ := hs.k1 k1
    rw [wordsP_str k1] at h
    exact .str _ _ _ _ a b c d h
  · rename_i k1
    have k2 : x.p.kind = 2 := by omega
    obtain ⟨a, b, c, d⟩ := hs.k2 k2
    split
    · rename_i h7
      rw [wordsP_dat k2 hs h7] at h
      by_cases h6 : x.p.code = 6
      · rw [h6] at h ⊢
        refine .ptrs _ _ _ c d (hasW_sub h (Int.le_refl _) c ?_)
        have e : bitsOf 6 = 64 := by decide
        simp only [Option.getD_some, e]
        omega
      · exact .dat _ _ _ _ a (by omega) c d h
    · rw [wordsP_comp k2 (by omega)] at h
      exact comp_ok hw h
theorem at_ok {l : List (List Int)} (hw : Wds l) (s a : Int) : RfOk l (atP l s a).1 := by
  unfold atP
  split
  · exact .zero
  · rename_i h
    rcases follow_folw hw s a (by omega) with h0 | ⟨h1, h2, h3⟩
    · omega
    · exact ref_ok hw h1 h2 h3
theorem getZ_range {g : List Int} {c i : Int} (hg : ∀ x, x ∈ g → 0 ≤ x ∧ x < 18446744073709551616) : 0 ≤ getZ g c i ∧ getZ g c i < 18446744073709551616 := by
  unfold getZ
  split
  · omega
  · have h0 : 0 ≤ (g[(i * widthZ c / 64).toNat]?).getD 0 ∧ (g[(i * widthZ c / 64).toNat]?).getD 0 < 18446744073709551616 := by
      cases e : g[(i * widthZ c / 64).toNat]? with
      | none => simp
      | some x => exact hg x (List.mem_of_getElem? e)
    generalize (g[(i * widthZ c / 64).toNat]?).getD 0 = x at h0
    have p1 : (0 : Int) < 2 ^ (i * widthZ c % 64).toNat := Int.pow_pos (by omega)
    have p2 : (0 : Int) < 2 ^ (widthZ c).toNat := Int.pow_pos (by omega)
    have d0 : 0 ≤ x / 2 ^ (i * widthZ c % 64).toNat := Int.ediv_nonneg h0.1 (by omega)
    have d1 : x / 2 ^ (i * widthZ c % 64).toNat ≤ x := Int.ediv_le_self _ h0.1
    have m0 := Int.emod_nonneg (x / 2 ^ (i * widthZ c % 64).toNat) (by omega : (2 : Int) ^ (widthZ c).toNat ≠ 0)
    have m1 : x / 2 ^ (i * widthZ c % 64).toNat % 2 ^ (widthZ c).toNat ≤ x / 2 ^ (i * widthZ c % 64).toNat := by
      rw [Int.emod_def]
      have := Int.mul_nonneg (a := 2 ^ (widthZ c).toNat) (b := x / 2 ^ (i * widthZ c % 64).toNat / 2 ^ (widthZ c).toNat) (by omega) (Int.ediv_nonneg d0 (by omega))
      omega
    omega
theorem kid_ok {l : List (List Int)} (hw : Wds l) {r : Rf} (hr : RfOk l r) (i : Int) : RfOk l (kidP l r i).1 := by
  unfold kidP
  split
  · exact .zero
  · rename_i hi
    cases hr with
    | zero => simp [nk, Rf.zero] at hi; omega
    | str s a d k a1 a2 a3 a4 h => simp; exact at_ok hw _ _
    | dat c s a n a1 a2 a3 a4 h =>
      simp
      rw [if_neg (by omega), if_neg (by omega), if_neg (by omega)]
      have := getZ_range (g := ((seg l s).getD []).drop a.toNat) (c := 2 + c - 2) (i := i) (fun x hx => by
        cases e : seg l s with
        | none => rw [e] at hx; simp at hx
        | some g =>
          rw [e] at hx
          obtain ⟨_, _, k1, rfl⟩ := seg_some e
          exact hw _ (List.getElem_mem k1) _ (List.mem_of_mem_drop hx))
      exact .atom _ this.1 this.2
    | ptrs s a n a1 a2 h => simp; exact at_ok hw _ _
    | comp s a d k n a1 a2 a3 a4 a5 a6 h =>
      simp [nk] at hi ⊢
      refine .str _ _ _ _ a1 a2 a3 a4 (hasW_sub h ?_ (by omega) ?_)
      · have := Int.mul_nonneg (by omega : 0 ≤ i) (by omega : 0 ≤ d + k)
        omega
      · have h1 : (i + 1) * (d + k) ≤ n * (d + k) := mul_le_of (by omega) (by omega)
        rw [Int.add_mul] at h1
        omega
    | atom n a1 a2 => simp [nk] at hi; omega

/-! ### what it means -/
inductive Means (l : List (List Int)) : Rf → T → Prop
  | mk (r : Rf) (t : T) : RfOk l r → r.kind = t.kind → wordsR l r = t.words → nk r = t.kids.length → (∀ (i : Nat) (h : i < t.kids.length), (kidP l r i).2 = 0) → (∀ (i : Nat) (h : i < t.kids.length), Means l (kidP l r i).1 t.kids[i]) → Means l r t

/-- Kids, one behind the other; what may be weighed still; an error. -/
def loopM (f : Nat → Int → T × Int × Int) : Nat → Nat → List T → Int → List T × Int × Int
  | 0, _, acc, left => (acc, left, 0)
  | m + 1, i, acc, left => if (f i left).2.2 ≠ 0 then (acc, (f i left).2.1, (f i left).2.2) else loopM f m (i + 1) (acc ++ [(f i left).1]) (f i left).2.1
def costM (r : Rf) : Int := if r.kind = 1 then 1 + r.data + r.kids else if r.kind = 9 then 1 + r.count * (1 + r.data + r.kids) else 1 + nk r
def stepM (l : List (List Int)) (rec : Rf → Int → T × Int × Int) (r : Rf) (i : Nat) (left : Int) : T × Int × Int :=
  if (kidP l r i).2 ≠ 0 then (T0, left, (kidP l r i).2) else rec (kidP l r i).1 left
def kidsM (l : List (List Int)) (rec : Rf → Int → T × Int × Int) (r : Rf) (left : Int) : T × Int × Int :=
  (.mk 1 (wordsR l r) (loopM (stepM l rec r) r.kids.toNat 0 [] left).1, (loopM (stepM l rec r) r.kids.toNat 0 [] left).2.1, (loopM (stepM l rec r) r.kids.toNat 0 [] left).2.2)
def leafM (l : List (List Int)) (r : Rf) (left : Int) : T × Int × Int := (.mk r.kind (wordsR l r) [], left, 0)
def restM (l : List (List Int)) (r : Rf) (rec1 rec2 : Rf → Int → T × Int × Int) (left : Int) : T × Int × Int :=
  (.mk r.kind (wordsR l r) (loopM (stepM l (if r.kind = 9 then kidsM l rec2 else if r.kind = 1 ∨ r.kind = 8 then rec1 else leafM l) r) (nk r).toNat 0 [] (left - costM r)).1,
    (loopM (stepM l (if r.kind = 9 then kidsM l rec2 else if r.kind = 1 ∨ r.kind = 8 then rec1 else leafM l) r) (nk r).toNat 0 [] (left - costM r)).2.1,
    (loopM (stepM l (if r.kind = 9 then kidsM l rec2 else if r.kind = 1 ∨ r.kind = 8 then rec1 else leafM l) r) (nk r).toNat 0 [] (left - costM r)).2.2)
def stopM (l : List (List Int)) (r : Rf) (left : Int) : T × Int × Int := (.mk r.kind (wordsR l r) [], left, 3)
def meaning (l : List (List Int)) : Nat → Rf → Int → T × Int × Int
  | 0, r, left => if r.kind = 0 then leafM l r left else stopM l r left
  | 1, r, left => if r.kind = 0 then leafM l r left else if r.kind = 9 ∧ 0 < r.count then stopM l r left else if left < costM r then stopM l r left
    else restM l r (meaning l 0) (fun r left => stopM l r left) left
  | d + 2, r, left => if r.kind = 0 then leafM l r left else if left < costM r then stopM l r left else restM l r (meaning l (d + 1)) (meaning l d) left

theorem loopM_ok {f : Nat → Int → T × Int × Int} : ∀ {m i : Nat} {acc : List T} {left : Int}, (loopM f m i acc left).2.2 = 0 → ∃ ks : List T, (loopM f m i acc left).1 = acc ++ ks ∧ ks.length = m ∧ ∀ (j : Nat) (h : j < ks.length), ∃ lf, (f (i + j) lf).2.2 = 0 ∧ (f (i + j) lf).1 = ks[j]
  | 0, i, acc, left, h => ⟨[], by simp [loopM], rfl, fun j h => by simp at h⟩
  | m + 1, i, acc, left, h => by
    rw [loopM] at h ⊢
    by_cases h0 : (f i left).2.2 ≠ 0
    · rw [if_pos h0] at h; exact absurd h h0
    · rw [if_neg h0] at h ⊢
      obtain ⟨ks, e1, e2, e3⟩ := loopM_ok h
      refine ⟨(f i left).1 :: ks, by rw [e1]; simp, by simp [e2], fun j hj => ?_⟩
      cases j with
      | zero => exact ⟨left, by simpa using h0, rfl⟩
      | succ j =>
        obtain ⟨lf, g1, g2⟩ := e3 j (by simpa using hj)
        refine ⟨lf, ?_, ?_⟩
        · rw [show i + (j + 1) = i + 1 + j by omega]; exact g1
        · rw [show i + (j + 1) = i + 1 + j by omega]; simpa using g2
theorem nk_nonneg {l : List (List Int)} {r : Rf} (h : RfOk l r) : 0 ≤ nk r ∧ nk r < 536870912 := by
  cases h <;> simp [nk, Rf.zero] <;> omega
theorem loop_means {l : List (List Int)} (hw : Wds l) {r : Rf} (hr : RfOk l r) {rec : Rf → Int → T × Int × Int} (hrec : ∀ (i : Nat) left, i < nk r → (rec (kidP l r i).1 left).2.2 = 0 → Means l (kidP l r i).1 (rec (kidP l r i).1 left).1) {k : Int} {left : Int} (hk : r.kind = k)
    (h : (loopM (stepM l rec r) (nk r).toNat 0 [] left).2.2 = 0) : Means l r (.mk k (wordsR l r) (loopM (stepM l rec r) (nk r).toNat 0 [] left).1) := by
  obtain ⟨ks, e1, e2, e3⟩ := loopM_ok h
  rw [e1]
  simp only [List.nil_append]
  have hn := nk_nonneg hr
  refine .mk _ _ hr (by simpa using hk) rfl (by simp [e2]; omega) (fun i hi => ?_) (fun i hi => ?_)
  all_goals
    simp only [T.kids_mk] at hi ⊢
    obtain ⟨lf, g1, g2⟩ := e3 i hi
    simp only [Nat.zero_add] at g1 g2
    unfold stepM at g1 g2
    by_cases h0 : (kidP l r i).2 ≠ 0
    · rw [if_pos h0] at g1; exact absurd g1 h0
    · rw [if_neg h0] at g1 g2
      first
        | (simpa using h0)
        | (rw [← g2]; exact hrec i _ (by omega) g1)
theorem leaf_means {l : List (List Int)} {r : Rf} (hr : RfOk l r) (h : r.kind = 0 ∨ r.kind = 10) {left : Int} : Means l r (leafM l r left).1 := by
  refine .mk _ _ hr rfl rfl ?_ (fun i hi => by simp [leafM] at hi) (fun i hi => by simp [leafM] at hi)
  cases hr <;> simp [leafM, nk, Rf.zero] at h ⊢ <;> omega
theorem kid_data {l : List (List Int)} {r : Rf} (hr : RfOk l r) (h0 : r.kind ≠ 0) (h1 : r.kind ≠ 1) (h8 : r.kind ≠ 8) (h9 : r.kind ≠ 9) (i : Int) : (kidP l r i).1.kind = 0 ∨ (kidP l r i).1.kind = 10 := by
  unfold kidP
  split
  · exact .inl rfl
  · exact .inr rfl
theorem rest_means {l : List (List Int)} (hw : Wds l) {r : Rf} (hr : RfOk l r) {rec1 rec2 : Rf → Int → T × Int × Int} (h1 : ∀ x left, RfOk l x → (rec1 x left).2.2 = 0 → Means l x (rec1 x left).1)
    (h2 : r.kind = 9 → 0 < r.count → ∀ x left, RfOk l x → (rec2 x left).2.2 = 0 → Means l x (rec2 x left).1) {left : Int} (h : (restM l r rec1 rec2 left).2.2 = 0) : Means l r (restM l r rec1 rec2 left).1 := by
  unfold restM at h ⊢
  refine loop_means hw hr (fun i lf hi hq => ?_) rfl h
  have hok := kid_ok hw hr (i : Int)
  by_cases h9 : r.kind = 9
  · simp only [if_pos h9] at hq ⊢
    have hk : nk r = r.count := by simp [nk, h9]
    have hkid : kidP l r i = (⟨1, r.s, r.at_ + i * (r.data + r.kids), r.data, r.kids, 0, 0⟩, 0) := by
      rw [kidP, if_neg (by omega), if_neg (by omega), if_neg (by omega), if_pos h9]
    rw [hkid] at hq hok ⊢
    unfold kidsM at hq ⊢
    exact loop_means hw hok (fun j lf' hj hq' => h2 h9 (by omega) _ _ (kid_ok hw hok _) hq') rfl hq
  · by_cases h18 : r.kind = 1 ∨ r.kind = 8
    · simp only [if_neg h9, if_pos h18] at hq ⊢
      exact h1 _ _ hok hq
    · simp only [if_neg h9, if_neg h18] at hq ⊢
      refine leaf_means hok ?_
      by_cases h0 : r.kind = 0
      · cases hr <;> simp [nk, Rf.zero] at hi h0 <;> omega
      · exact kid_data hr h0 (by omega) (by omega) h9 i
theorem meaning_means {l : List (List Int)} (hw : Wds l) : ∀ (d : Nat) (r : Rf) (left : Int), RfOk l r → (meaning l d r left).2.2 = 0 → Means l r (meaning l d r left).1
  | 0, r, left, hr, h => by
    rw [meaning] at h ⊢
    split at h
    · rename_i h0; rw [if_pos h0]; exact leaf_means hr (.inl h0)
    · exact absurd h (by simp [stopM])
  | 1, r, left, hr, h => by
    rw [meaning] at h ⊢
    split at h
    · rename_i h0; rw [if_pos h0]; exact leaf_means hr (.inl h0)
    · rename_i h0
      split at h
      · exact absurd h (by simp [stopM])
      · rename_i h9
        split at h
        · exact absurd h (by simp [stopM])
        · rename_i hc
          rw [if_neg h0, if_neg h9, if_neg hc]
          exact rest_means hw hr (fun x lf hx hq => meaning_means hw 0 x lf hx hq) (fun k9 hk => absurd ⟨k9, hk⟩ h9) h
  | d + 2, r, left, hr, h => by
    rw [meaning] at h ⊢
    split at h
    · rename_i h0; rw [if_pos h0]; exact leaf_means hr (.inl h0)
    · rename_i h0
      split at h
      · exact absurd h (by simp [stopM])
      · rename_i hc
        rw [if_neg h0, if_neg hc]
        exact rest_means hw hr (fun x lf hx hq => meaning_means hw (d + 1) x lf hx hq) (fun k9 hk x lf hx hq => meaning_means hw d x lf hx hq) h
end Go.Proofs.Ytigdcnlhgelkaaa

/-
  Chapter 9: values are read where they lie, by the program.
-/
namespace Go.Proofs.Ytigdcnlhgelkaaa
set_option linter.unusedVariables false
set_option linter.unusedSimpArgs false
open Go Go.G Go.Proofs Go.PL

/-- Segments that memory can hold. -/
structure Sg (l : List (List Int)) : Prop where
  b : ∀ x, x ∈ l → x.length * 8 ≤ 140737488355328
  w : Wds l
def arO (l : List (List Int)) (r : Rf) : A := if r.kind = 0 then .v (.pointer none) else arn l
@[simp] theorem arO_cells (l : List (List Int)) (r : Rf) : (arO l r).cells = [arO l r] := by unfold arO; split <;> rfl
@[simp] theorem arO_one (l : List (List Int)) (r : Rf) : (arO l r).one = true := by unfold arO; split <;> rfl
@[simp] theorem arO_bare (l : List (List Int)) (r : Rf) : (arO l r).bare = true := by unfold arO; split <;> rfl
@[simp] theorem arO_bare1 (l : List (List Int)) (r : Rf) : (arO l r).bare1 = true := by unfold arO; split <;> rfl
@[simp] theorem arO_bare2 (l : List (List Int)) (r : Rf) : (arO l r).bare2 = true := by unfold arO; split <;> rfl
theorem arO_nz {l : List (List Int)} {r : Rf} (h : r.kind ≠ 0) : arO l r = arn l := if_neg h
abbrev paL (l : List (List Int)) (r : Rf) : List A := [arO l r, iv r.kind, iv r.s, iv r.at_, iv r.data, iv r.kids, iv r.count, uv r.n]
abbrev paX (l : List (List Int)) (r : Rf) : A := .agg (paL l r)
def nwR (r : Rf) : Int := if r.kind = 1 then r.data else if r.kind = 10 then 1 else 0
def wordAt (l : List (List Int)) (r : Rf) (i : Int) : Int := if i < 0 ∨ nwR r ≤ i then 0 else if r.kind = 10 then r.n else (word l r.s (r.at_ + i)).getD 0

/-! ### small numbers -/
theorem u64_shr (x : Int) (k : Int) (h0 : 0 ≤ k) (h1 : k < 64) : x / 2 ^ (min k.toNat IntKind.u64.bits) = x / 2 ^ k.toNat := by
  have : min k.toNat IntKind.u64.bits = k.toNat := by
    have : IntKind.u64.bits = 64 := rfl
    omega
  rw [this]
set_option maxRecDepth 8000 in
theorem wGet_spec {g : List Int} (hg : ∀ x, x ∈ g → 0 ≤ x ∧ x < 18446744073709551616) (hl : g.length * 8 ≤ 140737488355328) (c i : Int) : G.Spec Try.prog 114 [uws g, iv c, iv i] (uv (getZ g c i)) := by
  refine spec_of t_word_Get (by simp) fun w0 I0 => ?_
  unfold c_word_Get
  simp
  refine sc_call (width_spec c) rfl ?_
  have hw := widthZ_cases c
  by_cases h0 : widthZ c < 1 ∨ i < 0 ∨ 1099511627776 < i
  · have e : getZ g c i = 0 := by unfold getZ; rw [if_pos h0]
    rw [e]
    rcases hw with h | h | h | h | h | h | h
    · simp [h]; exact frz_bare rfl
    · simp [h]; exact frz_bare rfl
    all_goals
      by_cases hi : i < 0
      · simp [h, hi]; exact frz_bare rfl
      · have hb : 1099511627776 < i := by omega
        simp [h, hi, hb]; exact frz_bare rfl
  · have hw1 : widthZ c = 1 ∨ widthZ c = 8 ∨ widthZ c = 16 ∨ widthZ c = 32 ∨ widthZ c = 64 := by omega
    have hi0 : 0 ≤ i := by omega
    have hi1 : i ≤ 1099511627776 := by omega
    have e : getZ g c i = ((g[(i * widthZ c / 64).toNat]?).getD 0) / 2 ^ (i * widthZ c % 64).toNat % 2 ^ (widthZ c).toNat := by unfold getZ; rw [if_neg h0]
    rw [e]
    clear e hw
    generalize widthZ c = w at hw1 h0
    have hn : ¬ w < 0 := by omega
    have hn0 : ¬ w = 0 := by omega
    have hp : 0 ≤ w := by omega
    have hneg : ¬ i < 0 := by omega
    have hbig : ¬ 1099511627776 < i := by omega
    have hb : 0 ≤ i * w ∧ i * w ≤ 70368744177664 := by rcases hw1 with rfl | rfl | rfl | rfl | rfl <;> omega
    have e1 : IntKind.i64.wrap (i * w) = i * w := i64_same (by omega) (by omega)
    have e2 : IntKind.i64.wrap ((i * w).tdiv 64) = i * w / 64 := by rw [Int.tdiv_eq_ediv_of_nonneg hb.1, i64_same (by omega) (by omega)]
    have e3 : (i * w).tmod 64 = i * w % 64 := Int.tmod_eq_emod_of_nonneg hb.1
    have hm : 0 ≤ i * w % 64 := by omega
    have hm1 : i * w % 64 < 64 := by omega
    have hd0 : 0 ≤ i * w / 64 := by omega
    by_cases hr : (g.length : Int) ≤ i * w / 64
    · have en : g[(i * w / 64).toNat]? = none := List.getElem?_eq_none (by omega)
      simp [hn, hn0, hp, hneg, hbig, e1, e2, hr, en]
      exact frz_bare rfl
    · have hlt : (i * w / 64).toNat < g.length := by omega
      have hlt' : i * w / 64 < g.length := by omega
      have hx := hg _ (List.getElem_mem hlt)
      simp [hn, hn0, hp, hneg, hbig, e1, e2, e3, hr, hd0, hlt, hlt', hm, u64_shr _ _ hm hm1]
      have hx0 : 0 ≤ g[(i * w / 64).toNat] / 2 ^ (i * w % 64).toNat := Int.ediv_nonneg hx.1 (Int.le_of_lt (Int.pow_pos (by decide)))
      have hx1 : g[(i * w / 64).toNat] / 2 ^ (i * w % 64).toNat < 18446744073709551616 := Int.lt_of_le_of_lt (Int.ediv_le_self _ hx.1) hx.2
      generalize g[(i * w / 64).toNat] / 2 ^ (i * w % 64).toNat = y at hx0 hx1
      refine ⟨fun h => ?_, fun h => ?_⟩
      · refine frz_int ?_
        rw [h]
        exact (Int.emod_eq_of_lt hx0 (by simpa using hx1)).symm
      · refine frz_int ?_
        have em : ∀ k : Nat, k < 64 → IntKind.u64.wrap (IntKind.u64.wrap (2 ^ min k IntKind.u64.bits) - 1) = 2 ^ k - 1 := fun k hk => by
          have h64 : min k IntKind.u64.bits = k := by
            have : IntKind.u64.bits = 64 := rfl
            omega
          have hp : (2 : Int) ^ k ≤ 9223372036854775808 := by
            have h2 := Int.ofNat_le.2 (Nat.pow_le_pow_right (n := 2) (by decide) (by omega : k ≤ 63))
            rw [Int.natCast_pow] at h2
            exact h2
          have hp0 : (0 : Int) < 2 ^ k := Int.pow_pos (by decide)
          rw [h64, u64_same (n := 2 ^ k) (by omega) (by omega), u64_same (by omega) (by omega)]
        rw [em w.toNat (by omega)]
        exact u64_mask w.toNat (by omega) hx0 hx1
theorem wWidth_spec (c : Int) : G.Spec Try.prog 113 [iv c] (.tup [iv (if widthZ c < 0 then 0 else widthZ c), bv (decide (0 ≤ widthZ c))]) := by
  refine spec_of t_word_Width (by simp) fun w0 I0 => ?_
  unfold c_word_Width
  simp
  refine sc_call (width_spec c) rfl ?_
  simp
  exact frz_bare rfl
theorem tup_bare {cs : List A} {x : Value} (h : cs.all A.bare2 = true) : (A.tup [.agg cs, .v x]).bare = true := by
  simp only [A.bare, List.all_cons, List.all_nil, Bool.and_true]
  rw [h]; rfl

/-! ### a value -/
theorem refKind_spec (l : List (List Int)) (r : Rf) : G.Spec Try.prog 60 [paX l r] (iv r.kind) := by
  refine spec_of t_reader_Ref_Kind (by simp) fun w0 I0 => ?_
  unfold c_reader_Ref_Kind
  simp
  exact frz_bare rfl
theorem refWords_spec' (l : List (List Int)) (r : Rf) : G.Spec Try.prog 78 [paX l r] (iv (nwR r)) := by
  refine spec_of t_reader_Ref_Words (by simp) fun w0 I0 => ?_
  unfold c_reader_Ref_Words
  by_cases h1 : r.kind = 1
  · simp [h1]; exact frz_is rfl (by simp [nwR, h1])
  · by_cases h10 : r.kind = 10
    · simp [h10]; exact frz_is rfl (by simp [nwR, h10])
    · simp [h1, h10]; exact frz_is rfl (by simp [nwR, h1, h10])
theorem refKids_spec' (l : List (List Int)) (r : Rf) : G.Spec Try.prog 71 [paX l r] (iv (nk r)) := by
  refine spec_of t_reader_Ref_Kids (by simp) fun w0 I0 => ?_
  unfold c_reader_Ref_Kids
  by_cases h1 : r.kind = 1
  · simp [h1]; exact frz_is rfl (by simp [nk, h1])
  · simp [h1]; exact frz_is rfl (by simp [nk, h1])
theorem hasW_bound {l : List (List Int)} (hs : Sg l) {s a n : Int} (h : hasW l s a n = true) : 0 ≤ a ∧ 0 ≤ n ∧ a + n ≤ 17592186044416 := by
  obtain ⟨h1, h2, h3, h4, h5, _, h6⟩ := hasW_in h
  have := hs.b _ (List.getElem_mem h5)
  omega
theorem word_spec' {l : List (List Int)} (hs : Sg l) {r : Rf} (hr : RfOk l r) (i : Int) : G.Spec Try.prog 63 [paX l r, iv i] (uv (wordAt l r i)) := by
  refine spec_of t_reader_Ref_Word (by simp) fun w0 I0 => ?_
  unfold c_reader_Ref_Word
  simp
  refine sc_call_gf rfl (fun _ => refWords_spec' l r) (fun e => by simp [e]) (by simp) ?_
  by_cases hi : i < 0 ∨ nwR r ≤ i
  · have hd : (decide (i < 0) || decide (nwR r ≤ i)) = true := by simpa using hi
    simp [hd]
    exact frz_is rfl (by simp [wordAt, hi])
  · have hd : (decide (i < 0) || decide (nwR r ≤ i)) = false := by simpa using hi
    simp [hd]
    have e : wordAt l r i = if r.kind = 10 then r.n else (word l r.s (r.at_ + i)).getD 0 := by rw [wordAt, if_neg hi]
    by_cases h10 : r.kind = 10
    · simp [h10]
      exact frz_is rfl (by rw [e, if_pos h10])
    · have h1 : r.kind = 1 := by
        cases hr <;> simp [nwR, Rf.zero] at hi h10 ⊢ <;> omega
      simp [h10]
      rw [e, if_neg h10, arO_nz (by omega)]
      have hb : IntKind.i64.wrap (r.at_ + i) = r.at_ + i := by
        cases hr with
        | str s a d k a1 a2 a3 a4 h =>
          have := hasW_bound hs h
          simp [nwR] at hi ⊢
          exact i64_same (by omega) (by omega)
        | _ => simp [Rf.zero] at h1 <;> omega
      rw [hb]
      refine sc_call (get_spec l hs.b r.s (r.at_ + i)) rfl ?_
      simp
      exact frz_bare rfl
theorem comp_spec {l : List (List Int)} (hs : Sg l) (s a n : Int) (ha : 0 ≤ a) (ha1 : a ≤ 17592186044416) : G.Spec Try.prog 104 [.agg [arn l, iv 0, iv s, iv a, iv 0, iv 0, iv 0, uv 0], iv n] (.tup [paX l (compP l s a n).1, iv (compP l s a n).2]) := by
  have h0 : 0 ≤ (word l s a).getD 0 ∧ (word l s a).getD 0 < 18446744073709551616 := by
    cases e : word l s a with
    | none => simp
    | some x => exact word_in hs.w e
  refine spec_of t_reader_Ref_composite (by simp) fun w0 I0 => ?_
  unfold c_reader_Ref_composite
  simp
  refine sc_call (get_spec l hs.b s a) rfl ?_
  simp
  unfold compP
  generalize (word l s a).getD 0 = w at h0
  refine sc_call (Decode_spec h0.1 h0.2) rfl ?_
  have hsh := dec_shp h0.1 h0.2
  have ho := dec_off h0.1 h0.2
  have hdp : 0 ≤ (dec w).data ∧ (dec w).data < 65536 ∧ 0 ≤ (dec w).ptrs ∧ (dec w).ptrs < 65536 := by
    unfold dec
    repeat' split
    all_goals simp
    all_goals omega
  generalize dec w = p at hsh ho hdp
  have hb : -70368744177664 ≤ p.off * (p.data + p.ptrs) ∧ p.off * (p.data + p.ptrs) ≤ 70368744177664 := by
    have b1 : p.off * (p.data + p.ptrs) ≤ 536870912 * (p.data + p.ptrs) := Int.mul_le_mul_of_nonneg_right (by omega) (by omega)
    have b2 : -536870912 * (p.data + p.ptrs) ≤ p.off * (p.data + p.ptrs) := Int.mul_le_mul_of_nonneg_right (by omega) (by omega)
    omega
  have e1 : IntKind.i64.wrap (p.data + p.ptrs) = p.data + p.ptrs := i64_same (by omega) (by omega)
  have e2 : IntKind.i64.wrap (p.off * (p.data + p.ptrs)) = p.off * (p.data + p.ptrs) := i64_same (by omega) (by omega)
  have e3 : IntKind.i64.wrap (a + 1) = a + 1 := i64_same (by omega) (by omega)
  by_cases hc : (w ≠ 0 ∧ p.kind ≠ 1) ∨ p.off < 0 ∨ n < p.off * (p.data + p.ptrs)
  · have hd : (((!decide (w = 0) && !decide (p.kind = 1)) || decide (p.off < 0)) || decide (n < p.off * (p.data + p.ptrs))) = true := by simp; omega
    rw [if_pos hc]
    simp [e1, e2, hd]
    exact frz_is (tup_bare (by simp)) (by simp [Rf.zero, arO])
  · have hd : (((!decide (w = 0) && !decide (p.kind = 1)) || decide (p.off < 0)) || decide (n < p.off * (p.data + p.ptrs))) = false := by simp; omega
    rw [if_neg hc]
    simp [e1, e2, e3, hd]
    exact frz_is (tup_bare (by simp)) (by simp [arO])
theorem at_spec {l : List (List Int)} (hs : Sg l) (s a : Int) : G.Spec Try.prog 72 [arn l, iv s, iv a] (.tup [paX l (atP l s a).1, iv (atP l s a).2]) := by
  have hf := follow_folw hs.w s a
  refine spec_of t_reader_At (by simp) fun w0 I0 => ?_
  unfold c_reader_At
  simp
  refine sc_call (follow_spec l hs.b hs.w s a) rfl ?_
  unfold atP
  generalize followP l s a = x at hf
  obtain ⟨x, e⟩ := x
  unfold Folw at hf
  simp only at hf ⊢
  by_cases hc : e ≠ 0 ∨ x.p.kind = 0
  · have hd : (!decide (e = 0) || decide (x.p.kind = 0)) = true := by simp; omega
    simp [hd, hc]
    exact frz_is (tup_bare (by simp)) (by simp [Rf.zero, arO])
  · have hd : (!decide (e = 0) || decide (x.p.kind = 0)) = false := by simp; omega
    have he : e = 0 := by omega
    obtain h0 | ⟨hk, hsh, hw⟩ := hf he
    · omega
    have hbd := hasW_bound hs hw
    rw [if_neg hc]
    simp [hd]
    unfold refP
    by_cases k1 : x.p.kind = 1
    · simp [k1]
      exact frz_is (tup_bare (by simp)) (by simp [arO])
    · have k2 : x.p.kind = 2 := by omega
      obtain ⟨c0, c1, _, _⟩ := hsh.k2 k2
      by_cases c6 : x.p.code < 6
      · have e2 : IntKind.i64.wrap (2 + x.p.code) = 2 + x.p.code := i64_same (by omega) (by omega)
        have c7 : x.p.code < 7 := by omega
        have nz : ¬ (2 + x.p.code = 0) := by omega
        simp [k1, c6, c7, e2]
        exact ⟨frz_is (tup_bare (by simp)) (by simp [arO, nz]), fun h => absurd h (by omega)⟩
      · by_cases c6' : x.p.code = 6
        · simp [k1, c6']
          exact frz_is (tup_bare (by simp)) (by simp [arO])
        · have c7 : ¬ x.p.code < 7 := by omega
          simp [k1, c6, c6', c7]
          intro _
          refine sc_call (comp_spec hs x.s x.at_ x.p.count hbd.1 (by omega)) rfl ?_
          simp
          exact frz_bare (tup_bare (by simp))
theorem root_spec {l : List (List Int)} (hs : Sg l) : G.Spec Try.prog 38 [arn l] (.tup [paX l (atP l 0 0).1, iv (atP l 0 0).2]) := by
  refine spec_of t_reader_Root (by simp) fun w0 I0 => ?_
  unfold c_reader_Root
  simp
  refine sc_call (at_spec hs 0 0) rfl ?_
  simp
  exact frz_bare (tup_bare (by simp))
end Go.Proofs.Ytigdcnlhgelkaaa

/-
  Chapters 9, 14, 15: kids; what counts of values; whether they mean the same.
-/
namespace Go.Proofs.Ytigdcnlhgelkaaa
set_option linter.unusedVariables false
set_option linter.unusedSimpArgs false
open Go Go.G Go.Proofs Go.PL

theorem word_drop {l : List (List Int)} {s a : Int} (ha : 0 ≤ a) (k : Nat) : ((((seg l s).getD []).drop a.toNat)[k]?).getD 0 = (word l s (a + k)).getD 0 := by
  unfold word
  rw [if_pos (by omega)]
  cases seg l s with
  | none => simp
  | some g =>
    simp only [Option.getD_some, Option.bind_some, List.getElem?_drop]
    have : a.toNat + k = (a + k).toNat := by omega
    rw [this]
theorem atom_spec {l : List (List Int)} (hs : Sg l) {c s a n : Int} (c0 : 0 ≤ c) (c6 : c < 6) (n0 : 0 ≤ n) (n1 : n < 536870912) (h : hasW l s a ((n * bitsOf c + 63) / 64) = true) {i : Int} (i0 : 0 ≤ i) (i1 : i < n) :
    G.Spec Try.prog 77 [paX l ⟨2 + c, s, a, 0, 0, n, 0⟩, iv i] (uv (atomZ l ⟨2 + c, s, a, 0, 0, n, 0⟩ i)) := by
  have hb := hasW_bound hs h
  have e2 : IntKind.i64.wrap c = c := i64_same (by omega) (by omega)
  have nz : ¬ (2 + c = 0) := by omega
  have key : ∀ w per : Int, widthZ c = w → w * per = 64 → (w = 1 ∨ w = 8 ∨ w = 16 ∨ w = 32 ∨ w = 64) → getZ [(word l s (a + i / per)).getD 0] c (i % per) = atomZ l ⟨2 + c, s, a, 0, 0, n, 0⟩ i := fun w per hw hp hw' => by
    unfold atomZ getZ
    simp only [show 2 + c - 2 = c by omega, hw]
    have hk : (i % per * w / 64).toNat = 0 ∧ i % per * w % 64 = i * w % 64 ∧ i * w / 64 = i / per ∧ ¬ (i % per < 0) ∧ ¬ 1099511627776 < i % per := by
      rcases hw' with rfl | rfl | rfl | rfl | rfl
      · have : per = 64 := by omega
        subst this; omega
      · have : per = 8 := by omega
        subst this; omega
      · have : per = 4 := by omega
        subst this; omega
      · have : per = 2 := by omega
        subst this; omega
      · have : per = 1 := by omega
        subst this; omega
    obtain ⟨k1, k2, k3, k4, k5⟩ := hk
    rw [if_neg (by omega), if_neg (by omega), k1, k2, k3]
    have hd0 : 0 ≤ i / per := by rw [← k3]; rcases hw' with rfl | rfl | rfl | rfl | rfl <;> omega
    have := word_drop (l := l) (s := s) (a := a) hb.1 (i / per).toNat
    rw [show ((i / per).toNat : Int) = i / per by omega] at this
    rw [this]
    simp
  have e2' : IntKind.i64.wrap (2 + c - 2) = c := by rw [i64_same (by omega) (by omega)]; omega
  have hw64 : ∀ x : Int, 0 ≤ (word l s x).getD 0 ∧ (word l s x).getD 0 < 18446744073709551616 := fun x => by
    cases e : word l s x with
    | none => simp
    | some y => exact word_in hs.w e
  refine spec_of t_reader_Ref_atom (by simp) fun w0 I0 => ?_
  unfold c_reader_Ref_atom
  simp [e2']
  refine sc_call (wWidth_spec c) rfl ?_
  by_cases hc0 : c = 0
  · subst hc0
    simp [widthZ]
    exact frz_is rfl (by simp [atomZ, getZ, widthZ])
  have hx : ∃ w per : Int, widthZ c = w ∧ w * per = 64 ∧ (w = 1 ∨ w = 8 ∨ w = 16 ∨ w = 32 ∨ w = 64) ∧ (per = 64 ∨ per = 8 ∨ per = 4 ∨ per = 2 ∨ per = 1) ∧ IntKind.i64.wrap ((64 : Int).tdiv w) = per := by
    have hc : c = 1 ∨ c = 2 ∨ c = 3 ∨ c = 4 ∨ c = 5 := by omega
    rcases hc with rfl | rfl | rfl | rfl | rfl
    · exact ⟨1, 64, rfl, rfl, by omega, by omega, by decide⟩
    · exact ⟨8, 8, rfl, rfl, by omega, by omega, by decide⟩
    · exact ⟨16, 4, rfl, rfl, by omega, by omega, by decide⟩
    · exact ⟨32, 2, rfl, rfl, by omega, by omega, by decide⟩
    · exact ⟨64, 1, rfl, rfl, by omega, by omega, by decide⟩
  obtain ⟨w, per, hw, hp, hw', hper, ep⟩ := hx
  have hk := key w per hw hp hw'
  have wn : ¬ w < 0 := by omega
  have wz : ¬ w = 0 := by omega
  have pz : ¬ per = 0 := by omega
  have hq : 0 ≤ i / per ∧ i / per ≤ i := by rcases hper with rfl | rfl | rfl | rfl | rfl <;> omega
  have hm : 0 ≤ i % per := Int.emod_nonneg _ pz
  have e3 : IntKind.i64.wrap (i.tdiv per) = i / per := by rw [Int.tdiv_eq_ediv_of_nonneg i0, i64_same (by omega) (by omega)]
  have e4 : IntKind.i64.wrap (a + i / per) = a + i / per := i64_same (by omega) (by omega)
  have e5 : i.tmod per = i % per := Int.tmod_eq_emod_of_nonneg i0
  simp [hw, wn, wz, ep, pz, e3, e4, arO, nz]
  refine sc_call (get_spec l hs.b s (a + i / per)) rfl ?_
  simp [pz, e5]
  have hx := hw64 (a + i / per)
  refine sc_call ((wGet_spec (g := [(word l s (a + i / per)).getD 0]) (fun x hx' => by simp at hx'; rw [hx']; exact hx) (by simp) c (i % per)).soft (by simp [A.softL, A.soft])) rfl ?_
  simp
  rw [hk]
  exact frz_bare rfl
theorem kid_spec {l : List (List Int)} (hs : Sg l) {r : Rf} (hr : RfOk l r) (i : Int) : G.Spec Try.prog 43 [paX l r, iv i] (.tup [paX l (kidP l r i).1, iv (kidP l r i).2]) := by
  refine spec_of t_reader_Ref_Kid (by simp) fun w0 I0 => ?_
  unfold c_reader_Ref_Kid
  simp
  refine sc_call_gf rfl (fun _ => refKids_spec' l r) (fun e => by simp [e]) (by simp) ?_
  by_cases hi : i < 0 ∨ nk r ≤ i
  · have hd : (decide (i < 0) || decide (nk r ≤ i)) = true := by simpa using hi
    simp [hd]
    exact frz_is (tup_bare (by simp)) (by simp [kidP, hi, Rf.zero, arO])
  · have hd : (decide (i < 0) || decide (nk r ≤ i)) = false := by simpa using hi
    have hi0 : 0 ≤ i := by omega
    have hi1 : i < nk r := by omega
    have hk := nk_nonneg hr
    rw [kidP, if_neg hi]
    cases hr with
    | zero => simp [nk, Rf.zero] at hi1; omega
    | str s a d k a1 a2 a3 a4 h =>
      have hb := hasW_bound hs h
      have e1 : IntKind.i64.wrap (IntKind.i64.wrap (a + d) + i) = a + d + i := by
        rw [i64_same (n := a + d) (by omega) (by omega), i64_same (by omega) (by omega)]
      simp [hd, arO, e1]
      refine sc_call (at_spec hs s (a + d + i)) rfl ?_
      simp
      exact frz_bare (tup_bare (by simp))
    | dat c s a n a1 a2 a3 a4 h =>
      have n0 : ¬ (2 + c = 0) := by omega
      have n1 : ¬ (2 + c = 1) := by omega
      have n8 : ¬ (2 + c = 8) := by omega
      have n9 : ¬ (2 + c = 9) := by omega
      have hn : i < n := by simpa [nk, n1] using hi1
      have := atom_spec hs a1 a2 a3 a4 h hi0 hn
      simp [hd, n1, n8, n9]
      refine sc_call this (by simp) ?_
      simp
      exact frz_is (tup_bare (by simp)) (by simp [arO, n0])
    | ptrs s a n a1 a2 h =>
      have hb := hasW_bound hs h
      have e1 : IntKind.i64.wrap (a + i) = a + i := i64_same (by omega) (by omega)
      simp [hd, arO, e1]
      refine sc_call (at_spec hs s (a + i)) rfl ?_
      simp
      exact frz_bare (tup_bare (by simp))
    | comp s a d k n a1 a2 a3 a4 a5 a6 h =>
      have hb := hasW_bound hs h
      have hn : i < n := by simpa [nk] using hi1
      have m1 : 0 ≤ i * (d + k) := Int.mul_nonneg hi0 (by omega)
      have m2 : i * (d + k) ≤ n * (d + k) := mul_le_of (by omega) (by omega)
      have e1 : IntKind.i64.wrap (d + k) = d + k := i64_same (by omega) (by omega)
      have e2 : IntKind.i64.wrap (i * (d + k)) = i * (d + k) := i64_same (by omega) (by omega)
      have e3 : IntKind.i64.wrap (a + i * (d + k)) = a + i * (d + k) := i64_same (by omega) (by omega)
      simp [hd, arO, e1, e2, e3]
      exact frz_is (tup_bare (by simp)) (by simp [arO])
    | atom n a1 a2 => simp [nk] at hi1; omega

/-! ### what counts -/
theorem means_word {l : List (List Int)} {r : Rf} {t : T} (h : Means l r t) : nwR r = t.words.length ∧ ∀ (i : Nat) (hi : i < t.words.length), wordAt l r i = t.words[i] := by
  cases h with
  | mk _ _ hr hk hw hn he hm =>
    have hl : nwR r = (wordsR l r).length := by
      cases hr with
      | str s a d k a1 a2 a3 a4 h =>
        obtain ⟨h1, h2, h3, h4, h5, e, h6⟩ := hasW_in h
        simp [nwR, wordsR, part, e]
        omega
      | dat c s a n a1 a2 a3 a4 h =>
        have : ¬ (2 + c = 10) := by omega
        have h1 : ¬ (2 + c = 1) := by omega
        simp [nwR, wordsR, this, h1]
      | _ => simp [nwR, wordsR, Rf.zero]
    rw [← hw]
    refine ⟨hl, fun i hi => ?_⟩
    have hi' : (i : Int) < nwR r := by rw [hl]; omega
    rw [wordAt, if_neg (by omega)]
    cases hr with
    | str s a d k a1 a2 a3 a4 h =>
      obtain ⟨h1, h2, h3, h4, h5, e, h6⟩ := hasW_in h
      simp [wordsR, part, e]
      have := word_drop (l := l) (s := s) (a := a) h3 i
      rw [e] at this
      simp at this
      rw [← this, List.getElem?_eq_getElem (by simp [nwR] at hi'; omega)]
      simp
    | atom n a1 a2 =>
      simp [wordsR] at hi ⊢
    | dat c s a n a1 a2 a3 a4 h =>
      have : ¬ (2 + c = 10) := by omega
      have h1 : ¬ (2 + c = 1) := by omega
      simp [nwR, this, h1] at hi'
      omega
    | _ => simp [nwR, Rf.zero] at hi' <;> omega
theorem means_ok {l : List (List Int)} {r : Rf} {t : T} (h : Means l r t) : RfOk l r := by cases h; assumption
theorem means_kind {l : List (List Int)} {r : Rf} {t : T} (h : Means l r t) : r.kind = t.kind := by cases h; assumption
theorem means_nk {l : List (List Int)} {r : Rf} {t : T} (h : Means l r t) : nk r = t.kids.length := by cases h; assumption
theorem means_kid {l : List (List Int)} {r : Rf} {t : T} (h : Means l r t) {i : Nat} (hi : i < t.kids.length) : (kidP l r i).2 = 0 ∧ Means l (kidP l r i).1 t.kids[i] := by
  cases h with
  | mk _ _ hr hk hw hn he hm => exact ⟨he i hi, hm i hi⟩
end Go.Proofs.Ytigdcnlhgelkaaa

/-
  Chapters 14 and 15: what counts of a value; whether two mean the same.
-/
namespace Go.Proofs.Ytigdcnlhgelkaaa
set_option linter.unusedVariables false
set_option linter.unusedSimpArgs false
open Go Go.G Go.Proofs Go.PL

theorem means_bare {l : List (List Int)} {r : Rf} {t : T} (h : Means l r t) : Bare t := fun h0 => by
  have hk := means_kind h
  have hw := (means_word h).1
  have hn := means_nk h
  have hr := means_ok h
  rw [h0] at hk
  have : nwR r = 0 ∧ nk r = 0 := by
    cases hr <;> simp [nwR, nk, Rf.zero] at hk ⊢ <;> omega
  exact ⟨List.eq_nil_of_length_eq_zero (by omega), List.eq_nil_of_length_eq_zero (by omega)⟩
theorem means_len {l : List (List Int)} {r : Rf} {t : T} (h : Means l r t) : t.words.length ≤ 65536 ∧ t.kids.length < 536870912 := by
  have hw := (means_word h).1
  have hn := means_nk h
  have hr := means_ok h
  have := nk_nonneg hr
  have : nwR r ≤ 65536 := by
    cases hr <;> simp [nwR, Rf.zero] <;> (try split) <;> omega
  omega
section
variable {n0 : Nat} {w0 : World} {I0 : Nat → Prop} {Q : Exit → Sta → Prop} {H : Hp}
theorem long_l1 {l : List (List Int)} (hs : Sg l) {r : Rf} {t : T} (hm : Means l r t) (hH : H [0] = ⟨1, .cells (paL l r)⟩) (hq : ∀ q, Q (.exit 0) ⟨lk [(1, .pob [0] 1 0), (3, iv (trimW t.words).length), (14, bv q)], H⟩) : ∀ (n : Nat), n ≤ t.words.length → trimW (t.words.take n) = trimW t.words →
    LoopC (cx Try.prog w0 I0 n0) l1_copy_Long Q ⟨lk [(1, .pob [0] 1 0), (3, iv n)], H⟩ := by
  have hlen := means_len hm
  intro n
  induction n with
  | zero =>
    intro hn ht
    refine loopC_once mixed l1_copy_Long.eq_1 ?_
    simp
    refine sc_call_off rfl ?_
    have e : (trimW t.words).length = 0 := by rw [← ht]; rfl
    have := hq false
    rw [e] at this
    simp
    exact this
  | succ n ih =>
    intro hn ht
    have hlt : n < t.words.length := by omega
    have e : IntKind.i64.wrap (n : Int) = n := i64_same (by omega) (by omega)
    have hp : (0 : Int) < (n : Int) + 1 := by omega
    have hwd := (means_word hm).2 n hlt
    refine loopC_once mixed l1_copy_Long.eq_1 ?_
    simp [hp, hH, e]
    refine sc_call_gt rfl (fun _ => word_spec' hs (means_ok hm) n) (fun _ => rfl) (by simp) ?_
    rw [hwd]
    by_cases h0 : t.words[n] = 0
    · simp [h0, e]
      exact ih (by omega) (by rw [← trimW_zero hlt h0]; exact ht)
    · have e2 : (trimW t.words).length = n + 1 := by rw [← ht, trimW_stop hlt h0]; simp; omega
      have := hq false
      rw [e2] at this
      simp [h0]
      exact this
theorem wide_l1 {l : List (List Int)} (hs : Sg l) {r : Rf} {t : T} (hm : Means l r t) : ∀ (n : Nat) (H : Hp), H [0] = ⟨1, .cells (paL l r)⟩ → n ≤ t.kids.length → trimK (t.kids.take n) = trimK t.kids → ((trimK t.kids).length = 0 → ∀ k q H', Q (.exit 0) ⟨lk [(1, .pob [0] 1 0), (4, iv k), (10, bv q)], H'⟩) → ((trimK t.kids).length ≠ 0 → ∀ H', Q .ret ⟨lk [(2, iv (trimK t.kids).length), (3, iv 0)], H'⟩) →
    LoopC (cx Try.prog w0 I0 n0) l1_copy_Wide Q ⟨lk [(1, .pob [0] 1 0), (4, iv n)], H⟩ := by
  have hlen := means_len hm
  intro n
  induction n with
  | zero =>
    intro H hH hn ht h1 h2
    refine loopC_once mixed l1_copy_Wide.eq_1 ?_
    simp
    exact h1 (by rw [← ht]; rfl) _ _ _
  | succ n ih =>
    intro H hH hn ht h1 h2
    have hlt : n < t.kids.length := by omega
    have e : IntKind.i64.wrap (n : Int) = n := i64_same (by omega) (by omega)
    have hp : (0 : Int) < (n : Int) + 1 := by omega
    obtain ⟨k1, k2⟩ := means_kid hm hlt
    have kk := means_kind k2
    refine loopC_once mixed l1_copy_Wide.eq_1 ?_
    simp [hp, hH, e]
    refine sc_call (kid_spec hs (means_ok hm) n) (by simp) ?_
    simp [k1, updF_app]
    refine sc_call_gf rfl (fun _ => refKind_spec l (kidP l r n).1) (fun _ => rfl) (by simp) ?_
    rw [kk]
    by_cases h0 : t.kids[n].kind = 0
    · simp [h0, e]
      exact ih _ (by simp [updF_app, hH]) (by omega) (by rw [← trimK_zero hlt h0]; exact ht) h1 h2
    · have e2 : (trimK t.kids).length = n + 1 := by rw [← ht, trimK_stop hlt h0]; simp; omega
      simp [h0]
      have := h2 (by omega) 
      rw [e2] at this
      exact this _
end
theorem long_spec {l : List (List Int)} (hs : Sg l) {r : Rf} {t : T} (hm : Means l r t) : G.Spec Try.prog 45 [paX l r] (iv (trimW t.words).length) := by
  refine spec_of t_copy_Long (by simp) fun w0 I0 => ?_
  unfold c_copy_Long
  simp
  refine sc_call (refWords_spec' l r) (by simp) ?_
  rw [(means_word hm).1]
  simp
  refine long_l1 hs hm (by simp) (fun q => ?_) t.words.length (Nat.le_refl _) (by rw [List.take_of_length_le (Nat.le_refl _)])
  simp
  exact frz_bare rfl
theorem wide_spec {l : List (List Int)} (hs : Sg l) {r : Rf} {t : T} (hm : Means l r t) : G.Spec Try.prog 44 [paX l r] (.tup [iv (trimK t.kids).length, iv 0]) := by
  refine spec_of t_copy_Wide (by simp) fun w0 I0 => ?_
  unfold c_copy_Wide
  simp
  refine sc_call (refKids_spec' l r) (by simp) ?_
  rw [means_nk hm]
  simp
  refine wide_l1 hs hm t.kids.length _ (by simp) (Nat.le_refl _) (by rw [List.take_of_length_le (Nat.le_refl _)]) (fun h k q H' => ?_) (fun h H' => ?_)
  · simp
    exact frz_is rfl (by simp [h])
  · simp
    exact frz_bare rfl
theorem ekids_spec {l : List (List Int)} (hs : Sg l) {r : Rf} {t : T} (hm : Means l r t) : G.Spec Try.prog 61 [paX l r] (.tup [iv (nK t), iv 0]) := by
  refine spec_of t_equal_kids (by simp) fun w0 I0 => ?_
  unfold c_equal_kids
  simp
  refine sc_call (refKind_spec l r) (by simp) ?_
  rw [means_kind hm]
  by_cases h1 : t.kind = 1
  · simp [h1]
    refine sc_call (wide_spec hs hm) (by simp) ?_
    simp
    exact frz_is rfl (by simp [nK, h1])
  · simp [h1]
    refine sc_call (refKids_spec' l r) (by simp) ?_
    rw [means_nk hm]
    simp
    exact frz_is rfl (by simp [nK, h1])
theorem ewords_spec {l : List (List Int)} (hs : Sg l) {r : Rf} {t : T} (hm : Means l r t) : G.Spec Try.prog 62 [paX l r] (iv (nW t)) := by
  refine spec_of t_equal_words (by simp) fun w0 I0 => ?_
  unfold c_equal_words
  simp
  refine sc_call (refKind_spec l r) (by simp) ?_
  rw [means_kind hm]
  by_cases h1 : t.kind = 1
  · simp [h1]
    refine sc_call (long_spec hs hm) (by simp) ?_
    simp
    exact frz_is rfl (by simp [nW, h1])
  · simp [h1]
    refine sc_call (refWords_spec' l r) (by simp) ?_
    rw [(means_word hm).1]
    simp
    exact frz_is rfl (by simp [nW, h1])

/-! ### alike -/
noncomputable def alikeB (t u : T) : Bool := by classical exact decide (t.kind = u.kind ∧ nW t = nW u ∧ nK t = nK u ∧ ∀ i : Nat, i < nW t → t.words[i]? = u.words[i]?)
theorem alikeB_iff {t u : T} : alikeB t u = true ↔ t.kind = u.kind ∧ nW t = nW u ∧ nK t = nK u ∧ ∀ i : Nat, i < nW t → t.words[i]? = u.words[i]? := by simp [alikeB]
section
variable {n0 : Nat} {w0 : World} {I0 : Nat → Prop} {Q : Exit → Sta → Prop} {H : Hp}
theorem alike_l1 {l m : List (List Int)} (hl : Sg l) (hm : Sg m) {r s : Rf} {t u : T} (ht : Means l r t) (hu : Means m s u) (hW : nW t = nW u) (hA : H [0] = ⟨1, .cells (paL l r)⟩) (hB : H [1] = ⟨1, .cells (paL m s)⟩) {k : Int} : ∀ (j i : Nat), i + j = nW t → (∀ x : Nat, x < i → t.words[x]? = u.words[x]?) →
    ((∀ x : Nat, x < nW t → t.words[x]? = u.words[x]?) → ∀ i' q, Q (.exit 0) ⟨lk [(2, .pob [0] 1 0), (3, .pob [1] 1 0), (7, iv k), (10, .fnc 63 [] []), (46, iv (nW t)), (47, iv i'), (48, bv q)], H⟩) →
    (¬ (∀ x : Nat, x < nW t → t.words[x]? = u.words[x]?) → Q .ret ⟨lk [(4, iv 0), (5, bv false), (6, iv 0)], H⟩) →
    LoopC (cx Try.prog w0 I0 n0) l1_equal_alike Q ⟨lk [(2, .pob [0] 1 0), (3, .pob [1] 1 0), (7, iv k), (10, .fnc 63 [] []), (46, iv (nW t)), (47, iv i)], H⟩ := by
  have h1 := means_len ht
  have h2 := means_len hu
  have w1 := nW_le t
  have w2 := nW_le u
  intro j
  induction j with
  | zero =>
    intro i hi he hq hq2
    have : i = nW t := by omega
    subst this
    refine loopC_once mixed l1_equal_alike.eq_1 ?_
    simp
    exact hq he _ _
  | succ j ih =>
    intro i hi he hq hq2
    have hlt : i < nW t := by omega
    have lt1 : i < t.words.length := by omega
    have lt2 : i < u.words.length := by omega
    have hlt' : (i : Int) < nW t := by omega
    have ei : IntKind.i64.wrap ((i : Int) + 1) = ((i + 1 : Nat) : Int) := i64_same (by omega) (by omega)
    refine loopC_once mixed l1_equal_alike.eq_1 ?_
    simp [hlt, hA, hB]
    refine sc_callv rfl (word_spec' hl (means_ok ht) i) (by simp) ?_
    rw [(means_word ht).2 i lt1]
    simp [hA, hB]
    refine sc_callv rfl (word_spec' hm (means_ok hu) i) (by simp) ?_
    rw [(means_word hu).2 i lt2]
    by_cases hx : t.words[i] = u.words[i]
    · simp [hx, ei]
      refine ih (i + 1) (by omega) (fun x hx' => ?_) hq hq2
      by_cases e : x = i
      · subst e; rw [List.getElem?_eq_getElem lt1, List.getElem?_eq_getElem lt2, hx]
      · exact he x (by omega)
    · simp [hx]
      refine hq2 fun hh => hx ?_
      have := hh i hlt
      rw [List.getElem?_eq_getElem lt1, List.getElem?_eq_getElem lt2] at this
      exact Option.some.inj this
end
theorem alike_spec {l m : List (List Int)} (hl : Sg l) (hm : Sg m) {r s : Rf} {t u : T} (ht : Means l r t) (hu : Means m s u) : G.Spec Try.prog 58 [paX l r, paX m s] (.tup [iv (if alikeB t u = true then nK t else 0), bv (alikeB t u), iv 0]) := by
  refine spec_of t_equal_alike (by simp) fun w0 I0 => ?_
  unfold c_equal_alike
  simp
  refine sc_call (refKind_spec l r) (by simp) ?_
  simp
  refine sc_call (refKind_spec m s) (by simp) ?_
  rw [means_kind ht, means_kind hu]
  have no : ¬ (t.kind = u.kind ∧ nW t = nW u ∧ nK t = nK u ∧ ∀ i : Nat, i < nW t → t.words[i]? = u.words[i]?) → alikeB t u = false := fun h => by rw [Bool.eq_false_iff]; exact fun e => h (alikeB_iff.1 e)
  by_cases h1 : t.kind = u.kind
  · simp [h1]
    refine sc_call_gf rfl (fun _ => ewords_spec hl ht) (fun _ => rfl) (by simp) ?_
    simp
    refine sc_call_gf rfl (fun _ => ewords_spec hm hu) (fun _ => rfl) (by simp) ?_
    by_cases h2 : nW t = nW u
    · simp [h2]
      refine sc_call (ekids_spec hl ht) (by simp) ?_
      simp
      refine sc_call (ekids_spec hm hu) (by simp) ?_
      by_cases h3 : nK t = nK u
      · simp [h3]
        refine sc_call (ewords_spec hl ht) (by simp) ?_
        simp
        refine alike_l1 hl hm ht hu h2 (by simp) (by simp) (nW t) 0 (by omega) (fun x hx => by omega) (fun hh i' q => ?_) (fun hh => ?_)
        · have : alikeB t u = true := alikeB_iff.2 ⟨h1, h2, h3, hh⟩
          simp
          exact frz_is rfl (by simp [this, h3])
        · have := no fun ⟨_, _, _, h⟩ => hh h
          simp
          exact frz_is rfl (by simp [this])
      · have := no fun ⟨_, _, h, _⟩ => h3 h
        simp [h3]
        refine ⟨fun h => absurd (by omega) h3, fun _ => ?_⟩
        exact frz_is rfl (by simp [this])
    · have := no fun ⟨_, h, _, _⟩ => h2 h
      simp [h2]
      refine ⟨fun h => absurd (by omega) h2, fun _ => ?_⟩
      exact frz_is rfl (by simp [this])
  · have := no fun ⟨h, _, _, _⟩ => h1 h
    simp [h1]
    refine sc_call_off rfl ?_
    simp
    refine sc_call_off rfl ?_
    simp
    exact frz_is rfl (by simp [this])

/-! ### whether two mean the same -/
theorem eqT_alike {t u : T} (ht : Bare t) (hu : Bare u) : eqT t u = true ↔ alikeB t u = true ∧ ∀ i : Nat, i < nK t → (t.kids[i]?).map norm = (u.kids[i]?).map norm := by
  rw [eqT_iff, norm_eq ht hu, alikeB_iff]
  constructor
  · rintro ⟨a, b, c, d, e⟩; exact ⟨⟨a, b, c, d⟩, e⟩
  · rintro ⟨⟨a, b, c, d⟩, e⟩; exact ⟨a, b, c, d, e⟩
section
variable {n0 : Nat} {w0 : World} {I0 : Nat → Prop} {Q : Exit → Sta → Prop}
abbrev ValS (l m : List (List Int)) (t u : T) : Prop := ∀ r s, Means l r t → Means m s u → G.Spec Try.prog 23 [paX l r, paX m s] (.tup [bv (eqT t u), iv 0])
theorem values_l1 {l m : List (List Int)} (hl : Sg l) (hm : Sg m) {r s : Rf} {t u : T} (ht : Means l r t) (hu : Means m s u) (hK : nK t = nK u) (ih : ∀ c, c ∈ t.kids → ∀ d, ValS l m c d) : ∀ (j i : Nat) (H : Hp), i + j = nK t → H [0] = ⟨1, .cells (paL l r)⟩ → H [1] = ⟨1, .cells (paL m s)⟩ → (∀ x : Nat, x < i → (t.kids[x]?).map norm = (u.kids[x]?).map norm) →
    ((∀ x : Nat, x < nK t → (t.kids[x]?).map norm = (u.kids[x]?).map norm) → ∀ i' q H', Q (.exit 0) ⟨lk [(2, .pob [0] 1 0), (3, .pob [1] 1 0), (29, iv (nK t)), (30, iv i'), (31, bv q)], H'⟩) →
    (¬ (∀ x : Nat, x < nK t → (t.kids[x]?).map norm = (u.kids[x]?).map norm) → ∀ H', Q .ret ⟨lk [(4, bv false), (5, iv 0)], H'⟩) →
    LoopC (cx Try.prog w0 I0 n0) l1_equal_Values Q ⟨lk [(2, .pob [0] 1 0), (3, .pob [1] 1 0), (29, iv (nK t)), (30, iv i)], H⟩ := by
  have h1 := means_len ht
  have h2 := means_len hu
  have w1 := nK_le t
  have w2 := nK_le u
  intro j
  induction j with
  | zero =>
    intro i H hi hA hB he hq hq2
    have : i = nK t := by omega
    subst this
    refine loopC_once mixed l1_equal_Values.eq_1 ?_
    simp
    exact hq he _ _ _
  | succ j ihj =>
    intro i H hi hA hB he hq hq2
    have hlt : i < nK t := by omega
    have lt1 : i < t.kids.length := by omega
    have lt2 : i < u.kids.length := by omega
    have ei : IntKind.i64.wrap ((i : Int) + 1) = ((i + 1 : Nat) : Int) := i64_same (by omega) (by omega)
    obtain ⟨a1, a2⟩ := means_kid ht lt1
    obtain ⟨b1, b2⟩ := means_kid hu lt2
    have ihc := ih _ (List.getElem_mem lt1) u.kids[i] _ _ a2 b2
    refine loopC_once mixed l1_equal_Values.eq_1 ?_
    simp [hlt, hA]
    refine sc_call (kid_spec hl (means_ok ht) i) (by simp) ?_
    simp [a1, updF_app, hB]
    refine sc_call (kid_spec hm (means_ok hu) i) (by simp) ?_
    simp [b1, updF_app]
    refine sc_call ihc (by simp) ?_
    cases hq' : eqT t.kids[i] u.kids[i] with
    | true =>
      simp [ei]
      refine ihj (i + 1) _ (by omega) (by simp [updF_app, hA]) (by simp [updF_app, hB]) (fun x hx' => ?_) hq hq2
      by_cases e : x = i
      · subst e; rw [List.getElem?_eq_getElem lt1, List.getElem?_eq_getElem lt2]; simp [eqT_iff.1 hq']
      · exact he x (by omega)
    | false =>
      simp
      refine hq2 (fun hh => ?_) _
      have := hh i hlt
      rw [List.getElem?_eq_getElem lt1, List.getElem?_eq_getElem lt2] at this
      have := eqT_iff.2 (Option.some.inj this)
      rw [hq'] at this
      cases this
end
theorem values_spec {l m : List (List Int)} (hl : Sg l) (hm : Sg m) : ∀ t u, ValS l m t u := by
  refine T.ind fun k w ks ih u r s ht hu => ?_
  have hb := eqT_alike (means_bare ht) (means_bare hu)
  refine spec_of t_equal_Values (by simp) fun w0 I0 => ?_
  unfold c_equal_Values
  simp
  refine sc_call (alike_spec hl hm ht hu) (by simp) ?_
  cases ha : alikeB (.mk k w ks) u with
  | false =>
    have : eqT (.mk k w ks) u = false := by rw [Bool.eq_false_iff]; intro e; have := (hb.1 e).1; rw [ha] at this; cases this
    simp
    exact frz_is rfl (by simp [this])
  | true =>
    obtain ⟨_, _, hK, _⟩ := alikeB_iff.1 ha
    simp
    refine values_l1 hl hm ht hu hK (fun c hc d => ih c hc d) (nK (.mk k w ks)) 0 _ (by omega) (by simp) (by simp) (fun x hx => by omega) (fun hh i' q H' => ?_) (fun hh H' => ?_)
    · have := hb.2 ⟨ha, hh⟩
      simp
      exact frz_is rfl (by simp [this])
    · have : eqT (.mk k w ks) u = false := by rw [Bool.eq_false_iff]; intro e; exact hh (hb.1 e).2
      simp
      exact frz_is rfl (by simp [this])
end Go.Proofs.Ytigdcnlhgelkaaa

/-
  Chapter 9's reference: values where they lie.
-/
namespace Go.Proofs.Ytigdcnlhgelkaaa
set_option linter.unusedVariables false
set_option linter.unusedSimpArgs false
open Go Go.G Go.Proofs Go.PL

abbrev raX (r : Rf) : A := .agg [iv r.kind, iv r.s, iv r.at_, iv r.data, iv r.kids, iv r.count, uv r.n]
def bitZ (g : List Int) (i : Int) : Int := if i < 0 then 0 else ((g[(i / 64).toNat]?).getD 0) / 2 ^ (i % 64).toNat % 2

section
variable {n0 : Nat} {w0 : World} {I0 : Nat → Prop} {Q : Exit → Sta → Prop} {H : Hp}
theorem rBit_l1 {i : Int} (hi : 0 ≤ i) : ∀ (m : Nat) (x j : Int), 0 ≤ x → x < 18446744073709551616 → 0 ≤ j → j + m = i % 64 → (∀ j' b, Q (.exit 0) ⟨lk [(1, iv i), (5, uv (x / 2 ^ m)), (6, iv j'), (24, bv b)], H⟩) →
    LoopC (cx Try.prog w0 I0 n0) l1_centoref01_Bit Q ⟨lk [(1, iv i), (5, uv x), (6, iv j)], H⟩ := by
  have e : i.tmod 64 = i % 64 := Int.tmod_eq_emod_of_nonneg hi
  intro m
  induction m with
  | zero =>
    intro x j h0 h1 h2 h3 hq
    have : j = i % 64 := by simpa using h3
    subst this
    refine loopC_once mixed l1_centoref01_Bit.eq_1 ?_
    simp [e]
    simpa using hq _ _
  | succ m ih =>
    intro x j h0 h1 h2 h3 hq
    refine loopC_once mixed l1_centoref01_Bit.eq_1 ?_
    have hj : j < i % 64 := by omega
    simp [e, hj]
    rw [i64_same (by omega) (by omega), Int.tdiv_eq_ediv_of_nonneg h0, u64_same (by omega) (by omega)]
    exact ih _ _ (by omega) (by omega) (by omega) (by omega) (by rw [pow_half]; exact hq)
end
theorem rBit_spec {g : List Int} (hg : ∀ x, x ∈ g → 0 ≤ x ∧ x < 18446744073709551616) {i : Int} (hi1 : i < 1000000000000000000) (hi : 0 ≤ i) : G.Spec Try.prog 143 [uws g, iv i] (uv (bitZ g i)) := by
  refine spec_of t_centoref01_Bit (by simp) fun w0 I0 => ?_
  unfold c_centoref01_Bit
  have e2 : IntKind.i64.wrap (i.tdiv 64) = i / 64 := by rw [Int.tdiv_eq_ediv_of_nonneg hi, i64_same (by omega) (by omega)]
  have hn : ¬ i < 0 := by omega
  have hd0 : 0 ≤ i / 64 := by omega
  by_cases hr : (g.length : Int) ≤ i / 64
  · have en : g[(i / 64).toNat]? = none := List.getElem?_eq_none (by omega)
    simp [hn, e2, hr, hi]
    exact frz_is rfl (by simp [bitZ, en])
  · have hlt : (i / 64).toNat < g.length := by omega
    have hlt' : i / 64 < g.length := by omega
    have hx := hg _ (List.getElem_mem hlt)
    simp [hn, e2, hr, hi, hd0, hlt, hlt']
    have hx0 : 0 ≤ g[(i / 64).toNat] / 2 ^ (i % 64).toNat := Int.ediv_nonneg hx.1 (Int.le_of_lt (Int.pow_pos (by decide)))
    have hx1 : g[(i / 64).toNat] / 2 ^ (i % 64).toNat < 18446744073709551616 := Int.lt_of_le_of_lt (Int.ediv_le_self _ hx.1) hx.2
    refine rBit_l1 hi (i % 64).toNat _ 0 hx.1 hx.2 (by omega) (by omega) fun j' b => ?_
    simp [Int.tmod_eq_emod_of_nonneg hx0]
    exact frz_is rfl (by simp [bitZ, hn, hlt])

theorem bits_up (y : Int) (m k : Nat) : y / 2 ^ (m + 1) % 2 ^ k * 2 + y / 2 ^ m % 2 = y / 2 ^ m % 2 ^ (k + 1) := by
  have e : y / 2 ^ (m + 1) = y / 2 ^ m / 2 := by
    rw [Int.pow_succ, Int.ediv_ediv_of_nonneg (Int.le_of_lt (Int.pow_pos (by decide)))]
  rw [e]
  generalize y / 2 ^ m = z
  have e2 : z % 2 ^ (k + 1) = z - 2 ^ (k + 1) * (z / 2 ^ (k + 1)) := Int.emod_def ..
  have e3 : z / 2 ^ (k + 1) = z / 2 / 2 ^ k := by rw [Int.pow_succ, Int.mul_comm, Int.ediv_ediv_of_nonneg (by decide)]
  have e4 : z / 2 % 2 ^ k = z / 2 - 2 ^ k * (z / 2 / 2 ^ k) := Int.emod_def ..
  rw [e2, e3, e4, Int.pow_succ, Int.mul_comm (2 ^ k) 2, Int.mul_assoc]
  generalize 2 ^ k * (z / 2 / 2 ^ k) = q
  omega
/-- A word's bit, seen from the item's first. -/
theorem bit_of {g : List Int} {i w : Int} (hi : 0 ≤ i) (hw : w = 1 ∨ w = 8 ∨ w = 16 ∨ w = 32 ∨ w = 64) (m : Nat) (hm : (m : Int) < w) : bitZ g (i * w + m) = ((g[(i * w / 64).toNat]?).getD 0) / 2 ^ (i * w % 64).toNat / 2 ^ m % 2 := by
  have hp : 0 ≤ i * w := by rcases hw with rfl | rfl | rfl | rfl | rfl <;> omega
  have h1 : (i * w + m) / 64 = i * w / 64 ∧ (i * w + m) % 64 = i * w % 64 + m := by
    rcases hw with rfl | rfl | rfl | rfl | rfl <;> omega
  unfold bitZ
  rw [if_neg (by omega), h1.1, h1.2, Int.ediv_ediv_of_nonneg (Int.le_of_lt (Int.pow_pos (by decide))), ← Int.pow_add]
  have : (i * w % 64 + (m : Int)).toNat = (i * w % 64).toNat + m := by omega
  rw [this]

section
variable {n0 : Nat} {w0 : World} {I0 : Nat → Prop} {Q : Exit → Sta → Prop} {H : Hp}
theorem rGet_l1 {g : List Int} (hg : ∀ x, x ∈ g → 0 ≤ x ∧ x < 18446744073709551616) {i w y : Int} (hi : 0 ≤ i) (hi1 : i ≤ 1099511627776) (hw : w = 1 ∨ w = 8 ∨ w = 16 ∨ w = 32 ∨ w = 64) (hy : y = ((g[(i * w / 64).toNat]?).getD 0) / 2 ^ (i * w % 64).toNat) (y0 : 0 ≤ y) (y1 : y < 18446744073709551616) : ∀ (m : Nat) (k : Nat) (x j : Int), k + m = w → j = (m : Int) - 1 → x = y / 2 ^ m % 2 ^ k →
    (∀ j' b, Q (.exit 0) ⟨lk [(0, uws g), (2, iv i), (7, iv w), (8, uv (y % 2 ^ w.toNat)), (9, iv j'), (25, bv b)], H⟩) →
    LoopC (cx Try.prog w0 I0 n0) l1_centoref01_Get Q ⟨lk [(0, uws g), (2, iv i), (7, iv w), (8, uv x), (9, iv j)], H⟩ := by
  intro m
  induction m with
  | zero =>
    intro k x j hk hj hx hq
    subst hj
    refine loopC_once mixed l1_centoref01_Get.eq_1 ?_
    simp
    have : w.toNat = k := by omega
    rw [this] at hq
    rw [hx]
    simpa using hq _ _
  | succ m ih =>
    intro k x j hk hj hx hq
    have hj' : j = m := by omega
    subst hj'
    have hm : (m : Int) < w := by omega
    have hb : 0 ≤ i * w ∧ i * w ≤ 70368744177664 := by rcases hw with rfl | rfl | rfl | rfl | rfl <;> omega
    have e1 : IntKind.i64.wrap (i * w) = i * w := i64_same (by omega) (by omega)
    have e2 : IntKind.i64.wrap (i * w + m) = i * w + m := i64_same (by omega) (by omega)
    have e3 : IntKind.i64.wrap ((m : Int) - 1) = m - 1 := i64_same (by omega) (by omega)
    refine loopC_once mixed l1_centoref01_Get.eq_1 ?_
    simp [e1, e2]
    refine sc_call (rBit_spec hg (i := i * w + m) (by omega) (by omega)) rfl ?_
    simp [e3]
    rw [bit_of hi hw m hm, ← hy]
    have hu := bits_up y m k
    have hz0 : 0 ≤ y / 2 ^ m := Int.ediv_nonneg y0 (Int.le_of_lt (Int.pow_pos (by decide)))
    have hz1 : y / 2 ^ m ≤ y := Int.ediv_le_self _ y0
    have p2 : (0 : Int) < 2 ^ (k + 1) := Int.pow_pos (by omega)
    have m0 := Int.emod_nonneg (y / 2 ^ m) (by omega : (2 : Int) ^ (k + 1) ≠ 0)
    have m1 : y / 2 ^ m % 2 ^ (k + 1) ≤ y / 2 ^ m := by
      rw [Int.emod_def]
      have := Int.mul_nonneg (a := 2 ^ (k + 1)) (b := y / 2 ^ m / 2 ^ (k + 1)) (by omega) (Int.ediv_nonneg hz0 (by omega))
      omega
    have p3 : (0 : Int) < 2 ^ k := Int.pow_pos (by omega)
    have n0 := Int.emod_nonneg (y / 2 ^ (m + 1)) (by omega : (2 : Int) ^ k ≠ 0)
    rw [← hx] at hu n0
    rw [u64_same (n := x * 2) (by omega) (by omega), u64_same (by omega) (by omega)]
    exact ih (k + 1) _ _ (by omega) rfl hu hq
end
theorem rGet_spec {g : List Int} (hg : ∀ x, x ∈ g → 0 ≤ x ∧ x < 18446744073709551616) (c i : Int) : G.Spec Try.prog 123 [uws g, iv c, iv i] (uv (getZ g c i)) := by
  refine spec_of t_centoref01_Get (by simp) fun w0 I0 => ?_
  unfold c_centoref01_Get
  simp
  refine sc_call (rWidth_spec c) rfl ?_
  have hw := widthZ_cases c
  by_cases h0 : widthZ c < 1 ∨ i < 0 ∨ 1099511627776 < i
  · have e : getZ g c i = 0 := by unfold getZ; rw [if_pos h0]
    rw [e]
    have hd : (decide (widthZ c < 1) || decide (i < 0) || decide (1099511627776 < i)) = true := by simp; omega
    simp [hd]
    exact frz_bare rfl
  · have hw1 : widthZ c = 1 ∨ widthZ c = 8 ∨ widthZ c = 16 ∨ widthZ c = 32 ∨ widthZ c = 64 := by omega
    have hd : (decide (widthZ c < 1) || decide (i < 0) || decide (1099511627776 < i)) = false := by simp; omega
    have hi0 : 0 ≤ i := by omega
    have e : getZ g c i = ((g[(i * widthZ c / 64).toNat]?).getD 0) / 2 ^ (i * widthZ c % 64).toNat % 2 ^ (widthZ c).toNat := by unfold getZ; rw [if_neg h0]
    rw [e]
    simp [hd]
    clear e hw
    generalize widthZ c = w at hw1 h0
    rw [i64_same (by omega) (by omega)]
    have hx : 0 ≤ (g[(i * w / 64).toNat]?).getD 0 ∧ (g[(i * w / 64).toNat]?).getD 0 < 18446744073709551616 := by
      cases e : g[(i * w / 64).toNat]? with
      | none => simp
      | some x => exact hg x (List.mem_of_getElem? e)
    have y0 : 0 ≤ (g[(i * w / 64).toNat]?).getD 0 / 2 ^ (i * w % 64).toNat := Int.ediv_nonneg hx.1 (Int.le_of_lt (Int.pow_pos (by decide)))
    have y1 : (g[(i * w / 64).toNat]?).getD 0 / 2 ^ (i * w % 64).toNat < 18446744073709551616 := Int.lt_of_le_of_lt (Int.ediv_le_self _ hx.1) hx.2
    refine rGet_l1 hg hi0 (by omega) hw1 rfl y0 y1 w.toNat 0 0 _ (by omega) (by omega) (by simp) fun j' b => ?_
    simp
    exact frz_is rfl rfl

/-! ### a value -/
theorem raKids_spec (r : Rf) : G.Spec Try.prog 92 [raX r] (iv (nk r)) := by
  refine spec_of t_centoref09_Ref_Kids (by simp) fun w0 I0 => ?_
  unfold c_centoref09_Ref_Kids
  by_cases h1 : r.kind = 1
  · simp [h1]; exact frz_is rfl (by simp [nk, h1])
  · simp [h1]; exact frz_is rfl (by simp [nk, h1])
theorem raAt_spec {l : List (List Int)} (hs : Sg l) (s a : Int) : G.Spec Try.prog 56 [sgs l, iv s, iv a] (.tup [raX (atP l s a).1, iv (atP l s a).2]) := by
  have hf := follow_folw hs.w s a
  refine spec_of t_centoref09_At (by simp) fun w0 I0 => ?_
  unfold c_centoref09_At
  simp
  refine sc_call (refFollow_spec l hs.b hs.w s a) rfl ?_
  unfold atP
  generalize followP l s a = x at hf
  obtain ⟨x, e⟩ := x
  unfold Folw at hf
  simp only at hf ⊢
  by_cases hc : e ≠ 0 ∨ x.p.kind = 0
  · have hd : (!decide (e = 0) || decide (x.p.kind = 0)) = true := by simp; omega
    simp [hd, hc]
    exact frz_is rfl (by simp [Rf.zero])
  · have hd : (!decide (e = 0) || decide (x.p.kind = 0)) = false := by simp; omega
    have he : e = 0 := by omega
    obtain h0 | ⟨hk, hsh, hw⟩ := hf he
    · omega
    have hbd := hasW_bound hs hw
    rw [if_neg hc]
    simp [hd]
    unfold refP
    by_cases k1 : x.p.kind = 1
    · simp [k1, he]
      exact frz_is rfl rfl
    · have k2 : x.p.kind = 2 := by omega
      obtain ⟨c0, c1, _, _⟩ := hsh.k2 k2
      by_cases c7 : x.p.code < 7
      · have e2 : IntKind.i64.wrap (2 + x.p.code) = 2 + x.p.code := i64_same (by omega) (by omega)
        simp [k1, c7, e2]
        exact ⟨frz_is rfl rfl, fun h => absurd h (by omega)⟩
      · rw [wordsP_comp k2 (by omega)] at hw
        have hcnt := (hsh.k2 k2).2.2
        obtain ⟨q1, q2, q3, q4, q5, q6, q7⟩ := hasW_in hw
        simp only [Option.getD_some] at q7
        have q8 : x.at_.toNat < l[x.s.toNat].length := by omega
        have q9 : x.at_ < l[x.s.toNat].length := by omega
        have e0 : (word l x.s x.at_).getD 0 = l[x.s.toNat][x.at_.toNat] := by
          unfold word
          rw [if_pos q3, q6]
          simp [q8]
        have h0 : 0 ≤ (word l x.s x.at_).getD 0 ∧ (word l x.s x.at_).getD 0 < 18446744073709551616 := by
          cases e : word l x.s x.at_ with
          | none => simp
          | some x => exact word_in hs.w e
        simp [k1, c7, q1, q2, q3, q5, q8, q9, ws]
        unfold compP
        rw [← e0]
        generalize (word l x.s x.at_).getD 0 = w at h0
        intro _
        refine sc_call (refDecode_spec h0.1 h0.2) rfl ?_
        have hsh := dec_shp h0.1 h0.2
        have ho := dec_off h0.1 h0.2
        have hdp : 0 ≤ (dec w).data ∧ (dec w).data < 65536 ∧ 0 ≤ (dec w).ptrs ∧ (dec w).ptrs < 65536 := by
          unfold dec
          repeat' split
          all_goals simp
          all_goals omega
        generalize dec w = p at hsh ho hdp
        have hb : -70368744177664 ≤ p.off * (p.data + p.ptrs) ∧ p.off * (p.data + p.ptrs) ≤ 70368744177664 := by
          have b1 : p.off * (p.data + p.ptrs) ≤ 536870912 * (p.data + p.ptrs) := Int.mul_le_mul_of_nonneg_right (by omega) (by omega)
          have b2 : -536870912 * (p.data + p.ptrs) ≤ p.off * (p.data + p.ptrs) := Int.mul_le_mul_of_nonneg_right (by omega) (by omega)
          omega
        have e1 : IntKind.i64.wrap (p.data + p.ptrs) = p.data + p.ptrs := i64_same (by omega) (by omega)
        have e2 : IntKind.i64.wrap (p.off * (p.data + p.ptrs)) = p.off * (p.data + p.ptrs) := i64_same (by omega) (by omega)
        have e3 : IntKind.i64.wrap (x.at_ + 1) = x.at_ + 1 := i64_same (by omega) (by omega)
        by_cases hc : (w ≠ 0 ∧ p.kind ≠ 1) ∨ p.off < 0 ∨ x.p.count < p.off * (p.data + p.ptrs)
        · have hd : (((!decide (w = 0) && !decide (p.kind = 1)) || decide (p.off < 0)) || decide (x.p.count < p.off * (p.data + p.ptrs))) = true := by simp; omega
          rw [if_pos hc]
          simp [e1, e2, hd]
          exact frz_is rfl (by simp [Rf.zero])
        · have hd : (((!decide (w = 0) && !decide (p.kind = 1)) || decide (p.off < 0)) || decide (x.p.count < p.off * (p.data + p.ptrs))) = false := by simp; omega
          rw [if_neg hc]
          simp [e1, e2, e3, hd]
          exact frz_is rfl rfl
theorem raKid_spec {l : List (List Int)} (hs : Sg l) {r : Rf} (hr : RfOk l r) (i : Int) : G.Spec Try.prog 93 [raX r, sgs l, iv i] (.tup [raX (kidP l r i).1, iv (kidP l r i).2]) := by
  refine spec_of t_centoref09_Ref_Kid (by simp) fun w0 I0 => ?_
  unfold c_centoref09_Ref_Kid
  simp
  refine sc_call_gf rfl (fun _ => raKids_spec r) (fun e => by simp [e]) (by simp) ?_
  by_cases hi : i < 0 ∨ nk r ≤ i
  · have hd : (decide (i < 0) || decide (nk r ≤ i)) = true := by simpa using hi
    simp [hd]
    exact frz_is rfl (by simp [kidP, hi, Rf.zero])
  · have hd : (decide (i < 0) || decide (nk r ≤ i)) = false := by simpa using hi
    have hi0 : 0 ≤ i := by omega
    have hi1 : i < nk r := by omega
    have hk := nk_nonneg hr
    rw [kidP, if_neg hi]
    cases hr with
    | zero => simp [nk, Rf.zero] at hi1; omega
    | str s a d k a1 a2 a3 a4 h =>
      have hb := hasW_bound hs h
      have e1 : IntKind.i64.wrap (IntKind.i64.wrap (a + d) + i) = a + d + i := by
        rw [i64_same (n := a + d) (by omega) (by omega), i64_same (by omega) (by omega)]
      simp [hd, e1]
      refine sc_call (raAt_spec hs s (a + d + i)) rfl ?_
      simp
      exact frz_is rfl rfl
    | dat c s a n a1 a2 a3 a4 h =>
      have n1 : ¬ (2 + c = 1) := by omega
      have n8 : ¬ (2 + c = 8) := by omega
      have n9 : ¬ (2 + c = 9) := by omega
      obtain ⟨q1, q2, q3, q4, q5, q6, q7⟩ := hasW_in h
      have hz : 0 ≤ (n * bitsOf c + 63) / 64 := q4
      have q8 : a ≤ l[s.toNat].length := by omega
      have e2 : IntKind.i64.wrap (2 + c - 2) = 2 + c - 2 := i64_same (by omega) (by omega)
      have et : List.take (l[s.toNat].length - a.toNat) (List.drop a.toNat (List.map uv l[s.toNat])) = (l[s.toNat].drop a.toNat).map uv := by
        rw [List.take_of_length_le (by simp), List.map_drop]
      simp [hd, n1, n8, n9, q1, q2, q3, q5, q8, e2, et]
      refine sc_calle (L := [uws (l[s.toNat].drop a.toNat), iv (2 + c - 2), iv i]) (by simp) (rGet_spec (fun x hx => hs.w _ (List.getElem_mem q5) x (List.mem_of_mem_drop hx)) (2 + c - 2) i) rfl ?_
      simp
      exact frz_is rfl (by simp [atomZ, q6])
    | ptrs s a n a1 a2 h =>
      have hb := hasW_bound hs h
      have e1 : IntKind.i64.wrap (a + i) = a + i := i64_same (by omega) (by omega)
      simp [hd, e1]
      refine sc_call (raAt_spec hs s (a + i)) rfl ?_
      simp
      exact frz_is rfl rfl
    | comp s a d k n a1 a2 a3 a4 a5 a6 h =>
      have hb := hasW_bound hs h
      have hn : i < n := by simpa [nk] using hi1
      have m1 : 0 ≤ i * (d + k) := Int.mul_nonneg hi0 (by omega)
      have m2 : i * (d + k) ≤ n * (d + k) := mul_le_of (by omega) (by omega)
      have e1 : IntKind.i64.wrap (d + k) = d + k := i64_same (by omega) (by omega)
      have e2 : IntKind.i64.wrap (i * (d + k)) = i * (d + k) := i64_same (by omega) (by omega)
      have e3 : IntKind.i64.wrap (a + i * (d + k)) = a + i * (d + k) := i64_same (by omega) (by omega)
      simp [hd, e1, e2, e3]
      exact frz_is rfl rfl
    | atom n a1 a2 => simp [nk] at hi1; omega
theorem raWords_spec {l : List (List Int)} (hs : Sg l) {r : Rf} (hr : RfOk l r) : G.Spec Try.prog 91 [raX r, sgs l] (uws (wordsR l r)) := by
  refine spec_of t_centoref09_Ref_Words (by simp) fun w0 I0 => ?_
  unfold c_centoref09_Ref_Words
  by_cases h10 : r.kind = 10
  · simp [h10]
    have : wordsR l r = [r.n] := by simp [wordsR, h10]
    rw [this]
    exact frz_sl
  by_cases h1 : r.kind = 1
  · cases hr with
    | str s a d k a1 a2 a3 a4 h =>
      obtain ⟨q1, q2, q3, q4, q5, q6, q7⟩ := hasW_in h
      have hbd := hasW_bound hs h
      have e1 : IntKind.i64.wrap (a + d) = a + d := i64_same (by omega) (by omega)
      have g1 : a ≤ a + d := by omega
      have g2 : a + d ≤ l[s.toNat].length := by omega
      have g3 := hs.b _ (List.getElem_mem q5)
      have g4 : 0 ≤ a + d := by omega
      have g5 : a.toNat ≤ (a + d).toNat := by omega
      have g6 : (a + d).toNat ≤ l[s.toNat].length := by omega
      have g7 : max (a + d) 0 = a + d := by omega
      simp [e1, q1, q2, q3, q5, g1, g2, g4, g5, g6, g7]
      have gl : (List.take ((a + d).toNat - a.toNat) (List.drop a.toNat (List.map uv l[s.toNat]))) = (part l s a d).map uv := by
        simp only [part, q6, Option.getD_some, List.map_take, List.map_drop]
        congr 1
        omega
      refine ⟨by omega, ?_⟩
      rw [gl]
      have : wordsR l ⟨1, s, a, d, k, 0, 0⟩ = part l s a d := by simp [wordsR]
      rw [this]
      exact frz_row (sz := 1) (by simp) (by simp [part, q6]; omega) (by simp)
    | dat c s a n a1 a2 a3 a4 h => simp at h1; omega
    | _ => simp [Rf.zero] at h1
  · have : wordsR l r = [] := by simp [wordsR, h1, h10]
    rw [this]
    simp [h1, h10]
    exact frz_sl
end Go.Proofs.Ytigdcnlhgelkaaa

/-
  Chapter 10's reference: what a value means.
-/
namespace Go.Proofs.Ytigdcnlhgelkaaa
set_option linter.unusedVariables false
set_option linter.unusedSimpArgs false
open Go Go.G Go.Proofs Go.PL

/-! ### plain -/
abbrev LB (l : List (List Int)) (B : Int) (rec : Rf → Int → T × Int × Int) : Prop := ∀ r, RfOk l r → ∀ left : Int, 0 ≤ left → left ≤ B → 0 ≤ (rec r left).2.1 ∧ (rec r left).2.1 ≤ B
theorem loopM_lb {B : Int} {f : Nat → Int → T × Int × Int} (hf : ∀ i left, 0 ≤ left → left ≤ B → 0 ≤ (f i left).2.1 ∧ (f i left).2.1 ≤ B) : ∀ (m i : Nat) (acc : List T) (left : Int), 0 ≤ left → left ≤ B → 0 ≤ (loopM f m i acc left).2.1 ∧ (loopM f m i acc left).2.1 ≤ B
  | 0, i, acc, left, h0, h1 => ⟨h0, h1⟩
  | m + 1, i, acc, left, h0, h1 => by
    rw [loopM]
    have := hf i left h0 h1
    split
    · exact this
    · exact loopM_lb hf m _ _ _ this.1 this.2
theorem stepM_lb {l : List (List Int)} (hw : Wds l) {B : Int} {rec : Rf → Int → T × Int × Int} (h : LB l B rec) {r : Rf} (hr : RfOk l r) (i : Nat) (left : Int) (h0 : 0 ≤ left) (h1 : left ≤ B) : 0 ≤ (stepM l rec r i left).2.1 ∧ (stepM l rec r i left).2.1 ≤ B := by
  unfold stepM
  split
  · exact ⟨h0, h1⟩
  · exact h _ (kid_ok hw hr i) _ h0 h1
theorem kidsM_lb {l : List (List Int)} (hw : Wds l) {B : Int} {rec : Rf → Int → T × Int × Int} (h : LB l B rec) : LB l B (kidsM l rec) := fun r hr left h0 h1 =>
  loopM_lb (stepM_lb hw h hr) _ _ _ _ h0 h1
theorem leafM_lb {l : List (List Int)} {B : Int} : LB l B (leafM l) := fun r hr left h0 h1 => ⟨h0, h1⟩
theorem costM_pos {l : List (List Int)} {r : Rf} (hr : RfOk l r) : 1 ≤ costM r ∧ costM r ≤ 100000000000000 := by
  cases hr with
  | zero => simp [costM, nk, Rf.zero]
  | str s a d k a1 a2 a3 a4 h => simp [costM]; omega
  | dat c s a n a1 a2 a3 a4 h => simp [costM, nk]; rw [if_neg (by omega), if_neg (by omega), if_neg (by omega)]; omega
  | ptrs s a n a1 a2 h => simp [costM, nk]; omega
  | comp s a d k n a1 a2 a3 a4 a5 a6 h =>
    simp [costM]
    have m1 : 0 ≤ n * (1 + d + k) := Int.mul_nonneg (by omega) (by omega)
    have m2 : n * (1 + d + k) ≤ 536870912 * (1 + d + k) := mul_le_of (by omega) (by omega)
    omega
  | atom n a1 a2 => simp [costM, nk]
theorem restM_lb {l : List (List Int)} (hw : Wds l) {B : Int} {r : Rf} (hr : RfOk l r) {rec1 rec2 : Rf → Int → T × Int × Int} (h1 : LB l B rec1) (h2 : LB l B rec2) {left : Int} (h3 : ¬ left < costM r) (h4 : left ≤ B) : 0 ≤ (restM l r rec1 rec2 left).2.1 ∧ (restM l r rec1 rec2 left).2.1 ≤ B := by
  have := costM_pos hr
  unfold restM
  refine loopM_lb (stepM_lb hw ?_ hr) _ _ _ _ (by omega) (by omega)
  split
  · exact kidsM_lb hw h2
  · split
    · exact h1
    · exact leafM_lb
theorem meaning_lb {l : List (List Int)} (hw : Wds l) {B : Int} : ∀ d : Nat, LB l B (meaning l d)
  | 0, r, hr, left, h0, h1 => by
    rw [meaning]; split <;> exact ⟨h0, h1⟩
  | 1, r, hr, left, h0, h1 => by
    rw [meaning]
    split
    · exact ⟨h0, h1⟩
    · split
      · exact ⟨h0, h1⟩
      · split
        · exact ⟨h0, h1⟩
        · rename_i hc
          exact restM_lb hw hr (meaning_lb hw 0) (fun r hr left h0 h1 => ⟨h0, h1⟩) hc h1
  | d + 2, r, hr, left, h0, h1 => by
    rw [meaning]
    split
    · exact ⟨h0, h1⟩
    · split
      · exact ⟨h0, h1⟩
      · rename_i hc
        exact restM_lb hw hr (meaning_lb hw (d + 1)) (meaning_lb hw d) hc h1

/-! ### the walks -/
abbrev M3 (x : T × Int × Int) : A := .tup [tX x.1, iv x.2.1, iv x.2.2]
abbrev raL (r : Rf) : List A := [iv r.kind, iv r.s, iv r.at_, iv r.data, iv r.kids, iv r.count, uv r.n]
abbrev RecS (l : List (List Int)) (g : FuncId) (d : Nat) (B : Int) (rec : Rf → Int → T × Int × Int) : Prop := ∀ r, RfOk l r → ∀ left : Int, 0 ≤ left → left ≤ B → G.Spec Try.prog g [sgs l, raX r, iv d, iv left] (M3 (rec r left))
abbrev zT : List A := [iv 0, .sl true [], .sl true []]
theorem kids_in {l : List (List Int)} {r : Rf} (hr : RfOk l r) : 0 ≤ r.kids ∧ r.kids < 65536 := by
  cases hr <;> simp [Rf.zero] <;> omega

section
variable {n0 : Nat} {w0 : World} {I0 : Nat → Prop} {Q : Exit → Sta → Prop}
theorem rkids_l1 {l : List (List Int)} (hs : Sg l) {r : Rf} (hr : RfOk l r) {rec : Rf → Int → T × Int × Int} {d : Nat} {B : Int} (hrec : RecS l 57 d B rec) (hlb : LB l B rec) {W : List Int} {ks : List T} {lf e : Int} : ∀ (m i u : Nat) (acc : List T) (left : Int) (H : Hp), (i : Int) + m = r.kids → acc.length = i → 0 ≤ left → left ≤ B → H [0] = ⟨1, .cells (raL r)⟩ → H [1] = ⟨1, .cells zT⟩ → H [2] = ⟨1, .cells [iv 1, uws W, .osl [5] u 3 0 i]⟩ → H [5] = ⟨u, .arr 3 (acc.map tA)⟩ → loopM (stepM l rec r) m i acc left = (ks, lf, e) →
    (e = 0 → ∀ i' q u' H', H' [1] = ⟨1, .cells zT⟩ → H' [2] = ⟨1, .cells [iv 1, uws W, .osl [5] u' 3 0 ks.length]⟩ → H' [5] = ⟨u', .arr 3 (ks.map tA)⟩ → Q (.exit 0) ⟨lk [(0, sgs l), (2, iv d), (3, iv lf), (5, .pob [0] 1 0), (8, .pob [1] 1 0), (11, .pob [2] 1 0), (12, iv i'), (25, bv q)], H'⟩) →
    (e ≠ 0 → ∀ u' H', H' [1] = ⟨1, .cells [iv 1, uws W, .osl [5] u' 3 0 ks.length]⟩ → H' [5] = ⟨u', .arr 3 (ks.map tA)⟩ → Q .ret ⟨lk [(8, .pob [1] 1 0), (9, iv lf), (10, iv e)], H'⟩) →
    LoopC (cx Try.prog w0 I0 n0) l1_centoref10_kids Q ⟨lk [(0, sgs l), (2, iv d), (3, iv left), (5, .pob [0] 1 0), (8, .pob [1] 1 0), (11, .pob [2] 1 0), (12, iv i)], H⟩ := by
  have hb := kids_in hr
  intro m
  induction m with
  | zero =>
    intro i u acc left H hi ha h0 h1 hA hR hO hK hX hq hq2
    have : (i : Int) = r.kids := by omega
    rw [loopM] at hX
    cases hX
    refine loopC_once mixed l1_centoref10_kids.eq_1 ?_
    simp [hA, this]
    refine hq rfl _ _ u H hR (by rw [hO, ha]) hK
  | succ m ihm =>
    intro i u acc left H hi ha h0 h1 hA hR hO hK hX hq hq2
    have hlt : (i : Int) < r.kids := by omega
    have ei : IntKind.i64.wrap ((i : Int) + 1) = ((i + 1 : Nat) : Int) := i64_same (by omega) (by omega)
    rw [loopM] at hX
    refine loopC_once mixed l1_centoref10_kids.eq_1 ?_
    simp [hA, hlt]
    refine sc_call (raKid_spec hs hr i) (by simp) ?_
    by_cases he : (kidP l r i).2 = 0
    · have hst : stepM l rec r i left = rec (kidP l r i).1 left := by rw [stepM, if_neg (by omega)]
      rw [hst] at hX
      have hlb' := hlb _ (kid_ok hs.w hr i) left h0 h1
      simp [he, hA, hR, hO, hK, updF_app]
      refine sc_call (hrec _ (kid_ok hs.w hr i) left h0 h1) (by simp) ?_
      generalize hy : rec (kidP l r i).1 left = y at hX hlb'
      obtain ⟨y, yl, ye⟩ := y
      simp only at hX hlb'
      by_cases hye : ye = 0
      · rw [if_neg (by simp [hye])] at hX
        simp [hye, hA, hR, hO, hK, updF_app]
        have hrow : List.take i (acc.map tA) ++ [tX y] = (acc ++ [y]).map tA := by rw [List.take_of_length_le (by simp; omega)]; simp
        have hrow' : List.take i (acc.map tA) = acc.map tA := List.take_of_length_le (by simp; omega)
        rw [ei]
        refine ⟨⟨by omega, by omega⟩, ?_⟩
        exact ihm (i + 1) (u + 1) (acc ++ [y]) yl _ (by omega) (by simp [ha]) hlb'.1 hlb'.2 (by simp [updF_app, hA]) (by simp [updF_app, hR]) (by simp [updF_app]) (by simp [updF_app, hrow']) hX hq hq2
      · rw [if_pos hye] at hX
        simp only [Prod.mk.injEq] at hX
        obtain ⟨rfl, rfl, rfl⟩ := hX
        simp [hye, hA, hR, hO, hK, updF_app]
        refine hq2 hye u _ ?_ ?_
        · simp [updF_app, hR, ha]
        · simp [updF_app, hK]
    · have hst : stepM l rec r i left = (T0, left, (kidP l r i).2) := by rw [stepM, if_pos he]
      rw [hst, if_pos he] at hX
      simp only [Prod.mk.injEq] at hX
      obtain ⟨rfl, rfl, rfl⟩ := hX
      simp [he, hA, hR, hO, hK, updF_app]
      refine hq2 he u _ ?_ ?_
      · simp [updF_app, hR, ha]
      · simp [updF_app, hK]
end
theorem rkids_spec {l : List (List Int)} (hs : Sg l) {rec : Rf → Int → T × Int × Int} {d : Nat} {B : Int} (hrec : RecS l 57 d B rec) (hlb : LB l B rec) : RecS l 94 d B (kidsM l rec) := fun r hr left h0 h1 => by
  have hb := kids_in hr
  refine spec_of t_centoref10_kids (by simp) fun w0 I0 => ?_
  unfold c_centoref10_kids
  simp
  refine sc_call (raWords_spec hs hr) (by simp) ?_
  simp
  refine LoopC.le (le_blankC (d := [2]) 2 [5] 3 rfl rfl (by simp)) ?_
  simp
  generalize hX : loopM (stepM l rec r) r.kids.toNat 0 [] left = X
  obtain ⟨ks, lf, e⟩ := X
  have fin : ∀ (H : Hp) (u : Nat), H [5] = ⟨u, .arr 3 (ks.map tA)⟩ → Frz H (.tup [.agg [iv 1, uws (wordsR l r), .osl [5] u 3 0 ks.length], iv lf, iv e]) (M3 (kidsM l rec r left)) := fun H u hH => by
    unfold kidsM
    rw [hX]
    refine frz_tup ?_
    simp
    refine ⟨frz_agg ?_, frz_bare rfl, frz_bare rfl⟩
    simp
    exact ⟨frz_bare rfl, frz_bare rfl, frz_row (by simp [hH]) rfl (by simp)⟩
  refine rkids_l1 (W := wordsR l r) hs hr hrec hlb r.kids.toNat 0 1 [] left _ (by omega) rfl h0 h1 (by simp) (by simp) (by simp) (by simp) hX (fun he i' q u' H' hR hO hK => ?_) (fun he u' H' hR hK => ?_)
  · simp [hR, hO, hK, updF_app]
    rw [← he]
    exact fin _ u' (by simp [updF_app, hK])
  · simp [hR, hK, updF_app]
    exact fin _ u' hK
end Go.Proofs.Ytigdcnlhgelkaaa

/-
  Chapter 10's reference: what a value means, whole.
-/
namespace Go.Proofs.Ytigdcnlhgelkaaa
set_option linter.unusedVariables false
set_option linter.unusedSimpArgs false
open Go Go.G Go.Proofs Go.PL

/-- A tree whose kids were never made. -/
def rawT (b : Bool) (t : T) : A := if b = true then .agg [iv t.kind, uws t.words, .sl true []] else tA t
theorem frz_raw {H : Hp} {o : Nm} {u n : Nat} {b : Bool} {l : List T} (h : vr (H o) u = some (3, l.map (rawT b))) (hn : n = l.length) (hb : b = true → ∀ t, t ∈ l → t.kids = []) : Frz H (.osl o u 3 0 n) (tKs l) := by
  subst hn
  cases b with
  | false =>
    have e : rawT false = tA := by funext t; simp [rawT]
    rw [e] at h
    exact frz_row (by simpa using h) rfl (by simp)
  | true =>
    refine frz_osl' (xs := l.map (rawT true)) (by simpa using h) (by simp) (by simp) (fun y hy => ?_) ?_ ?_
    · obtain ⟨x, hx, rfl⟩ := List.mem_map.1 hy
      simp
    · simp only [A.ones, List.all_eq_true, List.mem_flatMap]
      rintro y ⟨z, hz, hy⟩
      obtain ⟨x, hx, rfl⟩ := List.mem_map.1 hz
      simp at hy
      rcases hy with rfl | rfl | rfl <;> rfl
    · rw [List.drop_zero, List.take_of_length_le (by simp)]
      have : ∀ (m : List T), (∀ x, x ∈ m → x ∈ l) → FrzL H ((m.map (rawT true)).flatMap A.cells) ((m.map tA).flatMap A.cells) := by
        intro m
        induction m with
        | nil => intro _; simp
        | cons x m ih =>
          intro hm
          have := hb rfl x (hm x (by simp))
          have := ih fun y hy => hm y (by simp [hy])
          simp [rawT] at this ⊢
          exact ⟨frz_bare rfl, frz_bare rfl, by rw [hb rfl x (hm x (by simp))]; exact frz_sl, this⟩
      exact this l fun x hx => hx

def recM (l : List (List Int)) (r : Rf) (rec1 rec2 : Rf → Int → T × Int × Int) : Rf → Int → T × Int × Int := if r.kind = 9 then kidsM l rec2 else if r.kind = 1 ∨ r.kind = 8 then rec1 else leafM l
def leafB (r : Rf) : Bool := !(decide (r.kind = 9) || decide (r.kind = 1) || decide (r.kind = 8))
theorem leaf_kids {l : List (List Int)} {r : Rf} {rec1 rec2 : Rf → Int → T × Int × Int} (hb : leafB r = true) : ∀ (m i : Nat) (acc : List T) (left : Int), (∀ t, t ∈ acc → t.kids = []) → ∀ t, t ∈ (loopM (stepM l (recM l r rec1 rec2) r) m i acc left).1 → t.kids = []
  | 0, i, acc, left, ha, t, ht => ha t ht
  | m + 1, i, acc, left, ha, t, ht => by
    have e : recM l r rec1 rec2 = leafM l := by
      simp [leafB] at hb
      rw [recM, if_neg hb.1.1, if_neg (by omega)]
    rw [loopM] at ht
    split at ht
    · exact ha t ht
    · refine leaf_kids hb m _ _ _ (fun t ht => ?_) t ht
      rcases List.mem_append.1 ht with h | h
      · exact ha t h
      · simp only [List.mem_singleton] at h
        subst h
        rw [e]
        unfold stepM
        split
        · rfl
        · rfl

section
variable {n0 : Nat} {w0 : World} {I0 : Nat → Prop} {Q : Exit → Sta → Prop}
theorem meaning_l1 {l : List (List Int)} (hs : Sg l) {r : Rf} (hr : RfOk l r) {rec1 rec2 : Rf → Int → T × Int × Int} {d : Nat} (hd : d ≤ 1000) {B : Int}
    (h1 : r.kind = 1 ∨ r.kind = 8 → ∃ d1 : Nat, d = d1 + 1 ∧ RecS l 57 d1 B rec1 ∧ LB l B rec1)
    (h2 : r.kind = 9 → 0 < r.count → ∃ d2 : Nat, d = d2 + 2 ∧ RecS l 94 d2 B (kidsM l rec2) ∧ LB l B (kidsM l rec2))
    {W : List Int} {ks : List T} {lf e : Int} : ∀ (m i u : Nat) (acc : List T) (left : Int) (H : Hp), (i : Int) + m = nk r → acc.length = i → 0 ≤ left → left ≤ B → H [0] = ⟨1, .cells (raL r)⟩ → H [1] = ⟨1, .cells zT⟩ → H [2] = ⟨1, .cells [iv r.kind, uws W, .osl [5] u 3 0 i]⟩ → H [5] = ⟨u, .arr 3 (acc.map (rawT (leafB r)))⟩ → loopM (stepM l (recM l r rec1 rec2) r) m i acc left = (ks, lf, e) →
    (e = 0 → ∀ i' q u' H', H' [1] = ⟨1, .cells zT⟩ → H' [2] = ⟨1, .cells [iv r.kind, uws W, .osl [5] u' 3 0 ks.length]⟩ → H' [5] = ⟨u', .arr 3 (ks.map (rawT (leafB r)))⟩ → Q (.exit 0) ⟨lk [(0, sgs l), (2, iv d), (3, iv lf), (5, .pob [0] 1 0), (8, .pob [1] 1 0), (11, .pob [2] 1 0), (13, iv i'), (82, bv q)], H'⟩) →
    (e ≠ 0 → ∀ u' H', H' [1] = ⟨1, .cells [iv r.kind, uws W, .osl [5] u' 3 0 ks.length]⟩ → H' [5] = ⟨u', .arr 3 (ks.map (rawT (leafB r)))⟩ → Q .ret ⟨lk [(8, .pob [1] 1 0), (9, iv lf), (10, iv e)], H'⟩) →
    LoopC (cx Try.prog w0 I0 n0) l1_centoref10_Meaning Q ⟨lk [(0, sgs l), (2, iv d), (3, iv left), (5, .pob [0] 1 0), (8, .pob [1] 1 0), (11, .pob [2] 1 0), (13, iv i)], H⟩ := by
  have hb := nk_nonneg hr
  intro m
  induction m with
  | zero =>
    intro i u acc left H hi ha h0 hl hA hR hO hK hX hq hq2
    have : (i : Int) = nk r := by omega
    rw [loopM] at hX
    cases hX
    refine loopC_once mixed l1_centoref10_Meaning.eq_1 ?_
    simp [hA]
    refine sc_call (raKids_spec r) (by simp) ?_
    simp [this]
    refine hq rfl _ _ u H hR (by rw [hO, ha]) hK
  | succ m ihm =>
    intro i u acc left H hi ha h0 hl hA hR hO hK hX hq hq2
    have hlt : (i : Int) < nk r := by omega
    have ei : IntKind.i64.wrap ((i : Int) + 1) = ((i + 1 : Nat) : Int) := i64_same (by omega) (by omega)
    have hrow : List.take i (acc.map (rawT (leafB r))) = acc.map (rawT (leafB r)) := List.take_of_length_le (by simp; omega)
    rw [loopM] at hX
    refine loopC_once mixed l1_centoref10_Meaning.eq_1 ?_
    simp [hA]
    refine sc_call (raKids_spec r) (by simp) ?_
    simp [hA, hlt]
    refine sc_call (raKid_spec hs hr i) (by simp) ?_
    have hok := kid_ok hs.w hr i
    have next : ∀ (y : T) (yl ye : Int), stepM l (recM l r rec1 rec2) r i left = (y, yl, ye) → ye = 0 → 0 ≤ yl → yl ≤ B → ∀ (x : A) (H' : Hp), rawT (leafB r) y = x → H' [0] = ⟨1, .cells (raL r)⟩ → H' [1] = ⟨1, .cells zT⟩ → H' [2] = ⟨1, .cells [iv r.kind, uws W, .osl [5] (u + 1) 3 0 (i + 1)]⟩ → H' [5] = ⟨u + 1, .arr 3 (acc.map (rawT (leafB r)) ++ [x])⟩ →
        LoopC (cx Try.prog w0 I0 n0) l1_centoref10_Meaning Q ⟨lk [(0, sgs l), (2, iv d), (3, iv yl), (5, .pob [0] 1 0), (8, .pob [1] 1 0), (11, .pob [2] 1 0), (13, iv ((i + 1 : Nat) : Int))], H'⟩ := fun y yl ye hy he y0 y1 x H' hx a0 a1 a2 a5 => by
      rw [hy, if_neg (by simp [he])] at hX
      exact ihm (i + 1) (u + 1) (acc ++ [y]) yl H' (by omega) (by simp [ha]) y0 y1 a0 a1 a2 (by rw [a5, ← hx]; simp) hX hq hq2
    by_cases he : (kidP l r i).2 = 0
    · have hst : stepM l (recM l r rec1 rec2) r i left = recM l r rec1 rec2 (kidP l r i).1 left := by rw [stepM, if_neg (by omega)]
      rw [hst] at hX next
      simp [he, hA, hR, hO, hK, updF_app]
      refine sc_call (raWords_spec hs hok) (by simp) ?_
      simp [he, hA, hR, hO, hK, updF_app]
      by_cases h9 : r.kind = 9
      · have hrec : recM l r rec1 rec2 = kidsM l rec2 := by rw [recM, if_pos h9]
        have hlf : leafB r = false := by simp [leafB, h9]
        rw [hrec] at hX next
        obtain ⟨d2, ed, hsp, hlb⟩ := h2 h9 (by unfold nk at hlt; rw [if_neg (by omega)] at hlt; omega)
        have e2 : IntKind.i64.wrap ((d : Int) - 2) = (d2 : Int) := by rw [i64_same (by omega) (by omega)]; omega
        have hlb' := hlb _ hok left h0 hl
        simp [h9, e2, hA, updF_app]
        refine sc_call (hsp _ hok left h0 hl) (by simp) ?_
        generalize hy : kidsM l rec2 (kidP l r i).1 left = y at hX hlb' next
        obtain ⟨y, yl, ye⟩ := y
        simp only at hX hlb'
        rw [k1_centoref10_Meaning.eq_1]
        by_cases hye : ye = 0
        · simp [hye, hA, hR, hO, hK, updF_app, hrow]
          rw [ei]
          refine ⟨⟨by omega, by omega⟩, ?_⟩
          refine next y yl ye rfl hye hlb'.1 hlb'.2 _ _ rfl ?_ ?_ ?_ ?_
          · simp [updF_app, hA]
          · simp [updF_app, hR]
          · simp [updF_app, h9]
          · simp [updF_app, hlf, rawT]
        · rw [if_pos hye] at hX
          simp only [Prod.mk.injEq] at hX
          obtain ⟨rfl, rfl, rfl⟩ := hX
          simp [hye, hA, hR, hO, hK, updF_app]
          refine hq2 hye u _ ?_ ?_
          · simp [updF_app, hR, ha, h9]
          · simp [updF_app, hK]
      · by_cases h18 : r.kind = 1 ∨ r.kind = 8
        · have hrec : recM l r rec1 rec2 = rec1 := by rw [recM, if_neg h9, if_pos h18]
          have hlf : leafB r = false := by rcases h18 with h | h <;> simp [leafB, h]
          have hdc : (decide (r.kind = 1) || decide (r.kind = 8)) = true := by simpa using h18
          rw [hrec] at hX next
          obtain ⟨d1, ed, hsp, hlb⟩ := h1 h18
          have e2 : IntKind.i64.wrap ((d : Int) - 1) = (d1 : Int) := by rw [i64_same (by omega) (by omega)]; omega
          have hlb' := hlb _ hok left h0 hl
          simp [h9, hdc, e2, hA, updF_app]
          refine ⟨fun _ => ?_, fun a b => by omega⟩
          refine sc_call (hsp _ hok left h0 hl) (by simp) ?_
          generalize hy : rec1 (kidP l r i).1 left = y at hX hlb' next
          obtain ⟨y, yl, ye⟩ := y
          simp only at hX hlb'
          rw [k1_centoref10_Meaning.eq_1]
          by_cases hye : ye = 0
          · simp [hye, hA, hR, hO, hK, updF_app, hrow]
            rw [ei]
            refine ⟨⟨by omega, by omega⟩, ?_⟩
            refine next y yl ye rfl hye hlb'.1 hlb'.2 _ _ rfl ?_ ?_ ?_ ?_
            · simp [updF_app, hA]
            · simp [updF_app, hR]
            · simp [updF_app]
            · simp [updF_app, hlf, rawT]
          · rw [if_pos hye] at hX
            simp only [Prod.mk.injEq] at hX
            obtain ⟨rfl, rfl, rfl⟩ := hX
            simp [hye, hA, hR, hO, hK, updF_app]
            refine hq2 hye u _ ?_ ?_
            · simp [updF_app, hR, ha]
            · simp [updF_app, hK]
        · have hrec : recM l r rec1 rec2 = leafM l := by rw [recM, if_neg h9, if_neg h18]
          have hlf : leafB r = true := by simp [leafB]; omega
          have hdc : (decide (r.kind = 1) || decide (r.kind = 8)) = false := by simpa using h18
          rw [hrec] at next
          simp [h9, hdc, hA, updF_app]
          rw [k1_centoref10_Meaning.eq_1]
          simp [he, hA, hR, hO, hK, updF_app, hrow]
          rw [ei]
          refine ⟨fun h => absurd h h18, fun _ _ => ⟨⟨by omega, by omega⟩, ?_⟩⟩
          refine next _ _ _ rfl rfl h0 hl _ _ rfl ?_ ?_ ?_ ?_
          · simp [updF_app, hA]
          · simp [updF_app, hR]
          · simp [updF_app]
          · simp [updF_app, hlf, rawT]
    · have hst : stepM l (recM l r rec1 rec2) r i left = (T0, left, (kidP l r i).2) := by rw [stepM, if_pos he]
      rw [hst, if_pos he] at hX
      simp only [Prod.mk.injEq] at hX
      obtain ⟨rfl, rfl, rfl⟩ := hX
      simp [he, hA, hR, hO, hK, updF_app]
      refine hq2 he u _ ?_ ?_
      · simp [updF_app, hR, ha]
      · simp [updF_app, hK]
end
theorem meaning_step {l : List (List Int)} (hs : Sg l) {r : Rf} (hr : RfOk l r) {rec1 rec2 : Rf → Int → T × Int × Int} {d : Nat} (hd : d ≤ 1000) {B : Int} (hB : B ≤ 1000000)
    (h1 : r.kind = 1 ∨ r.kind = 8 → 0 < d → ∃ d1 : Nat, d = d1 + 1 ∧ RecS l 57 d1 B rec1 ∧ LB l B rec1)
    (h2 : r.kind = 9 → 0 < r.count → 1 < d → ∃ d2 : Nat, d = d2 + 2 ∧ RecS l 94 d2 B (kidsM l rec2) ∧ LB l B (kidsM l rec2))
    {left : Int} (h0 : 0 ≤ left) (hl : left ≤ B) {X : T × Int × Int} (hX : X = if r.kind = 0 then leafM l r left else if d < 1 ∨ (r.kind = 9 ∧ 0 < r.count ∧ d < 2) then stopM l r left else if left < costM r then stopM l r left else restM l r rec1 rec2 left) : G.Spec Try.prog 57 [sgs l, raX r, iv d, iv left] (M3 X) := by
  have hb := nk_nonneg hr
  have hc := costM_pos hr
  refine spec_of t_centoref10_Meaning (by simp) fun w0 I0 => ?_
  unfold c_centoref10_Meaning
  simp
  refine sc_call (raWords_spec hs hr) (by simp) ?_
  have leaf : ∀ (H : Hp) (k lf e : Int) (X : T × Int × Int), X = (.mk k (wordsR l r) [], lf, e) → Frz H (.tup [.agg [iv k, uws (wordsR l r), .sl true []], iv lf, iv e]) (M3 X) := fun H k lf e X hX => by
    rw [hX]
    exact frz_tup (by simp; exact ⟨frz_agg (by simp; exact ⟨frz_bare rfl, frz_bare rfl, frz_sl⟩), frz_bare rfl, frz_bare rfl⟩)
  by_cases k0 : r.kind = 0
  · rw [if_pos k0, leafM, k0] at hX
    simp [k0]
    exact leaf _ _ _ _ _ hX
  rw [if_neg k0] at hX
  by_cases hst : d < 1 ∨ (r.kind = 9 ∧ 0 < r.count ∧ d < 2)
  · have hd : (decide ((d : Int) < 1) || ((decide (r.kind = 9) && decide (0 < r.count)) && decide ((d : Int) < 2))) = true := by simp; omega
    rw [if_pos hst, stopM] at hX
    by_cases d0 : (d : Int) < 1
    · simp [k0, d0]
      exact leaf _ _ _ _ _ hX
    · have h9 : r.kind = 9 := by omega
      have hcn : 0 < r.count := by omega
      have d2 : (d : Int) < 2 := by omega
      simp [k0, d0, h9, hcn, d2]
      rw [h9] at hX
      exact leaf _ _ _ _ _ hX
  rw [if_neg hst] at hX
  have d0 : ¬ (d : Int) < 1 := by omega
  have fin : ∀ (H : Hp), H [0] = ⟨1, .cells (raL r)⟩ → H [1] = ⟨1, .cells zT⟩ → H [2] = ⟨1, .cells [iv r.kind, uws (wordsR l r), .sl true []]⟩ → H [5] = ⟨0, .none⟩ → WPC (cx Try.prog w0 I0 149) k2_centoref10_Meaning (RetC Try.prog [.cell 8 25, .tmp 9, .tmp 10] (M3 X)) ⟨lk [(0, sgs l), (2, iv d), (3, iv left), (5, .pob [0] 1 0), (8, .pob [1] 1 0), (11, .pob [2] 1 0), (12, iv (costM r))], H⟩ := fun H hA hR hO hN => by
    rw [k2_centoref10_Meaning.eq_1]
    by_cases hlc : left < costM r
    · rw [if_pos hlc, stopM] at hX
      simp [hlc, hA, hR, hO, updF_app]
      exact leaf _ _ _ _ _ hX
    · rw [if_neg hlc, restM] at hX
      have ew : IntKind.i64.wrap (left - costM r) = left - costM r := i64_same (by omega) (by omega)
      simp [hlc, hA, hR, hO, updF_app, ew]
      have hX' : X = (.mk r.kind (wordsR l r) (loopM (stepM l (recM l r rec1 rec2) r) (nk r).toNat 0 [] (left - costM r)).1, (loopM (stepM l (recM l r rec1 rec2) r) (nk r).toNat 0 [] (left - costM r)).2.1, (loopM (stepM l (recM l r rec1 rec2) r) (nk r).toNat 0 [] (left - costM r)).2.2) := hX
      have hleaf := fun hb => leaf_kids (rec1 := rec1) (rec2 := rec2) (l := l) (r := r) hb (nk r).toNat 0 [] (left - costM r) (by simp)
      generalize hY : loopM (stepM l (recM l r rec1 rec2) r) (nk r).toNat 0 [] (left - costM r) = Y at hX' hleaf
      obtain ⟨ks, lf, e⟩ := Y
      have done : ∀ (H : Hp) (u : Nat), H [5] = ⟨u, .arr 3 (ks.map (rawT (leafB r)))⟩ → Frz H (.tup [.agg [iv r.kind, uws (wordsR l r), .osl [5] u 3 0 ks.length], iv lf, iv e]) (M3 X) := fun H u hH => by
        rw [hX']
        exact frz_tup (by simp; exact ⟨frz_agg (by simp; exact ⟨frz_bare rfl, frz_bare rfl, frz_raw (by simp [hH]) rfl hleaf⟩), frz_bare rfl, frz_bare rfl⟩)
      refine LoopC.le (le_blankC (d := [2]) 2 [5] 3 hO rfl (by simp)) ?_
      refine meaning_l1 (W := wordsR l r) hs hr hd (fun k => h1 k (by omega)) (fun k k' => h2 k k' (by omega)) (nk r).toNat 0 1 [] (left - costM r) _ (by omega) rfl (by omega) (by omega) (by simp [updF_app, hA]) (by simp [updF_app, hR]) (by simp [updF_app, hN]) (by simp [updF_app, hN]) hY (fun he i' q u' H' hR hO hK => ?_) (fun he u' H' hR hK => ?_)
      · simp [hR, hO, hK, updF_app]
        rw [← he]
        exact done _ u' (by simp [updF_app, hK])
      · simp [hR, hK, updF_app]
        exact done _ u' hK
  have b0 : decide (r.kind = 0) = false := by simpa using k0
  have hst' : ((decide (r.kind = 9) && decide (0 < r.count)) && decide ((d : Int) < 2)) = false := by
    simp only [Bool.and_eq_false_iff, decide_eq_false_iff_not]
    omega
  simp [b0, d0, hst']
  refine sc_call (raKids_spec r) (by simp) ?_
  have ek : IntKind.i64.wrap (1 + nk r) = 1 + nk r := i64_same (by omega) (by omega)
  by_cases k1 : r.kind = 1
  · have b1 : decide (r.kind = 1) = true := by simpa using k1
    have b9 : decide (r.kind = 9) = false := by simp [k1]
    have ec : IntKind.i64.wrap (IntKind.i64.wrap (1 + r.data) + r.kids) = costM r := by
      cases hr with
      | str s a d k a1 a2 a3 a4 h =>
        rw [i64_same (n := 1 + _) (by simp; omega) (by simp; omega), i64_same (by simp; omega) (by simp; omega)]
        simp [costM]
      | dat c s a n a1 a2 a3 a4 h => simp at k1; omega
      | _ => simp [Rf.zero] at k1
    simp [b1]
    rw [k3_centoref10_Meaning.eq_1]
    simp [b9, ec]
    exact fin _ (by simp) (by simp) (by simp) (by simp)
  · have b1 : decide (r.kind = 1) = false := by simpa using k1
    by_cases k9 : r.kind = 9
    · have b9 : decide (r.kind = 9) = true := by simpa using k9
      have ec : IntKind.i64.wrap (1 + IntKind.i64.wrap (r.count * IntKind.i64.wrap (IntKind.i64.wrap (1 + r.data) + r.kids))) = costM r := by
        have e : costM r = 1 + r.count * (1 + r.data + r.kids) := by simp [costM, k9]
        have hd : 0 ≤ r.data ∧ r.data < 65536 ∧ 0 ≤ r.kids ∧ r.kids < 65536 := by
          cases hr with
          | comp s a d k n a1 a2 a3 a4 a5 a6 h => exact ⟨a1, a2, a3, a4⟩
          | dat c s a n a1 a2 a3 a4 h => simp at k9; omega
          | _ => simp [Rf.zero] at k9
        rw [i64_same (n := 1 + r.data) (by omega) (by omega), i64_same (n := 1 + r.data + r.kids) (by omega) (by omega), i64_same (n := r.count * _) (by omega) (by omega), i64_same (by omega) (by omega), e]
      simp [b1, ek]
      rw [k3_centoref10_Meaning.eq_1]
      simp [b9, ec]
      exact fin _ (by simp) (by simp) (by simp) (by simp)
    · have b9 : decide (r.kind = 9) = false := by simpa using k9
      have ec : 1 + nk r = costM r := by simp [costM, k1, k9]
      have ek' : IntKind.i64.wrap (1 + nk r) = costM r := by rw [ek, ec]
      simp [b1, ek']
      rw [k3_centoref10_Meaning.eq_1]
      simp [b9]
      refine fin _ ?_ ?_ ?_ ?_ <;> simp
theorem meaning_spec {l : List (List Int)} (hs : Sg l) {B : Int} (hB : B ≤ 1000000) : ∀ d : Nat, d ≤ 1000 → RecS l 57 d B (meaning l d)
  | 0, hd, r, hr, left, h0, hl => by
    refine meaning_step hs hr hd hB (rec1 := leafM l) (rec2 := leafM l) (fun _ h => absurd h (by omega)) (fun _ _ h => absurd h (by omega)) h0 hl ?_
    rw [meaning]
    simp
  | 1, hd, r, hr, left, h0, hl => by
    refine meaning_step hs hr hd hB (rec1 := meaning l 0) (rec2 := fun r left => stopM l r left) (fun _ _ => ⟨0, rfl, meaning_spec hs hB 0 (by omega), meaning_lb hs.w 0⟩) (fun _ _ h => absurd h (by omega)) h0 hl ?_
    rw [meaning]
    simp
  | d + 2, hd, r, hr, left, h0, hl => by
    refine meaning_step hs hr hd hB (rec1 := meaning l (d + 1)) (rec2 := meaning l d) (fun _ _ => ⟨d + 1, rfl, meaning_spec hs hB (d + 1) (by omega), meaning_lb hs.w (d + 1)⟩) (fun _ _ _ => ⟨d, rfl, rkids_spec hs (meaning_spec hs hB d (by omega)) (meaning_lb hs.w d), kidsM_lb hs.w (meaning_lb hs.w d)⟩) h0 hl ?_
    have n1 : ¬ (d + 2 < 1 ∨ r.kind = 9 ∧ 0 < r.count ∧ d + 2 < 2) := by omega
    rw [meaning, if_neg n1]
end Go.Proofs.Ytigdcnlhgelkaaa

/-
  Chapter 10's reference: what a message means; chapter 15's law.
-/
namespace Go.Proofs.Ytigdcnlhgelkaaa
set_option linter.unusedVariables false
set_option linter.unusedSimpArgs false
open Go Go.G Go.Proofs Go.PL

def clampZ (x m : Int) : Int := if x < 0 then 0 else if m < x then m else x
theorem within10_spec (x m : Int) : G.Spec Try.prog 88 [iv x, iv m] (iv (clampZ x m)) := by
  refine spec_of t_centoref10_within (by simp) fun w0 I0 => ?_
  unfold c_centoref10_within
  by_cases h : x < 0
  · simp [h]
    exact frz_is rfl (by simp [clampZ, h])
  · by_cases h2 : m < x
    · simp [h, h2]
      exact frz_is rfl (by simp [clampZ, h, h2])
    · simp [h, h2]
      exact frz_is rfl (by simp [clampZ, h, h2])
abbrev liX (a b c d : Int) : A := .agg [iv a, iv b, iv c, iv d]
set_option maxRecDepth 100000 in
theorem limits_spec (a b c d : Int) : G.Spec Try.prog 55 [liX a b c d] (liX (clampZ a 64) (clampZ b 65536) (clampZ c 4096) (clampZ d 131072)) := by
  refine spec_of t_centoref10_Limits (by simp) fun w0 I0 => ?_
  unfold c_centoref10_Limits
  simp
  refine sc_call (within10_spec a 64) rfl ?_
  simp
  refine sc_call (within10_spec b 65536) rfl ?_
  simp
  refine sc_call (within10_spec c 4096) rfl ?_
  simp
  refine sc_call (within10_spec d 131072) rfl ?_
  simp
  exact frz_bare rfl
def lightZ (b : Int) : Int := if 3000 < b then 3000 else b
theorem light_spec (a b c d : Int) : G.Spec Try.prog 19 [liX a b c d] (liX a (lightZ b) c d) := by
  refine spec_of t_centolaw10_Light (by simp) fun w0 I0 => ?_
  unfold c_centolaw10_Light
  by_cases h : 3000 < b
  · simp [h]
    exact frz_is rfl (by simp [lightZ, h])
  · simp [h]
    exact frz_is rfl (by simp [lightZ, h])
/-- What a message means; an error. -/
def unfP (l : List (List Int)) (a b : Int) : T × Int × Int :=
  if (atP l 0 0).2 ≠ 0 then (T0, 0, (atP l 0 0).2)
  else if (meaning l (clampZ a 64).toNat (atP l 0 0).1 (clampZ b 65536)).2.2 ≠ 0 then (T0, 0, (meaning l (clampZ a 64).toNat (atP l 0 0).1 (clampZ b 65536)).2.2)
  else ((meaning l (clampZ a 64).toNat (atP l 0 0).1 (clampZ b 65536)).1, clampZ b 65536 - (meaning l (clampZ a 64).toNat (atP l 0 0).1 (clampZ b 65536)).2.1, 0)
theorem clamp_in (x m : Int) (h : 0 ≤ m) : 0 ≤ clampZ x m ∧ clampZ x m ≤ m := by
  unfold clampZ; split
  · omega
  · split <;> omega
theorem unfold_spec {l : List (List Int)} (hs : Sg l) (a b c d : Int) : G.Spec Try.prog 20 [sgs l, liX a b c d] (M3 (unfP l a b)) := by
  have ha := clamp_in a 64 (by decide)
  have hb := clamp_in b 65536 (by decide)
  refine spec_of t_centoref10_Unfold (by simp) fun w0 I0 => ?_
  unfold c_centoref10_Unfold
  simp
  refine sc_call (limits_spec a b c d) rfl ?_
  simp
  refine sc_call (raAt_spec hs 0 0) rfl ?_
  simp
  unfold unfP
  have hok := at_ok hs.w 0 0
  generalize hx : atP l 0 0 = x at hok
  obtain ⟨r, e⟩ := x
  simp only
  by_cases he : e = 0
  · rw [if_neg (by simp [he])]
    obtain ⟨D, hD⟩ : ∃ D : Nat, clampZ a 64 = (D : Int) := ⟨(clampZ a 64).toNat, by omega⟩
    have hm := meaning_spec hs (B := 65536) (by omega) D (by omega) r hok (clampZ b 65536) hb.1 hb.2
    have hlb := meaning_lb hs.w (B := 65536) D r hok (clampZ b 65536) hb.1 hb.2
    simp [he, hD]
    refine sc_call hm (by simp) ?_
    generalize meaning l D r (clampZ b 65536) = y at hlb
    obtain ⟨t, lf, e2⟩ := y
    simp only at hlb ⊢
    by_cases he2 : e2 = 0
    · have ew : IntKind.i64.wrap (clampZ b 65536 - lf) = clampZ b 65536 - lf := i64_same (by omega) (by omega)
      simp [he2, ew]
      exact frz_bare (tup_bare (by simp))
    · simp [he2]
      exact frz_tup (by simp; exact ⟨frz_T0, frz_bare rfl, frz_bare rfl⟩)
  · rw [if_pos he]
    simp [he]
    exact frz_tup (by simp; exact ⟨frz_T0, frz_bare rfl, frz_bare rfl⟩)
theorem unfold_means {l : List (List Int)} (hs : Sg l) {a b : Int} (h : (unfP l a b).2.2 = 0) : Means l (atP l 0 0).1 (unfP l a b).1 := by
  unfold unfP at h ⊢
  split at h
  · rename_i h0; exact absurd h h0
  · rename_i h0
    rw [if_neg h0]
    split at h
    · rename_i h1; exact absurd h h1
    · rename_i h1
      rw [if_neg h1]
      exact meaning_means hs.w _ _ _ (at_ok hs.w 0 0) (by omega)
/-! ### the law -/
theorem root15_spec {l : List (List Int)} (hs : Sg l) (hl : l.length * 24 ≤ 140737488355328) : G.Spec Try.prog 22 [sgs l] (paX l (atP l 0 0).1) := by
  refine spec_of t_centolaw15_root (by simp) fun w0 I0 => ?_
  unfold c_centolaw15_root
  simp
  refine sc_call (of_spec l hl hs.b) rfl ?_
  simp
  refine sc_call (root_spec hs) rfl ?_
  simp
  exact frz_bare (by simp)
end Go.Proofs.Ytigdcnlhgelkaaa

/-
  Chapter 15: the law EqualGoes.
-/
namespace Go.Proofs.Ytigdcnlhgelkaaa
set_option linter.unusedVariables false
set_option linter.unusedSimpArgs false
open Go Go.G Go.Proofs Go.PL

abbrev s1 : List (List Int) := [[4294967296, 7]]
abbrev s2 : List (List Int) := [[8589934592, 7, 0]]
abbrev s3 : List (List Int) := [[4294967296, 8]]
theorem sg1 : Sg s1 := ⟨fun x hx => by simp at hx; subst hx; simp, fun x hx y hy => by simp at hx; subst hx; simp at hy; omega⟩
theorem sg2 : Sg s2 := ⟨fun x hx => by simp at hx; subst hx; simp, fun x hx y hy => by simp at hx; subst hx; simp at hy; omega⟩
theorem sg3 : Sg s3 := ⟨fun x hx => by simp at hx; subst hx; simp, fun x hx y hy => by simp at hx; subst hx; simp at hy; omega⟩
theorem unf1 : unfP s1 64 3000 = (.mk 1 [7] [], 2, 0) := by kernel_rfl
theorem unf2 : unfP s2 64 3000 = (.mk 1 [7, 0] [], 3, 0) := by kernel_rfl
theorem unf3 : unfP s3 64 3000 = (.mk 1 [8] [], 2, 0) := by kernel_rfl
theorem awake15_spec : G.Spec Try.prog 21 [] (bv true) := by
  have m1 := unfold_means sg1 (a := 64) (b := 3000) (by rw [unf1])
  have m2 := unfold_means sg2 (a := 64) (b := 3000) (by rw [unf2])
  have m3 := unfold_means sg3 (a := 64) (b := 3000) (by rw [unf3])
  rw [unf1] at m1
  rw [unf2] at m2
  rw [unf3] at m3
  have v12 := values_spec sg1 sg2 _ _ _ _ m1 m2
  have v13 := values_spec sg1 sg3 _ _ _ _ m1 m3
  have e12 : eqT (.mk 1 [7] []) (.mk 1 [7, 0] []) = true := eqT_iff.2 (by simp [norm_mk, trimW, trimK])
  have e13 : eqT (.mk 1 [7] []) (.mk 1 [8] []) = false := by
    rw [Bool.eq_false_iff]
    intro h
    have := eqT_iff.1 h
    simp [norm_mk, trimW, trimK] at this
  rw [e12] at v12
  rw [e13] at v13
  refine spec_of t_centolaw15_awake (by simp) fun w0 I0 => ?_
  unfold c_centolaw15_awake
  simp
  refine sc_call ((root15_spec sg1 (by simp)).soft (by simp [A.softL, A.soft])) rfl ?_
  simp
  refine sc_call ((root15_spec sg2 (by simp)).soft (by simp [A.softL, A.soft])) rfl ?_
  simp
  refine sc_call v12 (by simp) ?_
  simp
  refine sc_call ((root15_spec sg1 (by simp)).soft (by simp [A.softL, A.soft])) rfl ?_
  simp
  refine sc_call ((root15_spec sg3 (by simp)).soft (by simp [A.softL, A.soft])) rfl ?_
  simp
  refine sc_call v13 (by simp) ?_
  simp
  exact frz_bare rfl
set_option maxRecDepth 8000 in
theorem EqualGoes_spec {l m k : List (List Int)} (hl : Sg l) (hm : Sg m) (hk : Sg k) (l1 : l.length * 24 ≤ 140737488355328) (m1 : m.length * 24 ≤ 140737488355328) (k1 : k.length * 24 ≤ 140737488355328) (a b c d : Int) : G.Spec Try.prog 4 [sgs l, sgs m, sgs k, liX a b c d] (bv true) := by
  refine spec_of t_centolaw15_EqualGoes (by simp) fun w0 I0 => ?_
  unfold c_centolaw15_EqualGoes
  simp
  refine sc_call (light_spec a b c d) rfl ?_
  simp
  refine sc_call (unfold_spec hl a (lightZ b) c d) rfl ?_
  simp
  refine sc_call (unfold_spec hm a (lightZ b) c d) rfl ?_
  simp
  refine sc_call (unfold_spec hk a (lightZ b) c d) rfl ?_
  have hl' := unfold_means hl (a := a) (b := lightZ b)
  have hm' := unfold_means hm (a := a) (b := lightZ b)
  have hk' := unfold_means hk (a := a) (b := lightZ b)
  generalize unfP l a (lightZ b) = x at hl'
  generalize unfP m a (lightZ b) = y at hm'
  generalize unfP k a (lightZ b) = z at hk'
  obtain ⟨t, _, e1⟩ := x
  obtain ⟨u, _, e2⟩ := y
  obtain ⟨w, _, e3⟩ := z
  simp only at hl' hm' hk'
  by_cases he : e1 = 0 ∧ e2 = 0 ∧ e3 = 0
  · obtain ⟨rfl, rfl, rfl⟩ := he
    have ht := hl' rfl
    have hu := hm' rfl
    have hw := hk' rfl
    have tt : eqT t t = true := eqT_iff.2 rfl
    have tu : eqT u t = eqT t u := by rw [Bool.eq_iff_iff, eqT_iff, eqT_iff]; exact eq_comm
    have tw : eqT t u = true → eqT u w = eqT t w := fun h => by rw [Bool.eq_iff_iff, eqT_iff, eqT_iff, eqT_iff.1 h]
    have v1 := values_spec hl hl _ _ _ _ ht ht
    have v2 := values_spec hl hm _ _ _ _ ht hu
    have v3 := values_spec hm hl _ _ _ _ hu ht
    have v4 := values_spec hm hk _ _ _ _ hu hw
    have v5 := values_spec hl hk _ _ _ _ ht hw
    rw [tt] at v1
    rw [tu] at v3
    generalize eqT t u = p at v2 v3 tw
    generalize eqT u w = q at v4 tw
    generalize eqT t w = s at v5 tw
    simp
    refine sc_call (root15_spec hl l1) (by simp) ?_
    simp
    refine sc_call (root15_spec hm m1) (by simp) ?_
    simp
    refine sc_call (root15_spec hk k1) (by simp) ?_
    simp
    refine sc_call v1 (by simp) ?_
    simp
    refine sc_call v2 (by simp) ?_
    simp
    refine sc_call v3 (by simp) ?_
    simp
    refine sc_call v4 (by simp) ?_
    simp
    refine sc_call v5 (by simp) ?_
    cases p with
    | true =>
      have := tw rfl
      subst this
      cases q <;>
      · simp
        refine sc_call_gt rfl (fun _ => awake15_spec) (fun _ => rfl) rfl ?_
        simp
        exact frz_bare rfl
    | false =>
      cases q <;> cases s <;>
      · simp
        refine sc_call_gt rfl (fun _ => awake15_spec) (fun _ => rfl) rfl ?_
        simp
        exact frz_bare rfl
  · have hd : ((!decide (e1 = 0) || !decide (e2 = 0)) || !decide (e3 = 0)) = true := by simp; omega
    simp [hd]
    refine sc_call awake15_spec rfl ?_
    simp
    exact frz_bare rfl
end Go.Proofs.Ytigdcnlhgelkaaa

/-
  Chapter 15: the hash.
-/
namespace Go.Proofs.Ytigdcnlhgelkaaa
set_option linter.unusedVariables false
set_option linter.unusedSimpArgs false
open Go Go.G Go.Proofs Go.PL

def mixG (h x : Int) : Int := IntKind.u64.wrap (bits .xor .u64 h x * 1099511628211)
def mixH (h x : Int) : Int := bits .xor .u64 (mixG h x) (mixG h x / 2 ^ min 29 IntKind.u64.bits)
mutual
def hashN : T → Int
  | .mk k w l => hashL (w.foldl mixH (mixH (mixH 14695981039346656037 (IntKind.u64.wrap k)) (IntKind.u64.wrap w.length))) l
def hashL : Int → List T → Int
  | h, [] => h
  | h, t :: l => hashL (mixH h (hashN t)) l
end

/-- The mixer's objects. -/
def mxF (u : Nat) (h : Int) : Nm → VOb
  | [] => ⟨u, .cells [uv h]⟩
  | _ => ⟨0, .none⟩
@[simp] theorem mxF_nil {u : Nat} {h : Int} : mxF u h [] = ⟨u, .cells [uv h]⟩ := rfl
theorem mxAdd_spec (u : Nat) (h x : Int) : SpecH Try.prog 59 1 [.pob [0] u 0, uv x] (ov 0 (mxF u h) (lkH [])) (.tup []) (ov 0 (mxF u (mixH h x)) (lkH [])) := by
  refine specH_of t_equal_mixer_add (by simp) fun w0 I0 M0 m0 => ?_
  unfold c_equal_mixer_add
  simp [updF_app]
  refine reth_normal rfl rfl (fun i p hi => ?_)
  have hi0 : i = 0 := by omega
  subst hi0
  simp only [ov_cons, if_true]
  refine updF_is rfl (fun h1 => ?_)
  cases p with
  | nil => exact absurd rfl h1
  | cons a p => rfl

theorem sc_mix {P : Program} {K : Sta → Prop} {rest : List CO} {s : Nat → A} {H : Hp} {dd : Option Nat} {nm : Nm} {ix : Nat} {un : List Nat} {l : Bool} {lg : Lg} {g : FuncId} {fo : Operand} {aa : Array Operand} {ts : Array TypeId}
    {r u : Nat} {h x : Int} (ho : evs s fo = .fnc g [.pob [r] u 0] []) (hS : SpecH P g 1 [.pob [0] u 0, uv x] (ov 0 (mxF u h) (lkH [])) (.tup []) (ov 0 (mxF u (mixH h x)) (lkH []))) (hF : ∀ p, H (r :: p) = mxF u h p)
    (ha : aa.toList.map (evs s) = [uv x]) (hck : Ck un lg ⟨[], [([r], true)]⟩)
    (h : SeqC P K rest (addL l ix ⟨[], [([r], true)]⟩ lg) (Sta.put ⟨s, H⟩ dd (.tup []) (ov r (mxF u (mixH h x)) H))) :
    SeqC P K (⟨dd, .call { callee := .value fo, args := aa, argTypes := ts }, none, nm, ix, un, l⟩ :: rest) lg ⟨s, H⟩ := by
  have hd : ∀ p, dlt [r] 1 H (0 :: p) = 0 := fun p => rfl
  refine sc_callHv (L := [.pob [r] u 0, uv x]) ho (by rw [ha]; rfl) [r] 1 hS (by simp) (by simp) ?_ ?_ ?_ ?_ (by simp [A.refs, A.refsL]) ?_ (fun i p h1 h2 => by simp at h2; omega) rfl ?_ hck h
  · simp [A.renL, A.ren, dnN]
  · simp [A.refs, A.refsL, inS]
  · funext o
    cases o with
    | nil => rfl
    | cons i p =>
      by_cases hi : i < 1
      · have : i = 0 := by omega
        subst this
        simp only [inHp, if_pos hi, ov_cons, if_true]
        show (H (r :: p)).ren _ _ 0 = _
        rw [hF]
        cases p <;> rfl
      · simp only [inHp, if_neg hi, ov_cons]
        rw [if_neg (by omega)]
        rfl
  · intro j p hj
    have hjr : j = r := by
      have := (idx_mem (rs := [r])).1 (by simpa using hj)
      simpa using this
    rw [hjr, hF]
    cases p with
    | nil => simp [mxF, Ob.refs, A.refsL, A.refs]
    | cons a p => trivial
  · intro i p hi
    have : i = 0 := by simp at hi; omega
    subst this
    simp only [ov_cons, if_true]
    cases p with
    | nil => simp [mxF, Ob.refs, A.refsL, A.refs]
    | cons a p => trivial
  · funext o
    cases o with
    | nil => rfl
    | cons j p =>
      by_cases hj : j = r
      · subst hj
        simp only [outG, ov_cons, if_true]
        rw [if_pos (by simp)]
        have : [j].idxOf j = 0 := by simp
        rw [this, if_pos rfl, hd]
        cases p <;> rfl
      · have : ¬ [r].contains j = true := by simpa using hj
        simp only [outG, if_neg this, ov_cons, if_neg hj]
end Go.Proofs.Ytigdcnlhgelkaaa

/-
  Chapter 15: the hash, walked.
-/
namespace Go.Proofs.Ytigdcnlhgelkaaa
set_option linter.unusedVariables false
set_option linter.unusedSimpArgs false
open Go Go.G Go.Proofs Go.PL

abbrev mxV : A := .fnc 59 [.pob [1] 1 0] []
abbrev HashS (l : List (List Int)) (t : T) : Prop := ∀ r, Means l r t → G.Spec Try.prog 24 [paX l r] (.tup [uv (hashN (norm t)), iv 0])
section
variable {n0 : Nat} {w0 : World} {I0 : Nat → Prop} {Q : Exit → Sta → Prop}
theorem hash_l1 {l : List (List Int)} (hl : Sg l) {r : Rf} {t : T} (ht : Means l r t) : ∀ (m i : Nat) (h : Int) (H : Hp), i + m = nW t → H [0] = ⟨1, .cells (paL l r)⟩ → (∀ p, H (1 :: p) = mxF 1 h p) →
    (∀ i' q H', H' [0] = ⟨1, .cells (paL l r)⟩ → (∀ p, H' (1 :: p) = mxF 1 (((t.words.take (nW t)).drop i).foldl mixH h) p) → Q (.exit 0) ⟨lk [(1, .pob [0] 1 0), (4, .pob [1] 1 0), (5, mxV), (6, iv (nK t)), (36, iv (nW t)), (37, iv i'), (38, bv q)], H'⟩) →
    LoopC (cx Try.prog w0 I0 n0) l1_equal_Hash Q ⟨lk [(1, .pob [0] 1 0), (4, .pob [1] 1 0), (5, mxV), (6, iv (nK t)), (36, iv (nW t)), (37, iv i)], H⟩ := by
  have h1 := means_len ht
  have w1 := nW_le t
  intro m
  induction m with
  | zero =>
    intro i h H hi hA hM hq
    have : i = nW t := by omega
    subst this
    refine loopC_once mixed l1_equal_Hash.eq_1 ?_
    simp
    exact hq _ _ H hA (fun p => by rw [hM, List.drop_of_length_le (by simp; omega)]; rfl)
  | succ m ihm =>
    intro i h H hi hA hM hq
    have hlt : i < nW t := by omega
    have lt1 : i < t.words.length := by omega
    have ei : IntKind.i64.wrap ((i : Int) + 1) = ((i + 1 : Nat) : Int) := i64_same (by omega) (by omega)
    have hw := (means_word ht).2 i lt1
    refine loopC_once mixed l1_equal_Hash.eq_1 ?_
    simp [hlt, hA]
    refine sc_call (word_spec' hl (means_ok ht) i) (by simp) ?_
    rw [hw]
    simp
    refine sc_mix (x := t.words[i]) rfl (mxAdd_spec 1 h _) hM (by simp) (by simp) ?_
    simp [ei]
    refine ihm (i + 1) (mixH h t.words[i]) _ (by omega) (by simp [hA]) (fun p => by simp) fun i' q H' a0 a1 => hq i' q H' a0 fun p => ?_
    rw [a1]
    have : (t.words.take (nW t)).drop i = t.words[i] :: (t.words.take (nW t)).drop (i + 1) := by
      rw [List.drop_eq_getElem_cons (by simp; omega)]
      simp
    rw [this]
    rfl
theorem hash_l2 {l : List (List Int)} (hl : Sg l) {r : Rf} {t : T} (ht : Means l r t) (ih : ∀ c, c ∈ t.kids → HashS l c) : ∀ (m i : Nat) (h : Int) (H : Hp), i + m = nK t → H [0] = ⟨1, .cells (paL l r)⟩ → (∀ p, H (1 :: p) = mxF 1 h p) →
    (∀ i' q H', (∀ p, H' (1 :: p) = mxF 1 (hashL h (((t.kids.take (nK t)).map norm).drop i)) p) → Q (.exit 2) ⟨lk [(1, .pob [0] 1 0), (4, .pob [1] 1 0), (5, mxV), (46, iv (nK t)), (47, iv i'), (48, bv q)], H'⟩) →
    LoopC (cx Try.prog w0 I0 n0) l2_equal_Hash Q ⟨lk [(1, .pob [0] 1 0), (4, .pob [1] 1 0), (5, mxV), (46, iv (nK t)), (47, iv i)], H⟩ := by
  have h1 := means_len ht
  have w1 := nK_le t
  intro m
  induction m with
  | zero =>
    intro i h H hi hA hM hq
    have : i = nK t := by omega
    subst this
    refine loopC_once mixed l2_equal_Hash.eq_1 ?_
    simp
    exact hq _ _ H (fun p => by rw [hM, List.drop_of_length_le (by simp; omega), hashL])
  | succ m ihm =>
    intro i h H hi hA hM hq
    have hlt : i < nK t := by omega
    have lt1 : i < t.kids.length := by omega
    have ei : IntKind.i64.wrap ((i : Int) + 1) = ((i + 1 : Nat) : Int) := i64_same (by omega) (by omega)
    obtain ⟨a1, a2⟩ := means_kid ht lt1
    have ihc := ih _ (List.getElem_mem lt1) _ a2
    refine loopC_once mixed l2_equal_Hash.eq_1 ?_
    simp [hlt, hA]
    refine sc_call (kid_spec hl (means_ok ht) i) (by simp) ?_
    simp [a1, updF_app, hA]
    refine sc_call ihc (by simp) ?_
    simp
    refine sc_mix (x := hashN (norm t.kids[i])) rfl (mxAdd_spec 1 h _) (fun p => by simp [updF_app, hM]) (by simp) (by simp) ?_
    simp [ei]
    refine ihm (i + 1) (mixH h (hashN (norm t.kids[i]))) _ (by omega) (by simp [updF_app, hA]) (fun p => by simp) fun i' q H' a3 => hq i' q H' fun p => ?_
    rw [a3]
    have : ((t.kids.take (nK t)).map norm).drop i = norm t.kids[i] :: ((t.kids.take (nK t)).map norm).drop (i + 1) := by
      rw [List.drop_eq_getElem_cons (by simp; omega)]
      simp
    rw [this, hashL]
end
theorem hash_spec {l : List (List Int)} (hl : Sg l) : ∀ t, HashS l t := by
  refine T.ind fun k w ks ih r ht => ?_
  have hln := means_len ht
  have w1 := nW_le (.mk k w ks)
  have k1 := means_kind ht
  refine spec_of t_equal_Hash (by simp) fun w0 I0 => ?_
  unfold c_equal_Hash
  simp
  refine sc_call (refKind_spec l r) (by simp) ?_
  simp
  refine sc_mix (x := IntKind.u64.wrap r.kind) rfl (mxAdd_spec 1 14695981039346656037 _) (fun p => by cases p <;> simp [mxF]) (by simp) (by simp) ?_
  simp
  refine sc_call (ekids_spec hl ht) (by simp) ?_
  simp
  refine sc_call (ewords_spec hl ht) (by simp) ?_
  simp
  refine sc_mix (x := IntKind.u64.wrap (nW (.mk k w ks))) rfl (mxAdd_spec 1 _ _) (fun p => by simp; rfl) (by simp) (by simp) ?_
  simp
  refine sc_call (ewords_spec hl ht) (by simp) ?_
  simp
  refine hash_l1 hl ht (nW (.mk k w ks)) 0 _ _ (by omega) (by simp) (fun p => by simp; rfl) fun i' q H' hA hM => ?_
  simp
  refine hash_l2 hl ht ih (nK (.mk k w ks)) 0 _ H' (by omega) hA hM fun i' q H2 hM2 => ?_
  have h0 := hM2 []
  simp at h0
  simp [h0]
  refine frz_is rfl ?_
  have hb := means_bare ht
  have hw := norm_words hb
  have hk := norm_kids hb
  have key : hashN (norm (.mk k w ks)) = hashL (((T.mk k w ks).words.take (nW (.mk k w ks))).foldl mixH (mixH (mixH 14695981039346656037 (IntKind.u64.wrap k)) (IntKind.u64.wrap (nW (.mk k w ks))))) (((T.mk k w ks).kids.take (nK (.mk k w ks))).map norm) := by
    rw [T.eta (norm (.mk k w ks)), hashN, norm_kind, hw, hk]
    have : ((T.mk k w ks).words.take (nW (.mk k w ks))).length = nW (.mk k w ks) := by simp at w1 ⊢; omega
    rw [this, T.kind_mk]
  rw [key, k1, T.kind_mk]
  simp [List.map_take]
end Go.Proofs.Ytigdcnlhgelkaaa

/-
  Chapter 15: the law EqualValues.
-/
namespace Go.Proofs.Ytigdcnlhgelkaaa
set_option linter.unusedVariables false
set_option linter.unusedSimpArgs false
open Go Go.G Go.Proofs Go.PL

/-- What values mean are trees that memory can hold. -/
theorem means_wf {l : List (List Int)} (hs : Sg l) : ∀ (t : T) (r : Rf), Means l r t → wfT t := by
  refine T.ind fun k w ks ih r ht => ?_
  have hln := means_len ht
  have hk := means_kind ht
  have hok := means_ok ht
  simp at hln hk
  refine wfT_iff.2 ⟨?_, ?_, ?_, ?_, ?_⟩
  · simp only [T.kind_mk]
    rw [← hk]
    unfold i64R
    cases hok <;> simp [Rf.zero] <;> omega
  · intro x hx
    obtain ⟨i, hi, rfl⟩ := List.mem_iff_getElem.1 hx
    have := (means_word ht).2 i hi
    rw [← this]
    unfold u64R wordAt
    split
    · omega
    · split
      · cases hok with
        | atom n a1 a2 => exact ⟨a1, a2⟩
        | dat c s a n a1 a2 a3 a4 h => simp
        | _ => simp [Rf.zero]
      · cases e : word l r.s (r.at_ + i) with
        | none => simp
        | some x => exact word_in hs.w e
  · simp; omega
  · simp; omega
  · intro c hc
    obtain ⟨i, hi, rfl⟩ := List.mem_iff_getElem.1 hc
    exact ih _ (List.getElem_mem hi) _ (means_kid ht hi).2
set_option maxRecDepth 8000 in
theorem EqualValues_spec {l m : List (List Int)} (hl : Sg l) (hm : Sg m) (l1 : l.length * 24 ≤ 140737488355328) (m1 : m.length * 24 ≤ 140737488355328) (a b c d : Int) : G.Spec Try.prog 5 [sgs l, sgs m, liX a b c d] (bv true) := by
  refine spec_of t_centolaw15_EqualValues (by simp) fun w0 I0 => ?_
  unfold c_centolaw15_EqualValues
  simp
  refine sc_call (light_spec a b c d) rfl ?_
  simp
  refine sc_call (unfold_spec hl a (lightZ b) c d) rfl ?_
  simp
  refine sc_call (unfold_spec hm a (lightZ b) c d) rfl ?_
  have hl' := unfold_means hl (a := a) (b := lightZ b)
  have hm' := unfold_means hm (a := a) (b := lightZ b)
  generalize unfP l a (lightZ b) = x at hl'
  generalize unfP m a (lightZ b) = y at hm'
  obtain ⟨t, _, e1⟩ := x
  obtain ⟨u, _, e2⟩ := y
  simp only at hl' hm'
  by_cases he : e1 = 0 ∧ e2 = 0
  · obtain ⟨rfl, rfl⟩ := he
    have ht := hl' rfl
    have hu := hm' rfl
    have v1 := values_spec hl hm _ _ _ _ ht hu
    have h1 := hash_spec hl _ _ ht
    have h2 := hash_spec hm _ _ hu
    have wt := means_wf hl _ _ ht
    have wu := means_wf hm _ _ hu
    have q := rEqual_spec wt wu (wf_norm _ wt)
    have hh : eqT t u = true → hashN (norm t) = hashN (norm u) := fun h => by rw [eqT_iff.1 h]
    simp
    refine sc_call (root15_spec hl l1) (by simp) ?_
    simp
    refine sc_call (root15_spec hm m1) (by simp) ?_
    simp
    refine sc_call v1 (by simp) ?_
    simp
    refine sc_call h1 (by simp) ?_
    simp
    refine sc_call h2 (by simp) ?_
    simp
    refine sc_call q (by simp) ?_
    generalize eqT t u = p at hh
    generalize hashN (norm t) = x at hh
    generalize hashN (norm u) = y at hh
    cases p with
    | true =>
      have := hh rfl
      subst this
      simp
      refine sc_call_gt rfl (fun _ => awake15_spec) (fun _ => rfl) rfl ?_
      simp
      exact frz_bare rfl
    | false =>
      simp
      refine sc_call_gt rfl (fun _ => awake15_spec) (fun _ => rfl) rfl ?_
      simp
      exact frz_bare rfl
  · have hd : (!decide (e1 = 0) || !decide (e2 = 0)) = true := by simp; omega
    simp [hd]
    refine sc_call awake15_spec rfl ?_
    simp
    exact frz_bare rfl
end Go.Proofs.Ytigdcnlhgelkaaa

/-
  Chapter 15: each law, whatever its arguments hold.
-/
namespace Go.Proofs.Ytigdcnlhgelkaaa
set_option linter.unusedVariables false
set_option linter.unusedSimpArgs false
open Go Go.G Go.Proofs Go.RowKit

theorem lit15_i {m : Int} (h : (Lit.int .i64 m).wf = true) : -9223372036854775808 ≤ m ∧ m < 9223372036854775808 := by
  simp [Lit.wf, IntKind.min, IntKind.max, IntKind.bits, IntKind.signed] at h
  omega
theorem lit15_u {m : Int} (h : (Lit.int .u64 m).wf = true) : 0 ≤ m ∧ m < 18446744073709551616 := by
  simp [Lit.wf, IntKind.min, IntKind.max, IntKind.bits, IntKind.signed] at h
  omega
theorem und15_i : Try.prog.underlying 3 = some (.int .i64) := by kernel_rfl
theorem und15_u : Try.prog.underlying 45 = some (.int .u64) := by kernel_rfl
theorem und15_w : Try.prog.underlying 22 = some (.slice 45) := by kernel_rfl
theorem und15_s : Try.prog.underlying 38 = some (.slice 22) := by kernel_rfl
theorem byt15_u : Try.prog.bytesOf 45 = 8 := by kernel_rfl
theorem byt15_w : Try.prog.bytesOf 22 = 24 := by kernel_rfl
theorem has15_u64 {n : Nat} {b : List A} (h : Has Try.prog n 45 b) : ∃ m, 0 ≤ m ∧ m < 18446744073709551616 ∧ mk Try.prog 45 b = uv m := by
  cases n with
  | zero => exact h.elim
  | succ n =>
    simp only [Has, und15_u] at h
    obtain ⟨m, hm, rfl⟩ := h
    obtain ⟨h1, h2⟩ := lit15_u hm
    exact ⟨m, h1, h2, by simp [mk, und15_u]⟩
theorem list15_map {α : Type} {xs : List A} {g : α → A} {R : α → Prop} (h : ∀ x, x ∈ xs → ∃ y, R y ∧ x = g y) : ∃ l : List α, xs = l.map g ∧ ∀ y, y ∈ l → R y := by
  induction xs with
  | nil => exact ⟨[], rfl, fun y h => nomatch h⟩
  | cons x xs ih =>
    obtain ⟨y, hy, rfl⟩ := h x (by simp)
    obtain ⟨l, rfl, hl⟩ := ih fun z hz => h z (by simp [hz])
    refine ⟨y :: l, rfl, fun z hz => ?_⟩
    rcases List.mem_cons.1 hz with rfl | hz
    · exact hy
    · exact hl z hz
set_option maxRecDepth 100000 in
theorem has15_words {n : Nat} {b : List A} (h : Has Try.prog n 22 b) : ∃ f, ∃ l : List Int, mk Try.prog 22 b = .sl f (l.map uv) ∧ l.length * 8 ≤ 140737488355328 ∧ ∀ y, y ∈ l → 0 ≤ y ∧ y < 18446744073709551616 := by
  cases n with
  | zero => exact h.elim
  | succ n =>
    simp only [Has, und15_w] at h
    obtain ⟨f, xs, rfl, _, hz, hf, hx⟩ := h
    rw [byt15_u] at hz
    obtain ⟨l, rfl, hl⟩ := list15_map (g := uv) (R := fun y => 0 ≤ y ∧ y < 18446744073709551616) (xs := xs) fun x hx' => by
      obtain ⟨b, hb, rfl⟩ := hx x hx'
      obtain ⟨m, h0, h1, e⟩ := has15_u64 hb
      exact ⟨m, ⟨h0, h1⟩, e⟩
    exact ⟨f, l, by simp [mk, und15_w], by simp [reachBytes] at hz; omega, hl⟩
set_option maxRecDepth 100000 in
theorem has15_segs {n : Nat} {b : List A} (h : Has Try.prog n 38 b) : ∃ (f : Bool) (xs : List A) (l : List (List Int)), mk Try.prog 38 b = .sl f xs ∧ A.soft (.sl f xs) = sgs l ∧ l.length * 24 ≤ 140737488355328 ∧ Sg l := by
  cases n with
  | zero => exact h.elim
  | succ n =>
    simp only [Has, und15_s] at h
    obtain ⟨f, xs, rfl, _, hz, hf, hx⟩ := h
    rw [byt15_w] at hz
    obtain ⟨l, rfl, hl⟩ := list15_map (g := fun p : Bool × List Int => .sl p.1 (p.2.map uv)) (R := fun p => p.2.length * 8 ≤ 140737488355328 ∧ ∀ y, y ∈ p.2 → 0 ≤ y ∧ y < 18446744073709551616) (xs := xs) fun x hx' => by
      obtain ⟨b, hb, rfl⟩ := hx x hx'
      obtain ⟨f, l, e, h0, h1⟩ := has15_words hb
      exact ⟨(f, l), ⟨h0, h1⟩, e⟩
    have key : ∀ x, x ∈ l.map Prod.snd → x.length * 8 ≤ 140737488355328 ∧ ∀ y, y ∈ x → 0 ≤ y ∧ y < 18446744073709551616 := fun x hx => by
      obtain ⟨p, hp, rfl⟩ := List.mem_map.1 hx
      exact hl p hp
    refine ⟨f, l.map (fun p : Bool × List Int => .sl p.1 (p.2.map uv)), l.map Prod.snd, by simp [mk, und15_s], ?_, by simp [reachBytes] at hz; simpa using (by omega), ⟨fun x hx => (key x hx).1, fun x hx => (key x hx).2⟩⟩
    simp [A.soft, softL_map, Function.comp_def, sgs, ws]
theorem has15_lim {n : Nat} {b : List A} (hb : Has Try.prog n 40 b) : ∃ p q r s : Int, mk Try.prog 40 b = liX p q r s := by
  cases n with
  | zero => exact hb.elim
  | succ n =>
    have u : Try.prog.underlying 40 = some (.struct ((Try.prog.fieldsOf 40))) := by kernel_rfl
    unfold Has at hb
    rw [u] at hb
    have e : (Try.prog.fieldsOf 40).toList.map Field.type = [3, 3, 3, 3] := by kernel_rfl
    simp only at hb
    rw [hasL_types, e] at hb
    cases n with
    | zero => obtain ⟨a, b, rfl, h, _⟩ := hb; exact h.elim
    | succ n =>
      simp only [HasT, Has, und15_i] at hb
      obtain ⟨_, _, rfl, ⟨k1, _, rfl⟩, _, _, rfl, ⟨k2, _, rfl⟩, _, _, rfl, ⟨k3, _, rfl⟩, _, _, rfl, ⟨k4, _, rfl⟩, rfl⟩ := hb
      exact ⟨k1, k2, k3, k4, by simp [mk, u]⟩
set_option maxRecDepth 100000 in
theorem said_equalGoes (xs : List A) (h : ArgsHas Try.prog Try.f4.params.toList xs) : G.Spec Try.prog 4 xs (.v (.bool true)) := by
  have h : ArgsHas Try.prog [38, 38, 38, 40] xs := h
  match xs, h with
  | [a, a', a'', a3], ⟨⟨n, b, h1, h2⟩, ⟨n', b', h1', h2'⟩, ⟨n'', b'', h1'', h2''⟩, ⟨n3, b3, h13, h23⟩, _⟩ =>
    obtain ⟨f, xs, l, e, e', k1, k2⟩ := has15_segs h1
    obtain ⟨f', xs', l', ea, ea', ka1, ka2⟩ := has15_segs h1'
    obtain ⟨f'', xs'', l'', eb, eb', kb1, kb2⟩ := has15_segs h1''
    obtain ⟨p, q, r, s, e3⟩ := has15_lim h13
    rw [h2, h2', h2'', h23, e, ea, eb, e3]
    exact (EqualGoes_spec k2 ka2 kb2 k1 ka1 kb1 p q r s).soft (by simp only [A.softL, e', ea', eb']; rfl)
end Go.Proofs.Ytigdcnlhgelkaaa

/-
  Chapter 16: tables of classes.
-/
namespace Go.Proofs.Ytigdcnlhgelkaaa
set_option linter.unusedVariables false
set_option linter.unusedSimpArgs false
open Go Go.G Go.Proofs Go.PL

/-- A class: its number of what it means; where its value lies, and what it means. -/
structure Cl where
  l : List (List Int)
  r : Rf
  t : T
noncomputable def Cl.h (c : Cl) : Int := hashN (norm c.t)
noncomputable def Cl.hn (c : Cl) : Nat := c.h.toNat
abbrev clL (h : Int) (l : List (List Int)) (r : Rf) : List A := uv h :: paL l r
noncomputable def Cl.a (c : Cl) : A := .agg (clL c.h c.l c.r)
abbrev nv (n : Nat) : A := iv (n : Int)
/-- A table: versions, classes, places. -/
structure Tb where
  u : Nat
  uc : Nat
  up : Nat
  cl : List Cl
  pl : List Nat
noncomputable def tbF (r : Nat) (S : Tb) : Nm → VOb
  | [] => ⟨S.u, .cells [.osl [r, 0] S.uc 9 0 S.cl.length, .osl [r, 1] S.up 1 0 S.pl.length]⟩
  | [0] => ⟨S.uc, .arr 9 (S.cl.map Cl.a)⟩
  | [1] => ⟨S.up, .arr 1 (S.pl.map nv)⟩
  | _ => ⟨0, .none⟩
@[simp] theorem tbF_nil {r : Nat} {S : Tb} : tbF r S [] = ⟨S.u, .cells [.osl [r, 0] S.uc 9 0 S.cl.length, .osl [r, 1] S.up 1 0 S.pl.length]⟩ := rfl
@[simp] theorem tbF_0 {r : Nat} {S : Tb} : tbF r S [0] = ⟨S.uc, .arr 9 (S.cl.map Cl.a)⟩ := rfl
@[simp] theorem tbF_1 {r : Nat} {S : Tb} : tbF r S [1] = ⟨S.up, .arr 1 (S.pl.map nv)⟩ := rfl
theorem renL_nv {g : Nm → Nm} {δ : Nm → Nat} (l : List Nat) : A.renL g δ (l.map nv) = l.map nv := by
  rw [renL_map, List.map_map]
  rfl
theorem cl_ren {g : Nm → Nm} {δ : Nm → Nat} (c : Cl) : c.a.ren g δ = c.a := by
  have : (arO c.l c.r).ren g δ = arO c.l c.r := by unfold arO; split <;> simp [A.ren, arn]
  simp [Cl.a, A.ren, A.renL, this]
theorem cl_refs {D : Nm → Prop} (c : Cl) : c.a.refs D := by
  have : (arO c.l c.r).refs D := by unfold arO; split <;> simp [A.refs, arn]
  simp [Cl.a, A.refs, A.refsL, this]
noncomputable def tbM (S : Tb) : Fam := ⟨fun r => tbF r S, fun {g δ r r'} hg hd p => by
    match p with
    | [] => simp [VOb.ren, Ob.ren, A.renL, A.ren, hg, hd]
    | [0] =>
      refine Fam.arr_ren ?_
      rw [renL_map, List.map_map]
      exact List.map_congr_left fun c _ => cl_ren c
    | [1] => exact Fam.arr_ren (renL_nv _)
    | 0 :: a :: q => rfl
    | 1 :: a :: q => rfl
    | (a + 2) :: q => rfl, fun {D r} hD p => by
    match p with
    | [] => simp [Ob.refs, A.refsL, A.refs, hD]
    | [0] =>
      refine refsL_iff.2 fun x hx => ?_
      obtain ⟨c, _, rfl⟩ := List.mem_map.1 hx
      exact cl_refs c
    | [1] =>
      refine refsL_iff.2 fun x hx => ?_
      obtain ⟨c, _, rfl⟩ := List.mem_map.1 hx
      trivial
    | 0 :: a :: q => trivial
    | 1 :: a :: q => trivial
    | (a + 2) :: q => trivial⟩
@[simp] theorem tbM_F {S : Tb} {r : Nat} : (tbM S).F r = tbF r S := rfl
theorem tbF_but {r : Nat} {S S' : Tb} {p : Nm} (h0 : p ≠ []) (h1 : p ≠ [0]) (h2 : p ≠ [1]) : tbF r S p = tbF r S' p := by
  match p, h0, h1, h2 with
  | [], h, _, _ => exact absurd rfl h
  | [0], _, h, _ => exact absurd rfl h
  | [1], _, _, h => exact absurd rfl h
  | 0 :: a :: q, _, _, _ => rfl
  | 1 :: a :: q, _, _, _ => rfl
  | (a + 2) :: q, _, _, _ => rfl

theorem tbF_pl {r u uc up : Nat} {cl : List Cl} {pl pl' : List Nat} {p : Nm} (h : p ≠ [1]) (hl : pl.length = pl'.length) : tbF r ⟨u, uc, up, cl, pl⟩ p = tbF r ⟨u, uc, up, cl, pl'⟩ p := by
  by_cases h0 : p = []
  · subst h0; simp [hl]
  · by_cases h1 : p = [0]
    · subst h1; rfl
    · exact tbF_but h0 h1 h

/-- As it is read. -/
noncomputable abbrev tbX (S : Tb) : A := .pim [.sl false (S.cl.map Cl.a), .sl false (S.pl.map nv)]
theorem frz_tb {r : Nat} {S : Tb} {H : Hp} (hF : ∀ p, H (r :: p) = tbF r S p) : Frz H (.pob [r] S.u 0) (tbX S) := by
  refine frz_pob (cs := [.osl [r, 0] S.uc 9 0 S.cl.length, .osl [r, 1] S.up 1 0 S.pl.length]) (by simp [hF]) ?_ (by simp)
  simp
  refine ⟨frz_row (l := S.cl) (f := Cl.a) (by simp [hF]) rfl fun x => ?_, frz_row (l := S.pl) (f := nv) (by simp [hF]) rfl fun x => by simp⟩
  simp [Cl.a]

structure Tb.Ok (S : Tb) : Prop where
  p8 : 8 ≤ S.pl.length
  half : 2 * S.cl.length ≤ S.pl.length
  most : S.pl.length ≤ 8 + 4 * S.cl.length
  pl : Pl (S.cl.map Cl.hn) S.pl
  means : ∀ c, c ∈ S.cl → Sg c.l ∧ Means c.l c.r c.t
  nd : (S.cl.map fun c => norm c.t).Nodup
noncomputable def Tb.ks (S : Tb) : List T := S.cl.map fun c => norm c.t
@[simp] theorem Tb.ks_length (S : Tb) : S.ks.length = S.cl.length := by simp [Tb.ks]
def newTb : Tb := ⟨1, 1, 1, [], List.replicate 8 0⟩
theorem iNew_spec : SpecF Try.prog 26 (fun _ => []) Fam.no (fun r => .pob [r] 1 0) (tbM newTb) := by
  refine specF_of t_intern_New (by simp) (by simp) famA_pob fun w0 I0 M0 m0 => ?_
  unfold c_intern_New
  simp
  refine reth_le (le_blankC (d := [0]) 0 [0, 0] 9 rfl rfl (by simp)) ?_
  simp
  refine reth_fam rfl rfl fun p => ?_
  match p with
  | [] => rfl
  | [0] => rfl
  | [1] => rfl
  | 0 :: a :: q => rfl
  | 1 :: a :: q => rfl
  | (a + 2) :: q => rfl
theorem iLen_spec (S : Tb) : G.Spec Try.prog 30 [tbX S] (nv S.cl.length) := by
  refine spec_of t_intern_Table_Len (by simp) fun w0 I0 => ?_
  unfold c_intern_Table_Len
  simp
  exact frz_is rfl (by simp)
theorem emod_nat (a m : Nat) : ((a : Int) % (m : Int)) = ((a % m : Nat) : Int) := by omega
theorem iNext_spec (S : Tb) (h : S.pl.length < 4611686018427387904) (a : Nat) (ha : a < S.pl.length) : G.Spec Try.prog 96 [tbX S, nv a] (nv ((a + 1) % S.pl.length)) := by
  refine spec_of t_intern_Table_next (by simp) fun w0 I0 => ?_
  unfold c_intern_Table_next
  have e : IntKind.i64.wrap ((a : Int) + 1) = ((a + 1 : Nat) : Int) := i64_same (by omega) (by omega)
  have hne : ¬ S.pl = [] := fun e => by rw [e] at ha; simp at ha
  simp [e, hne]
  refine frz_is rfl ?_
  have h1 : ((a : Int) + 1).tmod (S.pl.length : Int) = (((a + 1) % S.pl.length : Nat) : Int) := by
    rw [Int.tmod_eq_emod_of_nonneg (by omega)]
    have := emod_nat (a + 1) S.pl.length
    rw [Int.natCast_add] at this
    exact this
  rw [h1]

/-- Is it the class of this tree? -/
noncomputable def stopT (S : Tb) (t : T) (v : Nat) : Bool := match S.cl[v - 1]? with
  | some c => eqT c.t t
  | none => false
/-- Where the class of a tree is found, or would be. -/
noncomputable def Tb.fnd (S : Tb) (t : T) : Nat := fndP (stopT S t) S.pl S.pl.length ((hashN (norm t)).toNat % S.pl.length)
theorem Tb.Ok.lt {S : Tb} (h : S.Ok) : S.cl.length < S.pl.length := by have := h.p8; have := h.half; omega
theorem fnd_cases {S : Tb} (h : S.Ok) (t : T) : S.fnd t < S.pl.length ∧ ((∃ v, S.pl[S.fnd t]? = some (v + 1) ∧ clsI S.ks (norm t) = v ∧ v < S.cl.length) ∨ (S.pl.getD (S.fnd t) 0 = 0 ∧ clsI S.ks (norm t) = S.cl.length)) ∧
    ∃ k, S.fnd t = ((hashN (norm t)).toNat + k) % S.pl.length ∧ ∀ e, e < k → S.pl.getD (((hashN (norm t)).toNat + e) % S.pl.length) 0 ≠ 0 := by
  have hlt := h.lt
  obtain ⟨h1, h2, k, h3, h4⟩ := fndP_mod (stop := stopT S t) (x := (hashN (norm t)).toNat) h.pl (by simpa using hlt)
  refine ⟨h1, ?_, k, h3, fun e he => (h4 e he).1⟩
  change S.fnd t < _ at h1
  change S.pl.getD (S.fnd t) 0 = 0 ∨ stopT S t (S.pl.getD (S.fnd t) 0) = true at h2
  change S.fnd t = _ at h3
  by_cases h0 : S.pl.getD (S.fnd t) 0 = 0
  · refine .inr ⟨h0, ?_⟩
    rw [← Tb.ks_length]
    refine clsI_none fun hn => ?_
    simp only [Tb.ks, List.mem_map] at hn
    obtain ⟨c, hc, e⟩ := hn
    obtain ⟨i, hi, rfl⟩ := List.mem_iff_getElem.1 hc
    obtain ⟨d, g1, g2⟩ := h.pl.reach i (by simpa using hi)
    have eh : (S.cl.map Cl.hn)[i]'(by simpa using hi) = (hashN (norm t)).toNat := by simp [Cl.hn, Cl.h, e]
    rw [eh] at g1
    have g2' : ∀ e, e < d → S.pl.getD (((hashN (norm t)).toNat + e) % S.pl.length) 0 ≠ 0 := fun e' he' => by have := g2 e' he'; rwa [eh] at this
    rcases Nat.lt_trichotomy d k with hd | hd | hd
    · have := (h4 d hd).2
      rw [List.getD_eq_getElem?_getD, g1] at this
      simp [stopT, hi] at this
      rw [eqT_iff.2 e] at this
      cases this
    · subst hd
      rw [h3, List.getD_eq_getElem?_getD, g1] at h0
      simp at h0
    · exact g2' k hd (by rw [← h3]; exact h0)
  · have h2 := h2.resolve_left h0
    rw [List.getD_eq_getElem?_getD, List.getElem?_eq_getElem h1] at h0 h2
    simp only [Option.getD_some] at h0 h2
    have hv := h.pl.vals _ (List.getElem_mem h1)
    rw [List.length_map] at hv
    have hvl : S.pl[S.fnd t] - 1 < S.cl.length := by omega
    simp [stopT, hvl] at h2
    refine .inl ⟨S.pl[S.fnd t] - 1, by rw [List.getElem?_eq_getElem h1]; congr 1; omega, ?_, hvl⟩
    exact clsI_at (ks := S.ks) (by simpa using hvl) (by simp [Tb.ks, eqT_iff.1 h2]) h.nd
noncomputable def growT (S : Tb) : Tb := { S with up := S.up + 1, pl := growP (List.replicate (2 * S.pl.length) 0) 0 (S.cl.map Cl.hn) }
noncomputable def addT (S : Tb) (l : List (List Int)) (r : Rf) (t : T) : Tb := { S with uc := S.uc + 1, cl := S.cl ++ [⟨l, r, t⟩], pl := S.pl.set (S.fnd t) (S.cl.length + 1) }
noncomputable def clsS (S : Tb) (l : List (List Int)) (r : Rf) (t : T) : Tb :=
  if clsI S.ks (norm t) < S.cl.length then S else if S.pl.length < 2 * (S.cl.length + 1) then growT (addT S l r t) else addT S l r t
/-- But for its room. -/
structure Tb.Ok1 (S : Tb) : Prop where
  p8 : 8 ≤ S.pl.length
  half : 2 * S.cl.length ≤ S.pl.length + 2
  most : S.pl.length ≤ 8 + 4 * S.cl.length
  pl : Pl (S.cl.map Cl.hn) S.pl
  means : ∀ c, c ∈ S.cl → Sg c.l ∧ Means c.l c.r c.t
  nd : (S.cl.map fun c => norm c.t).Nodup
theorem addT_ok {S : Tb} (h : S.Ok) {l : List (List Int)} {r : Rf} {t : T} (hs : Sg l) (hm : Means l r t) (hn : clsI S.ks (norm t) = S.cl.length) : (addT S l r t).Ok1 := by
  obtain ⟨h1, h2, k, h3, h4⟩ := fnd_cases h t
  have h0 : S.pl.getD (S.fnd t) 0 = 0 := by
    rcases h2 with ⟨v, _, e, hv⟩ | ⟨h0, _⟩
    · omega
    · exact h0
  have p8 := h.p8
  have half := h.half
  have most := h.most
  refine ⟨by simpa [addT] using p8, by simp [addT]; omega, by simp [addT]; omega, ?_, fun c hc => ?_, ?_⟩
  · have := h.pl.ins h1 h0 h3 h4
    simpa [addT, Cl.hn, Cl.h] using this
  · simp only [addT, List.mem_append, List.mem_singleton] at hc
    rcases hc with hc | rfl
    · exact h.means c hc
    · exact ⟨hs, hm⟩
  · simp only [addT, List.map_append, List.map_cons, List.map_nil]
    rw [List.nodup_append]
    refine ⟨h.nd, by simp, fun a ha b hb => ?_⟩
    simp at hb
    subst hb
    rintro rfl
    have : clsI S.ks (norm t) < S.ks.length := clsI_lt.2 ha
    simp at this
    omega
theorem growT_ok {S : Tb} (h : S.Ok1) (hf : S.pl.length < 2 * S.cl.length) : (growT S).Ok := by
  have p8 := h.p8
  have half := h.half
  have most := h.most
  have hl : (growT S).pl.length = 2 * S.pl.length := by simp [growT, growP_length]
  refine ⟨by rw [hl]; omega, by rw [hl]; show 2 * S.cl.length ≤ _; omega, by rw [hl]; show _ ≤ 8 + 4 * S.cl.length; omega, ?_, h.means, h.nd⟩
  have := Pl.grow (hs2 := S.cl.map Cl.hn) (Pl.nil (2 * S.pl.length)) (by simp; omega)
  simpa [growT] using this
theorem Tb.Ok1.ok {S : Tb} (h : S.Ok1) (hf : ¬ S.pl.length < 2 * S.cl.length) : S.Ok := ⟨h.p8, by omega, h.most, h.pl, h.means, h.nd⟩
theorem addT_cl {S : Tb} {l : List (List Int)} {r : Rf} {t : T} : (addT S l r t).cl.length = S.cl.length + 1 := by simp [addT]
theorem addT_pl {S : Tb} {l : List (List Int)} {r : Rf} {t : T} : (addT S l r t).pl.length = S.pl.length := by simp [addT]
theorem clsS_ok {S : Tb} (h : S.Ok) {l : List (List Int)} {r : Rf} {t : T} (hs : Sg l) (hm : Means l r t) : (clsS S l r t).Ok := by
  unfold clsS
  split
  · exact h
  · rename_i hn
    have hle := clsI_le S.ks (norm t)
    have he : clsI S.ks (norm t) = S.cl.length := by simp at hle; omega
    have h1 := addT_ok h hs hm he
    split
    · exact growT_ok h1 (by rw [addT_cl, addT_pl]; assumption)
    · exact h1.ok (by rw [addT_cl, addT_pl]; assumption)
theorem clsS_ks {S : Tb} {l : List (List Int)} {r : Rf} {t : T} : (clsS S l r t).ks = clsK S.ks (norm t) := by
  unfold clsS clsK
  rw [Tb.ks_length]
  split
  · rfl
  · split <;> simp [Tb.ks, growT, addT]
theorem clsS_u {S : Tb} {l : List (List Int)} {r : Rf} {t : T} : (clsS S l r t).u = S.u := by
  unfold clsS
  split
  · rfl
  · split <;> rfl
section
variable {n0 : Nat} {w0 : World} {I0 : Nat → Prop} {Q : Exit → Sta → Prop}
noncomputable abbrev nextV (S : Tb) : A := .fnc 96 [tbX S] []
set_option pp.deepTerms true in
set_option pp.maxSteps 1000000 in
theorem find_l1 {S : Tb} (hS : S.Ok) (hb : S.cl.length ≤ 1000000) {l : List (List Int)} (hs : Sg l) {r : Rf} {t : T} (hm : Means l r t) : ∀ (f a d : Nat) (H : Hp), a < S.pl.length → d < f → S.pl.getD ((a + d) % S.pl.length) 0 = 0 → H [0] = ⟨1, .cells (paL l r)⟩ →
    (∀ H', S.pl.getD (fndP (stopT S t) S.pl f a) 0 = 0 → Q (.exit 0) ⟨lk [(0, tbX S), (1, uv (hashN (norm t))), (5, .pob [0] 1 0), (8, nextV S), (9, nv (fndP (stopT S t) S.pl f a)), (31, bv false)], H'⟩) →
    (∀ H', Q .ret ⟨lk [(6, nv (fndP (stopT S t) S.pl f a)), (7, iv 0)], H'⟩) →
    LoopC (cx Try.prog w0 I0 n0) l1_intern_Table_find Q ⟨lk [(0, tbX S), (1, uv (hashN (norm t))), (5, .pob [0] 1 0), (8, nextV S), (9, nv a)], H⟩ := by
  have hp8 := hS.p8
  have hmost := hS.most
  intro f
  induction f with
  | zero => intro a d H _ h; omega
  | succ f ih =>
    intro a d H ha hd hz hA hq hq2
    have ha' : (a : Int) < S.pl.length := by omega
    refine loopC_once mixed l1_intern_Table_find.eq_1 ?_
    have hg : S.pl.getD a 0 = S.pl[a] := by simp [ha]
    by_cases h0 : S.pl[a] = 0
    · simp [ha, h0]
      have e : fndP (stopT S t) S.pl (f + 1) a = a := by rw [fndP, if_pos (by rw [hg]; exact h0)]
      rw [e] at hq
      exact hq H (by rw [hg]; exact h0)
    · have hd0 : d ≠ 0 := fun e => by
        subst e
        rw [Nat.add_zero, Nat.mod_eq_of_lt ha, hg] at hz
        exact h0 hz
      obtain ⟨d, rfl⟩ : ∃ d', d = d' + 1 := ⟨d - 1, by omega⟩
      have hv := hS.pl.vals _ (List.getElem_mem ha)
      rw [List.length_map] at hv
      obtain ⟨v, hv1⟩ : ∃ v, S.pl[a] = v + 1 := ⟨S.pl[a] - 1, by omega⟩
      have hvl : v < S.cl.length := by omega
      have hvl' : (v : Int) < S.cl.length := by omega
      have hpos : (0 : Int) < (v : Int) + 1 := by omega
      have e1 : IntKind.i64.wrap ((v : Int) + 1 - 1) = v := (i64_same (by omega) (by omega)).trans (by omega)
      have e2 : IntKind.i64.wrap (v : Int) = v := i64_same (by omega) (by omega)
      have hst : stopT S t (S.pl.getD a 0) = eqT S.cl[v].t t := by rw [hg, hv1]; simp [stopT, hvl]
      have ef : fndP (stopT S t) S.pl (f + 1) a = if eqT S.cl[v].t t = true then a else fndP (stopT S t) S.pl f ((a + 1) % S.pl.length) := by
        rw [fndP, if_neg (by rw [hg]; exact h0), hst]
      have ihn := ih ((a + 1) % S.pl.length) d
      rw [mod_succ] at ihn
      obtain ⟨hcs, hcm⟩ := hS.means _ (List.getElem_mem hvl)
      have hnx := iNext_spec S (by omega) a ha
      simp [ha, hv1, hpos, e1, e2, hvl, Cl.a]
      have go : eqT S.cl[v].t t = false → ∀ H2 : Hp, H2 [0] = ⟨1, .cells (paL l r)⟩ → LoopC (cx Try.prog w0 I0 n0) l1_intern_Table_find Q ⟨lk [(0, tbX S), (1, uv (hashN (norm t))), (5, .pob [0] 1 0), (8, nextV S), (9, nv ((a + 1) % S.pl.length))], H2⟩ := fun he H2 h2 => by
        rw [ef, he] at hq hq2
        exact ihn H2 (Nat.mod_lt _ (by omega)) (by omega) hz h2 hq hq2
      refine ⟨fun hh => ?_, fun hh => ?_⟩
      · simp [updF_app, hA]
        refine sc_call (values_spec hcs hs _ _ _ _ hcm hm) (by simp) ?_
        cases hq' : eqT S.cl[v].t t with
        | true =>
          rw [ef, hq', if_pos rfl] at hq2
          simp
          exact hq2 _
        | false =>
          simp
          refine sc_callv rfl hnx (by simp) ?_
          simp
          exact go hq' _ (by simp [updF_app, hA])
      · refine sc_callv rfl hnx (by simp) ?_
        have he : eqT S.cl[v].t t = false := by
          rw [Bool.eq_false_iff]
          intro e
          exact hh (by simp [Cl.h, eqT_iff.1 e])
        simp
        exact go he _ (by simp [updF_app, hA])
end
theorem iFind_spec {S : Tb} (hS : S.Ok) (hb : S.cl.length ≤ 1000000) {l : List (List Int)} (hs : Sg l) {r : Rf} {t : T} (hm : Means l r t) (hh : u64R (hashN (norm t))) : G.Spec Try.prog 65 [tbX S, uv (hashN (norm t)), paX l r] (.tup [nv (S.fnd t), iv 0]) := by
  have hp8 := hS.p8
  have hmost := hS.most
  refine spec_of t_intern_Table_find (by simp) fun w0 I0 => ?_
  unfold c_intern_Table_find
  obtain ⟨d, h1, h2⟩ := hS.pl.free (by simpa using hS.lt) ((hashN (norm t)).toNat % S.pl.length)
  have eu : IntKind.u64.wrap (S.pl.length : Int) = S.pl.length := u64_same (by omega) (by omega)
  have hne : ¬ S.pl = [] := fun e => by rw [e] at hp8; simp at hp8
  have et : IntKind.i64.wrap ((hashN (norm t)).tmod (S.pl.length : Int)) = (((hashN (norm t)).toNat % S.pl.length : Nat) : Int) := by
    rw [Int.tmod_eq_emod_of_nonneg hh.1]
    obtain ⟨n, hn⟩ := Int.eq_ofNat_of_zero_le hh.1
    rw [hn, emod_nat]
    have := Nat.mod_lt n (show 0 < S.pl.length by omega)
    exact i64_same (by omega) (by omega)
  have hlt : (hashN (norm t)).toNat % S.pl.length < S.pl.length := Nat.mod_lt _ (by omega)
  unfold Tb.fnd
  generalize (hashN (norm t)).toNat % S.pl.length = a at et hlt h2
  simp [eu, hne, et]
  refine find_l1 hS hb hs hm S.pl.length a d _ hlt h1 h2 (by simp) (fun H' _ => ?_) fun H' => ?_
  · simp
    exact frz_bare rfl
  · simp
    exact frz_bare rfl
end Go.Proofs.Ytigdcnlhgelkaaa

/-
  Chapter 16: a table grows; the class of a value.
-/
namespace Go.Proofs.Ytigdcnlhgelkaaa
set_option linter.unusedVariables false
set_option linter.unusedSimpArgs false
open Go Go.G Go.Proofs Go.PL

theorem hash_mod {h : Int} (h0 : u64R h) {m : Nat} (hm : 0 < m) (hm2 : m < 4611686018427387904) : IntKind.i64.wrap (h.tmod (m : Int)) = ((h.toNat % m : Nat) : Int) := by
  rw [Int.tmod_eq_emod_of_nonneg h0.1]
  obtain ⟨n, hn⟩ := Int.eq_ofNat_of_zero_le h0.1
  rw [hn, emod_nat]
  have := Nat.mod_lt n hm
  exact i64_same (by omega) (by omega)
section
variable {n0 : Nat} {w0 : World} {I0 M0 : Nat → Prop} {m0 : Mu} {Q : Exit → Sta → Prop}
theorem grow_l1 {S : Tb} (hb : S.pl.length < 4611686018427387904) {i n uc : Nat} {k : Int} : ∀ (f a d : Nat) (H : Hp), (∀ p, H (0 :: p) = tbF 0 S p) → a < S.pl.length → d < f → S.pl.getD ((a + d) % S.pl.length) 0 = 0 →
    Q (.exit 2) ⟨lk [(0, .pob [0] S.u 0), (2, iv k), (4, nv (fndP (fun _ => false) S.pl f a)), (18, .osl [0, 0] uc 9 0 n), (19, nv n), (20, nv i), (42, bv false)], H⟩ →
    LoopC (cxh Try.prog w0 I0 M0 n0 m0) l1_intern_Table_grow Q ⟨lk [(0, .pob [0] S.u 0), (2, iv k), (4, nv a), (18, .osl [0, 0] uc 9 0 n), (19, nv n), (20, nv i)], H⟩ := by
  intro f
  induction f with
  | zero => intro a d H _ _ h; omega
  | succ f ih =>
    intro a d H hH ha hd hz hq
    have ha' : (a : Int) < S.pl.length := by omega
    refine loopC_once mixed l1_intern_Table_grow.eq_1 ?_
    have hg : S.pl.getD a 0 = S.pl[a] := by simp [ha]
    by_cases h0 : S.pl[a] = 0
    · simp [ha, h0, hH]
      have e : fndP (fun _ => false) S.pl (f + 1) a = a := by rw [fndP, if_pos (by rw [hg]; exact h0)]
      rw [e] at hq
      exact hq
    · have hd0 : d ≠ 0 := fun e => by
        subst e
        rw [Nat.add_zero, Nat.mod_eq_of_lt ha, hg] at hz
        exact h0 hz
      obtain ⟨d, rfl⟩ : ∃ d', d = d' + 1 := ⟨d - 1, by omega⟩
      have hpos : (0 : Int) < S.pl[a] := by omega
      have hpos' : 0 < S.pl[a] := by omega
      have ef : fndP (fun _ => false) S.pl (f + 1) a = fndP (fun _ => false) S.pl f ((a + 1) % S.pl.length) := by
        rw [fndP, if_neg (by rw [hg]; exact h0)]
        simp
      rw [ef] at hq
      simp [ha, hpos', hH]
      refine sc_callb [tbX S, nv a] ((iNext_spec S hb a ha).toB rfl) (by simp; exact ⟨frz_tb hH, frz_bare rfl⟩) (by simp) ?_
      simp
      exact ih ((a + 1) % S.pl.length) d H hH (Nat.mod_lt _ (by omega)) (by omega) (by rw [mod_succ]; exact hz) hq
theorem grow_l2 {cl : List Cl} {u uc up m : Nat} (hc : cl.length ≤ 1000000) (hb : m < 4611686018427387904) (hm : cl.length < m) (hh : ∀ c, c ∈ cl → u64R c.h) : ∀ (j i : Nat) (pl : List Nat) (H : Hp), i + j = cl.length → pl.length = m → Pl ((cl.take i).map Cl.hn) pl → (∀ p, H (0 :: p) = tbF 0 ⟨u, uc, up, cl, pl⟩ p) →
    (∀ (q : Bool) (H' : Hp), (∀ p, H' (0 :: p) = tbF 0 ⟨u, uc, up, cl, growP pl i ((cl.drop i).map Cl.hn)⟩ p) → Q (.exit 0) ⟨lk [(0, .pob [0] u 0), (18, .osl [0, 0] uc 9 0 cl.length), (19, nv cl.length), (20, nv cl.length), (21, bv q)], H'⟩) →
    LoopC (cxh Try.prog w0 I0 M0 n0 m0) l2_intern_Table_grow Q ⟨lk [(0, .pob [0] u 0), (18, .osl [0, 0] uc 9 0 cl.length), (19, nv cl.length), (20, nv i)], H⟩ := by
  intro j
  induction j with
  | zero =>
    intro i pl H hi hl hpl hH hq
    have : i = cl.length := by omega
    subst this
    refine loopC_once mixed l2_intern_Table_grow.eq_1 ?_
    simp
    exact hq _ H (by simpa [growP] using hH)
  | succ j ih =>
    intro i pl H hi hl hpl hH hq
    have hlt : i < cl.length := by omega
    have hlt' : (i : Int) < cl.length := by omega
    have hpos : 0 < pl.length := by omega
    have hne : ¬ pl = [] := fun e => by rw [e] at hpos; simp at hpos
    have eu : IntKind.u64.wrap (pl.length : Int) = pl.length := u64_same (by omega) (by omega)
    have hck := hh _ (List.getElem_mem hlt)
    have et := hash_mod hck hpos (by omega)
    have ei : IntKind.i64.wrap ((i : Int) + 1) = ((i + 1 : Nat) : Int) := i64_same (by omega) (by omega)
    refine loopC_once mixed l2_intern_Table_grow.eq_1 ?_
    obtain ⟨d, f1, f2⟩ := hpl.free (by simp; omega) (cl[i].h.toNat % pl.length)
    have ha : cl[i].h.toNat % pl.length < pl.length := Nat.mod_lt _ hpos
    have hins : insP pl cl[i].hn (i + 1) = pl.set (fndP (fun _ => false) pl pl.length (cl[i].h.toNat % pl.length)) (i + 1) := rfl
    have hpl2 := hpl.insP (by simp; omega) cl[i].hn
    have htk : (cl.take (i + 1)).map Cl.hn = (cl.take i).map Cl.hn ++ [cl[i].hn] := by rw [List.take_succ_eq_append_getElem hlt, List.map_append]; rfl
    have hlen : ((cl.take i).map Cl.hn).length + 1 = i + 1 := by simp; omega
    rw [hlen, ← htk] at hpl2
    have hgr : growP pl i ((cl.drop i).map Cl.hn) = growP (insP pl cl[i].hn (i + 1)) (i + 1) ((cl.drop (i + 1)).map Cl.hn) := by rw [List.drop_eq_getElem_cons hlt, List.map_cons, growP]
    rw [hgr] at hq
    have f3 := (fndP_spec (stop := fun _ => false) pl.length (cl[i].h.toNat % pl.length) d ha f1 f2).1
    rw [hins] at hpl2 hq
    generalize cl[i].h.toNat % pl.length = a at et ha f2 f3 hpl2 hq
    simp [hlt, hH, updF_app, Cl.a, eu, hne, et]
    refine grow_l1 (S := ⟨u, uc, up, cl, pl⟩) (by simpa using (by omega)) pl.length a d _ (fun p => by simp [updF_app, hH]) ha f1 f2 ?_
    generalize fndP (fun _ => false) pl pl.length a = b at f3 hpl2 hq
    have f3' : (b : Int) < pl.length := by omega
    simp [f3, hH, updF_app, ei]
    refine ih (i + 1) (pl.set b (i + 1)) _ (by omega) (by simpa using hl) hpl2 (fun p => ?_) hq
    by_cases hp : p = [1]
    · subst hp
      simp [updF_app, List.map_set]
      rfl
    · simp [updF_app, hp, hH]
      exact tbF_pl hp (by simp)
end
theorem iGrow_spec {S : Tb} (hc : S.cl.length ≤ 1000000) (hb : S.pl.length ≤ 8000000) (hm : S.cl.length < 2 * S.pl.length) (hh : ∀ c, c ∈ S.cl → u64R c.h) : SpecF Try.prog 66 (fun r => [.pob [r] S.u 0]) (tbM S) (fun _ => .tup []) (tbM (growT S)) := by
  refine specF_of t_intern_Table_grow (by simp) (by simp) (by simp) fun w0 I0 M0 m0 => ?_
  unfold c_intern_Table_grow
  have e2 : IntKind.i64.wrap (2 * (S.pl.length : Int)) = ((2 * S.pl.length : Nat) : Int) := (i64_same (by omega) (by omega)).trans (by simp)
  have e3 : (2 * (S.pl.length : Int)).toNat = 2 * S.pl.length := by omega
  simp [e2, e3, updF_app]
  refine ⟨⟨by omega, by omega⟩, ?_⟩
  refine grow_l2 (cl := S.cl) (u := S.u) (uc := S.uc) (up := S.up + 1) (m := 2 * S.pl.length) hc (by omega) hm hh S.cl.length 0 (List.replicate (2 * S.pl.length) 0) _ (by omega) (by simp) (by simpa using Pl.nil _) (fun p => ?_) (fun q H' hH' => ?_)
  · simp only [ov_cons, if_true]
    refine updF_is ?_ (fun h1 => updF_is ?_ (fun h2 => ?_))
    · simp
    · simp
    · by_cases h3 : p = [0]
      · subst h3; rfl
      · exact tbF_but h1 h3 h2
  · simp
    exact reth_famN rfl rfl fun p => hH' p
theorem u64_wrap_in (x : Int) : u64R (IntKind.u64.wrap x) := by
  rw [IntKind.wrap_u64]
  unfold u64R
  omega
theorem mixH_in (h x : Int) : u64R (mixH h x) := u64_wrap_in _
theorem foldl_in : ∀ (w : List Int) (h : Int), u64R h → u64R (w.foldl mixH h)
  | [], _, h => h
  | x :: w, _, _ => foldl_in w _ (mixH_in _ _)
mutual
theorem hashN_in : ∀ t : T, u64R (hashN t)
  | .mk k w l => by rw [hashN]; exact hashL_in l _ (foldl_in _ _ (mixH_in _ _))
theorem hashL_in : ∀ (l : List T) (h : Int), u64R h → u64R (hashL h l)
  | [], _, h => by rw [hashL]; exact h
  | t :: l, _, _ => by rw [hashL]; exact hashL_in l _ (mixH_in _ _)
end
theorem famL_ref (l : List (List Int)) (r : Rf) : FamA (fun _ => paX l r) := famA_bare rfl fun x hx => by
  simp at hx
  rcases hx with rfl | rfl | rfl | rfl | rfl | rfl | rfl | rfl <;> simp
theorem iClass_spec {S : Tb} (hS : S.Ok) (hb : S.cl.length ≤ 100000) {l : List (List Int)} (hs : Sg l) {r : Rf} {t : T} (hm : Means l r t) :
    SpecF Try.prog 27 (fun q => [.pob [q] S.u 0, paX l r]) (tbM S) (fun _ => .tup [nv (clsI S.ks (norm t)), iv 0]) (tbM (clsS S l r t)) := by
  refine specF_of t_intern_Table_Class (by simp) (famL_cons famA_pob (famL_cons (famL_ref l r) famL_nil)) (famA_tup (famL_cons famA_v (famL_cons famA_v famL_nil))) fun w0 I0 M0 m0 => ?_
  unfold c_intern_Table_Class
  have hp8 := hS.p8
  have hmost := hS.most
  have hhalf := hS.half
  have hr := hashN_in
  obtain ⟨f1, f2, _⟩ := fnd_cases hS t
  simp
  refine sc_call (hash_spec hs _ _ hm) (by simp) ?_
  simp
  refine sc_callb [tbX S, uv (hashN (norm t)), paX l r] ((iFind_spec hS (by omega) hs hm (hr _)).toB rfl) (by simp; exact ⟨frz_tb (fun p => by simp), frz_bare rfl, frz_bare (by simp)⟩) (by simp) ?_
  have f1' : (S.fnd t : Int) < S.pl.length := by omega
  rcases f2 with ⟨v, g1, g2, g3⟩ | ⟨g1, g2⟩
  · have e1 : IntKind.i64.wrap ((v : Int) + 1 - 1) = v := (i64_same (by omega) (by omega)).trans (by omega)
    have hpos : (0 : Int) < (v : Int) + 1 := by omega
    have e1b : IntKind.i64.wrap (v : Int) = v := i64_same (by omega) (by omega)
    have hcs : clsS S l r t = S := by simp [clsS, g2, g3]
    have g1' : S.pl[S.fnd t] = v + 1 := by rw [List.getElem?_eq_getElem f1] at g1; exact Option.some.inj g1
    simp [f1, g1', hpos, e1, e1b, hcs, g2]
    exact reth_fam rfl rfl fun p => rfl
  · have g1' : S.pl[S.fnd t] = 0 := by
      rw [List.getD_eq_getElem?_getD, List.getElem?_eq_getElem f1] at g1
      simpa using g1
    have e8 : IntKind.i64.wrap ((S.cl.length : Int) + 1 - 1) = S.cl.length := (i64_same (by omega) (by omega)).trans (by omega)
    have e9 : IntKind.i64.wrap (S.cl.length : Int) = S.cl.length := i64_same (by omega) (by omega)
    have hfam : ∀ p, (updF (updF (updF (tbF 0 S) [0] ⟨S.uc + 1, .arr 9 (S.cl.map Cl.a ++ [.agg [uv (hashN (norm t)), arO l r, iv r.kind, iv r.s, iv r.at_, iv r.data, iv r.kids, iv r.count, uv r.n]])⟩) [] ⟨S.u, .cells [.osl [0, 0] (S.uc + 1) 9 0 (S.cl.length + 1), .osl [0, 1] S.up 1 0 S.pl.length]⟩) [1] ⟨S.up, .arr 1 ((S.pl.map nv).set (S.fnd t) (iv ((S.cl.length : Int) + 1)))⟩ : Nm → VOb) p = tbF 0 (addT S l r t) p := fun p => by
      refine updF_is ?_ (fun h1 => updF_is ?_ (fun h2 => updF_is ?_ (fun h3 => ?_)))
      · simp [addT, List.map_set]
        rfl
      · simp [addT]
      · simp [addT, Cl.a, Cl.h]
      · exact tbF_but h2 h3 h1
    have ew : IntKind.i64.wrap ((S.cl.length : Int) + 1) = (S.cl.length : Int) + 1 := i64_same (by omega) (by omega)
    have ew2 : IntKind.i64.wrap (2 * ((S.cl.length : Int) + 1)) = 2 * ((S.cl.length : Int) + 1) := i64_same (by omega) (by omega)
    have hle : (S.cl.length + 1) * 72 ≤ 140737488355328 := by omega
    simp [f1, g1', updF_app, List.take_of_length_le, hle, ew, ew2]
    refine ⟨fun hf => ?_, fun hf => ?_⟩
    · have hok := addT_ok hS hs hm g2
      have hcs : clsS S l r t = growT (addT S l r t) := by
        unfold clsS
        rw [if_neg (by omega), if_pos (by omega)]
      have hcl : (growT (addT S l r t)).cl.length = S.cl.length + 1 := by simp [growT, addT]
      have hu : (growT (addT S l r t)).u = S.u := rfl
      refine sc_fam 0 (iGrow_spec (S := addT S l r t) (by rw [addT_cl]; omega) (by rw [addT_pl]; omega) (by rw [addT_cl, addT_pl]; omega) (fun c _ => hr _)) (fun p => hfam p) rfl (by simp) ?_
      rw [hcs]
      simp
      unfold k1_intern_Table_Class
      simp [hu, hcl, e8, e9]
      exact reth_fam rfl (by simp [g2]) fun p => rfl
    · have hcs : clsS S l r t = addT S l r t := by
        unfold clsS
        rw [if_neg (by omega), if_neg (by omega)]
      rw [hcs]
      unfold k1_intern_Table_Class
      simp [updF_app, e8, e9]
      exact reth_fam rfl (by simp [g2]) fun p => hfam p
end Go.Proofs.Ytigdcnlhgelkaaa

/-
  Chapter 14: a copier; what is given, and pointed to.
-/
namespace Go.Proofs.Ytigdcnlhgelkaaa
set_option linter.unusedVariables false
set_option linter.unusedSimpArgs false
open Go Go.G Go.Proofs Go.PL

/-- A copier: its row's version, its words. -/
structure Cp where
  v : Nat
  W : List Int
def cpF (m : Int) (r : Nat) (S : Cp) : Nm → VOb
  | [] => ⟨1, .cells [.osl [r, 0] S.v 1 0 S.W.length, iv m]⟩
  | [0] => ⟨S.v, .arr 1 (S.W.map uv)⟩
  | _ => ⟨0, .none⟩
@[simp] theorem cpF_nil {m : Int} {r : Nat} {S : Cp} : cpF m r S [] = ⟨1, .cells [.osl [r, 0] S.v 1 0 S.W.length, iv m]⟩ := rfl
@[simp] theorem cpF_0 {m : Int} {r : Nat} {S : Cp} : cpF m r S [0] = ⟨S.v, .arr 1 (S.W.map uv)⟩ := rfl
theorem cpF_but {m m' : Int} {r : Nat} {S S' : Cp} {p : Nm} (h0 : p ≠ []) (h1 : p ≠ [0]) : cpF m r S p = cpF m' r S' p := by
  match p, h0, h1 with
  | [], h, _ => exact absurd rfl h
  | [0], _, h => exact absurd rfl h
  | 0 :: a :: q, _, _ => rfl
  | (a + 1) :: q, _, _ => rfl
theorem renL_uv {g : Nm → Nm} {δ : Nm → Nat} (l : List Int) : A.renL g δ (l.map uv) = l.map uv := by
  rw [renL_map, List.map_map]
  rfl
def cpM (m : Int) (S : Cp) : Fam := ⟨fun r => cpF m r S, fun {g δ r r'} hg hd p => by
    match p with
    | [] => simp [VOb.ren, Ob.ren, A.renL, A.ren, hg, hd]
    | [0] => exact Fam.arr_ren (renL_uv _)
    | 0 :: a :: q => rfl
    | (a + 1) :: q => rfl, fun {D r} hD p => by
    match p with
    | [] => simp [Ob.refs, A.refsL, A.refs, hD]
    | [0] =>
      refine refsL_iff.2 fun x hx => ?_
      obtain ⟨c, _, rfl⟩ := List.mem_map.1 hx
      trivial
    | 0 :: a :: q => trivial
    | (a + 1) :: q => trivial⟩
@[simp] theorem cpM_F {m : Int} {S : Cp} {r : Nat} : (cpM m S).F r = cpF m r S := rfl

def okG (m : Int) (S : Cp) (n : Nat) : Bool := decide ((S.W.length : Int) + n ≤ m)
def giveC (m : Int) (S : Cp) (n : Nat) : Cp := if okG m S n = true then ⟨S.v + 1, S.W ++ List.replicate n 0⟩ else S
theorem cGive_spec {m : Int} (hm0 : 0 ≤ m) (hm : m ≤ 131072) (S : Cp) (hS : (S.W.length : Int) ≤ 131072) (n : Nat) (hn : n ≤ 100000000000000) : SpecF Try.prog 74 (fun r => [.pob [r] 1 0, nv n]) (cpM m S) (fun _ => .tup [nv (if okG m S n = true then S.W.length else 0), bv (okG m S n)]) (cpM m (giveC m S n)) := by
  refine specF_of t_copy_copier_give (by simp) (famL_cons famA_pob (famL_cons famA_v famL_nil)) (famA_tup (famL_cons famA_v (famL_cons famA_v famL_nil))) fun w0 I0 M0 m0 => ?_
  unfold c_copy_copier_give
  have hw : IntKind.i64.wrap (m - S.W.length) = m - S.W.length := i64_same (by omega) (by omega)
  cases hk : okG m S n with
  | false =>
    have hlt : m - (S.W.length : Int) < n := by simp [okG] at hk; omega
    have hg : giveC m S n = S := by simp [giveC, hk]
    simp [hw, hlt, hg, updF_app]
    exact reth_fam rfl rfl fun p => rfl
  | true =>
    have hlt : ¬ m - (S.W.length : Int) < n := by simp [okG] at hk; omega
    have hle : (S.W.length + n) * 8 ≤ 140737488355328 := by simp [okG] at hk; omega
    have hn1 : (n : Int) * 8 ≤ 140737488355328 := by simp [okG] at hk; omega
    have hg : giveC m S n = ⟨S.v + 1, S.W ++ List.replicate n 0⟩ := by simp [giveC, hk]
    simp [hw, hlt, hg, updF_app, hle, hn1]
    refine reth_fam rfl rfl fun p => ?_
    refine updF_is ?_ (fun h1 => updF_is ?_ (fun h2 => cpF_but h1 h2))
    · simp
    · simp [List.take_of_length_le]
theorem giveC_yes {m : Int} {S : Cp} {n : Nat} (h : (S.W.length : Int) + n ≤ m) : okG m S n = true ∧ giveC m S n = ⟨S.v + 1, S.W ++ List.replicate n 0⟩ := by
  have : okG m S n = true := by simp [okG, h]
  exact ⟨this, by simp [giveC, this]⟩
theorem giveC_no {m : Int} {S : Cp} {n : Nat} (h : ¬ (S.W.length : Int) + n ≤ m) : okG m S n = false ∧ giveC m S n = S := by
  have : okG m S n = false := by simp [okG]; omega
  exact ⟨this, by simp [giveC, this]⟩

/-- The pointer that is laid. -/
def ptQ (p : Pt) (at_ to : Int) : Pt := { p with off := if p.kind = 1 ∧ p.data + p.ptrs = 0 then -1 else to - at_ - 1 }
abbrev ptL (p : Pt) : List A := [iv p.kind, iv p.off, iv p.data, iv p.ptrs, iv p.code, iv p.count, iv p.seg, bv p.dbl]
theorem point_k1 {n : Nat} {w0 : World} {I0 M0 : Nat → Prop} {m0 : Mu} {m : Int} {S : Cp} {q : Pt} {a : Nat} (ha : a < S.W.length) {H : Hp} (hH : ∀ p, H (0 :: p) = cpF m 0 S p) (hP : H [1] = ⟨1, .cells (ptL q)⟩) :
    WPC (cxh Try.prog w0 I0 M0 n m0) k1_copy_copier_point (RetH (cxh Try.prog w0 I0 M0 n m0) [] 1 (.tup []) (ov 0 (cpF m 0 ⟨S.v, S.W.set a (encW q)⟩) (lkH []))) ⟨lk [(0, .pob [0] 1 0), (1, nv a), (7, .pob [1] 1 0)], H⟩ := by
  unfold k1_copy_copier_point
  have ha' : (a : Int) < S.W.length := by omega
  simp [hP, hH]
  refine sc_call (Encode_spec q) (by simp) ?_
  simp [hH, ha]
  refine reth_famN rfl rfl fun p => ?_
  by_cases h0 : p = [0]
  · subst h0
    simp [updF_app, List.map_set]
  · by_cases h1 : p = []
    · subst h1
      simp [updF_app, hH]
    · simp only [updF_app]
      rw [if_neg (by simpa using h0), hH]
      exact cpF_but h1 h0
theorem cPoint_spec {m : Int} (S : Cp) {a : Nat} (ha : a < S.W.length) (ha2 : a ≤ 200000) {to : Int} (t0 : 0 ≤ to) (t1 : to ≤ 200000) (p : Pt) (d0 : 0 ≤ p.data) (d1 : p.data ≤ 200000) (k0 : 0 ≤ p.ptrs) (k1 : p.ptrs ≤ 200000) :
    SpecF Try.prog 107 (fun r => [.pob [r] 1 0, nv a, iv to, p.a]) (cpM m S) (fun _ => .tup []) (cpM m ⟨S.v, S.W.set a (encW (ptQ p a to))⟩) := by
  refine specF_of t_copy_copier_point (by simp) (famL_cons famA_pob (famL_cons famA_v (famL_cons famA_v (famL_cons (famA_agg (FamL.all fun x hx => ?_)) famL_nil)))) (by simp) fun w0 I0 M0 m0 => ?_
  · simp at hx
    rcases hx with rfl | rfl | rfl | rfl | rfl | rfl | rfl | rfl <;> simp
  unfold c_copy_copier_point
  have e1 : IntKind.i64.wrap (to - (a : Int)) = to - a := i64_same (by omega) (by omega)
  have e2 : IntKind.i64.wrap (to - (a : Int) - 1) = to - a - 1 := i64_same (by omega) (by omega)
  have e3 : IntKind.i64.wrap (p.data + p.ptrs) = p.data + p.ptrs := i64_same (by omega) (by omega)
  obtain ⟨kind, off, data, ptrs, code, count, sg, dbl⟩ := p
  simp only at d0 d1 k0 k1 e3
  by_cases h1 : kind = 1
  · subst h1
    by_cases h2 : data + ptrs = 0
    · have hq : ptQ ⟨1, off, data, ptrs, code, count, sg, dbl⟩ a to = ⟨1, -1, data, ptrs, code, count, sg, dbl⟩ := by simp [ptQ, h2]
      rw [h2] at e3
      simp [e1, e2, e3, h2, updF_app, Pt.a]
      rw [hq]
      exact point_k1 ha (fun p => by simp) (by simp)
    · have hq : ptQ ⟨1, off, data, ptrs, code, count, sg, dbl⟩ a to = ⟨1, to - a - 1, data, ptrs, code, count, sg, dbl⟩ := by simp [ptQ, h2]
      simp [e1, e2, e3, h2, updF_app, Pt.a]
      rw [hq]
      exact point_k1 ha (fun p => by simp) (by simp)
  · have hq : ptQ ⟨kind, off, data, ptrs, code, count, sg, dbl⟩ a to = ⟨kind, to - a - 1, data, ptrs, code, count, sg, dbl⟩ := by simp [ptQ, h1]
    simp [e1, e2, e3, h1, updF_app, Pt.a]
    rw [hq]
    exact point_k1 ha (fun p => by simp) (by simp)
/-- As the document says it. -/
theorem enc_str {at_ to w k : Int} (h0 : 0 ≤ at_) (h1 : at_ ≤ 200000) (h2 : 0 ≤ to) (h3 : to ≤ 200000) (w0 : 0 ≤ w) (w1 : w < 65536) (k0 : 0 ≤ k) (k1 : k < 65536) : encW (ptQ ⟨1, 0, w, k, 0, 0, 0, false⟩ at_ to) = ptrZ at_ (if w + k = 0 then at_ else to) 0 (w + 65536 * k) := by
  by_cases hz : w + k = 0
  · have e : ptQ ⟨1, 0, w, k, 0, 0, 0, false⟩ at_ to = ⟨1, -1, w, k, 0, 0, 0, false⟩ := by simp [ptQ, hz]
    rw [e, if_pos hz]
    unfold encW ptrZ
    simp only
    rw [if_pos trivial, if_pos (by omega), if_pos (by omega)]
    omega
  · have e : ptQ ⟨1, 0, w, k, 0, 0, 0, false⟩ at_ to = ⟨1, to - at_ - 1, w, k, 0, 0, 0, false⟩ := by simp [ptQ, hz]
    rw [e, if_neg hz]
    unfold encW ptrZ
    simp only
    rw [if_pos trivial, if_pos (by omega)]
    split <;> omega
theorem enc_list {at_ to c n : Int} (h0 : 0 ≤ at_) (h1 : at_ ≤ 200000) (h2 : 0 ≤ to) (h3 : to ≤ 200000) (c0 : 0 ≤ c) (c1 : c ≤ 7) (n0 : 0 ≤ n) (n1 : n < 536870912) : encW (ptQ ⟨2, 0, 0, 0, c, n, 0, false⟩ at_ to) = ptrZ at_ to 1 (c + 8 * n) := by
  have e : ptQ ⟨2, 0, 0, 0, c, n, 0, false⟩ at_ to = ⟨2, to - at_ - 1, 0, 0, c, n, 0, false⟩ := by simp [ptQ]
  rw [e]
  unfold encW ptrZ
  simp only
  rw [if_neg (by decide), if_pos trivial, if_pos (by omega)]
  split <;> omega
end Go.Proofs.Ytigdcnlhgelkaaa

/-
  Chapters 10 and 14, plain: what means something within limits is a right tree; it can be laid.
-/
namespace Go.Proofs.Ytigdcnlhgelkaaa
set_option linter.unusedVariables false
set_option linter.unusedSimpArgs false
open Go Go.G Go.Proofs Go.PL

theorem at_kind (l : List (List Int)) (s a : Int) : (atP l s a).1.kind ≠ 10 := by
  unfold atP
  split
  · simp [Rf.zero]
  · unfold refP
    split
    · simp
    · split
      · simp; omega
      · unfold compP
        split <;> simp [Rf.zero]
theorem rf_kind {l : List (List Int)} {r : Rf} (h : RfOk l r) : 0 ≤ r.kind ∧ r.kind ≤ 10 := by cases h <;> simp [Rf.zero] <;> omega
theorem kid_kind {l : List (List Int)} {r : Rf} (h : r.kind = 1 ∨ r.kind = 8) (i : Int) : (kidP l r i).1.kind ≠ 10 := by
  unfold kidP
  split
  · simp [Rf.zero]
  · rcases h with h | h
    · rw [if_pos h]; exact at_kind _ _ _
    · rw [if_neg (by omega), if_pos h]; exact at_kind _ _ _
theorem kid_comp {l : List (List Int)} {r : Rf} (h : r.kind = 9) {i : Int} (h0 : 0 ≤ i) (h1 : i < nk r) : (kidP l r i).1.kind = 1 := by
  rw [kidP, if_neg (by omega), if_neg (by omega), if_neg (by omega), if_pos h]
theorem getZ_fits {g : List Int} {c i : Int} (hg : ∀ x, x ∈ g → 0 ≤ x ∧ x < 18446744073709551616) (hc : 0 ≤ c) (hc6 : c < 6) : fitsZ c (getZ g c i) = true := by
  have hw : 0 ≤ widthZ c := by unfold widthZ; repeat' split <;> omega
  have hp : (0 : Int) < 2 ^ (widthZ c).toNat := Int.pow_pos (by decide)
  simp only [fitsZ, Bool.and_eq_true, decide_eq_true_eq]
  refine ⟨hw, ?_⟩
  unfold getZ
  split
  · simp
  · rw [Int.ediv_eq_zero_of_lt]
    · exact Int.emod_nonneg _ (by omega)
    · exact Int.emod_lt_of_pos _ hp
theorem laid_of {l : List (List Int)} : ∀ (t : T) (r : Rf), Means l r t → t.kind ≠ 10 → LayOk (norm t) := by
  refine T.ind fun k w ks ih r hm h10 => ?_
  have hk := means_kind hm
  have hok := means_ok hm
  have hb := rf_kind hok
  simp at hk h10
  rw [norm_mk]
  have kid : ∀ (i : Nat) (hi : i < ks.length), Means l (kidP l r i).1 ks[i] := fun i hi => (means_kid hm (by simpa using hi)).2
  by_cases h0 : k = 0
  · rw [if_pos h0]; exact .null _
  · rw [if_neg h0]
    by_cases h1 : k = 1
    · rw [if_pos h1]
      refine .str _ _ fun t ht => ?_
      rw [trimK_map] at ht
      obtain ⟨u, hu, rfl⟩ := List.mem_map.1 (List.mem_of_mem_take ht)
      obtain ⟨i, hi, rfl⟩ := List.mem_iff_getElem.1 hu
      refine ih _ hu _ (kid i hi) ?_
      rw [← means_kind (kid i hi)]
      exact kid_kind (.inl (by omega)) i
    · rw [if_neg h1]
      by_cases h8 : k = 8
      · subst h8
        refine .ptrs _ _ fun t ht => ?_
        obtain ⟨u, hu, rfl⟩ := List.mem_map.1 ht
        obtain ⟨i, hi, rfl⟩ := List.mem_iff_getElem.1 hu
        refine ih _ hu _ (kid i hi) ?_
        rw [← means_kind (kid i hi)]
        exact kid_kind (.inr (by omega)) i
      · by_cases h9 : k = 9
        · subst h9
          refine .comp _ _ fun t ht u hu' => ?_
          obtain ⟨v, hv, rfl⟩ := List.mem_map.1 ht
          obtain ⟨i, hi, rfl⟩ := List.mem_iff_getElem.1 hv
          have hkn := means_nk hm
          simp at hkn
          have hkk := means_kind (kid i hi)
          rw [kid_comp (by omega) (by omega) (by omega)] at hkk
          have := ih _ hv _ (kid i hi) (by omega)
          have hkn2 : (norm ks[i]).kind = 1 := by rw [norm_kind]; omega
          generalize norm ks[i] = x at this hkn2 hu'
          cases this with
          | str w ks h => exact h u hu'
          | _ => simp at hkn2 <;> omega
        · exact .data _ _ _ (by omega) (by omega)

/-! ### a right tree -/
theorem wordsR_len {l : List (List Int)} {r : Rf} (h : RfOk l r) (h10 : r.kind ≠ 10) : (wordsR l r).length = (if r.kind = 1 then r.data else 0).toNat := by
  unfold wordsR
  rw [if_neg h10]
  by_cases h1 : r.kind = 1
  · rw [if_neg (by omega), if_pos h1]
    cases h with
    | str s a d k a1 a2 a3 a4 h =>
      simp only
      simp only [hasW, decide_eq_true_eq] at h
      obtain ⟨b1, b2, b3, b4, b5⟩ := h
      obtain ⟨g1, g2⟩ := seg_in b1 b2
      simp [part, g2, szAt] at b5 ⊢
      omega
    | _ => simp [Rf.zero] at h1 <;> omega
  · rw [if_pos h1, if_neg h1]; rfl
theorem loopM_okB {f : Nat → Int → T × Int × Int} {B : Int} (hf : ∀ (i : Nat) lf, 0 ≤ lf → lf ≤ B → 0 ≤ (f i lf).2.1 ∧ (f i lf).2.1 ≤ B) : ∀ {m i : Nat} {acc : List T} {left : Int}, 0 ≤ left → left ≤ B → (loopM f m i acc left).2.2 = 0 → ∃ ks : List T, (loopM f m i acc left).1 = acc ++ ks ∧ ks.length = m ∧ ∀ (j : Nat) (h : j < ks.length), ∃ lf, 0 ≤ lf ∧ lf ≤ B ∧ (f (i + j) lf).2.2 = 0 ∧ (f (i + j) lf).1 = ks[j]
  | 0, i, acc, left, _, _, h => ⟨[], by simp [loopM], rfl, fun j h => by simp at h⟩
  | m + 1, i, acc, left, l0, l1, h => by
    rw [loopM] at h ⊢
    by_cases h0 : (f i left).2.2 ≠ 0
    · rw [if_pos h0] at h; exact absurd h h0
    · rw [if_neg h0] at h ⊢
      obtain ⟨b0, b1⟩ := hf i left l0 l1
      obtain ⟨ks, e1, e2, e3⟩ := loopM_okB hf b0 b1 h
      refine ⟨(f i left).1 :: ks, by rw [e1]; simp, by simp [e2], fun j hj => ?_⟩
      cases j with
      | zero => exact ⟨left, l0, l1, by simpa using h0, rfl⟩
      | succ j =>
        obtain ⟨lf, q0, q1, g1, g2⟩ := e3 j (by simpa using hj)
        refine ⟨lf, q0, q1, ?_, ?_⟩
        · rw [show i + (j + 1) = i + 1 + j by omega]; exact g1
        · rw [show i + (j + 1) = i + 1 + j by omega]; simpa using g2
theorem loop_right {l : List (List Int)} (hw : Wds l) {B : Int} {r : Rf} (hr : RfOk l r) {k : Int} (hk : r.kind = k) (k0 : k ≠ 0) (k10 : k ≠ 10) (hn : nk r < 1048576) {d : Nat} {rec : Rf → Int → T × Int × Int} (hlb : LB l B rec) (hrec : ∀ (i : Nat) left, 0 ≤ left → left ≤ B → i < nk r → (rec (kidP l r i).1 left).2.2 = 0 → rightT d (rec (kidP l r i).1 left).1 = true ∧ kidOk k (rec (kidP l r i).1 left).1 = true) {left : Int} (l0 : 0 ≤ left) (l1 : left ≤ B)
    (h : (loopM (stepM l rec r) (nk r).toNat 0 [] left).2.2 = 0) : rightT (d + 1) (.mk k (wordsR l r) (loopM (stepM l rec r) (nk r).toNat 0 [] left).1) = true := by
  obtain ⟨ks, e1, e2, e3⟩ := loopM_okB (fun i lf => stepM_lb hw hlb hr i lf) l0 l1 h
  rw [e1]
  simp only [List.nil_append]
  have hnn := nk_nonneg hr
  have hb := rf_kind hr
  have hwl := wordsR_len hr (by omega)
  have hd1 : r.kind = 1 → 0 ≤ r.data ∧ r.data < 65536 ∧ nk r < 65536 := fun h => by
    cases hr <;> simp [Rf.zero, nk] at h ⊢ <;> omega
  rw [rightT_mk, if_neg k0, if_neg k10]
  have hbig : tooBig k (d + 1) (wordsR l r).length ks.length = false := by
    rw [hwl, e2]
    unfold tooBig
    by_cases h1 : r.kind = 1
    · have := hd1 h1
      rw [if_pos h1]
      simp
      omega
    · rw [if_neg h1]
      simp
      omega
  rw [hbig, if_neg (by decide)]
  refine rightL_all.2 fun t ht => ?_
  obtain ⟨i, hi, rfl⟩ := List.mem_iff_getElem.1 ht
  obtain ⟨lf, q0, q1, g1, g2⟩ := e3 i hi
  simp only [Nat.zero_add] at g1 g2
  unfold stepM at g1 g2
  by_cases h0 : (kidP l r i).2 ≠ 0
  · rw [if_pos h0] at g1; exact absurd g1 h0
  · rw [if_neg h0] at g1 g2
    rw [← g2]
    exact hrec i lf q0 q1 (by omega) g1
theorem kidOk_plain {k : Int} {c : T} (h : k = 1 ∨ k = 8) (hc : c.kind ≠ 10) : kidOk k c = true := by
  rcases h with rfl | rfl <;> simp [kidOk, isData, hc]
theorem meaning_kind (l : List (List Int)) (d : Nat) (r : Rf) (left : Int) : (meaning l d r left).1.kind = r.kind := by
  match d with
  | 0 => rw [meaning]; split <;> rfl
  | 1 => rw [meaning]; repeat' split <;> first | rfl | skip
  | d + 2 => rw [meaning]; repeat' split <;> first | rfl | skip
theorem leaf_right (l : List (List Int)) {r : Rf} (h : r.kind = 0) (hr : RfOk l r) (d : Nat) (left : Int) : rightT d (leafM l r left).1 = true := by
  have : wordsR l r = [] := by
    have := wordsR_len hr (by omega)
    rw [if_neg (by omega)] at this
    exact List.eq_nil_of_length_eq_zero (by simpa using this)
  simp [leafM, rightT_mk, h, this]
theorem costM_nonneg {l : List (List Int)} {r : Rf} (h : RfOk l r) : 0 ≤ costM r := by
  cases h with
  | zero => simp [costM, Rf.zero, nk]
  | str s a d k a1 a2 a3 a4 h => simp [costM]; omega
  | dat c s a n a1 a2 a3 a4 h => rw [costM, if_neg (by simp; omega), if_neg (by simp; omega)]; simp [nk]; split <;> omega
  | ptrs s a n a1 a2 h => simp [costM, nk]; omega
  | comp s a d k n a1 a2 a3 a4 a5 a6 h =>
    simp [costM]
    have := Int.mul_nonneg a5 (show 0 ≤ 1 + d + k by omega)
    omega
  | atom n a1 a2 => simp [costM, nk]
/-- What it tells is right, of so deep at the most. -/
def RG (l : List (List Int)) (B : Int) (d : Nat) (rec : Rf → Int → T × Int × Int) : Prop := ∀ x left, RfOk l x → x.kind ≠ 10 → 0 ≤ left → left ≤ B → (rec x left).2.2 = 0 → rightT d (rec x left).1 = true ∧ (rec x left).1.kind = x.kind
theorem rest_right {l : List (List Int)} (hw : Wds l) {r : Rf} (hr : RfOk l r) (h0 : r.kind ≠ 0) (h10 : r.kind ≠ 10) {d : Nat} {rec1 rec2 : Rf → Int → T × Int × Int} (b1 : LB l 65536 rec1) (b2 : LB l 65536 rec2) (h1 : RG l 65536 d rec1)
    (h2 : r.kind = 9 → 0 < r.count → ∃ d', d = d' + 1 ∧ RG l 65536 d' rec2) {left : Int} (hl : left ≤ 65536) (hc : ¬ left < costM r) (h : (restM l r rec1 rec2 left).2.2 = 0) : rightT (d + 1) (restM l r rec1 rec2 left).1 = true := by
  unfold restM at h ⊢
  have hnn := nk_nonneg hr
  have hb := rf_kind hr
  have hn : nk r < 1048576 := by
    cases hr with
    | comp s a d k n a1 a2 a3 a4 a5 a6 h =>
      simp [costM] at hc
      simp [nk]
      have : n * 1 ≤ n * (1 + d + k) := Int.mul_le_mul_of_nonneg_left (by omega) a5
      omega
    | str s a d k a1 a2 a3 a4 h => simp [nk]; omega
    | zero => simp [Rf.zero] at h0
    | atom n a1 a2 => simp at h10
    | dat c s a n a1 a2 a3 a4 h =>
      rw [costM, if_neg (by simp; omega), if_neg (by simp; omega)] at hc
      omega
    | ptrs s a n a1 a2 h =>
      rw [costM, if_neg (by simp), if_neg (by simp)] at hc
      omega
  have hcost : 0 ≤ costM r := costM_nonneg hr
  refine loop_right hw hr rfl h0 h10 hn (B := 65536) ?_ (fun i lf q0 q1 hi hq => ?_) (by omega) (by omega) h
  · by_cases h9 : r.kind = 9
    · rw [if_pos h9]; exact kidsM_lb hw b2
    · rw [if_neg h9]
      split
      · exact b1
      · exact leafM_lb
  have hok := kid_ok hw hr (i : Int)
  by_cases h9 : r.kind = 9
  · simp only [if_pos h9] at hq ⊢
    have hk : nk r = r.count := by simp [nk, h9]
    obtain ⟨d', rfl, h2'⟩ := h2 h9 (by omega)
    have hkid : kidP l r i = (⟨1, r.s, r.at_ + i * (r.data + r.kids), r.data, r.kids, 0, 0⟩, 0) := by
      rw [kidP, if_neg (by omega), if_neg (by omega), if_neg (by omega), if_pos h9]
    rw [hkid] at hq hok ⊢
    have hk6 : r.kids < 65536 := by cases hr <;> simp [Rf.zero] at h9 ⊢ <;> omega
    unfold kidsM at hq ⊢
    refine ⟨loop_right hw hok rfl (by simp) (by simp) (by simp [nk]; omega) b2 (fun j lf' p0 p1 hj hq' => ?_) q0 q1 hq, by rw [h9]; simp [kidOk, isData]⟩
    have hk10 : (kidP l ⟨1, r.s, r.at_ + i * (r.data + r.kids), r.data, r.kids, 0, 0⟩ j).1.kind ≠ 10 := kid_kind (.inl rfl) j
    obtain ⟨g1, g2⟩ := h2' _ _ (kid_ok hw hok _) hk10 p0 p1 hq'
    exact ⟨g1, kidOk_plain (.inl rfl) (by rw [g2]; exact hk10)⟩
  · by_cases h18 : r.kind = 1 ∨ r.kind = 8
    · simp only [if_neg h9, if_pos h18] at hq ⊢
      have hk10 := kid_kind (l := l) h18 i
      obtain ⟨g1, g2⟩ := h1 _ _ hok hk10 q0 q1 hq
      exact ⟨g1, kidOk_plain h18 (by rw [g2]; exact hk10)⟩
    · simp only [if_neg h9, if_neg h18] at hq ⊢
      have hdat : 2 ≤ r.kind ∧ r.kind ≤ 7 := by
        clear h hq h2 h1 b1 b2
        omega
      have hkid : kidP l r i = (⟨10, 0, 0, 0, 0, 0, atomZ l r i⟩, 0) := by
        rw [kidP, if_neg (by omega), if_neg (by omega), if_neg (by omega), if_neg (by omega)]
      rw [hkid]
      have hf : fitsZ (r.kind - 2) (atomZ l r i) = true := by
        unfold atomZ
        refine getZ_fits (fun x hx => ?_) (by omega) (by omega)
        have hx := List.mem_of_mem_drop hx
        cases e : seg l r.s with
        | none => rw [e] at hx; simp at hx
        | some g =>
          rw [e] at hx
          simp at hx
          obtain ⟨_, _, _, rfl⟩ := seg_some e
          exact hw _ (List.getElem_mem _) x hx
      refine ⟨by simp [leafM, rightT_mk, wordsR], ?_⟩
      have hd : isData r.kind = true := by simp [isData, hdat.1, hdat.2]
      have h9' : decide (r.kind = 9) = false := by simp [h9]
      simp [kidOk, leafM, wordsR, hd, h9', hf]
theorem stop_kind (l : List (List Int)) (r : Rf) (left : Int) : (stopM l r left).1.kind = r.kind := rfl
theorem stop_rg (l : List (List Int)) (B : Int) (d : Nat) : RG l B d (fun r left => stopM l r left) := fun x left _ _ _ _ h => absurd h (by simp [stopM])
theorem stop_lb (l : List (List Int)) (B : Int) : LB l B (fun r left => stopM l r left) := fun r hr left h0 h1 => ⟨h0, h1⟩
theorem meaning_right {l : List (List Int)} (hw : Wds l) : ∀ (d : Nat), RG l 65536 d (meaning l d)
  | 0 => fun r left hr h10 l0 hl h => by
    refine ⟨?_, meaning_kind l 0 r left⟩
    rw [meaning] at h ⊢
    split at h
    · rename_i h0; rw [if_pos h0]; exact leaf_right l h0 hr _ _
    · exact absurd h (by simp [stopM])
  | 1 => fun r left hr h10 l0 hl h => by
    refine ⟨?_, meaning_kind l 1 r left⟩
    rw [meaning] at h ⊢
    split at h
    · rename_i h0; rw [if_pos h0]; exact leaf_right l h0 hr _ _
    · rename_i h0
      split at h
      · exact absurd h (by simp [stopM])
      · rename_i h9
        split at h
        · exact absurd h (by simp [stopM])
        · rename_i hc
          rw [if_neg h0, if_neg h9, if_neg hc]
          exact rest_right hw hr h0 h10 (meaning_lb hw 0) (stop_lb l _) (meaning_right hw 0) (fun e c => absurd ⟨e, c⟩ h9) hl hc h
  | d + 2 => fun r left hr h10 l0 hl h => by
    refine ⟨?_, meaning_kind l (d + 2) r left⟩
    rw [meaning] at h ⊢
    split at h
    · rename_i h0; rw [if_pos h0]; exact leaf_right l h0 hr _ _
    · rename_i h0
      split at h
      · exact absurd h (by simp [stopM])
      · rename_i hc
        rw [if_neg h0, if_neg hc]
        exact rest_right hw hr h0 h10 (meaning_lb hw (d + 1)) (meaning_lb hw d) (meaning_right hw (d + 1)) (fun e c => ⟨d, rfl, meaning_right hw d⟩) hl hc h
/-- What a message means within limits is a right tree. -/
theorem unf_right {l : List (List Int)} (hs : Sg l) {a b : Int} (h : (unfP l a b).2.2 = 0) : rightT 64 (unfP l a b).1 = true ∧ (unfP l a b).1.kind ≠ 10 := by
  have ha := clamp_in a 64 (by decide)
  have hb := clamp_in b 65536 (by decide)
  unfold unfP at h ⊢
  split at h
  · rename_i h0; exact absurd h h0
  · rename_i h0
    rw [if_neg h0]
    split at h
    · rename_i h1; exact absurd h h1
    · rename_i h1
      rw [if_neg h1]
      obtain ⟨q1, q2⟩ := meaning_right hs.w (clampZ a 64).toNat (atP l 0 0).1 (clampZ b 65536) (at_ok hs.w 0 0) (at_kind l 0 0) hb.1 hb.2 (by omega)
      exact ⟨rightT_mono _ _ 64 (by omega) q1, by rw [q2]; exact at_kind l 0 0⟩
end Go.Proofs.Ytigdcnlhgelkaaa

/-
  Chapter 14: kids and structs are laid.
-/
namespace Go.Proofs.Ytigdcnlhgelkaaa
set_option linter.unusedVariables false
set_option linter.unusedSimpArgs false
open Go Go.G Go.Proofs Go.PL

theorem setW_snoc : ∀ (ws : List Int) (b : Nat) (x : Int) (l : List Int), setW b (ws ++ [x]) l = (setW b ws l).set (b + ws.length) x
  | [], b, x, l => by simp [setW]
  | y :: ws, b, x, l => by
    simp only [List.cons_append, setW, setW_snoc ws, List.length_cons]
    rw [show b + 1 + ws.length = b + (ws.length + 1) from by omega]

/-- A value is laid, as the document says, or there is no room. -/
def VS (l : List (List Int)) (m : Int) (t : T) : Prop := ∀ (r : Rf) (S : Cp) (a : Nat), Means l r t → t.kind ≠ 10 → a < S.W.length → (S.W.length : Int) ≤ m →
  ∃ S' : Cp, S.W.length ≤ S'.W.length ∧ (S'.W.length : Int) ≤ m ∧ ((S.W.length : Int) + sizeT (norm t) ≤ m → S'.W = layT (norm t) a S.W) ∧
    SpecF Try.prog 75 (fun q => [.pob [q] 1 0, nv a, paX l r]) (cpM m S) (fun _ => iv (if (S.W.length : Int) + sizeT (norm t) ≤ m then 0 else 3)) (cpM m S')
def firstK (t : T) (n : Nat) : List T := (t.kids.take n).map norm
def KS (l : List (List Int)) (m : Int) (t : T) : Prop := ∀ (r : Rf) (S : Cp) (a n : Nat), Means l r t → t.kind = 1 ∨ t.kind = 8 → n ≤ t.kids.length → a + n ≤ S.W.length → (S.W.length : Int) ≤ m →
  ∃ S' : Cp, S.W.length ≤ S'.W.length ∧ (S'.W.length : Int) ≤ m ∧ ((S.W.length : Int) + sizeL (firstK t n) ≤ m → S'.W = layL (firstK t n) a S.W) ∧
    SpecF Try.prog 108 (fun q => [.pob [q] 1 0, nv a, paX l r, nv n]) (cpM m S) (fun _ => iv (if (S.W.length : Int) + sizeL (firstK t n) ≤ m then 0 else 3)) (cpM m S')
theorem kid_lay {l : List (List Int)} {r : Rf} {t : T} (hm : Means l r t) (hk : t.kind = 1 ∨ t.kind = 8) {i : Nat} (hi : i < t.kids.length) : t.kids[i].kind ≠ 10 ∧ LayOk (norm t.kids[i]) := by
  obtain ⟨h1, h2⟩ := means_kid hm hi
  have hr := means_kind hm
  have : t.kids[i].kind ≠ 10 := by
    rw [← means_kind h2]
    exact kid_kind (by omega) i
  exact ⟨this, laid_of _ _ h2 this⟩
theorem kids_lay {l : List (List Int)} {r : Rf} {t : T} (hm : Means l r t) (hk : t.kind = 1 ∨ t.kind = 8) (n i : Nat) : ∀ u, u ∈ ((t.kids.take n).drop i).map norm → LayOk u := fun u hu => by
  obtain ⟨v, hv, rfl⟩ := List.mem_map.1 hu
  obtain ⟨j, hj, rfl⟩ := List.mem_iff_getElem.1 (List.mem_of_mem_take (List.mem_of_mem_drop hv))
  exact (kid_lay hm hk hj).2
theorem sizeL_nonneg {ts : List T} (h : ∀ u, u ∈ ts → LayOk u) : 0 ≤ sizeL ts := by
  have := layL_len h 0 []
  simp at this
  omega
theorem kids_l1 {l : List (List Int)} (hs : Sg l) {m : Int} (hm0 : 0 ≤ m) (hm1 : m ≤ 131072) {r : Rf} {t : T} (hm : Means l r t) (hk : t.kind = 1 ∨ t.kind = 8) {n : Nat} (hn : n ≤ t.kids.length) (ih : ∀ c, c ∈ t.kids → VS l m c) {a : Nat} : ∀ (j i : Nat) (S : Cp), i + j = n → a + n ≤ S.W.length → (S.W.length : Int) ≤ m →
    ∃ S' : Cp, S.W.length ≤ S'.W.length ∧ (S'.W.length : Int) ≤ m ∧ ((S.W.length : Int) + sizeL (((t.kids.take n).drop i).map norm) ≤ m → S'.W = layL (((t.kids.take n).drop i).map norm) (a + i) S.W) ∧
      ∀ {n0 : Nat} {w0 : World} {I0 M0 : Nat → Prop} {m0 : Mu} {Q : Exit → Sta → Prop} (H : Hp), (∀ p, H (0 :: p) = cpF m 0 S p) → H [1] = ⟨1, .cells (paL l r)⟩ →
      ((S.W.length : Int) + sizeL (((t.kids.take n).drop i).map norm) ≤ m → ∀ q H', (∀ p, H' (0 :: p) = cpF m 0 S' p) → Q (.exit 0) ⟨lk [(0, .pob [0] 1 0), (1, nv a), (6, .pob [1] 1 0), (12, nv n), (13, nv n), (14, bv q)], H'⟩) →
      (¬ (S.W.length : Int) + sizeL (((t.kids.take n).drop i).map norm) ≤ m → ∀ H', (∀ p, H' (0 :: p) = cpF m 0 S' p) → Q .ret ⟨lk [(8, iv 3)], H'⟩) →
      LoopC (cxh Try.prog w0 I0 M0 n0 m0) l1_copy_copier_kids Q ⟨lk [(0, .pob [0] 1 0), (1, nv a), (6, .pob [1] 1 0), (12, nv n), (13, nv i)], H⟩ := by
  intro j
  induction j with
  | zero =>
    intro i S hi ha hS
    have : i = n := by omega
    subst this
    have hd : (t.kids.take i).drop i = [] := List.drop_eq_nil_of_le (by simp; omega)
    refine ⟨S, Nat.le_refl _, hS, fun _ => by rw [hd]; simp, fun H hH hA hq _ => ?_⟩
    rw [hd] at hq
    refine loopC_once mixed l1_copy_copier_kids.eq_1 ?_
    simp
    exact hq (by simpa using hS) _ H hH
  | succ j ihj =>
    intro i S hi ha hS
    have hlt : i < n := by omega
    have hlt1 : i < t.kids.length := by omega
    have hdr : (t.kids.take n).drop i = t.kids[i] :: (t.kids.take n).drop (i + 1) := by
      rw [List.drop_eq_getElem_cons (by simp; omega)]
      simp
    have ei : IntKind.i64.wrap ((i : Int) + 1) = ((i + 1 : Nat) : Int) := i64_same (by omega) (by omega)
    have ea : IntKind.i64.wrap ((a : Int) + i) = ((a + i : Nat) : Int) := i64_same (by omega) (by omega)
    obtain ⟨k1, k2⟩ := means_kid hm hlt1
    obtain ⟨c10, clay⟩ := kid_lay hm hk hlt1
    obtain ⟨S1, q1, q2, q3, q4⟩ := ih _ (List.getElem_mem hlt1) _ S (a + i) k2 c10 (by omega) hS
    have hrest := sizeL_nonneg (kids_lay hm hk n (i + 1))
    rw [hdr]
    simp only [List.map_cons, sizeL_cons, layL_cons]
    by_cases hf : (S.W.length : Int) + sizeT (norm t.kids[i]) ≤ m
    · have hW := q3 hf
      have hlen := (lay_len _).1 clay (a + i) S.W
      rw [← hW] at hlen
      rw [if_pos hf] at q4
      obtain ⟨S2, p1, p2, p3, p4⟩ := ihj (i + 1) S1 (by omega) (by omega) (by omega)
      refine ⟨S2, by omega, p2, fun hh => ?_, fun H hH hA hq hq2 => ?_⟩
      · rw [p3 (by omega), hW, show a + (i + 1) = a + i + 1 from by omega]
      · refine loopC_once mixed l1_copy_copier_kids.eq_1 ?_
        simp [hlt, hA]
        refine sc_call (kid_spec hs (means_ok hm) i) (by simp) ?_
        simp [k1, updF_app, ea]
        refine sc_fam 0 q4 (fun p => by simp [updF_app, hH]) (by simp) (by simp) ?_
        simp [ei]
        exact p4 _ (fun p => by simp) (by simp [updF_app, hA]) (fun hh => hq (by omega)) fun hh => hq2 (by omega)
    · rw [if_neg hf] at q4
      refine ⟨S1, q1, q2, fun hh => by omega, fun H hH hA hq hq2 => ?_⟩
      refine loopC_once mixed l1_copy_copier_kids.eq_1 ?_
      simp [hlt, hA]
      refine sc_call (kid_spec hs (means_ok hm) i) (by simp) ?_
      simp [k1, updF_app, ea]
      refine sc_fam 0 q4 (fun p => by simp [updF_app, hH]) (by simp) (by simp) ?_
      simp
      exact hq2 (by omega) _ (fun p => by simp)
theorem cKids_spec {l : List (List Int)} (hs : Sg l) {m : Int} (hm0 : 0 ≤ m) (hm1 : m ≤ 131072) {t : T} (ih : ∀ c, c ∈ t.kids → VS l m c) : KS l m t := fun r S a n hm hk hn ha hS => by
  obtain ⟨S', q1, q2, q3, q4⟩ := kids_l1 hs hm0 hm1 hm hk hn ih n 0 S (by omega) ha hS
  rw [List.drop_zero] at q3 q4
  change ((S.W.length : Int) + sizeL (firstK t n) ≤ m → S'.W = layL (firstK t n) a S.W) at q3
  have key : ∀ res : Int, ((S.W.length : Int) + sizeL (firstK t n) ≤ m → res = 0) → (¬ (S.W.length : Int) + sizeL (firstK t n) ≤ m → res = 3) → SpecF Try.prog 108 (fun q => [.pob [q] 1 0, nv a, paX l r, nv n]) (cpM m S) (fun _ => iv res) (cpM m S') := fun res r0 r3 => by
    refine specF_of t_copy_copier_kids (by simp) (famL_cons famA_pob (famL_cons famA_v (famL_cons (famL_ref l r) (famL_cons famA_v famL_nil)))) famA_v fun w0 I0 M0 m0 => ?_
    unfold c_copy_copier_kids
    simp
    refine q4 _ (fun p => by simp) (by simp) (fun hf q H' hH => ?_) (fun hf H' hH => ?_)
    · rw [r0 hf]
      simp
      exact reth_fam rfl rfl hH
    · rw [r3 hf]
      exact reth_fam rfl rfl hH
  exact ⟨S', q1, q2, q3, key _ (fun h => if_pos h) (fun h => if_neg h)⟩

/-! ### structs -/
def FS (l : List (List Int)) (m : Int) (t : T) : Prop := ∀ (r : Rf) (S : Cp) (a w : Nat), Means l r t → t.kind = 1 → nW t ≤ w → w ≤ 65536 → a + w + nK t ≤ S.W.length → (S.W.length : Int) ≤ m →
  ∃ S' : Cp, S.W.length ≤ S'.W.length ∧ (S'.W.length : Int) ≤ m ∧ ((S.W.length : Int) + sizeL (norm t).kids ≤ m → S'.W = layL (norm t).kids (a + w) (setW a (norm t).words S.W)) ∧
    SpecF Try.prog 132 (fun q => [.pob [q] 1 0, nv a, nv w, paX l r]) (cpM m S) (fun _ => iv (if (S.W.length : Int) + sizeL (norm t).kids ≤ m then 0 else 3)) (cpM m S')
section
variable {n0 : Nat} {w0 : World} {I0 M0 : Nat → Prop} {m0 : Mu} {Q : Exit → Sta → Prop}
theorem fill_l1 {l : List (List Int)} (hs : Sg l) {m : Int} {r : Rf} {t : T} (hm : Means l r t) {n a : Nat} {w : A} (hn : n ≤ t.words.length) {S : Cp} (ha : a + n ≤ S.W.length) (hS : (S.W.length : Int) ≤ 131072)
    (hq : ∀ q H', (∀ p, H' (0 :: p) = cpF m 0 ⟨S.v, setW a (t.words.take n) S.W⟩ p) → H' [1] = ⟨1, .cells (paL l r)⟩ → Q (.exit 0) ⟨lk [(0, .pob [0] 1 0), (1, nv a), (2, w), (7, .pob [1] 1 0), (15, nv n), (16, nv n), (17, bv q)], H'⟩) :
    ∀ (j i : Nat) (H : Hp), i + j = n → (∀ p, H (0 :: p) = cpF m 0 ⟨S.v, setW a (t.words.take i) S.W⟩ p) → H [1] = ⟨1, .cells (paL l r)⟩ →
    LoopC (cxh Try.prog w0 I0 M0 n0 m0) l1_copy_copier_fill Q ⟨lk [(0, .pob [0] 1 0), (1, nv a), (2, w), (7, .pob [1] 1 0), (15, nv n), (16, nv i)], H⟩ := by
  intro j
  induction j with
  | zero =>
    intro i H hi hH hA
    have : i = n := by omega
    subst this
    refine loopC_once mixed l1_copy_copier_fill.eq_1 ?_
    simp
    exact hq _ H hH hA
  | succ j ihj =>
    intro i H hi hH hA
    have hlt : i < n := by omega
    have hlt1 : i < t.words.length := by omega
    have ei : IntKind.i64.wrap ((i : Int) + 1) = ((i + 1 : Nat) : Int) := i64_same (by omega) (by omega)
    have ea : IntKind.i64.wrap ((a : Int) + i) = ((a + i : Nat) : Int) := i64_same (by omega) (by omega)
    have hw := (means_word hm).2 i hlt1
    have hai : a + i < S.W.length := by omega
    have hai' : ((a : Int) + i) < S.W.length := by omega
    have htk : t.words.take (i + 1) = t.words.take i ++ [t.words[i]] := List.take_succ_eq_append_getElem hlt1
    refine loopC_once mixed l1_copy_copier_fill.eq_1 ?_
    simp [hlt, hA, hH]
    refine sc_call (word_spec' hs (means_ok hm) i) (by simp) ?_
    rw [hw]
    have h00 : (0 : Int) ≤ (a : Int) + i := by omega
    have etn : ((a : Int) + i).toNat = a + i := by omega
    simp [hH, ea, hai, hai', h00, etn, ei, updF_app]
    refine ihj (i + 1) _ (by omega) (fun p => ?_) ?_
    rotate_left
    · simp [updF_app, hA]
    rw [htk, setW_snoc]
    simp only [List.length_take, Nat.min_eq_left (Nat.le_of_lt hlt1)]
    by_cases hp : p = [0]
    · subst hp
      simp [updF_app, List.map_set]
    · by_cases hp0 : p = []
      · subst hp0
        simp [updF_app, hH]
      · simp [updF_app, hp, hH]
        exact cpF_but hp0 hp
end
theorem norm_w_len {l : List (List Int)} {r : Rf} {t : T} (hm : Means l r t) : (norm t).words.length = nW t ∧ (norm t).kids.length = nK t := by
  have h1 := norm_words (means_bare hm)
  have h2 := norm_kids (means_bare hm)
  have := nW_le t
  have := nK_le t
  rw [h1, h2]
  simp
  omega
theorem cFill_spec {l : List (List Int)} (hs : Sg l) {m : Int} (hm0 : 0 ≤ m) (hm1 : m ≤ 131072) {t : T} (ih : ∀ c, c ∈ t.kids → VS l m c) : FS l m t := fun r S a w hm hk hw hw2 ha hS => by
  have hln := means_len hm
  have hnw := nW_le t
  have hnk := nK_le t
  have n1 := norm_words (means_bare hm)
  have n2 := norm_kids (means_bare hm)
  obtain ⟨S', q1, q2, q3, q4⟩ := cKids_spec hs hm0 hm1 ih r ⟨S.v, setW a (t.words.take (nW t)) S.W⟩ (a + w) (nK t) hm (.inl hk) hnk (by simpa using ha) (by simpa using hS)
  simp only [setW_length] at q1 q2 q3 q4
  have n2' : (norm t).kids = firstK t (nK t) := n2
  rw [n2', n1]
  generalize firstK t (nK t) = N at q3 q4
  generalize hres : (if (S.W.length : Int) + sizeL N ≤ m then (0 : Int) else 3) = res at q4
  refine ⟨S', q1, q2, q3, ?_⟩
  have eL : (trimW t.words).length = nW t := by simp [nW, hk]
  have eK : (trimK t.kids).length = nK t := by simp [nK, hk]
  have ew : IntKind.i64.wrap ((a : Int) + w) = ((a + w : Nat) : Int) := i64_same (by omega) (by omega)
  have emin : min (w : Int) (nW t : Int) = nW t := by omega
  refine specF_of t_copy_copier_fill (by simp) (famL_cons famA_pob (famL_cons famA_v (famL_cons famA_v (famL_cons (famL_ref l r) famL_nil)))) famA_v fun w0 I0 M0 m0 => ?_
  unfold c_copy_copier_fill
  have hlong := long_spec hs hm
  have hwide := wide_spec hs hm
  rw [eL] at hlong
  rw [eK] at hwide
  simp
  refine sc_call hlong (by simp) ?_
  simp [emin]
  refine fill_l1 hs (m := m) hm (n := nW t) (a := a) hnw (S := S) (by omega) (by omega) (fun q H' hH hA => ?_) (nW t) 0 _ (by omega) (fun p => by simp [setW]) (by simp)
  simp [hA]
  refine sc_call hwide (by simp) ?_
  simp [hA, ew]
  refine sc_fam 0 q4 hH (by simp) (by simp) ?_
  simp
  exact reth_fam rfl rfl (fun p => by simp)

theorem cStruct_spec {l : List (List Int)} (hs : Sg l) {m : Int} (hm0 : 0 ≤ m) (hm1 : m ≤ 131072) {t : T} (hF : FS l m t) (ih : ∀ c, c ∈ t.kids → VS l m c) {r : Rf} {S : Cp} {a : Nat} (hm : Means l r t) (hk : t.kind = 1) (ha : a < S.W.length) (hS : (S.W.length : Int) ≤ m) :
    ∃ S' : Cp, S.W.length ≤ S'.W.length ∧ (S'.W.length : Int) ≤ m ∧ ((S.W.length : Int) + sizeT (norm t) ≤ m → S'.W = layT (norm t) a S.W) ∧
      SpecF Try.prog 105 (fun q => [.pob [q] 1 0, nv a, paX l r]) (cpM m S) (fun _ => iv (if (S.W.length : Int) + sizeT (norm t) ≤ m then 0 else 3)) (cpM m S') := by
  have hln := means_len hm
  have hnw := nW_le t
  have hnk := nK_le t
  obtain ⟨l1, l2⟩ := norm_w_len hm
  have hlay : ∀ u, u ∈ (norm t).kids → LayOk u := by
    rw [norm_kids (means_bare hm)]
    have := kids_lay hm (.inl hk) (nK t) 0
    rwa [List.drop_zero] at this
  have hsz := sizeL_nonneg hlay
  have hnorm : norm t = .mk 1 (norm t).words (norm t).kids := by
    have := T.eta (norm t)
    rwa [norm_kind, hk] at this
  have eT : sizeT (norm t) = nW t + nK t + sizeL (norm t).kids := by
    rw [hnorm, sizeT_mk, if_pos rfl, T.kids_mk, l1, l2]
  have eL : (trimW t.words).length = nW t := by simp [nW, hk]
  have eK : (trimK t.kids).length = nK t := by simp [nK, hk]
  have hk65 : nK t < 65536 := by
    have hn := means_nk hm
    have hkk := means_kind hm
    have hok := means_ok hm
    have : nk r < 65536 := by cases hok <;> simp [Rf.zero, nk] at hkk ⊢ <;> omega
    omega
  have hw65 : nW t < 65536 := by
    have hn := (means_word hm).1
    have hkk := means_kind hm
    have hok := means_ok hm
    have : nwR r < 65536 := by cases hok <;> simp [Rf.zero, nwR] at hkk ⊢ <;> omega
    omega
  have hlong := long_spec hs hm
  have hwide := wide_spec hs hm
  rw [eL] at hlong
  rw [eK] at hwide
  have ew : IntKind.i64.wrap ((nW t : Int) + nK t) = ((nW t + nK t : Nat) : Int) := i64_same (by omega) (by omega)
  have hG := cGive_spec hm0 hm1 S (by omega) (nW t + nK t) (by omega)
  by_cases hg : (S.W.length : Int) + (nW t + nK t : Nat) ≤ m
  · obtain ⟨g1, g2⟩ := giveC_yes hg
    rw [g1, g2] at hG
    have hP := cPoint_spec (m := m) ⟨S.v + 1, S.W ++ List.replicate (nW t + nK t) 0⟩ (a := a) (by simp; omega) (by omega) (to := (S.W.length : Int)) (by omega) (by omega) ⟨1, 0, nW t, nK t, 0, 0, 0, false⟩ (by simp) (by simp; omega) (by simp) (by simp; omega)
    obtain ⟨S', q1, q2, q3, q4⟩ := hF r ⟨S.v + 1, (S.W ++ List.replicate (nW t + nK t) 0).set a (encW (ptQ ⟨1, 0, nW t, nK t, 0, 0, 0, false⟩ a S.W.length))⟩ S.W.length (nW t) hm hk (Nat.le_refl _) (by omega) (by simp; omega) (by simp; omega)
    simp only [List.length_set, List.length_append, List.length_replicate] at q1 q2 q3 q4
    refine ⟨S', by omega, q2, fun hh => ?_, ?_⟩
    · rw [q3 (by omega), enc_str (by omega) (by omega) (by omega) (by omega) (by omega) (by omega) (by omega) (by omega)]
      have hset : ∀ P : Int, (S.W ++ List.replicate (nW t + nK t) 0).set a P = S.W.set a P ++ List.replicate (nW t + nK t) 0 := fun P => by rw [List.set_append_left _ _ ha]
      rw [hset]
      have hsw := setW_app (norm t).words (S.W.set a (ptrZ a (if (nW t : Int) + nK t = 0 then (a : Int) else S.W.length) 0 (nW t + 65536 * nK t))) (List.replicate (nW t + nK t) 0) (by simp; omega)
      rw [List.length_set] at hsw
      rw [hsw]
      conv => rhs; rw [hnorm, layT_mk, if_neg (by decide), if_pos rfl]
      rw [l1, l2]
      have hz : ((nW t : Int) + nK t = 0) = (nW t + nK t = 0) := by
        rw [eq_iff_iff]
        omega
      simp only [hz]
      have hdrop : List.drop (nW t) (List.replicate (nW t + nK t) (0 : Int)) = List.replicate (nK t) 0 := by simp
      rw [hdrop]
    · generalize hres : (if (S.W.length : Int) + sizeT (norm t) ≤ m then (0 : Int) else 3) = res
      have hres' : (if ((S.W.length + (nW t + nK t) : Nat) : Int) + sizeL (norm t).kids ≤ m then (0 : Int) else 3) = res := by
        rw [← hres]
        by_cases h : (S.W.length : Int) + sizeT (norm t) ≤ m
        · rw [if_pos h, if_pos (by omega)]
        · rw [if_neg h, if_neg (by omega)]
      rw [hres'] at q4
      refine specF_of t_copy_copier_structure (by simp) (famL_cons famA_pob (famL_cons famA_v (famL_cons (famL_ref l r) famL_nil))) famA_v fun w0 I0 M0 m0 => ?_
      unfold c_copy_copier_structure
      simp
      refine sc_call hlong (by simp) ?_
      simp
      refine sc_call hwide (by simp) ?_
      simp [ew]
      refine sc_fam 0 hG (fun p => by simp) (by simp) (by simp) ?_
      simp
      refine sc_fam 0 hP (fun p => by simp) (by simp) (by simp) ?_
      simp
      refine sc_fam 0 q4 (fun p => by simp) (by simp) (by simp) ?_
      simp
      exact reth_fam rfl rfl fun p => by simp
  · obtain ⟨g1, g2⟩ := giveC_no hg
    rw [g1, g2] at hG
    have hnf : ¬ (S.W.length : Int) + sizeT (norm t) ≤ m := by omega
    refine ⟨S, Nat.le_refl _, hS, fun hh => absurd hh hnf, ?_⟩
    rw [if_neg hnf]
    refine specF_of t_copy_copier_structure (by simp) (famL_cons famA_pob (famL_cons famA_v (famL_cons (famL_ref l r) famL_nil))) famA_v fun w0 I0 M0 m0 => ?_
    unfold c_copy_copier_structure
    simp
    refine sc_call hlong (by simp) ?_
    simp
    refine sc_call hwide (by simp) ?_
    simp [ew]
    refine sc_fam 0 hG (fun p => by simp) (by simp) (by simp) ?_
    simp
    exact reth_fam rfl rfl fun p => by simp
end Go.Proofs.Ytigdcnlhgelkaaa

/-
  Chapter 14: lists are laid; values.
-/
namespace Go.Proofs.Ytigdcnlhgelkaaa
set_option linter.unusedVariables false
set_option linter.unusedSimpArgs false
open Go Go.G Go.Proofs Go.PL

theorem frameW_snoc : ∀ (l : List T) (x : T), frameW (l ++ [x]) = max (frameW l) x.words.length
  | [], x => by simp [frameW]
  | y :: l, x => by simp only [List.cons_append, frameW, frameW_snoc l]; omega
theorem frameK_snoc : ∀ (l : List T) (x : T), frameK (l ++ [x]) = max (frameK l) x.kids.length
  | [], x => by simp [frameK]
  | y :: l, x => by simp only [List.cons_append, frameK, frameK_snoc l]; omega
theorem frame_bound {ts : List T} {w k : Nat} (h : ∀ t, t ∈ ts → t.words.length ≤ w ∧ t.kids.length ≤ k) : frameW ts ≤ w ∧ frameK ts ≤ k := by
  induction ts with
  | nil => simp [frameW, frameK]
  | cons t ts ih =>
    have h1 := h t (by simp)
    have h2 := ih fun u hu => h u (by simp [hu])
    simp only [frameW, frameK]
    omega
section
variable {n0 : Nat} {w0 : World} {I0 : Nat → Prop} {Q : Exit → Sta → Prop}
theorem cframe_l1 {l : List (List Int)} (hs : Sg l) {r : Rf} {t : T} (hm : Means l r t) (hk : t.kind = 9) (hq : ∀ q H', Q (.exit 0) ⟨lk [(1, .pob [0] 1 0), (5, nv (frameW (t.kids.map norm))), (6, nv (frameK (t.kids.map norm))), (12, nv t.kids.length), (13, nv t.kids.length), (14, bv q)], H'⟩) :
    ∀ (j i : Nat) (H : Hp), i + j = t.kids.length → H [0] = ⟨1, .cells (paL l r)⟩ →
    LoopC (cx Try.prog w0 I0 n0) l1_copy_frame Q ⟨lk [(1, .pob [0] 1 0), (5, nv (frameW ((t.kids.take i).map norm))), (6, nv (frameK ((t.kids.take i).map norm))), (12, nv t.kids.length), (13, nv i)], H⟩ := by
  have hln := means_len hm
  intro j
  induction j with
  | zero =>
    intro i H hi hA
    have : i = t.kids.length := by omega
    subst this
    rw [List.take_of_length_le (Nat.le_refl _)]
    refine loopC_once mixed l1_copy_frame.eq_1 ?_
    simp
    exact hq _ H
  | succ j ihj =>
    intro i H hi hA
    have hlt : i < t.kids.length := by omega
    have ei : IntKind.i64.wrap ((i : Int) + 1) = ((i + 1 : Nat) : Int) := i64_same (by omega) (by omega)
    obtain ⟨k1, k2⟩ := means_kid hm hlt
    have hkk := means_kind k2
    have hr := means_kind hm
    have hnk := means_nk hm
    rw [kid_comp (by omega) (by omega) (by omega)] at hkk
    obtain ⟨l1, l2⟩ := norm_w_len k2
    have hlong := long_spec hs k2
    have hwide := wide_spec hs k2
    have eL : (trimW t.kids[i].words).length = (norm t.kids[i]).words.length := by rw [l1]; simp [nW, ← hkk]
    have eK : (trimK t.kids[i].kids).length = (norm t.kids[i]).kids.length := by rw [l2]; simp [nK, ← hkk]
    rw [eL] at hlong
    rw [eK] at hwide
    have htk : (t.kids.take (i + 1)).map norm = (t.kids.take i).map norm ++ [norm t.kids[i]] := by rw [List.take_succ_eq_append_getElem hlt, List.map_append]; rfl
    have ihn := ihj (i + 1)
    rw [htk, frameW_snoc, frameK_snoc] at ihn
    generalize frameW ((t.kids.take i).map norm) = fw at ihn ⊢
    generalize frameK ((t.kids.take i).map norm) = fk at ihn ⊢
    obtain ⟨x1, hx1⟩ : ∃ x : Nat, max fw (norm t.kids[i]).words.length = x := ⟨_, rfl⟩
    obtain ⟨x2, hx2⟩ : ∃ x : Nat, max fk (norm t.kids[i]).kids.length = x := ⟨_, rfl⟩
    rw [hx1, hx2] at ihn
    have m1 : max (fw : Int) ((norm t.kids[i]).words.length : Int) = (x1 : Int) := by omega
    have m2 : max (fk : Int) ((norm t.kids[i]).kids.length : Int) = (x2 : Int) := by omega
    refine loopC_once mixed l1_copy_frame.eq_1 ?_
    simp [hlt, hA]
    refine sc_call (kid_spec hs (means_ok hm) i) (by simp) ?_
    simp [k1, updF_app]
    refine sc_call hwide (by simp) ?_
    simp [updF_app]
    refine sc_call hlong (by simp) ?_
    simp [ei, m1, m2]
    refine ihn _ (by omega) ?_
    simp [updF_app, hA]
end
theorem cFrame_spec {l : List (List Int)} (hs : Sg l) {r : Rf} {t : T} (hm : Means l r t) (hk : t.kind = 9) : G.Spec Try.prog 133 [paX l r] (.tup [nv (frameW (t.kids.map norm)), nv (frameK (t.kids.map norm)), iv 0]) := by
  refine spec_of t_copy_frame (by simp) fun w0 I0 => ?_
  unfold c_copy_frame
  simp
  refine sc_call (refKids_spec' l r) (by simp) ?_
  rw [means_nk hm]
  simp
  refine cframe_l1 hs hm hk (fun q H' => ?_) t.kids.length 0 _ (by omega) (by simp)
  simp
  exact frz_bare rfl
theorem comp_kid {l : List (List Int)} {r : Rf} {t : T} (hm : Means l r t) (hk : t.kind = 9) {i : Nat} (hi : i < t.kids.length) : t.kids[i].kind = 1 ∧ (∀ u, u ∈ (norm t.kids[i]).kids → LayOk u) := by
  obtain ⟨h1, h2⟩ := means_kid hm hi
  have hr := means_kind hm
  have hnk := means_nk hm
  have hkk := means_kind h2
  rw [kid_comp (by omega) (by omega) (by omega)] at hkk
  refine ⟨hkk.symm, ?_⟩
  rw [norm_kids (means_bare h2)]
  have := kids_lay h2 (.inl hkk.symm) (nK t.kids[i]) 0
  rwa [List.drop_zero] at this
theorem sizeLL_nonneg {ts : List T} (h : ∀ t, t ∈ ts → ∀ u, u ∈ t.kids → LayOk u) : 0 ≤ sizeLL ts := by
  induction ts with
  | nil => simp
  | cons t ts ih =>
    rw [sizeLL_cons]
    have := sizeL_nonneg (h t (by simp))
    have := ih fun u hu => h u (by simp [hu])
    omega
theorem comp_l1 {l : List (List Int)} (hs : Sg l) {m : Int} (hm0 : 0 ≤ m) (hm1 : m ≤ 131072) {r : Rf} {t : T} (hm : Means l r t) (hk : t.kind = 9) (ih : ∀ c, c ∈ t.kids → FS l m c) {w long to : Nat} (hw : ∀ c, c ∈ t.kids → nW c ≤ w ∧ w + nK c ≤ long) (hw2 : w ≤ 65536) : ∀ (j i : Nat) (S : Cp), i + j = t.kids.length → to + 1 + t.kids.length * long ≤ S.W.length → (S.W.length : Int) ≤ m →
    ∃ S' : Cp, S.W.length ≤ S'.W.length ∧ (S'.W.length : Int) ≤ m ∧ ((S.W.length : Int) + sizeLL ((t.kids.drop i).map norm) ≤ m → S'.W = cpC w long ((t.kids.drop i).map norm) (to + 1 + i * long) S.W) ∧
      ∀ {n0 : Nat} {w0 : World} {I0 M0 : Nat → Prop} {m0 : Mu} {Q : Exit → Sta → Prop} (H : Hp), (∀ p, H (0 :: p) = cpF m 0 S p) → H [1] = ⟨1, .cells (paL l r)⟩ →
      ((S.W.length : Int) + sizeLL ((t.kids.drop i).map norm) ≤ m → ∀ q H', (∀ p, H' (0 :: p) = cpF m 0 S' p) → Q (.exit 0) ⟨lk [(0, .pob [0] 1 0), (5, .pob [1] 1 0), (7, nv w), (10, nv long), (11, nv to), (65, nv t.kids.length), (66, nv t.kids.length), (67, bv q)], H'⟩) →
      (¬ (S.W.length : Int) + sizeLL ((t.kids.drop i).map norm) ≤ m → ∀ H', (∀ p, H' (0 :: p) = cpF m 0 S' p) → Q .ret ⟨lk [(6, iv 3)], H'⟩) →
      LoopC (cxh Try.prog w0 I0 M0 n0 m0) l1_copy_copier_composite Q ⟨lk [(0, .pob [0] 1 0), (5, .pob [1] 1 0), (7, nv w), (10, nv long), (11, nv to), (65, nv t.kids.length), (66, nv i)], H⟩ := by
  have hln := means_len hm
  intro j
  induction j with
  | zero =>
    intro i S hi ha hS
    have : i = t.kids.length := by omega
    subst this
    have hd : t.kids.drop t.kids.length = [] := List.drop_eq_nil_of_le (Nat.le_refl _)
    refine ⟨S, Nat.le_refl _, hS, fun _ => by rw [hd]; simp [cpC], fun H hH hA hq _ => ?_⟩
    rw [hd] at hq
    refine loopC_once mixed l1_copy_copier_composite.eq_1 ?_
    simp
    exact hq (by simpa using hS) _ H hH
  | succ j ihj =>
    intro i S hi ha hS
    have hlt : i < t.kids.length := by omega
    have hdr : t.kids.drop i = t.kids[i] :: t.kids.drop (i + 1) := List.drop_eq_getElem_cons hlt
    have hil : (i + 1) * long ≤ t.kids.length * long := Nat.mul_le_mul_right _ (by omega)
    rw [Nat.add_mul, Nat.one_mul] at hil
    have ei : IntKind.i64.wrap ((i : Int) + 1) = ((i + 1 : Nat) : Int) := i64_same (by omega) (by omega)
    have em : IntKind.i64.wrap ((i : Int) * long) = ((i * long : Nat) : Int) := by
      rw [Int.natCast_mul]
      have : (i : Int) * long = ((i * long : Nat) : Int) := by rw [Int.natCast_mul]
      exact i64_same (by omega) (by omega)
    have et : IntKind.i64.wrap ((to : Int) + 1) = ((to + 1 : Nat) : Int) := i64_same (by omega) (by omega)
    have ea : IntKind.i64.wrap ((to : Int) + 1 + (i : Int) * long) = (to : Int) + 1 + (i : Int) * long := by
      have : (i : Int) * long = ((i * long : Nat) : Int) := by rw [Int.natCast_mul]
      exact i64_same (by omega) (by omega)
    obtain ⟨k1, k2⟩ := means_kid hm hlt
    obtain ⟨c1, clay⟩ := comp_kid hm hk hlt
    obtain ⟨w1, w2⟩ := hw _ (List.getElem_mem hlt)
    obtain ⟨S1, q1, q2, q3, q4⟩ := ih _ (List.getElem_mem hlt) _ S (to + 1 + i * long) w k2 c1 w1 hw2 (by omega) hS
    have hrest : 0 ≤ sizeLL ((t.kids.drop (i + 1)).map norm) := sizeLL_nonneg fun u hu => by
      obtain ⟨v, hv, rfl⟩ := List.mem_map.1 hu
      obtain ⟨x, hx, rfl⟩ := List.mem_iff_getElem.1 (List.mem_of_mem_drop hv)
      exact (comp_kid hm hk hx).2
    rw [hdr]
    simp only [List.map_cons, sizeLL_cons, cpC]
    by_cases hf : (S.W.length : Int) + sizeL (norm t.kids[i]).kids ≤ m
    · have hW := q3 hf
      have hlen := layL_len clay (to + 1 + i * long + w) (setW (to + 1 + i * long) (norm t.kids[i]).words S.W)
      rw [← hW, setW_length] at hlen
      rw [if_pos hf] at q4
      obtain ⟨S2, p1, p2, p3, p4⟩ := ihj (i + 1) S1 (by omega) (by omega) (by omega)
      refine ⟨S2, by omega, p2, fun hh => ?_, fun H hH hA hq hq2 => ?_⟩
      · rw [p3 (by omega), hW, show to + 1 + (i + 1) * long = to + 1 + i * long + long from by rw [Nat.add_mul, Nat.one_mul]; omega]
      · refine loopC_once mixed l1_copy_copier_composite.eq_1 ?_
        simp [hlt, hA]
        refine sc_call (kid_spec hs (means_ok hm) i) (by simp) ?_
        simp [k1, updF_app, em, et, ea]
        refine sc_fam 0 q4 (fun p => by simp [updF_app, hH]) (by simp) (by simp) ?_
        simp [ei]
        exact p4 _ (fun p => by simp) (by simp [updF_app, hA]) (fun hh => hq (by omega)) fun hh => hq2 (by omega)
    · rw [if_neg hf] at q4
      refine ⟨S1, q1, q2, fun hh => by omega, fun H hH hA hq hq2 => ?_⟩
      refine loopC_once mixed l1_copy_copier_composite.eq_1 ?_
      simp [hlt, hA]
      refine sc_call (kid_spec hs (means_ok hm) i) (by simp) ?_
      simp [k1, updF_app, em, et, ea]
      refine sc_fam 0 q4 (fun p => by simp [updF_app, hH]) (by simp) (by simp) ?_
      simp
      exact hq2 (by omega) _ (fun p => by simp)
theorem cComp_spec {l : List (List Int)} (hs : Sg l) {m : Int} (hm0 : 0 ≤ m) (hm1 : m ≤ 131072) {t : T} (ih : ∀ c, c ∈ t.kids → FS l m c) {r : Rf} {S : Cp} {a : Nat} (hm : Means l r t) (hk : t.kind = 9) (ha : a < S.W.length) (hS : (S.W.length : Int) ≤ m) :
    ∃ S' : Cp, S.W.length ≤ S'.W.length ∧ (S'.W.length : Int) ≤ m ∧ ((S.W.length : Int) + sizeT (norm t) ≤ m → S'.W = layT (norm t) a S.W) ∧
      SpecF Try.prog 106 (fun q => [.pob [q] 1 0, nv a, paX l r]) (cpM m S) (fun _ => iv (if (S.W.length : Int) + sizeT (norm t) ≤ m then 0 else 3)) (cpM m S') := by
  have hln := means_len hm
  have hkr := means_kind hm
  have hnk := means_nk hm
  have hwd := (means_word hm).1
  have hw0 : t.words = [] := List.eq_nil_of_length_eq_zero (by have : nwR r = 0 := by simp [nwR, hkr, hk]
                                                               omega)
  have hnorm : norm t = .mk 9 [] (t.kids.map norm) := by
    rw [T.eta t, norm_mk]
    simp [hk, hw0]
  have hbound := frame_bound (ts := t.kids.map norm) (w := 65535) (k := 65535) fun u hu => by
    obtain ⟨v, hv, rfl⟩ := List.mem_map.1 hu
    obtain ⟨i, hi, rfl⟩ := List.mem_iff_getElem.1 hv
    obtain ⟨c1, _⟩ := comp_kid hm hk hi
    have k2 := (means_kid hm hi).2
    obtain ⟨l1, l2⟩ := norm_w_len k2
    have := nW_le t.kids[i]
    have := nK_le t.kids[i]
    have hn := means_nk k2
    have hw := (means_word k2).1
    have hkk := means_kind k2
    have hok := means_ok k2
    have : nk (kidP l r i).1 < 65536 ∧ nwR (kidP l r i).1 < 65536 := by
      generalize (kidP l r i).1 = x at hkk hok
      cases hok <;> simp [Rf.zero, nk, nwR] at hkk ⊢ <;> omega
    omega
  have hcond : ∀ c, c ∈ t.kids → nW c ≤ frameW (t.kids.map norm) ∧ frameW (t.kids.map norm) + nK c ≤ frameW (t.kids.map norm) + frameK (t.kids.map norm) := fun c hc => by
    obtain ⟨i, hi, rfl⟩ := List.mem_iff_getElem.1 hc
    obtain ⟨l1, l2⟩ := norm_w_len (means_kid hm hi).2
    have h1 := frameW_le (ts := t.kids.map norm) (List.mem_map.2 ⟨_, hc, rfl⟩)
    have h2 := frameK_le (ts := t.kids.map norm) (List.mem_map.2 ⟨_, hc, rfl⟩)
    omega
  have hcond2 : ∀ c, c ∈ t.kids.map norm → c.words.length ≤ frameW (t.kids.map norm) ∧ c.kids.length ≤ frameK (t.kids.map norm) := fun c hc => ⟨frameW_le hc, frameK_le hc⟩
  have hLL : 0 ≤ sizeLL (t.kids.map norm) := sizeLL_nonneg fun u hu => by
    obtain ⟨v, hv, rfl⟩ := List.mem_map.1 hu
    obtain ⟨x, hx, rfl⟩ := List.mem_iff_getElem.1 hv
    exact (comp_kid hm hk hx).2
  have hfr := cFrame_spec hs hm hk
  have eT : sizeT (norm t) = 1 + t.kids.length * ((frameW (t.kids.map norm) : Int) + frameK (t.kids.map norm)) + sizeLL (t.kids.map norm) := by
    rw [hnorm, sizeT_mk]
    simp
  have hlay : ∀ W, layT (norm t) a W = layC (frameW (t.kids.map norm)) (frameK (t.kids.map norm)) (t.kids.map norm) (W.length + 1) (W.set a (ptrZ a W.length 1 (7 + 8 * (t.kids.length * (frameW (t.kids.map norm) + frameK (t.kids.map norm)) : Nat))) ++ [4 * (t.kids.length : Int) + 4294967296 * ((frameW (t.kids.map norm) : Int) + 65536 * frameK (t.kids.map norm))] ++ rowsC (frameW (t.kids.map norm)) (frameK (t.kids.map norm)) (t.kids.map norm)) := fun W => by
    rw [hnorm, layT_mk, if_neg (by decide), if_neg (by decide), if_neg (by decide), if_pos rfl]
    simp
  have hl1 := comp_l1 hs hm0 hm1 hm hk ih (w := frameW (t.kids.map norm)) (long := frameW (t.kids.map norm) + frameK (t.kids.map norm)) (to := S.W.length) hcond (by omega) t.kids.length 0
  have hc2 := cpC_eq (w := frameW (t.kids.map norm)) (k := frameK (t.kids.map norm)) (t.kids.map norm)
  have hf2 := fillC_app (w := frameW (t.kids.map norm)) (k := frameK (t.kids.map norm)) (t.kids.map norm)
  rw [eT]
  simp only [hlay]
  clear hlay eT hcond hnorm
  generalize frameW (t.kids.map norm) = w at *
  generalize frameK (t.kids.map norm) = k at *
  have hnl : t.kids.length * (w + k) ≤ 536870912 * 131070 := Nat.mul_le_mul (by omega) (by omega)
  have hcast : (t.kids.length : Int) * ((w : Int) + k) = ((t.kids.length * (w + k) : Nat) : Int) := by rw [Int.natCast_mul, Int.natCast_add]
  rw [hcast]
  generalize hL : t.kids.length * (w + k) = L at *
  have e1 : IntKind.i64.wrap ((w : Int) + k) = (w : Int) + k := i64_same (by omega) (by omega)
  have e2 : IntKind.i64.wrap ((t.kids.length : Int) * ((w : Int) + k)) = (L : Int) := by rw [hcast]; exact i64_same (by omega) (by omega)
  have e3 : IntKind.i64.wrap (1 + (L : Int)) = ((1 + L : Nat) : Int) := (i64_same (by omega) (by omega)).trans (by omega)
  have hG := cGive_spec hm0 hm1 S (by omega) (1 + L) (by omega)
  by_cases hg : (S.W.length : Int) + (1 + L : Nat) ≤ m
  · obtain ⟨g1, g2⟩ := giveC_yes hg
    rw [g1, g2] at hG
    have hE := Encode_spec ⟨1, t.kids.length, w, k, 0, 0, 0, false⟩
    have htag : encW ⟨1, t.kids.length, w, k, 0, 0, 0, false⟩ = 4 * (t.kids.length : Int) + 4294967296 * ((w : Int) + 65536 * k) := by
      unfold encW
      simp only
      rw [if_pos trivial, if_pos (by omega)]
      omega
    rw [htag] at hE
    have hP := cPoint_spec (m := m) ⟨S.v + 1, (S.W ++ List.replicate (1 + L) 0).set S.W.length (4 * (t.kids.length : Int) + 4294967296 * ((w : Int) + 65536 * k))⟩ (a := a) (by simp; omega) (by omega) (to := (S.W.length : Int)) (by omega) (by omega) ⟨2, 0, 0, 0, 7, L, 0, false⟩ (by simp) (by simp) (by simp) (by simp)
    rw [enc_list (by omega) (by omega) (by omega) (by omega) (by omega) (by omega) (by omega) (by omega)] at hP
    have hW3 : ((S.W ++ List.replicate (1 + L) 0).set S.W.length (4 * (t.kids.length : Int) + 4294967296 * ((w : Int) + 65536 * k))).set a (ptrZ a S.W.length 1 (7 + 8 * (L : Int))) = (S.W.set a (ptrZ a S.W.length 1 (7 + 8 * (L : Int))) ++ [4 * (t.kids.length : Int) + 4294967296 * ((w : Int) + 65536 * k)]) ++ List.replicate L 0 := by
      rw [List.set_append_right _ _ (Nat.le_refl _), Nat.sub_self, Nat.add_comm 1 L, List.replicate_succ, List.set_cons_zero, List.set_append_left _ _ ha]
      simp
    simp only at hP
    rw [hW3] at hP
    obtain ⟨S', q1, q2, q3, q4⟩ := hl1 ⟨S.v + 1, (S.W.set a (ptrZ a S.W.length 1 (7 + 8 * (L : Int))) ++ [4 * (t.kids.length : Int) + 4294967296 * ((w : Int) + 65536 * k)]) ++ List.replicate L 0⟩ (by omega) (by simp; omega) (by simp; omega)
    simp only [List.length_append, List.length_set, List.length_replicate, List.length_singleton, List.drop_zero, Nat.zero_mul, Nat.add_zero] at q1 q2 q3 q4
    refine ⟨S', by omega, q2, fun hh => ?_, ?_⟩
    · rw [q3 (by omega), hc2 _ _ hcond2 (by simp [hL]; omega)]
      have := hf2 (S.W.set a (ptrZ a S.W.length 1 (7 + 8 * (L : Int))) ++ [4 * (t.kids.length : Int) + 4294967296 * ((w : Int) + 65536 * k)]) (fun u hu => by have := (hcond2 u hu).1; omega)
      simp only [List.length_append, List.length_set, List.length_singleton, List.length_map, hL] at this
      rw [this]
    · have key : ∀ res : Int, ((S.W.length : Int) + (1 + (L : Int) + sizeLL (t.kids.map norm)) ≤ m → res = 0) → (¬ (S.W.length : Int) + (1 + (L : Int) + sizeLL (t.kids.map norm)) ≤ m → res = 3) → SpecF Try.prog 106 (fun q => [.pob [q] 1 0, nv a, paX l r]) (cpM m S) (fun _ => iv res) (cpM m S') := fun res r0 r3 => by
        refine specF_of t_copy_copier_composite (by simp) (famL_cons famA_pob (famL_cons famA_v (famL_cons (famL_ref l r) famL_nil))) famA_v fun w0 I0 M0 m0 => ?_
        unfold c_copy_copier_composite
        simp
        refine sc_call hfr (by simp) ?_
        simp [e1]
        refine sc_call (refKids_spec' l r) (by simp) ?_
        rw [hnk]
        simp [e2, e3]
        refine sc_fam 0 hG (fun p => by simp) (by simp) (by simp) ?_
        simp
        refine sc_call (refKids_spec' l r) (by simp) ?_
        rw [hnk]
        simp
        refine sc_call hE (by simp) ?_
        have hlt1 : (S.W.length : Int) < S.W.length + (1 + (L : Int)) := by omega
        have hget : (List.map uv S.W ++ List.replicate (1 + L) (uv 0))[S.W.length]? = some (uv 0) := by
          rw [List.getElem?_append_right (by simp), Nat.add_comm 1 L, List.replicate_succ]
          simp
        simp [updF_app, hlt1, hget]
        refine sc_call (refKids_spec' l r) (by simp) ?_
        rw [hnk]
        simp [e2]
        refine sc_fam 0 hP (fun p => ?_) (by simp) (by simp) ?_
        · simp only [ov_cons, if_true, cpM_F]
          refine updF_is ?_ (fun h1 => ?_)
          · simp [List.map_set]
          · by_cases h0 : p = []
            · subst h0; simp
            · exact cpF_but h0 h1
        simp
        refine sc_call (refKids_spec' l r) (by simp) ?_
        rw [hnk]
        simp
        refine q4 _ (fun p => by simp) (by simp) (fun hf q H' hH => ?_) (fun hf H' hH => ?_)
        · rw [r0 (by omega)]
          simp
          exact reth_fam rfl rfl hH
        · rw [r3 (by omega)]
          exact reth_fam rfl rfl hH
      exact key _ (fun h => if_pos h) (fun h => if_neg h)
  · obtain ⟨g1, g2⟩ := giveC_no hg
    rw [g1, g2] at hG
    have hnf : ¬ (S.W.length : Int) + (1 + (L : Int) + sizeLL (t.kids.map norm)) ≤ m := by omega
    refine ⟨S, Nat.le_refl _, hS, fun hh => absurd hh hnf, ?_⟩
    rw [if_neg hnf]
    refine specF_of t_copy_copier_composite (by simp) (famL_cons famA_pob (famL_cons famA_v (famL_cons (famL_ref l r) famL_nil))) famA_v fun w0 I0 M0 m0 => ?_
    unfold c_copy_copier_composite
    simp
    refine sc_call hfr (by simp) ?_
    simp [e1]
    refine sc_call (refKids_spec' l r) (by simp) ?_
    rw [hnk]
    simp [e2, e3]
    refine sc_fam 0 hG (fun p => by simp) (by simp) (by simp) ?_
    simp
    exact reth_fam rfl rfl fun p => by simp

/-! ### data -/
theorem atom_words {l : List (List Int)} {r : Rf} {t : T} (hm : Means l r t) (hk : 2 ≤ t.kind) (hk7 : t.kind ≤ 7) {i : Nat} (hi : i < t.kids.length) : t.kids[i].kind = 10 ∧ t.kids[i].words = [hd t.kids[i]] := by
  obtain ⟨h1, h2⟩ := means_kid hm hi
  have hkr := means_kind hm
  have hnk := means_nk hm
  have hkk := means_kind h2
  have hw := (means_word h2).1
  have hkid : (kidP l r i).1.kind = 10 := by
    rw [kidP, if_neg (by omega), if_neg (by omega), if_neg (by omega), if_neg (by omega)]
  have hlen : t.kids[i].words.length = 1 := by
    have : nwR (kidP l r i).1 = 1 := by simp [nwR, hkid]
    omega
  refine ⟨by omega, ?_⟩
  match hq : t.kids[i].words, hlen with
  | [x], _ => simp [hd, hq]
end Go.Proofs.Ytigdcnlhgelkaaa

/-
  Chapters 1 and 14: numbers side by side.
-/
namespace Go.Proofs.Ytigdcnlhgelkaaa
set_option linter.unusedVariables false
set_option linter.unusedSimpArgs false
open Go Go.G Go.Proofs Go.PL

theorem width_cases {c : Int} (h0 : 0 ≤ c) (h6 : c < 6) : ∃ w : Nat, widthZ c = w ∧ bitsZ c = w ∧ (w = 0 ∨ w = 1 ∨ w = 8 ∨ w = 16 ∨ w = 32 ∨ w = 64) := by
  have : c = 0 ∨ c = 1 ∨ c = 2 ∨ c = 3 ∨ c = 4 ∨ c = 5 := by omega
  rcases this with rfl | rfl | rfl | rfl | rfl | rfl
  · exact ⟨0, rfl, rfl, by simp⟩
  · exact ⟨1, rfl, rfl, by simp⟩
  · exact ⟨8, rfl, rfl, by simp⟩
  · exact ⟨16, rfl, rfl, by simp⟩
  · exact ⟨32, rfl, rfl, by simp⟩
  · exact ⟨64, rfl, rfl, by simp⟩
theorem fits_lt {c n : Int} {w : Nat} (hw : widthZ c = w) (h0 : 0 ≤ n) (h : fitsZ c n = true) : n < 2 ^ w := by
  simp only [fitsZ, Bool.and_eq_true, decide_eq_true_eq, hw] at h
  have hp : (0 : Int) < 2 ^ w := Int.pow_pos (by decide)
  have h2 := h.2
  simp only [Int.toNat_natCast] at h2
  have h3 := Int.emod_add_mul_ediv n (2 ^ w)
  rw [h2, Int.mul_zero, Int.add_zero] at h3
  rw [← h3]
  exact Int.emod_lt_of_pos _ hp
theorem prod_mod {i w : Nat} (hw : w ≤ 64) (hi : i ≤ 1000000000) : IntKind.i64.wrap ((i : Int) * w) = (i : Int) * w ∧ ((i : Int) * w).tmod 64 = ((i * w % 64 : Nat) : Int) ∧ ((i : Int) * w).tdiv 64 = ((i * w / 64 : Nat) : Int) := by
  have him : i * w ≤ 1000000000 * 64 := Nat.mul_le_mul hi hw
  have e : (i : Int) * w = ((i * w : Nat) : Int) := by rw [Int.natCast_mul]
  rw [e]
  refine ⟨i64_same (by omega) (by omega), ?_, ?_⟩
  · rw [Int.tmod_eq_emod_of_nonneg (by omega)]; omega
  · rw [Int.tdiv_eq_ediv_of_nonneg (by omega)]; omega
section
variable {n0 : Nat} {w0 : World} {I0 : Nat → Prop} {Q : Exit → Sta → Prop}
theorem rPut_l1 {c : A} {ns : List Int} {w i s : Nat} {m : Nat} {H : Hp} (hw : w ≤ 64) (hi : i ≤ 1000000000) (hs : i * w % 64 = s) : ∀ (j k : Nat) (x : Int), k + j = s → 0 ≤ x → x * 2 ^ j < 18446744073709551616 → (∀ q, Q (.exit 2) ⟨lk [(0, c), (1, uws ns), (6, nv w), (7, .osl [0] 1 1 0 m), (8, nv i), (9, uv (x * 2 ^ j)), (10, nv s), (39, bv q)], H⟩) →
    LoopC (cx Try.prog w0 I0 n0) l1_centoref01_Put Q ⟨lk [(0, c), (1, uws ns), (6, nv w), (7, .osl [0] 1 1 0 m), (8, nv i), (9, uv x), (10, nv k)], H⟩ := by
  obtain ⟨e1, e2, _⟩ := prod_mod hw hi
  rw [hs] at e2
  have hs64 : s < 64 := by omega
  intro j
  induction j with
  | zero =>
    intro k x hk h0 hx hq
    have : k = s := by omega
    subst this
    refine loopC_once mixed l1_centoref01_Put.eq_1 ?_
    have := hq false
    simp [e1, e2] at this ⊢
    exact this
  | succ j ih =>
    intro k x hk h0 hx hq
    have hlt : k < s := by omega
    have ek : IntKind.i64.wrap ((k : Int) + 1) = ((k + 1 : Nat) : Int) := i64_same (by omega) (by omega)
    have hp : (0 : Int) < 2 ^ j := Int.pow_pos (by decide)
    rw [Int.pow_succ, Int.mul_comm (2 ^ j) 2, ← Int.mul_assoc] at hx hq
    have h2 : x * 2 ≤ x * 2 * 2 ^ j := by
      have := Int.mul_le_mul_of_nonneg_left (show (1 : Int) ≤ 2 ^ j by omega) (show 0 ≤ x * 2 by omega)
      omega
    have ex : IntKind.u64.wrap (x * 2) = x * 2 := u64_same (by omega) (by omega)
    refine loopC_once mixed l1_centoref01_Put.eq_1 ?_
    simp [e1, e2, hlt, ek, ex]
    exact ih (k + 1) (x * 2) (by omega) (by omega) hx hq
theorem rPut_l2 {c : Int} {ns : List Int} (hn : ns.length ≤ 1000000000) {w : Nat} (hw : w = 0 ∨ w = 1 ∨ w = 8 ∨ w = 16 ∨ w = 32 ∨ w = 64) (hwc : widthZ c = w) (hfit : ∀ x, x ∈ ns → u64R x ∧ fitsZ c x = true) {m : Nat} (hm : w ≠ 0 → m = (ns.length * w + 63) / 64)
    (hq : ∀ (q : Bool) (H' : Hp) (out : List Int), out = putL w ns 0 (List.replicate m 0) → H' [0] = ⟨1, .arr 1 (out.map uv)⟩ → Q (.exit 0) ⟨lk [(0, iv c), (1, uws ns), (6, nv w), (7, .osl [0] 1 1 0 m), (8, nv ns.length), (23, bv q)], H'⟩) :
    ∀ (j i : Nat) (out : List Int) (H : Hp), i + j = ns.length → out.length = m → (w ≠ 0 → PutI w i out) → putL w (ns.drop i) i out = putL w ns 0 (List.replicate m 0) → H [0] = ⟨1, .arr 1 (out.map uv)⟩ →
    LoopC (cx Try.prog w0 I0 n0) l2_centoref01_Put Q ⟨lk [(0, iv c), (1, uws ns), (6, nv w), (7, .osl [0] 1 1 0 m), (8, nv i)], H⟩ := by
  have hw64 : w ≤ 64 := by omega
  intro j
  induction j with
  | zero =>
    intro i out H hi hl hI hp hH
    have : i = ns.length := by omega
    subst this
    rw [List.drop_eq_nil_of_le (Nat.le_refl _), putL] at hp
    refine loopC_once mixed l2_centoref01_Put.eq_1 ?_
    simp
    exact hq _ H out hp hH
  | succ j ih =>
    intro i out H hi hl hI hp hH
    have hlt : i < ns.length := by omega
    have ei : IntKind.i64.wrap ((i : Int) + 1) = ((i + 1 : Nat) : Int) := i64_same (by omega) (by omega)
    obtain ⟨f1, f2⟩ := hfit _ (List.getElem_mem hlt)
    have f1' := f1
    unfold u64R at f1'
    have hx2 := fits_lt hwc f1'.1 f2
    obtain ⟨e1, e2, e3⟩ := prod_mod (i := i) hw64 (by omega)
    rw [List.drop_eq_getElem_cons hlt, putL] at hp
    refine loopC_once mixed l2_centoref01_Put.eq_1 ?_
    simp [hlt]
    refine sc_call (rFits_spec f1) (by simp) ?_
    simp [f2]
    by_cases h0 : w = 0
    · subst h0
      rw [if_pos rfl] at hp
      refine rPut_l1 (s := 0) hw64 (by omega) (by simp) 0 0 _ (by omega) f1'.1 (by simpa using f1'.2) (fun q => ?_)
      simp [ei]
      exact ih (i + 1) out H (by omega) hl (fun h => absurd rfl h) hp hH
    · rw [if_neg h0] at hp
      have hat : i * w / 64 < out.length := by rw [hl, hm h0]; exact put_at (by omega) hlt
      obtain ⟨p1, p2, p3, p4, p5⟩ := putI_step (hI h0) (by omega) f1'.1 hx2 hat
      refine rPut_l1 (s := i * w % 64) hw64 (by omega) rfl (i * w % 64) 0 _ (by omega) f1'.1 p4 (fun q => ?_)
      have hw0 : (0 : Int) < w := by omega
      have hw0' : 0 < w := by omega
      have hg : out.getD (i * w / 64) 0 = out[i * w / 64] := by simp [hat]
      have hat' : ((i * w / 64 : Nat) : Int) < m := by omega
      have hatm : i * w / 64 < m := by omega
      rw [hg] at p1 p2 p3 p5 hp
      have ex : IntKind.u64.wrap (out[i * w / 64] + ns[i] * 2 ^ (i * w % 64)) = out[i * w / 64] + ns[i] * 2 ^ (i * w % 64) := by
        have := Int.mul_nonneg f1'.1 (show (0 : Int) ≤ 2 ^ (i * w % 64) from Int.le_of_lt (Int.pow_pos (by decide)))
        exact u64_same (by omega) (by omega)
      have him : i * w ≤ 1000000000 * 64 := Nat.mul_le_mul (by omega) hw64
      have eP : IntKind.i64.wrap ((i * w / 64 : Nat) : Int) = ((i * w / 64 : Nat) : Int) := i64_same (by omega) (by omega)
      generalize i * w / 64 = P at *
      simp [ei, hw0', e1, e3, hH, hat, hatm, ex, eP]
      refine ih (i + 1) (out.set P (out[P] + ns[i] * 2 ^ (i * w % 64))) _ (by omega) (by simpa using hl) (fun _ => p1) hp ?_
      simp [List.map_set]
end
theorem rPut_spec {c : Int} (c0 : 0 ≤ c) (c6 : c < 6) {ns : List Int} (hn : ns.length ≤ 1000000000) (hfit : ∀ x, x ∈ ns → u64R x ∧ fitsZ c x = true) : G.Spec Try.prog 102 [iv c, uws ns] (.tup [uws (putZ c ns), bv true]) := by
  obtain ⟨w, w1, w2, w3⟩ := width_cases c0 c6
  have hroom : roomZ c ns.length = (((ns.length * w + 63) / 64 : Nat) : Int) := by
    unfold roomZ
    rw [if_neg (by omega), w2]
    have e : (ns.length : Int) * w = ((ns.length * w : Nat) : Int) := by rw [Int.natCast_mul]
    rw [e]
    omega
  have hm : (roomZ c ns.length).toNat = (ns.length * w + 63) / 64 := by rw [hroom]; omega
  have hb : (ns.length * w + 63) / 64 ≤ 1000000001 := by
    have : ns.length * w ≤ 1000000000 * 64 := Nat.mul_le_mul hn (by omega)
    omega
  refine spec_of t_centoref01_Put (by simp) fun w0 I0 => ?_
  unfold c_centoref01_Put
  simp
  refine sc_call (rWidth_spec c) rfl ?_
  rw [w1]
  have hnn : ¬ (w : Int) < 0 := by omega
  simp [hnn]
  refine sc_call (rRoom_spec c ns.length) (by simp) ?_
  rw [hroom]
  generalize hM : (ns.length * w + 63) / 64 = m at *
  have hm8 : (m : Int) * 8 ≤ 140737488355328 := by omega
  have hz : putZ c ns = putL w ns 0 (List.replicate m 0) := by
    unfold putZ
    rw [w1, hm]
    simp
  rw [hz]
  simp [hm8]
  refine ⟨by omega, ?_⟩
  refine rPut_l2 hn w3 w1 hfit (m := m) (fun _ => hM.symm) (fun q H' out ho hH => ?_) ns.length 0 (List.replicate m 0) _ (by omega) (by simp) (fun _ => PutI.start w m) (by simp) ?_
  rotate_left
  · simp
  subst ho
  simp
  refine frz_tup ?_
  simp
  exact ⟨frz_row (f := uv) (by rw [hH]; simp) (by simp [putL_length]) (fun x => by simp), frz_bare rfl⟩

/-! ### the copier's data -/
section
variable {n0 : Nat} {w0 : World} {I0 M0 : Nat → Prop} {m0 : Mu} {Q : Exit → Sta → Prop}
theorem data_l1 {l : List (List Int)} (hs : Sg l) {mm : Int} (hm0 : 0 ≤ mm) (hm1 : mm ≤ 131072) {r : Rf} {t : T} (hm : Means l r t) (k2 : 2 ≤ t.kind) (k7 : t.kind ≤ 7) {w : Nat} (hw : w = 0 ∨ w = 1 ∨ w = 8 ∨ w = 16 ∨ w = 32 ∨ w = 64) (hwc : widthZ (t.kind - 2) = w) (hfit : ∀ x, x ∈ t.kids.map hd → u64R x ∧ fitsZ (t.kind - 2) x = true) {m : Nat} (hM : w ≠ 0 → m = (t.kids.length * w + 63) / 64) {v : Nat} {B : List Int} {nB : Nat} (hBn : B.length = nB) (hB : ((B.length + m : Nat) : Int) ≤ mm)
    (hq : ∀ (H' : Hp) (i : Nat) (q : Bool), (∀ p, H' (0 :: p) = cpF mm 0 ⟨v, B ++ putL w (t.kids.map hd) 0 (List.replicate m 0)⟩ p) → Q (.exit 0) ⟨lk [(0, .pob [0] 1 0), (5, .pob [1] 1 0), (8, nv nB), (10, nv w), (43, nv t.kids.length), (44, nv i), (45, bv q)], H'⟩)
    (hq2 : w = 0 → ∀ (H' : Hp) (i : Nat), (∀ p, H' (0 :: p) = cpF mm 0 ⟨v, B ++ putL w (t.kids.map hd) 0 (List.replicate m 0)⟩ p) → Q (.exit 0) ⟨lk [(0, .pob [0] 1 0), (5, .pob [1] 1 0), (8, nv nB), (10, nv w), (12, nv i), (43, nv t.kids.length), (44, nv i), (48, bv true)], H'⟩) :
    ∀ (j i : Nat) (out : List Int) (H : Hp), i + j = t.kids.length → out.length = m → (w ≠ 0 → PutI w i out) → putL w ((t.kids.map hd).drop i) i out = putL w (t.kids.map hd) 0 (List.replicate m 0) → (∀ p, H (0 :: p) = cpF mm 0 ⟨v, B ++ out⟩ p) → H [1] = ⟨1, .cells (paL l r)⟩ → (w = 0 → out = putL w (t.kids.map hd) 0 (List.replicate m 0)) →
    LoopC (cxh Try.prog w0 I0 M0 n0 m0) l1_copy_copier_data Q ⟨lk [(0, .pob [0] 1 0), (5, .pob [1] 1 0), (8, nv nB), (10, nv w), (43, nv t.kids.length), (44, nv i)], H⟩ := by
  subst hBn
  have hln := means_len hm
  have hw64 : w ≤ 64 := by omega
  intro j
  induction j with
  | zero =>
    intro i out H hi hl hI hp hH hA h0w
    have : i = t.kids.length := by omega
    subst this
    rw [List.drop_eq_nil_of_le (by simp), putL] at hp
    subst hp
    refine loopC_once mixed l1_copy_copier_data.eq_1 ?_
    simp
    exact hq H _ _ hH
  | succ j ih =>
    intro i out H hi hl hI hp hH hA h0w
    have hlt : i < t.kids.length := by omega
    have hlt' : i < (t.kids.map hd).length := by simpa using hlt
    have ei : IntKind.i64.wrap ((i : Int) + 1) = ((i + 1 : Nat) : Int) := i64_same (by omega) (by omega)
    obtain ⟨e1, e2, e3⟩ := prod_mod (i := i) hw64 (by omega)
    refine loopC_once mixed l1_copy_copier_data.eq_1 ?_
    by_cases h0 : w = 0
    · have hdone := h0w h0
      subst hdone
      have h00 : (w : Int) = 0 := by omega
      simp [hlt, h0]
      have := hq2 h0 H i hH
      simp [h0] at this
      exact this
    · obtain ⟨k1, kk⟩ := means_kid hm hlt
      obtain ⟨a1, a2⟩ := atom_words hm k2 k7 hlt
      have hwd := (means_word kk).2 0 (by rw [a2]; simp)
      simp only [a2, List.getElem_cons_zero] at hwd
      obtain ⟨f1, f2⟩ := hfit (hd t.kids[i]) (List.mem_map.2 ⟨_, List.getElem_mem hlt, rfl⟩)
      have f1' := f1
      unfold u64R at f1'
      have hx2 := fits_lt hwc f1'.1 f2
      rw [List.drop_eq_getElem_cons hlt', putL, if_neg h0, List.getElem_map] at hp
      have hat : i * w / 64 < out.length := by rw [hl, hM h0]; exact put_at (by omega) hlt
      obtain ⟨p1, p2, p3, p4, p5⟩ := putI_step (hI h0) (by omega) f1'.1 hx2 hat
      have hg : out.getD (i * w / 64) 0 = out[i * w / 64] := by simp [hat]
      have hatm : i * w / 64 < m := by omega
      rw [hg] at p1 p2 p3 p5 hp
      have hnn := Int.mul_nonneg f1'.1 (show (0 : Int) ≤ 2 ^ (i * w % 64) from Int.le_of_lt (Int.pow_pos (by decide)))
      have hs64 : i * w % 64 < 64 := Nat.mod_lt _ (by decide)
      have esh : IntKind.u64.wrap (hd t.kids[i] * 2 ^ min (i * w % 64) IntKind.u64.bits) = hd t.kids[i] * 2 ^ (i * w % 64) := by
        rw [show min (i * w % 64) IntKind.u64.bits = i * w % 64 from by simp [IntKind.bits]; omega]
        exact u64_same hnn p4
      have hor : bits .or .u64 out[i * w / 64] (hd t.kids[i] * 2 ^ (i * w % 64)) = out[i * w / 64] + hd t.kids[i] * 2 ^ (i * w % 64) :=
        u64_or' (i * w % 64) p2 p3 (by omega) hnn (Int.mul_emod_left _ _) p4
      have him : i * w ≤ 1000000000 * 64 := Nat.mul_le_mul (by omega) hw64
      have eP : IntKind.i64.wrap ((i * w / 64 : Nat) : Int) = ((i * w / 64 : Nat) : Int) := i64_same (by omega) (by omega)
      have eS : IntKind.i64.wrap ((i * w % 64 : Nat) : Int) = ((i * w % 64 : Nat) : Int) := i64_same (by omega) (by omega)
      have eBP : IntKind.i64.wrap ((B.length : Int) + ((i * w / 64 : Nat) : Int)) = (B.length : Int) + ((i * w / 64 : Nat) : Int) := i64_same (by omega) (by omega)
      have hgetB : (B ++ out)[B.length + i * w / 64]? = some out[i * w / 64] := by
        rw [List.getElem?_append_right (by omega), Nat.add_sub_cancel_left, List.getElem?_eq_getElem hat]
      have hsetB : ∀ y, (B ++ out).set (B.length + i * w / 64) y = B ++ out.set (i * w / 64) y := fun y => by
        rw [List.set_append_right _ _ (by omega), Nat.add_sub_cancel_left]
      have h0' : ¬ (w : Int) = 0 := by omega
      generalize hS : i * w % 64 = s at *
      generalize hPP : i * w / 64 = P at *
      have etn : ((B.length : Int) + (P : Int)).toNat = B.length + P := by omega
      have hlt3 : (B.length : Int) + P < B.length + m := by omega
      have h03 : (0 : Int) ≤ (B.length : Int) + P := by omega
      simp [hlt, h0, hA]
      refine sc_call (kid_spec hs (means_ok hm) i) (by simp) ?_
      have hgetM : (List.map uv B ++ List.map uv out)[B.length + P]? = some (uv out[P]) := by
        rw [List.getElem?_append_right (by simp), List.length_map, Nat.add_sub_cancel_left, List.getElem?_map, List.getElem?_eq_getElem hat]
        rfl
      have hsetM : ∀ y, (List.map uv B ++ List.map uv out).set (B.length + P) y = List.map uv B ++ (List.map uv out).set P y := fun y => by
        rw [List.set_append_right _ _ (by simp), List.length_map, Nat.add_sub_cancel_left]
      simp [k1, updF_app, hA, hH, e1, e2, e3, eP, eS, eBP, etn, hl, hgetM, hatm, h03]
      refine sc_call (word_spec' hs (means_ok kk) 0) (by simp) ?_
      rw [show wordAt l (kidP l r i).1 0 = hd t.kids[i] from hwd]
      simp [updF_app, hH, e1, e2, e3, eP, eS, eBP, etn, hl, hgetM, hatm, h03, esh, hor, hsetM, ei]
      refine ih (i + 1) (out.set P (out[P] + hd t.kids[i] * 2 ^ s)) _ (by omega) (by simpa using hl) (fun _ => p1) hp (fun p => ?_) ?_ (fun h => absurd h h0)
      · by_cases hp1 : p = [0]
        · subst hp1
          simp [updF_app, List.map_set]
        · by_cases hp0 : p = []
          · subst hp0
            simp [updF_app, hH]
          · simp [updF_app, hp1, hH]
            exact cpF_but hp0 hp1
      · simp [updF_app, hA]
end
theorem cData_spec {l : List (List Int)} (hs : Sg l) {m : Int} (hm0 : 0 ≤ m) (hm1 : m ≤ 131072) {t : T} {r : Rf} {S : Cp} {a : Nat} (hm : Means l r t) (k2 : 2 ≤ t.kind) (k7 : t.kind ≤ 7) (hfit : ∀ x, x ∈ t.kids.map hd → u64R x ∧ fitsZ (t.kind - 2) x = true) (ha : a < S.W.length) (hS : (S.W.length : Int) ≤ m) :
    ∃ S' : Cp, S.W.length ≤ S'.W.length ∧ (S'.W.length : Int) ≤ m ∧ ((S.W.length : Int) + sizeT (norm t) ≤ m → S'.W = layT (norm t) a S.W) ∧
      SpecF Try.prog 109 (fun q => [.pob [q] 1 0, nv a, paX l r]) (cpM m S) (fun _ => iv (if (S.W.length : Int) + sizeT (norm t) ≤ m then 0 else 3)) (cpM m S') := by
  have hln := means_len hm
  have hkr := means_kind hm
  have hnk := means_nk hm
  have hnorm : norm t = .mk t.kind t.words (t.kids.map norm) := by
    conv => lhs; rw [T.eta t, norm_mk, if_neg (by omega), if_neg (by omega)]
  have hhd : (t.kids.map norm).map hd = t.kids.map hd := by
    rw [List.map_map]
    refine List.map_congr_left fun c hc => ?_
    obtain ⟨i, hi, rfl⟩ := List.mem_iff_getElem.1 hc
    obtain ⟨a1, a2⟩ := atom_words hm k2 k7 hi
    have := norm_words (means_bare (means_kid hm hi).2)
    simp only [Function.comp, hd, this]
    simp [nW, a1]
  have eT : sizeT (norm t) = roomZ (t.kind - 2) t.kids.length := by
    rw [hnorm, sizeT_mk, if_neg (by omega), if_neg (by omega), if_pos ⟨k2, k7⟩, List.length_map]
  have hlay : layT (norm t) a S.W = S.W.set a (ptrZ a S.W.length 1 (t.kind - 2 + 8 * t.kids.length)) ++ putZ (t.kind - 2) (t.kids.map hd) := by
    rw [hnorm, layT_mk, if_neg (by omega), if_neg (by omega), if_neg (by omega), if_neg (by omega), hhd, List.length_map]
  obtain ⟨w, w1, w2, w3⟩ := width_cases (c := t.kind - 2) (by omega) (by omega)
  have hroom : roomZ (t.kind - 2) t.kids.length = (((t.kids.length * w + 63) / 64 : Nat) : Int) := by
    unfold roomZ
    rw [if_neg (by omega), w2]
    have e : (t.kids.length : Int) * w = ((t.kids.length * w : Nat) : Int) := by rw [Int.natCast_mul]
    rw [e]
    omega
  have hb : (t.kids.length * w + 63) / 64 ≤ 1000000001 := by
    have : t.kids.length * w ≤ 1000000000 * 64 := Nat.mul_le_mul (by omega) (by omega)
    omega
  have hput : putZ (t.kind - 2) (t.kids.map hd) = putL w (t.kids.map hd) 0 (List.replicate ((t.kids.length * w + 63) / 64) 0) := by
    unfold putZ
    rw [w1, List.length_map, hroom]
    simp only [Int.toNat_natCast]
  rw [eT, hlay, hroom, hput]
  generalize hM : (t.kids.length * w + 63) / 64 = L at *
  have hG := cGive_spec hm0 hm1 S (by omega) L (by omega)
  have ek : IntKind.i64.wrap (t.kind - 2) = t.kind - 2 := i64_same (by omega) (by omega)
  have hwn : ¬ (w : Int) < 0 := by omega
  by_cases hg : (S.W.length : Int) + (L : Nat) ≤ m
  · obtain ⟨g1, g2⟩ := giveC_yes hg
    rw [g1, g2] at hG
    have hP := cPoint_spec (m := m) ⟨S.v + 1, S.W ++ List.replicate L 0⟩ (a := a) (by simp; omega) (by omega) (to := (S.W.length : Int)) (by omega) (by omega) ⟨2, 0, 0, 0, t.kind - 2, t.kids.length, 0, false⟩ (by simp) (by simp) (by simp) (by simp)
    rw [enc_list (by omega) (by omega) (by omega) (by omega) (by omega) (by omega) (by omega) (by omega)] at hP
    simp only at hP
    rw [List.set_append_left _ _ ha] at hP
    refine ⟨⟨S.v + 1, S.W.set a (ptrZ a S.W.length 1 (t.kind - 2 + 8 * t.kids.length)) ++ putL w (t.kids.map hd) 0 (List.replicate L 0)⟩, by simp, by simp [putL_length]; omega, fun _ => rfl, ?_⟩
    rw [if_pos hg]
    have hl1 := fun {n0 w0 I0 M0 m0} => @data_l1 n0 w0 I0 M0 m0
    refine specF_of t_copy_copier_data (by simp) (famL_cons famA_pob (famL_cons famA_v (famL_cons (famL_ref l r) famL_nil))) famA_v fun w0 I0 M0 m0 => ?_
    unfold c_copy_copier_data
    simp
    refine sc_call (refKind_spec l r) (by simp) ?_
    rw [hkr]
    simp [ek]
    refine sc_call (refKids_spec' l r) (by simp) ?_
    rw [hnk]
    simp
    refine sc_call (room_spec' (t.kind - 2) t.kids.length) (by simp) ?_
    rw [hroom]
    simp
    refine sc_fam 0 hG (fun p => by simp) (by simp) (by simp) ?_
    simp
    refine sc_call (wWidth_spec (t.kind - 2)) (by simp) ?_
    rw [w1, if_neg hwn]
    simp
    refine sc_call (refKids_spec' l r) (by simp) ?_
    rw [hnk]
    simp
    refine sc_fam 0 hP (fun p => by simp) (by simp) (by simp) ?_
    simp
    refine sc_call (refKids_spec' l r) (by simp) ?_
    rw [hnk]
    simp
    refine data_l1 hs hm0 hm1 hm k2 k7 w3 w1 hfit (m := L) (fun _ => hM.symm) (v := S.v + 1) (B := S.W.set a (ptrZ a S.W.length 1 (t.kind - 2 + 8 * t.kids.length))) (by simp) (by simp; omega) (fun H' i q hH => ?_) (fun h0 H' i hH => ?_) t.kids.length 0 (List.replicate L 0) _ (by omega) (by simp) (fun _ => PutI.start w L) (by simp) (fun p => by simp) (by simp) (fun h0 => ?_)
    · simp
      exact reth_fam rfl rfl hH
    · simp
      exact reth_fam rfl rfl hH
    · subst h0
      have : ∀ (ns : List Int) (i : Nat) (o : List Int), putL 0 ns i o = o := fun ns => by
        induction ns with
        | nil => intro i o; rfl
        | cons n ns ih => intro i o; rw [putL, if_pos rfl, ih]
      rw [this]
  · obtain ⟨g1, g2⟩ := giveC_no hg
    rw [g1, g2] at hG
    refine ⟨S, Nat.le_refl _, hS, fun hh => absurd hh hg, ?_⟩
    rw [if_neg hg]
    refine specF_of t_copy_copier_data (by simp) (famL_cons famA_pob (famL_cons famA_v (famL_cons (famL_ref l r) famL_nil))) famA_v fun w0 I0 M0 m0 => ?_
    unfold c_copy_copier_data
    simp
    refine sc_call (refKind_spec l r) (by simp) ?_
    rw [hkr]
    simp [ek]
    refine sc_call (refKids_spec' l r) (by simp) ?_
    rw [hnk]
    simp
    refine sc_call (room_spec' (t.kind - 2) t.kids.length) (by simp) ?_
    rw [hroom]
    simp
    refine sc_fam 0 hG (fun p => by simp) (by simp) (by simp) ?_
    simp
    exact reth_fam rfl rfl fun p => by simp

/-! ### values -/
/-- The numbers of a list of data fit. -/
theorem data_fits {l : List (List Int)} (hs : Sg l) {r : Rf} {t : T} (hm : Means l r t) (k2 : 2 ≤ t.kind) (k7 : t.kind ≤ 7) : ∀ x, x ∈ t.kids.map hd → u64R x ∧ fitsZ (t.kind - 2) x = true := fun x hx => by
  obtain ⟨c, hc, rfl⟩ := List.mem_map.1 hx
  obtain ⟨i, hi, rfl⟩ := List.mem_iff_getElem.1 hc
  obtain ⟨h1, kk⟩ := means_kid hm hi
  obtain ⟨a1, a2⟩ := atom_words hm k2 k7 hi
  have hkr := means_kind hm
  have hnk := means_nk hm
  have hwd := (means_word kk).2 0 (by rw [a2]; simp)
  simp only [a2, List.getElem_cons_zero] at hwd
  have hkid : kidP l r i = (⟨10, 0, 0, 0, 0, 0, atomZ l r i⟩, 0) := by
    rw [kidP, if_neg (by omega), if_neg (by omega), if_neg (by omega), if_neg (by omega)]
  rw [hkid] at hwd
  have e : hd t.kids[i] = atomZ l r i := by
    rw [← hwd]
    simp [wordAt, nwR]
  have hgx : ∀ x, x ∈ ((seg l r.s).getD []).drop r.at_.toNat → 0 ≤ x ∧ x < 18446744073709551616 := fun x hx => by
    have hx := List.mem_of_mem_drop hx
    cases e : seg l r.s with
    | none => rw [e] at hx; simp at hx
    | some g =>
      rw [e] at hx
      simp at hx
      obtain ⟨_, _, _, rfl⟩ := seg_some e
      exact hs.w _ (List.getElem_mem _) x hx
  rw [e, ← hkr]
  exact ⟨getZ_range hgx, getZ_fits hgx (by omega) (by omega)⟩
theorem cValue_spec {l : List (List Int)} (hs : Sg l) {m : Int} (hm0 : 0 ≤ m) (hm1 : m ≤ 131072) : ∀ t : T, VS l m t ∧ FS l m t := by
  refine T.ind fun k w ks ih => ?_
  have hF : FS l m (.mk k w ks) := cFill_spec hs hm0 hm1 fun c hc => (ih c hc).1
  have hK : KS l m (.mk k w ks) := cKids_spec hs hm0 hm1 fun c hc => (ih c hc).1
  refine ⟨fun r S a hm h10 ha hS => ?_, hF⟩
  have hkr := means_kind hm
  have hnk := means_nk hm
  have hb := rf_kind (means_ok hm)
  have hln := means_len hm
  have args := famL_cons (famA_pob (u := 1) (off := 0) (q := [])) (famL_cons (famA_v (x := .int .i64 (a : Int))) (famL_cons (famL_ref l r) famL_nil))
  simp only [T.kind_mk] at h10 hkr
  by_cases k0 : k = 0
  · subst k0
    have hz : (S.W.length : Int) + sizeT (norm (.mk 0 w ks)) ≤ m := by rw [norm_mk, if_pos rfl]; simpa using hS
    refine ⟨S, Nat.le_refl _, hS, fun _ => by rw [norm_mk, if_pos rfl, layT_mk, if_pos rfl], ?_⟩
    rw [if_pos hz]
    refine specF_of t_copy_copier_value (by simp) args famA_v fun w0 I0 M0 m0 => ?_
    unfold c_copy_copier_value
    simp
    refine sc_call (refKind_spec l r) (by simp) ?_
    rw [hkr]
    simp
    exact reth_fam rfl rfl fun p => by simp
  by_cases k1 : k = 1
  · subst k1
    obtain ⟨S', q1, q2, q3, q4⟩ := cStruct_spec hs hm0 hm1 hF (fun c hc => (ih c hc).1) hm rfl ha hS
    refine ⟨S', q1, q2, q3, ?_⟩
    generalize (if (S.W.length : Int) + sizeT (norm (.mk 1 w ks)) ≤ m then (0 : Int) else 3) = res at q4
    refine specF_of t_copy_copier_value (by simp) args famA_v fun w0 I0 M0 m0 => ?_
    unfold c_copy_copier_value
    simp
    refine sc_call (refKind_spec l r) (by simp) ?_
    rw [hkr]
    simp
    refine sc_call (refKind_spec l r) (by simp) ?_
    rw [hkr]
    simp
    refine sc_fam 0 q4 (fun p => by simp) (by simp) (by simp) ?_
    simp
    exact reth_fam rfl rfl fun p => by simp
  by_cases k9 : k = 9
  · subst k9
    obtain ⟨S', q1, q2, q3, q4⟩ := cComp_spec (t := .mk 9 w ks) hs hm0 hm1 (fun c hc => (ih c hc).2) hm rfl ha hS
    refine ⟨S', q1, q2, q3, ?_⟩
    generalize (if (S.W.length : Int) + sizeT (norm (.mk 9 w ks)) ≤ m then (0 : Int) else 3) = res at q4
    refine specF_of t_copy_copier_value (by simp) args famA_v fun w0 I0 M0 m0 => ?_
    unfold c_copy_copier_value
    simp
    refine sc_call (refKind_spec l r) (by simp) ?_
    rw [hkr]
    simp
    refine sc_call (refKind_spec l r) (by simp) ?_
    rw [hkr]
    simp
    refine sc_call (refKind_spec l r) (by simp) ?_
    rw [hkr]
    simp
    refine sc_fam 0 q4 (fun p => by simp) (by simp) (by simp) ?_
    simp
    exact reth_fam rfl rfl fun p => by simp
  by_cases k8 : k = 8
  · subst k8
    have hnorm : norm (.mk 8 w ks) = .mk 8 w (ks.map norm) := by rw [norm_mk, if_neg (by decide), if_neg (by decide)]
    have eT : sizeT (norm (.mk 8 w ks)) = ks.length + sizeL (ks.map norm) := by
      rw [hnorm, sizeT_mk, if_neg (by decide), if_pos rfl, List.length_map]
    have hfk : firstK (.mk 8 w ks) ks.length = ks.map norm := by simp [firstK]
    have hnl : 0 ≤ sizeL (ks.map norm) := by
      have := sizeL_nonneg (kids_lay hm (.inr rfl) ks.length 0)
      simpa using this
    simp only [T.kids_mk] at hln hnk
    have hG := cGive_spec hm0 hm1 S (by omega) ks.length (by omega)
    rw [eT]
    by_cases hg : (S.W.length : Int) + (ks.length : Nat) ≤ m
    · obtain ⟨g1, g2⟩ := giveC_yes hg
      rw [g1, g2] at hG
      have hP := cPoint_spec (m := m) ⟨S.v + 1, S.W ++ List.replicate ks.length 0⟩ (a := a) (by simp; omega) (by omega) (to := (S.W.length : Int)) (by omega) (by omega) ⟨2, 0, 0, 0, 6, ks.length, 0, false⟩ (by simp) (by simp) (by simp) (by simp)
      rw [enc_list (by omega) (by omega) (by omega) (by omega) (by omega) (by omega) (by omega) (by omega)] at hP
      simp only at hP
      rw [List.set_append_left _ _ ha] at hP
      obtain ⟨S', q1, q2, q3, q4⟩ := hK r ⟨S.v + 1, S.W.set a (ptrZ a S.W.length 1 (6 + 8 * ks.length)) ++ List.replicate ks.length 0⟩ S.W.length ks.length hm (.inr rfl) (Nat.le_refl _) (by simp) (by simp; omega)
      simp only [List.length_append, List.length_set, List.length_replicate, hfk] at q1 q2 q3 q4
      refine ⟨S', by omega, q2, fun hh => ?_, ?_⟩
      · rw [q3 (by omega), hnorm, layT_mk, if_neg (by decide), if_neg (by decide), if_pos rfl, List.length_map]
      · generalize hres : (if (S.W.length : Int) + (ks.length + sizeL (ks.map norm)) ≤ m then (0 : Int) else 3) = res
        have hres' : (if ((S.W.length + ks.length : Nat) : Int) + sizeL (ks.map norm) ≤ m then (0 : Int) else 3) = res := by
          rw [← hres]
          by_cases h : (S.W.length : Int) + (ks.length + sizeL (ks.map norm)) ≤ m
          · rw [if_pos h, if_pos (by omega)]
          · rw [if_neg h, if_neg (by omega)]
        rw [hres'] at q4
        refine specF_of t_copy_copier_value (by simp) args famA_v fun w0 I0 M0 m0 => ?_
        unfold c_copy_copier_value
        simp
        refine sc_call (refKind_spec l r) (by simp) ?_
        rw [hkr]
        simp
        refine sc_call (refKind_spec l r) (by simp) ?_
        rw [hkr]
        simp
        refine sc_call (refKind_spec l r) (by simp) ?_
        rw [hkr]
        simp
        refine sc_call (refKind_spec l r) (by simp) ?_
        rw [hkr]
        simp
        refine sc_call (refKids_spec' l r) (by simp) ?_
        rw [hnk]
        simp
        refine sc_fam 0 hG (fun p => by simp) (by simp) (by simp) ?_
        simp
        refine sc_call (refKids_spec' l r) (by simp) ?_
        rw [hnk]
        simp
        refine sc_fam 0 hP (fun p => by simp) (by simp) (by simp) ?_
        simp
        refine sc_call (refKids_spec' l r) (by simp) ?_
        rw [hnk]
        simp
        refine sc_fam 0 q4 (fun p => by simp) (by simp) (by simp) ?_
        simp
        exact reth_fam rfl rfl fun p => by simp
    · obtain ⟨g1, g2⟩ := giveC_no hg
      rw [g1, g2] at hG
      have hnf : ¬ (S.W.length : Int) + (ks.length + sizeL (ks.map norm)) ≤ m := by omega
      refine ⟨S, Nat.le_refl _, hS, fun hh => absurd hh hnf, ?_⟩
      rw [if_neg hnf]
      refine specF_of t_copy_copier_value (by simp) args famA_v fun w0 I0 M0 m0 => ?_
      unfold c_copy_copier_value
      simp
      refine sc_call (refKind_spec l r) (by simp) ?_
      rw [hkr]
      simp
      refine sc_call (refKind_spec l r) (by simp) ?_
      rw [hkr]
      simp
      refine sc_call (refKind_spec l r) (by simp) ?_
      rw [hkr]
      simp
      refine sc_call (refKind_spec l r) (by simp) ?_
      rw [hkr]
      simp
      refine sc_call (refKids_spec' l r) (by simp) ?_
      rw [hnk]
      simp
      refine sc_fam 0 hG (fun p => by simp) (by simp) (by simp) ?_
      simp
      exact reth_fam rfl rfl fun p => by simp
  · obtain ⟨S', q1, q2, q3, q4⟩ := cData_spec hs hm0 hm1 hm (by simp; omega) (by simp; omega) (data_fits hs hm (by simp; omega) (by simp; omega)) ha hS
    refine ⟨S', q1, q2, q3, ?_⟩
    generalize (if (S.W.length : Int) + sizeT (norm (.mk k w ks)) ≤ m then (0 : Int) else 3) = res at q4
    refine specF_of t_copy_copier_value (by simp) args famA_v fun w0 I0 M0 m0 => ?_
    unfold c_copy_copier_value
    simp
    refine sc_call (refKind_spec l r) (by simp) ?_
    rw [hkr]
    simp [k0]
    refine sc_call (refKind_spec l r) (by simp) ?_
    rw [hkr]
    simp [k1]
    refine sc_call (refKind_spec l r) (by simp) ?_
    rw [hkr]
    simp [k9]
    refine sc_call (refKind_spec l r) (by simp) ?_
    rw [hkr]
    simp [k8]
    refine sc_fam 0 q4 (fun p => by simp) (by simp) (by simp) ?_
    simp
    exact reth_fam rfl rfl fun p => by simp

/-! ### a value's words -/
def cpMost (most : Int) : Int := min (max most 0) 131072
theorem cWords_spec {l : List (List Int)} (hs : Sg l) {r : Rf} {t : T} (hm : Means l r t) (most : Int) (h10 : t.kind ≠ 10) :
    G.Spec Try.prog 40 [paX l r, iv most] (.tup [uws (if 1 + sizeT (norm t) ≤ cpMost most then layT (norm t) 0 [0] else []), iv (if 1 + sizeT (norm t) ≤ cpMost most then 0 else 3)]) := by
  have hm0 : 0 ≤ cpMost most := by unfold cpMost; omega
  have hm1 : cpMost most ≤ 131072 := by unfold cpMost; omega
  have hmm : min (max most 0) 131072 = cpMost most := rfl
  have hkr := means_kind hm
  have hsz := (size_nonneg (norm t)).1 (laid_of _ _ hm h10)
  have hG := cGive_spec hm0 hm1 ⟨1, []⟩ (by simp) 1 (by omega)
  refine spec_of t_copy_Words (by simp) fun w0 I0 => ?_
  unfold c_copy_Words
  simp [hmm]
  refine stop_le (le_blankC (d := [1]) 0 [1, 0] 1 rfl rfl (by simp)) (stop_go ?_)
  have hF : ∀ H : Hp, H [1] = ⟨1, .cells [.osl [1, 0] 1 1 0 0, iv (cpMost most)]⟩ → H [1, 0] = ⟨1, .arr 1 []⟩ → (∀ p, p ≠ [] → p ≠ [0] → H (1 :: p) = ⟨0, .none⟩) → ∀ p, H (1 :: p) = (cpM (cpMost most) ⟨1, []⟩).F 1 p := fun H h1 h2 h3 p => by
    by_cases p0 : p = []
    · subst p0; rw [h1]; simp
    · by_cases p1 : p = [0]
      · subst p1; rw [h2]; simp
      · rw [h3 p p0 p1]
        match p, p0, p1 with
        | [], h, _ => exact absurd rfl h
        | [0], _, h => exact absurd rfl h
        | 0 :: a :: q, _, _ => rfl
        | (a + 1) :: q, _, _ => rfl
  simp [updF_app]
  refine sc_fam 1 hG (hF _ (by simp [updF_app]) (by simp [updF_app]) (fun p h1 h2 => by simp [updF_app, Ne.symm h1, h1, h2, Ne.symm h2])) (by simp) (by simp) ?_
  by_cases h1 : (1 : Int) ≤ cpMost most
  · obtain ⟨g1, g2⟩ := giveC_yes (m := cpMost most) (S := ⟨1, []⟩) (n := 1) (by simpa using h1)
    rw [g1, g2]
    obtain ⟨S', q1, q2, q3, q4⟩ := (cValue_spec hs hm0 hm1 t).1 r ⟨2, [0]⟩ 0 hm h10 (by simp) (by simpa using h1)
    simp only [List.length_singleton] at q1 q2 q3 q4
    simp
    refine sc_call (refKind_spec l r) (by simp) ?_
    rw [hkr]
    simp [h10]
    refine sc_fam 1 q4 (fun p => by simp [updF_app]) (by simp) (by simp) ?_
    by_cases hf : 1 + sizeT (norm t) ≤ cpMost most
    · rw [if_pos (by simpa using hf)]
      have hW := q3 (by simpa using hf)
      simp [hf]
      refine frz_tup ?_
      simp
      rw [← hW]
      exact ⟨frz_row (f := uv) (by simp) rfl (fun x => by simp), frz_bare rfl⟩
    · rw [if_neg (by simpa using hf)]
      simp [hf]
      exact frz_tup (by simp; exact ⟨frz_sl, frz_bare rfl⟩)
  · obtain ⟨g1, g2⟩ := giveC_no (m := cpMost most) (S := ⟨1, []⟩) (n := 1) (by simpa using h1)
    rw [g1, g2]
    have hf : ¬ 1 + sizeT (norm t) ≤ cpMost most := by omega
    simp [hf]
    refine sc_call (refKind_spec l r) (by simp) ?_
    rw [hkr]
    simp [h10]
    exact frz_tup (by simp; exact ⟨frz_sl, frz_bare rfl⟩)
end Go.Proofs.Ytigdcnlhgelkaaa

/-
  Chapter 12's reference: a tree is laid.
-/
namespace Go.Proofs.Ytigdcnlhgelkaaa
set_option linter.unusedVariables false
set_option linter.unusedSimpArgs false
open Go Go.G Go.Proofs Go.PL

theorem uvs_fam {l : List Int} : ∀ x, x ∈ l.map uv → FamA (fun _ => x) := fun x hx => by
  obtain ⟨n, _, rfl⟩ := List.mem_map.1 hx
  exact famA_v
abbrev uvM (u : Nat) (l : List Int) : Fam := rowM u 1 (l.map uv) uvs_fam
theorem ptrZ_in {a b k u : Int} (a0 : 0 ≤ a) (a1 : a ≤ 200000) (b0 : 0 ≤ b) (b1 : b ≤ 200000) (k0 : 0 ≤ k) (k1 : k ≤ 3) (u0 : 0 ≤ u) (u1 : u < 4294967296) : u64R (ptrZ a b k u) := by
  unfold ptrZ u64R
  split <;> omega
theorem rPointer_spec {a b k u : Int} (a0 : 0 ≤ a) (a1 : a ≤ 200000) (b0 : 0 ≤ b) (b1 : b ≤ 200000) (k0 : 0 ≤ k) (k1 : k ≤ 3) (u0 : 0 ≤ u) (u1 : u < 4294967296) : G.Spec Try.prog 110 [iv a, iv b, iv k, uv u] (uv (ptrZ a b k u)) := by
  refine spec_of t_centoref12_pointer (by simp) fun w0 I0 => ?_
  unfold c_centoref12_pointer
  have e1 : IntKind.i64.wrap (b - a) = b - a := i64_same (by omega) (by omega)
  have e2 : IntKind.i64.wrap (b - a - 1) = b - a - 1 := i64_same (by omega) (by omega)
  by_cases hlt : b - a - 1 < 0
  · have e3 : IntKind.i64.wrap (b - a - 1 + 1073741824) = b - a - 1 + 1073741824 := i64_same (by omega) (by omega)
    have e4 : IntKind.i64.wrap (4 * (b - a - 1 + 1073741824)) = 4 * (b - a - 1 + 1073741824) := i64_same (by omega) (by omega)
    have e5 : IntKind.i64.wrap (4 * (b - a - 1 + 1073741824) + k) = 4 * (b - a - 1 + 1073741824) + k := i64_same (by omega) (by omega)
    have e6 : IntKind.u64.wrap (4 * (b - a - 1 + 1073741824) + k) = 4 * (b - a - 1 + 1073741824) + k := u64_same (by omega) (by omega)
    have e7 : IntKind.u64.wrap (u * 4294967296) = u * 4294967296 := u64_same (by omega) (by omega)
    have e8 : IntKind.u64.wrap (4 * (b - a - 1 + 1073741824) + k + u * 4294967296) = 4 * (b - a - 1 + 1073741824) + k + u * 4294967296 := u64_same (by omega) (by omega)
    simp [e1, e2, e3, hlt, k1_centoref12_pointer, e4, e5, e6, e7, e8]
    exact frz_is rfl (by simp [ptrZ, hlt])
  · have e4 : IntKind.i64.wrap (4 * (b - a - 1)) = 4 * (b - a - 1) := i64_same (by omega) (by omega)
    have e5 : IntKind.i64.wrap (4 * (b - a - 1) + k) = 4 * (b - a - 1) + k := i64_same (by omega) (by omega)
    have e6 : IntKind.u64.wrap (4 * (b - a - 1) + k) = 4 * (b - a - 1) + k := u64_same (by omega) (by omega)
    have e7 : IntKind.u64.wrap (u * 4294967296) = u * 4294967296 := u64_same (by omega) (by omega)
    have e8 : IntKind.u64.wrap (4 * (b - a - 1) + k + u * 4294967296) = 4 * (b - a - 1) + k + u * 4294967296 := u64_same (by omega) (by omega)
    simp [e1, e2, hlt, k1_centoref12_pointer, e4, e5, e6, e7, e8]
    exact frz_is rfl (by simp [ptrZ, hlt])
section
variable {n0 : Nat} {w0 : World} {I0 M0 : Nat → Prop} {m0 : Mu} {Q : Exit → Sta → Prop}
theorem rAdd_l1 {u n : Nat} {W : List Int} (hn : W.length + n ≤ 1000000) (hq : ∀ q H', (∀ p, H' (0 :: p) = (uvM (u + n) (W ++ List.replicate n 0)).F 0 p) → Q (.exit 0) ⟨lk [(0, .osl [0] (u + n) 1 0 (W.length + n)), (1, nv n), (5, nv n), (8, bv q)], H'⟩) :
    ∀ (j i : Nat) (H : Hp), i + j = n → (∀ p, H (0 :: p) = (uvM (u + i) (W ++ List.replicate i 0)).F 0 p) →
    LoopC (cxh Try.prog w0 I0 M0 n0 m0) l1_centoref12_add Q ⟨lk [(0, .osl [0] (u + i) 1 0 (W.length + i)), (1, nv n), (5, nv i)], H⟩ := by
  intro j
  induction j with
  | zero =>
    intro i H hi hH
    have : i = n := by omega
    subst this
    refine loopC_once mixed l1_centoref12_add.eq_1 ?_
    simp
    exact hq _ H hH
  | succ j ih =>
    intro i H hi hH
    have hlt : i < n := by omega
    have ei : IntKind.i64.wrap ((i : Int) + 1) = ((i + 1 : Nat) : Int) := i64_same (by omega) (by omega)
    have h0 := hH []
    simp at h0
    refine loopC_once mixed l1_centoref12_add.eq_1 ?_
    simp [hlt, h0, ei]
    refine ⟨by omega, ?_⟩
    refine ih (i + 1) _ (by omega) fun p => ?_
    by_cases hp : p = []
    · subst hp
      simp [updF_app, List.take_of_length_le, List.replicate_succ', Nat.add_assoc]
    · simp [updF_app, hp, hH]
end
theorem rAdd_spec (u n : Nat) (W : List Int) (hn : W.length + n ≤ 1000000) : SpecF Try.prog 111 (fun r => [.osl [r] u 1 0 W.length, nv n]) (uvM u W) (fun r => .osl [r] (u + n) 1 0 (W.length + n)) (uvM (u + n) (W ++ List.replicate n 0)) := by
  refine specF_of t_centoref12_add (by simp) (famL_cons famA_osl (famL_cons famA_v famL_nil)) famA_osl fun w0 I0 M0 m0 => ?_
  unfold c_centoref12_add
  simp
  refine rAdd_l1 (u := u) (n := n) (W := W) hn (fun q H' hH => ?_) n 0 _ (by omega) (fun p => by simp)
  simp
  exact reth_fam rfl rfl hH
end Go.Proofs.Ytigdcnlhgelkaaa

/-
  Chapter 14: the law CopyEnds.
-/
namespace Go.Proofs.Ytigdcnlhgelkaaa
set_option linter.unusedVariables false
set_option linter.unusedSimpArgs false
open Go Go.G Go.Proofs Go.PL

theorem awake14_lay : layT (.mk 1 [7] []) 0 [0] = [4294967296, 7] := by
  rw [layT_mk]
  simp [ptrZ]
theorem awake14_spec : G.Spec Try.prog 37 [] (bv true) := by
  have m2 := unfold_means sg2 (a := 64) (b := 3000) (by rw [unf2])
  rw [unf2] at m2
  have hn : norm (.mk 1 [7, 0] []) = .mk 1 [7] [] := by simp [norm_mk, trimW, trimK]
  have hW := cWords_spec sg2 m2 2 (by simp)
  have hL := long_spec sg2 m2
  have hfit : 1 + sizeT (.mk 1 [7] []) ≤ cpMost 2 := by rw [sizeT_mk]; simp [cpMost]; omega
  rw [hn, awake14_lay, if_pos hfit, if_pos hfit] at hW
  have hl1 : (trimW (T.mk 1 [7, 0] []).words).length = 1 := by simp [trimW]
  rw [hl1] at hL
  refine spec_of t_centolaw14_awake (by simp) fun w0 I0 => ?_
  unfold c_centolaw14_awake
  simp
  refine sc_call ((of_spec s2 (by simp) sg2.b).soft (by simp [A.softL, A.soft])) rfl ?_
  simp
  refine sc_call (root_spec sg2) rfl ?_
  simp
  refine sc_call hW (by simp) ?_
  have h0 : (atP s2 0 0).2 = 0 := by kernel_rfl
  simp [h0]
  refine sc_call_gt rfl (fun _ => (rSame_spec [4294967296, 7] [4294967296, 7] (by simp)).soft (by simp [A.softL, A.soft])) (fun _ => rfl) rfl ?_
  simp
  refine sc_call_gt rfl (fun _ => hL) (fun _ => rfl) (by simp) ?_
  simp
  exact frz_bare rfl
section
variable {n0 : Nat} {w0 : World} {I0 : Nat → Prop} {Q : Exit → Sta → Prop}
theorem i64_and1023 (n : Int) : bits .and .i64 n 1023 = n % 1024 := by
  have h7 : (BitVec.ofInt 64 1023).toNat = 2 ^ 10 - 1 := by decide
  have key : (BitVec.ofInt 64 n &&& BitVec.ofInt 64 1023).toNat = (n % ((2 ^ 64 : Nat) : Int)).toNat % 2 ^ 10 := by
    rw [BitVec.toNat_and, BitVec.toNat_ofInt, h7, Nat.and_two_pow_sub_one_eq_mod]
  show IntKind.i64.wrap ((BitVec.ofInt 64 n &&& BitVec.ofInt 64 1023).toNat : Nat) = n % 1024
  rw [key, IntKind.wrap_i64]
  omega
theorem ends_l1 {l : List (List Int)} (hs : Sg l) {P : List Int} (hP : P.length * 8 ≤ 140737488355328) (hq : ∀ (r : Rf) (t : T) (H : Hp) (i : Nat) (q : Bool), Means l r t → wfT t → H [1] = ⟨1, .cells (tL t)⟩ → H [2] = ⟨1, .cells (paL l r)⟩ → Q (.exit 0) ⟨lk [(2, ivs P), (7, .pob [1] 1 0), (10, .pob [2] 1 0), (12, nv i), (47, bv q)], H⟩) :
    ∀ (j i : Nat) (r : Rf) (t : T) (H : Hp), i + j = P.length → i ≤ 20 → Means l r t → wfT t → H [1] = ⟨1, .cells (tL t)⟩ → H [2] = ⟨1, .cells (paL l r)⟩ →
    LoopC (cx Try.prog w0 I0 n0) l1_centolaw14_CopyEnds Q ⟨lk [(2, ivs P), (7, .pob [1] 1 0), (10, .pob [2] 1 0), (12, nv i)], H⟩ := by
  intro j
  induction j with
  | zero =>
    intro i r t H hi h20 hm hw h1 h2
    have : i = P.length := by omega
    subst this
    refine loopC_once mixed l1_centolaw14_CopyEnds.eq_1 ?_
    simp [h1]
    exact hq r t H _ _ hm hw h1 h2
  | succ j ih =>
    intro i r t H hi h20 hm hw h1 h2
    have hlt : i < P.length := by omega
    have ei : IntKind.i64.wrap ((i : Int) + 1) = ((i + 1 : Nat) : Int) := i64_same (by omega) (by omega)
    refine loopC_once mixed l1_centolaw14_CopyEnds.eq_1 ?_
    by_cases h : i = 20
    · subst h
      simp [hlt, h1]
      exact hq r t H 20 _ hm hw h1 h2
    have h20' : (i : Int) < 20 := by omega
    by_cases hk : t.kids = []
    · simp [hlt, h20', h1, hk]
      exact hq r t H _ _ hm hw h1 h2
    have hkl : 0 < t.kids.length := List.length_pos_iff.2 hk
    obtain ⟨x, hx, hxl⟩ : ∃ x : Nat, (P[i] % 1024).tmod (t.kids.length : Int) = (x : Int) ∧ x < t.kids.length := by
      refine ⟨((P[i] % 1024) % (t.kids.length : Int)).toNat, ?_, ?_⟩
      · rw [Int.tmod_eq_emod_of_nonneg (by omega)]
        have := Int.emod_nonneg (P[i] % 1024) (show (t.kids.length : Int) ≠ 0 by omega)
        omega
      · have := Int.emod_lt_of_pos (P[i] % 1024) (show (0 : Int) < t.kids.length by omega)
        have := Int.emod_nonneg (P[i] % 1024) (show (t.kids.length : Int) ≠ 0 by omega)
        omega
    obtain ⟨k1, k2⟩ := means_kid hm hxl
    have hwk := (wfT_iff.1 hw).ks _ (List.getElem_mem hxl)
    have hb := (wfT_iff.1 hw).kl
    have hxw : IntKind.i64.wrap (x : Int) = x := i64_same (by omega) (by omega)
    simp [hlt, h20', h1, hk, h2, hkl, i64_and1023]
    rw [hx]
    refine sc_call (kid_spec hs (means_ok hm) x) (by simp) ?_
    simp [k1, updF_app, h1, h2, hxl, ei]
    refine ih (i + 1) (kidP l r x).1 t.kids[x] _ (by omega) (by omega) k2 hwk ?_ ?_
    · simp [updF_app]
    · simp [updF_app]
end
set_option maxRecDepth 8000 in
theorem CopyEnds_spec {l : List (List Int)} (hs : Sg l) (hl : l.length * 24 ≤ 140737488355328) (a b c d : Int) {P : List Int} (hP : P.length * 8 ≤ 140737488355328) : G.Spec Try.prog 11 [sgs l, liX a b c d, ivs P] (bv true) := by
  refine spec_of t_centolaw14_CopyEnds (by simp) fun w0 I0 => ?_
  unfold c_centolaw14_CopyEnds
  simp
  refine sc_call (light_spec a b c d) rfl ?_
  simp
  refine sc_call (unfold_spec hs a (lightZ b) c d) rfl ?_
  have hu := unfold_means hs (a := a) (b := lightZ b)
  generalize unfP l a (lightZ b) = x at hu
  obtain ⟨t, wt, e⟩ := x
  simp only at hu
  by_cases he : e = 0
  · subst he
    have hm := hu rfl
    have hw := means_wf hs _ _ hm
    simp
    refine sc_call (of_spec l hl hs.b) rfl ?_
    simp
    refine sc_call (root_spec hs) rfl ?_
    simp
    refine ends_l1 hs hP (fun r t H i q hm hw h1 h2 => ?_) P.length 0 _ t _ (by omega) (by omega) hm hw (by simp [updF_app]) (by simp [updF_app])
    by_cases hk : t.kind = 1
    · have hW := wide_spec hs hm
      have hL := long_spec hs hm
      have hN := rNorm_spec t hw
      obtain ⟨l1, l2⟩ := norm_w_len hm
      have eL : (trimW t.words).length = (norm t).words.length := by rw [l1]; simp [nW, hk]
      have eK : (trimK t.kids).length = (norm t).kids.length := by rw [l2]; simp [nK, hk]
      rw [eK] at hW
      rw [eL] at hL
      simp [h1, hk, h2]
      refine sc_call hW (by simp) ?_
      simp [h1, h2]
      refine sc_call hL (by simp) ?_
      simp [h1, h2]
      refine sc_call hN (by simp) ?_
      simp [h1, h2]
      refine sc_call_gt rfl (fun _ => hN) (fun _ => rfl) (by simp) ?_
      simp
      refine sc_call_gt rfl (fun _ => awake14_spec) (fun _ => rfl) rfl ?_
      simp
      exact frz_bare rfl
    · simp [h1, hk]
      refine sc_call awake14_spec rfl ?_
      simp
      exact frz_bare rfl
  · simp [he]
    refine sc_call awake14_spec rfl ?_
    simp
    exact frz_bare rfl
end Go.Proofs.Ytigdcnlhgelkaaa

/-
  Chapter 14: CopyEnds, whatever its arguments hold.
-/
namespace Go.Proofs.Ytigdcnlhgelkaaa
set_option linter.unusedVariables false
set_option linter.unusedSimpArgs false
open Go Go.G Go.Proofs Go.RowKit

theorem und14_is : Try.prog.underlying 69 = some (.slice 3) := by kernel_rfl
theorem byt14_i : Try.prog.bytesOf 3 = 8 := by kernel_rfl
theorem has14_i64 {n : Nat} {b : List A} (h : Has Try.prog n 3 b) : ∃ m, -9223372036854775808 ≤ m ∧ m < 9223372036854775808 ∧ mk Try.prog 3 b = iv m := by
  cases n with
  | zero => exact h.elim
  | succ n =>
    simp only [Has, und15_i] at h
    obtain ⟨m, hm, rfl⟩ := h
    obtain ⟨h1, h2⟩ := lit15_i hm
    exact ⟨m, h1, h2, by simp [mk, und15_i]⟩
set_option maxRecDepth 100000 in
theorem has14_ints {n : Nat} {b : List A} (h : Has Try.prog n 69 b) : ∃ f, ∃ l : List Int, mk Try.prog 69 b = .sl f (l.map iv) ∧ l.length * 8 ≤ 140737488355328 := by
  cases n with
  | zero => exact h.elim
  | succ n =>
    simp only [Has, und14_is] at h
    obtain ⟨f, xs, rfl, _, hz, hf, hx⟩ := h
    rw [byt14_i] at hz
    obtain ⟨l, rfl, hl⟩ := list15_map (g := iv) (R := fun _ => True) (xs := xs) fun x hx' => by
      obtain ⟨b, hb, rfl⟩ := hx x hx'
      obtain ⟨m, h0, h1, e⟩ := has14_i64 hb
      exact ⟨m, trivial, e⟩
    exact ⟨f, l, by simp [mk, und14_is], by simp [reachBytes] at hz; omega⟩
set_option maxRecDepth 100000 in
theorem said_copyEnds (xs : List A) (h : ArgsHas Try.prog Try.f11.params.toList xs) : G.Spec Try.prog 11 xs (.v (.bool true)) := by
  have h : ArgsHas Try.prog [38, 40, 69] xs := h
  match xs, h with
  | [a, a3, a4], ⟨⟨n, b, h1, h2⟩, ⟨n3, b3, h13, h23⟩, ⟨n4, b4, h14, h24⟩, _⟩ =>
    obtain ⟨f, xs, l, e, e', k1, k2⟩ := has15_segs h1
    obtain ⟨p, q, r, s, e3⟩ := has15_lim h13
    obtain ⟨f4, P, e4, k4⟩ := has14_ints h14
    rw [h2, h23, h24, e, e3, e4]
    have e5 : A.soft (.sl f4 (P.map iv)) = ivs P := by simp only [A.soft, soft_iv]
    exact (CopyEnds_spec k2 k1 p q r s k4).soft (by simp only [A.softL, e', e5]; rfl)
end Go.Proofs.Ytigdcnlhgelkaaa
