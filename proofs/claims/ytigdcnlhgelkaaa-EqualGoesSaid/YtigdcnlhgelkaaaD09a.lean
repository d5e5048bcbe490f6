/-
  Chapters 9 and 10, plain: values where they lie, and what they mean.
-/
import Derived.Test.YtigdcnlhgelkaaaD06c
import Derived.Test.YtigdcnlhgelkaaaP07
namespace Go.Proofs.Ytigdcnlhgelkaaa
set_option linter.unusedVariables false
set_option linter.unusedSimpArgs false
open Go Go.G Go.Proofs Go.PL

/-- A value where it lies. -/
structure Rf where
  kind : Int
  s : Int
  at_ : Int
  data : Int
  kids : Int
  count : Int
  n : Int
def Rf.zero : Rf := ⟨0, 0, 0, 0, 0, 0, 0⟩
def nk (r : Rf) : Int := if r.kind = 1 then r.kids else r.count
def compP (l : List (List Int)) (s a m : Int) : Rf × Int :=
  if ((word l s a).getD 0 ≠ 0 ∧ (dec ((word l s a).getD 0)).kind ≠ 1) ∨ (dec ((word l s a).getD 0)).off < 0 ∨ m < (dec ((word l s a).getD 0)).off * ((dec ((word l s a).getD 0)).data + (dec ((word l s a).getD 0)).ptrs) then (Rf.zero, 8)
  else (⟨9, s, a + 1, (dec ((word l s a).getD 0)).data, (dec ((word l s a).getD 0)).ptrs, (dec ((word l s a).getD 0)).off, 0⟩, 0)
/-- What a shape at a place is. -/
def refP (l : List (List Int)) (x : Lc) : Rf × Int :=
  if x.p.kind = 1 then (⟨1, x.s, x.at_, x.p.data, x.p.ptrs, 0, 0⟩, 0)
  else if x.p.code < 7 then (⟨2 + x.p.code, x.s, x.at_, 0, 0, x.p.count, 0⟩, 0)
  else compP l x.s x.at_ x.p.count
def atP (l : List (List Int)) (s a : Int) : Rf × Int :=
  if (followP l s a).2 ≠ 0 ∨ (followP l s a).1.p.kind = 0 then (Rf.zero, (followP l s a).2) else refP l (followP l s a).1
def getZ (g : List Int) (c i : Int) : Int :=
  if widthZ c < 1 ∨ i < 0 ∨ 1099511627776 < i then 0 else ((g[(i * widthZ c / 64).toNat]?).getD 0) / 2 ^ (i * widthZ c % 64).toNat % 2 ^ (widthZ c).toNat
def atomZ (l : List (List Int)) (r : Rf) (i : Int) : Int := getZ (((seg l r.s).getD []).drop r.at_.toNat) (r.kind - 2) i
def kidP (l : List (List Int)) (r : Rf) (i : Int) : Rf × Int :=
  if i < 0 ∨ nk r ≤ i then (Rf.zero, 0)
  else if r.kind = 1 then atP l r.s (r.at_ + r.data + i)
  else if r.kind = 8 then atP l r.s (r.at_ + i)
  else if r.kind = 9 then (⟨1, r.s, r.at_ + i * (r.data + r.kids), r.data, r.kids, 0, 0⟩, 0)
  else (⟨10, 0, 0, 0, 0, 0, atomZ l r i⟩, 0)
def wordsR (l : List (List Int)) (r : Rf) : List Int := if r.kind = 10 then [r.n] else if r.kind ≠ 1 then [] else part l r.s r.at_ r.data

/-- It lies in its segment. -/
inductive RfOk (l : List (List Int)) : Rf → Prop
  | zero : RfOk l Rf.zero
  | str (s a d k : Int) : 0 ≤ d → d < 65536 → 0 ≤ k → k < 65536 → hasW l s a (d + k) = true → RfOk l ⟨1, s, a, d, k, 0, 0⟩
  | dat (c s a n : Int) : 0 ≤ c → c < 6 → 0 ≤ n → n < 536870912 → hasW l s a ((n * bitsOf c + 63) / 64) = true → RfOk l ⟨2 + c, s, a, 0, 0, n, 0⟩
  | ptrs (s a n : Int) : 0 ≤ n → n < 536870912 → hasW l s a n = true → RfOk l ⟨8, s, a, 0, 0, n, 0⟩
  | comp (s a d k n : Int) : 0 ≤ d → d < 65536 → 0 ≤ k → k < 65536 → 0 ≤ n → n < 536870912 → hasW l s a (n * (d + k)) = true → RfOk l ⟨9, s, a, d, k, n, 0⟩
  | atom (n : Int) : 0 ≤ n → n < 18446744073709551616 → RfOk l ⟨10, 0, 0, 0, 0, 0, n⟩

/-! ### what is followed lies in its segment -/
structure Shp (p : Pt) : Prop where
  k1 : p.kind = 1 → 0 ≤ p.data ∧ p.data < 65536 ∧ 0 ≤ p.ptrs ∧ p.ptrs < 65536
  k2 : p.kind = 2 → 0 ≤ p.code ∧ p.code < 8 ∧ 0 ≤ p.count ∧ p.count < 536870912
  k : p.kind = 0 ∨ p.kind = 1 ∨ p.kind = 2 ∨ p.kind = 3 ∨ p.kind = 4
theorem dec_shp {w : Int} (h0 : 0 ≤ w) (h1 : w < 18446744073709551616) : Shp (dec w) := by
  unfold dec
  repeat' split
  all_goals refine ⟨?_, ?_, ?_⟩
  all_goals simp
  all_goals omega
def Folw (l : List (List Int)) (x : Lc × Int) : Prop := x.2 = 0 → x.1.p.kind = 0 ∨ ((x.1.p.kind = 1 ∨ x.1.p.kind = 2) ∧ Shp x.1.p ∧ hasW l x.1.s x.1.at_ ((wordsP x.1.p).getD 0) = true)
theorem inside_folw {l : List (List Int)} {x : Lc} (h : x.p.kind = 1 ∨ x.p.kind = 2) (hs : Shp x.p) : Folw l (insideP l x) := by
  unfold insideP
  split
  · rename_i hh
    intro _
    exact .inr ⟨h, ⟨hs.k1, hs.k2, hs.k⟩, hh⟩
  · intro h; cases h
theorem near_folw {l : List (List Int)} {p : Pt} {s a : Int} (hs : Shp p) : Folw l (nearP l p s a) := by
  unfold nearP
  split
  · exact inside_folw (by assumption) hs
  · split <;> (intro h; cases h)
theorem double_folw {l : List (List Int)} (hw : Wds l) (s a : Int) : Folw l (doubleP l s a) := by
  unfold doubleP
  split
  · rename_i v w h1 h2
    obtain ⟨a1, a2⟩ := word_in hw h2
    have hs := dec_shp a1 a2
    repeat' split
    all_goals first
      | (intro h; cases h; done)
      | skip
    refine inside_folw ?_ hs
    simp only
    omega
  · intro h; cases h
theorem follow_folw {l : List (List Int)} (hw : Wds l) (s a : Int) : Folw l (followP l s a) := by
  unfold followP
  split
  · intro h; cases h
  · rename_i w h1
    obtain ⟨a1, a2⟩ := word_in hw h1
    split
    · intro _; exact .inl rfl
    · split
      · exact near_folw (dec_shp a1 a2)
      · split
        · exact double_folw hw _ _
        · split
          · intro h; cases h
          · rename_i v h2
            obtain ⟨b1, b2⟩ := word_in hw h2
            exact near_folw (dec_shp b1 b2)

theorem wordsP_str {p : Pt} (h : p.kind = 1) : wordsP p = some (p.data + p.ptrs) := by simp [wordsP, h]
theorem wordsP_dat {p : Pt} (h : p.kind = 2) (hs : Shp p) (h6 : p.code < 7) : wordsP p = some ((p.count * bitsOf p.code + 63) / 64) := by
  obtain ⟨a, b, c, d⟩ := hs.k2 h
  rw [wordsP, if_neg (by omega), if_neg (by omega), if_pos (by omega)]
theorem wordsP_comp {p : Pt} (h : p.kind = 2) (h7 : p.code = 7) : wordsP p = some (p.count + 1) := by simp [wordsP, h, h7]
theorem mul_le_of {a b c : Int} (h : a ≤ b) (hc : 0 ≤ c) : a * c ≤ b * c := Int.mul_le_mul_of_nonneg_right h hc
theorem hasW_sub {l : List (List Int)} {s a n b m : Int} (h : hasW l s a n = true) (h1 : a ≤ b) (h2 : 0 ≤ m) (h3 : b + m ≤ a + n) : hasW l s b m = true := by
  simp only [hasW, decide_eq_true_eq] at h ⊢
  omega
theorem dec_off' {w : Int} (h0 : 0 ≤ w) (h1 : w < 18446744073709551616) : (dec w).off < 536870912 := by
  have := (offs_in w).2.1
  unfold dec
  repeat' split
  all_goals simp
  all_goals omega
theorem comp_ok {l : List (List Int)} (hw : Wds l) {s a m : Int} (h : hasW l s a (m + 1) = true) : RfOk l (compP l s a m).1 := by
  unfold compP
  have h0 : 0 ≤ (word l s a).getD 0 ∧ (word l s a).getD 0 < 18446744073709551616 := by
    cases e : word l s a with
    | none => simp
    | some x => exact word_in hw e
  generalize (word l s a).getD 0 = w at h0
  have hs := dec_shp h0.1 h0.2
  have ho := dec_off h0.1 h0.2
  have ho' := dec_off' h0.1 h0.2
  split
  · exact .zero
  · rename_i hc
    have hk : (dec w).kind = 1 ∨ dec w = Pt.zero := by
      by_cases hw0 : w = 0
      · subst hw0; exact .inr rfl
      · left; omega
    have hd : 0 ≤ (dec w).data ∧ (dec w).data < 65536 ∧ 0 ≤ (dec w).ptrs ∧ (dec w).ptrs < 65536 := by
      rcases hk with hk | hk
      · exact hs.k1 hk
      · rw [hk]; decide
    refine .comp _ _ _ _ _ hd.1 hd.2.1 hd.2.2.1 hd.2.2.2 (by omega) (by omega) (hasW_sub h (by omega) ?_ (by omega))
    exact Int.mul_nonneg (by omega) (by omega)
theorem ref_ok {l : List (List Int)} (hw : Wds l) {x : Lc} (hk : x.p.kind = 1 ∨ x.p.kind = 2) (hs : Shp x.p) (h : hasW l x.s x.at_ ((wordsP x.p).getD 0) = true) : RfOk l (refP l x).1 := by
  unfold refP
  split
  · rename_i k1
    obtain ⟨a, b, c, d⟩ := hs.k1 k1
    rw [wordsP_str k1] at h
    exact .str _ _ _ _ a b c d h
  · rename_i k1
    have k2 : x.p.kind = 2 := by omega
    obtain ⟨a, b, c, d⟩ := hs.k2 k2
    split
    · rename_i h7
      rw [wordsP_dat k2 hs h7] at h
      by_cases h6 : x.p.code = 6
      · rw [h6] at h ⊢
        refine .ptrs _ _ _ c d (hasW_sub h (Int.le_refl _) c ?_)
        have e : bitsOf 6 = 64 := by decide
        simp only [Option.getD_some, e]
        omega
      · exact .dat _ _ _ _ a (by omega) c d h
    · rw [wordsP_comp k2 (by omega)] at h
      exact comp_ok hw h
theorem at_ok {l : List (List Int)} (hw : Wds l) (s a : Int) : RfOk l (atP l s a).1 := by
  unfold atP
  split
  · exact .zero
  · rename_i h
    rcases follow_folw hw s a (by omega) with h0 | ⟨h1, h2, h3⟩
    · omega
    · exact ref_ok hw h1 h2 h3
theorem getZ_range {g : List Int} {c i : Int} (hg : ∀ x, x ∈ g → 0 ≤ x ∧ x < 18446744073709551616) : 0 ≤ getZ g c i ∧ getZ g c i < 18446744073709551616 := by
  unfold getZ
  split
  · omega
  · have h0 : 0 ≤ (g[(i * widthZ c / 64).toNat]?).getD 0 ∧ (g[(i * widthZ c / 64).toNat]?).getD 0 < 18446744073709551616 := by
      cases e : g[(i * widthZ c / 64).toNat]? with
      | none => simp
      | some x => exact hg x (List.mem_of_getElem? e)
    generalize (g[(i * widthZ c / 64).toNat]?).getD 0 = x at h0
    have p1 : (0 : Int) < 2 ^ (i * widthZ c % 64).toNat := Int.pow_pos (by omega)
    have p2 : (0 : Int) < 2 ^ (widthZ c).toNat := Int.pow_pos (by omega)
    have d0 : 0 ≤ x / 2 ^ (i * widthZ c % 64).toNat := Int.ediv_nonneg h0.1 (by omega)
    have d1 : x / 2 ^ (i * widthZ c % 64).toNat ≤ x := Int.ediv_le_self _ h0.1
    have m0 := Int.emod_nonneg (x / 2 ^ (i * widthZ c % 64).toNat) (by omega : (2 : Int) ^ (widthZ c).toNat ≠ 0)
    have m1 : x / 2 ^ (i * widthZ c % 64).toNat % 2 ^ (widthZ c).toNat ≤ x / 2 ^ (i * widthZ c % 64).toNat := by
      rw [Int.emod_def]
      have := Int.mul_nonneg (a := 2 ^ (widthZ c).toNat) (b := x / 2 ^ (i * widthZ c % 64).toNat / 2 ^ (widthZ c).toNat) (by omega) (Int.ediv_nonneg d0 (by omega))
      omega
    omega
theorem kid_ok {l : List (List Int)} (hw : Wds l) {r : Rf} (hr : RfOk l r) (i : Int) : RfOk l (kidP l r i).1 := by
  unfold kidP
  split
  · exact .zero
  · rename_i hi
    cases hr with
    | zero => simp [nk, Rf.zero] at hi; omega
    | str s a d k a1 a2 a3 a4 h => simp; exact at_ok hw _ _
    | dat c s a n a1 a2 a3 a4 h =>
      simp
      rw [if_neg (by omega), if_neg (by omega), if_neg (by omega)]
      have := getZ_range (g := ((seg l s).getD []).drop a.toNat) (c := 2 + c - 2) (i := i) (fun x hx => by
        cases e : seg l s with
        | none => rw [e] at hx; simp at hx
        | some g =>
          rw [e] at hx
          obtain ⟨_, _, k1, rfl⟩ := seg_some e
          exact hw _ (List.getElem_mem k1) _ (List.mem_of_mem_drop hx))
      exact .atom _ this.1 this.2
    | ptrs s a n a1 a2 h => simp; exact at_ok hw _ _
    | comp s a d k n a1 a2 a3 a4 a5 a6 h =>
      simp [nk] at hi ⊢
      refine .str _ _ _ _ a1 a2 a3 a4 (hasW_sub h ?_ (by omega) ?_)
      · have := Int.mul_nonneg (by omega : 0 ≤ i) (by omega : 0 ≤ d + k)
        omega
      · have h1 : (i + 1) * (d + k) ≤ n * (d + k) := mul_le_of (by omega) (by omega)
        rw [Int.add_mul] at h1
        omega
    | atom n a1 a2 => simp [nk] at hi; omega

/-! ### what it means -/
inductive Means (l : List (List Int)) : Rf → T → Prop
  | mk (r : Rf) (t : T) : RfOk l r → r.kind = t.kind → wordsR l r = t.words → nk r = t.kids.length → (∀ (i : Nat) (h : i < t.kids.length), (kidP l r i).2 = 0) → (∀ (i : Nat) (h : i < t.kids.length), Means l (kidP l r i).1 t.kids[i]) → Means l r t

/-- Kids, one behind the other; what may be weighed still; an error. -/
def loopM (f : Nat → Int → T × Int × Int) : Nat → Nat → List T → Int → List T × Int × Int
  | 0, _, acc, left => (acc, left, 0)
  | m + 1, i, acc, left => if (f i left).2.2 ≠ 0 then (acc, (f i left).2.1, (f i left).2.2) else loopM f m (i + 1) (acc ++ [(f i left).1]) (f i left).2.1
def costM (r : Rf) : Int := if r.kind = 1 then 1 + r.data + r.kids else if r.kind = 9 then 1 + r.count * (1 + r.data + r.kids) else 1 + nk r
def stepM (l : List (List Int)) (rec : Rf → Int → T × Int × Int) (r : Rf) (i : Nat) (left : Int) : T × Int × Int :=
  if (kidP l r i).2 ≠ 0 then (T0, left, (kidP l r i).2) else rec (kidP l r i).1 left
def kidsM (l : List (List Int)) (rec : Rf → Int → T × Int × Int) (r : Rf) (left : Int) : T × Int × Int :=
  (.mk 1 (wordsR l r) (loopM (stepM l rec r) r.kids.toNat 0 [] left).1, (loopM (stepM l rec r) r.kids.toNat 0 [] left).2.1, (loopM (stepM l rec r) r.kids.toNat 0 [] left).2.2)
def leafM (l : List (List Int)) (r : Rf) (left : Int) : T × Int × Int := (.mk r.kind (wordsR l r) [], left, 0)
def restM (l : List (List Int)) (r : Rf) (rec1 rec2 : Rf → Int → T × Int × Int) (left : Int) : T × Int × Int :=
  (.mk r.kind (wordsR l r) (loopM (stepM l (if r.kind = 9 then kidsM l rec2 else if r.kind = 1 ∨ r.kind = 8 then rec1 else leafM l) r) (nk r).toNat 0 [] (left - costM r)).1,
    (loopM (stepM l (if r.kind = 9 then kidsM l rec2 else if r.kind = 1 ∨ r.kind = 8 then rec1 else leafM l) r) (nk r).toNat 0 [] (left - costM r)).2.1,
    (loopM (stepM l (if r.kind = 9 then kidsM l rec2 else if r.kind = 1 ∨ r.kind = 8 then rec1 else leafM l) r) (nk r).toNat 0 [] (left - costM r)).2.2)
def stopM (l : List (List Int)) (r : Rf) (left : Int) : T × Int × Int := (.mk r.kind (wordsR l r) [], left, 3)
def meaning (l : List (List Int)) : Nat → Rf → Int → T × Int × Int
  | 0, r, left => if r.kind = 0 then leafM l r left else stopM l r left
  | 1, r, left => if r.kind = 0 then leafM l r left else if r.kind = 9 ∧ 0 < r.count then stopM l r left else if left < costM r then stopM l r left
    else restM l r (meaning l 0) (fun r left => stopM l r left) left
  | d + 2, r, left => if r.kind = 0 then leafM l r left else if left < costM r then stopM l r left else restM l r (meaning l (d + 1)) (meaning l d) left

theorem loopM_ok {f : Nat → Int → T × Int × Int} : ∀ {m i : Nat} {acc : List T} {left : Int}, (loopM f m i acc left).2.2 = 0 → ∃ ks : List T, (loopM f m i acc left).1 = acc ++ ks ∧ ks.length = m ∧ ∀ (j : Nat) (h : j < ks.length), ∃ lf, (f (i + j) lf).2.2 = 0 ∧ (f (i + j) lf).1 = ks[j]
  | 0, i, acc, left, h => ⟨[], by simp [loopM], rfl, fun j h => by simp at h⟩
  | m + 1, i, acc, left, h => by
    rw [loopM] at h ⊢
    by_cases h0 : (f i left).2.2 ≠ 0
    · rw [if_pos h0] at h; exact absurd h h0
    · rw [if_neg h0] at h ⊢
      obtain ⟨ks, e1, e2, e3⟩ := loopM_ok h
      refine ⟨(f i left).1 :: ks, by rw [e1]; simp, by simp [e2], fun j hj => ?_⟩
      cases j with
      | zero => exact ⟨left, by simpa using h0, rfl⟩
      | succ j =>
        obtain ⟨lf, g1, g2⟩ := e3 j (by simpa using hj)
        refine ⟨lf, ?_, ?_⟩
        · rw [show i + (j + 1) = i + 1 + j by omega]; exact g1
        · rw [show i + (j + 1) = i + 1 + j by omega]; simpa using g2
theorem nk_nonneg {l : List (List Int)} {r : Rf} (h : RfOk l r) : 0 ≤ nk r ∧ nk r < 536870912 := by
  cases h <;> simp [nk, Rf.zero] <;> omega
theorem loop_means {l : List (List Int)} (hw : Wds l) {r : Rf} (hr : RfOk l r) {rec : Rf → Int → T × Int × Int} (hrec : ∀ (i : Nat) left, i < nk r → (rec (kidP l r i).1 left).2.2 = 0 → Means l (kidP l r i).1 (rec (kidP l r i).1 left).1) {k : Int} {left : Int} (hk : r.kind = k)
    (h : (loopM (stepM l rec r) (nk r).toNat 0 [] left).2.2 = 0) : Means l r (.mk k (wordsR l r) (loopM (stepM l rec r) (nk r).toNat 0 [] left).1) := by
  obtain ⟨ks, e1, e2, e3⟩ := loopM_ok h
  rw [e1]
  simp only [List.nil_append]
  have hn := nk_nonneg hr
  refine .mk _ _ hr (by simpa using hk) rfl (by simp [e2]; omega) (fun i hi => ?_) (fun i hi => ?_)
  all_goals
    simp only [T.kids_mk] at hi ⊢
    obtain ⟨lf, g1, g2⟩ := e3 i hi
    simp only [Nat.zero_add] at g1 g2
    unfold stepM at g1 g2
    by_cases h0 : (kidP l r i).2 ≠ 0
    · rw [if_pos h0] at g1; exact absurd g1 h0
    · rw [if_neg h0] at g1 g2
      first
        | (simpa using h0)
        | (rw [← g2]; exact hrec i _ (by omega) g1)
theorem leaf_means {l : List (List Int)} {r : Rf} (hr : RfOk l r) (h : r.kind = 0 ∨ r.kind = 10) {left : Int} : Means l r (leafM l r left).1 := by
  refine .mk _ _ hr rfl rfl ?_ (fun i hi => by simp [leafM] at hi) (fun i hi => by simp [leafM] at hi)
  cases hr <;> simp [leafM, nk, Rf.zero] at h ⊢ <;> omega
theorem kid_data {l : List (List Int)} {r : Rf} (hr : RfOk l r) (h0 : r.kind ≠ 0) (h1 : r.kind ≠ 1) (h8 : r.kind ≠ 8) (h9 : r.kind ≠ 9) (i : Int) : (kidP l r i).1.kind = 0 ∨ (kidP l r i).1.kind = 10 := by
  unfold kidP
  split
  · exact .inl rfl
  · exact .inr rfl
theorem rest_means {l : List (List Int)} (hw : Wds l) {r : Rf} (hr : RfOk l r) {rec1 rec2 : Rf → Int → T × Int × Int} (h1 : ∀ x left, RfOk l x → (rec1 x left).2.2 = 0 → Means l x (rec1 x left).1)
    (h2 : r.kind = 9 → 0 < r.count → ∀ x left, RfOk l x → (rec2 x left).2.2 = 0 → Means l x (rec2 x left).1) {left : Int} (h : (restM l r rec1 rec2 left).2.2 = 0) : Means l r (restM l r rec1 rec2 left).1 := by
  unfold restM at h ⊢
  refine loop_means hw hr (fun i lf hi hq => ?_) rfl h
  have hok := kid_ok hw hr (i : Int)
  by_cases h9 : r.kind = 9
  · simp only [if_pos h9] at hq ⊢
    have hk : nk r = r.count := by simp [nk, h9]
    have hkid : kidP l r i = (⟨1, r.s, r.at_ + i * (r.data + r.kids), r.data, r.kids, 0, 0⟩, 0) := by
      rw [kidP, if_neg (by omega), if_neg (by omega), if_neg (by omega), if_pos h9]
    rw [hkid] at hq hok ⊢
    unfold kidsM at hq ⊢
    exact loop_means hw hok (fun j lf' hj hq' => h2 h9 (by omega) _ _ (kid_ok hw hok _) hq') rfl hq
  · by_cases h18 : r.kind = 1 ∨ r.kind = 8
    · simp only [if_neg h9, if_pos h18] at hq ⊢
      exact h1 _ _ hok hq
    · simp only [if_neg h9, if_neg h18] at hq ⊢
      refine leaf_means hok ?_
      by_cases h0 : r.kind = 0
      · cases hr <;> simp [nk, Rf.zero] at hi h0 <;> omega
      · exact kid_data hr h0 (by omega) (by omega) h9 i
theorem meaning_means {l : List (List Int)} (hw : Wds l) : ∀ (d : Nat) (r : Rf) (left : Int), RfOk l r → (meaning l d r left).2.2 = 0 → Means l r (meaning l d r left).1
  | 0, r, left, hr, h => by
    rw [meaning] at h ⊢
    split at h
    · rename_i h0; rw [if_pos h0]; exact leaf_means hr (.inl h0)
    · exact absurd h (by simp [stopM])
  | 1, r, left, hr, h => by
    rw [meaning] at h ⊢
    split at h
    · rename_i h0; rw [if_pos h0]; exact leaf_means hr (.inl h0)
    · rename_i h0
      split at h
      · exact absurd h (by simp [stopM])
      · rename_i h9
        split at h
        · exact absurd h (by simp [stopM])
        · rename_i hc
          rw [if_neg h0, if_neg h9, if_neg hc]
          exact rest_means hw hr (fun x lf hx hq => meaning_means hw 0 x lf hx hq) (fun k9 hk => absurd ⟨k9, hk⟩ h9) h
  | d + 2, r, left, hr, h => by
    rw [meaning] at h ⊢
    split at h
    · rename_i h0; rw [if_pos h0]; exact leaf_means hr (.inl h0)
    · rename_i h0
      split at h
      · exact absurd h (by simp [stopM])
      · rename_i hc
        rw [if_neg h0, if_neg hc]
        exact rest_means hw hr (fun x lf hx hq => meaning_means hw (d + 1) x lf hx hq) (fun k9 hk x lf hx hq => meaning_means hw d x lf hx hq) h
end Go.Proofs.Ytigdcnlhgelkaaa
