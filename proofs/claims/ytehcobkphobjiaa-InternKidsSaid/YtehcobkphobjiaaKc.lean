/-
  Texts, merged, without what is not reached.
-/
import Derived.Test.YtehcobkphobjiaaKb
/-
  Chapters 9 and 10, plain: values where they lie, and what they mean.
-/
namespace Go.Proofs.Ytehcobkphobjiaa
set_option linter.unusedVariables false
set_option linter.unusedSimpArgs false
open Go Go.G Go.Proofs Go.PL
/-- A value where it lies. -/
structure Rf where
  kind : Int
  s : Int
  at_ : Int
  data : Int
  kids : Int
  count : Int
  n : Int
def Rf.zero : Rf := ⟨0, 0, 0, 0, 0, 0, 0⟩
def nk (r : Rf) : Int := if r.kind = 1 then r.kids else r.count
def compP (l : List (List Int)) (s a m : Int) : Rf × Int :=
  if ((word l s a).getD 0 ≠ 0 ∧ (dec ((word l s a).getD 0)).kind ≠ 1) ∨ (dec ((word l s a).getD 0)).off < 0 ∨ m < (dec ((word l s a).getD 0)).off * ((dec ((word l s a).getD 0)).data + (dec ((word l s a).getD 0)).ptrs) then (Rf.zero, 8)
  else (⟨9, s, a + 1, (dec ((word l s a).getD 0)).data, (dec ((word l s a).getD 0)).ptrs, (dec ((word l s a).getD 0)).off, 0⟩, 0)
/-- What a shape at a place is. -/
def refP (l : List (List Int)) (x : Lc) : Rf × Int :=
  if x.p.kind = 1 then (⟨1, x.s, x.at_, x.p.data, x.p.ptrs, 0, 0⟩, 0)
  else if x.p.code < 7 then (⟨2 + x.p.code, x.s, x.at_, 0, 0, x.p.count, 0⟩, 0)
  else compP l x.s x.at_ x.p.count
def atP (l : List (List Int)) (s a : Int) : Rf × Int :=
  if (followP l s a).2 ≠ 0 ∨ (followP l s a).1.p.kind = 0 then (Rf.zero, (followP l s a).2) else refP l (followP l s a).1
def getZ (g : List Int) (c i : Int) : Int :=
  if widthZ c < 1 ∨ i < 0 ∨ 1099511627776 < i then 0 else ((g[(i * widthZ c / 64).toNat]?).getD 0) / 2 ^ (i * widthZ c % 64).toNat % 2 ^ (widthZ c).toNat
def atomZ (l : List (List Int)) (r : Rf) (i : Int) : Int := getZ (((seg l r.s).getD []).drop r.at_.toNat) (r.kind - 2) i
def kidP (l : List (List Int)) (r : Rf) (i : Int) : Rf × Int :=
  if i < 0 ∨ nk r ≤ i then (Rf.zero, 0)
  else if r.kind = 1 then atP l r.s (r.at_ + r.data + i)
  else if r.kind = 8 then atP l r.s (r.at_ + i)
  else if r.kind = 9 then (⟨1, r.s, r.at_ + i * (r.data + r.kids), r.data, r.kids, 0, 0⟩, 0)
  else (⟨10, 0, 0, 0, 0, 0, atomZ l r i⟩, 0)
def wordsR (l : List (List Int)) (r : Rf) : List Int := if r.kind = 10 then [r.n] else if r.kind ≠ 1 then [] else part l r.s r.at_ r.data
/-- It lies in its segment. -/
inductive RfOk (l : List (List Int)) : Rf → Prop
  | zero : RfOk l Rf.zero
  | str (s a d k : Int) : 0 ≤ d → d < 65536 → 0 ≤ k → k < 65536 → hasW l s a (d + k) = true → RfOk l ⟨1, s, a, d, k, 0, 0⟩
  | dat (c s a n : Int) : 0 ≤ c → c < 6 → 0 ≤ n → n < 536870912 → hasW l s a ((n * bitsOf c + 63) / 64) = true → RfOk l ⟨2 + c, s, a, 0, 0, n, 0⟩
  | ptrs (s a n : Int) : 0 ≤ n → n < 536870912 → hasW l s a n = true → RfOk l ⟨8, s, a, 0, 0, n, 0⟩
  | comp (s a d k n : Int) : 0 ≤ d → d < 65536 → 0 ≤ k → k < 65536 → 0 ≤ n → n < 536870912 → hasW l s a (n * (d + k)) = true → RfOk l ⟨9, s, a, d, k, n, 0⟩
  | atom (n : Int) : 0 ≤ n → n < 18446744073709551616 → RfOk l ⟨10, 0, 0, 0, 0, 0, n⟩
/-! ### what is followed lies in its segment -/
structure Shp (p : Pt) : Prop where
  k1 : p.kind = 1 → 0 ≤ p.data ∧ p.data < 65536 ∧ 0 ≤ p.ptrs ∧ p.ptrs < 65536
  k2 : p.kind = 2 → 0 ≤ p.code ∧ p.code < 8 ∧ 0 ≤ p.count ∧ p.count < 536870912
  k : p.kind = 0 ∨ p.kind = 1 ∨ p.kind = 2 ∨ p.kind = 3 ∨ p.kind = 4
theorem dec_shp {w : Int} (h0 : 0 ≤ w) (h1 : w < 18446744073709551616) : Shp (dec w) := by
  unfold dec
  repeat' split
  all_goals refine ⟨?_, ?_, ?_⟩
  all_goals simp
  all_goals omega
def Folw (l : List (List Int)) (x : Lc × Int) : Prop := x.2 = 0 → x.1.p.kind = 0 ∨ ((x.1.p.kind = 1 ∨ x.1.p.kind = 2) ∧ Shp x.1.p ∧ hasW l x.1.s x.1.at_ ((wordsP x.1.p).getD 0) = true)
theorem inside_folw {l : List (List Int)} {x : Lc} (h : x.p.kind = 1 ∨ x.p.kind = 2) (hs : Shp x.p) : Folw l (insideP l x) := by
  unfold insideP
  split
  · rename_i hh
    intro _
    exact .inr ⟨h, ⟨hs.k1, hs.k2, hs.k⟩, hh⟩
  · intro h; cases h
theorem near_folw {l : List (List Int)} {p : Pt} {s a : Int} (hs : Shp p) : Folw l (nearP l p s a) := by
  unfold nearP
  split
  · exact inside_folw (by assumption) hs
  · split <;> (intro h; cases h)
theorem double_folw {l : List (List Int)} (hw : Wds l) (s a : Int) : Folw l (doubleP l s a) := by
  unfold doubleP
  split
  · rename_i v w h1 h2
    obtain ⟨a1, a2⟩ := word_in hw h2
    have hs := dec_shp a1 a2
    repeat' split
    all_goals first
      | (intro h; cases h; done)
      | skip
    refine inside_folw ?_ hs
    simp only
    omega
  · intro h; cases h
theorem follow_folw {l : List (List Int)} (hw : Wds l) (s a : Int) : Folw l (followP l s a) := by
  unfold followP
  split
  · intro h; cases h
  · rename_i w h1
    obtain ⟨a1, a2⟩ := word_in hw h1
    split
    · intro _; exact .inl rfl
    · split
      · exact near_folw (dec_shp a1 a2)
      · split
        · exact double_folw hw _ _
        · split
          · intro h; cases h
          · rename_i v h2
            obtain ⟨b1, b2⟩ := word_in hw h2
            exact near_folw (dec_shp b1 b2)
theorem wordsP_str {p : Pt} (h : p.kind = 1) : wordsP p = some (p.data + p.ptrs) := by simp [wordsP, h]
theorem wordsP_dat {p : Pt} (h : p.kind = 2) (hs : Shp p) (h6 : p.code < 7) : wordsP p = some ((p.count * bitsOf p.code + 63) / 64) := by
  obtain ⟨a, b, c, d⟩ := hs.k2 h
  rw [wordsP, if_neg (by omega), if_neg (by omega), if_pos (by omega)]
theorem wordsP_comp {p : Pt} (h : p.kind = 2) (h7 : p.code = 7) : wordsP p = some (p.count + 1) := by simp [wordsP, h, h7]
theorem mul_le_of {a b c : Int} (h : a ≤ b) (hc : 0 ≤ c) : a * c ≤ b * c := Int.mul_le_mul_of_nonneg_right h hc
theorem hasW_sub {l : List (List Int)} {s a n b m : Int} (h : hasW l s a n = true) (h1 : a ≤ b) (h2 : 0 ≤ m) (h3 : b + m ≤ a + n) : hasW l s b m = true := by
  simp only [hasW, decide_eq_true_eq] at h ⊢
  omega
theorem dec_off' {w : Int} (h0 : 0 ≤ w) (h1 : w < 18446744073709551616) : (dec w).off < 536870912 := by
  have := (offs_in w).2.1
  unfold dec
  repeat' split
  all_goals simp
  all_goals omega
theorem comp_ok {l : List (List Int)} (hw : Wds l) {s a m : Int} (h : hasW l s a (m + 1) = true) : RfOk l (compP l s a m).1 := by
  unfold compP
  have h0 : 0 ≤ (word l s a).getD 0 ∧ (word l s a).getD 0 < 18446744073709551616 := by
    cases e : word l s a with
    | none => simp
    | some x => exact word_in hw e
  generalize (word l s a).getD 0 = w at h0
  have hs := dec_shp h0.1 h0.2
  have ho := dec_off h0.1 h0.2
  have ho' := dec_off' h0.1 h0.2
  split
  · exact .zero
  · rename_i hc
    have hk : (dec w).kind = 1 ∨ dec w = Pt.zero := by
      by_cases hw0 : w = 0
      · subst hw0; exact .inr rfl
      · left; omega
    have hd : 0 ≤ (dec w).data ∧ (dec w).data < 65536 ∧ 0 ≤ (dec w).ptrs ∧ (dec w).ptrs < 65536 := by
      rcases hk with hk | hk
      · exact hs.k1 hk
      · rw [hk]; decide
    refine .comp _ _ _ _ _ hd.1 hd.2.1 hd.2.2.1 hd.2.2.2 (by omega) (by omega) (hasW_sub h (by omega) ?_ (by omega))
    exact Int.mul_nonneg (by omega) (by omega)
theorem ref_ok {l : List (List Int)} (hw : Wds l) {x : Lc} (hk : x.p.kind = 1 ∨ x.p.kind = 2) (hs : Shp x.p) (h : hasW l x.s x.at_ ((wordsP x.p).getD 0) = true) : RfOk l (refP l x).1 := by
  unfold refP
  split
  · rename_i k1
    obtain ⟨a, b, c, d⟩ := hs.k1 k1
    rw [wordsP_str k1] at h
    exact .str _ _ _ _ a b c d h
  · rename_i k1
    have k2 : x.p.kind = 2 := by omega
    obtain ⟨a, b, c, d⟩ := hs.k2 k2
    split
    · rename_i h7
      rw [wordsP_dat k2 hs h7] at h
      by_cases h6 : x.p.code = 6
      · rw [h6] at h ⊢
        refine .ptrs _ _ _ c d (hasW_sub h (Int.le_refl _) c ?_)
        have e : bitsOf 6 = 64 := by decide
        simp only [Option.getD_some, e]
        omega
      · exact .dat _ _ _ _ a (by omega) c d h
    · rw [wordsP_comp k2 (by omega)] at h
      exact comp_ok hw h
theorem at_ok {l : List (List Int)} (hw : Wds l) (s a : Int) : RfOk l (atP l s a).1 := by
  unfold atP
  split
  · exact .zero
  · rename_i h
    rcases follow_folw hw s a (by omega) with h0 | ⟨h1, h2, h3⟩
    · omega
    · exact ref_ok hw h1 h2 h3
theorem getZ_range {g : List Int} {c i : Int} (hg : ∀ x, x ∈ g → 0 ≤ x ∧ x < 18446744073709551616) : 0 ≤ getZ g c i ∧ getZ g c i < 18446744073709551616 := by
  unfold getZ
  split
  · omega
  · have h0 : 0 ≤ (g[(i * widthZ c / 64).toNat]?).getD 0 ∧ (g[(i * widthZ c / 64).toNat]?).getD 0 < 18446744073709551616 := by
      cases e : g[(i * widthZ c / 64).toNat]? with
      | none => simp
      | some x => exact hg x (List.mem_of_getElem? e)
    generalize (g[(i * widthZ c / 64).toNat]?).getD 0 = x at h0
    have p1 : (0 : Int) < 2 ^ (i * widthZ c % 64).toNat := Int.pow_pos (by omega)
    have p2 : (0 : Int) < 2 ^ (widthZ c).toNat := Int.pow_pos (by omega)
    have d0 : 0 ≤ x / 2 ^ (i * widthZ c % 64).toNat := Int.ediv_nonneg h0.1 (by omega)
    have d1 : x / 2 ^ (i * widthZ c % 64).toNat ≤ x := Int.ediv_le_self _ h0.1
    have m0 := Int.emod_nonneg (x / 2 ^ (i * widthZ c % 64).toNat) (by omega : (2 : Int) ^ (widthZ c).toNat ≠ 0)
    have m1 : x / 2 ^ (i * widthZ c % 64).toNat % 2 ^ (widthZ c).toNat ≤ x / 2 ^ (i * widthZ c % 64).toNat := by
      rw [Int.emod_def]
      have := Int.mul_nonneg (a := 2 ^ (widthZ c).toNat) (b := x / 2 ^ (i * widthZ c % 64).toNat / 2 ^ (widthZ c).toNat) (by omega) (Int.ediv_nonneg d0 (by omega))
      omega
    omega
theorem kid_ok {l : List (List Int)} (hw : Wds l) {r : Rf} (hr : RfOk l r) (i : Int) : RfOk l (kidP l r i).1 := by
  unfold kidP
  split
  · exact .zero
  · rename_i hi
    cases hr with
    | zero => simp [nk, Rf.zero] at hi; omega
    | str s a d k a1 a2 a3 a4 h => simp; exact at_ok hw _ _
    | dat c s a n a1 a2 a3 a4 h =>
      simp
      rw [if_neg (by omega), if_neg (by omega), if_neg (by omega)]
      have := getZ_range (g := ((seg l s).getD []).drop a.toNat) (c := 2 + c - 2) (i := i) (fun x hx => by
        cases e : seg l s with
        | none => rw [e] at hx; simp at hx
        | some g =>
          rw [e] at hx
          obtain ⟨_, _, k1, rfl⟩ := seg_some e
          exact hw _ (List.getElem_mem k1) _ (List.mem_of_mem_drop hx))
      exact .atom _ this.1 this.2
    | ptrs s a n a1 a2 h => simp; exact at_ok hw _ _
    | comp s a d k n a1 a2 a3 a4 a5 a6 h =>
      simp [nk] at hi ⊢
      refine .str _ _ _ _ a1 a2 a3 a4 (hasW_sub h ?_ (by omega) ?_)
      · have := Int.mul_nonneg (by omega : 0 ≤ i) (by omega : 0 ≤ d + k)
        omega
      · have h1 : (i + 1) * (d + k) ≤ n * (d + k) := mul_le_of (by omega) (by omega)
        rw [Int.add_mul] at h1
        omega
    | atom n a1 a2 => simp [nk] at hi; omega
/-! ### what it means -/
inductive Means (l : List (List Int)) : Rf → T → Prop
  | mk (r : Rf) (t : T) : RfOk l r → r.kind = t.kind → wordsR l r = t.words → nk r = t.kids.length → (∀ (i : Nat) (h : i < t.kids.length), (kidP l r i).2 = 0) → (∀ (i : Nat) (h : i < t.kids.length), Means l (kidP l r i).1 t.kids[i]) → Means l r t
/-- Kids, one behind the other; what may be weighed still; an error. -/
def loopM (f : Nat → Int → T × Int × Int) : Nat → Nat → List T → Int → List T × Int × Int
  | 0, _, acc, left => (acc, left, 0)
  | m + 1, i, acc, left => if (f i left).2.2 ≠ 0 then (acc, (f i left).2.1, (f i left).2.2) else loopM f m (i + 1) (acc ++ [(f i left).1]) (f i left).2.1
def costM (r : Rf) : Int := if r.kind = 1 then 1 + r.data + r.kids else if r.kind = 9 then 1 + r.count * (1 + r.data + r.kids) else 1 + nk r
def stepM (l : List (List Int)) (rec : Rf → Int → T × Int × Int) (r : Rf) (i : Nat) (left : Int) : T × Int × Int :=
  if (kidP l r i).2 ≠ 0 then (T0, left, (kidP l r i).2) else rec (kidP l r i).1 left
def kidsM (l : List (List Int)) (rec : Rf → Int → T × Int × Int) (r : Rf) (left : Int) : T × Int × Int :=
  (.mk 1 (wordsR l r) (loopM (stepM l rec r) r.kids.toNat 0 [] left).1, (loopM (stepM l rec r) r.kids.toNat 0 [] left).2.1, (loopM (stepM l rec r) r.kids.toNat 0 [] left).2.2)
def leafM (l : List (List Int)) (r : Rf) (left : Int) : T × Int × Int := (.mk r.kind (wordsR l r) [], left, 0)
def restM (l : List (List Int)) (r : Rf) (rec1 rec2 : Rf → Int → T × Int × Int) (left : Int) : T × Int × Int :=
  (.mk r.kind (wordsR l r) (loopM (stepM l (if r.kind = 9 then kidsM l rec2 else if r.kind = 1 ∨ r.kind = 8 then rec1 else leafM l) r) (nk r).toNat 0 [] (left - costM r)).1,
    (loopM (stepM l (if r.kind = 9 then kidsM l rec2 else if r.kind = 1 ∨ r.kind = 8 then rec1 else leafM l) r) (nk r).toNat 0 [] (left - costM r)).2.1,
    (loopM (stepM l (if r.kind = 9 then kidsM l rec2 else if r.kind = 1 ∨ r.kind = 8 then rec1 else leafM l) r) (nk r).toNat 0 [] (left - costM r)).2.2)
def stopM (l : List (List Int)) (r : Rf) (left : Int) : T × Int × Int := (.mk r.kind (wordsR l r) [], left, 3)
def meaning (l : List (List Int)) : Nat → Rf → Int → T × Int × Int
  | 0, r, left => if r.kind = 0 then leafM l r left else stopM l r left
  | 1, r, left => if r.kind = 0 then leafM l r left else if r.kind = 9 ∧ 0 < r.count then stopM l r left else if left < costM r then stopM l r left
    else restM l r (meaning l 0) (fun r left => stopM l r left) left
  | d + 2, r, left => if r.kind = 0 then leafM l r left else if left < costM r then stopM l r left else restM l r (meaning l (d + 1)) (meaning l d) left
theorem loopM_ok {f : Nat → Int → T × Int × Int} : ∀ {m i : Nat} {acc : List T} {left : Int}, (loopM f m i acc left).2.2 = 0 → ∃ ks : List T, (loopM f m i acc left).1 = acc ++ ks ∧ ks.length = m ∧ ∀ (j : Nat) (h : j < ks.length), ∃ lf, (f (i + j) lf).2.2 = 0 ∧ (f (i + j) lf).1 = ks[j]
  | 0, i, acc, left, h => ⟨[], by simp [loopM], rfl, fun j h => by simp at h⟩
  | m + 1, i, acc, left, h => by
    rw [loopM] at h ⊢
    by_cases h0 : (f i left).2.2 ≠ 0
    · rw [if_pos h0] at h; exact absurd h h0
    · rw [if_neg h0] at h ⊢
      obtain ⟨ks, e1, e2, e3⟩ := loopM_ok h
      refine ⟨(f i left).1 :: ks, by rw [e1]; simp, by simp [e2], fun j hj => ?_⟩
      cases j with
      | zero => exact ⟨left, by simpa using h0, rfl⟩
      | succ j =>
        obtain ⟨lf, g1, g2⟩ := e3 j (by simpa using hj)
        refine ⟨lf, ?_, ?_⟩
        · rw [show i + (j + 1) = i + 1 + j by omega]; exact g1
        · rw [show i + (j + 1) = i + 1 + j by omega]; simpa using g2
theorem nk_nonneg {l : List (List Int)} {r : Rf} (h : RfOk l r) : 0 ≤ nk r ∧ nk r < 536870912 := by
  cases h <;> simp [nk, Rf.zero] <;> omega
theorem loop_means {l : List (List Int)} (hw : Wds l) {r : Rf} (hr : RfOk l r) {rec : Rf → Int → T × Int × Int} (hrec : ∀ (i : Nat) left, i < nk r → (rec (kidP l r i).1 left).2.2 = 0 → Means l (kidP l r i).1 (rec (kidP l r i).1 left).1) {k : Int} {left : Int} (hk : r.kind = k)
    (h : (loopM (stepM l rec r) (nk r).toNat 0 [] left).2.2 = 0) : Means l r (.mk k (wordsR l r) (loopM (stepM l rec r) (nk r).toNat 0 [] left).1) := by
  obtain ⟨ks, e1, e2, e3⟩ := loopM_ok h
  rw [e1]
  simp only [List.nil_append]
  have hn := nk_nonneg hr
  refine .mk _ _ hr (by simpa using hk) rfl (by simp [e2]; omega) (fun i hi => ?_) (fun i hi => ?_)
  all_goals
    simp only [T.kids_mk] at hi ⊢
    obtain ⟨lf, g1, g2⟩ := e3 i hi
    simp only [Nat.zero_add] at g1 g2
    unfold stepM at g1 g2
    by_cases h0 : (kidP l r i).2 ≠ 0
    · rw [if_pos h0] at g1; exact absurd g1 h0
    · rw [if_neg h0] at g1 g2
      first
        | (simpa using h0)
        | (rw [← g2]; exact hrec i _ (by omega) g1)
theorem leaf_means {l : List (List Int)} {r : Rf} (hr : RfOk l r) (h : r.kind = 0 ∨ r.kind = 10) {left : Int} : Means l r (leafM l r left).1 := by
  refine .mk _ _ hr rfl rfl ?_ (fun i hi => by simp [leafM] at hi) (fun i hi => by simp [leafM] at hi)
  cases hr <;> simp [leafM, nk, Rf.zero] at h ⊢ <;> omega
theorem kid_data {l : List (List Int)} {r : Rf} (hr : RfOk l r) (h0 : r.kind ≠ 0) (h1 : r.kind ≠ 1) (h8 : r.kind ≠ 8) (h9 : r.kind ≠ 9) (i : Int) : (kidP l r i).1.kind = 0 ∨ (kidP l r i).1.kind = 10 := by
  unfold kidP
  split
  · exact .inl rfl
  · exact .inr rfl
theorem rest_means {l : List (List Int)} (hw : Wds l) {r : Rf} (hr : RfOk l r) {rec1 rec2 : Rf → Int → T × Int × Int} (h1 : ∀ x left, RfOk l x → (rec1 x left).2.2 = 0 → Means l x (rec1 x left).1)
    (h2 : r.kind = 9 → 0 < r.count → ∀ x left, RfOk l x → (rec2 x left).2.2 = 0 → Means l x (rec2 x left).1) {left : Int} (h : (restM l r rec1 rec2 left).2.2 = 0) : Means l r (restM l r rec1 rec2 left).1 := by
  unfold restM at h ⊢
  refine loop_means hw hr (fun i lf hi hq => ?_) rfl h
  have hok := kid_ok hw hr (i : Int)
  by_cases h9 : r.kind = 9
  · simp only [if_pos h9] at hq ⊢
    have hk : nk r = r.count := by simp [nk, h9]
    have hkid : kidP l r i = (⟨1, r.s, r.at_ + i * (r.data + r.kids), r.data, r.kids, 0, 0⟩, 0) := by
      rw [kidP, if_neg (by omega), if_neg (by omega), if_neg (by omega), if_pos h9]
    rw [hkid] at hq hok ⊢
    unfold kidsM at hq ⊢
    exact loop_means hw hok (fun j lf' hj hq' => h2 h9 (by omega) _ _ (kid_ok hw hok _) hq') rfl hq
  · by_cases h18 : r.kind = 1 ∨ r.kind = 8
    · simp only [if_neg h9, if_pos h18] at hq ⊢
      exact h1 _ _ hok hq
    · simp only [if_neg h9, if_neg h18] at hq ⊢
      refine leaf_means hok ?_
      by_cases h0 : r.kind = 0
      · cases hr <;> simp [nk, Rf.zero] at hi h0 <;> omega
      · exact kid_data hr h0 (by omega) (by omega) h9 i
theorem meaning_means {l : List (List Int)} (hw : Wds l) : ∀ (d : Nat) (r : Rf) (left : Int), RfOk l r → (meaning l d r left).2.2 = 0 → Means l r (meaning l d r left).1
  | 0, r, left, hr, h => by
    rw [meaning] at h ⊢
    split at h
    · rename_i h0; rw [if_pos h0]; exact leaf_means hr (.inl h0)
    · exact absurd h (by simp [stopM])
  | 1, r, left, hr, h => by
    rw [meaning] at h ⊢
    split at h
    · rename_i h0; rw [if_pos h0]; exact leaf_means hr (.inl h0)
    · rename_i h0
      split at h
      · exact absurd h (by simp [stopM])
      · rename_i h9
        split at h
        · exact absurd h (by simp [stopM])
        · rename_i hc
          rw [if_neg h0, if_neg h9, if_neg hc]
          exact rest_means hw hr (fun x lf hx hq => meaning_means hw 0 x lf hx hq) (fun k9 hk => absurd ⟨k9, hk⟩ h9) h
  | d + 2, r, left, hr, h => by
    rw [meaning] at h ⊢
    split at h
    · rename_i h0; rw [if_pos h0]; exact leaf_means hr (.inl h0)
    · rename_i h0
      split at h
      · exact absurd h (by simp [stopM])
      · rename_i hc
        rw [if_neg h0, if_neg hc]
        exact rest_means hw hr (fun x lf hx hq => meaning_means hw (d + 1) x lf hx hq) (fun k9 hk x lf hx hq => meaning_means hw d x lf hx hq) h
end Go.Proofs.Ytehcobkphobjiaa

/-
  The document's words: bytes, masks, small numbers.
-/
namespace Go.Proofs.Ytehcobkphobjiaa
set_option linter.unusedVariables false
set_option linter.unusedSimpArgs false
open Go Go.G Go.Proofs Go.PL
theorem rWidth_spec (c : Int) : G.Spec Try.prog 160 [iv c] (iv (widthZ c)) := by
  refine spec_of t_centoref01_Width (by simp) fun w0 I0 => ?_
  unfold c_centoref01_Width
  by_cases h0 : c = 0
  · subst h0; simp; exact frz_is rfl rfl
  by_cases h1 : c = 1
  · subst h1; simp; exact frz_is rfl rfl
  by_cases h2 : c = 2
  · subst h2; simp; exact frz_is rfl rfl
  by_cases h3 : c = 3
  · subst h3; simp; exact frz_is rfl rfl
  by_cases h4 : c = 4
  · subst h4; simp; exact frz_is rfl rfl
  by_cases h5 : c = 5
  · subst h5; simp; exact frz_is rfl rfl
  simp [h0, h1, h2, h3, h4, h5]
  exact frz_is rfl (by simp [widthZ, h0, h1, h2, h3, h4, h5])
theorem widthZ_cases (c : Int) : widthZ c = -1 ∨ widthZ c = 0 ∨ widthZ c = 1 ∨ widthZ c = 8 ∨ widthZ c = 16 ∨ widthZ c = 32 ∨ widthZ c = 64 := by
  unfold widthZ; repeat' split
  all_goals simp
section
variable {n0 : Nat} {w0 : World} {I0 : Nat → Prop} {Q : Exit → Sta → Prop} {H : Hp}
theorem rFits_l1 {w : Int} (hw : w ≤ 64) : ∀ (m : Nat) (x i : Int), 0 ≤ x → x < 18446744073709551616 → 0 ≤ i → i + m = w → (∀ b, Q (.exit 0) ⟨lk [(1, uv (x / 2 ^ m)), (5, iv w), (6, iv w), (13, bv b)], H⟩) →
    LoopC (cx Try.prog w0 I0 n0) l1_centoref01_Fits Q ⟨lk [(1, uv x), (5, iv w), (6, iv i)], H⟩ := by
  intro m
  induction m with
  | zero =>
    intro x i h0 h1 h2 h3 hq
    have : i = w := by simpa using h3
    subst this
    refine loopC_once mixed l1_centoref01_Fits.eq_1 ?_
    simp
    simpa using hq _
  | succ m ih =>
    intro x i h0 h1 h2 h3 hq
    refine loopC_once mixed l1_centoref01_Fits.eq_1 ?_
    have hi : i < w := by omega
    simp [hi]
    rw [i64_same (by omega) (by omega), Int.tdiv_eq_ediv_of_nonneg h0, u64_same (by omega) (by omega)]
    exact ih _ _ (by omega) (by omega) (by omega) (by omega) (by rw [pow_half]; exact hq)
end
theorem rFits_spec {c n : Int} (h : u64R n) : G.Spec Try.prog 107 [iv c, uv n] (bv (fitsZ c n)) := by
  refine spec_of t_centoref01_Fits (by simp) fun w0 I0 => ?_
  unfold c_centoref01_Fits
  simp
  refine sc_call (rWidth_spec c) rfl ?_
  simp
  have hw := widthZ_cases c
  refine ⟨fun h0 => ?_, fun h0 => ?_⟩
  · refine frz_bool ?_
    simp [fitsZ]; omega
  · refine rFits_l1 (w := widthZ c) (by omega) (widthZ c).toNat n 0 h.1 h.2 (by omega) (by omega) (fun b => ?_)
    simp
    refine frz_bool ?_
    simp [fitsZ, h0]
theorem bitsZ_width (c : Int) : bitsZ c = if widthZ c < 1 then 0 else widthZ c := by
  unfold bitsZ widthZ
  by_cases h0 : c = 0
  · subst h0; rfl
  by_cases h1 : c = 1
  · subst h1; rfl
  by_cases h2 : c = 2
  · subst h2; rfl
  by_cases h3 : c = 3
  · subst h3; rfl
  by_cases h4 : c = 4
  · subst h4; rfl
  by_cases h5 : c = 5
  · subst h5; rfl
  simp [h0, h1, h2, h3, h4, h5]
theorem rRoom_spec (c n : Int) : G.Spec Try.prog 131 [iv c, iv n] (iv (roomZ c n)) := by
  refine spec_of t_centoref01_Room (by simp) fun w0 I0 => ?_
  unfold c_centoref01_Room
  simp
  refine sc_call (rWidth_spec c) rfl ?_
  simp
  have hw := widthZ_cases c
  have hb := bitsZ_width c
  refine ⟨fun h0 => ?_, fun a1 a2 a3 => ?_⟩
  · refine frz_int ?_
    unfold roomZ
    split
    · rfl
    · rw [hb, if_pos (by omega)]; simp
  · refine sc_call (rWidth_spec c) rfl ?_
    rw [if_neg (by omega)] at hb
    have hw : widthZ c = 1 ∨ widthZ c = 8 ∨ widthZ c = 16 ∨ widthZ c = 32 ∨ widthZ c = 64 := by omega
    have e : roomZ c n = (n * widthZ c + 63) / 64 := by unfold roomZ; rw [if_neg (by omega), hb]
    rw [e]
    generalize widthZ c = w at *
    simp
    have hq : (64 : Int).tdiv w = 64 / w := Int.tdiv_eq_ediv_of_nonneg (by omega)
    rcases hw with rfl | rfl | rfl | rfl | rfl
    all_goals
      simp [hq, Int.tdiv_eq_ediv_of_nonneg a2, Int.tmod_eq_emod_of_nonneg a2]
      simp (disch := omega) only [i64_same]
      simp
      first
        | exact ⟨fun h => frz_int (by omega), fun h => frz_int (by omega)⟩
        | exact frz_int (by omega)
section
variable {n0 : Nat} {w0 : World} {I0 : Nat → Prop} {Q : Exit → Sta → Prop} {H : Hp}
theorem rSame_l1 {a b : List Int} (hl : a.length = b.length) (hb : a.length * 8 ≤ 140737488355328) : ∀ (m i : Nat), i + m = a.length → a.take i = b.take i → (a = b → ∀ i q, Q (.exit 0) ⟨lk [(0, uws a), (1, uws b), (5, iv i), (14, bv q)], H⟩) → (a ≠ b → Q .ret ⟨lk [(4, bv false)], H⟩) →
    LoopC (cx Try.prog w0 I0 n0) l1_centoref01_Same Q ⟨lk [(0, uws a), (1, uws b), (5, iv i)], H⟩ := by
  intro m
  induction m with
  | zero =>
    intro i hi ht h1 h2
    have : i = a.length := by omega
    subst this
    refine loopC_once mixed l1_centoref01_Same.eq_1 ?_
    simp
    refine h1 ?_ _ _
    rw [List.take_of_length_le (Nat.le_refl _), List.take_of_length_le (by omega)] at ht
    exact ht
  | succ m ih =>
    intro i hi ht h1 h2
    have hlt : i < a.length := by omega
    have hlt' : i < b.length := by omega
    refine loopC_once mixed l1_centoref01_Same.eq_1 ?_
    simp [hlt, hlt']
    refine ⟨fun he => ?_, fun hne => h2 fun e => hne (by subst e; rfl)⟩
    rw [i64_same (by omega) (by omega)]
    refine ih (i + 1) (by omega) ?_ h1 h2
    rw [List.take_succ_eq_append_getElem hlt, List.take_succ_eq_append_getElem hlt', ht, he]
end
theorem rSame_spec (a b : List Int) (hb : a.length * 8 ≤ 140737488355328) : G.Spec Try.prog 43 [uws a, uws b] (bv (decide (a = b))) := by
  refine spec_of t_centoref01_Same (by simp) fun w0 I0 => ?_
  unfold c_centoref01_Same
  simp
  refine ⟨fun h => ?_, fun h => ?_⟩
  · refine rSame_l1 (by omega) hb a.length 0 (by omega) rfl (fun e i q => ?_) (fun e => ?_)
    · simp
      refine frz_bool ?_
      simp [e]
    · simp
      refine frz_bool ?_
      simp [e]
  · refine frz_bool ?_
    have : ¬ a = b := fun e => h (by rw [e])
    simp [this]
/-! ### the program's widths -/
theorem width_spec (c : Int) : G.Spec Try.prog 179 [iv c] (.tup [iv (if widthZ c < 0 then 0 else widthZ c), bv (decide (0 ≤ widthZ c))]) := by
  refine spec_of t_word_width (by simp) fun w0 I0 => ?_
  unfold c_word_width
  by_cases h0 : c = 0
  · subst h0; simp; exact frz_is rfl rfl
  by_cases h1 : c = 1
  · subst h1; simp; exact frz_is rfl rfl
  by_cases h2 : c = 2
  · subst h2; simp; exact frz_is rfl rfl
  by_cases h3 : c = 3
  · subst h3; simp; exact frz_is rfl rfl
  by_cases h4 : c = 4
  · subst h4; simp; exact frz_is rfl rfl
  by_cases h5 : c = 5
  · subst h5; simp; exact frz_is rfl rfl
  have hd : (decide (c < 0) || decide (6 ≤ c)) = true := by simp; omega
  simp [hd]
  exact frz_is rfl (by simp [widthZ, h0, h1, h2, h3, h4, h5])
/-! ### without noughts at the end -/
section
variable {n0 : Nat} {w0 : World} {I0 : Nat → Prop} {Q : Exit → Sta → Prop} {H : Hp}
theorem rTrim_l1 {w : List Int} (hb : w.length * 8 ≤ 140737488355328) (hq : ∀ q, Q (.exit 0) ⟨lk [(0, uws w), (3, iv (trimW w).length), (16, bv q)], H⟩) : ∀ (n : Nat), n ≤ w.length → trimW (w.take n) = trimW w →
    LoopC (cx Try.prog w0 I0 n0) l1_centoref07_Trim Q ⟨lk [(0, uws w), (3, iv n)], H⟩ := by
  intro n
  induction n with
  | zero =>
    intro hn ht
    refine loopC_once mixed l1_centoref07_Trim.eq_1 ?_
    simp
    have e : (trimW w).length = 0 := by rw [← ht]; rfl
    have := hq false
    rw [e] at this
    exact this
  | succ n ih =>
    intro hn ht
    have hlt : n < w.length := by omega
    have e : IntKind.i64.wrap (n : Int) = n := i64_same (by omega) (by omega)
    refine loopC_once mixed l1_centoref07_Trim.eq_1 ?_
    by_cases h0 : w[n] = 0
    · simp [e, hlt, h0]
      exact ih (by omega) (by rw [← trimW_zero hlt h0]; exact ht)
    · have e2 : (trimW w).length = n + 1 := by rw [← ht, trimW_stop hlt h0]; simp; omega
      have := hq false
      rw [e2] at this
      simp [e, hlt, h0]
      simpa using this
end
theorem rTrim_spec (w : List Int) (hb : w.length * 8 ≤ 140737488355328) : G.Spec Try.prog 87 [uws w] (uws (trimW w)) := by
  refine spec_of t_centoref07_Trim (by simp) fun w0 I0 => ?_
  unfold c_centoref07_Trim
  simp
  refine rTrim_l1 hb (fun q => ?_) w.length (Nat.le_refl _) (by rw [List.take_of_length_le (Nat.le_refl _)])
  have hl := trimW_le w
  have hb' : (trimW w).length * 8 ≤ 140737488355328 := by omega
  simp [hl]
  refine ⟨hb', ?_⟩
  rw [← List.map_take, ← trimW_take]
  exact frz_row (by simp) rfl (by simp)
/-! ### bytes -/
section
variable {n0 : Nat} {w0 : World} {I0 : Nat → Prop} {Q : Exit → Sta → Prop}
end
section
variable {n0 : Nat} {w0 : World} {I0 : Nat → Prop} {Q : Exit → Sta → Prop} {H : Hp}
end
section
variable {n0 : Nat} {w0 : World} {I0 : Nat → Prop} {Q : Exit → Sta → Prop} {H : Hp}
end
section
variable {n0 : Nat} {w0 : World} {I0 : Nat → Prop} {Q : Exit → Sta → Prop}
end
end Go.Proofs.Ytehcobkphobjiaa

/-
  Trees and edits as arguments, whatever the room of their slices; operations under a guard.
-/
namespace Go.Proofs.Ytehcobkphobjiaa
set_option linter.unusedVariables false
set_option linter.unusedSimpArgs false
open Go Go.G Go.Proofs Go.PL
@[simp] theorem GtG_shift {q : Bool} {n : Nat} {y : A} {K : A → Prop} : GtG q (A.shift n (gd q y)) K = GtG q (A.shift n y) K := GtG_same fun h => by rw [h]; rfl
/-! ### slices of any room -/
end Go.Proofs.Ytehcobkphobjiaa

/-
  Chapter 9: values are read where they lie, by the program.
-/
namespace Go.Proofs.Ytehcobkphobjiaa
set_option linter.unusedVariables false
set_option linter.unusedSimpArgs false
open Go Go.G Go.Proofs Go.PL
/-- Segments that memory can hold. -/
structure Sg (l : List (List Int)) : Prop where
  b : ∀ x, x ∈ l → x.length * 8 ≤ 140737488355328
  w : Wds l
def arO (l : List (List Int)) (r : Rf) : A := if r.kind = 0 then .v (.pointer none) else arn l
@[simp] theorem arO_cells (l : List (List Int)) (r : Rf) : (arO l r).cells = [arO l r] := by unfold arO; split <;> rfl
@[simp] theorem arO_one (l : List (List Int)) (r : Rf) : (arO l r).one = true := by unfold arO; split <;> rfl
@[simp] theorem arO_bare (l : List (List Int)) (r : Rf) : (arO l r).bare = true := by unfold arO; split <;> rfl
@[simp] theorem arO_bare1 (l : List (List Int)) (r : Rf) : (arO l r).bare1 = true := by unfold arO; split <;> rfl
@[simp] theorem arO_bare2 (l : List (List Int)) (r : Rf) : (arO l r).bare2 = true := by unfold arO; split <;> rfl
theorem arO_nz {l : List (List Int)} {r : Rf} (h : r.kind ≠ 0) : arO l r = arn l := if_neg h
abbrev paL (l : List (List Int)) (r : Rf) : List A := [arO l r, iv r.kind, iv r.s, iv r.at_, iv r.data, iv r.kids, iv r.count, uv r.n]
abbrev paX (l : List (List Int)) (r : Rf) : A := .agg (paL l r)
def nwR (r : Rf) : Int := if r.kind = 1 then r.data else if r.kind = 10 then 1 else 0
def wordAt (l : List (List Int)) (r : Rf) (i : Int) : Int := if i < 0 ∨ nwR r ≤ i then 0 else if r.kind = 10 then r.n else (word l r.s (r.at_ + i)).getD 0
/-! ### small numbers -/
theorem u64_shr (x : Int) (k : Int) (h0 : 0 ≤ k) (h1 : k < 64) : x / 2 ^ (min k.toNat IntKind.u64.bits) = x / 2 ^ k.toNat := by
  have : min k.toNat IntKind.u64.bits = k.toNat := by
    have : IntKind.u64.bits = 64 := rfl
    omega
  rw [this]
set_option maxRecDepth 8000 in
theorem wGet_spec {g : List Int} (hg : ∀ x, x ∈ g → 0 ≤ x ∧ x < 18446744073709551616) (hl : g.length * 8 ≤ 140737488355328) (c i : Int) : G.Spec Try.prog 136 [uws g, iv c, iv i] (uv (getZ g c i)) := by
  refine spec_of t_word_Get (by simp) fun w0 I0 => ?_
  unfold c_word_Get
  simp
  refine sc_call (width_spec c) rfl ?_
  have hw := widthZ_cases c
  by_cases h0 : widthZ c < 1 ∨ i < 0 ∨ 1099511627776 < i
  · have e : getZ g c i = 0 := by unfold getZ; rw [if_pos h0]
    rw [e]
    rcases hw with h | h | h | h | h | h | h
    · simp [h]; exact frz_bare rfl
    · simp [h]; exact frz_bare rfl
    all_goals
      by_cases hi : i < 0
      · simp [h, hi]; exact frz_bare rfl
      · have hb : 1099511627776 < i := by omega
        simp [h, hi, hb]; exact frz_bare rfl
  · have hw1 : widthZ c = 1 ∨ widthZ c = 8 ∨ widthZ c = 16 ∨ widthZ c = 32 ∨ widthZ c = 64 := by omega
    have hi0 : 0 ≤ i := by omega
    have hi1 : i ≤ 1099511627776 := by omega
    have e : getZ g c i = ((g[(i * widthZ c / 64).toNat]?).getD 0) / 2 ^ (i * widthZ c % 64).toNat % 2 ^ (widthZ c).toNat := by unfold getZ; rw [if_neg h0]
    rw [e]
    clear e hw
    generalize widthZ c = w at hw1 h0
    have hn : ¬ w < 0 := by omega
    have hn0 : ¬ w = 0 := by omega
    have hp : 0 ≤ w := by omega
    have hneg : ¬ i < 0 := by omega
    have hbig : ¬ 1099511627776 < i := by omega
    have hb : 0 ≤ i * w ∧ i * w ≤ 70368744177664 := by rcases hw1 with rfl | rfl | rfl | rfl | rfl <;> omega
    have e1 : IntKind.i64.wrap (i * w) = i * w := i64_same (by omega) (by omega)
    have e2 : IntKind.i64.wrap ((i * w).tdiv 64) = i * w / 64 := by rw [Int.tdiv_eq_ediv_of_nonneg hb.1, i64_same (by omega) (by omega)]
    have e3 : (i * w).tmod 64 = i * w % 64 := Int.tmod_eq_emod_of_nonneg hb.1
    have hm : 0 ≤ i * w % 64 := by omega
    have hm1 : i * w % 64 < 64 := by omega
    have hd0 : 0 ≤ i * w / 64 := by omega
    by_cases hr : (g.length : Int) ≤ i * w / 64
    · have en : g[(i * w / 64).toNat]? = none := List.getElem?_eq_none (by omega)
      simp [hn, hn0, hp, hneg, hbig, e1, e2, hr, en]
      exact frz_bare rfl
    · have hlt : (i * w / 64).toNat < g.length := by omega
      have hlt' : i * w / 64 < g.length := by omega
      have hx := hg _ (List.getElem_mem hlt)
      simp [hn, hn0, hp, hneg, hbig, e1, e2, e3, hr, hd0, hlt, hlt', hm, u64_shr _ _ hm hm1]
      have hx0 : 0 ≤ g[(i * w / 64).toNat] / 2 ^ (i * w % 64).toNat := Int.ediv_nonneg hx.1 (Int.le_of_lt (Int.pow_pos (by decide)))
      have hx1 : g[(i * w / 64).toNat] / 2 ^ (i * w % 64).toNat < 18446744073709551616 := Int.lt_of_le_of_lt (Int.ediv_le_self _ hx.1) hx.2
      generalize g[(i * w / 64).toNat] / 2 ^ (i * w % 64).toNat = y at hx0 hx1
      refine ⟨fun h => ?_, fun h => ?_⟩
      · refine frz_int ?_
        rw [h]
        exact (Int.emod_eq_of_lt hx0 (by simpa using hx1)).symm
      · refine frz_int ?_
        have em : ∀ k : Nat, k < 64 → IntKind.u64.wrap (IntKind.u64.wrap (2 ^ min k IntKind.u64.bits) - 1) = 2 ^ k - 1 := fun k hk => by
          have h64 : min k IntKind.u64.bits = k := by
            have : IntKind.u64.bits = 64 := rfl
            omega
          have hp : (2 : Int) ^ k ≤ 9223372036854775808 := by
            have h2 := Int.ofNat_le.2 (Nat.pow_le_pow_right (n := 2) (by decide) (by omega : k ≤ 63))
            rw [Int.natCast_pow] at h2
            exact h2
          have hp0 : (0 : Int) < 2 ^ k := Int.pow_pos (by decide)
          rw [h64, u64_same (n := 2 ^ k) (by omega) (by omega), u64_same (by omega) (by omega)]
        rw [em w.toNat (by omega)]
        exact u64_mask w.toNat (by omega) hx0 hx1
theorem wWidth_spec (c : Int) : G.Spec Try.prog 135 [iv c] (.tup [iv (if widthZ c < 0 then 0 else widthZ c), bv (decide (0 ≤ widthZ c))]) := by
  refine spec_of t_word_Width (by simp) fun w0 I0 => ?_
  unfold c_word_Width
  simp
  refine sc_call (width_spec c) rfl ?_
  simp
  exact frz_bare rfl
theorem tup_bare {cs : List A} {x : Value} (h : cs.all A.bare2 = true) : (A.tup [.agg cs, .v x]).bare = true := by
  simp only [A.bare, List.all_cons, List.all_nil, Bool.and_true]
  rw [h]; rfl
/-! ### a value -/
theorem refKind_spec (l : List (List Int)) (r : Rf) : G.Spec Try.prog 80 [paX l r] (iv r.kind) := by
  refine spec_of t_reader_Ref_Kind (by simp) fun w0 I0 => ?_
  unfold c_reader_Ref_Kind
  simp
  exact frz_bare rfl
theorem refWords_spec' (l : List (List Int)) (r : Rf) : G.Spec Try.prog 85 [paX l r] (iv (nwR r)) := by
  refine spec_of t_reader_Ref_Words (by simp) fun w0 I0 => ?_
  unfold c_reader_Ref_Words
  by_cases h1 : r.kind = 1
  · simp [h1]; exact frz_is rfl (by simp [nwR, h1])
  · by_cases h10 : r.kind = 10
    · simp [h10]; exact frz_is rfl (by simp [nwR, h10])
    · simp [h1, h10]; exact frz_is rfl (by simp [nwR, h1, h10])
theorem refKids_spec' (l : List (List Int)) (r : Rf) : G.Spec Try.prog 75 [paX l r] (iv (nk r)) := by
  refine spec_of t_reader_Ref_Kids (by simp) fun w0 I0 => ?_
  unfold c_reader_Ref_Kids
  by_cases h1 : r.kind = 1
  · simp [h1]; exact frz_is rfl (by simp [nk, h1])
  · simp [h1]; exact frz_is rfl (by simp [nk, h1])
theorem hasW_bound {l : List (List Int)} (hs : Sg l) {s a n : Int} (h : hasW l s a n = true) : 0 ≤ a ∧ 0 ≤ n ∧ a + n ≤ 17592186044416 := by
  obtain ⟨h1, h2, h3, h4, h5, _, h6⟩ := hasW_in h
  have := hs.b _ (List.getElem_mem h5)
  omega
theorem word_spec' {l : List (List Int)} (hs : Sg l) {r : Rf} (hr : RfOk l r) (i : Int) : G.Spec Try.prog 86 [paX l r, iv i] (uv (wordAt l r i)) := by
  refine spec_of t_reader_Ref_Word (by simp) fun w0 I0 => ?_
  unfold c_reader_Ref_Word
  simp
  refine sc_call_gf rfl (fun _ => refWords_spec' l r) (fun e => by simp [e]) (by simp) ?_
  by_cases hi : i < 0 ∨ nwR r ≤ i
  · have hd : (decide (i < 0) || decide (nwR r ≤ i)) = true := by simpa using hi
    simp [hd]
    exact frz_is rfl (by simp [wordAt, hi])
  · have hd : (decide (i < 0) || decide (nwR r ≤ i)) = false := by simpa using hi
    simp [hd]
    have e : wordAt l r i = if r.kind = 10 then r.n else (word l r.s (r.at_ + i)).getD 0 := by rw [wordAt, if_neg hi]
    by_cases h10 : r.kind = 10
    · simp [h10]
      exact frz_is rfl (by rw [e, if_pos h10])
    · have h1 : r.kind = 1 := by
        cases hr <;> simp [nwR, Rf.zero] at hi h10 ⊢ <;> omega
      simp [h10]
      rw [e, if_neg h10, arO_nz (by omega)]
      have hb : IntKind.i64.wrap (r.at_ + i) = r.at_ + i := by
        cases hr with
        | str s a d k a1 a2 a3 a4 h =>
          have := hasW_bound hs h
          simp [nwR] at hi ⊢
          exact i64_same (by omega) (by omega)
        | _ => simp [Rf.zero] at h1 <;> omega
      rw [hb]
      refine sc_call (get_spec l hs.b r.s (r.at_ + i)) rfl ?_
      simp
      exact frz_bare rfl
theorem comp_spec {l : List (List Int)} (hs : Sg l) (s a n : Int) (ha : 0 ≤ a) (ha1 : a ≤ 17592186044416) : G.Spec Try.prog 125 [.agg [arn l, iv 0, iv s, iv a, iv 0, iv 0, iv 0, uv 0], iv n] (.tup [paX l (compP l s a n).1, iv (compP l s a n).2]) := by
  have h0 : 0 ≤ (word l s a).getD 0 ∧ (word l s a).getD 0 < 18446744073709551616 := by
    cases e : word l s a with
    | none => simp
    | some x => exact word_in hs.w e
  refine spec_of t_reader_Ref_composite (by simp) fun w0 I0 => ?_
  unfold c_reader_Ref_composite
  simp
  refine sc_call (get_spec l hs.b s a) rfl ?_
  simp
  unfold compP
  generalize (word l s a).getD 0 = w at h0
  refine sc_call (Decode_spec h0.1 h0.2) rfl ?_
  have hsh := dec_shp h0.1 h0.2
  have ho := dec_off h0.1 h0.2
  have hdp : 0 ≤ (dec w).data ∧ (dec w).data < 65536 ∧ 0 ≤ (dec w).ptrs ∧ (dec w).ptrs < 65536 := by
    unfold dec
    repeat' split
    all_goals simp
    all_goals omega
  generalize dec w = p at hsh ho hdp
  have hb : -70368744177664 ≤ p.off * (p.data + p.ptrs) ∧ p.off * (p.data + p.ptrs) ≤ 70368744177664 := by
    have b1 : p.off * (p.data + p.ptrs) ≤ 536870912 * (p.data + p.ptrs) := Int.mul_le_mul_of_nonneg_right (by omega) (by omega)
    have b2 : -536870912 * (p.data + p.ptrs) ≤ p.off * (p.data + p.ptrs) := Int.mul_le_mul_of_nonneg_right (by omega) (by omega)
    omega
  have e1 : IntKind.i64.wrap (p.data + p.ptrs) = p.data + p.ptrs := i64_same (by omega) (by omega)
  have e2 : IntKind.i64.wrap (p.off * (p.data + p.ptrs)) = p.off * (p.data + p.ptrs) := i64_same (by omega) (by omega)
  have e3 : IntKind.i64.wrap (a + 1) = a + 1 := i64_same (by omega) (by omega)
  by_cases hc : (w ≠ 0 ∧ p.kind ≠ 1) ∨ p.off < 0 ∨ n < p.off * (p.data + p.ptrs)
  · have hd : (((!decide (w = 0) && !decide (p.kind = 1)) || decide (p.off < 0)) || decide (n < p.off * (p.data + p.ptrs))) = true := by simp; omega
    rw [if_pos hc]
    simp [e1, e2, hd]
    exact frz_is (tup_bare (by simp)) (by simp [Rf.zero, arO])
  · have hd : (((!decide (w = 0) && !decide (p.kind = 1)) || decide (p.off < 0)) || decide (n < p.off * (p.data + p.ptrs))) = false := by simp; omega
    rw [if_neg hc]
    simp [e1, e2, e3, hd]
    exact frz_is (tup_bare (by simp)) (by simp [arO])
theorem at_spec {l : List (List Int)} (hs : Sg l) (s a : Int) : G.Spec Try.prog 78 [arn l, iv s, iv a] (.tup [paX l (atP l s a).1, iv (atP l s a).2]) := by
  have hf := follow_folw hs.w s a
  refine spec_of t_reader_At (by simp) fun w0 I0 => ?_
  unfold c_reader_At
  simp
  refine sc_call (follow_spec l hs.b hs.w s a) rfl ?_
  unfold atP
  generalize followP l s a = x at hf
  obtain ⟨x, e⟩ := x
  unfold Folw at hf
  simp only at hf ⊢
  by_cases hc : e ≠ 0 ∨ x.p.kind = 0
  · have hd : (!decide (e = 0) || decide (x.p.kind = 0)) = true := by simp; omega
    simp [hd, hc]
    exact frz_is (tup_bare (by simp)) (by simp [Rf.zero, arO])
  · have hd : (!decide (e = 0) || decide (x.p.kind = 0)) = false := by simp; omega
    have he : e = 0 := by omega
    obtain h0 | ⟨hk, hsh, hw⟩ := hf he
    · omega
    have hbd := hasW_bound hs hw
    rw [if_neg hc]
    simp [hd]
    unfold refP
    by_cases k1 : x.p.kind = 1
    · simp [k1]
      exact frz_is (tup_bare (by simp)) (by simp [arO])
    · have k2 : x.p.kind = 2 := by omega
      obtain ⟨c0, c1, _, _⟩ := hsh.k2 k2
      by_cases c6 : x.p.code < 6
      · have e2 : IntKind.i64.wrap (2 + x.p.code) = 2 + x.p.code := i64_same (by omega) (by omega)
        have c7 : x.p.code < 7 := by omega
        have nz : ¬ (2 + x.p.code = 0) := by omega
        simp [k1, c6, c7, e2]
        exact ⟨frz_is (tup_bare (by simp)) (by simp [arO, nz]), fun h => absurd h (by omega)⟩
      · by_cases c6' : x.p.code = 6
        · simp [k1, c6']
          exact frz_is (tup_bare (by simp)) (by simp [arO])
        · have c7 : ¬ x.p.code < 7 := by omega
          simp [k1, c6, c6', c7]
          intro _
          refine sc_call (comp_spec hs x.s x.at_ x.p.count hbd.1 (by omega)) rfl ?_
          simp
          exact frz_bare (tup_bare (by simp))
theorem root_spec {l : List (List Int)} (hs : Sg l) : G.Spec Try.prog 40 [arn l] (.tup [paX l (atP l 0 0).1, iv (atP l 0 0).2]) := by
  refine spec_of t_reader_Root (by simp) fun w0 I0 => ?_
  unfold c_reader_Root
  simp
  refine sc_call (at_spec hs 0 0) rfl ?_
  simp
  exact frz_bare (tup_bare (by simp))
end Go.Proofs.Ytehcobkphobjiaa

/-
  Chapters 9, 14, 15: kids; what counts of values; whether they mean the same.
-/
namespace Go.Proofs.Ytehcobkphobjiaa
set_option linter.unusedVariables false
set_option linter.unusedSimpArgs false
open Go Go.G Go.Proofs Go.PL
theorem word_drop {l : List (List Int)} {s a : Int} (ha : 0 ≤ a) (k : Nat) : ((((seg l s).getD []).drop a.toNat)[k]?).getD 0 = (word l s (a + k)).getD 0 := by
  unfold word
  rw [if_pos (by omega)]
  cases seg l s with
  | none => simp
  | some g =>
    simp only [Option.getD_some, Option.bind_some, List.getElem?_drop]
    have : a.toNat + k = (a + k).toNat := by omega
    rw [this]
theorem atom_spec {l : List (List Int)} (hs : Sg l) {c s a n : Int} (c0 : 0 ≤ c) (c6 : c < 6) (n0 : 0 ≤ n) (n1 : n < 536870912) (h : hasW l s a ((n * bitsOf c + 63) / 64) = true) {i : Int} (i0 : 0 ≤ i) (i1 : i < n) :
    G.Spec Try.prog 84 [paX l ⟨2 + c, s, a, 0, 0, n, 0⟩, iv i] (uv (atomZ l ⟨2 + c, s, a, 0, 0, n, 0⟩ i)) := by
  have hb := hasW_bound hs h
  have e2 : IntKind.i64.wrap c = c := i64_same (by omega) (by omega)
  have nz : ¬ (2 + c = 0) := by omega
  have key : ∀ w per : Int, widthZ c = w → w * per = 64 → (w = 1 ∨ w = 8 ∨ w = 16 ∨ w = 32 ∨ w = 64) → getZ [(word l s (a + i / per)).getD 0] c (i % per) = atomZ l ⟨2 + c, s, a, 0, 0, n, 0⟩ i := fun w per hw hp hw' => by
    unfold atomZ getZ
    simp only [show 2 + c - 2 = c by omega, hw]
    have hk : (i % per * w / 64).toNat = 0 ∧ i % per * w % 64 = i * w % 64 ∧ i * w / 64 = i / per ∧ ¬ (i % per < 0) ∧ ¬ 1099511627776 < i % per := by
      rcases hw' with rfl | rfl | rfl | rfl | rfl
      · have : per = 64 := by omega
        subst this; omega
      · have : per = 8 := by omega
        subst this; omega
      · have : per = 4 := by omega
        subst this; omega
      · have : per = 2 := by omega
        subst this; omega
      · have : per = 1 := by omega
        subst this; omega
    obtain ⟨k1, k2, k3, k4, k5⟩ := hk
    rw [if_neg (by omega), if_neg (by omega), k1, k2, k3]
    have hd0 : 0 ≤ i / per := by rw [← k3]; rcases hw' with rfl | rfl | rfl | rfl | rfl <;> omega
    have := word_drop (l := l) (s := s) (a := a) hb.1 (i / per).toNat
    rw [show ((i / per).toNat : Int) = i / per by omega] at this
    rw [this]
    simp
  have e2' : IntKind.i64.wrap (2 + c - 2) = c := by rw [i64_same (by omega) (by omega)]; omega
  have hw64 : ∀ x : Int, 0 ≤ (word l s x).getD 0 ∧ (word l s x).getD 0 < 18446744073709551616 := fun x => by
    cases e : word l s x with
    | none => simp
    | some y => exact word_in hs.w e
  refine spec_of t_reader_Ref_atom (by simp) fun w0 I0 => ?_
  unfold c_reader_Ref_atom
  simp [e2']
  refine sc_call (wWidth_spec c) rfl ?_
  by_cases hc0 : c = 0
  · subst hc0
    simp [widthZ]
    exact frz_is rfl (by simp [atomZ, getZ, widthZ])
  have hx : ∃ w per : Int, widthZ c = w ∧ w * per = 64 ∧ (w = 1 ∨ w = 8 ∨ w = 16 ∨ w = 32 ∨ w = 64) ∧ (per = 64 ∨ per = 8 ∨ per = 4 ∨ per = 2 ∨ per = 1) ∧ IntKind.i64.wrap ((64 : Int).tdiv w) = per := by
    have hc : c = 1 ∨ c = 2 ∨ c = 3 ∨ c = 4 ∨ c = 5 := by omega
    rcases hc with rfl | rfl | rfl | rfl | rfl
    · exact ⟨1, 64, rfl, rfl, by omega, by omega, by decide⟩
    · exact ⟨8, 8, rfl, rfl, by omega, by omega, by decide⟩
    · exact ⟨16, 4, rfl, rfl, by omega, by omega, by decide⟩
    · exact ⟨32, 2, rfl, rfl, by omega, by omega, by decide⟩
    · exact ⟨64, 1, rfl, rfl, by omega, by omega, by decide⟩
  obtain ⟨w, per, hw, hp, hw', hper, ep⟩ := hx
  have hk := key w per hw hp hw'
  have wn : ¬ w < 0 := by omega
  have wz : ¬ w = 0 := by omega
  have pz : ¬ per = 0 := by omega
  have hq : 0 ≤ i / per ∧ i / per ≤ i := by rcases hper with rfl | rfl | rfl | rfl | rfl <;> omega
  have hm : 0 ≤ i % per := Int.emod_nonneg _ pz
  have e3 : IntKind.i64.wrap (i.tdiv per) = i / per := by rw [Int.tdiv_eq_ediv_of_nonneg i0, i64_same (by omega) (by omega)]
  have e4 : IntKind.i64.wrap (a + i / per) = a + i / per := i64_same (by omega) (by omega)
  have e5 : i.tmod per = i % per := Int.tmod_eq_emod_of_nonneg i0
  simp [hw, wn, wz, ep, pz, e3, e4, arO, nz]
  refine sc_call (get_spec l hs.b s (a + i / per)) rfl ?_
  simp [pz, e5]
  have hx := hw64 (a + i / per)
  refine sc_call ((wGet_spec (g := [(word l s (a + i / per)).getD 0]) (fun x hx' => by simp at hx'; rw [hx']; exact hx) (by simp) c (i % per)).soft (by simp [A.softL, A.soft])) rfl ?_
  simp
  rw [hk]
  exact frz_bare rfl
theorem kid_spec {l : List (List Int)} (hs : Sg l) {r : Rf} (hr : RfOk l r) (i : Int) : G.Spec Try.prog 44 [paX l r, iv i] (.tup [paX l (kidP l r i).1, iv (kidP l r i).2]) := by
  refine spec_of t_reader_Ref_Kid (by simp) fun w0 I0 => ?_
  unfold c_reader_Ref_Kid
  simp
  refine sc_call_gf rfl (fun _ => refKids_spec' l r) (fun e => by simp [e]) (by simp) ?_
  by_cases hi : i < 0 ∨ nk r ≤ i
  · have hd : (decide (i < 0) || decide (nk r ≤ i)) = true := by simpa using hi
    simp [hd]
    exact frz_is (tup_bare (by simp)) (by simp [kidP, hi, Rf.zero, arO])
  · have hd : (decide (i < 0) || decide (nk r ≤ i)) = false := by simpa using hi
    have hi0 : 0 ≤ i := by omega
    have hi1 : i < nk r := by omega
    have hk := nk_nonneg hr
    rw [kidP, if_neg hi]
    cases hr with
    | zero => simp [nk, Rf.zero] at hi1; omega
    | str s a d k a1 a2 a3 a4 h =>
      have hb := hasW_bound hs h
      have e1 : IntKind.i64.wrap (IntKind.i64.wrap (a + d) + i) = a + d + i := by
        rw [i64_same (n := a + d) (by omega) (by omega), i64_same (by omega) (by omega)]
      simp [hd, arO, e1]
      refine sc_call (at_spec hs s (a + d + i)) rfl ?_
      simp
      exact frz_bare (tup_bare (by simp))
    | dat c s a n a1 a2 a3 a4 h =>
      have n0 : ¬ (2 + c = 0) := by omega
      have n1 : ¬ (2 + c = 1) := by omega
      have n8 : ¬ (2 + c = 8) := by omega
      have n9 : ¬ (2 + c = 9) := by omega
      have hn : i < n := by simpa [nk, n1] using hi1
      have := atom_spec hs a1 a2 a3 a4 h hi0 hn
      simp [hd, n1, n8, n9]
      refine sc_call this (by simp) ?_
      simp
      exact frz_is (tup_bare (by simp)) (by simp [arO, n0])
    | ptrs s a n a1 a2 h =>
      have hb := hasW_bound hs h
      have e1 : IntKind.i64.wrap (a + i) = a + i := i64_same (by omega) (by omega)
      simp [hd, arO, e1]
      refine sc_call (at_spec hs s (a + i)) rfl ?_
      simp
      exact frz_bare (tup_bare (by simp))
    | comp s a d k n a1 a2 a3 a4 a5 a6 h =>
      have hb := hasW_bound hs h
      have hn : i < n := by simpa [nk] using hi1
      have m1 : 0 ≤ i * (d + k) := Int.mul_nonneg hi0 (by omega)
      have m2 : i * (d + k) ≤ n * (d + k) := mul_le_of (by omega) (by omega)
      have e1 : IntKind.i64.wrap (d + k) = d + k := i64_same (by omega) (by omega)
      have e2 : IntKind.i64.wrap (i * (d + k)) = i * (d + k) := i64_same (by omega) (by omega)
      have e3 : IntKind.i64.wrap (a + i * (d + k)) = a + i * (d + k) := i64_same (by omega) (by omega)
      simp [hd, arO, e1, e2, e3]
      exact frz_is (tup_bare (by simp)) (by simp [arO])
    | atom n a1 a2 => simp [nk] at hi1; omega
/-! ### what counts -/
theorem means_word {l : List (List Int)} {r : Rf} {t : T} (h : Means l r t) : nwR r = t.words.length ∧ ∀ (i : Nat) (hi : i < t.words.length), wordAt l r i = t.words[i] := by
  cases h with
  | mk _ _ hr hk hw hn he hm =>
    have hl : nwR r = (wordsR l r).length := by
      cases hr with
      | str s a d k a1 a2 a3 a4 h =>
        obtain ⟨h1, h2, h3, h4, h5, e, h6⟩ := hasW_in h
        simp [nwR, wordsR, part, e]
        omega
      | dat c s a n a1 a2 a3 a4 h =>
        have : ¬ (2 + c = 10) := by omega
        have h1 : ¬ (2 + c = 1) := by omega
        simp [nwR, wordsR, this, h1]
      | _ => simp [nwR, wordsR, Rf.zero]
    rw [← hw]
    refine ⟨hl, fun i hi => ?_⟩
    have hi' : (i : Int) < nwR r := by rw [hl]; omega
    rw [wordAt, if_neg (by omega)]
    cases hr with
    | str s a d k a1 a2 a3 a4 h =>
      obtain ⟨h1, h2, h3, h4, h5, e, h6⟩ := hasW_in h
      simp [wordsR, part, e]
      have := word_drop (l := l) (s := s) (a := a) h3 i
      rw [e] at this
      simp at this
      rw [← this, List.getElem?_eq_getElem (by simp [nwR] at hi'; omega)]
      simp
    | atom n a1 a2 =>
      simp [wordsR] at hi ⊢
    | dat c s a n a1 a2 a3 a4 h =>
      have : ¬ (2 + c = 10) := by omega
      have h1 : ¬ (2 + c = 1) := by omega
      simp [nwR, this, h1] at hi'
      omega
    | _ => simp [nwR, Rf.zero] at hi' <;> omega
theorem means_ok {l : List (List Int)} {r : Rf} {t : T} (h : Means l r t) : RfOk l r := by cases h; assumption
theorem means_kind {l : List (List Int)} {r : Rf} {t : T} (h : Means l r t) : r.kind = t.kind := by cases h; assumption
theorem means_nk {l : List (List Int)} {r : Rf} {t : T} (h : Means l r t) : nk r = t.kids.length := by cases h; assumption
theorem means_kid {l : List (List Int)} {r : Rf} {t : T} (h : Means l r t) {i : Nat} (hi : i < t.kids.length) : (kidP l r i).2 = 0 ∧ Means l (kidP l r i).1 t.kids[i] := by
  cases h with
  | mk _ _ hr hk hw hn he hm => exact ⟨he i hi, hm i hi⟩
end Go.Proofs.Ytehcobkphobjiaa

/-
  Chapters 14 and 15: what counts of a value; whether two mean the same.
-/
namespace Go.Proofs.Ytehcobkphobjiaa
set_option linter.unusedVariables false
set_option linter.unusedSimpArgs false
open Go Go.G Go.Proofs Go.PL
theorem means_bare {l : List (List Int)} {r : Rf} {t : T} (h : Means l r t) : Bare t := fun h0 => by
  have hk := means_kind h
  have hw := (means_word h).1
  have hn := means_nk h
  have hr := means_ok h
  rw [h0] at hk
  have : nwR r = 0 ∧ nk r = 0 := by
    cases hr <;> simp [nwR, nk, Rf.zero] at hk ⊢ <;> omega
  exact ⟨List.eq_nil_of_length_eq_zero (by omega), List.eq_nil_of_length_eq_zero (by omega)⟩
theorem means_len {l : List (List Int)} {r : Rf} {t : T} (h : Means l r t) : t.words.length ≤ 65536 ∧ t.kids.length < 536870912 := by
  have hw := (means_word h).1
  have hn := means_nk h
  have hr := means_ok h
  have := nk_nonneg hr
  have : nwR r ≤ 65536 := by
    cases hr <;> simp [nwR, Rf.zero] <;> (try split) <;> omega
  omega
section
variable {n0 : Nat} {w0 : World} {I0 : Nat → Prop} {Q : Exit → Sta → Prop} {H : Hp}
theorem long_l1 {l : List (List Int)} (hs : Sg l) {r : Rf} {t : T} (hm : Means l r t) (hH : H [0] = ⟨1, .cells (paL l r)⟩) (hq : ∀ q, Q (.exit 0) ⟨lk [(1, .pob [0] 1 0), (3, iv (trimW t.words).length), (14, bv q)], H⟩) : ∀ (n : Nat), n ≤ t.words.length → trimW (t.words.take n) = trimW t.words →
    LoopC (cx Try.prog w0 I0 n0) l1_copy_Long Q ⟨lk [(1, .pob [0] 1 0), (3, iv n)], H⟩ := by
  have hlen := means_len hm
  intro n
  induction n with
  | zero =>
    intro hn ht
    refine loopC_once mixed l1_copy_Long.eq_1 ?_
    simp
    refine sc_call_off rfl ?_
    have e : (trimW t.words).length = 0 := by rw [← ht]; rfl
    have := hq false
    rw [e] at this
    simp
    exact this
  | succ n ih =>
    intro hn ht
    have hlt : n < t.words.length := by omega
    have e : IntKind.i64.wrap (n : Int) = n := i64_same (by omega) (by omega)
    have hp : (0 : Int) < (n : Int) + 1 := by omega
    have hwd := (means_word hm).2 n hlt
    refine loopC_once mixed l1_copy_Long.eq_1 ?_
    simp [hp, hH, e]
    refine sc_call_gt rfl (fun _ => word_spec' hs (means_ok hm) n) (fun _ => rfl) (by simp) ?_
    rw [hwd]
    by_cases h0 : t.words[n] = 0
    · simp [h0, e]
      exact ih (by omega) (by rw [← trimW_zero hlt h0]; exact ht)
    · have e2 : (trimW t.words).length = n + 1 := by rw [← ht, trimW_stop hlt h0]; simp; omega
      have := hq false
      rw [e2] at this
      simp [h0]
      exact this
theorem wide_l1 {l : List (List Int)} (hs : Sg l) {r : Rf} {t : T} (hm : Means l r t) : ∀ (n : Nat) (H : Hp), H [0] = ⟨1, .cells (paL l r)⟩ → n ≤ t.kids.length → trimK (t.kids.take n) = trimK t.kids → ((trimK t.kids).length = 0 → ∀ k q H', Q (.exit 0) ⟨lk [(1, .pob [0] 1 0), (4, iv k), (10, bv q)], H'⟩) → ((trimK t.kids).length ≠ 0 → ∀ H', Q .ret ⟨lk [(2, iv (trimK t.kids).length), (3, iv 0)], H'⟩) →
    LoopC (cx Try.prog w0 I0 n0) l1_copy_Wide Q ⟨lk [(1, .pob [0] 1 0), (4, iv n)], H⟩ := by
  have hlen := means_len hm
  intro n
  induction n with
  | zero =>
    intro H hH hn ht h1 h2
    refine loopC_once mixed l1_copy_Wide.eq_1 ?_
    simp
    exact h1 (by rw [← ht]; rfl) _ _ _
  | succ n ih =>
    intro H hH hn ht h1 h2
    have hlt : n < t.kids.length := by omega
    have e : IntKind.i64.wrap (n : Int) = n := i64_same (by omega) (by omega)
    have hp : (0 : Int) < (n : Int) + 1 := by omega
    obtain ⟨k1, k2⟩ := means_kid hm hlt
    have kk := means_kind k2
    refine loopC_once mixed l1_copy_Wide.eq_1 ?_
    simp [hp, hH, e]
    refine sc_call (kid_spec hs (means_ok hm) n) (by simp) ?_
    simp [k1, updF_app]
    refine sc_call_gf rfl (fun _ => refKind_spec l (kidP l r n).1) (fun _ => rfl) (by simp) ?_
    rw [kk]
    by_cases h0 : t.kids[n].kind = 0
    · simp [h0, e]
      exact ih _ (by simp [updF_app, hH]) (by omega) (by rw [← trimK_zero hlt h0]; exact ht) h1 h2
    · have e2 : (trimK t.kids).length = n + 1 := by rw [← ht, trimK_stop hlt h0]; simp; omega
      simp [h0]
      have := h2 (by omega) 
      rw [e2] at this
      exact this _
end
theorem long_spec {l : List (List Int)} (hs : Sg l) {r : Rf} {t : T} (hm : Means l r t) : G.Spec Try.prog 46 [paX l r] (iv (trimW t.words).length) := by
  refine spec_of t_copy_Long (by simp) fun w0 I0 => ?_
  unfold c_copy_Long
  simp
  refine sc_call (refWords_spec' l r) (by simp) ?_
  rw [(means_word hm).1]
  simp
  refine long_l1 hs hm (by simp) (fun q => ?_) t.words.length (Nat.le_refl _) (by rw [List.take_of_length_le (Nat.le_refl _)])
  simp
  exact frz_bare rfl
theorem wide_spec {l : List (List Int)} (hs : Sg l) {r : Rf} {t : T} (hm : Means l r t) : G.Spec Try.prog 45 [paX l r] (.tup [iv (trimK t.kids).length, iv 0]) := by
  refine spec_of t_copy_Wide (by simp) fun w0 I0 => ?_
  unfold c_copy_Wide
  simp
  refine sc_call (refKids_spec' l r) (by simp) ?_
  rw [means_nk hm]
  simp
  refine wide_l1 hs hm t.kids.length _ (by simp) (Nat.le_refl _) (by rw [List.take_of_length_le (Nat.le_refl _)]) (fun h k q H' => ?_) (fun h H' => ?_)
  · simp
    exact frz_is rfl (by simp [h])
  · simp
    exact frz_bare rfl
theorem ekids_spec {l : List (List Int)} (hs : Sg l) {r : Rf} {t : T} (hm : Means l r t) : G.Spec Try.prog 168 [paX l r] (.tup [iv (nK t), iv 0]) := by
  refine spec_of t_equal_kids (by simp) fun w0 I0 => ?_
  unfold c_equal_kids
  simp
  refine sc_call (refKind_spec l r) (by simp) ?_
  rw [means_kind hm]
  by_cases h1 : t.kind = 1
  · simp [h1]
    refine sc_call (wide_spec hs hm) (by simp) ?_
    simp
    exact frz_is rfl (by simp [nK, h1])
  · simp [h1]
    refine sc_call (refKids_spec' l r) (by simp) ?_
    rw [means_nk hm]
    simp
    exact frz_is rfl (by simp [nK, h1])
theorem ewords_spec {l : List (List Int)} (hs : Sg l) {r : Rf} {t : T} (hm : Means l r t) : G.Spec Try.prog 169 [paX l r] (iv (nW t)) := by
  refine spec_of t_equal_words (by simp) fun w0 I0 => ?_
  unfold c_equal_words
  simp
  refine sc_call (refKind_spec l r) (by simp) ?_
  rw [means_kind hm]
  by_cases h1 : t.kind = 1
  · simp [h1]
    refine sc_call (long_spec hs hm) (by simp) ?_
    simp
    exact frz_is rfl (by simp [nW, h1])
  · simp [h1]
    refine sc_call (refWords_spec' l r) (by simp) ?_
    rw [(means_word hm).1]
    simp
    exact frz_is rfl (by simp [nW, h1])
/-! ### alike -/
noncomputable def alikeB (t u : T) : Bool := by classical exact decide (t.kind = u.kind ∧ nW t = nW u ∧ nK t = nK u ∧ ∀ i : Nat, i < nW t → t.words[i]? = u.words[i]?)
theorem alikeB_iff {t u : T} : alikeB t u = true ↔ t.kind = u.kind ∧ nW t = nW u ∧ nK t = nK u ∧ ∀ i : Nat, i < nW t → t.words[i]? = u.words[i]? := by simp [alikeB]
section
variable {n0 : Nat} {w0 : World} {I0 : Nat → Prop} {Q : Exit → Sta → Prop} {H : Hp}
theorem alike_l1 {l m : List (List Int)} (hl : Sg l) (hm : Sg m) {r s : Rf} {t u : T} (ht : Means l r t) (hu : Means m s u) (hW : nW t = nW u) (hA : H [0] = ⟨1, .cells (paL l r)⟩) (hB : H [1] = ⟨1, .cells (paL m s)⟩) {k : Int} : ∀ (j i : Nat), i + j = nW t → (∀ x : Nat, x < i → t.words[x]? = u.words[x]?) →
    ((∀ x : Nat, x < nW t → t.words[x]? = u.words[x]?) → ∀ i' q, Q (.exit 0) ⟨lk [(2, .pob [0] 1 0), (3, .pob [1] 1 0), (7, iv k), (10, .fnc 86 [] []), (46, iv (nW t)), (47, iv i'), (48, bv q)], H⟩) →
    (¬ (∀ x : Nat, x < nW t → t.words[x]? = u.words[x]?) → Q .ret ⟨lk [(4, iv 0), (5, bv false), (6, iv 0)], H⟩) →
    LoopC (cx Try.prog w0 I0 n0) l1_equal_alike Q ⟨lk [(2, .pob [0] 1 0), (3, .pob [1] 1 0), (7, iv k), (10, .fnc 86 [] []), (46, iv (nW t)), (47, iv i)], H⟩ := by
  have h1 := means_len ht
  have h2 := means_len hu
  have w1 := nW_le t
  have w2 := nW_le u
  intro j
  induction j with
  | zero =>
    intro i hi he hq hq2
    have : i = nW t := by omega
    subst this
    refine loopC_once mixed l1_equal_alike.eq_1 ?_
    simp
    exact hq he _ _
  | succ j ih =>
    intro i hi he hq hq2
    have hlt : i < nW t := by omega
    have lt1 : i < t.words.length := by omega
    have lt2 : i < u.words.length := by omega
    have hlt' : (i : Int) < nW t := by omega
    have ei : IntKind.i64.wrap ((i : Int) + 1) = ((i + 1 : Nat) : Int) := i64_same (by omega) (by omega)
    refine loopC_once mixed l1_equal_alike.eq_1 ?_
    simp [hlt, hA, hB]
    refine sc_callv rfl (word_spec' hl (means_ok ht) i) (by simp) ?_
    rw [(means_word ht).2 i lt1]
    simp [hA, hB]
    refine sc_callv rfl (word_spec' hm (means_ok hu) i) (by simp) ?_
    rw [(means_word hu).2 i lt2]
    by_cases hx : t.words[i] = u.words[i]
    · simp [hx, ei]
      refine ih (i + 1) (by omega) (fun x hx' => ?_) hq hq2
      by_cases e : x = i
      · subst e; rw [List.getElem?_eq_getElem lt1, List.getElem?_eq_getElem lt2, hx]
      · exact he x (by omega)
    · simp [hx]
      refine hq2 fun hh => hx ?_
      have := hh i hlt
      rw [List.getElem?_eq_getElem lt1, List.getElem?_eq_getElem lt2] at this
      exact Option.some.inj this
end
theorem alike_spec {l m : List (List Int)} (hl : Sg l) (hm : Sg m) {r s : Rf} {t u : T} (ht : Means l r t) (hu : Means m s u) : G.Spec Try.prog 200 [paX l r, paX m s] (.tup [iv (if alikeB t u = true then nK t else 0), bv (alikeB t u), iv 0]) := by
  refine spec_of t_equal_alike (by simp) fun w0 I0 => ?_
  unfold c_equal_alike
  simp
  refine sc_call (refKind_spec l r) (by simp) ?_
  simp
  refine sc_call (refKind_spec m s) (by simp) ?_
  rw [means_kind ht, means_kind hu]
  have no : ¬ (t.kind = u.kind ∧ nW t = nW u ∧ nK t = nK u ∧ ∀ i : Nat, i < nW t → t.words[i]? = u.words[i]?) → alikeB t u = false := fun h => by rw [Bool.eq_false_iff]; exact fun e => h (alikeB_iff.1 e)
  by_cases h1 : t.kind = u.kind
  · simp [h1]
    refine sc_call_gf rfl (fun _ => ewords_spec hl ht) (fun _ => rfl) (by simp) ?_
    simp
    refine sc_call_gf rfl (fun _ => ewords_spec hm hu) (fun _ => rfl) (by simp) ?_
    by_cases h2 : nW t = nW u
    · simp [h2]
      refine sc_call (ekids_spec hl ht) (by simp) ?_
      simp
      refine sc_call (ekids_spec hm hu) (by simp) ?_
      by_cases h3 : nK t = nK u
      · simp [h3]
        refine sc_call (ewords_spec hl ht) (by simp) ?_
        simp
        refine alike_l1 hl hm ht hu h2 (by simp) (by simp) (nW t) 0 (by omega) (fun x hx => by omega) (fun hh i' q => ?_) (fun hh => ?_)
        · have : alikeB t u = true := alikeB_iff.2 ⟨h1, h2, h3, hh⟩
          simp
          exact frz_is rfl (by simp [this, h3])
        · have := no fun ⟨_, _, _, h⟩ => hh h
          simp
          exact frz_is rfl (by simp [this])
      · have := no fun ⟨_, _, h, _⟩ => h3 h
        simp [h3]
        refine ⟨fun h => absurd (by omega) h3, fun _ => ?_⟩
        exact frz_is rfl (by simp [this])
    · have := no fun ⟨_, h, _, _⟩ => h2 h
      simp [h2]
      refine ⟨fun h => absurd (by omega) h2, fun _ => ?_⟩
      exact frz_is rfl (by simp [this])
  · have := no fun ⟨h, _, _, _⟩ => h1 h
    simp [h1]
    refine sc_call_off rfl ?_
    simp
    refine sc_call_off rfl ?_
    simp
    exact frz_is rfl (by simp [this])
/-! ### whether two mean the same -/
theorem eqT_alike {t u : T} (ht : Bare t) (hu : Bare u) : eqT t u = true ↔ alikeB t u = true ∧ ∀ i : Nat, i < nK t → (t.kids[i]?).map norm = (u.kids[i]?).map norm := by
  rw [eqT_iff, norm_eq ht hu, alikeB_iff]
  constructor
  · rintro ⟨a, b, c, d, e⟩; exact ⟨⟨a, b, c, d⟩, e⟩
  · rintro ⟨⟨a, b, c, d⟩, e⟩; exact ⟨a, b, c, d, e⟩
section
variable {n0 : Nat} {w0 : World} {I0 : Nat → Prop} {Q : Exit → Sta → Prop}
abbrev ValS (l m : List (List Int)) (t u : T) : Prop := ∀ r s, Means l r t → Means m s u → G.Spec Try.prog 171 [paX l r, paX m s] (.tup [bv (eqT t u), iv 0])
theorem values_l1 {l m : List (List Int)} (hl : Sg l) (hm : Sg m) {r s : Rf} {t u : T} (ht : Means l r t) (hu : Means m s u) (hK : nK t = nK u) (ih : ∀ c, c ∈ t.kids → ∀ d, ValS l m c d) : ∀ (j i : Nat) (H : Hp), i + j = nK t → H [0] = ⟨1, .cells (paL l r)⟩ → H [1] = ⟨1, .cells (paL m s)⟩ → (∀ x : Nat, x < i → (t.kids[x]?).map norm = (u.kids[x]?).map norm) →
    ((∀ x : Nat, x < nK t → (t.kids[x]?).map norm = (u.kids[x]?).map norm) → ∀ i' q H', Q (.exit 0) ⟨lk [(2, .pob [0] 1 0), (3, .pob [1] 1 0), (29, iv (nK t)), (30, iv i'), (31, bv q)], H'⟩) →
    (¬ (∀ x : Nat, x < nK t → (t.kids[x]?).map norm = (u.kids[x]?).map norm) → ∀ H', Q .ret ⟨lk [(4, bv false), (5, iv 0)], H'⟩) →
    LoopC (cx Try.prog w0 I0 n0) l1_equal_Values Q ⟨lk [(2, .pob [0] 1 0), (3, .pob [1] 1 0), (29, iv (nK t)), (30, iv i)], H⟩ := by
  have h1 := means_len ht
  have h2 := means_len hu
  have w1 := nK_le t
  have w2 := nK_le u
  intro j
  induction j with
  | zero =>
    intro i H hi hA hB he hq hq2
    have : i = nK t := by omega
    subst this
    refine loopC_once mixed l1_equal_Values.eq_1 ?_
    simp
    exact hq he _ _ _
  | succ j ihj =>
    intro i H hi hA hB he hq hq2
    have hlt : i < nK t := by omega
    have lt1 : i < t.kids.length := by omega
    have lt2 : i < u.kids.length := by omega
    have ei : IntKind.i64.wrap ((i : Int) + 1) = ((i + 1 : Nat) : Int) := i64_same (by omega) (by omega)
    obtain ⟨a1, a2⟩ := means_kid ht lt1
    obtain ⟨b1, b2⟩ := means_kid hu lt2
    have ihc := ih _ (List.getElem_mem lt1) u.kids[i] _ _ a2 b2
    refine loopC_once mixed l1_equal_Values.eq_1 ?_
    simp [hlt, hA]
    refine sc_call (kid_spec hl (means_ok ht) i) (by simp) ?_
    simp [a1, updF_app, hB]
    refine sc_call (kid_spec hm (means_ok hu) i) (by simp) ?_
    simp [b1, updF_app]
    refine sc_call ihc (by simp) ?_
    cases hq' : eqT t.kids[i] u.kids[i] with
    | true =>
      simp [ei]
      refine ihj (i + 1) _ (by omega) (by simp [updF_app, hA]) (by simp [updF_app, hB]) (fun x hx' => ?_) hq hq2
      by_cases e : x = i
      · subst e; rw [List.getElem?_eq_getElem lt1, List.getElem?_eq_getElem lt2]; simp [eqT_iff.1 hq']
      · exact he x (by omega)
    | false =>
      simp
      refine hq2 (fun hh => ?_) _
      have := hh i hlt
      rw [List.getElem?_eq_getElem lt1, List.getElem?_eq_getElem lt2] at this
      have := eqT_iff.2 (Option.some.inj this)
      rw [hq'] at this
      cases this
end
theorem values_spec {l m : List (List Int)} (hl : Sg l) (hm : Sg m) : ∀ t u, ValS l m t u := by
  refine T.ind fun k w ks ih u r s ht hu => ?_
  have hb := eqT_alike (means_bare ht) (means_bare hu)
  refine spec_of t_equal_Values (by simp) fun w0 I0 => ?_
  unfold c_equal_Values
  simp
  refine sc_call (alike_spec hl hm ht hu) (by simp) ?_
  cases ha : alikeB (.mk k w ks) u with
  | false =>
    have : eqT (.mk k w ks) u = false := by rw [Bool.eq_false_iff]; intro e; have := (hb.1 e).1; rw [ha] at this; cases this
    simp
    exact frz_is rfl (by simp [this])
  | true =>
    obtain ⟨_, _, hK, _⟩ := alikeB_iff.1 ha
    simp
    refine values_l1 hl hm ht hu hK (fun c hc d => ih c hc d) (nK (.mk k w ks)) 0 _ (by omega) (by simp) (by simp) (fun x hx => by omega) (fun hh i' q H' => ?_) (fun hh H' => ?_)
    · have := hb.2 ⟨ha, hh⟩
      simp
      exact frz_is rfl (by simp [this])
    · have : eqT (.mk k w ks) u = false := by rw [Bool.eq_false_iff]; intro e; exact hh (hb.1 e).2
      simp
      exact frz_is rfl (by simp [this])
end Go.Proofs.Ytehcobkphobjiaa

/-
  Chapter 9's reference: values where they lie.
-/
namespace Go.Proofs.Ytehcobkphobjiaa
set_option linter.unusedVariables false
set_option linter.unusedSimpArgs false
open Go Go.G Go.Proofs Go.PL
abbrev raX (r : Rf) : A := .agg [iv r.kind, iv r.s, iv r.at_, iv r.data, iv r.kids, iv r.count, uv r.n]
def bitZ (g : List Int) (i : Int) : Int := if i < 0 then 0 else ((g[(i / 64).toNat]?).getD 0) / 2 ^ (i % 64).toNat % 2
section
variable {n0 : Nat} {w0 : World} {I0 : Nat → Prop} {Q : Exit → Sta → Prop} {H : Hp}
theorem rBit_l1 {i : Int} (hi : 0 ≤ i) : ∀ (m : Nat) (x j : Int), 0 ≤ x → x < 18446744073709551616 → 0 ≤ j → j + m = i % 64 → (∀ j' b, Q (.exit 0) ⟨lk [(1, iv i), (5, uv (x / 2 ^ m)), (6, iv j'), (24, bv b)], H⟩) →
    LoopC (cx Try.prog w0 I0 n0) l1_centoref01_Bit Q ⟨lk [(1, iv i), (5, uv x), (6, iv j)], H⟩ := by
  have e : i.tmod 64 = i % 64 := Int.tmod_eq_emod_of_nonneg hi
  intro m
  induction m with
  | zero =>
    intro x j h0 h1 h2 h3 hq
    have : j = i % 64 := by simpa using h3
    subst this
    refine loopC_once mixed l1_centoref01_Bit.eq_1 ?_
    simp [e]
    simpa using hq _ _
  | succ m ih =>
    intro x j h0 h1 h2 h3 hq
    refine loopC_once mixed l1_centoref01_Bit.eq_1 ?_
    have hj : j < i % 64 := by omega
    simp [e, hj]
    rw [i64_same (by omega) (by omega), Int.tdiv_eq_ediv_of_nonneg h0, u64_same (by omega) (by omega)]
    exact ih _ _ (by omega) (by omega) (by omega) (by omega) (by rw [pow_half]; exact hq)
end
theorem rBit_spec {g : List Int} (hg : ∀ x, x ∈ g → 0 ≤ x ∧ x < 18446744073709551616) {i : Int} (hi1 : i < 1000000000000000000) (hi : 0 ≤ i) : G.Spec Try.prog 199 [uws g, iv i] (uv (bitZ g i)) := by
  refine spec_of t_centoref01_Bit (by simp) fun w0 I0 => ?_
  unfold c_centoref01_Bit
  have e2 : IntKind.i64.wrap (i.tdiv 64) = i / 64 := by rw [Int.tdiv_eq_ediv_of_nonneg hi, i64_same (by omega) (by omega)]
  have hn : ¬ i < 0 := by omega
  have hd0 : 0 ≤ i / 64 := by omega
  by_cases hr : (g.length : Int) ≤ i / 64
  · have en : g[(i / 64).toNat]? = none := List.getElem?_eq_none (by omega)
    simp [hn, e2, hr, hi]
    exact frz_is rfl (by simp [bitZ, en])
  · have hlt : (i / 64).toNat < g.length := by omega
    have hlt' : i / 64 < g.length := by omega
    have hx := hg _ (List.getElem_mem hlt)
    simp [hn, e2, hr, hi, hd0, hlt, hlt']
    have hx0 : 0 ≤ g[(i / 64).toNat] / 2 ^ (i % 64).toNat := Int.ediv_nonneg hx.1 (Int.le_of_lt (Int.pow_pos (by decide)))
    have hx1 : g[(i / 64).toNat] / 2 ^ (i % 64).toNat < 18446744073709551616 := Int.lt_of_le_of_lt (Int.ediv_le_self _ hx.1) hx.2
    refine rBit_l1 hi (i % 64).toNat _ 0 hx.1 hx.2 (by omega) (by omega) fun j' b => ?_
    simp [Int.tmod_eq_emod_of_nonneg hx0]
    exact frz_is rfl (by simp [bitZ, hn, hlt])
theorem bits_up (y : Int) (m k : Nat) : y / 2 ^ (m + 1) % 2 ^ k * 2 + y / 2 ^ m % 2 = y / 2 ^ m % 2 ^ (k + 1) := by
  have e : y / 2 ^ (m + 1) = y / 2 ^ m / 2 := by
    rw [Int.pow_succ, Int.ediv_ediv_of_nonneg (Int.le_of_lt (Int.pow_pos (by decide)))]
  rw [e]
  generalize y / 2 ^ m = z
  have e2 : z % 2 ^ (k + 1) = z - 2 ^ (k + 1) * (z / 2 ^ (k + 1)) := Int.emod_def ..
  have e3 : z / 2 ^ (k + 1) = z / 2 / 2 ^ k := by rw [Int.pow_succ, Int.mul_comm, Int.ediv_ediv_of_nonneg (by decide)]
  have e4 : z / 2 % 2 ^ k = z / 2 - 2 ^ k * (z / 2 / 2 ^ k) := Int.emod_def ..
  rw [e2, e3, e4, Int.pow_succ, Int.mul_comm (2 ^ k) 2, Int.mul_assoc]
  generalize 2 ^ k * (z / 2 / 2 ^ k) = q
  omega
/-- A word's bit, seen from the item's first. -/
theorem bit_of {g : List Int} {i w : Int} (hi : 0 ≤ i) (hw : w = 1 ∨ w = 8 ∨ w = 16 ∨ w = 32 ∨ w = 64) (m : Nat) (hm : (m : Int) < w) : bitZ g (i * w + m) = ((g[(i * w / 64).toNat]?).getD 0) / 2 ^ (i * w % 64).toNat / 2 ^ m % 2 := by
  have hp : 0 ≤ i * w := by rcases hw with rfl | rfl | rfl | rfl | rfl <;> omega
  have h1 : (i * w + m) / 64 = i * w / 64 ∧ (i * w + m) % 64 = i * w % 64 + m := by
    rcases hw with rfl | rfl | rfl | rfl | rfl <;> omega
  unfold bitZ
  rw [if_neg (by omega), h1.1, h1.2, Int.ediv_ediv_of_nonneg (Int.le_of_lt (Int.pow_pos (by decide))), ← Int.pow_add]
  have : (i * w % 64 + (m : Int)).toNat = (i * w % 64).toNat + m := by omega
  rw [this]
section
variable {n0 : Nat} {w0 : World} {I0 : Nat → Prop} {Q : Exit → Sta → Prop} {H : Hp}
theorem rGet_l1 {g : List Int} (hg : ∀ x, x ∈ g → 0 ≤ x ∧ x < 18446744073709551616) {i w y : Int} (hi : 0 ≤ i) (hi1 : i ≤ 1099511627776) (hw : w = 1 ∨ w = 8 ∨ w = 16 ∨ w = 32 ∨ w = 64) (hy : y = ((g[(i * w / 64).toNat]?).getD 0) / 2 ^ (i * w % 64).toNat) (y0 : 0 ≤ y) (y1 : y < 18446744073709551616) : ∀ (m : Nat) (k : Nat) (x j : Int), k + m = w → j = (m : Int) - 1 → x = y / 2 ^ m % 2 ^ k →
    (∀ j' b, Q (.exit 0) ⟨lk [(0, uws g), (2, iv i), (7, iv w), (8, uv (y % 2 ^ w.toNat)), (9, iv j'), (25, bv b)], H⟩) →
    LoopC (cx Try.prog w0 I0 n0) l1_centoref01_Get Q ⟨lk [(0, uws g), (2, iv i), (7, iv w), (8, uv x), (9, iv j)], H⟩ := by
  intro m
  induction m with
  | zero =>
    intro k x j hk hj hx hq
    subst hj
    refine loopC_once mixed l1_centoref01_Get.eq_1 ?_
    simp
    have : w.toNat = k := by omega
    rw [this] at hq
    rw [hx]
    simpa using hq _ _
  | succ m ih =>
    intro k x j hk hj hx hq
    have hj' : j = m := by omega
    subst hj'
    have hm : (m : Int) < w := by omega
    have hb : 0 ≤ i * w ∧ i * w ≤ 70368744177664 := by rcases hw with rfl | rfl | rfl | rfl | rfl <;> omega
    have e1 : IntKind.i64.wrap (i * w) = i * w := i64_same (by omega) (by omega)
    have e2 : IntKind.i64.wrap (i * w + m) = i * w + m := i64_same (by omega) (by omega)
    have e3 : IntKind.i64.wrap ((m : Int) - 1) = m - 1 := i64_same (by omega) (by omega)
    refine loopC_once mixed l1_centoref01_Get.eq_1 ?_
    simp [e1, e2]
    refine sc_call (rBit_spec hg (i := i * w + m) (by omega) (by omega)) rfl ?_
    simp [e3]
    rw [bit_of hi hw m hm, ← hy]
    have hu := bits_up y m k
    have hz0 : 0 ≤ y / 2 ^ m := Int.ediv_nonneg y0 (Int.le_of_lt (Int.pow_pos (by decide)))
    have hz1 : y / 2 ^ m ≤ y := Int.ediv_le_self _ y0
    have p2 : (0 : Int) < 2 ^ (k + 1) := Int.pow_pos (by omega)
    have m0 := Int.emod_nonneg (y / 2 ^ m) (by omega : (2 : Int) ^ (k + 1) ≠ 0)
    have m1 : y / 2 ^ m % 2 ^ (k + 1) ≤ y / 2 ^ m := by
      rw [Int.emod_def]
      have := Int.mul_nonneg (a := 2 ^ (k + 1)) (b := y / 2 ^ m / 2 ^ (k + 1)) (by omega) (Int.ediv_nonneg hz0 (by omega))
      omega
    have p3 : (0 : Int) < 2 ^ k := Int.pow_pos (by omega)
    have n0 := Int.emod_nonneg (y / 2 ^ (m + 1)) (by omega : (2 : Int) ^ k ≠ 0)
    rw [← hx] at hu n0
    rw [u64_same (n := x * 2) (by omega) (by omega), u64_same (by omega) (by omega)]
    exact ih (k + 1) _ _ (by omega) rfl hu hq
end
theorem rGet_spec {g : List Int} (hg : ∀ x, x ∈ g → 0 ≤ x ∧ x < 18446744073709551616) (c i : Int) : G.Spec Try.prog 166 [uws g, iv c, iv i] (uv (getZ g c i)) := by
  refine spec_of t_centoref01_Get (by simp) fun w0 I0 => ?_
  unfold c_centoref01_Get
  simp
  refine sc_call (rWidth_spec c) rfl ?_
  have hw := widthZ_cases c
  by_cases h0 : widthZ c < 1 ∨ i < 0 ∨ 1099511627776 < i
  · have e : getZ g c i = 0 := by unfold getZ; rw [if_pos h0]
    rw [e]
    have hd : (decide (widthZ c < 1) || decide (i < 0) || decide (1099511627776 < i)) = true := by simp; omega
    simp [hd]
    exact frz_bare rfl
  · have hw1 : widthZ c = 1 ∨ widthZ c = 8 ∨ widthZ c = 16 ∨ widthZ c = 32 ∨ widthZ c = 64 := by omega
    have hd : (decide (widthZ c < 1) || decide (i < 0) || decide (1099511627776 < i)) = false := by simp; omega
    have hi0 : 0 ≤ i := by omega
    have e : getZ g c i = ((g[(i * widthZ c / 64).toNat]?).getD 0) / 2 ^ (i * widthZ c % 64).toNat % 2 ^ (widthZ c).toNat := by unfold getZ; rw [if_neg h0]
    rw [e]
    simp [hd]
    clear e hw
    generalize widthZ c = w at hw1 h0
    rw [i64_same (by omega) (by omega)]
    have hx : 0 ≤ (g[(i * w / 64).toNat]?).getD 0 ∧ (g[(i * w / 64).toNat]?).getD 0 < 18446744073709551616 := by
      cases e : g[(i * w / 64).toNat]? with
      | none => simp
      | some x => exact hg x (List.mem_of_getElem? e)
    have y0 : 0 ≤ (g[(i * w / 64).toNat]?).getD 0 / 2 ^ (i * w % 64).toNat := Int.ediv_nonneg hx.1 (Int.le_of_lt (Int.pow_pos (by decide)))
    have y1 : (g[(i * w / 64).toNat]?).getD 0 / 2 ^ (i * w % 64).toNat < 18446744073709551616 := Int.lt_of_le_of_lt (Int.ediv_le_self _ hx.1) hx.2
    refine rGet_l1 hg hi0 (by omega) hw1 rfl y0 y1 w.toNat 0 0 _ (by omega) (by omega) (by simp) fun j' b => ?_
    simp
    exact frz_is rfl rfl
/-! ### a value -/
theorem raKids_spec (r : Rf) : G.Spec Try.prog 118 [raX r] (iv (nk r)) := by
  refine spec_of t_centoref09_Ref_Kids (by simp) fun w0 I0 => ?_
  unfold c_centoref09_Ref_Kids
  by_cases h1 : r.kind = 1
  · simp [h1]; exact frz_is rfl (by simp [nk, h1])
  · simp [h1]; exact frz_is rfl (by simp [nk, h1])
theorem raAt_spec {l : List (List Int)} (hs : Sg l) (s a : Int) : G.Spec Try.prog 73 [sgs l, iv s, iv a] (.tup [raX (atP l s a).1, iv (atP l s a).2]) := by
  have hf := follow_folw hs.w s a
  refine spec_of t_centoref09_At (by simp) fun w0 I0 => ?_
  unfold c_centoref09_At
  simp
  refine sc_call (refFollow_spec l hs.b hs.w s a) rfl ?_
  unfold atP
  generalize followP l s a = x at hf
  obtain ⟨x, e⟩ := x
  unfold Folw at hf
  simp only at hf ⊢
  by_cases hc : e ≠ 0 ∨ x.p.kind = 0
  · have hd : (!decide (e = 0) || decide (x.p.kind = 0)) = true := by simp; omega
    simp [hd, hc]
    exact frz_is rfl (by simp [Rf.zero])
  · have hd : (!decide (e = 0) || decide (x.p.kind = 0)) = false := by simp; omega
    have he : e = 0 := by omega
    obtain h0 | ⟨hk, hsh, hw⟩ := hf he
    · omega
    have hbd := hasW_bound hs hw
    rw [if_neg hc]
    simp [hd]
    unfold refP
    by_cases k1 : x.p.kind = 1
    · simp [k1, he]
      exact frz_is rfl rfl
    · have k2 : x.p.kind = 2 := by omega
      obtain ⟨c0, c1, _, _⟩ := hsh.k2 k2
      by_cases c7 : x.p.code < 7
      · have e2 : IntKind.i64.wrap (2 + x.p.code) = 2 + x.p.code := i64_same (by omega) (by omega)
        simp [k1, c7, e2]
        exact ⟨frz_is rfl rfl, fun h => absurd h (by omega)⟩
      · rw [wordsP_comp k2 (by omega)] at hw
        have hcnt := (hsh.k2 k2).2.2
        obtain ⟨q1, q2, q3, q4, q5, q6, q7⟩ := hasW_in hw
        simp only [Option.getD_some] at q7
        have q8 : x.at_.toNat < l[x.s.toNat].length := by omega
        have q9 : x.at_ < l[x.s.toNat].length := by omega
        have e0 : (word l x.s x.at_).getD 0 = l[x.s.toNat][x.at_.toNat] := by
          unfold word
          rw [if_pos q3, q6]
          simp [q8]
        have h0 : 0 ≤ (word l x.s x.at_).getD 0 ∧ (word l x.s x.at_).getD 0 < 18446744073709551616 := by
          cases e : word l x.s x.at_ with
          | none => simp
          | some x => exact word_in hs.w e
        simp [k1, c7, q1, q2, q3, q5, q8, q9, ws]
        unfold compP
        rw [← e0]
        generalize (word l x.s x.at_).getD 0 = w at h0
        intro _
        refine sc_call (refDecode_spec h0.1 h0.2) rfl ?_
        have hsh := dec_shp h0.1 h0.2
        have ho := dec_off h0.1 h0.2
        have hdp : 0 ≤ (dec w).data ∧ (dec w).data < 65536 ∧ 0 ≤ (dec w).ptrs ∧ (dec w).ptrs < 65536 := by
          unfold dec
          repeat' split
          all_goals simp
          all_goals omega
        generalize dec w = p at hsh ho hdp
        have hb : -70368744177664 ≤ p.off * (p.data + p.ptrs) ∧ p.off * (p.data + p.ptrs) ≤ 70368744177664 := by
          have b1 : p.off * (p.data + p.ptrs) ≤ 536870912 * (p.data + p.ptrs) := Int.mul_le_mul_of_nonneg_right (by omega) (by omega)
          have b2 : -536870912 * (p.data + p.ptrs) ≤ p.off * (p.data + p.ptrs) := Int.mul_le_mul_of_nonneg_right (by omega) (by omega)
          omega
        have e1 : IntKind.i64.wrap (p.data + p.ptrs) = p.data + p.ptrs := i64_same (by omega) (by omega)
        have e2 : IntKind.i64.wrap (p.off * (p.data + p.ptrs)) = p.off * (p.data + p.ptrs) := i64_same (by omega) (by omega)
        have e3 : IntKind.i64.wrap (x.at_ + 1) = x.at_ + 1 := i64_same (by omega) (by omega)
        by_cases hc : (w ≠ 0 ∧ p.kind ≠ 1) ∨ p.off < 0 ∨ x.p.count < p.off * (p.data + p.ptrs)
        · have hd : (((!decide (w = 0) && !decide (p.kind = 1)) || decide (p.off < 0)) || decide (x.p.count < p.off * (p.data + p.ptrs))) = true := by simp; omega
          rw [if_pos hc]
          simp [e1, e2, hd]
          exact frz_is rfl (by simp [Rf.zero])
        · have hd : (((!decide (w = 0) && !decide (p.kind = 1)) || decide (p.off < 0)) || decide (x.p.count < p.off * (p.data + p.ptrs))) = false := by simp; omega
          rw [if_neg hc]
          simp [e1, e2, e3, hd]
          exact frz_is rfl rfl
theorem raKid_spec {l : List (List Int)} (hs : Sg l) {r : Rf} (hr : RfOk l r) (i : Int) : G.Spec Try.prog 119 [raX r, sgs l, iv i] (.tup [raX (kidP l r i).1, iv (kidP l r i).2]) := by
  refine spec_of t_centoref09_Ref_Kid (by simp) fun w0 I0 => ?_
  unfold c_centoref09_Ref_Kid
  simp
  refine sc_call_gf rfl (fun _ => raKids_spec r) (fun e => by simp [e]) (by simp) ?_
  by_cases hi : i < 0 ∨ nk r ≤ i
  · have hd : (decide (i < 0) || decide (nk r ≤ i)) = true := by simpa using hi
    simp [hd]
    exact frz_is rfl (by simp [kidP, hi, Rf.zero])
  · have hd : (decide (i < 0) || decide (nk r ≤ i)) = false := by simpa using hi
    have hi0 : 0 ≤ i := by omega
    have hi1 : i < nk r := by omega
    have hk := nk_nonneg hr
    rw [kidP, if_neg hi]
    cases hr with
    | zero => simp [nk, Rf.zero] at hi1; omega
    | str s a d k a1 a2 a3 a4 h =>
      have hb := hasW_bound hs h
      have e1 : IntKind.i64.wrap (IntKind.i64.wrap (a + d) + i) = a + d + i := by
        rw [i64_same (n := a + d) (by omega) (by omega), i64_same (by omega) (by omega)]
      simp [hd, e1]
      refine sc_call (raAt_spec hs s (a + d + i)) rfl ?_
      simp
      exact frz_is rfl rfl
    | dat c s a n a1 a2 a3 a4 h =>
      have n1 : ¬ (2 + c = 1) := by omega
      have n8 : ¬ (2 + c = 8) := by omega
      have n9 : ¬ (2 + c = 9) := by omega
      obtain ⟨q1, q2, q3, q4, q5, q6, q7⟩ := hasW_in h
      have hz : 0 ≤ (n * bitsOf c + 63) / 64 := q4
      have q8 : a ≤ l[s.toNat].length := by omega
      have e2 : IntKind.i64.wrap (2 + c - 2) = 2 + c - 2 := i64_same (by omega) (by omega)
      have et : List.take (l[s.toNat].length - a.toNat) (List.drop a.toNat (List.map uv l[s.toNat])) = (l[s.toNat].drop a.toNat).map uv := by
        rw [List.take_of_length_le (by simp), List.map_drop]
      simp [hd, n1, n8, n9, q1, q2, q3, q5, q8, e2, et]
      refine sc_calle (L := [uws (l[s.toNat].drop a.toNat), iv (2 + c - 2), iv i]) (by simp) (rGet_spec (fun x hx => hs.w _ (List.getElem_mem q5) x (List.mem_of_mem_drop hx)) (2 + c - 2) i) rfl ?_
      simp
      exact frz_is rfl (by simp [atomZ, q6])
    | ptrs s a n a1 a2 h =>
      have hb := hasW_bound hs h
      have e1 : IntKind.i64.wrap (a + i) = a + i := i64_same (by omega) (by omega)
      simp [hd, e1]
      refine sc_call (raAt_spec hs s (a + i)) rfl ?_
      simp
      exact frz_is rfl rfl
    | comp s a d k n a1 a2 a3 a4 a5 a6 h =>
      have hb := hasW_bound hs h
      have hn : i < n := by simpa [nk] using hi1
      have m1 : 0 ≤ i * (d + k) := Int.mul_nonneg hi0 (by omega)
      have m2 : i * (d + k) ≤ n * (d + k) := mul_le_of (by omega) (by omega)
      have e1 : IntKind.i64.wrap (d + k) = d + k := i64_same (by omega) (by omega)
      have e2 : IntKind.i64.wrap (i * (d + k)) = i * (d + k) := i64_same (by omega) (by omega)
      have e3 : IntKind.i64.wrap (a + i * (d + k)) = a + i * (d + k) := i64_same (by omega) (by omega)
      simp [hd, e1, e2, e3]
      exact frz_is rfl rfl
    | atom n a1 a2 => simp [nk] at hi1; omega
theorem raWords_spec {l : List (List Int)} (hs : Sg l) {r : Rf} (hr : RfOk l r) : G.Spec Try.prog 117 [raX r, sgs l] (uws (wordsR l r)) := by
  refine spec_of t_centoref09_Ref_Words (by simp) fun w0 I0 => ?_
  unfold c_centoref09_Ref_Words
  by_cases h10 : r.kind = 10
  · simp [h10]
    have : wordsR l r = [r.n] := by simp [wordsR, h10]
    rw [this]
    exact frz_sl
  by_cases h1 : r.kind = 1
  · cases hr with
    | str s a d k a1 a2 a3 a4 h =>
      obtain ⟨q1, q2, q3, q4, q5, q6, q7⟩ := hasW_in h
      have hbd := hasW_bound hs h
      have e1 : IntKind.i64.wrap (a + d) = a + d := i64_same (by omega) (by omega)
      have g1 : a ≤ a + d := by omega
      have g2 : a + d ≤ l[s.toNat].length := by omega
      have g3 := hs.b _ (List.getElem_mem q5)
      have g4 : 0 ≤ a + d := by omega
      have g5 : a.toNat ≤ (a + d).toNat := by omega
      have g6 : (a + d).toNat ≤ l[s.toNat].length := by omega
      have g7 : max (a + d) 0 = a + d := by omega
      simp [e1, q1, q2, q3, q5, g1, g2, g4, g5, g6, g7]
      have gl : (List.take ((a + d).toNat - a.toNat) (List.drop a.toNat (List.map uv l[s.toNat]))) = (part l s a d).map uv := by
        simp only [part, q6, Option.getD_some, List.map_take, List.map_drop]
        congr 1
        omega
      refine ⟨by omega, ?_⟩
      rw [gl]
      have : wordsR l ⟨1, s, a, d, k, 0, 0⟩ = part l s a d := by simp [wordsR]
      rw [this]
      exact frz_row (sz := 1) (by simp) (by simp [part, q6]; omega) (by simp)
    | dat c s a n a1 a2 a3 a4 h => simp at h1; omega
    | _ => simp [Rf.zero] at h1
  · have : wordsR l r = [] := by simp [wordsR, h1, h10]
    rw [this]
    simp [h1, h10]
    exact frz_sl
end Go.Proofs.Ytehcobkphobjiaa

/-
  Chapter 10's reference: what a value means.
-/
namespace Go.Proofs.Ytehcobkphobjiaa
set_option linter.unusedVariables false
set_option linter.unusedSimpArgs false
open Go Go.G Go.Proofs Go.PL
/-! ### plain -/
abbrev LB (l : List (List Int)) (B : Int) (rec : Rf → Int → T × Int × Int) : Prop := ∀ r, RfOk l r → ∀ left : Int, 0 ≤ left → left ≤ B → 0 ≤ (rec r left).2.1 ∧ (rec r left).2.1 ≤ B
theorem loopM_lb {B : Int} {f : Nat → Int → T × Int × Int} (hf : ∀ i left, 0 ≤ left → left ≤ B → 0 ≤ (f i left).2.1 ∧ (f i left).2.1 ≤ B) : ∀ (m i : Nat) (acc : List T) (left : Int), 0 ≤ left → left ≤ B → 0 ≤ (loopM f m i acc left).2.1 ∧ (loopM f m i acc left).2.1 ≤ B
  | 0, i, acc, left, h0, h1 => ⟨h0, h1⟩
  | m + 1, i, acc, left, h0, h1 => by
    rw [loopM]
    have := hf i left h0 h1
    split
    · exact this
    · exact loopM_lb hf m _ _ _ this.1 this.2
theorem stepM_lb {l : List (List Int)} (hw : Wds l) {B : Int} {rec : Rf → Int → T × Int × Int} (h : LB l B rec) {r : Rf} (hr : RfOk l r) (i : Nat) (left : Int) (h0 : 0 ≤ left) (h1 : left ≤ B) : 0 ≤ (stepM l rec r i left).2.1 ∧ (stepM l rec r i left).2.1 ≤ B := by
  unfold stepM
  split
  · exact ⟨h0, h1⟩
  · exact h _ (kid_ok hw hr i) _ h0 h1
theorem kidsM_lb {l : List (List Int)} (hw : Wds l) {B : Int} {rec : Rf → Int → T × Int × Int} (h : LB l B rec) : LB l B (kidsM l rec) := fun r hr left h0 h1 =>
  loopM_lb (stepM_lb hw h hr) _ _ _ _ h0 h1
theorem leafM_lb {l : List (List Int)} {B : Int} : LB l B (leafM l) := fun r hr left h0 h1 => ⟨h0, h1⟩
theorem costM_pos {l : List (List Int)} {r : Rf} (hr : RfOk l r) : 1 ≤ costM r ∧ costM r ≤ 100000000000000 := by
  cases hr with
  | zero => simp [costM, nk, Rf.zero]
  | str s a d k a1 a2 a3 a4 h => simp [costM]; omega
  | dat c s a n a1 a2 a3 a4 h => simp [costM, nk]; rw [if_neg (by omega), if_neg (by omega), if_neg (by omega)]; omega
  | ptrs s a n a1 a2 h => simp [costM, nk]; omega
  | comp s a d k n a1 a2 a3 a4 a5 a6 h =>
    simp [costM]
    have m1 : 0 ≤ n * (1 + d + k) := Int.mul_nonneg (by omega) (by omega)
    have m2 : n * (1 + d + k) ≤ 536870912 * (1 + d + k) := mul_le_of (by omega) (by omega)
    omega
  | atom n a1 a2 => simp [costM, nk]
theorem restM_lb {l : List (List Int)} (hw : Wds l) {B : Int} {r : Rf} (hr : RfOk l r) {rec1 rec2 : Rf → Int → T × Int × Int} (h1 : LB l B rec1) (h2 : LB l B rec2) {left : Int} (h3 : ¬ left < costM r) (h4 : left ≤ B) : 0 ≤ (restM l r rec1 rec2 left).2.1 ∧ (restM l r rec1 rec2 left).2.1 ≤ B := by
  have := costM_pos hr
  unfold restM
  refine loopM_lb (stepM_lb hw ?_ hr) _ _ _ _ (by omega) (by omega)
  split
  · exact kidsM_lb hw h2
  · split
    · exact h1
    · exact leafM_lb
theorem meaning_lb {l : List (List Int)} (hw : Wds l) {B : Int} : ∀ d : Nat, LB l B (meaning l d)
  | 0, r, hr, left, h0, h1 => by
    rw [meaning]; split <;> exact ⟨h0, h1⟩
  | 1, r, hr, left, h0, h1 => by
    rw [meaning]
    split
    · exact ⟨h0, h1⟩
    · split
      · exact ⟨h0, h1⟩
      · split
        · exact ⟨h0, h1⟩
        · rename_i hc
          exact restM_lb hw hr (meaning_lb hw 0) (fun r hr left h0 h1 => ⟨h0, h1⟩) hc h1
  | d + 2, r, hr, left, h0, h1 => by
    rw [meaning]
    split
    · exact ⟨h0, h1⟩
    · split
      · exact ⟨h0, h1⟩
      · rename_i hc
        exact restM_lb hw hr (meaning_lb hw (d + 1)) (meaning_lb hw d) hc h1
/-! ### the walks -/
abbrev M3 (x : T × Int × Int) : A := .tup [tX x.1, iv x.2.1, iv x.2.2]
abbrev raL (r : Rf) : List A := [iv r.kind, iv r.s, iv r.at_, iv r.data, iv r.kids, iv r.count, uv r.n]
abbrev RecS (l : List (List Int)) (g : FuncId) (d : Nat) (B : Int) (rec : Rf → Int → T × Int × Int) : Prop := ∀ r, RfOk l r → ∀ left : Int, 0 ≤ left → left ≤ B → G.Spec Try.prog g [sgs l, raX r, iv d, iv left] (M3 (rec r left))
abbrev zT : List A := [iv 0, .sl true [], .sl true []]
theorem kids_in {l : List (List Int)} {r : Rf} (hr : RfOk l r) : 0 ≤ r.kids ∧ r.kids < 65536 := by
  cases hr <;> simp [Rf.zero] <;> omega
section
variable {n0 : Nat} {w0 : World} {I0 : Nat → Prop} {Q : Exit → Sta → Prop}
theorem rkids_l1 {l : List (List Int)} (hs : Sg l) {r : Rf} (hr : RfOk l r) {rec : Rf → Int → T × Int × Int} {d : Nat} {B : Int} (hrec : RecS l 74 d B rec) (hlb : LB l B rec) {W : List Int} {ks : List T} {lf e : Int} : ∀ (m i u : Nat) (acc : List T) (left : Int) (H : Hp), (i : Int) + m = r.kids → acc.length = i → 0 ≤ left → left ≤ B → H [0] = ⟨1, .cells (raL r)⟩ → H [1] = ⟨1, .cells zT⟩ → H [2] = ⟨1, .cells [iv 1, uws W, .osl [5] u 3 0 i]⟩ → H [5] = ⟨u, .arr 3 (acc.map tA)⟩ → loopM (stepM l rec r) m i acc left = (ks, lf, e) →
    (e = 0 → ∀ i' q u' H', H' [1] = ⟨1, .cells zT⟩ → H' [2] = ⟨1, .cells [iv 1, uws W, .osl [5] u' 3 0 ks.length]⟩ → H' [5] = ⟨u', .arr 3 (ks.map tA)⟩ → Q (.exit 0) ⟨lk [(0, sgs l), (2, iv d), (3, iv lf), (5, .pob [0] 1 0), (8, .pob [1] 1 0), (11, .pob [2] 1 0), (12, iv i'), (25, bv q)], H'⟩) →
    (e ≠ 0 → ∀ u' H', H' [1] = ⟨1, .cells [iv 1, uws W, .osl [5] u' 3 0 ks.length]⟩ → H' [5] = ⟨u', .arr 3 (ks.map tA)⟩ → Q .ret ⟨lk [(8, .pob [1] 1 0), (9, iv lf), (10, iv e)], H'⟩) →
    LoopC (cx Try.prog w0 I0 n0) l1_centoref10_kids Q ⟨lk [(0, sgs l), (2, iv d), (3, iv left), (5, .pob [0] 1 0), (8, .pob [1] 1 0), (11, .pob [2] 1 0), (12, iv i)], H⟩ := by
  have hb := kids_in hr
  intro m
  induction m with
  | zero =>
    intro i u acc left H hi ha h0 h1 hA hR hO hK hX hq hq2
    have : (i : Int) = r.kids := by omega
    rw [loopM] at hX
    cases hX
    refine loopC_once mixed l1_centoref10_kids.eq_1 ?_
    simp [hA, this]
    refine hq rfl _ _ u H hR (by rw [hO, ha]) hK
  | succ m ihm =>
    intro i u acc left H hi ha h0 h1 hA hR hO hK hX hq hq2
    have hlt : (i : Int) < r.kids := by omega
    have ei : IntKind.i64.wrap ((i : Int) + 1) = ((i + 1 : Nat) : Int) := i64_same (by omega) (by omega)
    rw [loopM] at hX
    refine loopC_once mixed l1_centoref10_kids.eq_1 ?_
    simp [hA, hlt]
    refine sc_call (raKid_spec hs hr i) (by simp) ?_
    by_cases he : (kidP l r i).2 = 0
    · have hst : stepM l rec r i left = rec (kidP l r i).1 left := by rw [stepM, if_neg (by omega)]
      rw [hst] at hX
      have hlb' := hlb _ (kid_ok hs.w hr i) left h0 h1
      simp [he, hA, hR, hO, hK, updF_app]
      refine sc_call (hrec _ (kid_ok hs.w hr i) left h0 h1) (by simp) ?_
      generalize hy : rec (kidP l r i).1 left = y at hX hlb'
      obtain ⟨y, yl, ye⟩ := y
      simp only at hX hlb'
      by_cases hye : ye = 0
      · rw [if_neg (by simp [hye])] at hX
        simp [hye, hA, hR, hO, hK, updF_app]
        have hrow : List.take i (acc.map tA) ++ [tX y] = (acc ++ [y]).map tA := by rw [List.take_of_length_le (by simp; omega)]; simp
        have hrow' : List.take i (acc.map tA) = acc.map tA := List.take_of_length_le (by simp; omega)
        rw [ei]
        refine ⟨⟨by omega, by omega⟩, ?_⟩
        exact ihm (i + 1) (u + 1) (acc ++ [y]) yl _ (by omega) (by simp [ha]) hlb'.1 hlb'.2 (by simp [updF_app, hA]) (by simp [updF_app, hR]) (by simp [updF_app]) (by simp [updF_app, hrow']) hX hq hq2
      · rw [if_pos hye] at hX
        simp only [Prod.mk.injEq] at hX
        obtain ⟨rfl, rfl, rfl⟩ := hX
        simp [hye, hA, hR, hO, hK, updF_app]
        refine hq2 hye u _ ?_ ?_
        · simp [updF_app, hR, ha]
        · simp [updF_app, hK]
    · have hst : stepM l rec r i left = (T0, left, (kidP l r i).2) := by rw [stepM, if_pos he]
      rw [hst, if_pos he] at hX
      simp only [Prod.mk.injEq] at hX
      obtain ⟨rfl, rfl, rfl⟩ := hX
      simp [he, hA, hR, hO, hK, updF_app]
      refine hq2 he u _ ?_ ?_
      · simp [updF_app, hR, ha]
      · simp [updF_app, hK]
end
theorem rkids_spec {l : List (List Int)} (hs : Sg l) {rec : Rf → Int → T × Int × Int} {d : Nat} {B : Int} (hrec : RecS l 74 d B rec) (hlb : LB l B rec) : RecS l 120 d B (kidsM l rec) := fun r hr left h0 h1 => by
  have hb := kids_in hr
  refine spec_of t_centoref10_kids (by simp) fun w0 I0 => ?_
  unfold c_centoref10_kids
  simp
  refine sc_call (raWords_spec hs hr) (by simp) ?_
  simp
  refine LoopC.le (le_blankC (d := [2]) 2 [5] 3 rfl rfl (by simp)) ?_
  simp
  generalize hX : loopM (stepM l rec r) r.kids.toNat 0 [] left = X
  obtain ⟨ks, lf, e⟩ := X
  have fin : ∀ (H : Hp) (u : Nat), H [5] = ⟨u, .arr 3 (ks.map tA)⟩ → Frz H (.tup [.agg [iv 1, uws (wordsR l r), .osl [5] u 3 0 ks.length], iv lf, iv e]) (M3 (kidsM l rec r left)) := fun H u hH => by
    unfold kidsM
    rw [hX]
    refine frz_tup ?_
    simp
    refine ⟨frz_agg ?_, frz_bare rfl, frz_bare rfl⟩
    simp
    exact ⟨frz_bare rfl, frz_bare rfl, frz_row (by simp [hH]) rfl (by simp)⟩
  refine rkids_l1 (W := wordsR l r) hs hr hrec hlb r.kids.toNat 0 1 [] left _ (by omega) rfl h0 h1 (by simp) (by simp) (by simp) (by simp) hX (fun he i' q u' H' hR hO hK => ?_) (fun he u' H' hR hK => ?_)
  · simp [hR, hO, hK, updF_app]
    rw [← he]
    exact fin _ u' (by simp [updF_app, hK])
  · simp [hR, hK, updF_app]
    exact fin _ u' hK
end Go.Proofs.Ytehcobkphobjiaa

/-
  Chapter 10's reference: what a value means, whole.
-/
namespace Go.Proofs.Ytehcobkphobjiaa
set_option linter.unusedVariables false
set_option linter.unusedSimpArgs false
open Go Go.G Go.Proofs Go.PL
/-- A tree whose kids were never made. -/
def rawT (b : Bool) (t : T) : A := if b = true then .agg [iv t.kind, uws t.words, .sl true []] else tA t
theorem frz_raw {H : Hp} {o : Nm} {u n : Nat} {b : Bool} {l : List T} (h : vr (H o) u = some (3, l.map (rawT b))) (hn : n = l.length) (hb : b = true → ∀ t, t ∈ l → t.kids = []) : Frz H (.osl o u 3 0 n) (tKs l) := by
  subst hn
  cases b with
  | false =>
    have e : rawT false = tA := by funext t; simp [rawT]
    rw [e] at h
    exact frz_row (by simpa using h) rfl (by simp)
  | true =>
    refine frz_osl' (xs := l.map (rawT true)) (by simpa using h) (by simp) (by simp) (fun y hy => ?_) ?_ ?_
    · obtain ⟨x, hx, rfl⟩ := List.mem_map.1 hy
      simp
    · simp only [A.ones, List.all_eq_true, List.mem_flatMap]
      rintro y ⟨z, hz, hy⟩
      obtain ⟨x, hx, rfl⟩ := List.mem_map.1 hz
      simp at hy
      rcases hy with rfl | rfl | rfl <;> rfl
    · rw [List.drop_zero, List.take_of_length_le (by simp)]
      have : ∀ (m : List T), (∀ x, x ∈ m → x ∈ l) → FrzL H ((m.map (rawT true)).flatMap A.cells) ((m.map tA).flatMap A.cells) := by
        intro m
        induction m with
        | nil => intro _; simp
        | cons x m ih =>
          intro hm
          have := hb rfl x (hm x (by simp))
          have := ih fun y hy => hm y (by simp [hy])
          simp [rawT] at this ⊢
          exact ⟨frz_bare rfl, frz_bare rfl, by rw [hb rfl x (hm x (by simp))]; exact frz_sl, this⟩
      exact this l fun x hx => hx
def recM (l : List (List Int)) (r : Rf) (rec1 rec2 : Rf → Int → T × Int × Int) : Rf → Int → T × Int × Int := if r.kind = 9 then kidsM l rec2 else if r.kind = 1 ∨ r.kind = 8 then rec1 else leafM l
def leafB (r : Rf) : Bool := !(decide (r.kind = 9) || decide (r.kind = 1) || decide (r.kind = 8))
theorem leaf_kids {l : List (List Int)} {r : Rf} {rec1 rec2 : Rf → Int → T × Int × Int} (hb : leafB r = true) : ∀ (m i : Nat) (acc : List T) (left : Int), (∀ t, t ∈ acc → t.kids = []) → ∀ t, t ∈ (loopM (stepM l (recM l r rec1 rec2) r) m i acc left).1 → t.kids = []
  | 0, i, acc, left, ha, t, ht => ha t ht
  | m + 1, i, acc, left, ha, t, ht => by
    have e : recM l r rec1 rec2 = leafM l := by
      simp [leafB] at hb
      rw [recM, if_neg hb.1.1, if_neg (by omega)]
    rw [loopM] at ht
    split at ht
    · exact ha t ht
    · refine leaf_kids hb m _ _ _ (fun t ht => ?_) t ht
      rcases List.mem_append.1 ht with h | h
      · exact ha t h
      · simp only [List.mem_singleton] at h
        subst h
        rw [e]
        unfold stepM
        split
        · rfl
        · rfl
section
variable {n0 : Nat} {w0 : World} {I0 : Nat → Prop} {Q : Exit → Sta → Prop}
theorem meaning_l1 {l : List (List Int)} (hs : Sg l) {r : Rf} (hr : RfOk l r) {rec1 rec2 : Rf → Int → T × Int × Int} {d : Nat} (hd : d ≤ 1000) {B : Int}
    (h1 : r.kind = 1 ∨ r.kind = 8 → ∃ d1 : Nat, d = d1 + 1 ∧ RecS l 74 d1 B rec1 ∧ LB l B rec1)
    (h2 : r.kind = 9 → 0 < r.count → ∃ d2 : Nat, d = d2 + 2 ∧ RecS l 120 d2 B (kidsM l rec2) ∧ LB l B (kidsM l rec2))
    {W : List Int} {ks : List T} {lf e : Int} : ∀ (m i u : Nat) (acc : List T) (left : Int) (H : Hp), (i : Int) + m = nk r → acc.length = i → 0 ≤ left → left ≤ B → H [0] = ⟨1, .cells (raL r)⟩ → H [1] = ⟨1, .cells zT⟩ → H [2] = ⟨1, .cells [iv r.kind, uws W, .osl [5] u 3 0 i]⟩ → H [5] = ⟨u, .arr 3 (acc.map (rawT (leafB r)))⟩ → loopM (stepM l (recM l r rec1 rec2) r) m i acc left = (ks, lf, e) →
    (e = 0 → ∀ i' q u' H', H' [1] = ⟨1, .cells zT⟩ → H' [2] = ⟨1, .cells [iv r.kind, uws W, .osl [5] u' 3 0 ks.length]⟩ → H' [5] = ⟨u', .arr 3 (ks.map (rawT (leafB r)))⟩ → Q (.exit 0) ⟨lk [(0, sgs l), (2, iv d), (3, iv lf), (5, .pob [0] 1 0), (8, .pob [1] 1 0), (11, .pob [2] 1 0), (13, iv i'), (82, bv q)], H'⟩) →
    (e ≠ 0 → ∀ u' H', H' [1] = ⟨1, .cells [iv r.kind, uws W, .osl [5] u' 3 0 ks.length]⟩ → H' [5] = ⟨u', .arr 3 (ks.map (rawT (leafB r)))⟩ → Q .ret ⟨lk [(8, .pob [1] 1 0), (9, iv lf), (10, iv e)], H'⟩) →
    LoopC (cx Try.prog w0 I0 n0) l1_centoref10_Meaning Q ⟨lk [(0, sgs l), (2, iv d), (3, iv left), (5, .pob [0] 1 0), (8, .pob [1] 1 0), (11, .pob [2] 1 0), (13, iv i)], H⟩ := by
  have hb := nk_nonneg hr
  intro m
  induction m with
  | zero =>
    intro i u acc left H hi ha h0 hl hA hR hO hK hX hq hq2
    have : (i : Int) = nk r := by omega
    rw [loopM] at hX
    cases hX
    refine loopC_once mixed l1_centoref10_Meaning.eq_1 ?_
    simp [hA]
    refine sc_call (raKids_spec r) (by simp) ?_
    simp [this]
    refine hq rfl _ _ u H hR (by rw [hO, ha]) hK
  | succ m ihm =>
    intro i u acc left H hi ha h0 hl hA hR hO hK hX hq hq2
    have hlt : (i : Int) < nk r := by omega
    have ei : IntKind.i64.wrap ((i : Int) + 1) = ((i + 1 : Nat) : Int) := i64_same (by omega) (by omega)
    have hrow : List.take i (acc.map (rawT (leafB r))) = acc.map (rawT (leafB r)) := List.take_of_length_le (by simp; omega)
    rw [loopM] at hX
    refine loopC_once mixed l1_centoref10_Meaning.eq_1 ?_
    simp [hA]
    refine sc_call (raKids_spec r) (by simp) ?_
    simp [hA, hlt]
    refine sc_call (raKid_spec hs hr i) (by simp) ?_
    have hok := kid_ok hs.w hr i
    have next : ∀ (y : T) (yl ye : Int), stepM l (recM l r rec1 rec2) r i left = (y, yl, ye) → ye = 0 → 0 ≤ yl → yl ≤ B → ∀ (x : A) (H' : Hp), rawT (leafB r) y = x → H' [0] = ⟨1, .cells (raL r)⟩ → H' [1] = ⟨1, .cells zT⟩ → H' [2] = ⟨1, .cells [iv r.kind, uws W, .osl [5] (u + 1) 3 0 (i + 1)]⟩ → H' [5] = ⟨u + 1, .arr 3 (acc.map (rawT (leafB r)) ++ [x])⟩ →
        LoopC (cx Try.prog w0 I0 n0) l1_centoref10_Meaning Q ⟨lk [(0, sgs l), (2, iv d), (3, iv yl), (5, .pob [0] 1 0), (8, .pob [1] 1 0), (11, .pob [2] 1 0), (13, iv ((i + 1 : Nat) : Int))], H'⟩ := fun y yl ye hy he y0 y1 x H' hx a0 a1 a2 a5 => by
      rw [hy, if_neg (by simp [he])] at hX
      exact ihm (i + 1) (u + 1) (acc ++ [y]) yl H' (by omega) (by simp [ha]) y0 y1 a0 a1 a2 (by rw [a5, ← hx]; simp) hX hq hq2
    by_cases he : (kidP l r i).2 = 0
    · have hst : stepM l (recM l r rec1 rec2) r i left = recM l r rec1 rec2 (kidP l r i).1 left := by rw [stepM, if_neg (by omega)]
      rw [hst] at hX next
      simp [he, hA, hR, hO, hK, updF_app]
      refine sc_call (raWords_spec hs hok) (by simp) ?_
      simp [he, hA, hR, hO, hK, updF_app]
      by_cases h9 : r.kind = 9
      · have hrec : recM l r rec1 rec2 = kidsM l rec2 := by rw [recM, if_pos h9]
        have hlf : leafB r = false := by simp [leafB, h9]
        rw [hrec] at hX next
        obtain ⟨d2, ed, hsp, hlb⟩ := h2 h9 (by unfold nk at hlt; rw [if_neg (by omega)] at hlt; omega)
        have e2 : IntKind.i64.wrap ((d : Int) - 2) = (d2 : Int) := by rw [i64_same (by omega) (by omega)]; omega
        have hlb' := hlb _ hok left h0 hl
        simp [h9, e2, hA, updF_app]
        refine sc_call (hsp _ hok left h0 hl) (by simp) ?_
        generalize hy : kidsM l rec2 (kidP l r i).1 left = y at hX hlb' next
        obtain ⟨y, yl, ye⟩ := y
        simp only at hX hlb'
        rw [k1_centoref10_Meaning.eq_1]
        by_cases hye : ye = 0
        · simp [hye, hA, hR, hO, hK, updF_app, hrow]
          rw [ei]
          refine ⟨⟨by omega, by omega⟩, ?_⟩
          refine next y yl ye rfl hye hlb'.1 hlb'.2 _ _ rfl ?_ ?_ ?_ ?_
          · simp [updF_app, hA]
          · simp [updF_app, hR]
          · simp [updF_app, h9]
          · simp [updF_app, hlf, rawT]
        · rw [if_pos hye] at hX
          simp only [Prod.mk.injEq] at hX
          obtain ⟨rfl, rfl, rfl⟩ := hX
          simp [hye, hA, hR, hO, hK, updF_app]
          refine hq2 hye u _ ?_ ?_
          · simp [updF_app, hR, ha, h9]
          · simp [updF_app, hK]
      · by_cases h18 : r.kind = 1 ∨ r.kind = 8
        · have hrec : recM l r rec1 rec2 = rec1 := by rw [recM, if_neg h9, if_pos h18]
          have hlf : leafB r = false := by rcases h18 with h | h <;> simp [leafB, h]
          have hdc : (decide (r.kind = 1) || decide (r.kind = 8)) = true := by simpa using h18
          rw [hrec] at hX next
          obtain ⟨d1, ed, hsp, hlb⟩ := h1 h18
          have e2 : IntKind.i64.wrap ((d : Int) - 1) = (d1 : Int) := by rw [i64_same (by omega) (by omega)]; omega
          have hlb' := hlb _ hok left h0 hl
          simp [h9, hdc, e2, hA, updF_app]
          refine ⟨fun _ => ?_, fun a b => by omega⟩
          refine sc_call (hsp _ hok left h0 hl) (by simp) ?_
          generalize hy : rec1 (kidP l r i).1 left = y at hX hlb' next
          obtain ⟨y, yl, ye⟩ := y
          simp only at hX hlb'
          rw [k1_centoref10_Meaning.eq_1]
          by_cases hye : ye = 0
          · simp [hye, hA, hR, hO, hK, updF_app, hrow]
            rw [ei]
            refine ⟨⟨by omega, by omega⟩, ?_⟩
            refine next y yl ye rfl hye hlb'.1 hlb'.2 _ _ rfl ?_ ?_ ?_ ?_
            · simp [updF_app, hA]
            · simp [updF_app, hR]
            · simp [updF_app]
            · simp [updF_app, hlf, rawT]
          · rw [if_pos hye] at hX
            simp only [Prod.mk.injEq] at hX
            obtain ⟨rfl, rfl, rfl⟩ := hX
            simp [hye, hA, hR, hO, hK, updF_app]
            refine hq2 hye u _ ?_ ?_
            · simp [updF_app, hR, ha]
            · simp [updF_app, hK]
        · have hrec : recM l r rec1 rec2 = leafM l := by rw [recM, if_neg h9, if_neg h18]
          have hlf : leafB r = true := by simp [leafB]; omega
          have hdc : (decide (r.kind = 1) || decide (r.kind = 8)) = false := by simpa using h18
          rw [hrec] at next
          simp [h9, hdc, hA, updF_app]
          rw [k1_centoref10_Meaning.eq_1]
          simp [he, hA, hR, hO, hK, updF_app, hrow]
          rw [ei]
          refine ⟨fun h => absurd h h18, fun _ _ => ⟨⟨by omega, by omega⟩, ?_⟩⟩
          refine next _ _ _ rfl rfl h0 hl _ _ rfl ?_ ?_ ?_ ?_
          · simp [updF_app, hA]
          · simp [updF_app, hR]
          · simp [updF_app]
          · simp [updF_app, hlf, rawT]
    · have hst : stepM l (recM l r rec1 rec2) r i left = (T0, left, (kidP l r i).2) := by rw [stepM, if_pos he]
      rw [hst, if_pos he] at hX
      simp only [Prod.mk.injEq] at hX
      obtain ⟨rfl, rfl, rfl⟩ := hX
      simp [he, hA, hR, hO, hK, updF_app]
      refine hq2 he u _ ?_ ?_
      · simp [updF_app, hR, ha]
      · simp [updF_app, hK]
end
theorem meaning_step {l : List (List Int)} (hs : Sg l) {r : Rf} (hr : RfOk l r) {rec1 rec2 : Rf → Int → T × Int × Int} {d : Nat} (hd : d ≤ 1000) {B : Int} (hB : B ≤ 1000000)
    (h1 : r.kind = 1 ∨ r.kind = 8 → 0 < d → ∃ d1 : Nat, d = d1 + 1 ∧ RecS l 74 d1 B rec1 ∧ LB l B rec1)
    (h2 : r.kind = 9 → 0 < r.count → 1 < d → ∃ d2 : Nat, d = d2 + 2 ∧ RecS l 120 d2 B (kidsM l rec2) ∧ LB l B (kidsM l rec2))
    {left : Int} (h0 : 0 ≤ left) (hl : left ≤ B) {X : T × Int × Int} (hX : X = if r.kind = 0 then leafM l r left else if d < 1 ∨ (r.kind = 9 ∧ 0 < r.count ∧ d < 2) then stopM l r left else if left < costM r then stopM l r left else restM l r rec1 rec2 left) : G.Spec Try.prog 74 [sgs l, raX r, iv d, iv left] (M3 X) := by
  have hb := nk_nonneg hr
  have hc := costM_pos hr
  refine spec_of t_centoref10_Meaning (by simp) fun w0 I0 => ?_
  unfold c_centoref10_Meaning
  simp
  refine sc_call (raWords_spec hs hr) (by simp) ?_
  have leaf : ∀ (H : Hp) (k lf e : Int) (X : T × Int × Int), X = (.mk k (wordsR l r) [], lf, e) → Frz H (.tup [.agg [iv k, uws (wordsR l r), .sl true []], iv lf, iv e]) (M3 X) := fun H k lf e X hX => by
    rw [hX]
    exact frz_tup (by simp; exact ⟨frz_agg (by simp; exact ⟨frz_bare rfl, frz_bare rfl, frz_sl⟩), frz_bare rfl, frz_bare rfl⟩)
  by_cases k0 : r.kind = 0
  · rw [if_pos k0, leafM, k0] at hX
    simp [k0]
    exact leaf _ _ _ _ _ hX
  rw [if_neg k0] at hX
  by_cases hst : d < 1 ∨ (r.kind = 9 ∧ 0 < r.count ∧ d < 2)
  · have hd : (decide ((d : Int) < 1) || ((decide (r.kind = 9) && decide (0 < r.count)) && decide ((d : Int) < 2))) = true := by simp; omega
    rw [if_pos hst, stopM] at hX
    by_cases d0 : (d : Int) < 1
    · simp [k0, d0]
      exact leaf _ _ _ _ _ hX
    · have h9 : r.kind = 9 := by omega
      have hcn : 0 < r.count := by omega
      have d2 : (d : Int) < 2 := by omega
      simp [k0, d0, h9, hcn, d2]
      rw [h9] at hX
      exact leaf _ _ _ _ _ hX
  rw [if_neg hst] at hX
  have d0 : ¬ (d : Int) < 1 := by omega
  have fin : ∀ (H : Hp), H [0] = ⟨1, .cells (raL r)⟩ → H [1] = ⟨1, .cells zT⟩ → H [2] = ⟨1, .cells [iv r.kind, uws (wordsR l r), .sl true []]⟩ → H [5] = ⟨0, .none⟩ → WPC (cx Try.prog w0 I0 149) k2_centoref10_Meaning (RetC Try.prog [.cell 8 53, .tmp 9, .tmp 10] (M3 X)) ⟨lk [(0, sgs l), (2, iv d), (3, iv left), (5, .pob [0] 1 0), (8, .pob [1] 1 0), (11, .pob [2] 1 0), (12, iv (costM r))], H⟩ := fun H hA hR hO hN => by
    rw [k2_centoref10_Meaning.eq_1]
    by_cases hlc : left < costM r
    · rw [if_pos hlc, stopM] at hX
      simp [hlc, hA, hR, hO, updF_app]
      exact leaf _ _ _ _ _ hX
    · rw [if_neg hlc, restM] at hX
      have ew : IntKind.i64.wrap (left - costM r) = left - costM r := i64_same (by omega) (by omega)
      simp [hlc, hA, hR, hO, updF_app, ew]
      have hX' : X = (.mk r.kind (wordsR l r) (loopM (stepM l (recM l r rec1 rec2) r) (nk r).toNat 0 [] (left - costM r)).1, (loopM (stepM l (recM l r rec1 rec2) r) (nk r).toNat 0 [] (left - costM r)).2.1, (loopM (stepM l (recM l r rec1 rec2) r) (nk r).toNat 0 [] (left - costM r)).2.2) := hX
      have hleaf := fun hb => leaf_kids (rec1 := rec1) (rec2 := rec2) (l := l) (r := r) hb (nk r).toNat 0 [] (left - costM r) (by simp)
      generalize hY : loopM (stepM l (recM l r rec1 rec2) r) (nk r).toNat 0 [] (left - costM r) = Y at hX' hleaf
      obtain ⟨ks, lf, e⟩ := Y
      have done : ∀ (H : Hp) (u : Nat), H [5] = ⟨u, .arr 3 (ks.map (rawT (leafB r)))⟩ → Frz H (.tup [.agg [iv r.kind, uws (wordsR l r), .osl [5] u 3 0 ks.length], iv lf, iv e]) (M3 X) := fun H u hH => by
        rw [hX']
        exact frz_tup (by simp; exact ⟨frz_agg (by simp; exact ⟨frz_bare rfl, frz_bare rfl, frz_raw (by simp [hH]) rfl hleaf⟩), frz_bare rfl, frz_bare rfl⟩)
      refine LoopC.le (le_blankC (d := [2]) 2 [5] 3 hO rfl (by simp)) ?_
      refine meaning_l1 (W := wordsR l r) hs hr hd (fun k => h1 k (by omega)) (fun k k' => h2 k k' (by omega)) (nk r).toNat 0 1 [] (left - costM r) _ (by omega) rfl (by omega) (by omega) (by simp [updF_app, hA]) (by simp [updF_app, hR]) (by simp [updF_app, hN]) (by simp [updF_app, hN]) hY (fun he i' q u' H' hR hO hK => ?_) (fun he u' H' hR hK => ?_)
      · simp [hR, hO, hK, updF_app]
        rw [← he]
        exact done _ u' (by simp [updF_app, hK])
      · simp [hR, hK, updF_app]
        exact done _ u' hK
  have b0 : decide (r.kind = 0) = false := by simpa using k0
  have hst' : ((decide (r.kind = 9) && decide (0 < r.count)) && decide ((d : Int) < 2)) = false := by
    simp only [Bool.and_eq_false_iff, decide_eq_false_iff_not]
    omega
  simp [b0, d0, hst']
  refine sc_call (raKids_spec r) (by simp) ?_
  have ek : IntKind.i64.wrap (1 + nk r) = 1 + nk r := i64_same (by omega) (by omega)
  by_cases k1 : r.kind = 1
  · have b1 : decide (r.kind = 1) = true := by simpa using k1
    have b9 : decide (r.kind = 9) = false := by simp [k1]
    have ec : IntKind.i64.wrap (IntKind.i64.wrap (1 + r.data) + r.kids) = costM r := by
      cases hr with
      | str s a d k a1 a2 a3 a4 h =>
        rw [i64_same (n := 1 + _) (by simp; omega) (by simp; omega), i64_same (by simp; omega) (by simp; omega)]
        simp [costM]
      | dat c s a n a1 a2 a3 a4 h => simp at k1; omega
      | _ => simp [Rf.zero] at k1
    simp [b1]
    rw [k3_centoref10_Meaning.eq_1]
    simp [b9, ec]
    exact fin _ (by simp) (by simp) (by simp) (by simp)
  · have b1 : decide (r.kind = 1) = false := by simpa using k1
    by_cases k9 : r.kind = 9
    · have b9 : decide (r.kind = 9) = true := by simpa using k9
      have ec : IntKind.i64.wrap (1 + IntKind.i64.wrap (r.count * IntKind.i64.wrap (IntKind.i64.wrap (1 + r.data) + r.kids))) = costM r := by
        have e : costM r = 1 + r.count * (1 + r.data + r.kids) := by simp [costM, k9]
        have hd : 0 ≤ r.data ∧ r.data < 65536 ∧ 0 ≤ r.kids ∧ r.kids < 65536 := by
          cases hr with
          | comp s a d k n a1 a2 a3 a4 a5 a6 h => exact ⟨a1, a2, a3, a4⟩
          | dat c s a n a1 a2 a3 a4 h => simp at k9; omega
          | _ => simp [Rf.zero] at k9
        rw [i64_same (n := 1 + r.data) (by omega) (by omega), i64_same (n := 1 + r.data + r.kids) (by omega) (by omega), i64_same (n := r.count * _) (by omega) (by omega), i64_same (by omega) (by omega), e]
      simp [b1, ek]
      rw [k3_centoref10_Meaning.eq_1]
      simp [b9, ec]
      exact fin _ (by simp) (by simp) (by simp) (by simp)
    · have b9 : decide (r.kind = 9) = false := by simpa using k9
      have ec : 1 + nk r = costM r := by simp [costM, k1, k9]
      have ek' : IntKind.i64.wrap (1 + nk r) = costM r := by rw [ek, ec]
      simp [b1, ek']
      rw [k3_centoref10_Meaning.eq_1]
      simp [b9]
      refine fin _ ?_ ?_ ?_ ?_ <;> simp
theorem meaning_spec {l : List (List Int)} (hs : Sg l) {B : Int} (hB : B ≤ 1000000) : ∀ d : Nat, d ≤ 1000 → RecS l 74 d B (meaning l d)
  | 0, hd, r, hr, left, h0, hl => by
    refine meaning_step hs hr hd hB (rec1 := leafM l) (rec2 := leafM l) (fun _ h => absurd h (by omega)) (fun _ _ h => absurd h (by omega)) h0 hl ?_
    rw [meaning]
    simp
  | 1, hd, r, hr, left, h0, hl => by
    refine meaning_step hs hr hd hB (rec1 := meaning l 0) (rec2 := fun r left => stopM l r left) (fun _ _ => ⟨0, rfl, meaning_spec hs hB 0 (by omega), meaning_lb hs.w 0⟩) (fun _ _ h => absurd h (by omega)) h0 hl ?_
    rw [meaning]
    simp
  | d + 2, hd, r, hr, left, h0, hl => by
    refine meaning_step hs hr hd hB (rec1 := meaning l (d + 1)) (rec2 := meaning l d) (fun _ _ => ⟨d + 1, rfl, meaning_spec hs hB (d + 1) (by omega), meaning_lb hs.w (d + 1)⟩) (fun _ _ _ => ⟨d, rfl, rkids_spec hs (meaning_spec hs hB d (by omega)) (meaning_lb hs.w d), kidsM_lb hs.w (meaning_lb hs.w d)⟩) h0 hl ?_
    have n1 : ¬ (d + 2 < 1 ∨ r.kind = 9 ∧ 0 < r.count ∧ d + 2 < 2) := by omega
    rw [meaning, if_neg n1]
end Go.Proofs.Ytehcobkphobjiaa

/-
  Chapter 10's reference: what a message means; chapter 15's law.
-/
namespace Go.Proofs.Ytehcobkphobjiaa
set_option linter.unusedVariables false
set_option linter.unusedSimpArgs false
open Go Go.G Go.Proofs Go.PL
def clampZ (x m : Int) : Int := if x < 0 then 0 else if m < x then m else x
theorem within10_spec (x m : Int) : G.Spec Try.prog 114 [iv x, iv m] (iv (clampZ x m)) := by
  refine spec_of t_centoref10_within (by simp) fun w0 I0 => ?_
  unfold c_centoref10_within
  by_cases h : x < 0
  · simp [h]
    exact frz_is rfl (by simp [clampZ, h])
  · by_cases h2 : m < x
    · simp [h, h2]
      exact frz_is rfl (by simp [clampZ, h, h2])
    · simp [h, h2]
      exact frz_is rfl (by simp [clampZ, h, h2])
abbrev liX (a b c d : Int) : A := .agg [iv a, iv b, iv c, iv d]
set_option maxRecDepth 100000 in
theorem limits_spec (a b c d : Int) : G.Spec Try.prog 72 [liX a b c d] (liX (clampZ a 64) (clampZ b 65536) (clampZ c 4096) (clampZ d 131072)) := by
  refine spec_of t_centoref10_Limits (by simp) fun w0 I0 => ?_
  unfold c_centoref10_Limits
  simp
  refine sc_call (within10_spec a 64) rfl ?_
  simp
  refine sc_call (within10_spec b 65536) rfl ?_
  simp
  refine sc_call (within10_spec c 4096) rfl ?_
  simp
  refine sc_call (within10_spec d 131072) rfl ?_
  simp
  exact frz_bare rfl
/-- What a message means; an error. -/
def unfP (l : List (List Int)) (a b : Int) : T × Int × Int :=
  if (atP l 0 0).2 ≠ 0 then (T0, 0, (atP l 0 0).2)
  else if (meaning l (clampZ a 64).toNat (atP l 0 0).1 (clampZ b 65536)).2.2 ≠ 0 then (T0, 0, (meaning l (clampZ a 64).toNat (atP l 0 0).1 (clampZ b 65536)).2.2)
  else ((meaning l (clampZ a 64).toNat (atP l 0 0).1 (clampZ b 65536)).1, clampZ b 65536 - (meaning l (clampZ a 64).toNat (atP l 0 0).1 (clampZ b 65536)).2.1, 0)
theorem clamp_in (x m : Int) (h : 0 ≤ m) : 0 ≤ clampZ x m ∧ clampZ x m ≤ m := by
  unfold clampZ; split
  · omega
  · split <;> omega
theorem unfold_spec {l : List (List Int)} (hs : Sg l) (a b c d : Int) : G.Spec Try.prog 31 [sgs l, liX a b c d] (M3 (unfP l a b)) := by
  have ha := clamp_in a 64 (by decide)
  have hb := clamp_in b 65536 (by decide)
  refine spec_of t_centoref10_Unfold (by simp) fun w0 I0 => ?_
  unfold c_centoref10_Unfold
  simp
  refine sc_call (limits_spec a b c d) rfl ?_
  simp
  refine sc_call (raAt_spec hs 0 0) rfl ?_
  simp
  unfold unfP
  have hok := at_ok hs.w 0 0
  generalize hx : atP l 0 0 = x at hok
  obtain ⟨r, e⟩ := x
  simp only
  by_cases he : e = 0
  · rw [if_neg (by simp [he])]
    obtain ⟨D, hD⟩ : ∃ D : Nat, clampZ a 64 = (D : Int) := ⟨(clampZ a 64).toNat, by omega⟩
    have hm := meaning_spec hs (B := 65536) (by omega) D (by omega) r hok (clampZ b 65536) hb.1 hb.2
    have hlb := meaning_lb hs.w (B := 65536) D r hok (clampZ b 65536) hb.1 hb.2
    simp [he, hD]
    refine sc_call hm (by simp) ?_
    generalize meaning l D r (clampZ b 65536) = y at hlb
    obtain ⟨t, lf, e2⟩ := y
    simp only at hlb ⊢
    by_cases he2 : e2 = 0
    · have ew : IntKind.i64.wrap (clampZ b 65536 - lf) = clampZ b 65536 - lf := i64_same (by omega) (by omega)
      simp [he2, ew]
      exact frz_bare (tup_bare (by simp))
    · simp [he2]
      exact frz_tup (by simp; exact ⟨frz_T0, frz_bare rfl, frz_bare rfl⟩)
  · rw [if_pos he]
    simp [he]
    exact frz_tup (by simp; exact ⟨frz_T0, frz_bare rfl, frz_bare rfl⟩)
theorem unfold_means {l : List (List Int)} (hs : Sg l) {a b : Int} (h : (unfP l a b).2.2 = 0) : Means l (atP l 0 0).1 (unfP l a b).1 := by
  unfold unfP at h ⊢
  split at h
  · rename_i h0; exact absurd h h0
  · rename_i h0
    rw [if_neg h0]
    split at h
    · rename_i h1; exact absurd h h1
    · rename_i h1
      rw [if_neg h1]
      exact meaning_means hs.w _ _ _ (at_ok hs.w 0 0) (by omega)
/-! ### the law -/
end Go.Proofs.Ytehcobkphobjiaa

/-
  Chapter 15: the law EqualGoes.
-/
namespace Go.Proofs.Ytehcobkphobjiaa
set_option linter.unusedVariables false
set_option linter.unusedSimpArgs false
open Go Go.G Go.Proofs Go.PL
abbrev s1 : List (List Int) := [[4294967296, 7]]
abbrev s2 : List (List Int) := [[8589934592, 7, 0]]
abbrev s3 : List (List Int) := [[4294967296, 8]]
end Go.Proofs.Ytehcobkphobjiaa

/-
  Chapter 15: the hash.
-/
namespace Go.Proofs.Ytehcobkphobjiaa
set_option linter.unusedVariables false
set_option linter.unusedSimpArgs false
open Go Go.G Go.Proofs Go.PL
def mixG (h x : Int) : Int := IntKind.u64.wrap (bits .xor .u64 h x * 1099511628211)
def mixH (h x : Int) : Int := bits .xor .u64 (mixG h x) (mixG h x / 2 ^ min 29 IntKind.u64.bits)
mutual
def hashN : T → Int
  | .mk k w l => hashL (w.foldl mixH (mixH (mixH 14695981039346656037 (IntKind.u64.wrap k)) (IntKind.u64.wrap w.length))) l
def hashL : Int → List T → Int
  | h, [] => h
  | h, t :: l => hashL (mixH h (hashN t)) l
end
/-- The mixer's objects. -/
def mxF (u : Nat) (h : Int) : Nm → VOb
  | [] => ⟨u, .cells [uv h]⟩
  | _ => ⟨0, .none⟩
@[simp] theorem mxF_nil {u : Nat} {h : Int} : mxF u h [] = ⟨u, .cells [uv h]⟩ := rfl
theorem mxAdd_spec (u : Nat) (h x : Int) : SpecH Try.prog 167 1 [.pob [0] u 0, uv x] (ov 0 (mxF u h) (lkH [])) (.tup []) (ov 0 (mxF u (mixH h x)) (lkH [])) := by
  refine specH_of t_equal_mixer_add (by simp) fun w0 I0 M0 m0 => ?_
  unfold c_equal_mixer_add
  simp [updF_app]
  refine reth_normal rfl rfl (fun i p hi => ?_)
  have hi0 : i = 0 := by omega
  subst hi0
  simp only [ov_cons, if_true]
  refine updF_is rfl (fun h1 => ?_)
  cases p with
  | nil => exact absurd rfl h1
  | cons a p => rfl
theorem sc_mix {P : Program} {K : Sta → Prop} {rest : List CO} {s : Nat → A} {H : Hp} {dd : Option Nat} {nm : Nm} {ix : Nat} {un : List Nat} {l : Bool} {lg : Lg} {g : FuncId} {fo : Operand} {aa : Array Operand} {ts : Array TypeId}
    {r u : Nat} {h x : Int} (ho : evs s fo = .fnc g [.pob [r] u 0] []) (hS : SpecH P g 1 [.pob [0] u 0, uv x] (ov 0 (mxF u h) (lkH [])) (.tup []) (ov 0 (mxF u (mixH h x)) (lkH []))) (hF : ∀ p, H (r :: p) = mxF u h p)
    (ha : aa.toList.map (evs s) = [uv x]) (hck : Ck un lg ⟨[], [([r], true)]⟩)
    (h : SeqC P K rest (addL l ix ⟨[], [([r], true)]⟩ lg) (Sta.put ⟨s, H⟩ dd (.tup []) (ov r (mxF u (mixH h x)) H))) :
    SeqC P K (⟨dd, .call { callee := .value fo, args := aa, argTypes := ts }, none, nm, ix, un, l⟩ :: rest) lg ⟨s, H⟩ := by
  have hd : ∀ p, dlt [r] 1 H (0 :: p) = 0 := fun p => rfl
  refine sc_callHv (L := [.pob [r] u 0, uv x]) ho (by rw [ha]; rfl) [r] 1 hS (by simp) (by simp) ?_ ?_ ?_ ?_ (by simp [A.refs, A.refsL]) ?_ (fun i p h1 h2 => by simp at h2; omega) rfl ?_ hck h
  · simp [A.renL, A.ren, dnN]
  · simp [A.refs, A.refsL, inS]
  · funext o
    cases o with
    | nil => rfl
    | cons i p =>
      by_cases hi : i < 1
      · have : i = 0 := by omega
        subst this
        simp only [inHp, if_pos hi, ov_cons, if_true]
        show (H (r :: p)).ren _ _ 0 = _
        rw [hF]
        cases p <;> rfl
      · simp only [inHp, if_neg hi, ov_cons]
        rw [if_neg (by omega)]
        rfl
  · intro j p hj
    have hjr : j = r := by
      have := (idx_mem (rs := [r])).1 (by simpa using hj)
      simpa using this
    rw [hjr, hF]
    cases p with
    | nil => simp [mxF, Ob.refs, A.refsL, A.refs]
    | cons a p => trivial
  · intro i p hi
    have : i = 0 := by simp at hi; omega
    subst this
    simp only [ov_cons, if_true]
    cases p with
    | nil => simp [mxF, Ob.refs, A.refsL, A.refs]
    | cons a p => trivial
  · funext o
    cases o with
    | nil => rfl
    | cons j p =>
      by_cases hj : j = r
      · subst hj
        simp only [outG, ov_cons, if_true]
        rw [if_pos (by simp)]
        have : [j].idxOf j = 0 := by simp
        rw [this, if_pos rfl, hd]
        cases p <;> rfl
      · have : ¬ [r].contains j = true := by simpa using hj
        simp only [outG, if_neg this, ov_cons, if_neg hj]
end Go.Proofs.Ytehcobkphobjiaa

/-
  Chapter 15: the hash, walked.
-/
namespace Go.Proofs.Ytehcobkphobjiaa
set_option linter.unusedVariables false
set_option linter.unusedSimpArgs false
open Go Go.G Go.Proofs Go.PL
abbrev mxV : A := .fnc 167 [.pob [1] 1 0] []
abbrev HashS (l : List (List Int)) (t : T) : Prop := ∀ r, Means l r t → G.Spec Try.prog 121 [paX l r] (.tup [uv (hashN (norm t)), iv 0])
section
variable {n0 : Nat} {w0 : World} {I0 : Nat → Prop} {Q : Exit → Sta → Prop}
theorem hash_l1 {l : List (List Int)} (hl : Sg l) {r : Rf} {t : T} (ht : Means l r t) : ∀ (m i : Nat) (h : Int) (H : Hp), i + m = nW t → H [0] = ⟨1, .cells (paL l r)⟩ → (∀ p, H (1 :: p) = mxF 1 h p) →
    (∀ i' q H', H' [0] = ⟨1, .cells (paL l r)⟩ → (∀ p, H' (1 :: p) = mxF 1 (((t.words.take (nW t)).drop i).foldl mixH h) p) → Q (.exit 0) ⟨lk [(1, .pob [0] 1 0), (4, .pob [1] 1 0), (5, mxV), (6, iv (nK t)), (36, iv (nW t)), (37, iv i'), (38, bv q)], H'⟩) →
    LoopC (cx Try.prog w0 I0 n0) l1_equal_Hash Q ⟨lk [(1, .pob [0] 1 0), (4, .pob [1] 1 0), (5, mxV), (6, iv (nK t)), (36, iv (nW t)), (37, iv i)], H⟩ := by
  have h1 := means_len ht
  have w1 := nW_le t
  intro m
  induction m with
  | zero =>
    intro i h H hi hA hM hq
    have : i = nW t := by omega
    subst this
    refine loopC_once mixed l1_equal_Hash.eq_1 ?_
    simp
    exact hq _ _ H hA (fun p => by rw [hM, List.drop_of_length_le (by simp; omega)]; rfl)
  | succ m ihm =>
    intro i h H hi hA hM hq
    have hlt : i < nW t := by omega
    have lt1 : i < t.words.length := by omega
    have ei : IntKind.i64.wrap ((i : Int) + 1) = ((i + 1 : Nat) : Int) := i64_same (by omega) (by omega)
    have hw := (means_word ht).2 i lt1
    refine loopC_once mixed l1_equal_Hash.eq_1 ?_
    simp [hlt, hA]
    refine sc_call (word_spec' hl (means_ok ht) i) (by simp) ?_
    rw [hw]
    simp
    refine sc_mix (x := t.words[i]) rfl (mxAdd_spec 1 h _) hM (by simp) (by simp) ?_
    simp [ei]
    refine ihm (i + 1) (mixH h t.words[i]) _ (by omega) (by simp [hA]) (fun p => by simp) fun i' q H' a0 a1 => hq i' q H' a0 fun p => ?_
    rw [a1]
    have : (t.words.take (nW t)).drop i = t.words[i] :: (t.words.take (nW t)).drop (i + 1) := by
      rw [List.drop_eq_getElem_cons (by simp; omega)]
      simp
    rw [this]
    rfl
theorem hash_l2 {l : List (List Int)} (hl : Sg l) {r : Rf} {t : T} (ht : Means l r t) (ih : ∀ c, c ∈ t.kids → HashS l c) : ∀ (m i : Nat) (h : Int) (H : Hp), i + m = nK t → H [0] = ⟨1, .cells (paL l r)⟩ → (∀ p, H (1 :: p) = mxF 1 h p) →
    (∀ i' q H', (∀ p, H' (1 :: p) = mxF 1 (hashL h (((t.kids.take (nK t)).map norm).drop i)) p) → Q (.exit 2) ⟨lk [(1, .pob [0] 1 0), (4, .pob [1] 1 0), (5, mxV), (46, iv (nK t)), (47, iv i'), (48, bv q)], H'⟩) →
    LoopC (cx Try.prog w0 I0 n0) l2_equal_Hash Q ⟨lk [(1, .pob [0] 1 0), (4, .pob [1] 1 0), (5, mxV), (46, iv (nK t)), (47, iv i)], H⟩ := by
  have h1 := means_len ht
  have w1 := nK_le t
  intro m
  induction m with
  | zero =>
    intro i h H hi hA hM hq
    have : i = nK t := by omega
    subst this
    refine loopC_once mixed l2_equal_Hash.eq_1 ?_
    simp
    exact hq _ _ H (fun p => by rw [hM, List.drop_of_length_le (by simp; omega), hashL])
  | succ m ihm =>
    intro i h H hi hA hM hq
    have hlt : i < nK t := by omega
    have lt1 : i < t.kids.length := by omega
    have ei : IntKind.i64.wrap ((i : Int) + 1) = ((i + 1 : Nat) : Int) := i64_same (by omega) (by omega)
    obtain ⟨a1, a2⟩ := means_kid ht lt1
    have ihc := ih _ (List.getElem_mem lt1) _ a2
    refine loopC_once mixed l2_equal_Hash.eq_1 ?_
    simp [hlt, hA]
    refine sc_call (kid_spec hl (means_ok ht) i) (by simp) ?_
    simp [a1, updF_app, hA]
    refine sc_call ihc (by simp) ?_
    simp
    refine sc_mix (x := hashN (norm t.kids[i])) rfl (mxAdd_spec 1 h _) (fun p => by simp [updF_app, hM]) (by simp) (by simp) ?_
    simp [ei]
    refine ihm (i + 1) (mixH h (hashN (norm t.kids[i]))) _ (by omega) (by simp [updF_app, hA]) (fun p => by simp) fun i' q H' a3 => hq i' q H' fun p => ?_
    rw [a3]
    have : ((t.kids.take (nK t)).map norm).drop i = norm t.kids[i] :: ((t.kids.take (nK t)).map norm).drop (i + 1) := by
      rw [List.drop_eq_getElem_cons (by simp; omega)]
      simp
    rw [this, hashL]
end
theorem hash_spec {l : List (List Int)} (hl : Sg l) : ∀ t, HashS l t := by
  refine T.ind fun k w ks ih r ht => ?_
  have hln := means_len ht
  have w1 := nW_le (.mk k w ks)
  have k1 := means_kind ht
  refine spec_of t_equal_Hash (by simp) fun w0 I0 => ?_
  unfold c_equal_Hash
  simp
  refine sc_call (refKind_spec l r) (by simp) ?_
  simp
  refine sc_mix (x := IntKind.u64.wrap r.kind) rfl (mxAdd_spec 1 14695981039346656037 _) (fun p => by cases p <;> simp [mxF]) (by simp) (by simp) ?_
  simp
  refine sc_call (ekids_spec hl ht) (by simp) ?_
  simp
  refine sc_call (ewords_spec hl ht) (by simp) ?_
  simp
  refine sc_mix (x := IntKind.u64.wrap (nW (.mk k w ks))) rfl (mxAdd_spec 1 _ _) (fun p => by simp; rfl) (by simp) (by simp) ?_
  simp
  refine sc_call (ewords_spec hl ht) (by simp) ?_
  simp
  refine hash_l1 hl ht (nW (.mk k w ks)) 0 _ _ (by omega) (by simp) (fun p => by simp; rfl) fun i' q H' hA hM => ?_
  simp
  refine hash_l2 hl ht ih (nK (.mk k w ks)) 0 _ H' (by omega) hA hM fun i' q H2 hM2 => ?_
  have h0 := hM2 []
  simp at h0
  simp [h0]
  refine frz_is rfl ?_
  have hb := means_bare ht
  have hw := norm_words hb
  have hk := norm_kids hb
  have key : hashN (norm (.mk k w ks)) = hashL (((T.mk k w ks).words.take (nW (.mk k w ks))).foldl mixH (mixH (mixH 14695981039346656037 (IntKind.u64.wrap k)) (IntKind.u64.wrap (nW (.mk k w ks))))) (((T.mk k w ks).kids.take (nK (.mk k w ks))).map norm) := by
    rw [T.eta (norm (.mk k w ks)), hashN, norm_kind, hw, hk]
    have : ((T.mk k w ks).words.take (nW (.mk k w ks))).length = nW (.mk k w ks) := by simp at w1 ⊢; omega
    rw [this, T.kind_mk]
  rw [key, k1, T.kind_mk]
  simp [List.map_take]
end Go.Proofs.Ytehcobkphobjiaa

/-
  The document's trees.
-/
namespace Go.Proofs.Ytehcobkphobjiaa
set_option linter.unusedVariables false
set_option linter.unusedSimpArgs false
open Go Go.G Go.Proofs Go.PL
mutual
theorem shallow_range : ∀ (t : T) (d : Nat) (n : Int), -1 ≤ shallow d n t ∧ (-1 ≤ n → shallow d n t ≤ n)
  | .mk k w l, d, n => by
    rw [shallow_mk]
    split
    · omega
    · have := shallowL_range l (d - 1) (n - 1 - w.length) (by omega)
      omega
theorem shallowL_range : ∀ (l : List T) (d : Nat) (n : Int), -1 ≤ n → -1 ≤ shallowL d n l ∧ shallowL d n l ≤ n
  | [], d, n, h => by simp; omega
  | t :: l, d, n, h => by
    rw [shallowL_cons]
    split
    · omega
    · have h1 := shallow_range t d n
      have h2 := shallowL_range l d (shallow d n t) h1.1
      omega
end
theorem shallowL_neg (l : List T) (d : Nat) {n : Int} (h : n < 0) : shallowL d n l = n := by
  cases l with
  | nil => simp
  | cons t l => simp [h]
section
variable {n0 : Nat} {w0 : World} {I0 : Nat → Prop} {Q : Exit → Sta → Prop}
theorem shallow_l1 {t : T} {d : Nat} (hd : 1 ≤ d) (hd1 : d ≤ 1000) (hl : t.kids.length * 56 ≤ 140737488355328) (ih : ∀ c, c ∈ t.kids → ∀ (d : Nat) (n : Int), d ≤ 1000 → 0 ≤ n → n ≤ 1000000 → G.Spec Try.prog 68 [tX c, iv d, iv n] (iv (shallow d n c)))
    {H : Hp} (hH : H [0] = ⟨1, .cells [iv t.kind, uws t.words, tKs t.kids]⟩) : ∀ (m i : Nat) (n : Int), i + m = t.kids.length → -1 ≤ n → n ≤ 1000000 →
    (∀ i' q, Q (.exit 0) ⟨lk [(1, iv d), (2, iv (shallowL (d - 1) n (t.kids.drop i))), (3, .pob [0] 1 0), (7, iv i'), (28, bv q)], H⟩) →
    LoopC (cx Try.prog w0 I0 n0) l1_centoref07_Shallow Q ⟨lk [(1, iv d), (2, iv n), (3, .pob [0] 1 0), (7, iv i)], H⟩ := by
  intro m
  induction m with
  | zero =>
    intro i n hi h1 h2 hq
    have : i = t.kids.length := by omega
    subst this
    refine loopC_once mixed l1_centoref07_Shallow.eq_1 ?_
    simp [hH]
    simpa using hq _ false
  | succ m ihm =>
    intro i n hi h1 h2 hq
    have hlt : i < t.kids.length := by omega
    refine loopC_once mixed l1_centoref07_Shallow.eq_1 ?_
    have e : t.kids.drop i = t.kids[i] :: t.kids.drop (i + 1) := List.drop_eq_getElem_cons hlt
    by_cases hn : n < 0
    · simp [hH, hlt, show ¬ (0 : Int) ≤ n by omega]
      have := hq i false
      rwa [shallowL_neg _ _ hn] at this
    · have hn' : 0 ≤ n := by omega
      simp [hH, hlt, hn']
      have ed : IntKind.i64.wrap ((d : Int) - 1) = ((d - 1 : Nat) : Int) := by rw [i64_same (by omega) (by omega)]; omega
      rw [ed]
      refine sc_call (ih _ (List.getElem_mem hlt) (d - 1) n (by omega) hn' h2) rfl ?_
      simp
      have hr := shallow_range t.kids[i] (d - 1) n
      rw [i64_same (by omega) (by omega)]
      refine ihm (i + 1) _ (by omega) hr.1 (by omega) fun i' q => ?_
      have := hq i' q
      rw [e, shallowL_cons, if_neg (by omega)] at this
      exact this
end
theorem shallow_spec : ∀ (t : T), wfT t → ∀ (d : Nat) (n : Int), d ≤ 1000 → 0 ≤ n → n ≤ 1000000 → G.Spec Try.prog 68 [tX t, iv d, iv n] (iv (shallow d n t)) := by
  refine T.ind fun k w l ih hw d n hd hn hn1 => ?_
  have hw' := wfT_iff.1 hw
  have hwl := hw'.wl
  have hkl := hw'.kl
  simp at hwl hkl
  have ihc : ∀ c, c ∈ (T.mk k w l).kids → ∀ (d : Nat) (n : Int), d ≤ 1000 → 0 ≤ n → n ≤ 1000000 → G.Spec Try.prog 68 [tX c, iv d, iv n] (iv (shallow d n c)) := fun c hc => ih c hc (hw'.ks c hc)
  refine spec_of t_centoref07_Shallow (by simp) fun w0 I0 => ?_
  unfold c_centoref07_Shallow
  have e1 : IntKind.i64.wrap (IntKind.i64.wrap (n - 1) - (w.length : Int)) = n - 1 - w.length := by rw [i64_same (n := n - 1) (by omega) (by omega), i64_same (by omega) (by omega)]
  rw [shallow_mk]
  by_cases hc : d = 0 ∨ n - 1 - (w.length : Int) < 0
  · have hd : (decide (d = 0) || decide (n - 1 - (w.length : Int) < 0)) = true := by simp; omega
    simp [e1, hd, hc]
    exact frz_bare rfl
  · have hd : (decide (d = 0) || decide (n - 1 - (w.length : Int) < 0)) = false := by simp; omega
    simp [e1, hd, hc]
    refine shallow_l1 (t := .mk k w l) (by omega) (by omega) hkl ihc (by simp) l.length 0 _ (by simp) (by omega) (by omega) fun i' q => ?_
    simp
    exact frz_bare rfl
def fewT (t : T) : Bool := decide (0 ≤ shallow 80 3000 t)
theorem few_spec {t : T} (h : wfT t) : G.Spec Try.prog 28 [tX t] (bv (fewT t)) := by
  refine spec_of t_centoref07_Few (by simp) fun w0 I0 => ?_
  unfold c_centoref07_Few
  simp
  refine sc_call (shallow_spec t h 80 3000 (by omega) (by omega) (by omega)) rfl ?_
  simp
  exact frz_bare rfl
end Go.Proofs.Ytehcobkphobjiaa

/-
  The document's trees: what they have at the most, whether they are the same, the Norm.
-/
namespace Go.Proofs.Ytehcobkphobjiaa
set_option linter.unusedVariables false
set_option linter.unusedSimpArgs false
open Go Go.G Go.Proofs Go.PL
abbrev tL (t : T) : List A := [iv t.kind, uws t.words, tKs t.kids]
section
variable {n0 : Nat} {w0 : World} {I0 : Nat → Prop} {Q : Exit → Sta → Prop}
theorem frame_l1 {t : T} (hl : t.kids.length * 56 ≤ 140737488355328) {H : Hp} (hH : H [0] = ⟨1, .cells (tL t)⟩) : ∀ (m i a b : Nat), i + m = t.kids.length →
    (∀ i' q (x y : Nat), x = max a (frameW (t.kids.drop i)) → y = max b (frameK (t.kids.drop i)) → Q (.exit 0) ⟨lk [(1, .pob [0] 1 0), (4, iv x), (5, iv y), (6, iv i'), (11, bv q)], H⟩) →
    LoopC (cx Try.prog w0 I0 n0) l1_centoref07_Frame Q ⟨lk [(1, .pob [0] 1 0), (4, iv a), (5, iv b), (6, iv i)], H⟩ := by
  intro m
  induction m with
  | zero =>
    intro i a b hi hq
    have : i = t.kids.length := by omega
    subst this
    refine loopC_once mixed l1_centoref07_Frame.eq_1 ?_
    simp [hH]
    exact hq _ false _ _ (by simp [frameW]) (by simp [frameK])
  | succ m ih =>
    intro i a b hi hq
    have hlt : i < t.kids.length := by omega
    have e : t.kids.drop i = t.kids[i] :: t.kids.drop (i + 1) := List.drop_eq_getElem_cons hlt
    have ei : IntKind.i64.wrap ((i : Int) + 1) = ((i + 1 : Nat) : Int) := i64_same (by omega) (by omega)
    refine loopC_once mixed l1_centoref07_Frame.eq_1 ?_
    simp [hH, hlt]
    refine ⟨fun h1 => ?_, fun h1 => ?_⟩
    all_goals
      rw [k1_centoref07_Frame.eq_1]
      simp [hH, hlt, ei]
      refine ⟨fun h2 => ?_, fun h2 => ?_⟩
    · exact ih (i + 1) _ _ (by omega) fun i' q x y hx hy => hq i' q x y (by rw [hx, e, frameW]; omega) (by rw [hy, e, frameK]; omega)
    · exact ih (i + 1) _ _ (by omega) fun i' q x y hx hy => hq i' q x y (by rw [hx, e, frameW]; omega) (by rw [hy, e, frameK]; omega)
    · exact ih (i + 1) _ _ (by omega) fun i' q x y hx hy => hq i' q x y (by rw [hx, e, frameW]; omega) (by rw [hy, e, frameK]; omega)
    · exact ih (i + 1) _ _ (by omega) fun i' q x y hx hy => hq i' q x y (by rw [hx, e, frameW]; omega) (by rw [hy, e, frameK]; omega)
end
theorem rFrame_spec (t : T) (hl : t.kids.length * 56 ≤ 140737488355328) : G.Spec Try.prog 111 [tX t] (.tup [iv (frameW t.kids), iv (frameK t.kids)]) := by
  refine spec_of t_centoref07_Frame (by simp) fun w0 I0 => ?_
  unfold c_centoref07_Frame
  simp
  refine frame_l1 (t := t) hl (by simp) t.kids.length 0 0 0 (by omega) fun i' q x y hx hy => ?_
  simp
  refine frz_is rfl ?_
  simp [hx, hy]
/-! ### the same -/
section
variable {n0 : Nat} {w0 : World} {I0 : Nat → Prop} {Q : Exit → Sta → Prop}
theorem same_l1 {a b : T} (hl : a.kids.length * 56 ≤ 140737488355328) (hn : a.kids.length = b.kids.length) (ih : ∀ c, c ∈ a.kids → ∀ u, G.Spec Try.prog 53 [tX c, tX u] (bv (sameB c u)))
    {H : Hp} (hA : H [0] = ⟨1, .cells (tL a)⟩) (hB : H [1] = ⟨1, .cells (tL b)⟩) : ∀ (m i : Nat), i + m = a.kids.length → a.kids.take i = b.kids.take i → (a.kids = b.kids → ∀ i' q, Q (.exit 0) ⟨lk [(2, .pob [0] 1 0), (3, .pob [1] 1 0), (5, iv i'), (32, bv q)], H⟩) → (a.kids ≠ b.kids → Q .ret ⟨lk [(4, bv false)], H⟩) →
    LoopC (cx Try.prog w0 I0 n0) l1_centoref07_Same Q ⟨lk [(2, .pob [0] 1 0), (3, .pob [1] 1 0), (5, iv i)], H⟩ := by
  intro m
  induction m with
  | zero =>
    intro i hi ht h1 h2
    have : i = a.kids.length := by omega
    subst this
    refine loopC_once mixed l1_centoref07_Same.eq_1 ?_
    simp [hA, hB]
    refine h1 ?_ _ _
    rw [List.take_of_length_le (Nat.le_refl _), List.take_of_length_le (by omega)] at ht
    exact ht
  | succ m ihm =>
    intro i hi ht h1 h2
    have hlt : i < a.kids.length := by omega
    have hlt' : i < b.kids.length := by omega
    refine loopC_once mixed l1_centoref07_Same.eq_1 ?_
    simp [hA, hB, hlt, hlt']
    refine sc_call (ih _ (List.getElem_mem hlt) b.kids[i]) rfl ?_
    simp
    cases hs : sameB a.kids[i] b.kids[i] with
    | false =>
      simp
      refine h2 fun e => ?_
      have : a.kids[i] = b.kids[i] := by simp [e]
      rw [← sameB_iff, hs] at this
      cases this
    | true =>
      simp
      rw [i64_same (by omega) (by omega)]
      refine ihm (i + 1) (by omega) ?_ h1 h2
      rw [List.take_succ_eq_append_getElem hlt, List.take_succ_eq_append_getElem hlt', ht, sameB_iff.1 hs]
end
set_option maxRecDepth 8000 in
theorem rTSame_spec : ∀ (a : T), wfT a → ∀ b : T, G.Spec Try.prog 53 [tX a, tX b] (bv (sameB a b)) := by
  refine T.ind fun k w l ih hw b => ?_
  have hw' := wfT_iff.1 hw
  have hwl := hw'.wl
  have hkl := hw'.kl
  simp at hwl hkl
  refine spec_of t_centoref07_Same (by simp) fun w0 I0 => ?_
  unfold c_centoref07_Same
  have no : (k ≠ b.kind ∨ w ≠ b.words ∨ l ≠ b.kids) → sameB (.mk k w l) b = false := fun h => by
    rw [Bool.eq_false_iff]
    intro e
    have := sameB_iff.1 e
    subst this
    simp at h
  by_cases h1 : k = b.kind
  · by_cases h2 : w = b.words
    · by_cases h3 : l.length = b.kids.length
      · simp [h1]
        refine sc_call_gf rfl (fun _ => rSame_spec w b.words hwl) (fun _ => rfl) rfl ?_
        simp [h2, h3]
        refine same_l1 (a := .mk k w l) (b := b) hkl h3 (fun c hc u => ih c hc (hw'.ks c hc) u) (by simp [h1, h2]) (by simp) l.length 0 (by simp) rfl (fun e i' q => ?_) (fun e => ?_)
        · simp
          have : sameB (.mk k w l) b = true := sameB_iff.2 (T.ext' h1 h2 e)
          rw [← h1, ← h2, this]
          exact frz_bare rfl
        · simp
          rw [← h1, ← h2, no (.inr (.inr e))]
          exact frz_bare rfl
      · simp [h1]
        refine sc_call_gf rfl (fun _ => rSame_spec w b.words hwl) (fun _ => rfl) rfl ?_
        simp [h2, h3]
        refine ⟨fun h => absurd (by omega) h3, fun _ => ?_⟩
        rw [← h1, ← h2, no (.inr (.inr fun e => h3 (by rw [e])))]
        exact frz_bare rfl
    · simp [h1]
      refine sc_call_gf rfl (fun _ => rSame_spec w b.words hwl) (fun _ => rfl) rfl ?_
      simp [h2]
      rw [← h1, no (.inr (.inl h2))]
      exact frz_bare rfl
  · simp [h1]
    refine sc_call_off rfl ?_
    simp
    rw [no (.inl h1)]
    exact frz_bare rfl
/-! ### the Norm -/
section
variable {n0 : Nat} {w0 : World} {I0 : Nat → Prop} {Q : Exit → Sta → Prop}
theorem norm_l1 {t : T} (hl : t.kids.length * 56 ≤ 140737488355328) (ih : ∀ c, c ∈ t.kids → G.Spec Try.prog 47 [tX c] (tX (norm c))) {v : VOb} : ∀ (m i : Nat) (u : Nat) (H : Hp), i + m = t.kids.length → H [0] = ⟨1, .cells (tL t)⟩ → H [1] = v → H [3] = ⟨u, .arr 3 (((t.kids.take i).map norm).map tA)⟩ →
    (∀ i' q (u' : Nat) (H' : Hp), H' [0] = ⟨1, .cells (tL t)⟩ → H' [1] = v → H' [3] = ⟨u', .arr 3 ((t.kids.map norm).map tA)⟩ → Q (.exit 0) ⟨lk [(1, .pob [0] 1 0), (2, .pob [1] 1 0), (3, .osl [3] u' 3 0 t.kids.length), (4, iv (trimK t.kids).length), (5, iv i'), (16, bv q)], H'⟩) →
    LoopC (cx Try.prog w0 I0 n0) l1_centoref07_Norm Q ⟨lk [(1, .pob [0] 1 0), (2, .pob [1] 1 0), (3, .osl [3] u 3 0 i), (4, iv (trimK (t.kids.take i)).length), (5, iv i)], H⟩ := by
  intro m
  induction m with
  | zero =>
    intro i u H hi hA hR hB hq
    have : i = t.kids.length := by omega
    subst this
    refine loopC_once mixed l1_centoref07_Norm.eq_1 ?_
    simp [hA]
    have := hq t.kids.length false u H hA hR (by rw [hB]; simp)
    simpa using this
  | succ m ihm =>
    intro i u H hi hA hR hB hq
    have hlt : i < t.kids.length := by omega
    refine loopC_once mixed l1_centoref07_Norm.eq_1 ?_
    simp [hA, hlt]
    refine sc_call (ih _ (List.getElem_mem hlt)) rfl ?_
    simp [updF_app, hB]
    have ei : IntKind.i64.wrap ((i : Int) + 1) = ((i + 1 : Nat) : Int) := i64_same (by omega) (by omega)
    have hrow := row_succ (f := tA ∘ norm) hlt (x := A.agg [iv t.kids[i].kind, uws (norm t.kids[i]).words, tKs (norm t.kids[i]).kids]) (by simp)
    rw [hrow]
    refine ⟨⟨by omega, by omega⟩, fun h => ?_, fun h => ?_⟩
    · rw [ei, ← trimK_zero hlt h]
      exact ihm (i + 1) (u + 1) _ (by omega) (by simp [updF_app, hA]) (by simp [updF_app, hR]) (by simp [updF_app]) hq
    · have ek : (trimK (t.kids.take (i + 1))).length = i + 1 := by rw [trimK_stop hlt h]; simp; omega
      rw [ei]
      have := fun H h1 h2 h3 => ihm (i + 1) (u + 1) H (by omega) h1 h2 h3 hq
      rw [ek] at this
      exact this _ (by simp [updF_app, hA]) (by simp [updF_app, hR]) (by simp [updF_app])
end
theorem rNorm_spec : ∀ (t : T), wfT t → G.Spec Try.prog 47 [tX t] (tX (norm t)) := by
  refine T.ind fun k w l ih hw => ?_
  have hw' := wfT_iff.1 hw
  have hwl := hw'.wl
  have hkl := hw'.kl
  simp at hwl hkl
  refine spec_of t_centoref07_Norm (by simp) fun w0 I0 => ?_
  unfold c_centoref07_Norm
  rw [norm_mk]
  by_cases h0 : k = 0
  · simp [h0]
    exact frz_T0
  · simp [h0]
    refine LoopC.le (le_blank 3 [3] 3 (by simp)) ?_
    simp
    refine LoopC.le (le_list [(1, .pob [0] 1 0), (2, .pob [1] 1 0), (3, .osl [3] 1 3 0 0), (4, iv 0), (5, iv 0)] (by simp [upd])) ?_
    refine norm_l1 (t := .mk k w l) (by simpa using hkl) (fun c hc => ih c hc (hw'.ks c hc)) l.length 0 1 _ (by simp) (by simp) rfl (by simp) fun i' q u' H' hA hR hB => ?_
    have hle := trimK_le l
    by_cases h1 : k = 1
    · subst h1
      simp at hA hR hB
      simp [hA, hR, hB, hle, updF_app]
      refine sc_call (rTrim_spec w hwl) rfl ?_
      simp [hA, hR, hB, hle, updF_app]
      refine frz_agg ?_
      simp
      rw [trimK_map]
      refine ⟨frz_bare rfl, frz_bare rfl, ?_⟩
      have := frz_rowT (H := updF H' [1] ⟨1, .cells [A.v (Value.int IntKind.i64 1), A.sl false (List.map uv (trimW w)), A.osl [3] u' 3 0 (trimK l).length]⟩) (o := [3]) (u := u') (sz := 3) (l := l) (f := tA ∘ norm) (by simp [updF_app, hB]) hle (by simp)
      rw [← List.map_take]
      show Frz _ _ (A.sl false (((l.take (trimK l).length).map norm).map tA))
      rw [List.map_map]
      exact this
    · simp at hA hR hB
      simp [hA, hR, hB, h1, updF_app]
      refine ⟨hwl, frz_agg ?_⟩
      simp
      refine ⟨frz_bare rfl, frz_row (by simp [updF_app]) rfl (by simp), ?_⟩
      have := frz_row (H := updF (updF H' [4] { u := (H' [4]).u + 1, ob := Ob.arr 1 (List.map uv w) }) [1] ⟨1, .cells [A.v (Value.int IntKind.i64 k), A.osl [4] ((H' [4]).u + 1) 1 0 w.length, A.osl [3] u' 3 0 l.length]⟩) (o := [3]) (u := u') (sz := 3) (l := l) (f := tA ∘ norm) (by simp [updF_app, hB]) rfl (by simp)
      show Frz _ _ (A.sl false ((l.map norm).map tA))
      rw [List.map_map]
      exact this
end Go.Proofs.Ytehcobkphobjiaa

/-
  The document's trees: how many words they take; which ones are right.
-/
namespace Go.Proofs.Ytehcobkphobjiaa
set_option linter.unusedVariables false
set_option linter.unusedSimpArgs false
open Go Go.G Go.Proofs Go.PL
theorem wf_norm : ∀ (t : T), wfT t → wfT (norm t) := by
  refine T.ind fun k w l ih hw => ?_
  have hw' := wfT_iff.1 hw
  rw [norm_mk]
  have h2 : ∀ (l : List T), (∀ t, t ∈ l → ∃ u, u ∈ l ∧ t = u) → True := fun _ _ => trivial
  have hm : ∀ t, t ∈ l.map norm → wfT t := fun t ht => by
    obtain ⟨u, hu, rfl⟩ := List.mem_map.1 ht
    exact ih u hu (hw'.ks u hu)
  split
  · exact wfT_iff.2 ⟨by simp [i64R], by simp, by simp, by simp, by simp⟩
  · split
    · refine wfT_iff.2 ⟨by simp [i64R], fun x hx => ?_, ?_, ?_, fun t ht => ?_⟩
      · simp only [T.words_mk] at hx
        rw [trimW_take] at hx
        exact hw'.w x (List.mem_of_mem_take hx)
      · have := trimW_le w
        have := hw'.wl
        simp at this ⊢
        omega
      · have := trimK_le (l.map norm)
        have := hw'.kl
        simp at this ⊢
        simp at *
        omega
      · simp only [T.kids_mk] at ht
        rw [trimK_take] at ht
        exact hm t (List.mem_of_mem_take ht)
    · exact wfT_iff.2 ⟨hw'.k, hw'.w, hw'.wl, by simpa using hw'.kl, by simpa using hm⟩
section
variable {n0 : Nat} {w0 : World} {I0 : Nat → Prop} {Q : Exit → Sta → Prop}
end
/-! ### right -/
theorem fits_word {c : T} (h : wfT c) (hl : c.words.length = 1) : ∃ x, c.words = [x] ∧ u64R x := by
  have := (wfT_iff.1 h).w
  match hc : c.words, hl with
  | [x], _ => exact ⟨x, rfl, this x (by simp [hc])⟩
theorem right_kind10 {d : Nat} {c : T} (h : rightT d c = true) (h10 : c.kind = 10) : c.words.length = 1 := by
  obtain ⟨k, w, l⟩ := c
  simp at h10
  subst h10
  rw [rightT_mk] at h
  simp at h
  exact h.1
section
variable {n0 : Nat} {w0 : World} {I0 : Nat → Prop} {Q : Exit → Sta → Prop}
theorem right_l1 {t : T} (hl : t.kids.length * 56 ≤ 140737488355328) (hk0 : 0 ≤ t.kind) (hk1 : t.kind ≤ 10) {d : Nat} (hd : 1 ≤ d) (hd1 : d ≤ 1000) (hw : ∀ c, c ∈ t.kids → wfT c) (ih : ∀ c, c ∈ t.kids → ∀ d : Nat, d ≤ 1000 → G.Spec Try.prog 69 [tX c, iv d] (bv (rightT d c))) : ∀ (m i : Nat) (H : Hp), i + m = t.kids.length → H [0] = ⟨1, .cells (tL t)⟩ →
    (rightL (d - 1) t.kind (t.kids.drop i) = true → ∀ i' q H', Q (.exit 0) ⟨lk [(1, iv d), (2, .pob [0] 1 0), (5, iv i'), (82, bv q)], H'⟩) → (rightL (d - 1) t.kind (t.kids.drop i) = false → ∀ H', Q .ret ⟨lk [(4, bv false)], H'⟩) →
    LoopC (cx Try.prog w0 I0 n0) l1_centoref07_Right Q ⟨lk [(1, iv d), (2, .pob [0] 1 0), (5, iv i)], H⟩ := by
  intro m
  induction m with
  | zero =>
    intro i H hi hA h1 h2
    have : i = t.kids.length := by omega
    subst this
    refine loopC_once mixed l1_centoref07_Right.eq_1 ?_
    simp [hA]
    exact h1 (by simp) _ _ _
  | succ m ihm =>
    intro i H hi hA h1 h2
    have hlt : i < t.kids.length := by omega
    have e : t.kids.drop i = t.kids[i] :: t.kids.drop (i + 1) := List.drop_eq_getElem_cons hlt
    have ei : IntKind.i64.wrap ((i : Int) + 1) = ((i + 1 : Nat) : Int) := i64_same (by omega) (by omega)
    have ed : IntKind.i64.wrap ((d : Int) - 1) = ((d - 1 : Nat) : Int) := by rw [i64_same (by omega) (by omega)]; omega
    rw [e, rightL_cons] at h1 h2
    have hwc := hw _ (List.getElem_mem hlt)
    have ihc := ih _ (List.getElem_mem hlt) (d - 1) (by omega)
    generalize hc : t.kids[i] = c at *
    refine loopC_once mixed l1_centoref07_Right.eq_1 ?_
    simp [hA, hlt, hc, updF_app, ed]
    refine sc_call ihc rfl ?_
    cases hr : rightT (d - 1) c with
    | false =>
      simp
      exact h2 (by simp [hr]) _
    | true =>
      rw [hr] at h1 h2
      have good : kidOk t.kind c = true → ∀ H', H' [0] = ⟨1, .cells (tL t)⟩ → LoopC (cx Try.prog w0 I0 n0) l1_centoref07_Right Q ⟨lk [(1, iv d), (2, .pob [0] 1 0), (5, iv ((i : Int) + 1))], H'⟩ := fun hg H' hA' =>
        ihm (i + 1) H' (by omega) hA' (fun hh => h1 (by simp [hg, hh])) (fun hh => h2 (by simp [hh]))
      have bad : kidOk t.kind c = false → ∀ H', Q .ret ⟨lk [(4, bv false)], H'⟩ := fun hg => h2 (by simp [hg])
      rw [show ((i + 1 : Nat) : Int) = (i : Int) + 1 from rfl] at ei
      by_cases hD : 2 ≤ t.kind ∧ t.kind ≤ 7
      · obtain ⟨d2, d7⟩ := hD
        have d9 : ¬ t.kind = 9 := by omega
        by_cases h10 : c.kind = 10
        · obtain ⟨x, hx, hx64⟩ := fits_word hwc (right_kind10 hr h10)
          have hk : kidOk t.kind c = fitsZ (t.kind - 2) x := by simp [kidOk, isData, d2, d7, d9, h10, hx]
          have e2 : IntKind.i64.wrap (t.kind - 2) = t.kind - 2 := i64_same (by omega) (by omega)
          simp [updF_app, hA, d2, d7, d9, h10, hx, e2]
          refine sc_call_gt rfl (fun _ => rFits_spec hx64) (fun _ => rfl) rfl ?_
          cases hf : fitsZ (t.kind - 2) x with
          | false => simp; exact bad (by rw [hk, hf]) _
          | true => simp [ei]; exact good (by rw [hk, hf]) _ (by simp [updF_app, hA])
        · have hk : kidOk t.kind c = false := by simp [kidOk, isData, d2, d7, d9, h10]
          simp [updF_app, hA, d2, d7, d9, h10]
          refine sc_call_off rfl ?_
          simp
          exact bad hk _
      · have hD' : (decide (2 ≤ t.kind) && decide (t.kind ≤ 7)) = false := by simp; omega
        by_cases h10 : c.kind = 10
        · have hk : kidOk t.kind c = false := by simp [kidOk, isData, hD', h10]
          simp [updF_app, hA, hD', h10]
          refine sc_call_off rfl ?_
          simp
          exact bad hk _
        · by_cases h9 : t.kind = 9
          · by_cases h1' : c.kind = 1
            · have hk : kidOk t.kind c = true := by simp [kidOk, isData, hD', h9, h1']
              rw [h9] at hD'
              simp [updF_app, hA, hD', h10, h9, h1']
              refine sc_call_off rfl ?_
              simp [ei]
              exact good hk _ (by simp [updF_app, hA])
            · have hk : kidOk t.kind c = false := by simp [kidOk, isData, hD', h9, h1', h10]
              rw [h9] at hD'
              simp [updF_app, hA, hD', h10, h9, h1']
              refine sc_call_off rfl ?_
              simp
              exact bad hk _
          · have hk : kidOk t.kind c = true := by simp [kidOk, isData, hD', h9, h10]
            simp [updF_app, hA, hD', h10, h9]
            refine sc_call_off rfl ?_
            simp [ei]
            exact good hk _ (by simp [updF_app, hA])
end
theorem rRight_spec : ∀ (t : T), wfT t → ∀ d : Nat, d ≤ 1000 → G.Spec Try.prog 69 [tX t, iv d] (bv (rightT d t)) := by
  refine T.ind fun k w l ih hw d hd => ?_
  have hw' := wfT_iff.1 hw
  have hwl := hw'.wl
  have hkl := hw'.kl
  simp at hwl hkl
  refine spec_of t_centoref07_Right (by simp) fun w0 I0 => ?_
  unfold c_centoref07_Right
  rw [rightT_mk]
  by_cases h0 : k = 0
  · simp [h0]
    exact frz_bool (by cases w <;> cases l <;> simp <;> (rw [← List.length_eq_zero_iff]; omega))
  by_cases h10 : k = 10
  · simp [h10]
    exact frz_bool (by cases w <;> cases l <;> simp <;> (rw [← List.length_eq_zero_iff]; omega))
  rw [if_neg h0, if_neg h10]
  have bad : tooBig k d w.length l.length = true → ∀ H, Frz H (bv false) (bv (if tooBig k d w.length l.length = true then false else rightL (d - 1) k l)) := fun hb H => frz_bool (by simp [hb])
  by_cases ha : k < 0 ∨ 10 < k ∨ d = 0 ∨ 65536 ≤ w.length
  · have ha' : (decide (k < 0) || decide (10 < k) || decide (d = 0) || decide (65536 ≤ (w.length : Int))) = true := by simp; omega
    simp [h0, h10, ha']
    have := bad (by simp [tooBig]; omega) (lkH [([0], { u := 1, ob := Ob.cells [iv k, uws w, tKs l] })])
    simpa using this
  have ha' : (decide (k < 0) || decide (10 < k) || decide (d = 0) || decide (65536 ≤ (w.length : Int))) = false := by simp; omega
  by_cases h1 : k = 1 ∧ 65536 ≤ l.length
  · have hl : (65536 : Int) ≤ l.length := by omega
    simp [h0, h10, ha', h1.1, hl]
    have := bad (by simp [tooBig]; omega) (lkH [([0], { u := 1, ob := Ob.cells [iv k, uws w, tKs l] })])
    simpa [h1.1] using this
  by_cases h2 : 1048576 ≤ l.length
  · have hl : (1048576 : Int) ≤ l.length := by omega
    have hk1 : ¬ k = 1 := by omega
    simp [h0, h10, ha', hk1, hl]
    have := bad (by simp [tooBig]; omega) (lkH [([0], { u := 1, ob := Ob.cells [iv k, uws w, tKs l] })])
    simpa using this
  have hl2 : ¬ (1048576 : Int) ≤ l.length := by omega
  by_cases h3 : 1 < k ∧ 0 < w.length
  · have hk1 : ¬ k = 1 := by omega
    have hw0 : w ≠ [] := fun e => by simp [e] at h3
    simp [h0, h10, ha', hk1, hl2, h3.1, h3.2, hw0]
    have := bad (by simp [tooBig]; omega) (lkH [([0], { u := 1, ob := Ob.cells [iv k, uws w, tKs l] })])
    simpa using this
  have hb : tooBig k d w.length l.length = false := by
    rw [Bool.eq_false_iff]
    unfold tooBig
    simp only [Bool.or_eq_true, Bool.and_eq_true, decide_eq_true_eq, ne_eq]
    omega
  have hw0 : (1 < k → w = []) := fun h => List.eq_nil_of_length_eq_zero (by omega)
  have fin : LoopC (cx Try.prog w0 I0 132) l1_centoref07_Right (InBlock 0 (ThenC (WPC (cx Try.prog w0 I0 132) (.keep [] (.seq (.reg [co (some 4) (.assign (.const (.bool true))) none] [4]) .ret)) (RetC Try.prog [.tmp 4] (bv (rightL (d - 1) k l)))) (RetC Try.prog [.tmp 4] (bv (rightL (d - 1) k l))))) ⟨lk [(1, iv d), (2, .pob [0] 1 0), (5, iv 0)], lkH [([0], ⟨1, .cells [iv k, uws w, tKs l]⟩)]⟩ := by
    refine right_l1 (t := .mk k w l) (by simpa using hkl) (by simp; omega) (by simp; omega) (by omega) hd (fun c hc => hw'.ks c hc) (fun c hc => ih c hc (hw'.ks c hc)) l.length 0 _ (by simp) (by simp) (fun hr i' q H' => ?_) (fun hr H' => ?_)
    · simp
      exact frz_bool (by simpa using hr.symm)
    · simp
      exact frz_bool (by simpa using hr.symm)
  rw [if_neg (by simp [hb])]
  by_cases k1 : k = 1
  · have hl3 : ¬ (65536 : Int) ≤ l.length := by omega
    have ha1 : (decide (d = 0) || decide (65536 ≤ (w.length : Int))) = false := by simp; omega
    simp [ha1, k1, hl2, hl3]
    simpa [k1] using fin
  · simp [h0, h10, ha', k1, hl2]
    refine ⟨fun a b => absurd ⟨a, by omega⟩ h3, fun _ => ?_⟩
    exact fin
end Go.Proofs.Ytehcobkphobjiaa

/-
  Chapter 15: the law EqualValues.
-/
namespace Go.Proofs.Ytehcobkphobjiaa
set_option linter.unusedVariables false
set_option linter.unusedSimpArgs false
open Go Go.G Go.Proofs Go.PL
/-- What values mean are trees that memory can hold. -/
theorem means_wf {l : List (List Int)} (hs : Sg l) : ∀ (t : T) (r : Rf), Means l r t → wfT t := by
  refine T.ind fun k w ks ih r ht => ?_
  have hln := means_len ht
  have hk := means_kind ht
  have hok := means_ok ht
  simp at hln hk
  refine wfT_iff.2 ⟨?_, ?_, ?_, ?_, ?_⟩
  · simp only [T.kind_mk]
    rw [← hk]
    unfold i64R
    cases hok <;> simp [Rf.zero] <;> omega
  · intro x hx
    obtain ⟨i, hi, rfl⟩ := List.mem_iff_getElem.1 hx
    have := (means_word ht).2 i hi
    rw [← this]
    unfold u64R wordAt
    split
    · omega
    · split
      · cases hok with
        | atom n a1 a2 => exact ⟨a1, a2⟩
        | dat c s a n a1 a2 a3 a4 h => simp
        | _ => simp [Rf.zero]
      · cases e : word l r.s (r.at_ + i) with
        | none => simp
        | some x => exact word_in hs.w e
  · simp; omega
  · simp; omega
  · intro c hc
    obtain ⟨i, hi, rfl⟩ := List.mem_iff_getElem.1 hc
    exact ih _ (List.getElem_mem hi) _ (means_kid ht hi).2
end Go.Proofs.Ytehcobkphobjiaa

/-
  Chapter 16, plain: places that are hashed by hand.
-/
namespace Go.PL
set_option linter.unusedVariables false
set_option linter.unusedSimpArgs false
/-- Where one comes to from a place on: the first place that is free, or where it is to stop. -/
def fndP (stop : Nat → Bool) (pl : List Nat) : Nat → Nat → Nat
  | 0, a => a
  | f + 1, a => if pl.getD a 0 = 0 then a else if stop (pl.getD a 0) = true then a else fndP stop pl f ((a + 1) % pl.length)
theorem mod_succ (a d m : Nat) : ((a + 1) % m + d) % m = (a + (d + 1)) % m := by
  rw [Nat.mod_add_mod]
  congr 1
  omega
theorem fndP_spec {stop : Nat → Bool} {pl : List Nat} : ∀ (f a d : Nat), a < pl.length → d < f → pl.getD ((a + d) % pl.length) 0 = 0 →
    fndP stop pl f a < pl.length ∧ (pl.getD (fndP stop pl f a) 0 = 0 ∨ stop (pl.getD (fndP stop pl f a) 0) = true) ∧
      ∃ k, fndP stop pl f a = (a + k) % pl.length ∧ ∀ e, e < k → pl.getD ((a + e) % pl.length) 0 ≠ 0 ∧ stop (pl.getD ((a + e) % pl.length) 0) = false := by
  intro f
  induction f with
  | zero => intro a d _ h; omega
  | succ f ih =>
    intro a d ha hd hz
    unfold fndP
    have hself : ∃ k, a = (a + k) % pl.length ∧ ∀ e, e < k → pl.getD ((a + e) % pl.length) 0 ≠ 0 ∧ stop (pl.getD ((a + e) % pl.length) 0) = false := ⟨0, by rw [Nat.add_zero, Nat.mod_eq_of_lt ha], fun e he => by omega⟩
    split
    · rename_i h0
      exact ⟨ha, .inl h0, hself⟩
    · rename_i h0
      split
      · rename_i h1
        exact ⟨ha, .inr h1, hself⟩
      · rename_i h1
        cases d with
        | zero => rw [Nat.add_zero, Nat.mod_eq_of_lt ha] at hz; exact absurd hz h0
        | succ d =>
          obtain ⟨p1, p2, k, p3, p4⟩ := ih ((a + 1) % pl.length) d (Nat.mod_lt _ (by omega)) (by omega) (by rw [mod_succ]; exact hz)
          refine ⟨p1, p2, k + 1, by rw [p3, mod_succ], fun e he => ?_⟩
          cases e with
          | zero => rw [Nat.add_zero, Nat.mod_eq_of_lt ha]; exact ⟨h0, by simpa using h1⟩
          | succ e =>
            have := p4 e (by omega)
            rwa [mod_succ] at this
/-- Places of so many classes, by their numbers. -/
structure Pl (hs : List Nat) (pl : List Nat) : Prop where
  cnt : pl.countP (fun v => v != 0) = hs.length
  vals : ∀ v, v ∈ pl → v ≤ hs.length
  reach : ∀ (c : Nat) (hc : c < hs.length), ∃ d, pl[(hs[c] + d) % pl.length]? = some (c + 1) ∧ ∀ e, e < d → pl.getD ((hs[c] + e) % pl.length) 0 ≠ 0
theorem Pl.free {hs pl : List Nat} (h : Pl hs pl) (hl : hs.length < pl.length) (a : Nat) : ∃ d, d < pl.length ∧ pl.getD ((a + d) % pl.length) 0 = 0 := by
  have hm : ∃ v, v ∈ pl ∧ v = 0 := by
    apply Classical.byContradiction
    intro hn
    have : pl.countP (fun v => v != 0) = pl.length := List.countP_eq_length.2 fun v hv => by
      simp only [bne_iff_ne, ne_eq]
      exact fun e => hn ⟨v, hv, e⟩
    have := h.cnt
    omega
  obtain ⟨v, hv, rfl⟩ := hm
  obtain ⟨i, hi, e⟩ := List.mem_iff_getElem.1 hv
  refine ⟨(i + (pl.length - a % pl.length)) % pl.length, Nat.mod_lt _ (by omega), ?_⟩
  have : (a + (i + (pl.length - a % pl.length)) % pl.length) % pl.length = i := by
    rw [Nat.add_mod_mod]
    have h1 := Nat.mod_lt a (show 0 < pl.length by omega)
    have h2 := Nat.div_add_mod a pl.length
    have h3 : a + (i + (pl.length - a % pl.length)) = i + pl.length * (a / pl.length + 1) := by
      rw [Nat.mul_add, Nat.mul_one]
      omega
    rw [h3, Nat.add_mul_mod_self_left, Nat.mod_eq_of_lt hi]
  rw [this]
  simp [hi, e]
theorem countP_set {pl : List Nat} {a v : Nat} (ha : a < pl.length) (h0 : pl.getD a 0 = 0) (hv : v ≠ 0) : (pl.set a v).countP (fun v => v != 0) = pl.countP (fun v => v != 0) + 1 := by
  induction pl generalizing a with
  | nil => simp at ha
  | cons x l ih =>
    cases a with
    | zero =>
      simp at h0
      subst h0
      simp [hv]
    | succ a =>
      simp only [List.set_cons_succ, List.countP_cons]
      rw [ih (by simpa using ha) (by simpa using h0)]
      omega
theorem Pl.ins {hs pl : List Nat} (h : Pl hs pl) {x a k : Nat} (ha : a < pl.length) (h0 : pl.getD a 0 = 0) (he : a = (x + k) % pl.length) (hk : ∀ e, e < k → pl.getD ((x + e) % pl.length) 0 ≠ 0) : Pl (hs ++ [x]) (pl.set a (hs.length + 1)) := by
  have hmod : ∀ y, y % pl.length < pl.length := fun y => Nat.mod_lt _ (by omega)
  have nz : ∀ y, pl.getD (y % pl.length) 0 ≠ 0 → (pl.set a (hs.length + 1)).getD (y % pl.length) 0 ≠ 0 := fun y hy => by
    have hne : a ≠ y % pl.length := fun e => hy (by rw [← e]; exact h0)
    simpa [List.getD_eq_getElem?_getD, List.getElem?_set_ne hne] using hy
  refine ⟨?_, fun v hv => ?_, fun c hc => ?_⟩
  · rw [countP_set ha h0 (by omega), h.cnt]; simp
  · rw [List.length_append, List.length_singleton]
    rcases List.mem_or_eq_of_mem_set hv with hv | rfl
    · have := h.vals v hv; omega
    · omega
  · simp only [List.length_set]
    by_cases hcl : c < hs.length
    · obtain ⟨d, h1, h2⟩ := h.reach c hcl
      rw [List.getElem_append_left hcl]
      refine ⟨d, ?_, fun e he => nz _ (h2 e he)⟩
      have hne : a ≠ (hs[c] + d) % pl.length := fun e => by
        rw [← e] at h1
        rw [List.getD_eq_getElem?_getD, h1] at h0
        simp at h0
      rw [List.getElem?_set_ne hne, h1]
    · have : c = hs.length := by simp at hc; omega
      subst this
      rw [List.getElem_append_right (Nat.le_refl _)]
      simp only [Nat.sub_self, List.getElem_cons_zero]
      refine ⟨k, ?_, fun e he => nz _ (hk e he)⟩
      rw [← he, List.getElem?_set_self ha]
/-- Places anew, of more. -/
def insP (pl : List Nat) (x v : Nat) : List Nat := pl.set (fndP (fun _ => false) pl pl.length (x % pl.length)) v
def growP : List Nat → Nat → List Nat → List Nat
  | pl, _, [] => pl
  | pl, i, x :: hs => growP (insP pl x (i + 1)) (i + 1) hs
@[simp] theorem insP_length {pl : List Nat} {x v : Nat} : (insP pl x v).length = pl.length := by simp [insP]
theorem growP_length : ∀ {hs pl : List Nat} {i : Nat}, (growP pl i hs).length = pl.length
  | [], _, _ => rfl
  | x :: hs, pl, i => by rw [growP, growP_length, insP_length]
theorem Pl.nil (m : Nat) : Pl [] (List.replicate m 0) := by
  refine ⟨?_, fun v hv => ?_, fun c hc => ?_⟩
  · simp [List.countP_replicate]
  · simp at hv; omega
  · simp at hc
theorem fndP_mod {stop : Nat → Bool} {pl : List Nat} {x : Nat} {hs : List Nat} (h : Pl hs pl) (hl : hs.length < pl.length) :
    fndP stop pl pl.length (x % pl.length) < pl.length ∧ (pl.getD (fndP stop pl pl.length (x % pl.length)) 0 = 0 ∨ stop (pl.getD (fndP stop pl pl.length (x % pl.length)) 0) = true) ∧
      ∃ k, fndP stop pl pl.length (x % pl.length) = (x + k) % pl.length ∧ ∀ e, e < k → pl.getD ((x + e) % pl.length) 0 ≠ 0 ∧ stop (pl.getD ((x + e) % pl.length) 0) = false := by
  obtain ⟨d, h1, h2⟩ := h.free hl (x % pl.length)
  have := fndP_spec (stop := stop) pl.length (x % pl.length) d (Nat.mod_lt _ (by omega)) h1 h2
  simpa using this
theorem Pl.insP {hs pl : List Nat} (h : Pl hs pl) (hl : hs.length < pl.length) (x : Nat) : Pl (hs ++ [x]) (insP pl x (hs.length + 1)) := by
  obtain ⟨h1, h2, k, h3, h4⟩ := fndP_mod (stop := fun _ => false) (x := x) h hl
  refine h.ins h1 (h2.resolve_right (by simp)) h3 fun e he => (h4 e he).1
theorem Pl.grow : ∀ {hs2 hs pl : List Nat}, Pl hs pl → hs.length + hs2.length ≤ pl.length → Pl (hs ++ hs2) (growP pl hs.length hs2)
  | [], hs, pl, h, _ => by simpa [growP] using h
  | x :: hs2, hs, pl, h, hl => by
    simp only [List.length_cons] at hl
    have h1 := h.insP (by omega) x
    have := Pl.grow (hs2 := hs2) h1 (by simp; omega)
    rw [List.append_assoc] at this
    simpa [growP] using this
/-- The class of a Norm. -/
noncomputable def clsI (ks : List T) (n : T) : Nat := ks.findIdx (fun k => sameB k n)
noncomputable def clsK (ks : List T) (n : T) : List T := if clsI ks n < ks.length then ks else ks ++ [n]
theorem clsI_at {ks : List T} {n : T} {i : Nat} (h : i < ks.length) (e : ks[i] = n) (hd : ks.Nodup) : clsI ks n = i := by
  have h1 : clsI ks n ≤ i := by
    apply Classical.byContradiction
    intro hn
    have := List.not_of_lt_findIdx (p := fun k => sameB k n) (xs := ks) (i := i) (by unfold clsI at hn; omega)
    simp [sameB_iff.2 e] at this
  have h2 : clsI ks n < ks.length := by omega
  have h3 : ks[clsI ks n] = n := sameB_iff.1 (List.findIdx_getElem (p := fun k => sameB k n) (w := h2))
  apply Classical.byContradiction
  intro hn
  have h4 : clsI ks n < i := by omega
  have := List.pairwise_iff_getElem.1 hd _ _ h2 h h4
  exact this (by rw [h3, e])
theorem clsI_none {ks : List T} {n : T} (h : n ∉ ks) : clsI ks n = ks.length := by
  unfold clsI
  rw [List.findIdx_eq_length]
  intro x hx
  rw [Bool.eq_false_iff]
  intro e
  rw [sameB_iff] at e
  subst e
  exact h hx
theorem clsI_le (ks : List T) (n : T) : clsI ks n ≤ ks.length := List.findIdx_le_length
theorem clsI_lt {ks : List T} {n : T} : clsI ks n < ks.length ↔ n ∈ ks := by
  constructor
  · intro h
    have h3 : ks[clsI ks n] = n := sameB_iff.1 (List.findIdx_getElem (p := fun k => sameB k n) (w := h))
    rw [← h3]
    exact List.getElem_mem _
  · intro h
    have := clsI_le ks n
    apply Classical.byContradiction
    intro hn
    have e : clsI ks n = ks.length := by omega
    have := (List.findIdx_eq_length (p := fun k => sameB k n) (xs := ks)).1 e n h
    rw [Bool.eq_false_iff] at this
    exact this (sameB_iff.2 rfl)
/-- Of trees, one behind the other. -/
noncomputable def clsL : List T → List T → List T × List Nat
  | ks, [] => (ks, [])
  | ks, t :: l => ((clsL (clsK ks (norm t)) l).1, clsI ks (norm t) :: (clsL (clsK ks (norm t)) l).2)
end Go.PL

/-
  Chapter 16: tables of classes.
-/
namespace Go.Proofs.Ytehcobkphobjiaa
set_option linter.unusedVariables false
set_option linter.unusedSimpArgs false
open Go Go.G Go.Proofs Go.PL
/-- A class: its number of what it means; where its value lies, and what it means. -/
structure Cl where
  l : List (List Int)
  r : Rf
  t : T
noncomputable def Cl.h (c : Cl) : Int := hashN (norm c.t)
noncomputable def Cl.hn (c : Cl) : Nat := c.h.toNat
abbrev clL (h : Int) (l : List (List Int)) (r : Rf) : List A := uv h :: paL l r
noncomputable def Cl.a (c : Cl) : A := .agg (clL c.h c.l c.r)
abbrev nv (n : Nat) : A := iv (n : Int)
/-- A table: versions, classes, places. -/
structure Tb where
  u : Nat
  uc : Nat
  up : Nat
  cl : List Cl
  pl : List Nat
noncomputable def tbF (r : Nat) (S : Tb) : Nm → VOb
  | [] => ⟨S.u, .cells [.osl [r, 0] S.uc 9 0 S.cl.length, .osl [r, 1] S.up 1 0 S.pl.length]⟩
  | [0] => ⟨S.uc, .arr 9 (S.cl.map Cl.a)⟩
  | [1] => ⟨S.up, .arr 1 (S.pl.map nv)⟩
  | _ => ⟨0, .none⟩
@[simp] theorem tbF_nil {r : Nat} {S : Tb} : tbF r S [] = ⟨S.u, .cells [.osl [r, 0] S.uc 9 0 S.cl.length, .osl [r, 1] S.up 1 0 S.pl.length]⟩ := rfl
@[simp] theorem tbF_0 {r : Nat} {S : Tb} : tbF r S [0] = ⟨S.uc, .arr 9 (S.cl.map Cl.a)⟩ := rfl
@[simp] theorem tbF_1 {r : Nat} {S : Tb} : tbF r S [1] = ⟨S.up, .arr 1 (S.pl.map nv)⟩ := rfl
theorem renL_nv {g : Nm → Nm} {δ : Nm → Nat} (l : List Nat) : A.renL g δ (l.map nv) = l.map nv := by
  rw [renL_map, List.map_map]
  rfl
theorem cl_ren {g : Nm → Nm} {δ : Nm → Nat} (c : Cl) : c.a.ren g δ = c.a := by
  have : (arO c.l c.r).ren g δ = arO c.l c.r := by unfold arO; split <;> simp [A.ren, arn]
  simp [Cl.a, A.ren, A.renL, this]
theorem cl_refs {D : Nm → Prop} (c : Cl) : c.a.refs D := by
  have : (arO c.l c.r).refs D := by unfold arO; split <;> simp [A.refs, arn]
  simp [Cl.a, A.refs, A.refsL, this]
noncomputable def tbM (S : Tb) : Fam := ⟨fun r => tbF r S, fun {g δ r r'} hg hd p => by
    match p with
    | [] => simp [VOb.ren, Ob.ren, A.renL, A.ren, hg, hd]
    | [0] =>
      refine Fam.arr_ren ?_
      rw [renL_map, List.map_map]
      exact List.map_congr_left fun c _ => cl_ren c
    | [1] => exact Fam.arr_ren (renL_nv _)
    | 0 :: a :: q => rfl
    | 1 :: a :: q => rfl
    | (a + 2) :: q => rfl, fun {D r} hD p => by
    match p with
    | [] => simp [Ob.refs, A.refsL, A.refs, hD]
    | [0] =>
      refine refsL_iff.2 fun x hx => ?_
      obtain ⟨c, _, rfl⟩ := List.mem_map.1 hx
      exact cl_refs c
    | [1] =>
      refine refsL_iff.2 fun x hx => ?_
      obtain ⟨c, _, rfl⟩ := List.mem_map.1 hx
      trivial
    | 0 :: a :: q => trivial
    | 1 :: a :: q => trivial
    | (a + 2) :: q => trivial⟩
@[simp] theorem tbM_F {S : Tb} {r : Nat} : (tbM S).F r = tbF r S := rfl
theorem tbF_but {r : Nat} {S S' : Tb} {p : Nm} (h0 : p ≠ []) (h1 : p ≠ [0]) (h2 : p ≠ [1]) : tbF r S p = tbF r S' p := by
  match p, h0, h1, h2 with
  | [], h, _, _ => exact absurd rfl h
  | [0], _, h, _ => exact absurd rfl h
  | [1], _, _, h => exact absurd rfl h
  | 0 :: a :: q, _, _, _ => rfl
  | 1 :: a :: q, _, _, _ => rfl
  | (a + 2) :: q, _, _, _ => rfl
theorem tbF_pl {r u uc up : Nat} {cl : List Cl} {pl pl' : List Nat} {p : Nm} (h : p ≠ [1]) (hl : pl.length = pl'.length) : tbF r ⟨u, uc, up, cl, pl⟩ p = tbF r ⟨u, uc, up, cl, pl'⟩ p := by
  by_cases h0 : p = []
  · subst h0; simp [hl]
  · by_cases h1 : p = [0]
    · subst h1; rfl
    · exact tbF_but h0 h1 h
/-- As it is read. -/
noncomputable abbrev tbX (S : Tb) : A := .pim [.sl false (S.cl.map Cl.a), .sl false (S.pl.map nv)]
theorem frz_tb {r : Nat} {S : Tb} {H : Hp} (hF : ∀ p, H (r :: p) = tbF r S p) : Frz H (.pob [r] S.u 0) (tbX S) := by
  refine frz_pob (cs := [.osl [r, 0] S.uc 9 0 S.cl.length, .osl [r, 1] S.up 1 0 S.pl.length]) (by simp [hF]) ?_ (by simp)
  simp
  refine ⟨frz_row (l := S.cl) (f := Cl.a) (by simp [hF]) rfl fun x => ?_, frz_row (l := S.pl) (f := nv) (by simp [hF]) rfl fun x => by simp⟩
  simp [Cl.a]
structure Tb.Ok (S : Tb) : Prop where
  p8 : 8 ≤ S.pl.length
  half : 2 * S.cl.length ≤ S.pl.length
  most : S.pl.length ≤ 8 + 4 * S.cl.length
  pl : Pl (S.cl.map Cl.hn) S.pl
  means : ∀ c, c ∈ S.cl → Sg c.l ∧ Means c.l c.r c.t
  nd : (S.cl.map fun c => norm c.t).Nodup
noncomputable def Tb.ks (S : Tb) : List T := S.cl.map fun c => norm c.t
@[simp] theorem Tb.ks_length (S : Tb) : S.ks.length = S.cl.length := by simp [Tb.ks]
def newTb : Tb := ⟨1, 1, 1, [], List.replicate 8 0⟩
theorem iNew_spec : SpecF Try.prog 32 (fun _ => []) Fam.no (fun r => .pob [r] 1 0) (tbM newTb) := by
  refine specF_of t_intern_New (by simp) (by simp) famA_pob fun w0 I0 M0 m0 => ?_
  unfold c_intern_New
  simp
  refine reth_le (le_blankC (d := [0]) 0 [0, 0] 9 rfl rfl (by simp)) ?_
  simp
  refine reth_fam rfl rfl fun p => ?_
  match p with
  | [] => rfl
  | [0] => rfl
  | [1] => rfl
  | 0 :: a :: q => rfl
  | 1 :: a :: q => rfl
  | (a + 2) :: q => rfl
theorem iLen_spec (S : Tb) : G.Spec Try.prog 37 [tbX S] (nv S.cl.length) := by
  refine spec_of t_intern_Table_Len (by simp) fun w0 I0 => ?_
  unfold c_intern_Table_Len
  simp
  exact frz_is rfl (by simp)
theorem emod_nat (a m : Nat) : ((a : Int) % (m : Int)) = ((a % m : Nat) : Int) := by omega
theorem iNext_spec (S : Tb) (h : S.pl.length < 4611686018427387904) (a : Nat) (ha : a < S.pl.length) : G.Spec Try.prog 170 [tbX S, nv a] (nv ((a + 1) % S.pl.length)) := by
  refine spec_of t_intern_Table_next (by simp) fun w0 I0 => ?_
  unfold c_intern_Table_next
  have e : IntKind.i64.wrap ((a : Int) + 1) = ((a + 1 : Nat) : Int) := i64_same (by omega) (by omega)
  have hne : ¬ S.pl = [] := fun e => by rw [e] at ha; simp at ha
  simp [e, hne]
  refine frz_is rfl ?_
  have h1 : ((a : Int) + 1).tmod (S.pl.length : Int) = (((a + 1) % S.pl.length : Nat) : Int) := by
    rw [Int.tmod_eq_emod_of_nonneg (by omega)]
    have := emod_nat (a + 1) S.pl.length
    rw [Int.natCast_add] at this
    exact this
  rw [h1]
/-- Is it the class of this tree? -/
noncomputable def stopT (S : Tb) (t : T) (v : Nat) : Bool := match S.cl[v - 1]? with
  | some c => eqT c.t t
  | none => false
/-- Where the class of a tree is found, or would be. -/
noncomputable def Tb.fnd (S : Tb) (t : T) : Nat := fndP (stopT S t) S.pl S.pl.length ((hashN (norm t)).toNat % S.pl.length)
theorem Tb.Ok.lt {S : Tb} (h : S.Ok) : S.cl.length < S.pl.length := by have := h.p8; have := h.half; omega
theorem fnd_cases {S : Tb} (h : S.Ok) (t : T) : S.fnd t < S.pl.length ∧ ((∃ v, S.pl[S.fnd t]? = some (v + 1) ∧ clsI S.ks (norm t) = v ∧ v < S.cl.length) ∨ (S.pl.getD (S.fnd t) 0 = 0 ∧ clsI S.ks (norm t) = S.cl.length)) ∧
    ∃ k, S.fnd t = ((hashN (norm t)).toNat + k) % S.pl.length ∧ ∀ e, e < k → S.pl.getD (((hashN (norm t)).toNat + e) % S.pl.length) 0 ≠ 0 := by
  have hlt := h.lt
  obtain ⟨h1, h2, k, h3, h4⟩ := fndP_mod (stop := stopT S t) (x := (hashN (norm t)).toNat) h.pl (by simpa using hlt)
  refine ⟨h1, ?_, k, h3, fun e he => (h4 e he).1⟩
  change S.fnd t < _ at h1
  change S.pl.getD (S.fnd t) 0 = 0 ∨ stopT S t (S.pl.getD (S.fnd t) 0) = true at h2
  change S.fnd t = _ at h3
  by_cases h0 : S.pl.getD (S.fnd t) 0 = 0
  · refine .inr ⟨h0, ?_⟩
    rw [← Tb.ks_length]
    refine clsI_none fun hn => ?_
    simp only [Tb.ks, List.mem_map] at hn
    obtain ⟨c, hc, e⟩ := hn
    obtain ⟨i, hi, rfl⟩ := List.mem_iff_getElem.1 hc
    obtain ⟨d, g1, g2⟩ := h.pl.reach i (by simpa using hi)
    have eh : (S.cl.map Cl.hn)[i]'(by simpa using hi) = (hashN (norm t)).toNat := by simp [Cl.hn, Cl.h, e]
    rw [eh] at g1
    have g2' : ∀ e, e < d → S.pl.getD (((hashN (norm t)).toNat + e) % S.pl.length) 0 ≠ 0 := fun e' he' => by have := g2 e' he'; rwa [eh] at this
    rcases Nat.lt_trichotomy d k with hd | hd | hd
    · have := (h4 d hd).2
      rw [List.getD_eq_getElem?_getD, g1] at this
      simp [stopT, hi] at this
      rw [eqT_iff.2 e] at this
      cases this
    · subst hd
      rw [h3, List.getD_eq_getElem?_getD, g1] at h0
      simp at h0
    · exact g2' k hd (by rw [← h3]; exact h0)
  · have h2 := h2.resolve_left h0
    rw [List.getD_eq_getElem?_getD, List.getElem?_eq_getElem h1] at h0 h2
    simp only [Option.getD_some] at h0 h2
    have hv := h.pl.vals _ (List.getElem_mem h1)
    rw [List.length_map] at hv
    have hvl : S.pl[S.fnd t] - 1 < S.cl.length := by omega
    simp [stopT, hvl] at h2
    refine .inl ⟨S.pl[S.fnd t] - 1, by rw [List.getElem?_eq_getElem h1]; congr 1; omega, ?_, hvl⟩
    exact clsI_at (ks := S.ks) (by simpa using hvl) (by simp [Tb.ks, eqT_iff.1 h2]) h.nd
noncomputable def growT (S : Tb) : Tb := { S with up := S.up + 1, pl := growP (List.replicate (2 * S.pl.length) 0) 0 (S.cl.map Cl.hn) }
noncomputable def addT (S : Tb) (l : List (List Int)) (r : Rf) (t : T) : Tb := { S with uc := S.uc + 1, cl := S.cl ++ [⟨l, r, t⟩], pl := S.pl.set (S.fnd t) (S.cl.length + 1) }
noncomputable def clsS (S : Tb) (l : List (List Int)) (r : Rf) (t : T) : Tb :=
  if clsI S.ks (norm t) < S.cl.length then S else if S.pl.length < 2 * (S.cl.length + 1) then growT (addT S l r t) else addT S l r t
/-- But for its room. -/
structure Tb.Ok1 (S : Tb) : Prop where
  p8 : 8 ≤ S.pl.length
  half : 2 * S.cl.length ≤ S.pl.length + 2
  most : S.pl.length ≤ 8 + 4 * S.cl.length
  pl : Pl (S.cl.map Cl.hn) S.pl
  means : ∀ c, c ∈ S.cl → Sg c.l ∧ Means c.l c.r c.t
  nd : (S.cl.map fun c => norm c.t).Nodup
theorem addT_ok {S : Tb} (h : S.Ok) {l : List (List Int)} {r : Rf} {t : T} (hs : Sg l) (hm : Means l r t) (hn : clsI S.ks (norm t) = S.cl.length) : (addT S l r t).Ok1 := by
  obtain ⟨h1, h2, k, h3, h4⟩ := fnd_cases h t
  have h0 : S.pl.getD (S.fnd t) 0 = 0 := by
    rcases h2 with ⟨v, _, e, hv⟩ | ⟨h0, _⟩
    · omega
    · exact h0
  have p8 := h.p8
  have half := h.half
  have most := h.most
  refine ⟨by simpa [addT] using p8, by simp [addT]; omega, by simp [addT]; omega, ?_, fun c hc => ?_, ?_⟩
  · have := h.pl.ins h1 h0 h3 h4
    simpa [addT, Cl.hn, Cl.h] using this
  · simp only [addT, List.mem_append, List.mem_singleton] at hc
    rcases hc with hc | rfl
    · exact h.means c hc
    · exact ⟨hs, hm⟩
  · simp only [addT, List.map_append, List.map_cons, List.map_nil]
    rw [List.nodup_append]
    refine ⟨h.nd, by simp, fun a ha b hb => ?_⟩
    simp at hb
    subst hb
    rintro rfl
    have : clsI S.ks (norm t) < S.ks.length := clsI_lt.2 ha
    simp at this
    omega
theorem growT_ok {S : Tb} (h : S.Ok1) (hf : S.pl.length < 2 * S.cl.length) : (growT S).Ok := by
  have p8 := h.p8
  have half := h.half
  have most := h.most
  have hl : (growT S).pl.length = 2 * S.pl.length := by simp [growT, growP_length]
  refine ⟨by rw [hl]; omega, by rw [hl]; show 2 * S.cl.length ≤ _; omega, by rw [hl]; show _ ≤ 8 + 4 * S.cl.length; omega, ?_, h.means, h.nd⟩
  have := Pl.grow (hs2 := S.cl.map Cl.hn) (Pl.nil (2 * S.pl.length)) (by simp; omega)
  simpa [growT] using this
theorem Tb.Ok1.ok {S : Tb} (h : S.Ok1) (hf : ¬ S.pl.length < 2 * S.cl.length) : S.Ok := ⟨h.p8, by omega, h.most, h.pl, h.means, h.nd⟩
theorem addT_cl {S : Tb} {l : List (List Int)} {r : Rf} {t : T} : (addT S l r t).cl.length = S.cl.length + 1 := by simp [addT]
theorem addT_pl {S : Tb} {l : List (List Int)} {r : Rf} {t : T} : (addT S l r t).pl.length = S.pl.length := by simp [addT]
theorem clsS_ok {S : Tb} (h : S.Ok) {l : List (List Int)} {r : Rf} {t : T} (hs : Sg l) (hm : Means l r t) : (clsS S l r t).Ok := by
  unfold clsS
  split
  · exact h
  · rename_i hn
    have hle := clsI_le S.ks (norm t)
    have he : clsI S.ks (norm t) = S.cl.length := by simp at hle; omega
    have h1 := addT_ok h hs hm he
    split
    · exact growT_ok h1 (by rw [addT_cl, addT_pl]; assumption)
    · exact h1.ok (by rw [addT_cl, addT_pl]; assumption)
theorem clsS_ks {S : Tb} {l : List (List Int)} {r : Rf} {t : T} : (clsS S l r t).ks = clsK S.ks (norm t) := by
  unfold clsS clsK
  rw [Tb.ks_length]
  split
  · rfl
  · split <;> simp [Tb.ks, growT, addT]
theorem clsS_u {S : Tb} {l : List (List Int)} {r : Rf} {t : T} : (clsS S l r t).u = S.u := by
  unfold clsS
  split
  · rfl
  · split <;> rfl
section
variable {n0 : Nat} {w0 : World} {I0 : Nat → Prop} {Q : Exit → Sta → Prop}
noncomputable abbrev nextV (S : Tb) : A := .fnc 170 [tbX S] []
set_option pp.deepTerms true in
set_option pp.maxSteps 1000000 in
theorem find_l1 {S : Tb} (hS : S.Ok) (hb : S.cl.length ≤ 1000000) {l : List (List Int)} (hs : Sg l) {r : Rf} {t : T} (hm : Means l r t) : ∀ (f a d : Nat) (H : Hp), a < S.pl.length → d < f → S.pl.getD ((a + d) % S.pl.length) 0 = 0 → H [0] = ⟨1, .cells (paL l r)⟩ →
    (∀ H', S.pl.getD (fndP (stopT S t) S.pl f a) 0 = 0 → Q (.exit 0) ⟨lk [(0, tbX S), (1, uv (hashN (norm t))), (5, .pob [0] 1 0), (8, nextV S), (9, nv (fndP (stopT S t) S.pl f a)), (31, bv false)], H'⟩) →
    (∀ H', Q .ret ⟨lk [(6, nv (fndP (stopT S t) S.pl f a)), (7, iv 0)], H'⟩) →
    LoopC (cx Try.prog w0 I0 n0) l1_intern_Table_find Q ⟨lk [(0, tbX S), (1, uv (hashN (norm t))), (5, .pob [0] 1 0), (8, nextV S), (9, nv a)], H⟩ := by
  have hp8 := hS.p8
  have hmost := hS.most
  intro f
  induction f with
  | zero => intro a d H _ h; omega
  | succ f ih =>
    intro a d H ha hd hz hA hq hq2
    have ha' : (a : Int) < S.pl.length := by omega
    refine loopC_once mixed l1_intern_Table_find.eq_1 ?_
    have hg : S.pl.getD a 0 = S.pl[a] := by simp [ha]
    by_cases h0 : S.pl[a] = 0
    · simp [ha, h0]
      have e : fndP (stopT S t) S.pl (f + 1) a = a := by rw [fndP, if_pos (by rw [hg]; exact h0)]
      rw [e] at hq
      exact hq H (by rw [hg]; exact h0)
    · have hd0 : d ≠ 0 := fun e => by
        subst e
        rw [Nat.add_zero, Nat.mod_eq_of_lt ha, hg] at hz
        exact h0 hz
      obtain ⟨d, rfl⟩ : ∃ d', d = d' + 1 := ⟨d - 1, by omega⟩
      have hv := hS.pl.vals _ (List.getElem_mem ha)
      rw [List.length_map] at hv
      obtain ⟨v, hv1⟩ : ∃ v, S.pl[a] = v + 1 := ⟨S.pl[a] - 1, by omega⟩
      have hvl : v < S.cl.length := by omega
      have hvl' : (v : Int) < S.cl.length := by omega
      have hpos : (0 : Int) < (v : Int) + 1 := by omega
      have e1 : IntKind.i64.wrap ((v : Int) + 1 - 1) = v := (i64_same (by omega) (by omega)).trans (by omega)
      have e2 : IntKind.i64.wrap (v : Int) = v := i64_same (by omega) (by omega)
      have hst : stopT S t (S.pl.getD a 0) = eqT S.cl[v].t t := by rw [hg, hv1]; simp [stopT, hvl]
      have ef : fndP (stopT S t) S.pl (f + 1) a = if eqT S.cl[v].t t = true then a else fndP (stopT S t) S.pl f ((a + 1) % S.pl.length) := by
        rw [fndP, if_neg (by rw [hg]; exact h0), hst]
      have ihn := ih ((a + 1) % S.pl.length) d
      rw [mod_succ] at ihn
      obtain ⟨hcs, hcm⟩ := hS.means _ (List.getElem_mem hvl)
      have hnx := iNext_spec S (by omega) a ha
      simp [ha, hv1, hpos, e1, e2, hvl, Cl.a]
      have go : eqT S.cl[v].t t = false → ∀ H2 : Hp, H2 [0] = ⟨1, .cells (paL l r)⟩ → LoopC (cx Try.prog w0 I0 n0) l1_intern_Table_find Q ⟨lk [(0, tbX S), (1, uv (hashN (norm t))), (5, .pob [0] 1 0), (8, nextV S), (9, nv ((a + 1) % S.pl.length))], H2⟩ := fun he H2 h2 => by
        rw [ef, he] at hq hq2
        exact ihn H2 (Nat.mod_lt _ (by omega)) (by omega) hz h2 hq hq2
      refine ⟨fun hh => ?_, fun hh => ?_⟩
      · simp [updF_app, hA]
        refine sc_call (values_spec hcs hs _ _ _ _ hcm hm) (by simp) ?_
        cases hq' : eqT S.cl[v].t t with
        | true =>
          rw [ef, hq', if_pos rfl] at hq2
          simp
          exact hq2 _
        | false =>
          simp
          refine sc_callv rfl hnx (by simp) ?_
          simp
          exact go hq' _ (by simp [updF_app, hA])
      · refine sc_callv rfl hnx (by simp) ?_
        have he : eqT S.cl[v].t t = false := by
          rw [Bool.eq_false_iff]
          intro e
          exact hh (by simp [Cl.h, eqT_iff.1 e])
        simp
        exact go he _ (by simp [updF_app, hA])
end
theorem iFind_spec {S : Tb} (hS : S.Ok) (hb : S.cl.length ≤ 1000000) {l : List (List Int)} (hs : Sg l) {r : Rf} {t : T} (hm : Means l r t) (hh : u64R (hashN (norm t))) : G.Spec Try.prog 122 [tbX S, uv (hashN (norm t)), paX l r] (.tup [nv (S.fnd t), iv 0]) := by
  have hp8 := hS.p8
  have hmost := hS.most
  refine spec_of t_intern_Table_find (by simp) fun w0 I0 => ?_
  unfold c_intern_Table_find
  obtain ⟨d, h1, h2⟩ := hS.pl.free (by simpa using hS.lt) ((hashN (norm t)).toNat % S.pl.length)
  have eu : IntKind.u64.wrap (S.pl.length : Int) = S.pl.length := u64_same (by omega) (by omega)
  have hne : ¬ S.pl = [] := fun e => by rw [e] at hp8; simp at hp8
  have et : IntKind.i64.wrap ((hashN (norm t)).tmod (S.pl.length : Int)) = (((hashN (norm t)).toNat % S.pl.length : Nat) : Int) := by
    rw [Int.tmod_eq_emod_of_nonneg hh.1]
    obtain ⟨n, hn⟩ := Int.eq_ofNat_of_zero_le hh.1
    rw [hn, emod_nat]
    have := Nat.mod_lt n (show 0 < S.pl.length by omega)
    exact i64_same (by omega) (by omega)
  have hlt : (hashN (norm t)).toNat % S.pl.length < S.pl.length := Nat.mod_lt _ (by omega)
  unfold Tb.fnd
  generalize (hashN (norm t)).toNat % S.pl.length = a at et hlt h2
  simp [eu, hne, et]
  refine find_l1 hS hb hs hm S.pl.length a d _ hlt h1 h2 (by simp) (fun H' _ => ?_) fun H' => ?_
  · simp
    exact frz_bare rfl
  · simp
    exact frz_bare rfl
end Go.Proofs.Ytehcobkphobjiaa

/-
  Chapter 16: a table grows; the class of a value.
-/
namespace Go.Proofs.Ytehcobkphobjiaa
set_option linter.unusedVariables false
set_option linter.unusedSimpArgs false
open Go Go.G Go.Proofs Go.PL
theorem hash_mod {h : Int} (h0 : u64R h) {m : Nat} (hm : 0 < m) (hm2 : m < 4611686018427387904) : IntKind.i64.wrap (h.tmod (m : Int)) = ((h.toNat % m : Nat) : Int) := by
  rw [Int.tmod_eq_emod_of_nonneg h0.1]
  obtain ⟨n, hn⟩ := Int.eq_ofNat_of_zero_le h0.1
  rw [hn, emod_nat]
  have := Nat.mod_lt n hm
  exact i64_same (by omega) (by omega)
section
variable {n0 : Nat} {w0 : World} {I0 M0 : Nat → Prop} {m0 : Mu} {Q : Exit → Sta → Prop}
theorem grow_l1 {S : Tb} (hb : S.pl.length < 4611686018427387904) {i n uc : Nat} {k : Int} : ∀ (f a d : Nat) (H : Hp), (∀ p, H (0 :: p) = tbF 0 S p) → a < S.pl.length → d < f → S.pl.getD ((a + d) % S.pl.length) 0 = 0 →
    Q (.exit 2) ⟨lk [(0, .pob [0] S.u 0), (2, iv k), (4, nv (fndP (fun _ => false) S.pl f a)), (18, .osl [0, 0] uc 9 0 n), (19, nv n), (20, nv i), (42, bv false)], H⟩ →
    LoopC (cxh Try.prog w0 I0 M0 n0 m0) l1_intern_Table_grow Q ⟨lk [(0, .pob [0] S.u 0), (2, iv k), (4, nv a), (18, .osl [0, 0] uc 9 0 n), (19, nv n), (20, nv i)], H⟩ := by
  intro f
  induction f with
  | zero => intro a d H _ _ h; omega
  | succ f ih =>
    intro a d H hH ha hd hz hq
    have ha' : (a : Int) < S.pl.length := by omega
    refine loopC_once mixed l1_intern_Table_grow.eq_1 ?_
    have hg : S.pl.getD a 0 = S.pl[a] := by simp [ha]
    by_cases h0 : S.pl[a] = 0
    · simp [ha, h0, hH]
      have e : fndP (fun _ => false) S.pl (f + 1) a = a := by rw [fndP, if_pos (by rw [hg]; exact h0)]
      rw [e] at hq
      exact hq
    · have hd0 : d ≠ 0 := fun e => by
        subst e
        rw [Nat.add_zero, Nat.mod_eq_of_lt ha, hg] at hz
        exact h0 hz
      obtain ⟨d, rfl⟩ : ∃ d', d = d' + 1 := ⟨d - 1, by omega⟩
      have hpos : (0 : Int) < S.pl[a] := by omega
      have hpos' : 0 < S.pl[a] := by omega
      have ef : fndP (fun _ => false) S.pl (f + 1) a = fndP (fun _ => false) S.pl f ((a + 1) % S.pl.length) := by
        rw [fndP, if_neg (by rw [hg]; exact h0)]
        simp
      rw [ef] at hq
      simp [ha, hpos', hH]
      refine sc_callb [tbX S, nv a] ((iNext_spec S hb a ha).toB rfl) (by simp; exact ⟨frz_tb hH, frz_bare rfl⟩) (by simp) ?_
      simp
      exact ih ((a + 1) % S.pl.length) d H hH (Nat.mod_lt _ (by omega)) (by omega) (by rw [mod_succ]; exact hz) hq
theorem grow_l2 {cl : List Cl} {u uc up m : Nat} (hc : cl.length ≤ 1000000) (hb : m < 4611686018427387904) (hm : cl.length < m) (hh : ∀ c, c ∈ cl → u64R c.h) : ∀ (j i : Nat) (pl : List Nat) (H : Hp), i + j = cl.length → pl.length = m → Pl ((cl.take i).map Cl.hn) pl → (∀ p, H (0 :: p) = tbF 0 ⟨u, uc, up, cl, pl⟩ p) →
    (∀ (q : Bool) (H' : Hp), (∀ p, H' (0 :: p) = tbF 0 ⟨u, uc, up, cl, growP pl i ((cl.drop i).map Cl.hn)⟩ p) → Q (.exit 0) ⟨lk [(0, .pob [0] u 0), (18, .osl [0, 0] uc 9 0 cl.length), (19, nv cl.length), (20, nv cl.length), (21, bv q)], H'⟩) →
    LoopC (cxh Try.prog w0 I0 M0 n0 m0) l2_intern_Table_grow Q ⟨lk [(0, .pob [0] u 0), (18, .osl [0, 0] uc 9 0 cl.length), (19, nv cl.length), (20, nv i)], H⟩ := by
  intro j
  induction j with
  | zero =>
    intro i pl H hi hl hpl hH hq
    have : i = cl.length := by omega
    subst this
    refine loopC_once mixed l2_intern_Table_grow.eq_1 ?_
    simp
    exact hq _ H (by simpa [growP] using hH)
  | succ j ih =>
    intro i pl H hi hl hpl hH hq
    have hlt : i < cl.length := by omega
    have hlt' : (i : Int) < cl.length := by omega
    have hpos : 0 < pl.length := by omega
    have hne : ¬ pl = [] := fun e => by rw [e] at hpos; simp at hpos
    have eu : IntKind.u64.wrap (pl.length : Int) = pl.length := u64_same (by omega) (by omega)
    have hck := hh _ (List.getElem_mem hlt)
    have et := hash_mod hck hpos (by omega)
    have ei : IntKind.i64.wrap ((i : Int) + 1) = ((i + 1 : Nat) : Int) := i64_same (by omega) (by omega)
    refine loopC_once mixed l2_intern_Table_grow.eq_1 ?_
    obtain ⟨d, f1, f2⟩ := hpl.free (by simp; omega) (cl[i].h.toNat % pl.length)
    have ha : cl[i].h.toNat % pl.length < pl.length := Nat.mod_lt _ hpos
    have hins : insP pl cl[i].hn (i + 1) = pl.set (fndP (fun _ => false) pl pl.length (cl[i].h.toNat % pl.length)) (i + 1) := rfl
    have hpl2 := hpl.insP (by simp; omega) cl[i].hn
    have htk : (cl.take (i + 1)).map Cl.hn = (cl.take i).map Cl.hn ++ [cl[i].hn] := by rw [List.take_succ_eq_append_getElem hlt, List.map_append]; rfl
    have hlen : ((cl.take i).map Cl.hn).length + 1 = i + 1 := by simp; omega
    rw [hlen, ← htk] at hpl2
    have hgr : growP pl i ((cl.drop i).map Cl.hn) = growP (insP pl cl[i].hn (i + 1)) (i + 1) ((cl.drop (i + 1)).map Cl.hn) := by rw [List.drop_eq_getElem_cons hlt, List.map_cons, growP]
    rw [hgr] at hq
    have f3 := (fndP_spec (stop := fun _ => false) pl.length (cl[i].h.toNat % pl.length) d ha f1 f2).1
    rw [hins] at hpl2 hq
    generalize cl[i].h.toNat % pl.length = a at et ha f2 f3 hpl2 hq
    simp [hlt, hH, updF_app, Cl.a, eu, hne, et]
    refine grow_l1 (S := ⟨u, uc, up, cl, pl⟩) (by simpa using (by omega)) pl.length a d _ (fun p => by simp [updF_app, hH]) ha f1 f2 ?_
    generalize fndP (fun _ => false) pl pl.length a = b at f3 hpl2 hq
    have f3' : (b : Int) < pl.length := by omega
    simp [f3, hH, updF_app, ei]
    refine ih (i + 1) (pl.set b (i + 1)) _ (by omega) (by simpa using hl) hpl2 (fun p => ?_) hq
    by_cases hp : p = [1]
    · subst hp
      simp [updF_app, List.map_set]
      rfl
    · simp [updF_app, hp, hH]
      exact tbF_pl hp (by simp)
end
theorem iGrow_spec {S : Tb} (hc : S.cl.length ≤ 1000000) (hb : S.pl.length ≤ 8000000) (hm : S.cl.length < 2 * S.pl.length) (hh : ∀ c, c ∈ S.cl → u64R c.h) : SpecF Try.prog 123 (fun r => [.pob [r] S.u 0]) (tbM S) (fun _ => .tup []) (tbM (growT S)) := by
  refine specF_of t_intern_Table_grow (by simp) (by simp) (by simp) fun w0 I0 M0 m0 => ?_
  unfold c_intern_Table_grow
  have e2 : IntKind.i64.wrap (2 * (S.pl.length : Int)) = ((2 * S.pl.length : Nat) : Int) := (i64_same (by omega) (by omega)).trans (by simp)
  have e3 : (2 * (S.pl.length : Int)).toNat = 2 * S.pl.length := by omega
  simp [e2, e3, updF_app]
  refine ⟨⟨by omega, by omega⟩, ?_⟩
  refine grow_l2 (cl := S.cl) (u := S.u) (uc := S.uc) (up := S.up + 1) (m := 2 * S.pl.length) hc (by omega) hm hh S.cl.length 0 (List.replicate (2 * S.pl.length) 0) _ (by omega) (by simp) (by simpa using Pl.nil _) (fun p => ?_) (fun q H' hH' => ?_)
  · simp only [ov_cons, if_true]
    refine updF_is ?_ (fun h1 => updF_is ?_ (fun h2 => ?_))
    · simp
    · simp
    · by_cases h3 : p = [0]
      · subst h3; rfl
      · exact tbF_but h1 h3 h2
  · simp
    exact reth_famN rfl rfl fun p => hH' p
theorem u64_wrap_in (x : Int) : u64R (IntKind.u64.wrap x) := by
  rw [IntKind.wrap_u64]
  unfold u64R
  omega
theorem mixH_in (h x : Int) : u64R (mixH h x) := u64_wrap_in _
theorem foldl_in : ∀ (w : List Int) (h : Int), u64R h → u64R (w.foldl mixH h)
  | [], _, h => h
  | x :: w, _, _ => foldl_in w _ (mixH_in _ _)
mutual
theorem hashN_in : ∀ t : T, u64R (hashN t)
  | .mk k w l => by rw [hashN]; exact hashL_in l _ (foldl_in _ _ (mixH_in _ _))
theorem hashL_in : ∀ (l : List T) (h : Int), u64R h → u64R (hashL h l)
  | [], _, h => by rw [hashL]; exact h
  | t :: l, _, _ => by rw [hashL]; exact hashL_in l _ (mixH_in _ _)
end
theorem famL_ref (l : List (List Int)) (r : Rf) : FamA (fun _ => paX l r) := famA_bare rfl fun x hx => by
  simp at hx
  rcases hx with rfl | rfl | rfl | rfl | rfl | rfl | rfl | rfl <;> simp
theorem iClass_spec {S : Tb} (hS : S.Ok) (hb : S.cl.length ≤ 400000) {l : List (List Int)} (hs : Sg l) {r : Rf} {t : T} (hm : Means l r t) :
    SpecF Try.prog 76 (fun q => [.pob [q] S.u 0, paX l r]) (tbM S) (fun _ => .tup [nv (clsI S.ks (norm t)), iv 0]) (tbM (clsS S l r t)) := by
  refine specF_of t_intern_Table_Class (by simp) (famL_cons famA_pob (famL_cons (famL_ref l r) famL_nil)) (famA_tup (famL_cons famA_v (famL_cons famA_v famL_nil))) fun w0 I0 M0 m0 => ?_
  unfold c_intern_Table_Class
  have hp8 := hS.p8
  have hmost := hS.most
  have hhalf := hS.half
  have hr := hashN_in
  obtain ⟨f1, f2, _⟩ := fnd_cases hS t
  simp
  refine sc_call (hash_spec hs _ _ hm) (by simp) ?_
  simp
  refine sc_callb [tbX S, uv (hashN (norm t)), paX l r] ((iFind_spec hS (by omega) hs hm (hr _)).toB rfl) (by simp; exact ⟨frz_tb (fun p => by simp), frz_bare rfl, frz_bare (by simp)⟩) (by simp) ?_
  have f1' : (S.fnd t : Int) < S.pl.length := by omega
  rcases f2 with ⟨v, g1, g2, g3⟩ | ⟨g1, g2⟩
  · have e1 : IntKind.i64.wrap ((v : Int) + 1 - 1) = v := (i64_same (by omega) (by omega)).trans (by omega)
    have hpos : (0 : Int) < (v : Int) + 1 := by omega
    have e1b : IntKind.i64.wrap (v : Int) = v := i64_same (by omega) (by omega)
    have hcs : clsS S l r t = S := by simp [clsS, g2, g3]
    have g1' : S.pl[S.fnd t] = v + 1 := by rw [List.getElem?_eq_getElem f1] at g1; exact Option.some.inj g1
    simp [f1, g1', hpos, e1, e1b, hcs, g2]
    exact reth_fam rfl rfl fun p => rfl
  · have g1' : S.pl[S.fnd t] = 0 := by
      rw [List.getD_eq_getElem?_getD, List.getElem?_eq_getElem f1] at g1
      simpa using g1
    have e8 : IntKind.i64.wrap ((S.cl.length : Int) + 1 - 1) = S.cl.length := (i64_same (by omega) (by omega)).trans (by omega)
    have e9 : IntKind.i64.wrap (S.cl.length : Int) = S.cl.length := i64_same (by omega) (by omega)
    have hfam : ∀ p, (updF (updF (updF (tbF 0 S) [0] ⟨S.uc + 1, .arr 9 (S.cl.map Cl.a ++ [.agg [uv (hashN (norm t)), arO l r, iv r.kind, iv r.s, iv r.at_, iv r.data, iv r.kids, iv r.count, uv r.n]])⟩) [] ⟨S.u, .cells [.osl [0, 0] (S.uc + 1) 9 0 (S.cl.length + 1), .osl [0, 1] S.up 1 0 S.pl.length]⟩) [1] ⟨S.up, .arr 1 ((S.pl.map nv).set (S.fnd t) (iv ((S.cl.length : Int) + 1)))⟩ : Nm → VOb) p = tbF 0 (addT S l r t) p := fun p => by
      refine updF_is ?_ (fun h1 => updF_is ?_ (fun h2 => updF_is ?_ (fun h3 => ?_)))
      · simp [addT, List.map_set]
        rfl
      · simp [addT]
      · simp [addT, Cl.a, Cl.h]
      · exact tbF_but h2 h3 h1
    have ew : IntKind.i64.wrap ((S.cl.length : Int) + 1) = (S.cl.length : Int) + 1 := i64_same (by omega) (by omega)
    have ew2 : IntKind.i64.wrap (2 * ((S.cl.length : Int) + 1)) = 2 * ((S.cl.length : Int) + 1) := i64_same (by omega) (by omega)
    have hle : (S.cl.length + 1) * 72 ≤ 140737488355328 := by omega
    simp [f1, g1', updF_app, List.take_of_length_le, hle, ew, ew2]
    refine ⟨fun hf => ?_, fun hf => ?_⟩
    · have hok := addT_ok hS hs hm g2
      have hcs : clsS S l r t = growT (addT S l r t) := by
        unfold clsS
        rw [if_neg (by omega), if_pos (by omega)]
      have hcl : (growT (addT S l r t)).cl.length = S.cl.length + 1 := by simp [growT, addT]
      have hu : (growT (addT S l r t)).u = S.u := rfl
      refine sc_fam 0 (iGrow_spec (S := addT S l r t) (by rw [addT_cl]; omega) (by rw [addT_pl]; omega) (by rw [addT_cl, addT_pl]; omega) (fun c _ => hr _)) (fun p => hfam p) rfl (by simp) ?_
      rw [hcs]
      simp
      unfold k1_intern_Table_Class
      simp [hu, hcl, e8, e9]
      exact reth_fam rfl (by simp [g2]) fun p => rfl
    · have hcs : clsS S l r t = addT S l r t := by
        unfold clsS
        rw [if_neg (by omega), if_neg (by omega)]
      rw [hcs]
      unfold k1_intern_Table_Class
      simp [updF_app, e8, e9]
      exact reth_fam rfl (by simp [g2]) fun p => hfam p
end Go.Proofs.Ytehcobkphobjiaa

/-
  The functions' text as data, and the facts on the types that they use: written by a program of ours (gen2.py) off the translation.
-/
namespace Go.Proofs.Ytehcobkphobjiaa
set_option linter.unusedVariables false
set_option linter.unusedSimpArgs false
set_option maxRecDepth 20000
open Go Go.G Go.Proofs
@[simp] theorem szT_38 : szT Try.prog 38 = some 1 := by kernel_rfl
@[simp] theorem aggT_38 : aggT Try.prog 38 = some false := by kernel_rfl
@[simp] theorem fieldOffT_125_0 : fieldOffT Try.prog 125 0 = some 0 := by kernel_rfl
@[simp] theorem fieldOffT_125_1 : fieldOffT Try.prog 125 1 = some 1 := by kernel_rfl
@[simp] theorem buildA_125 (ps : List (Nat × A)) : buildA Try.prog 125 ps = (fillA (fun i => ([(0, 1), (1, 1)] : List (Nat × Nat))[i]?) [A.v (Value.pointer none), A.v (Value.bool false)] ps).map A.agg := by kernel_rfl
/-- (*cento/centoref13.Builder).give -/
def c_centoref13_Builder_give : CC :=
  .seq (.reg [co (some 4) (.assign (.const (.int .i64 0))) none,
      co (some 5) (.assign (.const (.int .i64 0))) none] [0, 1])
  (.seq (.reg [co (some 9) (.move (.tmp 0)) none,
      co (some 10) (.nilCheck (.tmp 9)) none,
      co (some 11) (.fieldAddr 125 (.tmp 10) 0) none,
      co (some 12) (.load 38 (.tmp 11)) none,
      co (some 13) (.move (.tmp 1)) none,
      co (some 14) (.call { callee := (.value (.func 63)), args := #[(.tmp 12), (.tmp 13)], argTypes := #[38, 3] }) none,
      co (some 8) (.move (.tmp 14)) none,
      co (some 15) (.extract (.tmp 8) 0) none,
      co (some 16) (.extract (.tmp 8) 1) none,
      co (some 6) (.assign (.tmp 15)) none,
      co (some 7) (.assign (.tmp 16)) none] [0, 6, 7])
  (.seq (.seq (.reg [co (some 17) (.move (.tmp 6)) none,
        co (some 18) (.binOp .lss 3 (.tmp 17) (.const (.int .i64 0)) 3) none] [0, 6, 7, 18])
    (.cond (.tmp 18)
      (.reg [co (some 19) (.move (.tmp 0)) none,
        co (some 20) (.nilCheck (.tmp 19)) none,
        co (some 21) (.fieldAddr 125 (.tmp 20) 1) none,
        co none (.store 4 (.tmp 21) (.const (.bool false))) none] [6, 7])
      (.skip)))
  (.keep [6, 7] (.seq (.reg [co (some 22) (.move (.tmp 6)) none,
      co (some 23) (.move (.tmp 7)) none,
      co (some 4) (.assign (.tmp 22)) none,
      co (some 5) (.assign (.tmp 23)) none] [4, 5])
  (.ret)))))
theorem t_centoref13_Builder_give : Txt Try.prog 70 24 [(.tmp 4), (.tmp 5)] c_centoref13_Builder_give := txt_of (code := Try.f70.body.getD .ret) mixed (by kernel_rfl) Try.func70 (by kernel_rfl) Try.ntmps70 (by kernel_rfl) (ls := [([0, 1], []), ([], []), ([0, 6, 7], []), ([], []), ([0, 6, 7, 18], []), ([], []), ([6, 7], []), ([999999, 6, 7], []), ([4, 5], []), ([], [])]) (by kernel_rfl)
/-- (*cento/centoref13.Builder).put -/
def c_centoref13_Builder_put : CC :=
  .seq (.reg [co (some 8) (.move (.tmp 0)) none,
      co (some 9) (.nilCheck (.tmp 8)) none,
      co (some 10) (.fieldAddr 125 (.tmp 9) 1) none,
      co (some 11) (.load 4 (.tmp 10)) none] [0, 1, 2, 3, 11])
  (.cond (.tmp 11)
    (.reg [co (some 12) (.move (.tmp 0)) none,
      co (some 13) (.nilCheck (.tmp 12)) none,
      co (some 14) (.fieldAddr 125 (.tmp 13) 0) none,
      co (some 15) (.load 38 (.tmp 14)) none,
      co (some 16) (.nilCheck (.tmp 15)) none,
      co (some 17) (.fieldAddr 44 (.tmp 16) 0) none,
      co (some 18) (.load 22 (.tmp 17)) none,
      co (some 19) (.move (.tmp 1)) none,
      co (some 20) (.indexAddr 22 (.tmp 18) (.tmp 19)) none,
      co (some 21) (.load 23 (.tmp 20)) none,
      co (some 22) (.move (.tmp 2)) none,
      co (some 23) (.move (.tmp 3)) none,
      co (some 24) (.indexAddr 23 (.tmp 21) (.tmp 22)) none,
      co none (.store 26 (.tmp 24) (.tmp 23)) none] [])
    (.skip))
theorem t_centoref13_Builder_put : Txt Try.prog 112 25 [] c_centoref13_Builder_put := txt_of (code := Try.f112.body.getD .ret) mixed (by kernel_rfl) Try.func112 (by kernel_rfl) Try.ntmps112 (by kernel_rfl) (ls := [([0, 1, 2, 3, 11], []), ([], []), ([], [])]) (by kernel_rfl)
def k1_centoref13_near : CC :=
  .seq (.reg [co (some 18) (.move (.tmp 9)) none,
      co (some 19) (.binOp .mul 3 (.const (.int .i64 4)) (.tmp 18) 3) none,
      co (some 20) (.convert 3 26 (.tmp 19)) none,
      co (some 21) (.move (.tmp 2)) none,
      co (some 22) (.binOp .add 26 (.tmp 20) (.tmp 21) 26) none,
      co (some 23) (.move (.tmp 3)) none,
      co (some 24) (.binOp .mul 26 (.tmp 23) (.const (.int .u64 4294967296)) 26) none,
      co (some 25) (.binOp .add 26 (.tmp 22) (.tmp 24) 26) none,
      co (some 8) (.assign (.tmp 25)) none] [8])
  (.ret)
/-- cento/centoref13.near -/
def c_centoref13_near : CC :=
  .seq (.reg [co (some 8) (.assign (.const (.int .u64 0))) none] [0, 1, 2, 3])
  (.seq (.reg [co (some 10) (.move (.tmp 1)) none,
      co (some 11) (.move (.tmp 0)) none,
      co (some 12) (.binOp .sub 3 (.tmp 10) (.tmp 11) 3) none,
      co (some 13) (.binOp .sub 3 (.tmp 12) (.const (.int .i64 1)) 3) none,
      co (some 9) (.assign (.tmp 13)) none] [2, 3, 9])
  (.seq (.seq (.reg [co (some 14) (.move (.tmp 9)) none,
        co (some 15) (.binOp .lss 3 (.tmp 14) (.const (.int .i64 0)) 3) none] [2, 3, 9, 15])
    (.cond (.tmp 15)
      (.reg [co (some 16) (.move (.tmp 9)) none,
        co (some 17) (.binOp .add 3 (.tmp 16) (.const (.int .i64 1073741824)) 3) none,
        co (some 9) (.assign (.tmp 17)) none] [2, 3, 9])
      (.skip)))
  (.keep [2, 3, 9] k1_centoref13_near)))
theorem t_centoref13_near : Txt Try.prog 161 26 [(.tmp 8)] c_centoref13_near := txt_of (code := Try.f161.body.getD .ret) mixed (by kernel_rfl) Try.func161 (by kernel_rfl) Try.ntmps161 (by kernel_rfl) (ls := [([0, 1, 2, 3], []), ([], []), ([2, 3, 9], []), ([], []), ([2, 3, 9, 15], []), ([], []), ([2, 3, 9], []), ([999999, 2, 3, 9], []), ([8], []), ([], [])]) (by kernel_rfl)
/-- (*cento/centoref13.Builder).point -/
def c_centoref13_Builder_point : CC :=
  .seq (.seq (.reg [co (some 17) (.move (.tmp 0)) none,
        co (some 18) (.nilCheck (.tmp 17)) none,
        co (some 19) (.fieldAddr 125 (.tmp 18) 1) none,
        co (some 20) (.load 4 (.tmp 19)) none,
        co (some 21) (.unOp .not 4 (.tmp 20)) none] [0, 1, 2, 3, 4, 5, 6, 21])
    (.cond (.tmp 21)
      (.ret)
      (.skip)))
  (.keep [0, 1, 2, 3, 4, 5, 6] (.seq (.seq (.reg [co (some 22) (.move (.tmp 5)) none,
        co (some 23) (.binOp .eql 26 (.tmp 22) (.const (.int .u64 0)) 26) none,
        co (some 24) (.move (.tmp 23)) none,
        co (some 25) (.move (.tmp 6)) (some (24, true)),
        co (some 26) (.binOp .eql 26 (.tmp 25) (.const (.int .u64 0)) 26) (some (24, true)),
        co (some 27) (.pick (.tmp 24) (.tmp 26) (.const (.bool false))) none] [0, 1, 2, 3, 4, 5, 6, 27])
    (.cond (.tmp 27)
      (.seq (.reg [co (some 28) (.move (.tmp 0)) none,
          co (some 29) (.move (.tmp 1)) none,
          co (some 30) (.move (.tmp 2)) none,
          co (some 31) (.call { callee := (.value (.func 112)), args := #[(.tmp 28), (.tmp 29), (.tmp 30), (.const (.int .u64 4294967292))], argTypes := #[123, 3, 3, 26] }) none] [])
      (.ret))
      (.skip)))
  (.keep [0, 1, 2, 3, 4, 5, 6] (.seq (.seq (.reg [co (some 32) (.move (.tmp 1)) none,
        co (some 33) (.move (.tmp 3)) none,
        co (some 34) (.binOp .eql 3 (.tmp 32) (.tmp 33) 3) none] [0, 1, 2, 3, 4, 5, 6, 34])
    (.cond (.tmp 34)
      (.seq (.reg [co (some 35) (.move (.tmp 0)) none,
          co (some 36) (.move (.tmp 1)) none,
          co (some 37) (.move (.tmp 2)) none,
          co (some 38) (.move (.tmp 2)) none,
          co (some 39) (.move (.tmp 4)) none,
          co (some 40) (.move (.tmp 5)) none,
          co (some 41) (.move (.tmp 6)) none,
          co (some 42) (.call { callee := (.value (.func 161)), args := #[(.tmp 38), (.tmp 39), (.tmp 40), (.tmp 41)], argTypes := #[3, 3, 26, 26] }) none,
          co (some 43) (.call { callee := (.value (.func 112)), args := #[(.tmp 35), (.tmp 36), (.tmp 37), (.tmp 42)], argTypes := #[123, 3, 3, 26] }) none] [])
      (.ret))
      (.skip)))
  (.keep [0, 1, 2, 3, 4, 5, 6] (.seq (.reg [co (some 44) (.move (.tmp 0)) none,
      co (some 45) (.nilCheck (.tmp 44)) none,
      co (some 46) (.fieldAddr 125 (.tmp 45) 0) none,
      co (some 47) (.load 38 (.tmp 46)) none,
      co (some 48) (.move (.tmp 3)) none,
      co (some 49) (.call { callee := (.value (.func 64)), args := #[(.tmp 47), (.tmp 48), (.const (.int .i64 1))], argTypes := #[38, 3, 3] }) none,
      co (some 14) (.assign (.tmp 49)) none] [0, 1, 2, 3, 4, 5, 6, 14])
  (.seq (.seq (.reg [co (some 50) (.move (.tmp 14)) none,
        co (some 51) (.binOp .geq 3 (.tmp 50) (.const (.int .i64 0)) 3) none] [0, 1, 2, 3, 4, 5, 6, 14, 51])
    (.cond (.tmp 51)
      (.seq (.reg [co (some 52) (.move (.tmp 0)) none,
          co (some 53) (.move (.tmp 1)) none,
          co (some 54) (.move (.tmp 2)) none,
          co (some 55) (.move (.tmp 14)) none,
          co (some 56) (.convert 3 26 (.tmp 55)) none,
          co (some 57) (.binOp .mul 26 (.const (.int .u64 8)) (.tmp 56) 26) none,
          co (some 58) (.binOp .add 26 (.const (.int .u64 2)) (.tmp 57) 26) none,
          co (some 59) (.move (.tmp 3)) none,
          co (some 60) (.convert 3 26 (.tmp 59)) none,
          co (some 61) (.binOp .mul 26 (.const (.int .u64 4294967296)) (.tmp 60) 26) none,
          co (some 62) (.binOp .add 26 (.tmp 58) (.tmp 61) 26) none,
          co (some 63) (.call { callee := (.value (.func 112)), args := #[(.tmp 52), (.tmp 53), (.tmp 54), (.tmp 62)], argTypes := #[123, 3, 3, 26] }) none] [0, 3, 4, 5, 6, 14])
      (.seq (.reg [co (some 64) (.move (.tmp 0)) none,
          co (some 65) (.move (.tmp 3)) none,
          co (some 66) (.move (.tmp 14)) none,
          co (some 67) (.move (.tmp 14)) none,
          co (some 68) (.move (.tmp 4)) none,
          co (some 69) (.move (.tmp 5)) none,
          co (some 70) (.move (.tmp 6)) none,
          co (some 71) (.call { callee := (.value (.func 161)), args := #[(.tmp 67), (.tmp 68), (.tmp 69), (.tmp 70)], argTypes := #[3, 3, 26, 26] }) none,
          co (some 72) (.call { callee := (.value (.func 112)), args := #[(.tmp 64), (.tmp 65), (.tmp 66), (.tmp 71)], argTypes := #[123, 3, 3, 26] }) none] [])
      (.ret)))
      (.skip)))
  (.keep [0, 1, 2, 3, 4, 5, 6] (.seq (.reg [co (some 74) (.move (.tmp 0)) none,
      co (some 75) (.call { callee := (.value (.func 70)), args := #[(.tmp 74), (.const (.int .i64 2))], argTypes := #[123, 3] }) none,
      co (some 73) (.move (.tmp 75)) none,
      co (some 76) (.extract (.tmp 73) 0) none,
      co (some 77) (.extract (.tmp 73) 1) none,
      co (some 15) (.assign (.tmp 76)) none,
      co (some 16) (.assign (.tmp 77)) none] [0, 1, 2, 3, 4, 5, 6, 15, 16])
  (.seq (.seq (.reg [co (some 78) (.move (.tmp 0)) none,
        co (some 79) (.nilCheck (.tmp 78)) none,
        co (some 80) (.fieldAddr 125 (.tmp 79) 1) none,
        co (some 81) (.load 4 (.tmp 80)) none,
        co (some 82) (.unOp .not 4 (.tmp 81)) none] [0, 1, 2, 3, 4, 5, 6, 15, 16, 82])
    (.cond (.tmp 82)
      (.ret)
      (.skip)))
  (.keep [0, 1, 2, 3, 4, 5, 6, 15, 16] (.seq (.reg [co (some 83) (.move (.tmp 0)) none,
      co (some 84) (.move (.tmp 1)) none,
      co (some 85) (.move (.tmp 2)) none,
      co (some 86) (.move (.tmp 16)) none,
      co (some 87) (.convert 3 26 (.tmp 86)) none,
      co (some 88) (.binOp .mul 26 (.const (.int .u64 8)) (.tmp 87) 26) none,
      co (some 89) (.binOp .add 26 (.const (.int .u64 6)) (.tmp 88) 26) none,
      co (some 90) (.move (.tmp 15)) none,
      co (some 91) (.convert 3 26 (.tmp 90)) none,
      co (some 92) (.binOp .mul 26 (.const (.int .u64 4294967296)) (.tmp 91) 26) none,
      co (some 93) (.binOp .add 26 (.tmp 89) (.tmp 92) 26) none,
      co (some 94) (.call { callee := (.value (.func 112)), args := #[(.tmp 83), (.tmp 84), (.tmp 85), (.tmp 93)], argTypes := #[123, 3, 3, 26] }) none] [0, 3, 4, 5, 6, 15, 16])
  (.seq (.reg [co (some 95) (.move (.tmp 0)) none,
      co (some 96) (.move (.tmp 15)) none,
      co (some 97) (.move (.tmp 16)) none,
      co (some 98) (.move (.tmp 4)) none,
      co (some 99) (.convert 3 26 (.tmp 98)) none,
      co (some 100) (.binOp .mul 26 (.const (.int .u64 8)) (.tmp 99) 26) none,
      co (some 101) (.binOp .add 26 (.const (.int .u64 2)) (.tmp 100) 26) none,
      co (some 102) (.move (.tmp 3)) none,
      co (some 103) (.convert 3 26 (.tmp 102)) none,
      co (some 104) (.binOp .mul 26 (.const (.int .u64 4294967296)) (.tmp 103) 26) none,
      co (some 105) (.binOp .add 26 (.tmp 101) (.tmp 104) 26) none,
      co (some 106) (.call { callee := (.value (.func 112)), args := #[(.tmp 95), (.tmp 96), (.tmp 97), (.tmp 105)], argTypes := #[123, 3, 3, 26] }) none] [0, 5, 6, 15, 16])
  (.reg [co (some 107) (.move (.tmp 0)) none,
    co (some 108) (.move (.tmp 15)) none,
    co (some 109) (.move (.tmp 16)) none,
    co (some 110) (.binOp .add 3 (.tmp 109) (.const (.int .i64 1)) 3) none,
    co (some 111) (.move (.tmp 5)) none,
    co (some 112) (.move (.tmp 6)) none,
    co (some 113) (.binOp .mul 26 (.tmp 112) (.const (.int .u64 4294967296)) 26) none,
    co (some 114) (.binOp .add 26 (.tmp 111) (.tmp 113) 26) none,
    co (some 115) (.call { callee := (.value (.func 112)), args := #[(.tmp 107), (.tmp 108), (.tmp 110), (.tmp 114)], argTypes := #[123, 3, 3, 26] }) none] []))))))))))))))
theorem t_centoref13_Builder_point : Txt Try.prog 108 116 [] c_centoref13_Builder_point := txt_of (code := Try.f108.body.getD .ret) mixed (by kernel_rfl) Try.func108 (by kernel_rfl) Try.ntmps108 (by kernel_rfl) (ls := [([0, 1, 2, 3, 4, 5, 6, 21], []), ([], []), ([999999, 0, 1, 2, 3, 4, 5, 6], []), ([0, 1, 2, 3, 4, 5, 6, 27], []), ([], []), ([], []), ([], []), ([999999, 0, 1, 2, 3, 4, 5, 6], []), ([0, 1, 2, 3, 4, 5, 6, 34], []), ([], []), ([], []), ([], []), ([999999, 0, 1, 2, 3, 4, 5, 6], []), ([0, 1, 2, 3, 4, 5, 6, 14], []), ([], []), ([0, 1, 2, 3, 4, 5, 6, 14, 51], []), ([], []), ([0, 3, 4, 5, 6, 14], []), ([], []), ([], []), ([], []), ([999999, 0, 1, 2, 3, 4, 5, 6], []), ([0, 1, 2, 3, 4, 5, 6, 15, 16], []), ([], []), ([0, 1, 2, 3, 4, 5, 6, 15, 16, 82], []), ([], []), ([999999, 0, 1, 2, 3, 4, 5, 6, 15, 16], []), ([0, 3, 4, 5, 6, 15, 16], []), ([], []), ([0, 5, 6, 15, 16], []), ([], []), ([], [])]) (by kernel_rfl)
def l1_centoref13_Builder_all : CC :=
  .seq (.seq (.reg [co (some 9) (.move (.tmp 8)) none,
        co (some 10) (.move (.tmp 3)) none,
        co (some 11) (.call { callee := (.builtin .len), args := #[(.tmp 10)], argTypes := #[23] }) none,
        co (some 12) (.binOp .lss 3 (.tmp 9) (.tmp 11) 3) none] [0, 1, 2, 3, 8, 12])
    (.cond (.tmp 12)
      (.skip)
      (.exit 0)))
  (.keep [0, 1, 2, 3, 8] (.seq (.block 1
      (.reg [co (some 15) (.move (.tmp 0)) none,
        co (some 16) (.move (.tmp 1)) none,
        co (some 17) (.move (.tmp 2)) none,
        co (some 18) (.move (.tmp 8)) none,
        co (some 19) (.binOp .add 3 (.tmp 17) (.tmp 18) 3) none,
        co (some 20) (.move (.tmp 3)) none,
        co (some 21) (.move (.tmp 8)) none,
        co (some 22) (.indexAddr 23 (.tmp 20) (.tmp 21)) none,
        co (some 23) (.load 26 (.tmp 22)) none,
        co (some 24) (.call { callee := (.value (.func 112)), args := #[(.tmp 15), (.tmp 16), (.tmp 19), (.tmp 23)], argTypes := #[123, 3, 3, 26] }) none] [0, 1, 2, 3, 8]))
  (.reg [co (some 13) (.move (.tmp 8)) none,
    co (some 14) (.binOp .add 3 (.tmp 13) (.const (.int .i64 1)) 3) none,
    co (some 8) (.assign (.tmp 14)) none] [0, 1, 2, 3, 8])))
/-- (*cento/centoref13.Builder).all -/
def c_centoref13_Builder_all : CC :=
  .seq (.reg [co (some 8) (.assign (.const (.int .i64 0))) none] [0, 1, 2, 3, 8])
  (.block 0
    (.loop l1_centoref13_Builder_all))
theorem t_centoref13_Builder_all : Txt Try.prog 109 25 [] c_centoref13_Builder_all := txt_of (code := Try.f109.body.getD .ret) mixed (by kernel_rfl) Try.func109 (by kernel_rfl) Try.ntmps109 (by kernel_rfl) (ls := [([0, 1, 2, 3, 8], []), ([], []), ([0, 1, 2, 3, 8, 12], []), ([], []), ([999999, 0, 1, 2, 3, 8], []), ([0, 1, 2, 3, 8], []), ([], []), ([0, 1, 2, 3, 8], [])]) (by kernel_rfl)
def l1_centoref13_Builder_kids : CC :=
  .seq (.seq (.reg [co (some 9) (.move (.tmp 8)) none,
        co (some 10) (.fieldAddr 53 (.tmp 7) 2) none,
        co (some 11) (.load 51 (.tmp 10)) none,
        co (some 12) (.call { callee := (.builtin .len), args := #[(.tmp 11)], argTypes := #[51] }) none,
        co (some 13) (.binOp .lss 3 (.tmp 9) (.tmp 12) 3) none,
        co (some 14) (.move (.tmp 13)) none,
        co (some 15) (.move (.tmp 0)) (some (14, true)),
        co (some 16) (.nilCheck (.tmp 15)) (some (14, true)),
        co (some 17) (.fieldAddr 125 (.tmp 16) 1) (some (14, true)),
        co (some 18) (.load 4 (.tmp 17)) (some (14, true)),
        co (some 19) (.pick (.tmp 14) (.tmp 18) (.const (.bool false))) none] [0, 1, 2, 7, 8, 19])
    (.cond (.tmp 19)
      (.skip)
      (.exit 0)))
  (.keep [0, 1, 2, 7, 8] (.seq (.block 1
      (.reg [co (some 22) (.move (.tmp 0)) none,
        co (some 23) (.move (.tmp 1)) none,
        co (some 24) (.move (.tmp 2)) none,
        co (some 25) (.move (.tmp 8)) none,
        co (some 26) (.binOp .add 3 (.tmp 24) (.tmp 25) 3) none,
        co (some 27) (.fieldAddr 53 (.tmp 7) 2) none,
        co (some 28) (.load 51 (.tmp 27)) none,
        co (some 29) (.move (.tmp 8)) none,
        co (some 30) (.indexAddr 51 (.tmp 28) (.tmp 29)) none,
        co (some 31) (.load 53 (.tmp 30)) none,
        co (some 32) (.call { callee := (.value (.func 71)), args := #[(.tmp 22), (.tmp 23), (.tmp 26), (.tmp 31)], argTypes := #[123, 3, 3, 53] }) none] [0, 1, 2, 7, 8]))
  (.reg [co (some 20) (.move (.tmp 8)) none,
    co (some 21) (.binOp .add 3 (.tmp 20) (.const (.int .i64 1)) 3) none,
    co (some 8) (.assign (.tmp 21)) none] [0, 1, 2, 7, 8])))
/-- (*cento/centoref13.Builder).kids -/
def c_centoref13_Builder_kids : CC :=
  .seq (.reg [cn (some 7) (.box 53 (.tmp 3)) none [2]] [0, 1, 2, 7])
  (.seq (.reg [co (some 8) (.assign (.const (.int .i64 0))) none] [0, 1, 2, 7, 8])
  (.block 0
    (.loop l1_centoref13_Builder_kids)))
theorem t_centoref13_Builder_kids : Txt Try.prog 110 33 [] c_centoref13_Builder_kids := txt_of (code := Try.f110.body.getD .ret) mixed (by kernel_rfl) Try.func110 (by kernel_rfl) Try.ntmps110 (by kernel_rfl) (ls := [([0, 1, 2, 7], [(0, [2])]), ([], []), ([0, 1, 2, 7, 8], []), ([], []), ([0, 1, 2, 7, 8, 19], []), ([], []), ([999999, 0, 1, 2, 7, 8], []), ([0, 1, 2, 7, 8], []), ([], []), ([0, 1, 2, 7, 8], [])]) (by kernel_rfl)
def l1_centoref13_Builder_Lay : CC :=
  .seq (.seq (.reg [co (some 192) (.move (.tmp 17)) none,
        co (some 193) (.move (.tmp 8)) none,
        co (some 194) (.binOp .lss 3 (.tmp 192) (.tmp 193) 3) none,
        co (some 195) (.move (.tmp 194)) none,
        co (some 196) (.move (.tmp 0)) (some (195, true)),
        co (some 197) (.nilCheck (.tmp 196)) (some (195, true)),
        co (some 198) (.fieldAddr 125 (.tmp 197) 1) (some (195, true)),
        co (some 199) (.load 4 (.tmp 198)) (some (195, true)),
        co (some 200) (.pick (.tmp 195) (.tmp 199) (.const (.bool false))) none] [0, 7, 8, 13, 14, 15, 16, 17, 200])
    (.cond (.tmp 200)
      (.skip)
      (.exit 3)))
  (.keep [0, 7, 8, 13, 14, 15, 16, 17] (.seq (.block 4
      (.seq (.reg [co (some 203) (.move (.tmp 0)) none,
          co (some 204) (.move (.tmp 15)) none,
          co (some 205) (.move (.tmp 16)) none,
          co (some 206) (.binOp .add 3 (.tmp 205) (.const (.int .i64 1)) 3) none,
          co (some 207) (.move (.tmp 17)) none,
          co (some 208) (.move (.tmp 13)) none,
          co (some 209) (.move (.tmp 14)) none,
          co (some 210) (.binOp .add 3 (.tmp 208) (.tmp 209) 3) none,
          co (some 211) (.binOp .mul 3 (.tmp 207) (.tmp 210) 3) none,
          co (some 212) (.binOp .add 3 (.tmp 206) (.tmp 211) 3) none,
          co (some 213) (.fieldAddr 53 (.tmp 7) 2) none,
          co (some 214) (.load 51 (.tmp 213)) none,
          co (some 215) (.move (.tmp 17)) none,
          co (some 216) (.indexAddr 51 (.tmp 214) (.tmp 215)) none,
          co (some 217) (.fieldAddr 53 (.tmp 216) 1) none,
          co (some 218) (.load 23 (.tmp 217)) none,
          co (some 219) (.call { callee := (.value (.func 109)), args := #[(.tmp 203), (.tmp 204), (.tmp 212), (.tmp 218)], argTypes := #[123, 3, 3, 23] }) none] [0, 7, 8, 13, 14, 15, 16, 17])
      (.reg [co (some 220) (.move (.tmp 0)) none,
        co (some 221) (.move (.tmp 15)) none,
        co (some 222) (.move (.tmp 16)) none,
        co (some 223) (.binOp .add 3 (.tmp 222) (.const (.int .i64 1)) 3) none,
        co (some 224) (.move (.tmp 17)) none,
        co (some 225) (.move (.tmp 13)) none,
        co (some 226) (.move (.tmp 14)) none,
        co (some 227) (.binOp .add 3 (.tmp 225) (.tmp 226) 3) none,
        co (some 228) (.binOp .mul 3 (.tmp 224) (.tmp 227) 3) none,
        co (some 229) (.binOp .add 3 (.tmp 223) (.tmp 228) 3) none,
        co (some 230) (.move (.tmp 13)) none,
        co (some 231) (.binOp .add 3 (.tmp 229) (.tmp 230) 3) none,
        co (some 232) (.fieldAddr 53 (.tmp 7) 2) none,
        co (some 233) (.load 51 (.tmp 232)) none,
        co (some 234) (.move (.tmp 17)) none,
        co (some 235) (.indexAddr 51 (.tmp 233) (.tmp 234)) none,
        co (some 236) (.load 53 (.tmp 235)) none,
        co (some 237) (.call { callee := (.value (.func 110)), args := #[(.tmp 220), (.tmp 221), (.tmp 231), (.tmp 236)], argTypes := #[123, 3, 3, 53] }) none] [0, 7, 8, 13, 14, 15, 16, 17])))
  (.reg [co (some 201) (.move (.tmp 17)) none,
    co (some 202) (.binOp .add 3 (.tmp 201) (.const (.int .i64 1)) 3) none,
    co (some 17) (.assign (.tmp 202)) none] [0, 7, 8, 13, 14, 15, 16, 17])))
def l2_centoref13_Builder_Lay : CC :=
  .seq (.seq (.reg [co (some 29) (.move (.tmp 19)) none,
        co (some 30) (.move (.tmp 8)) none,
        co (some 31) (.binOp .lss 3 (.tmp 29) (.tmp 30) 3) none] [0, 1, 2, 7, 8, 18, 19, 31])
    (.cond (.tmp 31)
      (.skip)
      (.exit 1)))
  (.keep [0, 1, 2, 7, 8, 18, 19] (.seq (.block 2
      (.reg [co (some 34) (.move (.tmp 18)) none,
        co (some 35) (.fieldAddr 53 (.tmp 7) 2) none,
        co (some 36) (.load 51 (.tmp 35)) none,
        co (some 37) (.move (.tmp 19)) none,
        co (some 38) (.indexAddr 51 (.tmp 36) (.tmp 37)) none,
        co (some 39) (.fieldAddr 53 (.tmp 38) 1) none,
        co (some 40) (.load 23 (.tmp 39)) none,
        co (some 41) (.indexAddr 23 (.tmp 40) (.const (.int .i64 0))) none,
        co (some 42) (.load 26 (.tmp 41)) none,
        co (some 43) (.buildSlice 23 1 #[(0, (.tmp 42))]) none,
        cn (some 44) (.call { callee := (.builtin .append), args := #[(.tmp 34), (.tmp 43)], argTypes := #[23, 23] }) none [3],
        co (some 18) (.assign (.tmp 44)) none] [0, 1, 2, 7, 8, 18, 19]))
  (.stop (.reg [co (some 32) (.move (.tmp 19)) none,
    co (some 33) (.binOp .add 3 (.tmp 32) (.const (.int .i64 1)) 3) none,
    co (some 19) (.assign (.tmp 33)) none] [0, 1, 2, 7, 8, 18, 19]))))
/-- (*cento/centoref13.Builder).Lay -/
def c_centoref13_Builder_Lay : CC :=
  .seq (.reg [cn (some 7) (.box 53 (.tmp 3)) none [2]] [0, 1, 2, 7])
  (.seq (.reg [co (some 24) (.fieldAddr 53 (.tmp 7) 2) none,
      co (some 25) (.load 51 (.tmp 24)) none,
      co (some 26) (.call { callee := (.builtin .len), args := #[(.tmp 25)], argTypes := #[51] }) none,
      co (some 8) (.assign (.tmp 26)) none] [0, 1, 2, 7, 8])
  (.seq (.reg [co (some 27) (.fieldAddr 53 (.tmp 7) 0) none,
      co (some 28) (.load 3 (.tmp 27)) none] [0, 1, 2, 7, 8, 28])
  (.block 0
    (.seq (.reg [co (some 80) (.binOp .eql 3 (.tmp 28) (.const (.int .i64 0)) 3) none,
        co (some 79) (.assign (.tmp 80)) none] [0, 1, 2, 7, 8, 28, 79])
    (.cond (.tmp 79)
      (.ret)
      (.seq (.reg [co (some 82) (.binOp .eql 3 (.tmp 28) (.const (.int .i64 1)) 3) none,
          co (some 81) (.assign (.tmp 82)) none] [0, 1, 2, 7, 8, 28, 81])
      (.cond (.tmp 81)
        (.seq (.reg [co (some 84) (.move (.tmp 0)) none,
            co (some 85) (.fieldAddr 53 (.tmp 7) 1) none,
            co (some 86) (.load 23 (.tmp 85)) none,
            co (some 87) (.call { callee := (.builtin .len), args := #[(.tmp 86)], argTypes := #[23] }) none,
            co (some 88) (.move (.tmp 8)) none,
            co (some 89) (.binOp .add 3 (.tmp 87) (.tmp 88) 3) none,
            co (some 90) (.call { callee := (.value (.func 70)), args := #[(.tmp 84), (.tmp 89)], argTypes := #[123, 3] }) none,
            co (some 83) (.move (.tmp 90)) none,
            co (some 91) (.extract (.tmp 83) 0) none,
            co (some 92) (.extract (.tmp 83) 1) none,
            co (some 9) (.assign (.tmp 91)) none,
            co (some 10) (.assign (.tmp 92)) none] [0, 1, 2, 7, 8, 9, 10])
        (.seq (.reg [co (some 93) (.move (.tmp 0)) none,
            co (some 94) (.move (.tmp 1)) none,
            co (some 95) (.move (.tmp 2)) none,
            co (some 96) (.move (.tmp 9)) none,
            co (some 97) (.move (.tmp 10)) none,
            co (some 98) (.fieldAddr 53 (.tmp 7) 1) none,
            co (some 99) (.load 23 (.tmp 98)) none,
            co (some 100) (.call { callee := (.builtin .len), args := #[(.tmp 99)], argTypes := #[23] }) none,
            co (some 101) (.convert 3 26 (.tmp 100)) none,
            co (some 102) (.move (.tmp 8)) none,
            co (some 103) (.convert 3 26 (.tmp 102)) none,
            co (some 104) (.binOp .mul 26 (.const (.int .u64 65536)) (.tmp 103) 26) none,
            co (some 105) (.binOp .add 26 (.tmp 101) (.tmp 104) 26) none,
            co (some 106) (.call { callee := (.value (.func 108)), args := #[(.tmp 93), (.tmp 94), (.tmp 95), (.tmp 96), (.tmp 97), (.const (.int .u64 0)), (.tmp 105)], argTypes := #[123, 3, 3, 3, 3, 26, 26] }) none] [0, 7, 9, 10])
        (.seq (.reg [co (some 107) (.move (.tmp 0)) none,
            co (some 108) (.move (.tmp 9)) none,
            co (some 109) (.move (.tmp 10)) none,
            co (some 110) (.fieldAddr 53 (.tmp 7) 1) none,
            co (some 111) (.load 23 (.tmp 110)) none,
            co (some 112) (.call { callee := (.value (.func 109)), args := #[(.tmp 107), (.tmp 108), (.tmp 109), (.tmp 111)], argTypes := #[123, 3, 3, 23] }) none] [0, 7, 9, 10])
        (.reg [co (some 113) (.move (.tmp 0)) none,
          co (some 114) (.move (.tmp 9)) none,
          co (some 115) (.move (.tmp 10)) none,
          co (some 116) (.fieldAddr 53 (.tmp 7) 1) none,
          co (some 117) (.load 23 (.tmp 116)) none,
          co (some 118) (.call { callee := (.builtin .len), args := #[(.tmp 117)], argTypes := #[23] }) none,
          co (some 119) (.binOp .add 3 (.tmp 115) (.tmp 118) 3) none,
          co (some 120) (.load 53 (.tmp 7)) none,
          co (some 121) (.call { callee := (.value (.func 110)), args := #[(.tmp 113), (.tmp 114), (.tmp 119), (.tmp 120)], argTypes := #[123, 3, 3, 53] }) none] []))))
        (.seq (.reg [co (some 123) (.binOp .eql 3 (.tmp 28) (.const (.int .i64 8)) 3) none,
            co (some 122) (.assign (.tmp 123)) none] [0, 1, 2, 7, 8, 28, 122])
        (.cond (.tmp 122)
          (.seq (.reg [co (some 125) (.move (.tmp 0)) none,
              co (some 126) (.move (.tmp 8)) none,
              co (some 127) (.call { callee := (.value (.func 70)), args := #[(.tmp 125), (.tmp 126)], argTypes := #[123, 3] }) none,
              co (some 124) (.move (.tmp 127)) none,
              co (some 128) (.extract (.tmp 124) 0) none,
              co (some 129) (.extract (.tmp 124) 1) none,
              co (some 11) (.assign (.tmp 128)) none,
              co (some 12) (.assign (.tmp 129)) none] [0, 1, 2, 7, 8, 11, 12])
          (.seq (.reg [co (some 130) (.move (.tmp 0)) none,
              co (some 131) (.move (.tmp 1)) none,
              co (some 132) (.move (.tmp 2)) none,
              co (some 133) (.move (.tmp 11)) none,
              co (some 134) (.move (.tmp 12)) none,
              co (some 135) (.move (.tmp 8)) none,
              co (some 136) (.convert 3 26 (.tmp 135)) none,
              co (some 137) (.binOp .mul 26 (.const (.int .u64 8)) (.tmp 136) 26) none,
              co (some 138) (.binOp .add 26 (.const (.int .u64 6)) (.tmp 137) 26) none,
              co (some 139) (.call { callee := (.value (.func 108)), args := #[(.tmp 130), (.tmp 131), (.tmp 132), (.tmp 133), (.tmp 134), (.const (.int .u64 1)), (.tmp 138)], argTypes := #[123, 3, 3, 3, 3, 26, 26] }) none] [0, 7, 11, 12])
          (.reg [co (some 140) (.move (.tmp 0)) none,
            co (some 141) (.move (.tmp 11)) none,
            co (some 142) (.move (.tmp 12)) none,
            co (some 143) (.load 53 (.tmp 7)) none,
            co (some 144) (.call { callee := (.value (.func 110)), args := #[(.tmp 140), (.tmp 141), (.tmp 142), (.tmp 143)], argTypes := #[123, 3, 3, 53] }) none] [])))
          (.seq (.reg [co (some 146) (.binOp .eql 3 (.tmp 28) (.const (.int .i64 9)) 3) none,
              co (some 145) (.assign (.tmp 146)) none] [0, 1, 2, 7, 8, 145])
          (.cond (.tmp 145)
            (.seq (.reg [co (some 148) (.load 53 (.tmp 7)) none,
                co (some 149) (.call { callee := (.value (.func 111)), args := #[(.tmp 148)], argTypes := #[53] }) none,
                co (some 147) (.move (.tmp 149)) none,
                co (some 150) (.extract (.tmp 147) 0) none,
                co (some 151) (.extract (.tmp 147) 1) none,
                co (some 13) (.assign (.tmp 150)) none,
                co (some 14) (.assign (.tmp 151)) none] [0, 1, 2, 7, 8, 13, 14])
            (.seq (.reg [co (some 153) (.move (.tmp 0)) none,
                co (some 154) (.move (.tmp 8)) none,
                co (some 155) (.move (.tmp 13)) none,
                co (some 156) (.move (.tmp 14)) none,
                co (some 157) (.binOp .add 3 (.tmp 155) (.tmp 156) 3) none,
                co (some 158) (.binOp .mul 3 (.tmp 154) (.tmp 157) 3) none,
                co (some 159) (.binOp .add 3 (.const (.int .i64 1)) (.tmp 158) 3) none,
                co (some 160) (.call { callee := (.value (.func 70)), args := #[(.tmp 153), (.tmp 159)], argTypes := #[123, 3] }) none,
                co (some 152) (.move (.tmp 160)) none,
                co (some 161) (.extract (.tmp 152) 0) none,
                co (some 162) (.extract (.tmp 152) 1) none,
                co (some 15) (.assign (.tmp 161)) none,
                co (some 16) (.assign (.tmp 162)) none] [0, 1, 2, 7, 8, 13, 14, 15, 16])
            (.seq (.reg [co (some 163) (.move (.tmp 0)) none,
                co (some 164) (.move (.tmp 1)) none,
                co (some 165) (.move (.tmp 2)) none,
                co (some 166) (.move (.tmp 15)) none,
                co (some 167) (.move (.tmp 16)) none,
                co (some 168) (.move (.tmp 8)) none,
                co (some 169) (.move (.tmp 13)) none,
                co (some 170) (.move (.tmp 14)) none,
                co (some 171) (.binOp .add 3 (.tmp 169) (.tmp 170) 3) none,
                co (some 172) (.binOp .mul 3 (.tmp 168) (.tmp 171) 3) none,
                co (some 173) (.convert 3 26 (.tmp 172)) none,
                co (some 174) (.binOp .mul 26 (.const (.int .u64 8)) (.tmp 173) 26) none,
                co (some 175) (.binOp .add 26 (.const (.int .u64 7)) (.tmp 174) 26) none,
                co (some 176) (.call { callee := (.value (.func 108)), args := #[(.tmp 163), (.tmp 164), (.tmp 165), (.tmp 166), (.tmp 167), (.const (.int .u64 1)), (.tmp 175)], argTypes := #[123, 3, 3, 3, 3, 26, 26] }) none] [0, 7, 8, 13, 14, 15, 16])
            (.seq (.reg [co (some 177) (.move (.tmp 0)) none,
                co (some 178) (.move (.tmp 15)) none,
                co (some 179) (.move (.tmp 16)) none,
                co (some 180) (.move (.tmp 8)) none,
                co (some 181) (.binOp .mul 3 (.const (.int .i64 4)) (.tmp 180) 3) none,
                co (some 182) (.convert 3 26 (.tmp 181)) none,
                co (some 183) (.move (.tmp 13)) none,
                co (some 184) (.convert 3 26 (.tmp 183)) none,
                co (some 185) (.move (.tmp 14)) none,
                co (some 186) (.convert 3 26 (.tmp 185)) none,
                co (some 187) (.binOp .mul 26 (.const (.int .u64 65536)) (.tmp 186) 26) none,
                co (some 188) (.binOp .add 26 (.tmp 184) (.tmp 187) 26) none,
                co (some 189) (.binOp .mul 26 (.const (.int .u64 4294967296)) (.tmp 188) 26) none,
                co (some 190) (.binOp .add 26 (.tmp 182) (.tmp 189) 26) none,
                co (some 191) (.call { callee := (.value (.func 112)), args := #[(.tmp 177), (.tmp 178), (.tmp 179), (.tmp 190)], argTypes := #[123, 3, 3, 26] }) none] [0, 7, 8, 13, 14, 15, 16])
            (.seq (.reg [co (some 17) (.assign (.const (.int .i64 0))) none] [0, 7, 8, 13, 14, 15, 16, 17])
            (.block 3
              (.loop l1_centoref13_Builder_Lay)))))))
            (.seq (.reg [co (some 18) (.assign (.const (.slice none 0 0))) none] [0, 1, 2, 7, 8, 18])
            (.stop (.seq (.seq (.reg [co (some 19) (.assign (.const (.int .i64 0))) none] [0, 1, 2, 7, 8, 18, 19])
              (.block 1
                (.loop l2_centoref13_Builder_Lay)))
            (.keep [0, 1, 2, 7, 8, 18] (.seq (.reg [co (some 46) (.fieldAddr 53 (.tmp 7) 0) none,
                co (some 47) (.load 3 (.tmp 46)) none,
                co (some 48) (.binOp .sub 3 (.tmp 47) (.const (.int .i64 2)) 3) none,
                co (some 49) (.move (.tmp 18)) none,
                co (some 50) (.call { callee := (.value (.func 113)), args := #[(.tmp 48), (.tmp 49)], argTypes := #[3, 23] }) none,
                co (some 45) (.move (.tmp 50)) none,
                co (some 51) (.extract (.tmp 45) 0) none,
                co (some 52) (.extract (.tmp 45) 1) none,
                co (some 20) (.assign (.tmp 51)) none,
                co (some 21) (.assign (.tmp 52)) none] [0, 1, 2, 7, 8, 20])
            (.seq (.reg [co (some 54) (.move (.tmp 0)) none,
                co (some 55) (.move (.tmp 20)) none,
                co (some 56) (.call { callee := (.builtin .len), args := #[(.tmp 55)], argTypes := #[23] }) none,
                co (some 57) (.call { callee := (.value (.func 70)), args := #[(.tmp 54), (.tmp 56)], argTypes := #[123, 3] }) none,
                co (some 53) (.move (.tmp 57)) none,
                co (some 58) (.extract (.tmp 53) 0) none,
                co (some 59) (.extract (.tmp 53) 1) none,
                co (some 22) (.assign (.tmp 58)) none,
                co (some 23) (.assign (.tmp 59)) none] [0, 1, 2, 7, 8, 20, 22, 23])
            (.seq (.reg [co (some 60) (.move (.tmp 0)) none,
                co (some 61) (.move (.tmp 1)) none,
                co (some 62) (.move (.tmp 2)) none,
                co (some 63) (.move (.tmp 22)) none,
                co (some 64) (.move (.tmp 23)) none,
                co (some 65) (.fieldAddr 53 (.tmp 7) 0) none,
                co (some 66) (.load 3 (.tmp 65)) none,
                co (some 67) (.binOp .sub 3 (.tmp 66) (.const (.int .i64 2)) 3) none,
                co (some 68) (.convert 3 26 (.tmp 67)) none,
                co (some 69) (.move (.tmp 8)) none,
                co (some 70) (.convert 3 26 (.tmp 69)) none,
                co (some 71) (.binOp .mul 26 (.const (.int .u64 8)) (.tmp 70) 26) none,
                co (some 72) (.binOp .add 26 (.tmp 68) (.tmp 71) 26) none,
                co (some 73) (.call { callee := (.value (.func 108)), args := #[(.tmp 60), (.tmp 61), (.tmp 62), (.tmp 63), (.tmp 64), (.const (.int .u64 1)), (.tmp 72)], argTypes := #[123, 3, 3, 3, 3, 26, 26] }) none] [0, 20, 22, 23])
            (.reg [co (some 74) (.move (.tmp 0)) none,
              co (some 75) (.move (.tmp 22)) none,
              co (some 76) (.move (.tmp 23)) none,
              co (some 77) (.move (.tmp 20)) none,
              co (some 78) (.call { callee := (.value (.func 109)), args := #[(.tmp 74), (.tmp 75), (.tmp 76), (.tmp 77)], argTypes := #[123, 3, 3, 23] }) none] [])))))))))))))))))))
theorem t_centoref13_Builder_Lay : Txt Try.prog 71 238 [] c_centoref13_Builder_Lay := txt_of (code := Try.f71.body.getD .ret) mixed (by kernel_rfl) Try.func71 (by kernel_rfl) Try.ntmps71 (by kernel_rfl) (ls := [([0, 1, 2, 7], [(0, [2])]), ([], []), ([0, 1, 2, 7, 8], []), ([], []), ([0, 1, 2, 7, 8, 28], []), ([], []), ([0, 1, 2, 7, 8, 28, 79], []), ([], []), ([0, 1, 2, 7, 8, 28, 81], []), ([], []), ([0, 1, 2, 7, 8, 9, 10], []), ([], []), ([0, 7, 9, 10], []), ([], []), ([0, 7, 9, 10], []), ([], []), ([], []), ([0, 1, 2, 7, 8, 28, 122], []), ([], []), ([0, 1, 2, 7, 8, 11, 12], []), ([], []), ([0, 7, 11, 12], []), ([], []), ([], []), ([0, 1, 2, 7, 8, 145], []), ([], []), ([0, 1, 2, 7, 8, 13, 14], []), ([], []), ([0, 1, 2, 7, 8, 13, 14, 15, 16], []), ([], []), ([0, 7, 8, 13, 14, 15, 16], []), ([], []), ([0, 7, 8, 13, 14, 15, 16], []), ([], []), ([0, 7, 8, 13, 14, 15, 16, 17], []), ([], []), ([0, 7, 8, 13, 14, 15, 16, 17, 200], []), ([], []), ([999999, 0, 7, 8, 13, 14, 15, 16, 17], []), ([0, 7, 8, 13, 14, 15, 16, 17], []), ([], []), ([0, 7, 8, 13, 14, 15, 16, 17], []), ([], []), ([0, 7, 8, 13, 14, 15, 16, 17], []), ([0, 1, 2, 7, 8, 18], []), ([999998], []), ([0, 1, 2, 7, 8, 18, 19], []), ([], []), ([0, 1, 2, 7, 8, 18, 19, 31], []), ([], []), ([999999, 0, 1, 2, 7, 8, 18, 19], []), ([0, 1, 2, 7, 8, 18, 19], [(10, [3])]), ([999998], []), ([0, 1, 2, 7, 8, 18, 19], []), ([999999, 0, 1, 2, 7, 8, 18], []), ([0, 1, 2, 7, 8, 20], []), ([], []), ([0, 1, 2, 7, 8, 20, 22, 23], []), ([], []), ([0, 20, 22, 23], []), ([], []), ([], [])]) (by kernel_rfl)
def k1_centoref13_Build : CC :=
  .seq (.seq (.reg [co (some 39) (.move (.tmp 8)) none,
        co (some 40) (.nilCheck (.tmp 39)) none,
        co (some 41) (.fieldAddr 125 (.tmp 40) 1) none,
        co (some 42) (.load 4 (.tmp 41)) none,
        co (some 43) (.unOp .not 4 (.tmp 42)) none] [8, 43])
    (.cond (.tmp 43)
      (.seq (.reg [co (some 6) (.assign (.const (.slice none 0 0))) none,
          co (some 7) (.assign (.const (.bool false))) none] [6, 7])
      (.ret))
      (.skip)))
  (.keep [8] (.seq (.reg [co (some 44) (.move (.tmp 8)) none,
      co (some 45) (.nilCheck (.tmp 44)) none,
      co (some 46) (.fieldAddr 125 (.tmp 45) 0) none,
      co (some 47) (.load 38 (.tmp 46)) none,
      co (some 48) (.nilCheck (.tmp 47)) none,
      co (some 49) (.fieldAddr 44 (.tmp 48) 0) none,
      co (some 50) (.load 22 (.tmp 49)) none,
      co (some 6) (.assign (.tmp 50)) none,
      co (some 7) (.assign (.const (.bool true))) none] [6, 7])
  (.ret)))
/-- cento/centoref13.Build -/
def c_centoref13_Build : CC :=
  .seq (.reg [cn (some 3) (.box 53 (.tmp 0)) none [0],
      co (some 6) (.assign (.const (.slice none 0 0))) none,
      co (some 7) (.assign (.const (.bool false))) none] [1, 2, 3])
  (.seq (.seq (.reg [co (some 11) (.load 53 (.tmp 3)) none,
        co (some 12) (.call { callee := (.value (.func 69)), args := #[(.tmp 11), (.const (.int .i64 64))], argTypes := #[53, 3] }) none,
        co (some 13) (.unOp .not 4 (.tmp 12)) none,
        co (some 14) (.move (.tmp 13)) none,
        co (some 15) (.fieldAddr 53 (.tmp 3) 0) (some (14, false)),
        co (some 16) (.load 3 (.tmp 15)) (some (14, false)),
        co (some 17) (.binOp .eql 3 (.tmp 16) (.const (.int .i64 10)) 3) (some (14, false)),
        co (some 18) (.pick (.tmp 14) (.const (.bool true)) (.tmp 17)) none] [1, 2, 3, 18])
    (.cond (.tmp 18)
      (.seq (.reg [co (some 6) (.assign (.const (.slice none 0 0))) none,
          co (some 7) (.assign (.const (.bool false))) none] [6, 7])
      (.ret))
      (.skip)))
  (.keep [1, 2, 3] (.seq (.reg [co (some 19) (.move (.tmp 1)) none,
      co (some 20) (.move (.tmp 2)) none,
      co (some 21) (.call { callee := (.value (.func 21)), args := #[(.tmp 19), (.tmp 20)], argTypes := #[3, 3] }) none,
      co (some 22) (.build 125 #[(0, (.tmp 21)), (1, (.const (.bool true)))]) none,
      cn (some 23) (.box 125 (.tmp 22)) none [1],
      co (some 8) (.assign (.tmp 23)) none] [3, 8])
  (.seq (.reg [co (some 25) (.move (.tmp 8)) none,
      co (some 26) (.call { callee := (.value (.func 70)), args := #[(.tmp 25), (.const (.int .i64 1))], argTypes := #[123, 3] }) none,
      co (some 24) (.move (.tmp 26)) none,
      co (some 27) (.extract (.tmp 24) 0) none,
      co (some 28) (.extract (.tmp 24) 1) none,
      co (some 9) (.assign (.tmp 27)) none,
      co (some 10) (.assign (.tmp 28)) none] [3, 8, 9, 10])
  (.seq (.seq (.reg [co (some 29) (.move (.tmp 8)) none,
        co (some 30) (.nilCheck (.tmp 29)) none,
        co (some 31) (.fieldAddr 125 (.tmp 30) 1) none,
        co (some 32) (.load 4 (.tmp 31)) none] [3, 8, 9, 10, 32])
    (.cond (.tmp 32)
      (.reg [co (some 33) (.move (.tmp 8)) none,
        co (some 34) (.move (.tmp 9)) none,
        co (some 35) (.move (.tmp 10)) none,
        co (some 36) (.load 53 (.tmp 3)) none,
        co (some 37) (.call { callee := (.value (.func 47)), args := #[(.tmp 36)], argTypes := #[53] }) none,
        co (some 38) (.call { callee := (.value (.func 71)), args := #[(.tmp 33), (.tmp 34), (.tmp 35), (.tmp 37)], argTypes := #[123, 3, 3, 53] }) none] [8])
      (.skip)))
  (.keep [8] k1_centoref13_Build))))))
theorem t_centoref13_Build : Txt Try.prog 30 51 [(.tmp 6), (.tmp 7)] c_centoref13_Build := txt_of (code := Try.f30.body.getD .ret) mixed (by kernel_rfl) Try.func30 (by kernel_rfl) Try.ntmps30 (by kernel_rfl) (ls := [([1, 2, 3], [(0, [0])]), ([], []), ([1, 2, 3, 18], []), ([], []), ([6, 7], []), ([], []), ([999999, 1, 2, 3], []), ([3, 8], [(4, [1])]), ([], []), ([3, 8, 9, 10], []), ([], []), ([3, 8, 9, 10, 32], []), ([], []), ([8], []), ([999999, 8], []), ([8, 43], []), ([], []), ([6, 7], []), ([], []), ([999999, 8], []), ([6, 7], []), ([], [])]) (by kernel_rfl)
/-- cento/centolaw16.InternKids -/
def c_centolaw16_InternKids : CC :=
  .seq (.reg [cn (some 4) (.box 53 (.tmp 0)) none [0],
      cn (some 5) (.box 53 (.tmp 1)) none [1],
      co (some 8) (.assign (.const (.bool false))) none] [2, 3, 4, 5])
  (.seq (.seq (.reg [co (some 27) (.load 53 (.tmp 4)) none,
        co (some 28) (.call { callee := (.value (.func 28)), args := #[(.tmp 27)], argTypes := #[53] }) none,
        co (some 29) (.unOp .not 4 (.tmp 28)) none,
        co (some 30) (.move (.tmp 29)) none,
        co (some 31) (.load 53 (.tmp 5)) (some (30, false)),
        co (some 32) (.call { callee := (.value (.func 28)), args := #[(.tmp 31)], argTypes := #[53] }) (some (30, false)),
        co (some 33) (.unOp .not 4 (.tmp 32)) (some (30, false)),
        co (some 34) (.pick (.tmp 30) (.const (.bool true)) (.tmp 33)) none] [2, 3, 4, 5, 34])
    (.cond (.tmp 34)
      (.seq (.reg [co (some 35) (.call { callee := (.value (.func 29)), args := #[], argTypes := #[] }) none,
          co (some 8) (.assign (.tmp 35)) none] [8])
      (.ret))
      (.skip)))
  (.keep [2, 3, 4, 5] (.seq (.reg [co (some 37) (.load 53 (.tmp 4)) none,
      co (some 38) (.move (.tmp 2)) none,
      co (some 39) (.call { callee := (.value (.func 30)), args := #[(.tmp 37), (.tmp 38), (.const (.int .i64 131072))], argTypes := #[53, 3, 3] }) none,
      co (some 36) (.move (.tmp 39)) none,
      co (some 40) (.extract (.tmp 36) 0) none,
      co (some 41) (.extract (.tmp 36) 1) none,
      co (some 9) (.assign (.tmp 40)) none,
      co (some 10) (.assign (.tmp 41)) none] [3, 5, 9, 10])
  (.seq (.reg [co (some 43) (.load 53 (.tmp 5)) none,
      co (some 44) (.move (.tmp 3)) none,
      co (some 45) (.call { callee := (.value (.func 30)), args := #[(.tmp 43), (.tmp 44), (.const (.int .i64 131072))], argTypes := #[53, 3, 3] }) none,
      co (some 42) (.move (.tmp 45)) none,
      co (some 46) (.extract (.tmp 42) 0) none,
      co (some 47) (.extract (.tmp 42) 1) none,
      co (some 11) (.assign (.tmp 46)) none,
      co (some 12) (.assign (.tmp 47)) none] [9, 10, 11, 12])
  (.seq (.seq (.reg [co (some 48) (.move (.tmp 10)) none,
        co (some 49) (.unOp .not 4 (.tmp 48)) none,
        co (some 50) (.move (.tmp 49)) none,
        co (some 51) (.move (.tmp 12)) (some (50, false)),
        co (some 52) (.unOp .not 4 (.tmp 51)) (some (50, false)),
        co (some 53) (.pick (.tmp 50) (.const (.bool true)) (.tmp 52)) none] [9, 11, 53])
    (.cond (.tmp 53)
      (.seq (.reg [co (some 54) (.call { callee := (.value (.func 29)), args := #[], argTypes := #[] }) none,
          co (some 8) (.assign (.tmp 54)) none] [8])
      (.ret))
      (.skip)))
  (.keep [9, 11] (.seq (.reg [co (some 56) (.move (.tmp 9)) none,
      co (some 57) (.build 60 #[(0, (.const (.int .i64 64))), (1, (.const (.int .i64 65536)))]) none,
      co (some 58) (.call { callee := (.value (.func 31)), args := #[(.tmp 56), (.tmp 57)], argTypes := #[22, 60] }) none,
      co (some 55) (.move (.tmp 58)) none,
      co (some 59) (.extract (.tmp 55) 0) none,
      co (some 60) (.extract (.tmp 55) 1) none,
      co (some 61) (.extract (.tmp 55) 2) none,
      cn (some 13) (.alloc 53) none [2],
      co none (.store 53 (.tmp 13) (.tmp 59)) none,
      co (some 14) (.assign (.tmp 60)) none,
      co (some 15) (.assign (.tmp 61)) none] [9, 11, 13, 15])
  (.seq (.reg [co (some 63) (.move (.tmp 11)) none,
      co (some 64) (.build 60 #[(0, (.const (.int .i64 64))), (1, (.const (.int .i64 65536)))]) none,
      co (some 65) (.call { callee := (.value (.func 31)), args := #[(.tmp 63), (.tmp 64)], argTypes := #[22, 60] }) none,
      co (some 62) (.move (.tmp 65)) none,
      co (some 66) (.extract (.tmp 62) 0) none,
      co (some 67) (.extract (.tmp 62) 1) none,
      co (some 68) (.extract (.tmp 62) 2) none,
      cn (some 16) (.alloc 53) none [3],
      co none (.store 53 (.tmp 16) (.tmp 66)) none,
      co (some 17) (.assign (.tmp 67)) none,
      co (some 18) (.assign (.tmp 68)) none] [9, 11, 13, 15, 16, 18])
  (.seq (.seq (.reg [co (some 69) (.move (.tmp 15)) none,
        co (some 70) (.binOp .neq 3 (.tmp 69) (.const (.int .i64 0)) 3) none,
        co (some 71) (.move (.tmp 70)) none,
        co (some 72) (.move (.tmp 18)) (some (71, false)),
        co (some 73) (.binOp .neq 3 (.tmp 72) (.const (.int .i64 0)) 3) (some (71, false)),
        co (some 74) (.pick (.tmp 71) (.const (.bool true)) (.tmp 73)) none] [9, 11, 13, 16, 74])
    (.cond (.tmp 74)
      (.seq (.reg [co (some 75) (.call { callee := (.value (.func 29)), args := #[], argTypes := #[] }) none,
          co (some 8) (.assign (.tmp 75)) none] [8])
      (.ret))
      (.skip)))
  (.keep [9, 11, 13, 16] (.seq (.reg [co (some 76) (.call { callee := (.value (.func 32)), args := #[], argTypes := #[] }) none,
      co (some 19) (.assign (.tmp 76)) none] [9, 11, 13, 16, 19])
  (.seq (.reg [co (some 78) (.move (.tmp 19)) none,
      co (some 79) (.move (.tmp 9)) none,
      co (some 80) (.call { callee := (.value (.func 34)), args := #[(.tmp 79)], argTypes := #[22] }) none,
      co (some 81) (.call { callee := (.value (.func 33)), args := #[(.tmp 78), (.tmp 80)], argTypes := #[61, 68] }) none,
      co (some 77) (.move (.tmp 81)) none,
      co (some 82) (.extract (.tmp 77) 0) none,
      co (some 83) (.extract (.tmp 77) 1) none,
      co (some 20) (.assign (.tmp 82)) none,
      co (some 21) (.assign (.tmp 83)) none] [11, 13, 16, 19, 20, 21])
  (.seq (.reg [co (some 85) (.move (.tmp 19)) none,
      co (some 86) (.move (.tmp 11)) none,
      co (some 87) (.call { callee := (.value (.func 34)), args := #[(.tmp 86)], argTypes := #[22] }) none,
      co (some 88) (.call { callee := (.value (.func 33)), args := #[(.tmp 85), (.tmp 87)], argTypes := #[61, 68] }) none,
      co (some 84) (.move (.tmp 88)) none,
      co (some 89) (.extract (.tmp 84) 0) none,
      co (some 90) (.extract (.tmp 84) 1) none,
      co (some 22) (.assign (.tmp 89)) none,
      co (some 23) (.assign (.tmp 90)) none] [13, 16, 19, 20, 21, 22, 23])
  (.seq (.reg [co (some 24) (.assign (.const (.slice none 0 0))) none] [13, 16, 19, 20, 21, 22, 23, 24])
  (.stop (.seq (.reg [co (some 92) (.move (.tmp 24)) none,
      co (some 93) (.fieldAddr 53 (.tmp 13) 2) none,
      co (some 94) (.load 51 (.tmp 93)) none,
      co (some 95) (.call { callee := (.value (.func 35)), args := #[(.tmp 92), (.tmp 94)], argTypes := #[51, 51] }) none,
      co (some 91) (.move (.tmp 95)) none,
      co (some 96) (.extract (.tmp 91) 0) none,
      co (some 97) (.extract (.tmp 91) 1) none,
      co (some 24) (.assign (.tmp 96)) none,
      co (some 25) (.assign (.tmp 97)) none] [16, 19, 20, 21, 22, 23, 24, 25])
  (.seq (.reg [co (some 99) (.move (.tmp 24)) none,
      co (some 100) (.fieldAddr 53 (.tmp 16) 2) none,
      co (some 101) (.load 51 (.tmp 100)) none,
      co (some 102) (.call { callee := (.value (.func 35)), args := #[(.tmp 99), (.tmp 101)], argTypes := #[51, 51] }) none,
      co (some 98) (.move (.tmp 102)) none,
      co (some 103) (.extract (.tmp 98) 0) none,
      co (some 104) (.extract (.tmp 98) 1) none,
      co (some 24) (.assign (.tmp 103)) none,
      co (some 26) (.assign (.tmp 104)) none] [19, 20, 21, 22, 23, 24, 25, 26])
  (.seq (.reg [co (some 105) (.move (.tmp 21)) none,
      co (some 106) (.binOp .eql 64 (.tmp 105) (.const (.int .i64 0)) 64) none,
      co (some 107) (.move (.tmp 106)) none,
      co (some 108) (.move (.tmp 23)) (some (107, true)),
      co (some 109) (.binOp .eql 64 (.tmp 108) (.const (.int .i64 0)) 64) (some (107, true)),
      co (some 110) (.pick (.tmp 107) (.tmp 109) (.const (.bool false))) none,
      co (some 111) (.move (.tmp 110)) none,
      co (some 112) (.move (.tmp 20)) (some (111, true)),
      co (some 113) (.move (.tmp 25)) (some (111, true)),
      co (some 114) (.call { callee := (.value (.func 36)), args := #[(.tmp 112), (.tmp 113)], argTypes := #[63, 63] }) (some (111, true)),
      co (some 115) (.pick (.tmp 111) (.tmp 114) (.const (.bool false))) none,
      co (some 116) (.move (.tmp 115)) none,
      co (some 117) (.move (.tmp 22)) (some (116, true)),
      co (some 118) (.move (.tmp 26)) (some (116, true)),
      co (some 119) (.call { callee := (.value (.func 36)), args := #[(.tmp 117), (.tmp 118)], argTypes := #[63, 63] }) (some (116, true)),
      co (some 120) (.pick (.tmp 116) (.tmp 119) (.const (.bool false))) none,
      co (some 121) (.move (.tmp 120)) none,
      co (some 122) (.move (.tmp 19)) (some (121, true)),
      co (some 123) (.call { callee := (.value (.func 37)), args := #[(.tmp 122)], argTypes := #[61] }) (some (121, true)),
      co (some 124) (.move (.tmp 24)) (some (121, true)),
      co (some 125) (.call { callee := (.builtin .len), args := #[(.tmp 124)], argTypes := #[51] }) (some (121, true)),
      co (some 126) (.binOp .eql 3 (.tmp 123) (.tmp 125) 3) (some (121, true)),
      co (some 127) (.pick (.tmp 121) (.tmp 126) (.const (.bool false))) none,
      co (some 128) (.move (.tmp 127)) none,
      co (some 129) (.call { callee := (.value (.func 29)), args := #[], argTypes := #[] }) (some (128, true)),
      co (some 130) (.pick (.tmp 128) (.tmp 129) (.const (.bool false))) none,
      co (some 8) (.assign (.tmp 130)) none] [8])
  (.ret)))))))))))))))))))
theorem t_centolaw16_InternKids : Txt Try.prog 5 131 [(.tmp 8)] c_centolaw16_InternKids := txt_of (code := Try.f5.body.getD .ret) mixed (by kernel_rfl) Try.func5 (by kernel_rfl) Try.ntmps5 (by kernel_rfl) (ls := [([2, 3, 4, 5], [(0, [0]), (1, [1])]), ([], []), ([2, 3, 4, 5, 34], []), ([], []), ([8], []), ([], []), ([999999, 2, 3, 4, 5], []), ([3, 5, 9, 10], []), ([], []), ([9, 10, 11, 12], []), ([], []), ([9, 11, 53], []), ([], []), ([8], []), ([], []), ([999999, 9, 11], []), ([9, 11, 13, 15], [(7, [2])]), ([], []), ([9, 11, 13, 15, 16, 18], [(7, [3])]), ([], []), ([9, 11, 13, 16, 74], []), ([], []), ([8], []), ([], []), ([999999, 9, 11, 13, 16], []), ([9, 11, 13, 16, 19], []), ([], []), ([11, 13, 16, 19, 20, 21], []), ([], []), ([13, 16, 19, 20, 21, 22, 23], []), ([], []), ([13, 16, 19, 20, 21, 22, 23, 24], []), ([999998], []), ([16, 19, 20, 21, 22, 23, 24, 25], []), ([], []), ([19, 20, 21, 22, 23, 24, 25, 26], []), ([], []), ([8], []), ([], [])]) (by kernel_rfl)
end Go.Proofs.Ytehcobkphobjiaa
