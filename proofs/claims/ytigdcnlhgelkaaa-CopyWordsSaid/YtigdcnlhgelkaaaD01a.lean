/-
  The document's words: bytes, masks, small numbers.
-/
import Derived.Test.YtigdcnlhgelkaaaD07v
import Derived.Test.YtigdcnlhgelkaaaGFns1
namespace Go.Proofs.Ytigdcnlhgelkaaa
set_option linter.unusedVariables false
set_option linter.unusedSimpArgs false
open Go Go.G Go.Proofs Go.PL

theorem rWidth_spec (c : Int) : G.Spec Try.prog 84 [iv c] (iv (widthZ c)) := by
  refine spec_of t_centoref01_Width (by simp) fun w0 I0 => ?_
  unfold c_centoref01_Width
  by_cases h0 : c = 0
  · subst h0; simp; exact frz_is rfl rfl
  by_cases h1 : c = 1
  · subst h1; simp; exact frz_is rfl rfl
  by_cases h2 : c = 2
  · subst h2; simp; exact frz_is rfl rfl
  by_cases h3 : c = 3
  · subst h3; simp; exact frz_is rfl rfl
  by_cases h4 : c = 4
  · subst h4; simp; exact frz_is rfl rfl
  by_cases h5 : c = 5
  · subst h5; simp; exact frz_is rfl rfl
  simp [h0, h1, h2, h3, h4, h5]
  exact frz_is rfl (by simp [widthZ, h0, h1, h2, h3, h4, h5])
theorem widthZ_cases (c : Int) : widthZ c = -1 ∨ widthZ c = 0 ∨ widthZ c = 1 ∨ widthZ c = 8 ∨ widthZ c = 16 ∨ widthZ c = 32 ∨ widthZ c = 64 := by
  unfold widthZ; repeat' split
  all_goals simp

section
variable {n0 : Nat} {w0 : World} {I0 : Nat → Prop} {Q : Exit → Sta → Prop} {H : Hp}
theorem rFits_l1 {w : Int} (hw : w ≤ 64) : ∀ (m : Nat) (x i : Int), 0 ≤ x → x < 18446744073709551616 → 0 ≤ i → i + m = w → (∀ b, Q (.exit 0) ⟨lk [(1, uv (x / 2 ^ m)), (5, iv w), (6, iv w), (13, bv b)], H⟩) →
    LoopC (cx Try.prog w0 I0 n0) l1_centoref01_Fits Q ⟨lk [(1, uv x), (5, iv w), (6, iv i)], H⟩ := by
  intro m
  induction m with
  | zero =>
    intro x i h0 h1 h2 h3 hq
    have : i = w := by simpa using h3
    subst this
    refine loopC_once mixed l1_centoref01_Fits.eq_1 ?_
    simp
    simpa using hq _
  | succ m ih =>
    intro x i h0 h1 h2 h3 hq
    refine loopC_once mixed l1_centoref01_Fits.eq_1 ?_
    have hi : i < w := by omega
    simp [hi]
    rw [i64_same (by omega) (by omega), Int.tdiv_eq_ediv_of_nonneg h0, u64_same (by omega) (by omega)]
    exact ih _ _ (by omega) (by omega) (by omega) (by omega) (by rw [pow_half]; exact hq)
end
theorem rFits_spec {c n : Int} (h : u64R n) : G.Spec Try.prog 50 [iv c, uv n] (bv (fitsZ c n)) := by
  refine spec_of t_centoref01_Fits (by simp) fun w0 I0 => ?_
  unfold c_centoref01_Fits
  simp
  refine sc_call (rWidth_spec c) rfl ?_
  simp
  have hw := widthZ_cases c
  refine ⟨fun h0 => ?_, fun h0 => ?_⟩
  · refine frz_bool ?_
    simp [fitsZ]; omega
  · refine rFits_l1 (w := widthZ c) (by omega) (widthZ c).toNat n 0 h.1 h.2 (by omega) (by omega) (fun b => ?_)
    simp
    refine frz_bool ?_
    simp [fitsZ, h0]
theorem bitsZ_width (c : Int) : bitsZ c = if widthZ c < 1 then 0 else widthZ c := by
  unfold bitsZ widthZ
  by_cases h0 : c = 0
  · subst h0; rfl
  by_cases h1 : c = 1
  · subst h1; rfl
  by_cases h2 : c = 2
  · subst h2; rfl
  by_cases h3 : c = 3
  · subst h3; rfl
  by_cases h4 : c = 4
  · subst h4; rfl
  by_cases h5 : c = 5
  · subst h5; rfl
  simp [h0, h1, h2, h3, h4, h5]
theorem rRoom_spec (c n : Int) : G.Spec Try.prog 52 [iv c, iv n] (iv (roomZ c n)) := by
  refine spec_of t_centoref01_Room (by simp) fun w0 I0 => ?_
  unfold c_centoref01_Room
  simp
  refine sc_call (rWidth_spec c) rfl ?_
  simp
  have hw := widthZ_cases c
  have hb := bitsZ_width c
  refine ⟨fun h0 => ?_, fun a1 a2 a3 => ?_⟩
  · refine frz_int ?_
    unfold roomZ
    split
    · rfl
    · rw [hb, if_pos (by omega)]; simp
  · refine sc_call (rWidth_spec c) rfl ?_
    rw [if_neg (by omega)] at hb
    have hw : widthZ c = 1 ∨ widthZ c = 8 ∨ widthZ c = 16 ∨ widthZ c = 32 ∨ widthZ c = 64 := by omega
    have e : roomZ c n = (n * widthZ c + 63) / 64 := by unfold roomZ; rw [if_neg (by omega), hb]
    rw [e]
    generalize widthZ c = w at *
    simp
    have hq : (64 : Int).tdiv w = 64 / w := Int.tdiv_eq_ediv_of_nonneg (by omega)
    rcases hw with rfl | rfl | rfl | rfl | rfl
    all_goals
      simp [hq, Int.tdiv_eq_ediv_of_nonneg a2, Int.tmod_eq_emod_of_nonneg a2]
      simp (disch := omega) only [i64_same]
      simp
      first
        | exact ⟨fun h => frz_int (by omega), fun h => frz_int (by omega)⟩
        | exact frz_int (by omega)

section
variable {n0 : Nat} {w0 : World} {I0 : Nat → Prop} {Q : Exit → Sta → Prop} {H : Hp}
theorem rSame_l1 {a b : List Int} (hl : a.length = b.length) (hb : a.length * 8 ≤ 140737488355328) : ∀ (m i : Nat), i + m = a.length → a.take i = b.take i → (a = b → ∀ i q, Q (.exit 0) ⟨lk [(0, uws a), (1, uws b), (5, iv i), (14, bv q)], H⟩) → (a ≠ b → Q .ret ⟨lk [(4, bv false)], H⟩) →
    LoopC (cx Try.prog w0 I0 n0) l1_centoref01_Same Q ⟨lk [(0, uws a), (1, uws b), (5, iv i)], H⟩ := by
  intro m
  induction m with
  | zero =>
    intro i hi ht h1 h2
    have : i = a.length := by omega
    subst this
    refine loopC_once mixed l1_centoref01_Same.eq_1 ?_
    simp
    refine h1 ?_ _ _
    rw [List.take_of_length_le (Nat.le_refl _), List.take_of_length_le (by omega)] at ht
    exact ht
  | succ m ih =>
    intro i hi ht h1 h2
    have hlt : i < a.length := by omega
    have hlt' : i < b.length := by omega
    refine loopC_once mixed l1_centoref01_Same.eq_1 ?_
    simp [hlt, hlt']
    refine ⟨fun he => ?_, fun hne => h2 fun e => hne (by subst e; rfl)⟩
    rw [i64_same (by omega) (by omega)]
    refine ih (i + 1) (by omega) ?_ h1 h2
    rw [List.take_succ_eq_append_getElem hlt, List.take_succ_eq_append_getElem hlt', ht, he]
end
theorem rSame_spec (a b : List Int) (hb : a.length * 8 ≤ 140737488355328) : G.Spec Try.prog 42 [uws a, uws b] (bv (decide (a = b))) := by
  refine spec_of t_centoref01_Same (by simp) fun w0 I0 => ?_
  unfold c_centoref01_Same
  simp
  refine ⟨fun h => ?_, fun h => ?_⟩
  · refine rSame_l1 (by omega) hb a.length 0 (by omega) rfl (fun e i q => ?_) (fun e => ?_)
    · simp
      refine frz_bool ?_
      simp [e]
    · simp
      refine frz_bool ?_
      simp [e]
  · refine frz_bool ?_
    have : ¬ a = b := fun e => h (by rw [e])
    simp [this]

/-! ### the program's widths -/
theorem width_spec (c : Int) : G.Spec Try.prog 136 [iv c] (.tup [iv (if widthZ c < 0 then 0 else widthZ c), bv (decide (0 ≤ widthZ c))]) := by
  refine spec_of t_word_width (by simp) fun w0 I0 => ?_
  unfold c_word_width
  by_cases h0 : c = 0
  · subst h0; simp; exact frz_is rfl rfl
  by_cases h1 : c = 1
  · subst h1; simp; exact frz_is rfl rfl
  by_cases h2 : c = 2
  · subst h2; simp; exact frz_is rfl rfl
  by_cases h3 : c = 3
  · subst h3; simp; exact frz_is rfl rfl
  by_cases h4 : c = 4
  · subst h4; simp; exact frz_is rfl rfl
  by_cases h5 : c = 5
  · subst h5; simp; exact frz_is rfl rfl
  have hd : (decide (c < 0) || decide (6 ≤ c)) = true := by simp; omega
  simp [hd]
  exact frz_is rfl (by simp [widthZ, h0, h1, h2, h3, h4, h5])
theorem room_spec' (c n : Int) : G.Spec Try.prog 135 [iv c, iv n] (iv (roomZ c n)) := by
  refine spec_of t_word_Room (by simp) fun w0 I0 => ?_
  unfold c_word_Room
  simp
  refine sc_call (width_spec c) rfl ?_
  have hw := widthZ_cases c
  have hb := bitsZ_width c
  simp
  refine ⟨fun h0 => ?_, fun a1 a2 a3 => ?_⟩
  · refine frz_int ?_
    unfold roomZ
    split
    · rfl
    · rw [hb, if_pos (by omega)]; simp
  · have e : roomZ c n = (n * widthZ c + 63) / 64 := by
      unfold roomZ; rw [if_neg (by omega), hb]
      split
      · have : widthZ c = 0 := by omega
        simp [this]
      · rfl
    rw [e, if_neg (by omega)]
    generalize widthZ c = w at *
    have hw : w = 0 ∨ w = 1 ∨ w = 8 ∨ w = 16 ∨ w = 32 ∨ w = 64 := by omega
    refine frz_int ?_
    rcases hw with rfl | rfl | rfl | rfl | rfl | rfl
    all_goals
      try simp
      try simp (disch := omega) only [i64_same, Int.tdiv_eq_ediv_of_nonneg]
      try rfl
theorem data_spec (k : Int) : G.Spec Try.prog 151 [iv k] (bv (isData k)) := by
  refine spec_of t_tree_Data (by simp) fun w0 I0 => ?_
  unfold c_tree_Data
  simp
  refine frz_bool ?_
  simp [isData]

/-! ### without noughts at the end -/
section
variable {n0 : Nat} {w0 : World} {I0 : Nat → Prop} {Q : Exit → Sta → Prop} {H : Hp}
theorem rTrim_l1 {w : List Int} (hb : w.length * 8 ≤ 140737488355328) (hq : ∀ q, Q (.exit 0) ⟨lk [(0, uws w), (3, iv (trimW w).length), (16, bv q)], H⟩) : ∀ (n : Nat), n ≤ w.length → trimW (w.take n) = trimW w →
    LoopC (cx Try.prog w0 I0 n0) l1_centoref07_Trim Q ⟨lk [(0, uws w), (3, iv n)], H⟩ := by
  intro n
  induction n with
  | zero =>
    intro hn ht
    refine loopC_once mixed l1_centoref07_Trim.eq_1 ?_
    simp
    have e : (trimW w).length = 0 := by rw [← ht]; rfl
    have := hq false
    rw [e] at this
    exact this
  | succ n ih =>
    intro hn ht
    have hlt : n < w.length := by omega
    have e : IntKind.i64.wrap (n : Int) = n := i64_same (by omega) (by omega)
    refine loopC_once mixed l1_centoref07_Trim.eq_1 ?_
    by_cases h0 : w[n] = 0
    · simp [e, hlt, h0]
      exact ih (by omega) (by rw [← trimW_zero hlt h0]; exact ht)
    · have e2 : (trimW w).length = n + 1 := by rw [← ht, trimW_stop hlt h0]; simp; omega
      have := hq false
      rw [e2] at this
      simp [e, hlt, h0]
      simpa using this
end
theorem rTrim_spec (w : List Int) (hb : w.length * 8 ≤ 140737488355328) : G.Spec Try.prog 54 [uws w] (uws (trimW w)) := by
  refine spec_of t_centoref07_Trim (by simp) fun w0 I0 => ?_
  unfold c_centoref07_Trim
  simp
  refine rTrim_l1 hb (fun q => ?_) w.length (Nat.le_refl _) (by rw [List.take_of_length_le (Nat.le_refl _)])
  have hl := trimW_le w
  have hb' : (trimW w).length * 8 ≤ 140737488355328 := by omega
  simp [hl]
  refine ⟨hb', ?_⟩
  rw [← List.map_take, ← trimW_take]
  exact frz_row (by simp) rfl (by simp)

/-! ### bytes -/
abbrev bys (l : List Int) : List A := l.map u8
/-- So many bytes, the lowest one first. -/
def bytesN : Nat → Int → List Int
  | 0, _ => []
  | m + 1, x => x % 256 :: bytesN m (x / 256)
@[simp] theorem bytesN_length : ∀ (m : Nat) (x : Int), (bytesN m x).length = m
  | 0, _ => rfl
  | m + 1, x => by simp [bytesN, bytesN_length m]
theorem splice_set {l : List Int} {i : Nat} {v : Int} (h : i < l.length) : splice (l.map u8) i [u8 v] = (l.set i v).map u8 := by
  apply List.ext_getElem?
  intro j
  simp only [splice, List.length_singleton]
  rw [List.append_assoc, List.map_set]
  by_cases h1 : j < i
  · rw [List.getElem?_append_left (by simp; omega), List.getElem?_take, if_pos h1, List.getElem?_set_ne (by omega)]
  · rw [List.getElem?_append_right (by simp; omega)]
    have e : (List.take i (l.map u8)).length = i := by simp; omega
    rw [e]
    by_cases h2 : j = i
    · subst h2
      rw [List.getElem?_set_self (by simpa using h)]
      simp
    · rw [List.getElem?_set_ne (by omega), List.getElem?_append_right (by simp; omega), List.getElem?_drop]
      congr 1
      simp; omega
theorem splice_at (a : List A) (x v : A) (b : List A) : splice (a ++ x :: b) a.length [v] = a ++ v :: b := by simp [splice]
section
variable {n0 : Nat} {w0 : World} {I0 : Nat → Prop} {Q : Exit → Sta → Prop}
theorem rBytes_l1 : ∀ (m : Nat) (i : Nat) (x : Int) (d : List Int) (H : Hp), 0 ≤ x → x < 18446744073709551616 → i + m = 8 → d.length = i → H [1] = ⟨1, .cells (bys (d ++ List.replicate m 0))⟩ → H [0] = ⟨1, .cells (bys (List.replicate 8 0))⟩ →
    (∀ x' q H', H' [1] = ⟨1, .cells (bys (d ++ bytesN m x))⟩ → H' [0] = ⟨1, .cells (bys (List.replicate 8 0))⟩ → Q (.exit 0) ⟨lk [(0, uv x'), (2, .pob [0] 1 0), (3, .pob [1] 1 0), (4, iv 8), (7, bv q)], H'⟩) →
    LoopC (cx Try.prog w0 I0 n0) l1_centoref01_Bytes Q ⟨lk [(0, uv x), (2, .pob [0] 1 0), (3, .pob [1] 1 0), (4, iv i)], H⟩ := by
  intro m
  induction m with
  | zero =>
    intro i x d H h0 h1 hi hd hH hH0 hq
    have : i = 8 := by omega
    subst this
    refine loopC_once mixed l1_centoref01_Bytes.eq_1 ?_
    simp
    exact hq _ _ _ (by simpa [bytesN] using hH) hH0
  | succ m ih =>
    intro i x d H h0 h1 hi hd hH hH0 hq
    refine loopC_once mixed l1_centoref01_Bytes.eq_1 ?_
    have hlt : (i : Int) < 8 := by omega
    simp [hlt, hH]
    refine ⟨by omega, ?_⟩
    have ht : x.tmod 256 = x % 256 := Int.tmod_eq_emod_of_nonneg h0
    have e8 : IntKind.u8.wrap (x % 256) = x % 256 := by rw [IntKind.wrap_u8]; omega
    rw [Int.tdiv_eq_ediv_of_nonneg h0, ht, u64_same (by omega) (by omega), e8, i64_same (by omega) (by omega)]
    refine ih (i + 1) (x / 256) (d ++ [x % 256]) _ (by omega) (by omega) (by omega) (by simp [hd]) ?_ (by simp [updF_app, hH0]) (fun x' q H' k1 k0 => hq x' q H' (by rw [k1]; simp [bytesN]) k0)
    simp [updF_app]
    rw [List.replicate_succ, ← hd]
    simpa using splice_at (List.map u8 d) (u8 0) (u8 (x % 256)) (List.replicate m (u8 0))
end
def bytesZ (x : Int) : List Int := bytesN 8 x
theorem frz_bytes {H : Hp} {l : List Int} : Frz H (.agg (bys l)) (.agg (bys l)) := frz_bare (by simp)
theorem rBytes_spec {x : Int} (h : u64R x) : G.Spec Try.prog 137 [uv x] (.agg (bys (bytesZ x))) := by
  refine spec_of t_centoref01_Bytes (by simp) fun w0 I0 => ?_
  unfold c_centoref01_Bytes
  simp
  refine rBytes_l1 8 0 x [] _ h.1 h.2 rfl rfl (by simp) (by simp) (fun x' q H' h1 h0 => ?_)
  have e : List.take 8 (bys (bytesN 8 x)) = bys (bytesN 8 x) := List.take_of_length_le (by simp)
  simp [h1, h0, updF_app, e]
  exact ⟨by simp [A.ones], frz_bytes⟩
section
variable {n0 : Nat} {w0 : World} {I0 : Nat → Prop} {Q : Exit → Sta → Prop} {H : Hp}
theorem rNamed_l1 {k : Int} (hk : k ≤ 8) : ∀ (m : Nat) (x i : Int), 0 ≤ x → x < 256 → 0 ≤ i → i + m = k → (∀ q, Q (.exit 0) ⟨lk [(0, u8 (x / 2 ^ m)), (1, iv k), (5, iv k), (8, bv q)], H⟩) →
    LoopC (cx Try.prog w0 I0 n0) l1_centoref01_Named Q ⟨lk [(0, u8 x), (1, iv k), (5, iv i)], H⟩ := by
  intro m
  induction m with
  | zero =>
    intro x i h0 h1 h2 h3 hq
    have : i = k := by simpa using h3
    subst this
    refine loopC_once mixed l1_centoref01_Named.eq_1 ?_
    simp
    simpa using hq _
  | succ m ih =>
    intro x i h0 h1 h2 h3 hq
    refine loopC_once mixed l1_centoref01_Named.eq_1 ?_
    have hi : i < k := by omega
    simp [hi]
    have e8 : IntKind.u8.wrap (x / 2) = x / 2 := by rw [IntKind.wrap_u8]; omega
    rw [i64_same (by omega) (by omega), Int.tdiv_eq_ediv_of_nonneg h0, e8]
    exact ih _ _ (by omega) (by omega) (by omega) (by omega) (by rw [pow_half]; exact hq)
end
def namedZ (x : Int) (i : Nat) : Bool := decide (x / 2 ^ i % 2 = 1)
theorem rNamed_spec {x : Int} (h0 : 0 ≤ x) (h1 : x < 256) {i : Nat} (hi : i ≤ 8) : G.Spec Try.prog 138 [u8 x, iv i] (bv (namedZ x i)) := by
  refine spec_of t_centoref01_Named (by simp) fun w0 I0 => ?_
  unfold c_centoref01_Named
  simp
  refine rNamed_l1 (by omega) i x 0 h0 h1 (by omega) (by omega) (fun q => ?_)
  simp
  refine frz_bool ?_
  have : 0 ≤ x / 2 ^ i := Int.ediv_nonneg h0 (Int.le_of_lt (Int.pow_pos (by decide)))
  rw [Int.tmod_eq_emod_of_nonneg this]
  rfl

/-- The word of bytes. -/
def ofZ : List Int → Int
  | [] => 0
  | b :: l => b + 256 * ofZ l
theorem ofZ_range : ∀ (l : List Int), (∀ b, b ∈ l → 0 ≤ b ∧ b < 256) → 0 ≤ ofZ l ∧ ofZ l < 256 ^ l.length
  | [], _ => by simp [ofZ]
  | b :: l, h => by
    have h1 := h b (by simp)
    have h2 := ofZ_range l fun x hx => h x (by simp [hx])
    simp only [ofZ, List.length_cons, Int.pow_succ]
    omega
section
variable {n0 : Nat} {w0 : World} {I0 : Nat → Prop} {Q : Exit → Sta → Prop} {H : Hp}
theorem rOf_l1 {f : Bool} {l : List Int} (hl : l.length = 8) (hr : ∀ b, b ∈ l → 0 ≤ b ∧ b < 256) : ∀ (m : Nat) (x j : Int), m ≤ 8 → x = ofZ (l.drop m) → j = (m : Int) - 1 → (∀ q, Q (.exit 0) ⟨lk [(0, .sl f (bys l)), (1, iv 0), (5, uv (ofZ l)), (6, iv (-1)), (8, bv q)], H⟩) →
    LoopC (cx Try.prog w0 I0 n0) l1_centoref01_Of Q ⟨lk [(0, .sl f (bys l)), (1, iv 0), (5, uv x), (6, iv j)], H⟩ := by
  intro m
  induction m with
  | zero =>
    intro x j hm hx hj hq
    subst hx hj
    refine loopC_once mixed l1_centoref01_Of.eq_1 ?_
    simp
    simpa using hq false
  | succ m ih =>
    intro x j hm hx hj hq
    subst hx hj
    have hlt : m < l.length := by omega
    have hd := ofZ_range (l.drop m) fun b hb => hr b (List.mem_of_mem_drop hb)
    have hp : (256 : Int) ^ (l.drop m).length ≤ 18446744073709551616 := by
      have h2 := Int.ofNat_le.2 (Nat.pow_le_pow_right (n := 256) (by decide) (by simp; omega : (l.drop m).length ≤ 8))
      rw [Int.natCast_pow] at h2
      exact h2
    have e1 : l.drop m = l[m] :: l.drop (m + 1) := List.drop_eq_getElem_cons hlt
    have hb := hr l[m] (List.getElem_mem hlt)
    have ez : ofZ (l.drop m) = l[m] + 256 * ofZ (l.drop (m + 1)) := by rw [e1, ofZ]
    have hd1 := ofZ_range (l.drop (m + 1)) fun b hb => hr b (List.mem_of_mem_drop hb)
    refine loopC_once mixed l1_centoref01_Of.eq_1 ?_
    have em : IntKind.i64.wrap (m : Int) = m := i64_same (by omega) (by omega)
    have hm0 : (0 : Int) ≤ m := by omega
    have hm8 : (m : Int) < 8 := by omega
    simp [em, hl, hm8, List.getElem?_eq_getElem hlt]
    have e64 : IntKind.u64.wrap l[m] = l[m] := u64_same (by omega) (by omega)
    rw [e64, u64_same (n := ofZ (List.drop (m + 1) l) * 256) (by omega) (by omega), u64_same (by omega) (by omega), i64_same (by omega) (by omega)]
    exact ih _ _ (by omega) (by rw [ez]; omega) rfl hq
end
theorem rOf_spec {f : Bool} {l : List Int} (hl : l.length = 8) (hr : ∀ b, b ∈ l → 0 ≤ b ∧ b < 256) : G.Spec Try.prog 139 [.sl f (bys l), iv 0] (uv (ofZ l)) := by
  refine spec_of t_centoref01_Of (by simp) fun w0 I0 => ?_
  unfold c_centoref01_Of
  simp
  refine rOf_l1 hl hr 8 0 7 (Nat.le_refl _) ?_ rfl (fun q => ?_)
  · rw [List.drop_of_length_le (by omega)]; rfl
  · simp
    exact frz_bare rfl
theorem bytesN_range : ∀ (m : Nat) (x : Int), ∀ b, b ∈ bytesN m x → 0 ≤ b ∧ b < 256
  | m + 1, x, b, h => by
    rcases List.mem_cons.1 h with rfl | h
    · omega
    · exact bytesN_range m _ b h
def mixL (a b : List Int) (mask : Int) (k : Nat) : List Int := (List.range k).map (fun i => if namedZ mask i = true then b.getD i 0 else a.getD i 0) ++ a.drop k
theorem mixL_length {a b : List Int} {mask : Int} {k : Nat} (h : k ≤ a.length) : (mixL a b mask k).length = a.length := by simp [mixL]; omega
theorem mixL_succ {a b : List Int} {mask : Int} {k : Nat} (h : k < a.length) : mixL a b mask (k + 1) = if namedZ mask k = true then (mixL a b mask k).set k (b.getD k 0) else mixL a b mask k := by
  unfold mixL
  rw [List.range_succ]
  have e0 : a.drop k = a[k] :: a.drop (k + 1) := List.drop_eq_getElem_cons h
  have e : ((List.range k).map (fun i => if namedZ mask i = true then b.getD i 0 else a.getD i 0)).length = k := by simp
  split
  · rename_i hn
    rw [List.set_append_right _ _ (by omega), e, e0, Nat.sub_self, List.set_cons_zero]
    simp [hn]
  · rename_i hn
    rw [e0]
    simp [hn, List.getElem?_eq_getElem h]
section
variable {n0 : Nat} {w0 : World} {I0 : Nat → Prop} {Q : Exit → Sta → Prop}
theorem rMix_l1 {a b : List Int} {mask : Int} (ha : a.length = 8) (hb : b.length = 8) (h0 : 0 ≤ mask) (h1 : mask < 256) (hq : ∀ q H', H' [0] = ⟨1, .cells (bys (mixL a b mask 8))⟩ → Q (.exit 0) ⟨lk [(2, u8 mask), (7, .pob [0] 1 0), (8, .pob [1] 1 0), (9, iv 8), (15, bv q)], H'⟩) : ∀ (m i : Nat) (H : Hp), i + m = 8 → H [0] = ⟨1, .cells (bys (mixL a b mask i))⟩ → H [1] = ⟨1, .cells (bys b)⟩ →
    LoopC (cx Try.prog w0 I0 n0) l1_centoref01_Mix Q ⟨lk [(2, u8 mask), (7, .pob [0] 1 0), (8, .pob [1] 1 0), (9, iv i)], H⟩ := by
  intro m
  induction m with
  | zero =>
    intro i H hi hA hB
    have : i = 8 := by omega
    subst this
    refine loopC_once mixed l1_centoref01_Mix.eq_1 ?_
    simp
    exact hq _ _ hA
  | succ m ih =>
    intro i H hi hA hB
    have hlt : (i : Int) < 8 := by omega
    have hml := mixL_length (a := a) (b := b) (mask := mask) (k := i) (by omega)
    have hia : i < (mixL a b mask i).length := by omega
    have hib : i < b.length := by omega
    refine loopC_once mixed l1_centoref01_Mix.eq_1 ?_
    simp [hlt]
    refine sc_call (rNamed_spec h0 h1 (by omega)) rfl ?_
    have hs := mixL_succ (a := a) (b := b) (mask := mask) (k := i) (by omega)
    cases hn : namedZ mask i with
    | false =>
      simp [hn] at hs
      simp
      rw [i64_same (by omega) (by omega)]
      exact ih (i + 1) H (by omega) (by rw [hs]; exact hA) hB
    | true =>
      simp [hn] at hs
      simp [hlt, hA, hB, List.getElem?_eq_getElem hib]
      refine ⟨by omega, ?_⟩
      rw [i64_same (by omega) (by omega)]
      refine ih (i + 1) _ (by omega) ?_ (by simp [updF_app, hB])
      rw [hs]
      simp only [updF_app, if_true]
      rw [splice_set hia]
      simp [List.getElem?_eq_getElem hib]
end
def mixZ (a b mask : Int) : Int := ofZ (mixL (bytesZ a) (bytesZ b) mask 8)
theorem mixL_range {a b mask : Int} {k : Nat} : ∀ x, x ∈ mixL (bytesZ a) (bytesZ b) mask k → 0 ≤ x ∧ x < 256 := by
  have hg : ∀ (y : Int) (i : Nat), 0 ≤ (bytesZ y).getD i 0 ∧ (bytesZ y).getD i 0 < 256 := fun y i => by
    rw [List.getD_eq_getElem?_getD]
    cases e : (bytesZ y)[i]? with
    | none => simp
    | some z => exact bytesN_range 8 y z (List.mem_of_getElem? e)
  intro x hx
  rcases List.mem_append.1 hx with hx | hx
  · obtain ⟨i, _, rfl⟩ := List.mem_map.1 hx
    split
    · exact hg b i
    · exact hg a i
  · exact bytesN_range 8 a x (List.mem_of_mem_drop hx)
theorem bytesZ_length (x : Int) : (bytesZ x).length = 8 := bytesN_length 8 x
theorem rMix_spec {a b mask : Int} (ha : u64R a) (hb : u64R b) (h0 : 0 ≤ mask) (h1 : mask < 256) : G.Spec Try.prog 115 [uv a, uv b, u8 mask] (uv (mixZ a b mask)) := by
  refine spec_of t_centoref01_Mix (by simp) fun w0 I0 => ?_
  unfold c_centoref01_Mix
  simp
  refine sc_call (rBytes_spec ha) rfl ?_
  simp
  refine sc_call (rBytes_spec hb) rfl ?_
  have l8 := bytesZ_length a
  have m8 := bytesZ_length b
  have o1 : ∀ l : List Int, A.ones (bys l) = true := fun l => by simp [A.ones]
  simp [l8, m8, o1]
  refine rMix_l1 l8 m8 h0 h1 (fun q H' hH => ?_) 8 0 _ (by omega) (by simp [mixL]) (by simp)
  simp
  have lm : (mixL (bytesZ a) (bytesZ b) mask 8).length = 8 := by rw [mixL_length (by omega), l8]
  refine stop_le (le_freezeD (fun _ h => h) [0] 7 (.pim (bys (mixL (bytesZ a) (bytesZ b) mask 8))) (fun H1 h1 => ?_)) (stop_go ?_)
  · rw [hH] at h1
    exact frz_pob (by simp [getC, h1]) (frzL_bare (by simp)) (o1 _)
  have e : List.take 8 (bys (mixL (bytesZ a) (bytesZ b) mask 8)) = bys (mixL (bytesZ a) (bytesZ b) mask 8) := List.take_of_length_le (by simp [lm])
  simp [lm, e]
  refine sc_call (rOf_spec lm mixL_range) rfl ?_
  simp
  exact frz_bare rfl
end Go.Proofs.Ytigdcnlhgelkaaa
