/-
  Texts, merged, without what is not reached.
-/
import Derived.Test.YtgimfagpolbelaaDoorKTa
/-
  Chapter 4's functions: the program's own.
-/
namespace Go.Proofs.YtgimfagpolbelaaDoor
set_option linter.unusedVariables false
set_option linter.unusedSimpArgs false
open Go Go.G Go.Proofs
theorem u64_mask (i : Nat) (hi : i ≤ 64) {x : Int} (h0 : 0 ≤ x) (h1 : x < 18446744073709551616) : bits .and .u64 x (2 ^ i - 1) = x % 2 ^ i :=
  bits_mask .u64 64 (by decide) (fun n a b => u64_same a b) i hi x h0 h1
end Go.Proofs.YtgimfagpolbelaaDoor

/-
  strconv.FormatUint at base sixteen.
-/
namespace Go.Proofs.YtgimfagpolbelaaDoor
set_option linter.unusedVariables false
set_option linter.unusedSimpArgs false
open Go Go.G Go.Proofs Go.PL
theorem pow2_spec : G.Spec Tryd.prog 58 [iv 16] (bv true) := by
  refine spec_of t_internal_strconv_isPowerOfTwo (by simp) fun w0 I0 => ?_
  unfold c_internal_strconv_isPowerOfTwo
  simp
  exact frz_bool (by decide)
/-- The array so far: zeros, then digits. -/
def zsA (i : Nat) (ds : List UInt8) : List A := List.replicate i (.v (.int .u8 0)) ++ ds.map u8v
theorem zsA_put (i : Nat) (ds : List UInt8) (c : UInt8) : splice (zsA (i + 1) ds) i [u8v c] = zsA i (c :: ds) := by
  unfold splice zsA
  rw [List.take_append_of_le_length (by simp), List.take_replicate]
  have e : (List.replicate (i + 1) (A.v (.int .u8 0)) ++ ds.map u8v).drop (i + [u8v c].length) = ds.map u8v := by
    rw [List.drop_append_of_le_length (by simp)]
    simp
  rw [e]
  simp
theorem zsA_len (i : Nat) (ds : List UInt8) : (zsA i ds).length = i + ds.length := by simp [zsA]
theorem digits_get (n : Nat) (h : n < 16) : ([48, 49, 50, 51, 52, 53, 54, 55, 56, 57, 97, 98, 99, 100, 101, 102, 103, 104, 105, 106, 107, 108, 109, 110, 111, 112, 113, 114, 115, 116, 117, 118, 119, 120, 121, 122] : List UInt8)[n]? = some (hexD n) := by
  have : ∀ n : Nat, n < 16 → ([48, 49, 50, 51, 52, 53, 54, 55, 56, 57, 97, 98, 99, 100, 101, 102, 103, 104, 105, 106, 107, 108, 109, 110, 111, 112, 113, 114, 115, 116, 117, 118, 119, 120, 121, 122] : List UInt8)[n]? = some (hexD n) := by decide
  exact this n h
theorem u64_and15 (n : Nat) (h : n < 18446744073709551616) : bits .and .u64 (n : Int) 15 = ((n % 16 : Nat) : Int) := by
  have := u64_mask 4 (by decide) (x := (n : Int)) (by omega) (by omega)
  simpa using this
section
variable {n0 : Nat} {w0 : World} {I0 : Nat → Prop} {Q : Exit → Sta → Prop}
theorem fmt_l1 : ∀ (n : Nat) (i : Nat) (ds : List UInt8) (H : Hp), n < 18446744073709551616 → i ≤ 65 → (hexS n).length ≤ i → H [0] = ⟨1, .cells (zsA i ds)⟩ →
    (∀ (H' : Hp) (m i' : Nat) (ds' : List UInt8), H' [0] = ⟨1, .cells (zsA i' ds')⟩ → m < 16 → hexD m :: ds' = hexS n ++ ds → i' + ds'.length = i + ds.length → 1 ≤ i' → i' ≤ 65 → Q (.exit 0) ⟨lk [(0, .sl true []), (1, uv m), (3, bv false), (4, bv false), (10, .sl true []), (11, S []), (12, .pob [0] 1 0), (13, iv i'), (14, uv 4), (15, uv 16), (16, uv 15), (46, bv false)], H'⟩) →
    LoopC (cx Tryd.prog w0 I0 n0) l1_internal_strconv_formatBits Q ⟨lk [(0, .sl true []), (1, uv n), (3, bv false), (4, bv false), (10, .sl true []), (11, S []), (12, .pob [0] 1 0), (13, iv i), (14, uv 4), (15, uv 16), (16, uv 15)], H⟩ := by
  intro n
  induction n using Nat.strongRecOn with
  | _ n ih =>
    intro i ds H hn hi hl hH hq
    refine loopC_once mixed l1_internal_strconv_formatBits.eq_1 ?_
    have hp := hexS_pos n
    by_cases h16 : n < 16
    · simp [hH, show ¬ (16 : Int) ≤ n by omega]
      exact hq H n i ds hH h16 (by rw [hexS_lt h16]; rfl) rfl (by omega) hi
    · have hge := hexS_ge (n := n) (by omega)
      have hp2 := hexS_pos (n / 16)
      have hl2 : (hexS n).length = (hexS (n / 16)).length + 1 := by rw [hge]; simp
      obtain ⟨j, rfl⟩ : ∃ j, i = j + 1 := ⟨i - 1, by omega⟩
      have e1 : IntKind.i64.wrap (j : Int) = (j : Int) := i64_same (by omega) (by omega)
      obtain ⟨q, hqd⟩ : ∃ q, q = n / 16 := ⟨_, rfl⟩
      have e2 : (n : Int) / 2 ^ min 4 IntKind.u64.bits = (q : Int) := by
        rw [show min 4 IntKind.u64.bits = 4 from rfl]
        omega
      have hm : n % 16 < 16 := Nat.mod_lt _ (by omega)
      have h0 : 0 ≤ (n : Int) % 16 := by omega
      have hdg := digits_get _ hm
      rw [show n % 16 = ((n : Int) % 16).toNat by omega] at hdg
      simp [hH, show (16 : Int) ≤ n by omega, u64_and15 n hn, e1, e2, h0, hdg, zsA_put, zsA_len]
      refine ⟨by omega, ?_⟩
      refine ih q (by omega) j (hexD ((n : Int) % 16).toNat :: ds) _ (by omega) (by omega) (by rw [hqd]; omega) (by simp) fun H' m i' ds' g1 g2 g3 g4 g5 g6 => ?_
      refine hq H' m i' ds' g1 g2 ?_ (by rw [g4]; simp; omega) g5 g6
      rw [g3, hge, ← hqd, show ((n : Int) % 16).toNat = n % 16 by omega]
      simp
end
theorem fmtBits_spec (n : Nat) (hn : n < 18446744073709551616) : G.Spec Tryd.prog 51 [.sl true [], uv n, iv 16, bv false, bv false] (.tup [.sl false [], S (hexS n)]) := by
  refine spec_of t_internal_strconv_formatBits (by simp) fun w0 I0 => ?_
  unfold c_internal_strconv_formatBits
  simp
  rw [k4_internal_strconv_formatBits.eq_1]
  simp
  rw [k3_internal_strconv_formatBits.eq_1]
  simp
  refine sc_call pow2_spec rfl ?_
  simp
  refine sc_call tz_spec rfl ?_
  have w4 : IntKind.u64.wrap 4 = 4 := by decide
  have w16 : IntKind.u64.wrap 16 = 16 := by decide
  have w15 : IntKind.u64.wrap (16 - 1) = 15 := by decide
  simp [w4, w16, w15]
  have hlen := hexS_len 16 n (by omega) (by omega)
  refine fmt_l1 n 65 [] _ hn (by omega) (by omega) (by simp; rfl) fun H' m i' ds' g1 g2 g3 g4 g5 g6 => ?_
  obtain ⟨j, rfl⟩ : ∃ j, i' = j + 1 := ⟨i' - 1, by omega⟩
  have e1 : IntKind.i64.wrap (j : Int) = (j : Int) := i64_same (by omega) (by omega)
  have hdg := digits_get m g2
  simp at g3
  simp at g4
  simp [g1, e1, hdg, zsA_put, zsA_len, show (j : Int) < 65 by omega]
  rw [k2_internal_strconv_formatBits.eq_1]
  simp
  rw [k1_internal_strconv_formatBits.eq_1]
  simp
  refine stop_le (le_freezeD (d := [0]) (fun _ h => h) 12 (.pim (zsA j (hexS n))) fun H1 h1 => frz_pob (cs := zsA j (hexS n)) (by simp [h1, g3]) (frzL_bare (List.all_eq_true.2 fun x hx => ?_)) ?_) (stop_go ?_)
  · unfold zsA at hx
    rcases List.mem_append.1 hx with hx | hx
    · rw [List.eq_of_mem_replicate hx]; rfl
    · obtain ⟨b, _, rfl⟩ := List.mem_map.1 hx; rfl
  · unfold A.ones zsA
    rw [List.all_append, List.all_map, List.all_replicate]
    simp
  · have hd : ((zsA j (hexS n)).drop j).take (65 - j) = (hexS n).map u8v := by
      unfold zsA
      rw [List.drop_append_of_le_length (by simp), List.drop_replicate, Nat.sub_self, List.replicate_zero, List.nil_append, List.take_of_length_le (by rw [← g3]; simp; omega)]
    simp [zsA_len, show (j : Int) ≤ 65 by omega, hd]
    exact ⟨by rw [← g3]; simp; omega, frz_tup ⟨frz_sl, frz_bare rfl, trivial⟩⟩
theorem fmtUint_spec (n : Nat) (hn : n < 18446744073709551616) : G.Spec Tryd.prog 26 [uv n, iv 16] (S (hexS n)) := by
  have h1 : G.Spec Tryd.prog 40 [uv n, iv 16] (S (hexS n)) := by
    refine spec_of t_internal_strconv_FormatUint (by simp) fun w0 I0 => ?_
    unfold c_internal_strconv_FormatUint
    simp
    refine sc_call (fmtBits_spec n hn) rfl ?_
    simp
    exact frz_bare rfl
  refine spec_of t_strconv_FormatUint (by simp) fun w0 I0 => ?_
  unfold c_strconv_FormatUint
  simp
  refine sc_call h1 rfl ?_
  simp
  exact frz_bare rfl
end Go.Proofs.YtgimfagpolbelaaDoor

/-
  Chapter 6's functions: arenas that are only read.
-/
namespace Go.Proofs.YtgimfagpolbelaaDoor
set_option linter.unusedVariables false
set_option linter.unusedSimpArgs false
open Go Go.G Go.Proofs
abbrev ws (l : List Int) : A := .sl false (l.map uv)
abbrev sgs (l : List (List Int)) : A := .sl false (l.map ws)
@[simp] theorem lens_ws (l : List (List Int)) : lens 1 (l.map ws) = true := by simp [lens]
/-- An arena that is only read. -/
abbrev arX (l : List (List Int)) (z m u : Int) : A := .pim [sgs l, iv z, iv m, iv u]
abbrev arn (l : List (List Int)) : A := arX l 0 0 0
/-- A segment; its length. -/
def seg (l : List (List Int)) (s : Int) : Option (List Int) := if 0 ≤ s then l[s.toNat]? else none
def szAt (l : List (List Int)) (s : Int) : Nat := ((seg l s).map List.length).getD 0
/-- Are so many words, from one on, in a segment? -/
def hasW (l : List (List Int)) (s a n : Int) : Bool := decide (0 ≤ s ∧ s < l.length ∧ 0 ≤ a ∧ 0 ≤ n ∧ a + n ≤ szAt l s)
/-- A word. -/
def word (l : List (List Int)) (s a : Int) : Option Int := if 0 ≤ a then (seg l s).bind fun g => g[a.toNat]? else none
/-- Words. -/
def part (l : List (List Int)) (s a n : Int) : List Int := (((seg l s).getD []).drop a.toNat).take n.toNat
end Go.Proofs.YtgimfagpolbelaaDoor

/-
  Chapter 6: far pointers are followed, by the program and by the document.
-/
namespace Go.Proofs.YtgimfagpolbelaaDoor
set_option linter.unusedVariables false
set_option linter.unusedSimpArgs false
open Go Go.G Go.Proofs
/-- How many bits each kid has. -/
def bitsOf (c : Int) : Int := if c = 0 then 0 else if c = 1 then 1 else if c = 2 then 8 else if c = 3 then 16 else if c = 4 then 32 else 64
/-- How many words what is pointed to takes. -/
def wordsP (p : Pt) : Option Int :=
  if p.kind = 1 then some (p.data + p.ptrs)
  else if p.kind = 2 ∧ p.code = 7 then some (p.count + 1)
  else if p.kind = 2 ∧ 0 ≤ p.code ∧ p.code ≤ 6 ∧ 0 ≤ p.count ∧ p.count ≤ 536870911 then some ((p.count * bitsOf p.code + 63) / 64)
  else none
/-- What a pointer points to. -/
structure Lc where
  p : Pt
  s : Int
  at_ : Int
deriving DecidableEq
def Pt.l (p : Pt) : List A := [iv p.kind, iv p.off, iv p.data, iv p.ptrs, iv p.code, iv p.count, iv p.seg, bv p.dbl]
@[simp] theorem Pt.l_eq (p : Pt) : p.l = [iv p.kind, iv p.off, iv p.data, iv p.ptrs, iv p.code, iv p.count, iv p.seg, bv p.dbl] := rfl
def Pt.zero : Pt := ⟨0, 0, 0, 0, 0, 0, 0, false⟩
def Lc.zero : Lc := ⟨Pt.zero, 0, 0⟩
abbrev Lc.a (x : Lc) : A := .agg [iv x.p.kind, iv x.p.off, iv x.p.data, iv x.p.ptrs, iv x.p.code, iv x.p.count, iv x.p.seg, bv x.p.dbl, iv x.s, iv x.at_]
/-- All of it in its segment? -/
def insideP (l : List (List Int)) (x : Lc) : Lc × Int := if hasW l x.s x.at_ ((wordsP x.p).getD 0) = true then (⟨{ x.p with off := 0 }, x.s, x.at_⟩, 0) else (Lc.zero, 7)
def nearP (l : List (List Int)) (p : Pt) (s a : Int) : Lc × Int :=
  if p.kind = 1 ∨ p.kind = 2 then insideP l ⟨p, s, a + 1 + p.off⟩ else if p.kind = 4 then (Lc.zero, 9) else (Lc.zero, 8)
/-- All of it are words. -/
def Wds (l : List (List Int)) : Prop := ∀ x, x ∈ l → ∀ y, y ∈ x → 0 ≤ y ∧ y < 18446744073709551616
/-- Two words: a far pointer to what is meant, and its shape. -/
def doubleP (l : List (List Int)) (s a : Int) : Lc × Int :=
  match word l s a, word l s (a + 1) with
  | some v, some w =>
    if (dec v).kind ≠ 3 ∨ (dec v).dbl = true then (Lc.zero, 8)
    else if (dec w).kind = 4 then (Lc.zero, 9)
    else if ((dec w).kind ≠ 1 ∧ (dec w).kind ≠ 2) ∨ (dec w).off ≠ 0 then (Lc.zero, 8)
    else insideP l ⟨dec w, (dec v).seg, (dec v).off⟩
  | _, _ => (Lc.zero, 7)
/-- What the pointer points to that stands in a word. -/
def followP (l : List (List Int)) (s a : Int) : Lc × Int :=
  match word l s a with
  | none => (Lc.zero, 7)
  | some w =>
    if (dec w).kind = 0 then (Lc.zero, 0)
    else if (dec w).kind ≠ 3 then nearP l (dec w) s a
    else if (dec w).dbl = true then doubleP l (dec w).seg (dec w).off
    else match word l (dec w).seg (dec w).off with
      | none => (Lc.zero, 7)
      | some v => nearP l (dec v) (dec w).seg (dec w).off
end Go.Proofs.YtgimfagpolbelaaDoor

/-
  Chapters 9 and 10, plain: values where they lie, and what they mean.
-/
namespace Go.Proofs.YtgimfagpolbelaaDoor
set_option linter.unusedVariables false
set_option linter.unusedSimpArgs false
open Go Go.G Go.Proofs Go.PL
/-- A value where it lies. -/
structure Rf where
  kind : Int
  s : Int
  at_ : Int
  data : Int
  kids : Int
  count : Int
  n : Int
def Rf.zero : Rf := ⟨0, 0, 0, 0, 0, 0, 0⟩
def nk (r : Rf) : Int := if r.kind = 1 then r.kids else r.count
def compP (l : List (List Int)) (s a m : Int) : Rf × Int :=
  if ((word l s a).getD 0 ≠ 0 ∧ (dec ((word l s a).getD 0)).kind ≠ 1) ∨ (dec ((word l s a).getD 0)).off < 0 ∨ m < (dec ((word l s a).getD 0)).off * ((dec ((word l s a).getD 0)).data + (dec ((word l s a).getD 0)).ptrs) then (Rf.zero, 8)
  else (⟨9, s, a + 1, (dec ((word l s a).getD 0)).data, (dec ((word l s a).getD 0)).ptrs, (dec ((word l s a).getD 0)).off, 0⟩, 0)
/-- What a shape at a place is. -/
def refP (l : List (List Int)) (x : Lc) : Rf × Int :=
  if x.p.kind = 1 then (⟨1, x.s, x.at_, x.p.data, x.p.ptrs, 0, 0⟩, 0)
  else if x.p.code < 7 then (⟨2 + x.p.code, x.s, x.at_, 0, 0, x.p.count, 0⟩, 0)
  else compP l x.s x.at_ x.p.count
def atP (l : List (List Int)) (s a : Int) : Rf × Int :=
  if (followP l s a).2 ≠ 0 ∨ (followP l s a).1.p.kind = 0 then (Rf.zero, (followP l s a).2) else refP l (followP l s a).1
def getZ (g : List Int) (c i : Int) : Int :=
  if widthZ c < 1 ∨ i < 0 ∨ 1099511627776 < i then 0 else ((g[(i * widthZ c / 64).toNat]?).getD 0) / 2 ^ (i * widthZ c % 64).toNat % 2 ^ (widthZ c).toNat
def atomZ (l : List (List Int)) (r : Rf) (i : Int) : Int := getZ (((seg l r.s).getD []).drop r.at_.toNat) (r.kind - 2) i
def kidP (l : List (List Int)) (r : Rf) (i : Int) : Rf × Int :=
  if i < 0 ∨ nk r ≤ i then (Rf.zero, 0)
  else if r.kind = 1 then atP l r.s (r.at_ + r.data + i)
  else if r.kind = 8 then atP l r.s (r.at_ + i)
  else if r.kind = 9 then (⟨1, r.s, r.at_ + i * (r.data + r.kids), r.data, r.kids, 0, 0⟩, 0)
  else (⟨10, 0, 0, 0, 0, 0, atomZ l r i⟩, 0)
def wordsR (l : List (List Int)) (r : Rf) : List Int := if r.kind = 10 then [r.n] else if r.kind ≠ 1 then [] else part l r.s r.at_ r.data
/-- It lies in its segment. -/
inductive RfOk (l : List (List Int)) : Rf → Prop
  | zero : RfOk l Rf.zero
  | str (s a d k : Int) : 0 ≤ d → d < 65536 → 0 ≤ k → k < 65536 → hasW l s a (d + k) = true → RfOk l ⟨1, s, a, d, k, 0, 0⟩
  | dat (c s a n : Int) : 0 ≤ c → c < 6 → 0 ≤ n → n < 536870912 → hasW l s a ((n * bitsOf c + 63) / 64) = true → RfOk l ⟨2 + c, s, a, 0, 0, n, 0⟩
  | ptrs (s a n : Int) : 0 ≤ n → n < 536870912 → hasW l s a n = true → RfOk l ⟨8, s, a, 0, 0, n, 0⟩
  | comp (s a d k n : Int) : 0 ≤ d → d < 65536 → 0 ≤ k → k < 65536 → 0 ≤ n → n < 536870912 → hasW l s a (n * (d + k)) = true → RfOk l ⟨9, s, a, d, k, n, 0⟩
  | atom (n : Int) : 0 ≤ n → n < 18446744073709551616 → RfOk l ⟨10, 0, 0, 0, 0, 0, n⟩
/-! ### what is followed lies in its segment -/
/-! ### what it means -/
inductive Means (l : List (List Int)) : Rf → T → Prop
  | mk (r : Rf) (t : T) : RfOk l r → r.kind = t.kind → wordsR l r = t.words → nk r = t.kids.length → (∀ (i : Nat) (h : i < t.kids.length), (kidP l r i).2 = 0) → (∀ (i : Nat) (h : i < t.kids.length), Means l (kidP l r i).1 t.kids[i]) → Means l r t
end Go.Proofs.YtgimfagpolbelaaDoor

/-
  The document's words: bytes, masks, small numbers.
-/
namespace Go.Proofs.YtgimfagpolbelaaDoor
set_option linter.unusedVariables false
set_option linter.unusedSimpArgs false
open Go Go.G Go.Proofs Go.PL
theorem rWidth_spec (c : Int) : G.Spec Tryd.prog 24 [iv c] (iv (widthZ c)) := by
  refine spec_of t_centoref01_Width (by simp) fun w0 I0 => ?_
  unfold c_centoref01_Width
  by_cases h0 : c = 0
  · subst h0; simp; exact frz_is rfl rfl
  by_cases h1 : c = 1
  · subst h1; simp; exact frz_is rfl rfl
  by_cases h2 : c = 2
  · subst h2; simp; exact frz_is rfl rfl
  by_cases h3 : c = 3
  · subst h3; simp; exact frz_is rfl rfl
  by_cases h4 : c = 4
  · subst h4; simp; exact frz_is rfl rfl
  by_cases h5 : c = 5
  · subst h5; simp; exact frz_is rfl rfl
  simp [h0, h1, h2, h3, h4, h5]
  exact frz_is rfl (by simp [widthZ, h0, h1, h2, h3, h4, h5])
theorem widthZ_cases (c : Int) : widthZ c = -1 ∨ widthZ c = 0 ∨ widthZ c = 1 ∨ widthZ c = 8 ∨ widthZ c = 16 ∨ widthZ c = 32 ∨ widthZ c = 64 := by
  unfold widthZ; repeat' split
  all_goals simp
section
variable {n0 : Nat} {w0 : World} {I0 : Nat → Prop} {Q : Exit → Sta → Prop} {H : Hp}
theorem rFits_l1 {w : Int} (hw : w ≤ 64) : ∀ (m : Nat) (x i : Int), 0 ≤ x → x < 18446744073709551616 → 0 ≤ i → i + m = w → (∀ b, Q (.exit 0) ⟨lk [(1, uv (x / 2 ^ m)), (5, iv w), (6, iv w), (13, bv b)], H⟩) →
    LoopC (cx Tryd.prog w0 I0 n0) l1_centoref01_Fits Q ⟨lk [(1, uv x), (5, iv w), (6, iv i)], H⟩ := by
  intro m
  induction m with
  | zero =>
    intro x i h0 h1 h2 h3 hq
    have : i = w := by simpa using h3
    subst this
    refine loopC_once mixed l1_centoref01_Fits.eq_1 ?_
    simp
    simpa using hq _
  | succ m ih =>
    intro x i h0 h1 h2 h3 hq
    refine loopC_once mixed l1_centoref01_Fits.eq_1 ?_
    have hi : i < w := by omega
    simp [hi]
    rw [i64_same (by omega) (by omega), Int.tdiv_eq_ediv_of_nonneg h0, u64_same (by omega) (by omega)]
    exact ih _ _ (by omega) (by omega) (by omega) (by omega) (by rw [pow_half]; exact hq)
end
theorem rFits_spec {c n : Int} (h : u64R n) : G.Spec Tryd.prog 15 [iv c, uv n] (bv (fitsZ c n)) := by
  refine spec_of t_centoref01_Fits (by simp) fun w0 I0 => ?_
  unfold c_centoref01_Fits
  simp
  refine sc_call (rWidth_spec c) rfl ?_
  simp
  have hw := widthZ_cases c
  refine ⟨fun h0 => ?_, fun h0 => ?_⟩
  · refine frz_bool ?_
    simp [fitsZ]; omega
  · refine rFits_l1 (w := widthZ c) (by omega) (widthZ c).toNat n 0 h.1 h.2 (by omega) (by omega) (fun b => ?_)
    simp
    refine frz_bool ?_
    simp [fitsZ, h0]
section
variable {n0 : Nat} {w0 : World} {I0 : Nat → Prop} {Q : Exit → Sta → Prop} {H : Hp}
theorem rSame_l1 {a b : List Int} (hl : a.length = b.length) (hb : a.length * 8 ≤ 140737488355328) : ∀ (m i : Nat), i + m = a.length → a.take i = b.take i → (a = b → ∀ i q, Q (.exit 0) ⟨lk [(0, uws a), (1, uws b), (5, iv i), (14, bv q)], H⟩) → (a ≠ b → Q .ret ⟨lk [(4, bv false)], H⟩) →
    LoopC (cx Tryd.prog w0 I0 n0) l1_centoref01_Same Q ⟨lk [(0, uws a), (1, uws b), (5, iv i)], H⟩ := by
  intro m
  induction m with
  | zero =>
    intro i hi ht h1 h2
    have : i = a.length := by omega
    subst this
    refine loopC_once mixed l1_centoref01_Same.eq_1 ?_
    simp
    refine h1 ?_ _ _
    rw [List.take_of_length_le (Nat.le_refl _), List.take_of_length_le (by omega)] at ht
    exact ht
  | succ m ih =>
    intro i hi ht h1 h2
    have hlt : i < a.length := by omega
    have hlt' : i < b.length := by omega
    refine loopC_once mixed l1_centoref01_Same.eq_1 ?_
    simp [hlt, hlt']
    refine ⟨fun he => ?_, fun hne => h2 fun e => hne (by subst e; rfl)⟩
    rw [i64_same (by omega) (by omega)]
    refine ih (i + 1) (by omega) ?_ h1 h2
    rw [List.take_succ_eq_append_getElem hlt, List.take_succ_eq_append_getElem hlt', ht, he]
end
theorem rSame_spec (a b : List Int) (hb : a.length * 8 ≤ 140737488355328) : G.Spec Tryd.prog 22 [uws a, uws b] (bv (decide (a = b))) := by
  refine spec_of t_centoref01_Same (by simp) fun w0 I0 => ?_
  unfold c_centoref01_Same
  simp
  refine ⟨fun h => ?_, fun h => ?_⟩
  · refine rSame_l1 (by omega) hb a.length 0 (by omega) rfl (fun e i q => ?_) (fun e => ?_)
    · simp
      refine frz_bool ?_
      simp [e]
    · simp
      refine frz_bool ?_
      simp [e]
  · refine frz_bool ?_
    have : ¬ a = b := fun e => h (by rw [e])
    simp [this]
/-! ### the program's widths -/
theorem width_spec (c : Int) : G.Spec Tryd.prog 60 [iv c] (.tup [iv (if widthZ c < 0 then 0 else widthZ c), bv (decide (0 ≤ widthZ c))]) := by
  refine spec_of t_word_width (by simp) fun w0 I0 => ?_
  unfold c_word_width
  by_cases h0 : c = 0
  · subst h0; simp; exact frz_is rfl rfl
  by_cases h1 : c = 1
  · subst h1; simp; exact frz_is rfl rfl
  by_cases h2 : c = 2
  · subst h2; simp; exact frz_is rfl rfl
  by_cases h3 : c = 3
  · subst h3; simp; exact frz_is rfl rfl
  by_cases h4 : c = 4
  · subst h4; simp; exact frz_is rfl rfl
  by_cases h5 : c = 5
  · subst h5; simp; exact frz_is rfl rfl
  have hd : (decide (c < 0) || decide (6 ≤ c)) = true := by simp; omega
  simp [hd]
  exact frz_is rfl (by simp [widthZ, h0, h1, h2, h3, h4, h5])
theorem data_spec (k : Int) : G.Spec Tryd.prog 43 [iv k] (bv (isData k)) := by
  refine spec_of t_tree_Data (by simp) fun w0 I0 => ?_
  unfold c_tree_Data
  simp
  refine frz_bool ?_
  simp [isData]
/-! ### without noughts at the end -/
section
variable {n0 : Nat} {w0 : World} {I0 : Nat → Prop} {Q : Exit → Sta → Prop} {H : Hp}
end
/-! ### bytes -/
section
variable {n0 : Nat} {w0 : World} {I0 : Nat → Prop} {Q : Exit → Sta → Prop}
end
section
variable {n0 : Nat} {w0 : World} {I0 : Nat → Prop} {Q : Exit → Sta → Prop} {H : Hp}
end
section
variable {n0 : Nat} {w0 : World} {I0 : Nat → Prop} {Q : Exit → Sta → Prop} {H : Hp}
end
section
variable {n0 : Nat} {w0 : World} {I0 : Nat → Prop} {Q : Exit → Sta → Prop}
end
end Go.Proofs.YtgimfagpolbelaaDoor

/-
  Trees and edits as arguments, whatever the room of their slices; operations under a guard.
-/
namespace Go.Proofs.YtgimfagpolbelaaDoor
set_option linter.unusedVariables false
set_option linter.unusedSimpArgs false
open Go Go.G Go.Proofs Go.PL
@[simp] theorem GtG_shift {q : Bool} {n : Nat} {y : A} {K : A → Prop} : GtG q (A.shift n (gd q y)) K = GtG q (A.shift n y) K := GtG_same fun h => by rw [h]; rfl
/-! ### slices of any room -/
theorem soft_uv (l : List Int) : A.softL (l.map uv) = l.map uv := by
  rw [softL_map, List.map_map]; rfl
theorem soft_tA : ∀ t : T, (tA t).soft = tA t := by
  refine T.ind fun k w l ih => ?_
  rw [tA_eq]
  simp only [A.soft, A.softL, T.kind_mk, T.words_mk, T.kids_mk, soft_uv]
  have e : l.map (A.soft ∘ tA) = l.map tA := List.map_congr_left fun t ht => ih t ht
  rw [softL_map, List.map_map, e]
  rfl
theorem soft_tKs (l : List T) : A.softL (l.map tA) = l.map tA := by
  rw [softL_map, List.map_map]
  exact List.map_congr_left fun t _ => soft_tA t
end Go.Proofs.YtgimfagpolbelaaDoor

/-
  Chapter 9: values are read where they lie, by the program.
-/
namespace Go.Proofs.YtgimfagpolbelaaDoor
set_option linter.unusedVariables false
set_option linter.unusedSimpArgs false
open Go Go.G Go.Proofs Go.PL
/-- Segments that memory can hold. -/
structure Sg (l : List (List Int)) : Prop where
  b : ∀ x, x ∈ l → x.length * 8 ≤ 140737488355328
  w : Wds l
def arO (l : List (List Int)) (r : Rf) : A := if r.kind = 0 then .v (.pointer none) else arn l
@[simp] theorem arO_cells (l : List (List Int)) (r : Rf) : (arO l r).cells = [arO l r] := by unfold arO; split <;> rfl
@[simp] theorem arO_one (l : List (List Int)) (r : Rf) : (arO l r).one = true := by unfold arO; split <;> rfl
@[simp] theorem arO_bare (l : List (List Int)) (r : Rf) : (arO l r).bare = true := by unfold arO; split <;> rfl
@[simp] theorem arO_bare1 (l : List (List Int)) (r : Rf) : (arO l r).bare1 = true := by unfold arO; split <;> rfl
@[simp] theorem arO_bare2 (l : List (List Int)) (r : Rf) : (arO l r).bare2 = true := by unfold arO; split <;> rfl
abbrev paL (l : List (List Int)) (r : Rf) : List A := [arO l r, iv r.kind, iv r.s, iv r.at_, iv r.data, iv r.kids, iv r.count, uv r.n]
/-! ### small numbers -/
/-! ### a value -/
end Go.Proofs.YtgimfagpolbelaaDoor

/-
  The document's trees.
-/
namespace Go.Proofs.YtgimfagpolbelaaDoor
set_option linter.unusedVariables false
set_option linter.unusedSimpArgs false
open Go Go.G Go.Proofs Go.PL
mutual
theorem shallow_range : ∀ (t : T) (d : Nat) (n : Int), -1 ≤ shallow d n t ∧ (-1 ≤ n → shallow d n t ≤ n)
  | .mk k w l, d, n => by
    rw [shallow_mk]
    split
    · omega
    · have := shallowL_range l (d - 1) (n - 1 - w.length) (by omega)
      omega
theorem shallowL_range : ∀ (l : List T) (d : Nat) (n : Int), -1 ≤ n → -1 ≤ shallowL d n l ∧ shallowL d n l ≤ n
  | [], d, n, h => by simp; omega
  | t :: l, d, n, h => by
    rw [shallowL_cons]
    split
    · omega
    · have h1 := shallow_range t d n
      have h2 := shallowL_range l d (shallow d n t) h1.1
      omega
end
theorem shallowL_neg (l : List T) (d : Nat) {n : Int} (h : n < 0) : shallowL d n l = n := by
  cases l with
  | nil => simp
  | cons t l => simp [h]
section
variable {n0 : Nat} {w0 : World} {I0 : Nat → Prop} {Q : Exit → Sta → Prop}
theorem shallow_l1 {t : T} {d : Nat} (hd : 1 ≤ d) (hd1 : d ≤ 1000) (hl : t.kids.length * 56 ≤ 140737488355328) (ih : ∀ c, c ∈ t.kids → ∀ (d : Nat) (n : Int), d ≤ 1000 → 0 ≤ n → n ≤ 1000000 → G.Spec Tryd.prog 14 [tX c, iv d, iv n] (iv (shallow d n c)))
    {H : Hp} (hH : H [0] = ⟨1, .cells [iv t.kind, uws t.words, tKs t.kids]⟩) : ∀ (m i : Nat) (n : Int), i + m = t.kids.length → -1 ≤ n → n ≤ 1000000 →
    (∀ i' q, Q (.exit 0) ⟨lk [(1, iv d), (2, iv (shallowL (d - 1) n (t.kids.drop i))), (3, .pob [0] 1 0), (7, iv i'), (28, bv q)], H⟩) →
    LoopC (cx Tryd.prog w0 I0 n0) l1_centoref07_Shallow Q ⟨lk [(1, iv d), (2, iv n), (3, .pob [0] 1 0), (7, iv i)], H⟩ := by
  intro m
  induction m with
  | zero =>
    intro i n hi h1 h2 hq
    have : i = t.kids.length := by omega
    subst this
    refine loopC_once mixed l1_centoref07_Shallow.eq_1 ?_
    simp [hH]
    simpa using hq _ false
  | succ m ihm =>
    intro i n hi h1 h2 hq
    have hlt : i < t.kids.length := by omega
    refine loopC_once mixed l1_centoref07_Shallow.eq_1 ?_
    have e : t.kids.drop i = t.kids[i] :: t.kids.drop (i + 1) := List.drop_eq_getElem_cons hlt
    by_cases hn : n < 0
    · simp [hH, hlt, show ¬ (0 : Int) ≤ n by omega]
      have := hq i false
      rwa [shallowL_neg _ _ hn] at this
    · have hn' : 0 ≤ n := by omega
      simp [hH, hlt, hn']
      have ed : IntKind.i64.wrap ((d : Int) - 1) = ((d - 1 : Nat) : Int) := by rw [i64_same (by omega) (by omega)]; omega
      rw [ed]
      refine sc_call (ih _ (List.getElem_mem hlt) (d - 1) n (by omega) hn' h2) rfl ?_
      simp
      have hr := shallow_range t.kids[i] (d - 1) n
      rw [i64_same (by omega) (by omega)]
      refine ihm (i + 1) _ (by omega) hr.1 (by omega) fun i' q => ?_
      have := hq i' q
      rw [e, shallowL_cons, if_neg (by omega)] at this
      exact this
end
theorem shallow_spec : ∀ (t : T), wfT t → ∀ (d : Nat) (n : Int), d ≤ 1000 → 0 ≤ n → n ≤ 1000000 → G.Spec Tryd.prog 14 [tX t, iv d, iv n] (iv (shallow d n t)) := by
  refine T.ind fun k w l ih hw d n hd hn hn1 => ?_
  have hw' := wfT_iff.1 hw
  have hwl := hw'.wl
  have hkl := hw'.kl
  simp at hwl hkl
  have ihc : ∀ c, c ∈ (T.mk k w l).kids → ∀ (d : Nat) (n : Int), d ≤ 1000 → 0 ≤ n → n ≤ 1000000 → G.Spec Tryd.prog 14 [tX c, iv d, iv n] (iv (shallow d n c)) := fun c hc => ih c hc (hw'.ks c hc)
  refine spec_of t_centoref07_Shallow (by simp) fun w0 I0 => ?_
  unfold c_centoref07_Shallow
  have e1 : IntKind.i64.wrap (IntKind.i64.wrap (n - 1) - (w.length : Int)) = n - 1 - w.length := by rw [i64_same (n := n - 1) (by omega) (by omega), i64_same (by omega) (by omega)]
  rw [shallow_mk]
  by_cases hc : d = 0 ∨ n - 1 - (w.length : Int) < 0
  · have hd : (decide (d = 0) || decide (n - 1 - (w.length : Int) < 0)) = true := by simp; omega
    simp [e1, hd, hc]
    exact frz_bare rfl
  · have hd : (decide (d = 0) || decide (n - 1 - (w.length : Int) < 0)) = false := by simp; omega
    simp [e1, hd, hc]
    refine shallow_l1 (t := .mk k w l) (by omega) (by omega) hkl ihc (by simp) l.length 0 _ (by simp) (by omega) (by omega) fun i' q => ?_
    simp
    exact frz_bare rfl
def fewT (t : T) : Bool := decide (0 ≤ shallow 80 3000 t)
theorem few_spec {t : T} (h : wfT t) : G.Spec Tryd.prog 6 [tX t] (bv (fewT t)) := by
  refine spec_of t_centoref07_Few (by simp) fun w0 I0 => ?_
  unfold c_centoref07_Few
  simp
  refine sc_call (shallow_spec t h 80 3000 (by omega) (by omega) (by omega)) rfl ?_
  simp
  exact frz_bare rfl
end Go.Proofs.YtgimfagpolbelaaDoor

/-
  The document's trees: what they have at the most, whether they are the same, the Norm.
-/
namespace Go.Proofs.YtgimfagpolbelaaDoor
set_option linter.unusedVariables false
set_option linter.unusedSimpArgs false
open Go Go.G Go.Proofs Go.PL
abbrev tL (t : T) : List A := [iv t.kind, uws t.words, tKs t.kids]
section
variable {n0 : Nat} {w0 : World} {I0 : Nat → Prop} {Q : Exit → Sta → Prop}
end
/-! ### the same -/
section
variable {n0 : Nat} {w0 : World} {I0 : Nat → Prop} {Q : Exit → Sta → Prop}
theorem same_l1 {a b : T} (hl : a.kids.length * 56 ≤ 140737488355328) (hn : a.kids.length = b.kids.length) (ih : ∀ c, c ∈ a.kids → ∀ u, G.Spec Tryd.prog 12 [tX c, tX u] (bv (sameB c u)))
    {H : Hp} (hA : H [0] = ⟨1, .cells (tL a)⟩) (hB : H [1] = ⟨1, .cells (tL b)⟩) : ∀ (m i : Nat), i + m = a.kids.length → a.kids.take i = b.kids.take i → (a.kids = b.kids → ∀ i' q, Q (.exit 0) ⟨lk [(2, .pob [0] 1 0), (3, .pob [1] 1 0), (5, iv i'), (32, bv q)], H⟩) → (a.kids ≠ b.kids → Q .ret ⟨lk [(4, bv false)], H⟩) →
    LoopC (cx Tryd.prog w0 I0 n0) l1_centoref07_Same Q ⟨lk [(2, .pob [0] 1 0), (3, .pob [1] 1 0), (5, iv i)], H⟩ := by
  intro m
  induction m with
  | zero =>
    intro i hi ht h1 h2
    have : i = a.kids.length := by omega
    subst this
    refine loopC_once mixed l1_centoref07_Same.eq_1 ?_
    simp [hA, hB]
    refine h1 ?_ _ _
    rw [List.take_of_length_le (Nat.le_refl _), List.take_of_length_le (by omega)] at ht
    exact ht
  | succ m ihm =>
    intro i hi ht h1 h2
    have hlt : i < a.kids.length := by omega
    have hlt' : i < b.kids.length := by omega
    refine loopC_once mixed l1_centoref07_Same.eq_1 ?_
    simp [hA, hB, hlt, hlt']
    refine sc_call (ih _ (List.getElem_mem hlt) b.kids[i]) rfl ?_
    simp
    cases hs : sameB a.kids[i] b.kids[i] with
    | false =>
      simp
      refine h2 fun e => ?_
      have : a.kids[i] = b.kids[i] := by simp [e]
      rw [← sameB_iff, hs] at this
      cases this
    | true =>
      simp
      rw [i64_same (by omega) (by omega)]
      refine ihm (i + 1) (by omega) ?_ h1 h2
      rw [List.take_succ_eq_append_getElem hlt, List.take_succ_eq_append_getElem hlt', ht, sameB_iff.1 hs]
end
set_option maxRecDepth 8000 in
theorem rTSame_spec : ∀ (a : T), wfT a → ∀ b : T, G.Spec Tryd.prog 12 [tX a, tX b] (bv (sameB a b)) := by
  refine T.ind fun k w l ih hw b => ?_
  have hw' := wfT_iff.1 hw
  have hwl := hw'.wl
  have hkl := hw'.kl
  simp at hwl hkl
  refine spec_of t_centoref07_Same (by simp) fun w0 I0 => ?_
  unfold c_centoref07_Same
  have no : (k ≠ b.kind ∨ w ≠ b.words ∨ l ≠ b.kids) → sameB (.mk k w l) b = false := fun h => by
    rw [Bool.eq_false_iff]
    intro e
    have := sameB_iff.1 e
    subst this
    simp at h
  by_cases h1 : k = b.kind
  · by_cases h2 : w = b.words
    · by_cases h3 : l.length = b.kids.length
      · simp [h1]
        refine sc_call_gf rfl (fun _ => rSame_spec w b.words hwl) (fun _ => rfl) rfl ?_
        simp [h2, h3]
        refine same_l1 (a := .mk k w l) (b := b) hkl h3 (fun c hc u => ih c hc (hw'.ks c hc) u) (by simp [h1, h2]) (by simp) l.length 0 (by simp) rfl (fun e i' q => ?_) (fun e => ?_)
        · simp
          have : sameB (.mk k w l) b = true := sameB_iff.2 (T.ext' h1 h2 e)
          rw [← h1, ← h2, this]
          exact frz_bare rfl
        · simp
          rw [← h1, ← h2, no (.inr (.inr e))]
          exact frz_bare rfl
      · simp [h1]
        refine sc_call_gf rfl (fun _ => rSame_spec w b.words hwl) (fun _ => rfl) rfl ?_
        simp [h2, h3]
        refine ⟨fun h => absurd (by omega) h3, fun _ => ?_⟩
        rw [← h1, ← h2, no (.inr (.inr fun e => h3 (by rw [e])))]
        exact frz_bare rfl
    · simp [h1]
      refine sc_call_gf rfl (fun _ => rSame_spec w b.words hwl) (fun _ => rfl) rfl ?_
      simp [h2]
      rw [← h1, no (.inr (.inl h2))]
      exact frz_bare rfl
  · simp [h1]
    refine sc_call_off rfl ?_
    simp
    rw [no (.inl h1)]
    exact frz_bare rfl
/-! ### the Norm -/
section
variable {n0 : Nat} {w0 : World} {I0 : Nat → Prop} {Q : Exit → Sta → Prop}
end
end Go.Proofs.YtgimfagpolbelaaDoor

/-
  Chapters 12 and 14, plain: trees as words.
-/
namespace Go.PL
set_option linter.unusedVariables false
set_option linter.unusedSimpArgs false
def hd (t : T) : Int := t.words.headD 0
/-! ### numbers side by side -/
/-! ### what is laid leaves other words -/
end Go.PL

/-
  Chapter 15: the law EqualGoes.
-/
namespace Go.Proofs.YtgimfagpolbelaaDoor
set_option linter.unusedVariables false
set_option linter.unusedSimpArgs false
open Go Go.G Go.Proofs Go.PL
abbrev s2 : List (List Int) := [[8589934592, 7, 0]]
end Go.Proofs.YtgimfagpolbelaaDoor

/-
  Chapter 15: the hash.
-/
namespace Go.Proofs.YtgimfagpolbelaaDoor
set_option linter.unusedVariables false
set_option linter.unusedSimpArgs false
open Go Go.G Go.Proofs Go.PL
def mixG (h x : Int) : Int := IntKind.u64.wrap (bits .xor .u64 h x * 1099511628211)
def mixH (h x : Int) : Int := bits .xor .u64 (mixG h x) (mixG h x / 2 ^ min 29 IntKind.u64.bits)
mutual
def hashN : T → Int
  | .mk k w l => hashL (w.foldl mixH (mixH (mixH 14695981039346656037 (IntKind.u64.wrap k)) (IntKind.u64.wrap w.length))) l
def hashL : Int → List T → Int
  | h, [] => h
  | h, t :: l => hashL (mixH h (hashN t)) l
end
end Go.Proofs.YtgimfagpolbelaaDoor

/-
  The document's trees: how many words they take; which ones are right.
-/
namespace Go.Proofs.YtgimfagpolbelaaDoor
set_option linter.unusedVariables false
set_option linter.unusedSimpArgs false
open Go Go.G Go.Proofs Go.PL
section
variable {n0 : Nat} {w0 : World} {I0 : Nat → Prop} {Q : Exit → Sta → Prop}
end
/-! ### right -/
theorem fits_word {c : T} (h : wfT c) (hl : c.words.length = 1) : ∃ x, c.words = [x] ∧ u64R x := by
  have := (wfT_iff.1 h).w
  match hc : c.words, hl with
  | [x], _ => exact ⟨x, rfl, this x (by simp [hc])⟩
theorem right_kind10 {d : Nat} {c : T} (h : rightT d c = true) (h10 : c.kind = 10) : c.words.length = 1 := by
  obtain ⟨k, w, l⟩ := c
  simp at h10
  subst h10
  rw [rightT_mk] at h
  simp at h
  exact h.1
section
variable {n0 : Nat} {w0 : World} {I0 : Nat → Prop} {Q : Exit → Sta → Prop}
theorem right_l1 {t : T} (hl : t.kids.length * 56 ≤ 140737488355328) (hk0 : 0 ≤ t.kind) (hk1 : t.kind ≤ 10) {d : Nat} (hd : 1 ≤ d) (hd1 : d ≤ 1000) (hw : ∀ c, c ∈ t.kids → wfT c) (ih : ∀ c, c ∈ t.kids → ∀ d : Nat, d ≤ 1000 → G.Spec Tryd.prog 7 [tX c, iv d] (bv (rightT d c))) : ∀ (m i : Nat) (H : Hp), i + m = t.kids.length → H [0] = ⟨1, .cells (tL t)⟩ →
    (rightL (d - 1) t.kind (t.kids.drop i) = true → ∀ i' q H', Q (.exit 0) ⟨lk [(1, iv d), (2, .pob [0] 1 0), (5, iv i'), (82, bv q)], H'⟩) → (rightL (d - 1) t.kind (t.kids.drop i) = false → ∀ H', Q .ret ⟨lk [(4, bv false)], H'⟩) →
    LoopC (cx Tryd.prog w0 I0 n0) l1_centoref07_Right Q ⟨lk [(1, iv d), (2, .pob [0] 1 0), (5, iv i)], H⟩ := by
  intro m
  induction m with
  | zero =>
    intro i H hi hA h1 h2
    have : i = t.kids.length := by omega
    subst this
    refine loopC_once mixed l1_centoref07_Right.eq_1 ?_
    simp [hA]
    exact h1 (by simp) _ _ _
  | succ m ihm =>
    intro i H hi hA h1 h2
    have hlt : i < t.kids.length := by omega
    have e : t.kids.drop i = t.kids[i] :: t.kids.drop (i + 1) := List.drop_eq_getElem_cons hlt
    have ei : IntKind.i64.wrap ((i : Int) + 1) = ((i + 1 : Nat) : Int) := i64_same (by omega) (by omega)
    have ed : IntKind.i64.wrap ((d : Int) - 1) = ((d - 1 : Nat) : Int) := by rw [i64_same (by omega) (by omega)]; omega
    rw [e, rightL_cons] at h1 h2
    have hwc := hw _ (List.getElem_mem hlt)
    have ihc := ih _ (List.getElem_mem hlt) (d - 1) (by omega)
    generalize hc : t.kids[i] = c at *
    refine loopC_once mixed l1_centoref07_Right.eq_1 ?_
    simp [hA, hlt, hc, updF_app, ed]
    refine sc_call ihc rfl ?_
    cases hr : rightT (d - 1) c with
    | false =>
      simp
      exact h2 (by simp [hr]) _
    | true =>
      rw [hr] at h1 h2
      have good : kidOk t.kind c = true → ∀ H', H' [0] = ⟨1, .cells (tL t)⟩ → LoopC (cx Tryd.prog w0 I0 n0) l1_centoref07_Right Q ⟨lk [(1, iv d), (2, .pob [0] 1 0), (5, iv ((i : Int) + 1))], H'⟩ := fun hg H' hA' =>
        ihm (i + 1) H' (by omega) hA' (fun hh => h1 (by simp [hg, hh])) (fun hh => h2 (by simp [hh]))
      have bad : kidOk t.kind c = false → ∀ H', Q .ret ⟨lk [(4, bv false)], H'⟩ := fun hg => h2 (by simp [hg])
      rw [show ((i + 1 : Nat) : Int) = (i : Int) + 1 from rfl] at ei
      by_cases hD : 2 ≤ t.kind ∧ t.kind ≤ 7
      · obtain ⟨d2, d7⟩ := hD
        have d9 : ¬ t.kind = 9 := by omega
        by_cases h10 : c.kind = 10
        · obtain ⟨x, hx, hx64⟩ := fits_word hwc (right_kind10 hr h10)
          have hk : kidOk t.kind c = fitsZ (t.kind - 2) x := by simp [kidOk, isData, d2, d7, d9, h10, hx]
          have e2 : IntKind.i64.wrap (t.kind - 2) = t.kind - 2 := i64_same (by omega) (by omega)
          simp [updF_app, hA, d2, d7, d9, h10, hx, e2]
          refine sc_call_gt rfl (fun _ => rFits_spec hx64) (fun _ => rfl) rfl ?_
          cases hf : fitsZ (t.kind - 2) x with
          | false => simp; exact bad (by rw [hk, hf]) _
          | true => simp [ei]; exact good (by rw [hk, hf]) _ (by simp [updF_app, hA])
        · have hk : kidOk t.kind c = false := by simp [kidOk, isData, d2, d7, d9, h10]
          simp [updF_app, hA, d2, d7, d9, h10]
          refine sc_call_off rfl ?_
          simp
          exact bad hk _
      · have hD' : (decide (2 ≤ t.kind) && decide (t.kind ≤ 7)) = false := by simp; omega
        by_cases h10 : c.kind = 10
        · have hk : kidOk t.kind c = false := by simp [kidOk, isData, hD', h10]
          simp [updF_app, hA, hD', h10]
          refine sc_call_off rfl ?_
          simp
          exact bad hk _
        · by_cases h9 : t.kind = 9
          · by_cases h1' : c.kind = 1
            · have hk : kidOk t.kind c = true := by simp [kidOk, isData, hD', h9, h1']
              rw [h9] at hD'
              simp [updF_app, hA, hD', h10, h9, h1']
              refine sc_call_off rfl ?_
              simp [ei]
              exact good hk _ (by simp [updF_app, hA])
            · have hk : kidOk t.kind c = false := by simp [kidOk, isData, hD', h9, h1', h10]
              rw [h9] at hD'
              simp [updF_app, hA, hD', h10, h9, h1']
              refine sc_call_off rfl ?_
              simp
              exact bad hk _
          · have hk : kidOk t.kind c = true := by simp [kidOk, isData, hD', h9, h10]
            simp [updF_app, hA, hD', h10, h9]
            refine sc_call_off rfl ?_
            simp [ei]
            exact good hk _ (by simp [updF_app, hA])
end
theorem rRight_spec : ∀ (t : T), wfT t → ∀ d : Nat, d ≤ 1000 → G.Spec Tryd.prog 7 [tX t, iv d] (bv (rightT d t)) := by
  refine T.ind fun k w l ih hw d hd => ?_
  have hw' := wfT_iff.1 hw
  have hwl := hw'.wl
  have hkl := hw'.kl
  simp at hwl hkl
  refine spec_of t_centoref07_Right (by simp) fun w0 I0 => ?_
  unfold c_centoref07_Right
  rw [rightT_mk]
  by_cases h0 : k = 0
  · simp [h0]
    exact frz_bool (by cases w <;> cases l <;> simp <;> (rw [← List.length_eq_zero_iff]; omega))
  by_cases h10 : k = 10
  · simp [h10]
    exact frz_bool (by cases w <;> cases l <;> simp <;> (rw [← List.length_eq_zero_iff]; omega))
  rw [if_neg h0, if_neg h10]
  have bad : tooBig k d w.length l.length = true → ∀ H, Frz H (bv false) (bv (if tooBig k d w.length l.length = true then false else rightL (d - 1) k l)) := fun hb H => frz_bool (by simp [hb])
  by_cases ha : k < 0 ∨ 10 < k ∨ d = 0 ∨ 65536 ≤ w.length
  · have ha' : (decide (k < 0) || decide (10 < k) || decide (d = 0) || decide (65536 ≤ (w.length : Int))) = true := by simp; omega
    simp [h0, h10, ha']
    have := bad (by simp [tooBig]; omega) (lkH [([0], { u := 1, ob := Ob.cells [iv k, uws w, tKs l] })])
    simpa using this
  have ha' : (decide (k < 0) || decide (10 < k) || decide (d = 0) || decide (65536 ≤ (w.length : Int))) = false := by simp; omega
  by_cases h1 : k = 1 ∧ 65536 ≤ l.length
  · have hl : (65536 : Int) ≤ l.length := by omega
    simp [h0, h10, ha', h1.1, hl]
    have := bad (by simp [tooBig]; omega) (lkH [([0], { u := 1, ob := Ob.cells [iv k, uws w, tKs l] })])
    simpa [h1.1] using this
  by_cases h2 : 1048576 ≤ l.length
  · have hl : (1048576 : Int) ≤ l.length := by omega
    have hk1 : ¬ k = 1 := by omega
    simp [h0, h10, ha', hk1, hl]
    have := bad (by simp [tooBig]; omega) (lkH [([0], { u := 1, ob := Ob.cells [iv k, uws w, tKs l] })])
    simpa using this
  have hl2 : ¬ (1048576 : Int) ≤ l.length := by omega
  by_cases h3 : 1 < k ∧ 0 < w.length
  · have hk1 : ¬ k = 1 := by omega
    have hw0 : w ≠ [] := fun e => by simp [e] at h3
    simp [h0, h10, ha', hk1, hl2, h3.1, h3.2, hw0]
    have := bad (by simp [tooBig]; omega) (lkH [([0], { u := 1, ob := Ob.cells [iv k, uws w, tKs l] })])
    simpa using this
  have hb : tooBig k d w.length l.length = false := by
    rw [Bool.eq_false_iff]
    unfold tooBig
    simp only [Bool.or_eq_true, Bool.and_eq_true, decide_eq_true_eq, ne_eq]
    omega
  have hw0 : (1 < k → w = []) := fun h => List.eq_nil_of_length_eq_zero (by omega)
  have fin : LoopC (cx Tryd.prog w0 I0 132) l1_centoref07_Right (InBlock 0 (ThenC (WPC (cx Tryd.prog w0 I0 132) (.keep [] (.seq (.reg [co (some 4) (.assign (.const (.bool true))) none] [4]) .ret)) (RetC Tryd.prog [.tmp 4] (bv (rightL (d - 1) k l)))) (RetC Tryd.prog [.tmp 4] (bv (rightL (d - 1) k l))))) ⟨lk [(1, iv d), (2, .pob [0] 1 0), (5, iv 0)], lkH [([0], ⟨1, .cells [iv k, uws w, tKs l]⟩)]⟩ := by
    refine right_l1 (t := .mk k w l) (by simpa using hkl) (by simp; omega) (by simp; omega) (by omega) hd (fun c hc => hw'.ks c hc) (fun c hc => ih c hc (hw'.ks c hc)) l.length 0 _ (by simp) (by simp) (fun hr i' q H' => ?_) (fun hr H' => ?_)
    · simp
      exact frz_bool (by simpa using hr.symm)
    · simp
      exact frz_bool (by simpa using hr.symm)
  rw [if_neg (by simp [hb])]
  by_cases k1 : k = 1
  · have hl3 : ¬ (65536 : Int) ≤ l.length := by omega
    have ha1 : (decide (d = 0) || decide (65536 ≤ (w.length : Int))) = false := by simp; omega
    simp [ha1, k1, hl2, hl3]
    simpa [k1] using fin
  · simp [h0, h10, ha', k1, hl2]
    refine ⟨fun a b => absurd ⟨a, by omega⟩ h3, fun _ => ?_⟩
    exact fin
end Go.Proofs.YtgimfagpolbelaaDoor

/-
  Chapter 16, plain: places that are hashed by hand.
-/
namespace Go.PL
set_option linter.unusedVariables false
set_option linter.unusedSimpArgs false
/-- Places of so many classes, by their numbers. -/
structure Pl (hs : List Nat) (pl : List Nat) : Prop where
  cnt : pl.countP (fun v => v != 0) = hs.length
  vals : ∀ v, v ∈ pl → v ≤ hs.length
  reach : ∀ (c : Nat) (hc : c < hs.length), ∃ d, pl[(hs[c] + d) % pl.length]? = some (c + 1) ∧ ∀ e, e < d → pl.getD ((hs[c] + e) % pl.length) 0 ≠ 0
theorem Pl.nil (m : Nat) : Pl [] (List.replicate m 0) := by
  refine ⟨?_, fun v hv => ?_, fun c hc => ?_⟩
  · simp [List.countP_replicate]
  · simp at hv; omega
  · simp at hc
end Go.PL

/-
  Chapter 16: tables of classes.
-/
namespace Go.Proofs.YtgimfagpolbelaaDoor
set_option linter.unusedVariables false
set_option linter.unusedSimpArgs false
open Go Go.G Go.Proofs Go.PL
/-- A class: its number of what it means; where its value lies, and what it means. -/
structure Cl where
  l : List (List Int)
  r : Rf
  t : T
noncomputable def Cl.h (c : Cl) : Int := hashN (norm c.t)
noncomputable def Cl.hn (c : Cl) : Nat := c.h.toNat
abbrev clL (h : Int) (l : List (List Int)) (r : Rf) : List A := uv h :: paL l r
noncomputable def Cl.a (c : Cl) : A := .agg (clL c.h c.l c.r)
/-- A table: versions, classes, places. -/
structure Tb where
  u : Nat
  uc : Nat
  up : Nat
  cl : List Cl
  pl : List Nat
structure Tb.Ok (S : Tb) : Prop where
  p8 : 8 ≤ S.pl.length
  half : 2 * S.cl.length ≤ S.pl.length
  most : S.pl.length ≤ 8 + 4 * S.cl.length
  pl : Pl (S.cl.map Cl.hn) S.pl
  means : ∀ c, c ∈ S.cl → Sg c.l ∧ Means c.l c.r c.t
  nd : (S.cl.map fun c => norm c.t).Nodup
noncomputable def Tb.ks (S : Tb) : List T := S.cl.map fun c => norm c.t
@[simp] theorem Tb.ks_length (S : Tb) : S.ks.length = S.cl.length := by simp [Tb.ks]
/-- But for its room. -/
structure Tb.Ok1 (S : Tb) : Prop where
  p8 : 8 ≤ S.pl.length
  half : 2 * S.cl.length ≤ S.pl.length + 2
  most : S.pl.length ≤ 8 + 4 * S.cl.length
  pl : Pl (S.cl.map Cl.hn) S.pl
  means : ∀ c, c ∈ S.cl → Sg c.l ∧ Means c.l c.r c.t
  nd : (S.cl.map fun c => norm c.t).Nodup
theorem Tb.Ok1.ok {S : Tb} (h : S.Ok1) (hf : ¬ S.pl.length < 2 * S.cl.length) : S.Ok := ⟨h.p8, by omega, h.most, h.pl, h.means, h.nd⟩
section
variable {n0 : Nat} {w0 : World} {I0 : Nat → Prop} {Q : Exit → Sta → Prop}
end
end Go.Proofs.YtgimfagpolbelaaDoor

/-
  Chapter 27, plain: an edit told by the Norm of its tree.
-/
namespace Go.PL
set_option linter.unusedVariables false
set_option linter.unusedSimpArgs false
/-! ### what is right stays so -/
/-! ### no value has very many kids -/
inductive SmT : T → Prop
  | mk (k : Int) (w : List Int) (l : List T) : l.length ≤ 1048576 → (∀ t, t ∈ l → SmT t) → SmT (.mk k w l)
theorem SmT.len {t : T} (h : SmT t) : t.kids.length ≤ 1048576 := by cases h; assumption
theorem SmT.kid {t : T} (h : SmT t) : ∀ c, c ∈ t.kids → SmT c := by cases h; assumption
end Go.PL

/-
  The program's trees: which ones are right, and which mean the same.
-/
namespace Go.Proofs.YtgimfagpolbelaaDoor
set_option linter.unusedVariables false
set_option linter.unusedSimpArgs false
open Go Go.G Go.Proofs Go.PL
theorem pFits_spec {c n : Int} (h : u64R n) : G.Spec Tryd.prog 54 [iv c, uv n] (bv (fitsZ c n)) := by
  refine spec_of t_word_Fits (by simp) fun w0 I0 => ?_
  unfold c_word_Fits
  simp
  refine sc_call (width_spec c) rfl ?_
  have hw := widthZ_cases c
  unfold fitsZ
  rcases hw with h1 | h1 | h1 | h1 | h1 | h1 | h1
  all_goals
    rw [h1]
    simp
    refine frz_bool ?_
  all_goals try rfl
  all_goals
    obtain ⟨n0, n1⟩ := h
    have hb : IntKind.u64.bits = 64 := rfl
    simp [hb]
  all_goals omega
theorem tList_spec (k : Int) : G.Spec Tryd.prog 29 [iv k] (bv (decide (2 ≤ k) && decide (k ≤ 9))) := by
  refine spec_of t_tree_List (by simp) fun w0 I0 => ?_
  unfold c_tree_List
  simp
  exact frz_bare rfl
/-- May a tree be a kid of a list, by its own kind? -/
def pkid (list : Int) (t : T) : Bool := if isData list = true then decide (t.kind = 10) && t.kids.isEmpty && decide (t.words.length = 1) && fitsZ (list - 2) (t.words.headD 0) else if list = 9 then decide (t.kind = 1) else !decide (t.kind = 10)
theorem pkid_eq {list : Int} {t : T} {d : Nat} (h1 : list ≠ 1) : (pkid list t && rightT d t) = (rightT d t && kidOk list t) := by
  unfold pkid kidOk
  cases hd : isData list with
  | true =>
    simp only [if_true]
    by_cases h10 : t.kind = 10
    · have e : rightT d t = (decide (t.words.length = 1) && t.kids.isEmpty) := by
        obtain ⟨k, w, l⟩ := t
        simp at h10
        subst h10
        rw [rightT_mk]
        rfl
      have n9 : list ≠ 9 := fun e => by subst e; simp [isData] at hd
      rw [e]
      simp [h10, n9]
      cases decide (t.words.length = 1) <;> cases t.kids.isEmpty <;> simp
    · simp [h10]
  | false =>
    simp
    by_cases h9 : list = 9
    · subst h9
      simp
      cases h : rightT d t <;> simp
      by_cases h1 : t.kind = 1 <;> simp [h1]
    · simp [h9]
      cases h : rightT d t <;> simp
theorem pKid_spec (list : Int) (hl : i64R list) {t : T} (h : wfT t) : G.Spec Tryd.prog 45 [iv list, tX t] (bv (pkid list t)) := by
  have hw := wfT_iff.1 h
  refine spec_of t_tree_kid (by simp) fun w0 I0 => ?_
  unfold c_tree_kid
  simp
  refine sc_call (data_spec list) rfl ?_
  cases hd : isData list with
  | false =>
    simp
    by_cases h9 : list = 9
    · simp [h9]
      refine frz_bool ?_
      simp [pkid, isData]
    · simp [h9]
      refine frz_bool ?_
      simp [pkid, hd, h9]
  | true =>
    have hd' := hd
    simp [isData] at hd'
    by_cases hc : t.kind = 10 ∧ t.kids = [] ∧ t.words.length = 1
    · obtain ⟨c1, c2, c3⟩ := hc
      obtain ⟨x, hx⟩ : ∃ x, t.words = [x] := List.length_eq_one_iff.1 c3
      have hxr : u64R x := hw.w x (by rw [hx]; simp)
      have e2 : IntKind.i64.wrap (list - 2) = list - 2 := i64_same (by omega) (by omega)
      simp [c1, c2, hx, e2]
      refine sc_call_gt rfl (fun _ => pFits_spec hxr) (fun _ => rfl) rfl ?_
      simp
      refine frz_bool ?_
      simp [pkid, hd, c1, c2, hx]
    · have hp : pkid list t = false := by
        unfold pkid
        rw [if_pos hd]
        rw [Bool.eq_false_iff]
        intro e
        simp at e
        exact hc ⟨e.1.1.1, e.1.1.2, e.1.2⟩
      by_cases c1 : t.kind = 10
      · by_cases c2 : t.kids = []
        · have c3 : ¬ t.words.length = 1 := fun e => hc ⟨c1, c2, e⟩
          have c3' : ¬ (t.words.length : Int) = 1 := by omega
          simp [c1, c2, c3, c3']
          refine sc_call_off rfl ?_
          simp
          rw [hp]
          exact frz_bare rfl
        · have c2' : ¬ (t.kids.length : Int) = 0 := fun e => c2 (List.length_eq_zero_iff.1 (by omega))
          simp [c1, c2, c2']
          refine sc_call_off rfl ?_
          simp
          rw [hp]
          exact frz_bare rfl
      · simp [c1]
        refine sc_call_off rfl ?_
        simp
        rw [hp]
        exact frz_bare rfl
section
variable {n0 : Nat} {w0 : World} {I0 : Nat → Prop} {Q : Exit → Sta → Prop}
theorem pright_k1 {Q' : Exit → Sta → Prop} {c : T} {d : Nat} {b : Bool} {u : Nat} {p x y z : A} {H : Hp} (hd : 1 ≤ d) (hd1 : d ≤ 1000) (ihc : G.Spec Tryd.prog 35 [tX c, iv (d - 1 : Nat)] (bv (rightT (d - 1) c))) (hB : H [1] = ⟨u, .cells (tL c)⟩)
    (h1 : (b && rightT (d - 1) c) = true → Q' .normal ⟨lk [(1, iv d), (2, p), (71, x), (72, y), (73, z), (95, bv false)], H⟩) (h2 : (b && rightT (d - 1) c) = false → Q' .ret ⟨lk [(4, bv false)], H⟩) :
    WPC (cx Tryd.prog w0 I0 n0) k1_tree_right Q' ⟨lk [(1, iv d), (2, p), (6, .pob [1] u 0), (7, bv b), (71, x), (72, y), (73, z)], H⟩ := by
  rw [k1_tree_right.eq_1]
  have ed : IntKind.i64.wrap ((d : Int) - 1) = ((d - 1 : Nat) : Int) := by rw [i64_same (by omega) (by omega)]; omega
  cases b with
  | false =>
    simp
    refine sc_call_off rfl ?_
    simp
    exact h2 rfl
  | true =>
    simp [hB, ed]
    refine sc_call_gf rfl (fun _ => ihc) (fun _ => rfl) rfl ?_
    cases hr : rightT (d - 1) c with
    | false => simp; exact h2 (by simp [hr])
    | true => simp; exact h1 (by simp [hr])
theorem pright_l1 {t : T} (hk : i64R t.kind) (hl : t.kids.length * 56 ≤ 140737488355328) {d : Nat} (hd : 1 ≤ d) (hd1 : d ≤ 1000) (hw : ∀ c, c ∈ t.kids → wfT c) (ih : ∀ c, c ∈ t.kids → ∀ d : Nat, d ≤ 1000 → G.Spec Tryd.prog 35 [tX c, iv d] (bv (rightT d c))) : ∀ (m i : Nat) (H : Hp), i + m = t.kids.length → H [0] = ⟨1, .cells (tL t)⟩ →
    (rightL (d - 1) t.kind (t.kids.drop i) = true → ∀ i' q H', Q (.exit 1) ⟨lk [(1, iv d), (2, .pob [0] 1 0), (71, tKs t.kids), (72, iv t.kids.length), (73, iv i'), (74, bv q)], H'⟩) → (rightL (d - 1) t.kind (t.kids.drop i) = false → ∀ H', Q .ret ⟨lk [(4, bv false)], H'⟩) →
    LoopC (cx Tryd.prog w0 I0 n0) l1_tree_right Q ⟨lk [(1, iv d), (2, .pob [0] 1 0), (71, tKs t.kids), (72, iv t.kids.length), (73, iv i)], H⟩ := by
  intro m
  induction m with
  | zero =>
    intro i H hi hA h1 h2
    have : i = t.kids.length := by omega
    subst this
    refine loopC_once mixed l1_tree_right.eq_1 ?_
    simp
    exact h1 (by simp) _ _ _
  | succ m ihm =>
    intro i H hi hA h1 h2
    have hlt : i < t.kids.length := by omega
    have e : t.kids.drop i = t.kids[i] :: t.kids.drop (i + 1) := List.drop_eq_getElem_cons hlt
    have ei : IntKind.i64.wrap ((i : Int) + 1) = ((i + 1 : Nat) : Int) := i64_same (by omega) (by omega)
    rw [e, rightL_cons] at h1 h2
    have hwc := hw _ (List.getElem_mem hlt)
    have ihc := ih _ (List.getElem_mem hlt) (d - 1) (by omega)
    generalize hc : t.kids[i] = c at *
    refine loopC_once mixed l1_tree_right.eq_1 ?_
    simp [hA, hlt, hc, updF_app]
    refine ⟨fun h10 => ?_, fun h10 => ?_⟩
    · have ek : kidOk t.kind c = !decide (c.kind = 10) := by
        unfold kidOk
        rw [h10]
        by_cases e : c.kind = 10 <;> simp [isData, e]
      try simp [hA, updF_app, h10]
      refine pright_k1 (c := c) hd hd1 ihc (by simp [updF_app]) (fun hr => ?_) (fun hr => ?_)
      · simp [ei]
        refine ihm (i + 1) _ (by omega) (by simp [updF_app, hA]) (fun hh => h1 ?_) (fun hh => h2 ?_)
        · rw [ek, hh]; simpa using And.comm.1 (by simpa using hr)
        · rw [hh]; simp
      · simp
        refine h2 ?_ _
        rw [ek]
        have : (rightT (d - 1) c && !decide (c.kind = 10)) = false := by rw [Bool.and_comm]; simpa using hr
        rw [this]; rfl
    · have ek := pkid_eq (t := c) (d := d - 1) h10
      simp [hA, updF_app, h10]
      refine sc_call (pKid_spec t.kind hk hwc) rfl ?_
      simp
      refine pright_k1 (c := c) hd hd1 ihc (by simp [updF_app]) (fun hr => ?_) (fun hr => ?_)
      · simp [ei]
        rw [ek] at hr
        refine ihm (i + 1) _ (by omega) (by simp [updF_app, hA]) (fun hh => h1 ?_) (fun hh => h2 ?_)
        · rw [hr, hh]; rfl
        · rw [hh]; simp
      · simp
        refine h2 ?_ _
        rw [ek] at hr
        rw [hr]; rfl
end
theorem pRight_spec : ∀ (t : T), wfT t → ∀ d : Nat, d ≤ 1000 → G.Spec Tryd.prog 35 [tX t, iv d] (bv (rightT d t)) := by
  refine T.ind fun k w l ih hw d hd => ?_
  have hw' := wfT_iff.1 hw
  have hwl := hw'.wl
  have hkl := hw'.kl
  have hk := hw'.k
  simp at hwl hkl hk
  refine spec_of t_tree_right (by simp) fun w0 I0 => ?_
  unfold c_tree_right
  rw [rightT_mk]
  by_cases h0 : k = 0
  · simp [h0]
    exact frz_bool (by cases w <;> cases l <;> simp <;> (rw [← List.length_eq_zero_iff]; omega))
  by_cases h10 : k = 10
  · simp [h10]
    exact frz_bool (by cases w <;> cases l <;> simp <;> (rw [← List.length_eq_zero_iff]; omega))
  rw [if_neg h0, if_neg h10]
  obtain ⟨R, hR⟩ : ∃ R, R = (if tooBig k d w.length l.length = true then false else rightL (d - 1) k l) := ⟨_, rfl⟩
  rw [← hR]
  have bad : tooBig k d w.length l.length = true → R = false := fun h => by rw [hR, if_pos h]
  by_cases hd0 : d = 0
  · subst hd0
    simp [h0, h10]
    exact frz_bool (bad (by simp [tooBig])).symm
  have fin : tooBig k d w.length l.length = false → WPC (cx Tryd.prog w0 I0 97) k2_tree_right (RetC Tryd.prog [.tmp 4] (bv R)) ⟨lk [(1, iv d), (2, .pob [0] 1 0)], lkH [([0], ⟨1, .cells [iv k, uws w, tKs l]⟩)]⟩ := fun hb => by
    rw [if_neg (by rw [hb]; simp)] at hR
    subst hR
    rw [k2_tree_right.eq_1]
    simp
    refine pright_l1 (t := .mk k w l) (by simpa using hk) (by simpa using hkl) (by omega) hd (fun c hc => hw'.ks c hc) (fun c hc => ih c hc (hw'.ks c hc)) l.length 0 _ (by simp) (by simp) (fun hr i' q H' => ?_) (fun hr H' => ?_)
    · simp
      exact frz_bool (by simpa using hr.symm)
    · simp
      exact frz_bool (by simpa using hr.symm)
  by_cases h1 : k = 1
  · subst h1
    by_cases hb : 65536 ≤ w.length ∨ 65536 ≤ l.length
    · have hb' : (decide (65536 ≤ (w.length : Int)) || decide (65536 ≤ (l.length : Int))) = true := by simp; omega
      simp [hd0, hb']
      exact frz_bool (bad (by simp [tooBig]; omega)).symm
    · have hb' : (decide (65536 ≤ (w.length : Int)) || decide (65536 ≤ (l.length : Int))) = false := by simp; omega
      simp [hd0, hb']
      exact fin (by simp [tooBig]; omega)
  · simp [h0, h10, h1, hd0]
    refine sc_call (tList_spec k) rfl ?_
    simp
    refine ⟨fun hc => ?_, fun a b c e => ?_⟩
    · exact frz_bool (bad (by simp [tooBig]; omega)).symm
    · refine fin ?_
      rw [Bool.eq_false_iff]
      unfold tooBig
      simp only [Bool.or_eq_true, Bool.and_eq_true, decide_eq_true_eq, ne_eq]
      have hl0 : w.length = 0 := by first | omega | simp [c]
      omega
theorem ptRight_spec {t : T} (h : wfT t) : G.Spec Tryd.prog 21 [tX t] (bv (rightT 64 t)) := by
  refine spec_of t_tree_Right (by simp) fun w0 I0 => ?_
  unfold c_tree_Right
  simp
  refine sc_call (pRight_spec t h 64 (by omega)) (by simp) ?_
  simp
  exact frz_bare rfl
end Go.Proofs.YtgimfagpolbelaaDoor

/-
  Trees told as text by the program.
-/
namespace Go.Proofs.YtgimfagpolbelaaDoor
set_option linter.unusedVariables false
set_option linter.unusedSimpArgs false
open Go Go.G Go.Proofs Go.PL
def Shw (t : T) : Prop := ∀ (a : Bool) (l : List UInt8) (v : Nat), l.length + (showT t).length ≤ 70368744177664 → ∃ v', SpecF Tryd.prog 16 (fun r => [bp r, tX t]) (bdF a l v) (fun _ => .tup []) (bdF true (l ++ showT t) v')
theorem join_snoc_len (l : List (List UInt8)) (x : List UInt8) : (joinC l).length ≤ (joinC (l ++ [x])).length := by
  rw [joinC_snoc]
  split
  · rename_i h; subst h; simp
  · simp
theorem join_take_le {α : Type} (f : α → List UInt8) (l : List α) : ∀ (m i : Nat), i + m = l.length → (joinC ((l.take i).map f)).length ≤ (joinC (l.map f)).length
  | 0, i, h => by rw [List.take_of_length_le (by omega)]; exact Nat.le_refl _
  | m + 1, i, h => by
    have := join_take_le f l m (i + 1) (by omega)
    refine Nat.le_trans ?_ this
    rw [List.take_succ_eq_append_getElem (by omega), List.map_append]
    exact join_snoc_len _ _
theorem join_step {α : Type} (f : α → List UInt8) (l : List α) (i : Nat) (hi : i < l.length) : joinC ((l.take (i + 1)).map f) = if i = 0 then f l[i] else joinC ((l.take i).map f) ++ 44 :: f l[i] := by
  rw [List.take_succ_eq_append_getElem hi, List.map_append, List.map_singleton, joinC_snoc]
  by_cases h : i = 0
  · subst h; simp
  · rw [if_neg h, if_neg]
    intro e
    have := congrArg List.length e
    simp at this
    rcases this with h1 | h1
    · exact h h1
    · subst h1; simp at hi
theorem all_l1 {ks : List T} (hks : ks.length * 56 ≤ 140737488355328) (ih : ∀ c, c ∈ ks → Shw c) {l : List UInt8} (hl : l.length + (joinC (ks.map showT)).length ≤ 70368744177664) : ∀ (m i v : Nat), i + m = ks.length → ∃ v', ∀ {n0 : Nat} {w0 : World} {I0 : Nat → Prop} {M0 : Nm → Nat → Prop} {m0 : Mu} {Q : Exit → Sta → Prop} (H : Hp), (∀ p, H (0 :: p) = (bdF true (l ++ joinC ((ks.take i).map showT)) v).F 0 p) →
    (∀ (H' : Hp), (∀ p, H' (0 :: p) = (bdF true (l ++ joinC (ks.map showT)) v').F 0 p) → Q (.exit 0) ⟨lk [(0, bp 0), (6, tKs ks), (7, iv ks.length), (8, iv ks.length), (9, bv false)], H'⟩) →
    LoopC (cxh Tryd.prog w0 I0 M0 n0 m0) l1_text_all Q ⟨lk [(0, bp 0), (6, tKs ks), (7, iv ks.length), (8, iv i)], H⟩ := by
  intro m
  induction m with
  | zero =>
    intro i v hi
    have : i = ks.length := by omega
    subst this
    refine ⟨v, fun {n0 w0 I0 M0 m0 Q} H hH hq => ?_⟩
    refine loopC_once mixed l1_text_all.eq_1 ?_
    simp
    rw [List.take_length] at hH
    exact hq H hH
  | succ m ihm =>
    intro i v hi
    have hlt : i < ks.length := by omega
    have hw := join_step showT ks i hlt
    have hle := join_take_le showT ks m (i + 1) (by omega)
    have e1 : IntKind.i64.wrap ((i : Int) + 1) = ((i + 1 : Nat) : Int) := by rw [i64_same (by omega) (by omega)]; omega
    by_cases h0 : i = 0
    · subst h0
      rw [if_pos rfl] at hw
      obtain ⟨v1, hS⟩ := ih _ (List.getElem_mem hlt) true l v (by rw [hw] at hle; omega)
      obtain ⟨v', hL⟩ := ihm 1 v1 (by omega)
      refine ⟨v', fun {n0 w0 I0 M0 m0 Q} H hH hq => ?_⟩
      simp only [List.take_zero, List.map_nil, joinC_nil, List.append_nil] at hH
      refine loopC_once mixed l1_text_all.eq_1 ?_
      simp [hlt]
      refine sc_fam 0 hS (fun p => by simp [updF_app, hH]) (by simp) (by simp) ?_
      simp at e1
      simp [e1]
      refine hL _ (fun p => ?_) hq
      rw [hw]
      simp
    · rw [if_neg h0] at hw
      have hb := bByte_spec true (l ++ joinC ((ks.take i).map showT)) v 44 (by rw [hw] at hle; simp at hle ⊢; omega)
      obtain ⟨v1, hS⟩ := ih _ (List.getElem_mem hlt) true (l ++ joinC ((ks.take i).map showT) ++ [44]) (v + 1) (by rw [hw] at hle; simp at hle ⊢; omega)
      obtain ⟨v', hL⟩ := ihm (i + 1) v1 (by omega)
      refine ⟨v', fun {n0 w0 I0 M0 m0 Q} H hH hq => ?_⟩
      refine loopC_once mixed l1_text_all.eq_1 ?_
      simp [hlt, show 0 < i by omega]
      refine sc_fam 0 hb (fun p => by simp [updF_app, hH]) (by simp) (by simp) ?_
      simp [updF_app]
      refine sc_fam 0 hS (fun p => by simp [updF_app]) (by simp) (by simp) ?_
      simp [e1]
      refine hL _ (fun p => ?_) hq
      rw [hw]
      simp
theorem all_spec {ks : List T} (hks : ks.length * 56 ≤ 140737488355328) (ih : ∀ c, c ∈ ks → Shw c) {l : List UInt8} (hl : l.length + (joinC (ks.map showT)).length ≤ 70368744177664) (v : Nat) :
    ∃ v', SpecF Tryd.prog 28 (fun r => [bp r, tKs ks]) (bdF true l v) (fun _ => .tup []) (bdF true (l ++ joinC (ks.map showT)) v') := by
  obtain ⟨v', hL⟩ := all_l1 hks ih hl ks.length 0 v (by omega)
  refine ⟨v', specF_of t_text_all (by simp) (famL_cons famA_pob (famL_cons famA_sl famL_nil)) (famA_tup famL_nil) fun w0 I0 M0 m0 => ?_⟩
  unfold c_text_all
  simp
  refine hL _ (fun p => by simp) fun H' hH' => ?_
  simp
  exact reth_famN rfl rfl hH'
theorem words_l1 {ws : List Int} {t : T} (htw : t.words = ws) (hws : ws.length * 8 ≤ 140737488355328) (hwf : ∀ x, x ∈ ws → u64R x) {l : List UInt8} (hl : l.length + (joinC (ws.map fun x => hexS x.toNat)).length ≤ 70368744177664) : ∀ (m i v : Nat), i + m = ws.length → ∃ v', ∀ {n0 : Nat} {w0 : World} {I0 : Nat → Prop} {M0 : Nm → Nat → Prop} {m0 : Mu} {Q : Exit → Sta → Prop} (H : Hp), (∀ p, H (0 :: p) = (bdF true (l ++ joinC ((ws.take i).map fun x => hexS x.toNat)) v).F 0 p) → H [1] = ⟨1, .cells [iv t.kind, uws t.words, tKs t.kids]⟩ →
    (∀ (H' : Hp), (∀ p, H' (0 :: p) = (bdF true (l ++ joinC (ws.map fun x => hexS x.toNat)) v').F 0 p) → H' [1] = ⟨1, .cells [iv t.kind, uws t.words, tKs t.kids]⟩ → Q (.exit 1) ⟨lk [(0, bp 0), (3, .pob [1] 1 0), (32, uws ws), (33, iv ws.length), (34, iv ws.length), (35, bv false)], H'⟩) →
    LoopC (cxh Tryd.prog w0 I0 M0 n0 m0) l1_text_show Q ⟨lk [(0, bp 0), (3, .pob [1] 1 0), (32, uws ws), (33, iv ws.length), (34, iv i)], H⟩ := by
  intro m
  induction m with
  | zero =>
    intro i v hi
    have : i = ws.length := by omega
    subst this
    refine ⟨v, fun {n0 w0 I0 M0 m0 Q} H hH hH1 hq => ?_⟩
    refine loopC_once mixed l1_text_show.eq_1 ?_
    simp
    rw [List.take_length] at hH
    exact hq H hH hH1
  | succ m ihm =>
    intro i v hi
    have hlt : i < ws.length := by omega
    have hw := join_step (fun x : Int => hexS x.toNat) ws i hlt
    have hle := join_take_le (fun x : Int => hexS x.toNat) ws m (i + 1) (by omega)
    have e1 : IntKind.i64.wrap ((i : Int) + 1) = ((i + 1 : Nat) : Int) := by rw [i64_same (by omega) (by omega)]; omega
    have hx := hwf _ (List.getElem_mem hlt)
    unfold u64R at hx
    have hfmt := fmtUint_spec ws[i].toNat (by omega)
    rw [Int.toNat_of_nonneg hx.1] at hfmt
    by_cases h0 : i = 0
    · subst h0
      rw [if_pos rfl] at hw
      have hb := bStr_spec true l v (hexS ws[0].toNat) (by rw [hw] at hle; omega)
      obtain ⟨v', hL⟩ := ihm 1 (v + 1) (by omega)
      refine ⟨v', fun {n0 w0 I0 M0 m0 Q} H hH hH1 hq => ?_⟩
      simp only [List.take_zero, List.map_nil, joinC_nil, List.append_nil] at hH
      refine loopC_once mixed l1_text_show.eq_1 ?_
      simp [hlt]
      refine sc_call hfmt rfl ?_
      simp
      refine sc_fam 0 hb (fun p => by simp [updF_app, hH]) (by simp) (by simp) ?_
      simp at e1
      simp [e1]
      refine hL _ (fun p => ?_) (by simp [hH1]) hq
      rw [hw]
      simp
    · rw [if_neg h0] at hw
      have hb := bByte_spec true (l ++ joinC ((ws.take i).map fun x => hexS x.toNat)) v 44 (by rw [hw] at hle; simp at hle ⊢; omega)
      have hb2 := bStr_spec true (l ++ joinC ((ws.take i).map fun x => hexS x.toNat) ++ [44]) (v + 1) (hexS ws[i].toNat) (by rw [hw] at hle; simp at hle ⊢; omega)
      obtain ⟨v', hL⟩ := ihm (i + 1) (v + 1 + 1) (by omega)
      refine ⟨v', fun {n0 w0 I0 M0 m0 Q} H hH hH1 hq => ?_⟩
      refine loopC_once mixed l1_text_show.eq_1 ?_
      simp [hlt, show 0 < i by omega]
      refine sc_fam 0 hb (fun p => by simp [updF_app, hH]) (by simp) (by simp) ?_
      simp [updF_app]
      refine sc_call hfmt rfl ?_
      simp
      refine sc_fam 0 hb2 (fun p => by simp [updF_app]) (by simp) (by simp) ?_
      simp [e1]
      refine hL _ (fun p => ?_) (by simp [hH1]) hq
      rw [hw]
      simp
theorem letters_get (k : Int) (h1 : 2 ≤ k) (h2 : k ≤ 9) : ([46, 46, 118, 98, 121, 116, 102, 101, 112, 99] : List UInt8)[k.toNat]? = some (letS k) := by
  have : ∀ n : Nat, n < 10 → ([46, 46, 118, 98, 121, 116, 102, 101, 112, 99] : List UInt8)[n]? = some (([46, 46, 118, 98, 121, 116, 102, 101, 112, 99] : List UInt8).getD n 0) := by decide
  exact this k.toNat (by omega)
theorem shw_all : ∀ t : T, wfT t → Shw t := by
  refine T.ind fun k w ks ih hwf a l v hl => ?_
  have hW := wfT_iff.1 hwf
  have hk := hW.k
  have hww := hW.w
  have hwl := hW.wl
  have hkl := hW.kl
  simp at hk hww hwl hkl
  have ihk : ∀ c, c ∈ ks → Shw c := fun c hc => ih c hc (hW.ks c hc)
  have fam : FamL (fun r => [bp r, tX (.mk k w ks)]) := famL_cons famA_pob (famL_cons (famA_bare (cs := [iv k, uws w, tKs ks]) rfl fun x hx => by simp at hx; rcases hx with rfl | rfl | rfl <;> rfl) famL_nil)
  rw [showT_mk] at hl ⊢
  by_cases hA : k = 10 ∧ w.length = 1
  · rw [if_pos hA] at hl ⊢
    obtain ⟨rfl, hw1⟩ := hA
    obtain ⟨x, rfl⟩ : ∃ x, w = [x] := List.length_eq_one_iff.1 hw1
    have hx := hww x (by simp)
    unfold u64R at hx
    have hfmt := fmtUint_spec x.toNat (by omega)
    rw [Int.toNat_of_nonneg hx.1] at hfmt
    simp only [List.headD_cons] at hl ⊢
    refine ⟨v + 1, specF_of t_text_show (by simp) fam (famA_tup famL_nil) fun w0 I0 M0 m0 => ?_⟩
    unfold c_text_show
    simp
    refine sc_call hfmt rfl ?_
    simp
    refine sc_fam 0 (bStr_spec a l v (hexS x.toNat) (by omega)) (fun p => by simp [updF_app]) (by simp) (by simp) ?_
    simp
    exact reth_famN rfl rfl (fun p => by simp)
  · rw [if_neg hA] at hl ⊢
    have hd : (decide (k = 10) && decide (w.length = 1)) = false := by simpa using hA
    by_cases h1 : k = 1
    · rw [if_pos h1] at hl ⊢
      subst h1
      have hb0 := bByte_spec a l v 123 (by simp at hl; omega)
      obtain ⟨v1, hL⟩ := words_l1 (t := .mk 1 w ks) (ws := w) rfl hwl hww (l := l ++ [123]) (by simp at hl ⊢; omega) w.length 0 (v + 1) (by omega)
      by_cases hks : ks = []
      · subst hks
        obtain ⟨v2, hA⟩ := all_spec (ks := []) (by simp) (by simp) (l := l ++ [123] ++ joinC (w.map fun x => hexS x.toNat)) (by simp at hl ⊢; omega) v1
        have hb1 := bByte_spec true (l ++ [123] ++ joinC (w.map fun x => hexS x.toNat) ++ joinC (([] : List T).map showT)) v2 125 (by simp at hl ⊢; omega)
        refine ⟨v2 + 1, specF_of t_text_show (by simp) fam (famA_tup famL_nil) fun w0 I0 M0 m0 => ?_⟩
        unfold c_text_show
        simp
        refine sc_fam 0 hb0 (fun p => by simp [updF_app]) (by simp) (by simp) ?_
        simp
        refine hL _ (fun p => by simp) (by simp) fun H' g1 g2 => ?_
        simp [g2]
        refine sc_fam 0 hA g1 (by simp) (by simp) ?_
        simp
        refine sc_fam 0 hb1 (fun p => by simp) (by simp) (by simp) ?_
        simp
        refine reth_famN rfl rfl (fun p => ?_)
        simp
      · have hb1 := bByte_spec true (l ++ [123] ++ joinC (w.map fun x => hexS x.toNat)) v1 124 (by simp [hks] at hl ⊢; omega)
        obtain ⟨v2, hA⟩ := all_spec hkl ihk (l := l ++ [123] ++ joinC (w.map fun x => hexS x.toNat) ++ [124]) (by simp [hks] at hl ⊢; omega) (v1 + 1)
        have hb2 := bByte_spec true (l ++ [123] ++ joinC (w.map fun x => hexS x.toNat) ++ [124] ++ joinC (ks.map showT)) v2 125 (by simp [hks] at hl ⊢; omega)
        have hpos : 0 < ks.length := by
          cases ks with
          | nil => exact (hks rfl).elim
          | cons x y => simp
        refine ⟨v2 + 1, specF_of t_text_show (by simp) fam (famA_tup famL_nil) fun w0 I0 M0 m0 => ?_⟩
        unfold c_text_show
        simp
        refine sc_fam 0 hb0 (fun p => by simp [updF_app]) (by simp) (by simp) ?_
        simp
        refine hL _ (fun p => by simp) (by simp) fun H' g1 g2 => ?_
        simp [g2, hpos]
        refine sc_fam 0 hb1 g1 (by simp) (by simp) ?_
        simp [g2]
        refine sc_fam 0 hA (fun p => by simp) (by simp) (by simp) ?_
        simp
        refine sc_fam 0 hb2 (fun p => by simp) (by simp) (by simp) ?_
        simp
        refine reth_famN rfl rfl (fun p => ?_)
        simp [hks]
    · rw [if_neg h1] at hl ⊢
      by_cases h2 : 2 ≤ k ∧ k ≤ 9
      · rw [if_pos h2] at hl ⊢
        have hg := letters_get k h2.1 h2.2
        have hb0 := bByte_spec a l v (letS k) (by simp at hl; omega)
        have hb1 := bByte_spec true (l ++ [letS k]) (v + 1) 91 (by simp at hl ⊢; omega)
        obtain ⟨v2, hA⟩ := all_spec hkl ihk (l := l ++ [letS k] ++ [91]) (by simp at hl ⊢; omega) (v + 1 + 1)
        have hb2 := bByte_spec true (l ++ [letS k] ++ [91] ++ joinC (ks.map showT)) v2 93 (by simp at hl ⊢; omega)
        have hL := tList_spec k
        rw [show (decide (2 ≤ k) && decide (k ≤ 9)) = true by simp [h2.1, h2.2]] at hL
        refine ⟨v2 + 1, specF_of t_text_show (by simp) fam (famA_tup famL_nil) fun w0 I0 M0 m0 => ?_⟩
        unfold c_text_show
        simp [h1, show ¬ k = 10 by omega]
        refine sc_call hL rfl ?_
        simp [hg, show 0 ≤ k by omega]
        refine sc_fam 0 hb0 (fun p => by simp [updF_app]) (by simp) (by simp) ?_
        simp
        refine sc_fam 0 hb1 (fun p => by simp) (by simp) (by simp) ?_
        simp
        refine sc_fam 0 hA (fun p => by simp) (by simp) (by simp) ?_
        simp
        refine sc_fam 0 hb2 (fun p => by simp) (by simp) (by simp) ?_
        simp
        exact reth_famN rfl rfl (fun p => by simp)
      · rw [if_neg h2] at hl ⊢
        have hb0 := bByte_spec a l v 95 (by simp at hl; omega)
        have hL := tList_spec k
        rw [show (decide (2 ≤ k) && decide (k ≤ 9)) = false by simp; omega] at hL
        refine ⟨v + 1, specF_of t_text_show (by simp) fam (famA_tup famL_nil) fun w0 I0 M0 m0 => ?_⟩
        unfold c_text_show
        have go : ∀ {H : Hp}, (∀ p, H (0 :: p) = (bdF a l v).F 0 p) → ∀ {K : Sta → Prop} {s : Nat → A}, True := fun _ _ _ => trivial
        by_cases h10 : k = 10
        · subst h10
          have hw1 : ¬ w.length = 1 := fun e => hA ⟨rfl, e⟩
          have hw2 : ¬ (w.length : Int) = 1 := by omega
          simp [hw2]
          refine sc_call hL rfl ?_
          simp
          refine sc_fam 0 hb0 (fun p => by simp [updF_app]) (by simp) (by simp) ?_
          simp
          exact reth_famN rfl rfl (fun p => by simp)
        · simp [h1, h10]
          refine sc_call hL rfl ?_
          simp
          refine sc_fam 0 hb0 (fun p => by simp [updF_app]) (by simp) (by simp) ?_
          simp
          exact reth_famN rfl rfl (fun p => by simp)
theorem showT_pos (t : T) : showT t ≠ [] := by
  obtain ⟨k, w, l⟩ := t
  rw [showT_mk]
  split
  · intro e
    have := hexS_pos (w.headD 0).toNat
    rw [e] at this
    simp at this
  · split
    · simp
    · split <;> simp
theorem print_spec {t : T} (h : wfT t) (hl : (showT t).length ≤ 70368744177664) : G.Spec Tryd.prog 9 [tX t] (S (showT t)) := by
  obtain ⟨v', hS⟩ := shw_all t h false [] 1 (by simpa using hl)
  simp only [List.nil_append] at hS
  refine spec_of t_text_Print (by simp) fun w0 I0 => ?_
  unfold c_text_Print
  simp
  refine stop_le (le_blankC (d := [1, 777777, 44]) 1 [1, 777777, 44, 777777, 5] 1 rfl rfl (by simp)) (stop_go ?_)
  simp
  refine sc_fam 1 hS (fun p => ?_) (by simp) (by simp) ?_
  · rw [bdF_F]
    by_cases h1 : p = [777777, 44]
    · subst h1; simp [updF_app, lkH]
    · by_cases h2 : p = [777777, 44, 777777, 5]
      · subst h2; simp [updF_app, lkH]
      · simp [updF_app, lkH, h1, h2, Ne.symm h1, Ne.symm h2]
  · simp
    refine sc_fam 1 (bString_spec (showT t) v' (showT_pos t) (by omega)) (fun p => by simp) (by simp) (by simp) ?_
    simp
    exact frz_bare rfl
end Go.Proofs.YtgimfagpolbelaaDoor

/-
  Plain: a tree's text is read as just that tree; the texts of right trees.
-/
namespace Go.PL
set_option linter.unusedVariables false
set_option linter.unusedSimpArgs false
/-- A reader of things: of a thing's text, with a comma or such an end behind it, it reads the thing. -/
def RdOf (p : List UInt8 → T × Bool × Nat) (Q : T → Prop) : Prop := ∀ t rest, Q t → (∀ c, rest.head? = some c → hexV c = none) → p (showT t ++ rest) = (t, true, (showT t).length)
/-- Its text begins with something else than an end. -/
def Heads (Q : T → Prop) (e : UInt8) : Prop := ∀ t, Q t → ∃ c r, showT t = c :: r ∧ c ≠ e
theorem hex_44 : hexV 44 = none := by decide
theorem hex_93 : hexV 93 = none := by decide
theorem hex_125 : hexV 125 = none := by decide
theorem hex_124 : hexV 124 = none := by decide
section
variable {num : List UInt8 → Nat × Bool × Nat}
theorem numsM_of (h : NumR num) : ∀ (ws : List Int) (f : Nat) (c : UInt8) (rest : List UInt8), ws ≠ [] → (∀ x, x ∈ ws → 0 ≤ x ∧ x < 18446744073709551616) → ws.length ≤ f → hexV c = none → c ≠ 44 →
    numsM num f (joinC (ws.map fun x => hexS x.toNat) ++ c :: rest) = (ws, true, (joinC (ws.map fun x => hexS x.toNat)).length)
  | [], f, c, rest, hne, _, _, _, _ => (hne rfl).elim
  | [x], f, c, rest, _, hx, hf, hc, hc4 => by
    obtain ⟨f, rfl⟩ : ∃ g, f = g + 1 := ⟨f - 1, by simp at hf; omega⟩
    have hx := hx x (by simp)
    have hn := h.of x.toNat (c :: rest) (by omega) (fun y hy => by simp at hy; rw [← hy]; exact hc)
    simp only [List.map_cons, List.map_nil, joinC_one]
    unfold numsM
    rw [hn]
    simp [hc4]
    omega
  | x :: y :: ws, f, c, rest, _, hx, hf, hc, hc4 => by
    obtain ⟨f, rfl⟩ : ∃ g, f = g + 1 := ⟨f - 1, by simp at hf; omega⟩
    have hx0 := hx x (by simp)
    have ih := numsM_of h (y :: ws) f c rest (by simp) (fun z hz => hx z (by simp [hz])) (by simp at hf ⊢; omega) hc hc4
    have e : joinC ((x :: y :: ws).map fun x => hexS x.toNat) = hexS x.toNat ++ 44 :: joinC ((y :: ws).map fun x => hexS x.toNat) := by
      rw [List.map_cons, joinC_cons (by simp)]
    rw [e]
    generalize joinC ((y :: ws).map fun x => hexS x.toNat) = J at ih
    have hn := h.of x.toNat (44 :: (J ++ c :: rest)) (by omega) (fun y hy => by simp at hy; rw [← hy]; exact hex_44)
    rw [List.append_assoc, List.cons_append]
    unfold numsM
    rw [hn]
    have hd : List.drop ((hexS x.toNat).length + 1) (hexS x.toNat ++ 44 :: (J ++ c :: rest)) = J ++ c :: rest := by rw [List.drop_length_add_append]; rfl
    simp only [if_true, List.drop_left, eatB_cons, hd, ih]
    simp
    omega
theorem numT_of (h : NumR num) : RdOf (numT num) atomOk := fun t rest ht hr => by
  obtain ⟨n, h1, h2, h3⟩ := show_atom ht
  rw [h3]
  unfold numT
  rw [h.of n rest h2 hr, h1]
theorem kidsGo_of {p : List UInt8 → T × Bool × Nat} {Q : T → Prop} (h : RdOf p Q) {e : UInt8} (he : hexV e = none) (he4 : e ≠ 44) : ∀ (l : List T) (f : Nat) (rest : List UInt8), l ≠ [] → (∀ x, x ∈ l → Q x) → l.length ≤ f →
    kidsGo p e f (joinC (l.map showT) ++ e :: rest) = (l, true, (joinC (l.map showT)).length + 1)
  | [], f, rest, hne, _, _ => (hne rfl).elim
  | [x], f, rest, _, hx, hf => by
    obtain ⟨f, rfl⟩ : ∃ g, f = g + 1 := ⟨f - 1, by simp at hf; omega⟩
    have hn := h x (e :: rest) (hx x (by simp)) (fun y hy => by simp at hy; rw [← hy]; exact he)
    simp only [List.map_cons, List.map_nil, joinC_one]
    unfold kidsGo
    rw [hn]
    simp
  | x :: y :: l, f, rest, _, hx, hf => by
    obtain ⟨f, rfl⟩ : ∃ g, f = g + 1 := ⟨f - 1, by simp at hf; omega⟩
    have ih := kidsGo_of h he he4 (y :: l) f rest (by simp) (fun z hz => hx z (by simp [hz])) (by simp at hf ⊢; omega)
    have e1 : joinC ((x :: y :: l).map showT) = showT x ++ 44 :: joinC ((y :: l).map showT) := by
      rw [List.map_cons, joinC_cons (by simp)]
    rw [e1]
    generalize joinC ((y :: l).map showT) = J at ih
    have hn := h x (44 :: (J ++ e :: rest)) (hx x (by simp)) (fun y hy => by simp at hy; rw [← hy]; exact hex_44)
    rw [List.append_assoc, List.cons_append]
    unfold kidsGo
    rw [hn]
    have hd : List.drop ((showT x).length + 1) (showT x ++ 44 :: (J ++ e :: rest)) = J ++ e :: rest := by rw [List.drop_length_add_append]; rfl
    have h4 : ((44 : UInt8) == e) = false := by simp; exact fun h => he4 h.symm
    simp only [if_true, List.drop_left, eatB_cons, hd, ih, h4]
    simp
    omega
theorem join_len {α : Type} (f : α → List UInt8) : ∀ (l : List α), (∀ x, x ∈ l → 1 ≤ (f x).length) → l.length ≤ (joinC (l.map f)).length
  | [], _ => by simp
  | [x], h => by simpa using h x (by simp)
  | x :: y :: l, h => by
    have := join_len f (y :: l) (fun z hz => h z (by simp [hz]))
    rw [List.map_cons, joinC_cons (by simp)]
    simp at this ⊢
    omega
theorem join_head {α : Type} (f : α → List UInt8) {P : UInt8 → Prop} {l : List α} (hne : l ≠ []) (h : ∀ x, x ∈ l → ∃ c r, f x = c :: r ∧ P c) : ∃ c r, joinC (l.map f) = c :: r ∧ P c := by
  cases l with
  | nil => exact (hne rfl).elim
  | cons x l =>
    obtain ⟨c, r, h1, h2⟩ := h x (by simp)
    cases l with
    | nil => exact ⟨c, r, by simpa using h1, h2⟩
    | cons y l =>
      refine ⟨c, r ++ 44 :: joinC ((y :: l).map f), ?_, h2⟩
      rw [List.map_cons, joinC_cons (by simp), h1]
      rfl
theorem txKids_of {p : List UInt8 → T × Bool × Nat} {Q : T → Prop} (h : RdOf p Q) {e : UInt8} (he : hexV e = none) (he4 : e ≠ 44) (hQ : Heads Q e) (l : List T) (rest : List UInt8) (hl : ∀ x, x ∈ l → Q x) :
    txKids p e (joinC (l.map showT) ++ e :: rest) = (l, true, (joinC (l.map showT)).length + 1) := by
  unfold txKids
  by_cases hne : l = []
  · subst hne; simp
  · obtain ⟨c, r, h1, h2⟩ := join_head showT (P := fun c => c ≠ e) hne (fun x hx => hQ x (hl x hx))
    have h3 : eatB (joinC (l.map showT) ++ e :: rest) e = false := by rw [h1]; simp [h2]
    rw [h3]
    simp only [Bool.false_eq_true, if_false]
    have := join_len showT l (fun x hx => by obtain ⟨c, r, h1, _⟩ := hQ x (hl x hx); rw [h1]; simp)
    exact kidsGo_of h he he4 l _ rest hne hl (by simp; omega)
theorem heads_atom : Heads atomOk 93 := fun t ht => by
  obtain ⟨n, _, _, h⟩ := show_atom ht
  have := hexS_pos n
  cases hq : hexS n with
  | nil => rw [hq] at this; simp at this
  | cons c r =>
    refine ⟨c, r, by rw [h, hq], fun e => ?_⟩
    obtain ⟨d, hd⟩ := hexS_all n c (by rw [hq]; simp)
    rw [e, hex_93] at hd
    cases hd
theorem heads_tree : ∀ (d : Nat) (e : UInt8), e = 93 ∨ e = 125 → Heads (proper d) e := fun d e he t ht => by
  have key : t = T0 ∨ t.kind = 1 ∨ (2 ≤ t.kind ∧ t.kind ≤ 9) := by
    cases d with
    | zero => exact .inl ht
    | succ d =>
      rcases ht with h | h | h
      · exact .inl h
      · exact .inr (.inl h.1)
      · exact .inr (.inr ⟨h.1, h.2.1⟩)
  rcases key with rfl | h | ⟨h1, h2⟩
  · refine ⟨95, [], by rw [showT_mk]; simp, ?_⟩
    rcases he with rfl | rfl <;> decide
  · obtain ⟨k, w, l⟩ := t
    simp at h
    subst h
    refine ⟨123, _, by rw [showT_mk, if_neg (by omega), if_pos rfl], ?_⟩
    rcases he with rfl | rfl <;> decide
  · obtain ⟨k, w, l⟩ := t
    simp at h1 h2
    have := letV_spec h1 h2
    refine ⟨letS k, _, by rw [showT_mk, if_neg (by omega), if_neg (by omega), if_pos ⟨h1, h2⟩], ?_⟩
    rcases he with rfl | rfl
    · exact this.2.2.2.2
    · exact this.2.2.2.1
theorem treeM_T0 (d : Nat) (rest : List UInt8) : treeM num d (showT T0 ++ rest) = (T0, true, (showT T0).length) := by
  have e : showT T0 = [95] := by rw [showT_mk]; simp
  rw [e]
  cases d with
  | zero => rw [treeM_zero]; simp
  | succ d => rw [treeM_succ]; simp
theorem treeM_of (h : NumR num) : ∀ d (t : T) (rest : List UInt8), proper d t → treeM num d (showT t ++ rest) = (t, true, (showT t).length)
  | 0, t, rest, ht => by
    have ht : t = T0 := ht
    subst ht; exact treeM_T0 0 rest
  | d + 1, t, rest, ht => by
    have ih : RdOf (treeM num d) (proper d) := fun t rest ht _ => treeM_of h d t rest ht
    rcases ht with rfl | ⟨h1, h2, h3⟩ | ⟨h1, h2, h3, h4⟩
    · exact treeM_T0 _ rest
    · obtain ⟨k, w, l⟩ := t
      simp at h1 h2 h3
      subst h1
      have eS : showT (.mk 1 w l) = 123 :: (joinC (w.map fun x : Int => hexS x.toNat) ++ ((if l = [] then [] else 124 :: joinC (l.map showT)) ++ [125])) := by rw [showT_mk, if_neg (by omega), if_pos rfl]
      rw [eS, treeM_succ]
      have tail : ∀ (ws : List Int), tailM (txKids (treeM num d) 125) ws ((if l = [] then [] else 124 :: joinC (l.map showT)) ++ 125 :: rest) = (.mk 1 ws l, true, ((if l = [] then [] else 124 :: joinC (l.map showT)) ++ [125]).length) := fun ws => by
        unfold tailM
        by_cases hl : l = []
        · subst hl; simp
        · obtain ⟨c, r, c1, c2⟩ := join_head showT (P := fun c => c ≠ 125) hl (fun x hx => heads_tree d 125 (.inr rfl) x (h3 x hx))
          have hk := txKids_of ih hex_125 (by decide) (heads_tree d 125 (.inr rfl)) l rest h3
          have h6 : (joinC (l.map showT) ++ 125 :: rest).headD 0 ≠ 125 := by rw [c1]; simpa using c2
          have a1 : ((124 : UInt8) == 125) = false := by decide
          simp only [hl, if_false, List.cons_append, eatB_cons, a1, Bool.false_eq_true, List.drop_succ_cons, List.drop_zero, if_neg h6, hk]
          simp
          omega
      have hst : structM num (txKids (treeM num d) 125) (joinC (w.map fun x : Int => hexS x.toNat) ++ ((if l = [] then [] else 124 :: joinC (l.map showT)) ++ 125 :: rest)) =
          (.mk 1 w l, true, (joinC (w.map fun x : Int => hexS x.toNat) ++ ((if l = [] then [] else 124 :: joinC (l.map showT)) ++ [125])).length) := by
        unfold structM
        by_cases hw : w = []
        · subst hw
          simp only [List.map_nil, joinC_nil, List.nil_append]
          by_cases hl : l = []
          · subst hl; simp
          · have a1 : ((124 : UInt8) == 125) = false := by decide
            have b1 : eatB ((if l = [] then [] else 124 :: joinC (l.map showT)) ++ 125 :: rest) 125 = false := by simp [hl]
            have b2 : wsM num ((if l = [] then [] else 124 :: joinC (l.map showT)) ++ 125 :: rest) = ([], true, 0) := by
              unfold wsM; simp [hl]
            rw [b1, b2]
            simp only [Bool.false_eq_true, if_false, if_true, List.drop_zero, tail]
            simp
        · obtain ⟨c, r, c1, x, c2⟩ := join_head (fun x : Int => hexS x.toNat) (P := fun c => ∃ d, hexV c = some d) hw (fun x hx => by
            have := hexS_pos x.toNat
            cases hq : hexS x.toNat with
            | nil => rw [hq] at this; simp at this
            | cons c r => exact ⟨c, r, rfl, hexS_all x.toNat c (by rw [hq]; simp)⟩)
          have n1 : c ≠ 125 := fun e => by rw [e, hex_125] at c2; cases c2
          have n2 : c ≠ 124 := fun e => by rw [e, hex_124] at c2; cases c2
          generalize hT : (if l = [] then [] else 124 :: joinC (l.map showT)) = TL at tail
          have hTL : ∃ y r, TL ++ 125 :: rest = y :: r ∧ hexV y = none ∧ y ≠ 44 := by
            by_cases hl : l = []
            · rw [if_pos hl] at hT; subst hT; exact ⟨125, rest, rfl, hex_125, by decide⟩
            · rw [if_neg hl] at hT; subst hT; exact ⟨124, _, rfl, hex_124, by decide⟩
          obtain ⟨y, r', d1, d2, d3⟩ := hTL
          have b1 : eatB (joinC (w.map fun x : Int => hexS x.toNat) ++ (TL ++ 125 :: rest)) 125 = false := by rw [c1]; simp [n1]
          have b2 : wsM num (joinC (w.map fun x : Int => hexS x.toNat) ++ (TL ++ 125 :: rest)) = (w, true, (joinC (w.map fun x : Int => hexS x.toNat)).length) := by
            unfold wsM
            rw [if_pos (by rw [c1]; simpa using n2), d1]
            have hlen := join_len (fun x : Int => hexS x.toNat) w (fun x _ => hexS_pos _)
            exact numsM_of h w _ y r' hw h2 (by simp; omega) d2 d3
          rw [b1, b2]
          simp only [Bool.false_eq_true, if_false, if_true, List.drop_left, tail]
          simp
      have a1 : ((123 : UInt8) == 95) = false := by decide
      have e2 : (joinC (w.map fun x : Int => hexS x.toNat) ++ ((if l = [] then [] else 124 :: joinC (l.map showT)) ++ [125])) ++ rest = joinC (w.map fun x : Int => hexS x.toNat) ++ ((if l = [] then [] else 124 :: joinC (l.map showT)) ++ 125 :: rest) := by simp
      simp only [List.cons_append, eatB_cons, a1, Bool.false_eq_true, if_false, beq_self_eq_true, if_true, List.drop_succ_cons, List.drop_zero, e2, hst]
      simp
      omega
    · obtain ⟨k, w, l⟩ := t
      simp at h1 h2 h3 h4
      subst h3
      obtain ⟨l1, l2, l3, l4, l5⟩ := letV_spec h1 h2
      have eS : showT (.mk k [] l) = letS k :: 91 :: (joinC (l.map showT) ++ [93]) := by rw [showT_mk, if_neg (by omega), if_neg (by omega), if_pos ⟨h1, h2⟩]
      have of : RdOf (if isD k = true then numT num else treeM num d) (fun c => if isD k = true then atomOk c else proper d c) := by
        by_cases hD : isD k = true
        · simp only [hD, if_true]; exact numT_of h
        · simp only [hD, if_false]; exact ih
      have hh : Heads (fun c => if isD k = true then atomOk c else proper d c) 93 := by
        by_cases hD : isD k = true
        · simp only [hD, if_true]; exact heads_atom
        · simp only [hD, if_false]; exact heads_tree d 93 (.inl rfl)
      have hk := txKids_of of hex_93 (by decide) hh l rest h4
      have e2 : (joinC (l.map showT) ++ [93]) ++ rest = joinC (l.map showT) ++ 93 :: rest := by simp
      have a1 : (letS k == 95) = false := by simpa using l2
      have a2 : (letS k == 123) = false := by simpa using l3
      rw [eS, treeM_succ]
      simp only [List.cons_append, eatB_cons, a1, a2, Bool.false_eq_true, if_false, List.headD_cons, l1, if_neg (show ¬ k < 2 by omega), List.drop_succ_cons, List.drop_zero, beq_self_eq_true, if_true, e2, hk]
      simp
      omega
/-- The two readers read the same, of a whole text. -/
theorem read_whole {num num' : List UInt8 → Nat × Bool × Nat} (h : NumR num) (h' : NumR num') {d : Nat} {s : List UInt8} {t : T} (q : treeM num d s = (t, true, s.length)) : treeM num' d s = (t, true, s.length) ∧ showT t = s ∧ proper d t := by
  obtain ⟨h1, h2, h3⟩ := treeM_to h d s t s.length q
  have h4 : showT t = s := by rw [← h1]; simp
  have := treeM_of h' d t [] h3
  rw [List.append_nil, h4] at this
  exact ⟨this, h4, h3⟩
end
end Go.PL

/-
  The program's reader of texts: bytes and numbers.
-/
namespace Go.Proofs.YtgimfagpolbelaaDoor
set_option linter.unusedVariables false
set_option linter.unusedSimpArgs false
open Go Go.G Go.Proofs Go.PL
/-- A reader: its text, and where it is. -/
def psF (s : List UInt8) (at' : Nat) : Fam := ⟨fun _ p => if p = [] then ⟨1, .cells [S s, iv at']⟩ else ⟨0, .none⟩, fun {g δ r r'} hg hd p => by
    by_cases hp : p = []
    · rw [if_pos hp]
      exact Fam.cells_ren (by simp [A.renL, A.ren])
    · rw [if_neg hp]; rfl, fun {D r} hD p => by
    by_cases hp : p = []
    · rw [if_pos hp]
      simp [Ob.refs, A.refsL, A.refs]
    · rw [if_neg hp]; trivial⟩
@[simp] theorem psF_F {s : List UInt8} {k r : Nat} {p : Nm} : (psF s k).F r p = if p = [] then ⟨1, .cells [S s, iv k]⟩ else ⟨0, .none⟩ := rfl
abbrev pp (r : Nat) : A := .pob [r] 1 0
theorem drop_get {s : List UInt8} {k : Nat} (h : k < s.length) : s.drop k = s[k] :: s.drop (k + 1) := List.drop_eq_getElem_cons h
/-- The next byte; 0: there is none. -/
def nxB (r : List UInt8) : UInt8 := r.headD 0
theorem nxB_at {s : List UInt8} {k : Nat} (h : k < s.length) : nxB (s.drop k) = s[k] := by rw [drop_get h]; rfl
theorem nxB_end {s : List UInt8} : nxB (s.drop s.length) = 0 := by rw [List.drop_length]; rfl
theorem next_spec (s : List UInt8) (k : Nat) (hk : k ≤ s.length) : SpecF Tryd.prog 33 (fun r => [pp r]) (psF s k) (fun _ => u8v (nxB (s.drop k))) (psF s k) := by
  refine specF_of t_text_parser_next (by simp) (famL_cons famA_pob famL_nil) famA_v fun w0 I0 M0 m0 => ?_
  unfold c_text_parser_next
  by_cases h : k = s.length
  · subst h
    rw [nxB_end]
    simp
    exact reth_fam rfl rfl (fun p => by simp)
  · have hlt : k < s.length := by omega
    rw [nxB_at hlt]
    simp [show ¬ (k : Int) = s.length by omega, hlt]
    exact reth_fam rfl rfl (fun p => by simp)
def one (b : Bool) : Nat := if b = true then 1 else 0
@[simp] theorem one_true : one true = 1 := rfl
@[simp] theorem one_false : one false = 0 := rfl
theorem eat_cases (s : List UInt8) (k : Nat) (c : UInt8) (hk : k ≤ s.length) : (eatB (s.drop k) c = true ∧ k < s.length ∧ nxB (s.drop k) = c) ∨ (eatB (s.drop k) c = false ∧ (k = s.length ∨ nxB (s.drop k) ≠ c)) := by
  by_cases h : k = s.length
  · right
    subst h
    rw [List.drop_length]
    exact ⟨rfl, .inl rfl⟩
  · have hlt : k < s.length := by omega
    rw [drop_get hlt, eatB_cons]
    by_cases e : s[k] = c
    · left; exact ⟨by simpa using e, hlt, e⟩
    · right; exact ⟨by simpa using e, .inr e⟩
theorem u8_inj {a b : UInt8} : ((a.toNat : Int) = b.toNat) ↔ a = b := by
  rw [Int.natCast_inj]; exact UInt8.toNat_inj
theorem eat_spec (s : List UInt8) (k : Nat) (c : UInt8) (hk : k ≤ s.length) (hs : s.length ≤ 1000000000) : SpecF Tryd.prog 30 (fun r => [pp r, u8v c]) (psF s k) (fun _ => bv (eatB (s.drop k) c)) (psF s (k + one (eatB (s.drop k) c))) := by
  refine specF_of t_text_parser_eat (by simp) (famL_cons famA_pob (famL_cons famA_v famL_nil)) famA_v fun w0 I0 M0 m0 => ?_
  unfold c_text_parser_eat
  have hn := next_spec s k hk
  rcases eat_cases s k c hk with ⟨h1, h2, h3⟩ | ⟨h1, h2⟩
  · rw [h1]
    rw [h3] at hn
    have e1 : IntKind.i64.wrap ((k : Int) + 1) = ((k + 1 : Nat) : Int) := by rw [i64_same (by omega) (by omega)]; omega
    simp
    refine sc_fam 0 hn (fun p => by simp) (by simp) (by simp) ?_
    simp [e1, show ¬ (k : Int) = s.length by omega]
    exact reth_fam rfl rfl (fun p => by by_cases hp : p = [] <;> simp [hp, updF_app])
  · rw [h1]
    by_cases h3 : nxB (s.drop k) = c
    · have h4 : k = s.length := by
        rcases h2 with h2 | h2
        · exact h2
        · exact (h2 h3).elim
      rw [h3] at hn
      simp
      refine sc_fam 0 hn (fun p => by simp) (by simp) (by simp) ?_
      simp [h4]
      exact reth_fam rfl rfl (fun p => by simp)
    · have h4 : ¬ ((nxB (s.drop k)).toNat : Int) = c.toNat := fun e => h3 (u8_inj.1 e)
      generalize nxB (s.drop k) = x at hn h4
      simp
      refine sc_fam 0 hn (fun p => by simp) (by simp) (by simp) ?_
      simp [h4]
      exact reth_fam rfl rfl (fun p => by simp)
set_option maxRecDepth 100000 in
theorem hexV_idx (c : UInt8) : idxB [48, 49, 50, 51, 52, 53, 54, 55, 56, 57, 97, 98, 99, 100, 101, 102] c = match hexV c with | some d => (d : Int) | none => -1 := by
  have : ∀ n : Fin 256, idxB [48, 49, 50, 51, 52, 53, 54, 55, 56, 57, 97, 98, 99, 100, 101, 102] (UInt8.ofNat n.val) = match hexV (UInt8.ofNat n.val) with | some d => (d : Int) | none => -1 := by decide +kernel
  have h := this ⟨c.toNat, c.toNat_lt⟩
  simpa using h
theorem hex_spec (c : UInt8) : G.Spec Tryd.prog 53 [u8v c] (.tup [uv ((hexV c).getD 0 : Nat), bv (hexV c).isSome]) := by
  refine spec_of t_text_hex (by simp) fun w0 I0 => ?_
  unfold c_text_hex
  simp
  refine sc_call (idx_spec _ c) rfl ?_
  rw [hexV_idx]
  cases h : hexV c with
  | none => simp; exact frz_bare rfl
  | some d =>
    have hd := (hexD_V h).1
    have e : IntKind.u64.wrap (d : Int) = d := u64_same (by omega) (by omega)
    simp [e]
    exact frz_bare rfl
theorem or16 (n d : Nat) (hn : n < 1152921504606846976) (hd : d < 16) : bits .or .u64 (IntKind.u64.wrap ((n : Int) * 2 ^ min (Int.toNat 4) IntKind.u64.bits)) (d : Int) = ((n * 16 + d : Nat) : Int) := by
  have e : IntKind.u64.wrap ((n : Int) * 2 ^ min (Int.toNat 4) IntKind.u64.bits) = ((n * 16 : Nat) : Int) := by
    rw [show min (Int.toNat 4) IntKind.u64.bits = 4 from rfl, u64_same (by omega) (by omega)]
    omega
  rw [e, bits_or_u64_nat _ _ (by omega) (by omega)]
  have := Nat.two_pow_add_eq_or_of_lt (i := 4) (b := d) (by omega) n
  rw [show (2 : Nat) ^ 4 * n = n * 16 by omega] at this
  rw [← this]
section
variable {n0 : Nat} {w0 : World} {I0 : Nat → Prop} {M0 : Nm → Nat → Prop} {m0 : Mu} {Q : Exit → Sta → Prop}
theorem num_l1 {s : List UInt8} (hs : s.length ≤ 1000000000) {k0 : Nat} : ∀ (r : List UInt8) (k n : Nat) (H : Hp), s.drop k = r → k ≤ s.length → n < 18446744073709551616 → (∀ p, H (0 :: p) = (psF s k).F 0 p) →
    (∀ (H' : Hp) (s6 s7 s22 : A), (∀ p, H' (0 :: p) = (psF s (k + (numGo n r).2)).F 0 p) → Q (.exit 0) ⟨lk [(0, pp 0), (4, iv k0), (5, uv (numGo n r).1), (22, s22)], H'⟩) →
    (∀ (H' : Hp) (s6 s7 s22 : A), (∀ p, H' (0 :: p) = (psF s (k + (numGo n r).2)).F 0 p) → Q (.exit 0) ⟨lk [(0, pp 0), (4, iv k0), (5, uv (numGo n r).1), (6, s6), (42, s22)], H'⟩) →
    LoopC (cxh Tryd.prog w0 I0 M0 n0 m0) l1_text_parser_number Q ⟨lk [(0, pp 0), (4, iv k0), (5, uv n)], H⟩ := by
  intro r
  induction r with
  | nil =>
    intro k n H hr hk hn hH hq hq2
    have hke : k = s.length := by
      have := congrArg List.length hr
      simp at this; omega
    refine loopC_once mixed l1_text_parser_number.eq_1 ?_
    simp [hH, hke]
    exact hq H .any .any _ (fun p => by rw [hH]; simp [numGo, hke])
  | cons x r ih =>
    intro k n H hr hk hn hH hq hq2
    have hlt : k < s.length := by
      have := congrArg List.length hr
      simp at this; omega
    refine loopC_once mixed l1_text_parser_number.eq_1 ?_
    have hx : s[k] = x := by
      rw [drop_get hlt] at hr
      exact (List.cons.inj hr).1
    have hr' : s.drop (k + 1) = r := by
      rw [drop_get hlt] at hr
      exact (List.cons.inj hr).2
    have hcall := hex_spec x
    have stop : numGo n (x :: r) = (n, 0) → ∀ (H : Hp) (s6 s42 : A), (∀ p, H (0 :: p) = (psF s k).F 0 p) → Q (.exit 0) ⟨lk [(0, pp 0), (4, iv k0), (5, uv n), (6, s6), (42, s42)], H⟩ := fun e H s6 s42 hH => by
      have := hq2 H s6 .any s42 (fun p => by rw [hH, e]; rfl)
      rwa [e] at this
    simp [hH, hlt, hx]
    refine sc_call hcall rfl ?_
    cases hv : hexV x with
    | none =>
      simp
      exact stop (by rw [numGo, hv]) _ _ _ hH
    | some d =>
      have hd := (hexD_V hv).1
      by_cases hbig : n < 1152921504606846976
      · have hsh : (n : Int) / 2 ^ min 60 IntKind.u64.bits = 0 := by
          rw [show min 60 IntKind.u64.bits = 60 from rfl]
          omega
        have hor := or16 n d hbig hd
        have e1 : IntKind.i64.wrap ((k : Int) + 1) = ((k + 1 : Nat) : Int) := by rw [i64_same (by omega) (by omega)]; omega
        have en : numGo n (x :: r) = ((numGo (n * 16 + d) r).1, (numGo (n * 16 + d) r).2 + 1) := by rw [numGo, hv]; simp [hbig]
        rw [en] at hq hq2
        obtain ⟨q, hqq⟩ : ∃ q, q = n * 16 + d := ⟨_, rfl⟩
        rw [← hqq] at hor hq hq2
        rw [show min (Int.toNat 4) IntKind.u64.bits = min 4 IntKind.u64.bits from rfl] at hor
        simp [hsh, hor, hH, e1]
        refine ih (k + 1) q _ hr' (by omega) (by omega) (fun p => ?_) (fun H' s6 s7 s22 h => hq H' s6 s7 s22 (fun p => by rw [h, show k + 1 + (numGo q r).2 = k + ((numGo q r).2 + 1) by omega])) (fun H' s6 s7 s22 h => hq2 H' s6 s7 s22 (fun p => by rw [h, show k + 1 + (numGo q r).2 = k + ((numGo q r).2 + 1) by omega]))
        by_cases hp : p = [] <;> simp [hp, updF_app, hH]
      · have hsh : ¬ (n : Int) / 2 ^ min 60 IntKind.u64.bits = 0 := by
          rw [show min 60 IntKind.u64.bits = 60 from rfl]
          omega
        simp [hsh]
        exact stop (by rw [numGo, hv]; simp [hbig]) _ _ _ hH
end
theorem number_spec {s : List UInt8} (hs : s.length ≤ 1000000000) (k : Nat) (hk : k ≤ s.length) : SpecF Tryd.prog 44 (fun r => [pp r]) (psF s k) (fun _ => .tup [uv ((numP (s.drop k)).1 : Nat), bv (numP (s.drop k)).2.1]) (psF s (k + (numP (s.drop k)).2.2)) := by
  refine specF_of t_text_parser_number (by simp) (famL_cons famA_pob famL_nil) (famA_tup (famL_cons famA_v (famL_cons famA_v famL_nil))) fun w0 I0 M0 m0 => ?_
  unfold c_text_parser_number
  simp
  have hle := (numGo_le (s.drop k) 0 (by omega)).2
  rw [List.length_drop] at hle
  have fin : ∀ (H' : Hp), (∀ p, H' (0 :: p) = (psF s (k + (numGo 0 (s.drop k)).2)).F 0 p) → WPC (cxh Tryd.prog w0 I0 M0 77 m0) k1_text_parser_number (RetH (cxh Tryd.prog w0 I0 M0 77 m0) [.tmp 2, .tmp 3] 1 (.tup [uv ((numP (s.drop k)).1 : Nat), bv (numP (s.drop k)).2.1]) (ov 0 ((psF s (k + (numP (s.drop k)).2.2)).F 0) (lkH []))) ⟨lk [(0, pp 0), (4, iv k), (5, uv ((numGo 0 (s.drop k)).1 : Nat))], H'⟩ := fun H' h => by
    have e1 : IntKind.i64.wrap ((k : Int) + ((numGo 0 (s.drop k)).2 : Int) - k) = ((numGo 0 (s.drop k)).2 : Int) := by rw [i64_same (by omega) (by omega)]; omega
    have en : numP (s.drop k) = ((numGo 0 (s.drop k)).1, decide (0 < (numGo 0 (s.drop k)).2) && (decide ((numGo 0 (s.drop k)).2 = 1) || decide (nxB (s.drop k) ≠ 48)), (numGo 0 (s.drop k)).2) := rfl
    rw [en]
    have hnx : 0 < (numGo 0 (s.drop k)).2 → nxB (s.drop k) = s.getD k 0 := fun h0 => by rw [nxB_at (by omega)]; simp [List.getD, show k < s.length by omega]
    generalize nxB (s.drop k) = nx at hnx
    generalize (numGo 0 (s.drop k)).1 = n at *
    generalize (numGo 0 (s.drop k)).2 = j at *
    rw [k1_text_parser_number.eq_1]
    by_cases h0 : j = 0
    · subst h0
      simp at e1
      simp [h, e1]
      exact reth_fam rfl rfl (fun p => h p)
    · by_cases h1 : j = 1
      · subst h1
        simp at e1
        simp [h, e1]
        exact reth_fam rfl rfl (fun p => h p)
      · have hlt : k < s.length := by omega
        have hx := hnx (by omega)
        have hg : s.getD k 0 = s[k] := by simp [List.getD, hlt]
        rw [hg] at hx
        subst hx
        simp [h, e1, show 0 < j by omega, show ¬ (j : Int) = 1 by omega, hlt]
        refine reth_fam rfl ?_ (fun p => h p)
        have h48 : ((s[k].toNat : Int) = 48) ↔ s[k] = 48 := u8_inj (b := 48)
        simp [h1, h48]
  refine num_l1 hs (s.drop k) k 0 _ rfl hk (by omega) (fun p => by simp) (fun H' s6 s7 s22 h => ?_) (fun H' s6 s7 s22 h => ?_)
  · simp
    exact fin H' h
  · simp
    exact fin H' h
end Go.Proofs.YtgimfagpolbelaaDoor

/-
  Chapter 16: the law InternMany.
-/
namespace Go.Proofs.YtgimfagpolbelaaDoor
set_option linter.unusedVariables false
set_option linter.unusedSimpArgs false
open Go Go.G Go.Proofs Go.PL
/-! ### classes, again -/
/-! ### the message -/
theorem i64_and127 (n : Int) : bits .and .i64 n 127 = n % 128 := by
  have h7 : (BitVec.ofInt 64 127).toNat = 2 ^ 7 - 1 := by decide
  have key : (BitVec.ofInt 64 n &&& BitVec.ofInt 64 127).toNat = (n % ((2 ^ 64 : Nat) : Int)).toNat % 2 ^ 7 := by
    rw [BitVec.toNat_and, BitVec.toNat_ofInt, h7, Nat.and_two_pow_sub_one_eq_mod]
  show IntKind.i64.wrap ((BitVec.ofInt 64 n &&& BitVec.ofInt 64 127).toNat : Nat) = n % 128
  rw [key, IntKind.wrap_i64]
  omega
theorem le_softS {c : Cx} {s : Nat → A} {H : Hp} (t : Nat) : Le c ⟨s, H⟩ ⟨upd s t (A.soft (s t)), H⟩ := fun a w I μ hs =>
  ⟨I, μ, hs.sim, hs.size, hs.defers, fun k => by
    show Rel w I μ (upd s t (A.soft (s t)) k) _
    unfold upd
    split
    · rename_i e
      subst e
      exact (hs.rel _).soft
    · exact hs.rel k⟩
section
variable {n0 : Nat} {w0 : World} {I0 : Nat → Prop} {Q : Exit → Sta → Prop}
end
theorem frz_rowS {α : Type} {H : Hp} {o : Nm} {u n sz : Nat} {l : List α} {f g : α → A} (h : vr (H o) u = some (sz, l.map f)) (hn : n = l.length)
    (hf : ∀ x, x ∈ l → (f x).cells.all A.bare = true ∧ (f x).cells.map A.soft = (g x).cells ∧ (g x).cells.length = sz ∧ A.ones (g x).cells = true) : Frz H (.osl o u sz 0 n) (.sl false (l.map g)) := by
  subst hn
  refine frz_osl' (xs := l.map f) (by simpa using h) (by simp) (by simp) (fun y hy => ?_) ?_ ?_
  · obtain ⟨x, hx, rfl⟩ := List.mem_map.1 hy
    exact (hf x hx).2.2.1
  · simp only [A.ones, List.all_eq_true, List.mem_flatMap]
    rintro y ⟨z, hz, hy⟩
    obtain ⟨x, hx, rfl⟩ := List.mem_map.1 hz
    have := (hf x hx).2.2.2
    simp only [A.ones, List.all_eq_true] at this
    exact this y hy
  · rw [List.drop_zero, List.take_of_length_le (by simp)]
    have : ∀ (m : List α), (∀ x, x ∈ m → x ∈ l) → FrzL H ((m.map f).flatMap A.cells) ((m.map g).flatMap A.cells) := by
      intro m
      induction m with
      | nil => intro _; simp
      | cons x m ih =>
        intro hm
        obtain ⟨h1, h2, _, _⟩ := hf x (hm x (by simp))
        simp only [List.map_cons, List.flatMap_cons]
        rw [← h2]
        have hr := ih fun y hy => hm y (by simp [hy])
        have : ∀ (c : List A) (p q : List A), c.all A.bare = true → FrzL H p q → FrzL H (c ++ p) (c.map A.soft ++ q) := by
          intro c
          induction c with
          | nil => intro p q _ hpq; exact hpq
          | cons y c ihc =>
            intro p q hc hpq
            simp only [List.all_cons, Bool.and_eq_true] at hc
            exact ⟨frz_soft hc.1, ihc p q hc.2 hpq⟩
        exact this _ _ _ h1 hr
    exact this l fun x h => h
section
variable {n0 : Nat} {w0 : World} {I0 : Nat → Prop}
end
end Go.Proofs.YtgimfagpolbelaaDoor

/-
  The program's reader of texts: rows of numbers, kids.
-/
namespace Go.Proofs.YtgimfagpolbelaaDoor
set_option linter.unusedVariables false
set_option linter.unusedSimpArgs false
open Go Go.G Go.Proofs Go.PL
theorem numP_le (r : List UInt8) : (numP r).2.2 ≤ r.length := (numGo_le r 0 (by omega)).2
theorem nums_l1 {n0 : Nat} {w0 : World} {I0 : Nat → Prop} {M0 : Nm → Nat → Prop} {m0 : Mu} {Q : Exit → Sta → Prop} {s : List UInt8} (hs : s.length ≤ 1000000000) : ∀ (f k : Nat) (acc : List Int) (v : Nat) (H : Hp), s.length - k < f → k ≤ s.length → acc.length ≤ k → (∀ p, H (0 :: p) = (psF s k).F 0 p) → H [1] = ⟨v, .arr 1 (acc.map uv)⟩ →
    ((numsM numP f (s.drop k)).2.1 = false → ∀ H' : Hp, (∀ p, H' (0 :: p) = (psF s (k + (numsM numP f (s.drop k)).2.2)).F 0 p) → Q .ret ⟨lk [(2, .sl true []), (3, bv false)], H'⟩) →
    ((numsM numP f (s.drop k)).2.1 = true → ∀ (H' : Hp) (v' : Nat), (∀ p, H' (0 :: p) = (psF s (k + (numsM numP f (s.drop k)).2.2)).F 0 p) → H' [1] = ⟨v', .arr 1 ((acc ++ (numsM numP f (s.drop k)).1).map uv)⟩ → Q .ret ⟨lk [(2, .osl [1] v' 1 0 (acc ++ (numsM numP f (s.drop k)).1).length), (3, bv true)], H'⟩) →
    LoopC (cxh Tryd.prog w0 I0 M0 n0 m0) l1_text_parser_numbers Q ⟨lk [(0, pp 0), (4, .osl [1] v 1 0 acc.length)], H⟩ := by
  intro f
  induction f with
  | zero => intro k acc v H hf; omega
  | succ f ih =>
    intro k acc v H hf hk hacc hH hH1 hq0 hq1
    have hn := number_spec hs k hk
    have hle := numP_le (s.drop k)
    rw [List.length_drop] at hle
    refine loopC_once mixed l1_text_parser_numbers.eq_1 ?_
    simp
    refine sc_fam 0 hn hH (by simp) (by simp) ?_
    rw [numsM] at hq0 hq1
    by_cases ho : (numP (s.drop k)).2.1 = true
    · rw [if_pos ho] at hq0 hq1
      have hpos : 0 < (numP (s.drop k)).2.2 := by
        have : (numP (s.drop k)).2.1 = true := ho
        unfold numP at this
        simp only [Bool.and_eq_true, decide_eq_true_eq] at this
        exact this.1
      generalize hN : numP (s.drop k) = N at *
      have hk1 : k + N.2.2 ≤ s.length := by omega
      have he := eat_spec s (k + N.2.2) 44 hk1 hs
      rw [List.drop_drop] at hq0 hq1
      simp [ho, hH1, take_all]
      refine ⟨by omega, ?_⟩
      refine sc_fam 0 he (fun p => by simp [updF_app]) (by simp) (by simp) ?_
      by_cases hc : eatB (s.drop (k + N.2.2)) 44 = true
      · rw [if_pos hc] at hq0 hq1
        rw [List.drop_drop] at hq0 hq1
        have hlt : k + N.2.2 < s.length := by
          rcases eat_cases s (k + N.2.2) 44 hk1 with h | h
          · exact h.2.1
          · rw [h.1] at hc; cases hc
        rw [hc]
        simp
        refine LoopC.le (le_list [(0, pp 0), (4, .osl [1] (v + 1) 1 0 (acc ++ [(N.1 : Int)]).length)] (by simp)) ?_
        rw [show k + N.2.2 + 1 = k + (N.2.2 + 1) by omega]
        refine ih (k + (N.2.2 + 1)) (acc ++ [(N.1 : Int)]) (v + 1) _ (by omega) (by omega) (by simp; omega) (fun p => by simp) (by simp) (fun h H' h1 => ?_) (fun h H' v' h1 h2 => ?_)
        · exact hq0 h H' (fun p => (h1 p).trans (by rw [Nat.add_assoc]))
        · have := hq1 h H' v' (fun p => (h1 p).trans (by rw [Nat.add_assoc])) (by simp [h]; simpa using h2)
          simpa [h] using this
      · rw [if_neg hc] at hq0 hq1
        simp only [Bool.not_eq_true] at hc
        rw [hc]
        simp
        have := hq1 rfl (ov 0 ((psF s (k + N.2.2)).F 0) (updF H [1] ⟨v + 1, .arr 1 (acc.map uv ++ [uv N.1])⟩)) (v + 1) (fun p => by simp) (by simp)
        simpa using this
    · rw [if_neg ho] at hq0 hq1
      simp only [Bool.not_eq_true] at ho
      simp [ho]
      exact hq0 rfl _ (fun p => by simp)
theorem nums_spec {s : List UInt8} (hs : s.length ≤ 1000000000) (k : Nat) (hk : k ≤ s.length) (f : Nat) (hf : s.length - k < f) : ∃ x, SpecF Tryd.prog 41 (fun r => [pp r]) (psF s k) (fun _ => .tup [x, bv (numsM numP f (s.drop k)).2.1]) (psF s (k + (numsM numP f (s.drop k)).2.2)) ∧
    ((numsM numP f (s.drop k)).2.1 = true → x = uws (numsM numP f (s.drop k)).1) ∧ ((numsM numP f (s.drop k)).2.1 = false → x = .sl false []) := by
  cases hb : (numsM numP f (s.drop k)).2.1 with
  | false =>
    refine ⟨.sl false [], specF_of' t_text_parser_numbers (by simp) (famL_cons famA_pob famL_nil) (famA_tup (famL_cons famA_sl (famL_cons famA_v famL_nil))) fun w0 I0 M0 m0 hM => ?_, (fun h => by cases h), fun _ => rfl⟩
    unfold c_text_parser_numbers
    simp
    refine LoopC.le (le_blank 4 [1] 1 (by simp)) ?_
    refine LoopC.le (le_list [(0, pp 0), (4, .osl [1] 1 1 0 ([] : List Int).length)] (by simp [upd])) ?_
    refine nums_l1 hs f k [] 1 _ hf hk (by simp) (fun p => by simp) (by simp) (fun h H' h1 => ?_) (fun h => by rw [hb] at h; cases h)
    simp
    refine reth_le (le_softS 2) (reth_fam (r0 := .tup [.sl false [], bv false]) (by simp [upd, A.soft, A.softL]) rfl h1)
  | true =>
    refine ⟨uws (numsM numP f (s.drop k)).1, specF_of' t_text_parser_numbers (by simp) (famL_cons famA_pob famL_nil) (famA_tup (famL_cons famA_sl (famL_cons famA_v famL_nil))) fun w0 I0 M0 m0 hM => ?_, fun _ => rfl, (fun h => by cases h)⟩
    unfold c_text_parser_numbers
    simp
    refine LoopC.le (le_blank 4 [1] 1 (by simp)) ?_
    refine LoopC.le (le_list [(0, pp 0), (4, .osl [1] 1 1 0 ([] : List Int).length)] (by simp [upd])) ?_
    refine nums_l1 hs f k [] 1 _ hf hk (by simp) (fun p => by simp) (by simp) (fun h => by rw [hb] at h; cases h) (fun h H' v' h1 h2 => ?_)
    simp at h2
    simp
    obtain ⟨H2, g1, g2⟩ := le_freezeR (c := cxh Tryd.prog w0 I0 M0 22 m0) (s := lk [(2, .osl [1] v' 1 0 (numsM numP f (s.drop k)).1.length), (3, bv true)]) (H := H') (fun r => 1 ≤ r) (fun r p b hr => hM r p b hr) 2 (uws (numsM numP f (s.drop k)).1) (fun H1 e1 => by
      have e2 : H1 [1] = H' [1] := e1 1 [] (Nat.le_refl _)
      simp
      exact frz_row (l := (numsM numP f (s.drop k)).1) (f := uv) (by rw [e2, h2]; simp) rfl (fun x => by simp))
    refine reth_le g1 (reth_fam (r0 := .tup [uws (numsM numP f (s.drop k)).1, bv true]) (by simp [upd]) rfl (fun p => ?_))
    exact (g2 0 p (by omega)).trans (h1 p)
/-- A kid as it stands in the reader's row. -/
def elC (D : Bool) (t : T) : List A := if D = true then [iv t.kind, .sl true (t.words.map uv), .sl true []] else [iv t.kind, uws t.words, tKs t.kids]
def el (D : Bool) (t : T) : A := .agg (elC D t)
@[simp] theorem el_cells {D : Bool} {t : T} : (el D t).cells = elC D t := rfl
@[simp] theorem elC_len {D : Bool} {t : T} : (elC D t).length = 3 := by cases D <;> rfl
theorem elC_ones {D : Bool} {t : T} : A.ones (elC D t) = true := by cases D <;> rfl
@[simp] theorem elC_take {D : Bool} {t : T} : (elC D t).take 3 = elC D t := by cases D <;> rfl
theorem elC_bare {D : Bool} {t : T} : ∀ y, y ∈ elC D t → y.bare1 = true := by
  intro y hy
  cases D <;> simp [elC] at hy <;> rcases hy with rfl | rfl | rfl <;> rfl
theorem lens_el {D : Bool} {l : List T} : lens 3 (l.map (el D)) = true := by rw [lens_all]; simp
theorem rdkids_k1 {n0 : Nat} {w0 : World} {I0 : Nat → Prop} {M0 : Nm → Nat → Prop} {m0 : Mu} {Q' : Exit → Sta → Prop} {s : List UInt8} (hs : s.length ≤ 1000000000) {k : Nat} (hk : k ≤ s.length) {ki : Int} {e : UInt8} {d : Int} {D b : Bool} {x : T} {acc : List T} {u v : Nat} {H : Hp} (hacc : acc.length ≤ k)
    (hH : ∀ p, H (0 :: p) = (psF s k).F 0 p) (h1 : H [1] = ⟨u, .cells (elC D x)⟩) (h2 : H [2] = ⟨v, .arr 3 (acc.map (el D))⟩)
    (hbad : (b = true → eatB (s.drop k) e = false ∧ eatB (s.drop k) 44 = false) → ∀ H' : Hp, (∀ p, H' (0 :: p) = (psF s k).F 0 p) → Q' .ret ⟨lk [(8, .sl true []), (9, bv false)], H'⟩)
    (hend : b = true → eatB (s.drop k) e = true → ∀ H' : Hp, (∀ p, H' (0 :: p) = (psF s (k + 1)).F 0 p) → H' [2] = ⟨v + 1, .arr 3 ((acc ++ [x]).map (el D))⟩ → Q' .ret ⟨lk [(8, .osl [2] (v + 1) 3 0 (acc.length + 1)), (9, bv true)], H'⟩)
    (hgo : b = true → eatB (s.drop k) e = false → eatB (s.drop k) 44 = true → ∀ H' : Hp, (∀ p, H' (0 :: p) = (psF s (k + 1)).F 0 p) → H' [2] = ⟨v + 1, .arr 3 ((acc ++ [x]).map (el D))⟩ → Q' .normal ⟨lk [(0, pp 0), (1, iv ki), (2, u8v e), (3, iv d), (10, .osl [2] (v + 1) 3 0 (acc.length + 1)), (44, bv false)], H'⟩) :
    WPC (cxh Tryd.prog w0 I0 M0 n0 m0) k1_text_parser_kids Q' ⟨lk [(0, pp 0), (1, iv ki), (2, u8v e), (3, iv d), (10, .osl [2] v 3 0 acc.length), (11, .pob [1] u 0), (12, bv b)], H⟩ := by
  rw [k1_text_parser_kids.eq_1]
  cases b with
  | false =>
    simp
    exact hbad (fun h => by cases h) H hH
  | true =>
    have he := eat_spec s k e hk hs
    have hc := eat_spec s k 44 hk hs
    have hag : A.agg (elC D x) = el D x := rfl
    simp [h1, h2, lens_el, elC_ones, take_all, hag]
    refine ⟨elC_bare, by omega, ?_⟩
    refine sc_fam 0 he (fun p => by simp [updF_app, hH]) (by simp) (by simp) ?_
    cases hE : eatB (s.drop k) e with
    | true =>
      simp
      exact hend rfl hE _ (fun p => by simp) (by simp)
    | false =>
      simp
      refine sc_fam 0 hc (fun p => by simp) (by simp) (by simp) ?_
      cases hC : eatB (s.drop k) 44 with
      | true =>
        simp
        exact hgo rfl hE hC _ (fun p => by simp) (by simp)
      | false =>
        simp
        exact hbad (fun _ => ⟨hE, hC⟩) _ (fun p => by simp)
/-- What reads a kid. -/
def rdK (D : Bool) (d : Nat) : List UInt8 → T × Bool × Nat := if D = true then numT numP else treeM numP d
def TrS (d : Nat) : Prop := ∀ {s : List UInt8}, s.length ≤ 1000000000 → ∀ k, k ≤ s.length → (treeM numP d (s.drop k)).2.2 ≤ s.length - k ∧ ((treeM numP d (s.drop k)).2.1 = true → 0 < (treeM numP d (s.drop k)).2.2) ∧
  SpecF Tryd.prog 20 (fun r => [pp r, iv d]) (psF s k) (fun _ => .tup [tX (treeM numP d (s.drop k)).1, bv (treeM numP d (s.drop k)).2.1]) (psF s (k + (treeM numP d (s.drop k)).2.2))
theorem tData_spec (k : Int) : G.Spec Tryd.prog 43 [iv k] (bv (isD k)) := by
  refine spec_of t_tree_Data (by simp) fun w0 I0 => ?_
  unfold c_tree_Data
  by_cases h : 2 ≤ k
  · simp [h]
    exact frz_bool (by simp [isD, h])
  · simp [h]
    exact frz_bool (by simp [isD, h])
theorem rdkids_l1 {n0 : Nat} {w0 : World} {I0 : Nat → Prop} {M0 : Nm → Nat → Prop} {m0 : Mu} {Q : Exit → Sta → Prop} {s : List UInt8} (hs : s.length ≤ 1000000000) {ki : Int} {e : UInt8} {d : Nat} (hT : isD ki = false → TrS d) : ∀ (f k : Nat) (acc : List T) (v : Nat) (H : Hp), s.length - k < f → k ≤ s.length → acc.length ≤ k → (∀ p, H (0 :: p) = (psF s k).F 0 p) → H [2] = ⟨v, .arr 3 (acc.map (el (isD ki)))⟩ →
    ((kidsGo (rdK (isD ki) d) e f (s.drop k)).2.1 = false → ∀ H' : Hp, (∀ p, H' (0 :: p) = (psF s (k + (kidsGo (rdK (isD ki) d) e f (s.drop k)).2.2)).F 0 p) → Q .ret ⟨lk [(8, .sl true []), (9, bv false)], H'⟩) →
    ((kidsGo (rdK (isD ki) d) e f (s.drop k)).2.1 = true → ∀ (H' : Hp) (v' : Nat), (∀ p, H' (0 :: p) = (psF s (k + (kidsGo (rdK (isD ki) d) e f (s.drop k)).2.2)).F 0 p) → H' [2] = ⟨v', .arr 3 ((acc ++ (kidsGo (rdK (isD ki) d) e f (s.drop k)).1).map (el (isD ki)))⟩ → Q .ret ⟨lk [(8, .osl [2] v' 3 0 (acc ++ (kidsGo (rdK (isD ki) d) e f (s.drop k)).1).length), (9, bv true)], H'⟩) →
    LoopC (cxh Tryd.prog w0 I0 M0 n0 m0) l1_text_parser_kids Q ⟨lk [(0, pp 0), (1, iv ki), (2, u8v e), (3, iv d), (10, .osl [2] v 3 0 acc.length)], H⟩ := by
  intro f
  induction f with
  | zero => intro k acc v H hf; omega
  | succ f ih =>
    intro k acc v H hf hk hacc hH hH2 hq0 hq1
    rw [kidsGo] at hq0 hq1
    have hle : (rdK (isD ki) d (s.drop k)).2.2 ≤ s.length - k ∧ ((rdK (isD ki) d (s.drop k)).2.1 = true → 0 < (rdK (isD ki) d (s.drop k)).2.2) := by
      unfold rdK
      by_cases hD : isD ki = true
      · rw [if_pos hD]
        have := numP_le (s.drop k)
        rw [List.length_drop] at this
        refine ⟨this, fun h => ?_⟩
        unfold numT numP at h
        simp only [Bool.and_eq_true, decide_eq_true_eq] at h
        exact h.1
      · rw [if_neg hD]
        have := hT (by simpa using hD) hs k hk
        exact ⟨this.1, this.2.1⟩
    -- behind a kid
    have tail : ∀ (H' : Hp) (u : Nat), (∀ p, H' (0 :: p) = (psF s (k + (rdK (isD ki) d (s.drop k)).2.2)).F 0 p) → H' [1] = ⟨u, .cells (elC (isD ki) (rdK (isD ki) d (s.drop k)).1)⟩ → H' [2] = ⟨v, .arr 3 (acc.map (el (isD ki)))⟩ →
        WPC (cxh Tryd.prog w0 I0 M0 n0 m0) k1_text_parser_kids (InBlock 1 (ThenC (LoopC (cxh Tryd.prog w0 I0 M0 n0 m0) l1_text_parser_kids Q) Q)) ⟨lk [(0, pp 0), (1, iv ki), (2, u8v e), (3, iv d), (10, .osl [2] v 3 0 acc.length), (11, .pob [1] u 0), (12, bv (rdK (isD ki) d (s.drop k)).2.1)], H'⟩ := fun H' u g0 g1 g2 => by
      generalize rdK (isD ki) d (s.drop k) = N at *
      obtain ⟨hle1, hpos⟩ := hle
      have hk1 : k + N.2.2 ≤ s.length := by omega
      refine rdkids_k1 hs hk1 (by omega) g0 g1 g2 (fun hb H2 f0 => ?_) (fun hb hE H2 f0 f2 => ?_) (fun hb hE hC H2 f0 f2 => ?_)
      · rw [List.drop_drop] at hq0
        by_cases hb' : N.2.1 = true
        · obtain ⟨b1, b2⟩ := hb hb'
          have b1' : ¬ eatB (s.drop (k + N.2.2)) e = true := by rw [b1]; simp
          have b2' : ¬ eatB (s.drop (k + N.2.2)) 44 = true := by rw [b2]; simp
          rw [if_pos hb', if_neg b1', if_neg b2'] at hq0
          exact hq0 rfl H2 f0
        · rw [if_neg hb'] at hq0
          exact hq0 rfl H2 f0
      · rw [List.drop_drop] at hq1
        rw [if_pos hb, if_pos hE] at hq1
        have := hq1 rfl H2 (v + 1) f0 f2
        simpa using this
      · have hlt : k + N.2.2 < s.length := by
          rcases eat_cases s (k + N.2.2) 44 hk1 with h | h
          · exact h.2.1
          · rw [h.1] at hC; cases hC
        rw [List.drop_drop] at hq0 hq1
        have hE' : ¬ eatB (s.drop (k + N.2.2)) e = true := by rw [hE]; simp
        rw [if_pos hb, if_neg hE', if_pos hC, List.drop_drop] at hq0 hq1
        simp
        refine LoopC.le (le_list [(0, pp 0), (1, iv ki), (2, u8v e), (3, iv d), (10, .osl [2] (v + 1) 3 0 (acc ++ [N.1]).length)] (by simp)) ?_
        rw [show k + N.2.2 + 1 = k + (N.2.2 + 1) by omega] at f0
        refine ih (k + (N.2.2 + 1)) (acc ++ [N.1]) (v + 1) _ (by omega) (by omega) (by simp; omega) f0 f2 (fun h H' h1 => ?_) (fun h H' v' h1 h2 => ?_)
        · exact hq0 h H' (fun p => (h1 p).trans (by rw [Nat.add_assoc]))
        · have := hq1 h H' v' (fun p => (h1 p).trans (by rw [Nat.add_assoc])) (by simp [h]; simpa using h2)
          simpa [h] using this
    refine loopC_once mixed l1_text_parser_kids.eq_1 ?_
    simp
    refine sc_call (tData_spec ki) rfl ?_
    cases hD : isD ki with
    | true =>
      simp
      have hn := number_spec hs k hk
      refine sc_fam 0 hn (fun p => by simp [updF_app, hH]) (by simp) (by simp) ?_
      have eR : rdK true d (s.drop k) = (.mk 10 [((numP (s.drop k)).1 : Int)] [], (numP (s.drop k)).2.1, (numP (s.drop k)).2.2) := rfl
      rw [hD, eR] at tail
      simp
      refine tail _ _ (fun p => ?_) ?_ ?_
      · simp [updF_app]
      · simp [elC]
      · simp [updF_app, hH2, hD]
    | false =>
      simp
      obtain ⟨_, _, ht⟩ := hT hD hs k hk
      refine sc_fam 0 ht (fun p => by simp [updF_app, hH]) (by simp) (by simp) ?_
      have eR : rdK false d (s.drop k) = treeM numP d (s.drop k) := rfl
      rw [hD, eR] at tail
      simp
      refine tail _ _ (fun p => ?_) ?_ ?_
      · simp [updF_app]
      · simp [elC]
      · simp [updF_app, hH2, hD]
theorem rdK_le {d : Nat} {D : Bool} (hT : D = false → TrS d) {s : List UInt8} (hs : s.length ≤ 1000000000) {k : Nat} (hk : k ≤ s.length) : (rdK D d (s.drop k)).2.2 ≤ s.length - k := by
  unfold rdK
  by_cases hD : D = true
  · rw [if_pos hD]
    have := numP_le (s.drop k)
    rwa [List.length_drop] at this
  · rw [if_neg hD]
    exact (hT (by simpa using hD) hs k hk).1
theorem kidsGo_le {d : Nat} {D : Bool} (hT : D = false → TrS d) {s : List UInt8} (hs : s.length ≤ 1000000000) (e : UInt8) : ∀ (f k : Nat), k ≤ s.length → (kidsGo (rdK D d) e f (s.drop k)).2.2 ≤ s.length - k
  | 0, k, hk => by simp [kidsGo]
  | f + 1, k, hk => by
    have h1 := rdK_le hT hs hk
    unfold kidsGo
    split
    · split
      · rename_i hc
        obtain ⟨c1, _⟩ := eat_take hc
        simp at c1 ⊢
        omega
      · split
        · rename_i hc
          obtain ⟨c1, _⟩ := eat_take hc
          rw [List.drop_drop]
          have := kidsGo_le hT hs e f (k + ((rdK D d (s.drop k)).2.2 + 1)) (by simp at c1; omega)
          simp at c1 ⊢
          omega
        · simpa using h1
    · simpa using h1
theorem txKids_le {d : Nat} {D : Bool} (hT : D = false → TrS d) {s : List UInt8} (hs : s.length ≤ 1000000000) (e : UInt8) {k : Nat} (hk : k ≤ s.length) : (txKids (rdK D d) e (s.drop k)).2.2 ≤ s.length - k := by
  unfold txKids
  split
  · rename_i hc
    rcases eat_cases s k e hk with h | h
    · simp; omega
    · rw [h.1] at hc; cases hc
  · exact kidsGo_le hT hs e _ k hk
theorem rdkids_spec {d : Nat} {ki : Int} (hT : isD ki = false → TrS d) {s : List UInt8} (hs : s.length ≤ 1000000000) {e : UInt8} {k : Nat} (hk : k ≤ s.length) : ∃ x, SpecF Tryd.prog 34 (fun r => [pp r, iv ki, u8v e, iv d]) (psF s k) (fun _ => .tup [x, bv (txKids (rdK (isD ki) d) e (s.drop k)).2.1]) (psF s (k + (txKids (rdK (isD ki) d) e (s.drop k)).2.2)) ∧
    x = if (txKids (rdK (isD ki) d) e (s.drop k)).2.1 = true then tKs (txKids (rdK (isD ki) d) e (s.drop k)).1 else .sl false [] := by
  have he := eat_spec s k e hk hs
  have fa : FamL (fun r => [pp r, iv ki, u8v e, iv d]) := famL_cons famA_pob (famL_cons famA_v (famL_cons famA_v (famL_cons famA_v famL_nil)))
  unfold txKids
  by_cases hE : eatB (s.drop k) e = true
  · rw [if_pos hE]
    rw [hE] at he
    refine ⟨.sl false [], specF_of' t_text_parser_kids (by simp) fa (famA_tup (famL_cons famA_sl (famL_cons famA_v famL_nil))) fun w0 I0 M0 m0 hM => ?_, rfl⟩
    unfold c_text_parser_kids
    simp
    refine sc_fam 0 he (fun p => by simp) (by simp) (by simp) ?_
    simp
    exact reth_le (le_softS 8) (reth_fam (r0 := .tup [.sl false [], bv true]) (by simp [upd, A.soft, A.softL]) rfl (fun p => by simp))
  · rw [if_neg hE]
    simp only [Bool.not_eq_true] at hE
    rw [hE] at he
    cases hb : (kidsGo (rdK (isD ki) d) e ((s.drop k).length + 1) (s.drop k)).2.1 with
    | false =>
      refine ⟨.sl false [], specF_of' t_text_parser_kids (by simp) fa (famA_tup (famL_cons famA_sl (famL_cons famA_v famL_nil))) fun w0 I0 M0 m0 hM => ?_, rfl⟩
      unfold c_text_parser_kids
      simp
      refine sc_fam 0 he (fun p => by simp) (by simp) (by simp) ?_
      simp
      refine LoopC.le (le_blank 10 [2] 3 (by simp)) ?_
      refine LoopC.le (le_list [(0, pp 0), (1, iv ki), (2, u8v e), (3, iv d), (10, .osl [2] 1 3 0 ([] : List T).length)] (by simp [upd])) ?_
      refine rdkids_l1 hs hT ((s.drop k).length + 1) k [] 1 _ (by simp) hk (by simp) (fun p => by simp) (by simp) (fun h H' h1 => ?_) (fun h => by rw [hb] at h; cases h)
      simp only [List.length_drop] at h1
      simp
      exact reth_le (le_softS 8) (reth_fam (r0 := .tup [.sl false [], bv false]) (by simp [upd, A.soft, A.softL]) rfl h1)
    | true =>
      obtain ⟨G, hG⟩ : ∃ G, G = (kidsGo (rdK (isD ki) d) e ((s.drop k).length + 1) (s.drop k)).1 := ⟨_, rfl⟩
      have hat : isD ki = true → ∀ c, c ∈ G → c.kids = [] := fun hD c hc => by
        have eR : rdK (isD ki) d = numT numP := by rw [hD]; rfl
        rw [eR] at hb hG
        have := (kidsGo_to (numT_to numP_R) e _ _ _ _ (triple hb)).2.2.2 c (by rw [← hG]; exact hc)
        exact this.2.1
      refine ⟨tKs G, specF_of' t_text_parser_kids (by simp) fa (famA_tup (famL_cons famA_sl (famL_cons famA_v famL_nil))) fun w0 I0 M0 m0 hM => ?_, by rw [hG]; rfl⟩
      unfold c_text_parser_kids
      simp
      refine sc_fam 0 he (fun p => by simp) (by simp) (by simp) ?_
      simp
      refine LoopC.le (le_blank 10 [2] 3 (by simp)) ?_
      refine LoopC.le (le_list [(0, pp 0), (1, iv ki), (2, u8v e), (3, iv d), (10, .osl [2] 1 3 0 ([] : List T).length)] (by simp [upd])) ?_
      refine rdkids_l1 hs hT ((s.drop k).length + 1) k [] 1 _ (by simp) hk (by simp) (fun p => by simp) (by simp) (fun h => by rw [hb] at h; cases h) (fun h H' v' h1 h2 => ?_)
      rw [← hG] at h2 ⊢
      simp only [List.length_drop] at h1
      simp only [List.nil_append] at h2 ⊢
      simp
      obtain ⟨H2, g1, g2⟩ := le_freezeR (c := cxh Tryd.prog w0 I0 M0 48 m0) (s := lk [(8, .osl [2] v' 3 0 G.length), (9, bv true)]) (H := H') (fun r => 1 ≤ r) (fun r p b hr => hM r p b hr) 8 (tKs G) (fun H1 e1 => by
        have e2 : H1 [2] = H' [2] := e1 2 [] (by omega)
        simp
        refine frz_rowS (l := G) (f := el (isD ki)) (g := tA) (by rw [e2, h2]; simp) rfl (fun x hx => ?_)
        cases hD : isD ki with
        | true =>
          have hk0 := hat hD x hx
          simp [elC, A.soft, A.softL, hk0, A.bare, A.ones, soft_uv]
        | false => simp [elC, A.soft, A.softL, A.bare, A.ones, soft_uv, soft_tKs])
      refine reth_le g1 (reth_fam (r0 := .tup [tKs G, bv true]) (by simp [upd]) rfl (fun p => ?_))
      exact (g2 0 p (by omega)).trans (h1 p)
end Go.Proofs.YtgimfagpolbelaaDoor

/-
  The program's reader of texts: trees.
-/
namespace Go.Proofs.YtgimfagpolbelaaDoor
set_option linter.unusedVariables false
set_option linter.unusedSimpArgs false
open Go Go.G Go.Proofs Go.PL
theorem famA_tt8 (t : T) : FamA (fun _ => tX t) := famA_bare (cs := [iv t.kind, uws t.words, tKs t.kids]) rfl fun x hx => by simp at hx; rcases hx with rfl | rfl | rfl <;> rfl
theorem fam_res8 (t : T) (b : Bool) : FamA (fun _ => .tup [tX t, bv b]) := famA_tup (famL_cons (famA_tt8 t) (famL_cons famA_v famL_nil))
/-- The end: a tree in its cells. -/
theorem tree_fin {n : Nat} {w0 : World} {I0 : Nat → Prop} {M0 : Nm → Nat → Prop} {m0 : Mu} {H : Hp} {u k' : Nat} {s : List UInt8} {cs : List A} {t : T} {b : Bool} (h1 : H [1] = ⟨u, .cells cs⟩) (hf : ∀ H1 : Hp, FrzL H1 cs [iv t.kind, uws t.words, tKs t.kids]) (hH : ∀ p, H (0 :: p) = (psF s k').F 0 p) :
    RetH (cxh Tryd.prog w0 I0 M0 n m0) [.cell 4 25, .tmp 5] 1 (.tup [tX t, bv b]) (ov 0 ((psF s k').F 0) (lkH [])) .ret ⟨lk [(4, .pob [1] u 0), (5, bv b)], H⟩ := by
  obtain ⟨H2, g1, g2⟩ := le_freezeC (c := cxh Tryd.prog w0 I0 M0 n m0) (s := lk [(4, .pob [1] u 0), (5, bv b)]) (H := H) (fun _ => False) (fun _ _ _ h => h.elim) (r0 := 1) (p0 := []) (by simp) h1 (cs' := [iv t.kind, uws t.words, tKs t.kids]) (by simp [A.ones]) (fun H1 _ => hf H1)
  refine reth_le g1 (reth_fam (r0 := .tup [tX t, bv b]) (by simp [resA, updF]) rfl fun p => ?_)
  exact (updF_ne (f := H2) (d := [1]) (o := 0 :: p) (x := (⟨u, .cells [iv t.kind, uws t.words, tKs t.kids]⟩ : VOb)) (by simp)).trans ((g2 0 p (fun h => h)).trans (hH p))
theorem kidsGo_fail (p : List UInt8 → T × Bool × Nat) (e : UInt8) : ∀ (f : Nat) (r : List UInt8), (kidsGo p e f r).2.1 = false → (kidsGo p e f r).1 = []
  | 0, r, _ => rfl
  | f + 1, r, h => by
    unfold kidsGo at h ⊢
    split
    · rename_i h1
      rw [if_pos h1] at h
      split
      · rename_i h2
        rw [if_pos h2] at h; cases h
      · rename_i h2
        rw [if_neg h2] at h
        split
        · rename_i h3
          rw [if_pos h3] at h
          simp only at h ⊢
          rw [if_neg (by rw [h]; simp)]
        · rfl
    · rfl
theorem txKids_fail {p : List UInt8 → T × Bool × Nat} {e : UInt8} {r : List UInt8} (h : (txKids p e r).2.1 = false) : (txKids p e r).1 = [] := by
  unfold txKids at h ⊢
  split
  · rfl
  · rename_i h1
    rw [if_neg h1] at h
    exact kidsGo_fail p e _ _ h
theorem kids_frz {G : List T × Bool × Nat} (hG : G.2.1 = false → G.1 = []) {x : A} (hx : x = if G.2.1 = true then tKs G.1 else .sl false []) : ∃ b l, x = .sl b l ∧ ∀ H1 : Hp, Frz H1 x (tKs G.1) := by
  by_cases hg : G.2.1 = true
  · rw [if_pos hg] at hx
    exact ⟨_, _, hx, fun H1 => by rw [hx]; exact frz_sl⟩
  · rw [if_neg hg] at hx
    exact ⟨_, _, hx, fun H1 => by rw [hx, hG (by simpa using hg)]; exact frz_sl⟩
theorem st_k1 {n : Nat} {w0 : World} {I0 : Nat → Prop} {M0 : Nm → Nat → Prop} {m0 : Mu} {d : Nat} (hd : d ≤ 1000) (hT : TrS d) {s : List UInt8} (hs : s.length ≤ 1000000000) {k : Nat} (hk : k ≤ s.length) {ws : List Int} {fX : Bool} {H : Hp} {cs : List A} (hcs : cs.length = 3) (hH : ∀ p, H (0 :: p) = (psF s k).F 0 p) (h1 : H [1] = ⟨1, .cells cs⟩) (h2 : H [2] = ⟨1, .cells [iv 1, .sl fX (ws.map uv), .sl true []]⟩)
    {M : T × Bool × Nat} (hM : tailM (txKids (treeM numP d) 125) ws (s.drop k) = M) {k' : Nat} (hk' : k' = k + M.2.2) :
    WPC (cxh Tryd.prog w0 I0 M0 n m0) k1_text_parser_structure (RetH (cxh Tryd.prog w0 I0 M0 n m0) [.cell 4 25, .tmp 5] 1 (.tup [tX M.1, bv M.2.1]) (ov 0 ((psF s k').F 0) (lkH []))) ⟨lk [(0, pp 0), (1, iv (d + 1 : Nat)), (4, .pob [1] 1 0), (6, .pob [2] 1 0)], H⟩ := by
  have he := eat_spec s k 125 hk hs
  have hc := eat_spec s k 124 hk hs
  obtain ⟨a, b, c, rfl⟩ : ∃ a b c, cs = [a, b, c] := by
    match cs, hcs with
    | [a, b, c], _ => exact ⟨a, b, c, rfl⟩
  have fz : ∀ (H1 : Hp), FrzL H1 [iv 1, .sl fX (ws.map uv), .sl true []] [iv (T.mk 1 ws []).kind, uws (T.mk 1 ws []).words, tKs (T.mk 1 ws []).kids] := fun H1 => ⟨frz_bare rfl, frz_sl, frz_sl, trivial⟩
  rw [k1_text_parser_structure.eq_1]
  simp
  refine sc_fam 0 he hH (by simp) (by simp) ?_
  unfold tailM at hM
  cases hE : eatB (s.drop k) 125 with
  | true =>
    rw [if_pos hE] at hM
    subst hM hk'
    simp [h1, h2, splice]
    exact tree_fin (t := .mk 1 ws []) (by simp) fz (fun p => by simp [updF_app])
  | false =>
    have hE' : ¬ eatB (s.drop k) 125 = true := by rw [hE]; simp
    rw [if_neg hE'] at hM
    simp
    refine sc_fam 0 hc (fun p => by simp) (by simp) (by simp) ?_
    cases hC : eatB (s.drop k) 124 with
    | false =>
      have hC' : ¬ eatB (s.drop k) 124 = true := by rw [hC]; simp
      rw [if_neg hC'] at hM
      subst hM hk'
      simp
      refine sc_call_off rfl ?_
      simp [h1, h2, splice]
      exact tree_fin (t := .mk 1 ws []) (by simp) fz (fun p => by simp [updF_app])
    | true =>
      rw [if_pos hC] at hM
      have hlt : k + 1 ≤ s.length := by
        rcases eat_cases s k 124 hk with h | h
        · exact h.2.1
        · rw [h.1] at hC; cases hC
      have hn := next_spec s (k + 1) hlt
      rw [List.drop_drop] at hM
      have hnx : (s.drop (k + 1)).headD 0 = nxB (s.drop (k + 1)) := rfl
      rw [hnx] at hM
      simp
      rw [sc_guard]
      simp
      refine sc_fam 0 hn (fun p => by simp) (by simp) (by simp) ?_
      by_cases h5 : nxB (s.drop (k + 1)) = 125
      · rw [if_pos h5] at hM
        subst hM hk'
        rw [h5]
        simp [h1, h2, splice]
        exact tree_fin (t := .mk 1 ws []) (by simp) fz (fun p => by simp [updF_app])
      · rw [if_neg h5] at hM
        have h5' : ¬ ((nxB (s.drop (k + 1))).toNat : Int) = 125 := fun e => h5 ((u8_inj (b := 125)).1 e)
        have hD : isD 1 = false := by decide
        obtain ⟨x, hx1, hx2⟩ := rdkids_spec (d := d) (ki := 1) (fun _ => hT) hs (e := 125) hlt
        have eR : rdK (isD 1) d = treeM numP d := rfl
        rw [eR] at hx1 hx2
        have e1 : IntKind.i64.wrap ((d : Int) + 1 - 1) = (d : Int) := by rw [i64_same (by omega) (by omega)]; omega
        simp only [Int.add_sub_cancel] at e1
        obtain ⟨xb, xl, rfl, hxf⟩ := kids_frz (fun h => txKids_fail h) hx2
        generalize txKids (treeM numP d) 125 (s.drop (k + 1)) = G at hM hx1 hxf
        subst hM hk'
        generalize nxB (s.drop (k + 1)) = nx at h5'
        simp [h5', e1]
        refine sc_fam 0 hx1 (fun p => by simp) (by simp) (by simp) ?_
        simp [h1, h2, splice, updF_app]
        exact tree_fin (t := .mk 1 ws G.1) (cs := [iv 1, .sl fX (ws.map uv), .sl xb xl]) (by simp [updF_app]) (fun H1 => ⟨frz_bare rfl, frz_sl, hxf H1, trivial⟩) (fun p => by simp [updF_app, Nat.add_assoc])
theorem struct_spec {d : Nat} (hd : d ≤ 1000) (hT : TrS d) {s : List UInt8} (hs : s.length ≤ 1000000000) {k : Nat} (hk : k ≤ s.length) : SpecF Tryd.prog 31 (fun r => [pp r, iv (d + 1 : Nat)]) (psF s k) (fun _ => .tup [tX (structM numP (txKids (treeM numP d) 125) (s.drop k)).1, bv (structM numP (txKids (treeM numP d) 125) (s.drop k)).2.1]) (psF s (k + (structM numP (txKids (treeM numP d) 125) (s.drop k)).2.2)) := by
  refine specF_of' t_text_parser_structure (by simp) (famL_cons famA_pob (famL_cons famA_v famL_nil)) (fam_res8 _ _) fun w0 I0 M0 m0 hM => ?_
  have he := eat_spec s k 125 hk hs
  have hn := next_spec s k hk
  obtain ⟨M, hMM⟩ : ∃ M, M = structM numP (txKids (treeM numP d) 125) (s.drop k) := ⟨_, rfl⟩
  rw [← hMM]
  unfold structM at hMM
  unfold c_text_parser_structure
  simp
  refine sc_fam 0 he (fun p => by simp [updF_app]) (by simp) (by simp) ?_
  cases hE : eatB (s.drop k) 125 with
  | true =>
    rw [if_pos hE] at hMM
    subst hMM
    simp [splice, updF_app]
    exact tree_fin (t := .mk 1 [] []) (cs := [iv 1, .sl true [], .sl true []]) (by simp [updF_app]) (fun H1 => ⟨frz_bare rfl, frz_sl, frz_sl, trivial⟩) (fun p => by simp [updF_app])
  | false =>
    have hE' : ¬ eatB (s.drop k) 125 = true := by rw [hE]; simp
    rw [if_neg hE'] at hMM
    simp
    refine sc_fam 0 hn (fun p => by simp [updF_app]) (by simp) (by simp) ?_
    unfold wsM at hMM
    have hnx : (s.drop k).headD 0 = nxB (s.drop k) := rfl
    rw [hnx] at hMM
    by_cases h4 : nxB (s.drop k) = 124
    · have h4n : ¬ nxB (s.drop k) ≠ 124 := fun h => h h4
      rw [if_neg h4n] at hMM
      rw [h4]
      simp only [if_true, List.drop_zero, Nat.zero_add] at hMM
      simp
      refine st_k1 hd hT hs hk (cs := [iv 0, .sl true [], .sl true []]) (ws := []) (fX := true) rfl (fun p => by simp [updF_app]) (by simp [updF_app]) (by simp [updF_app]) (M := M) hMM.symm rfl
    · rw [if_pos h4] at hMM
      have h4' : ¬ ((nxB (s.drop k)).toNat : Int) = 124 := fun e => h4 ((u8_inj (b := 124)).1 e)
      obtain ⟨x, hx1, hx2, hx3⟩ := nums_spec hs k hk ((s.drop k).length + 1) (by simp)
      generalize nxB (s.drop k) = nx at h4'
      simp [h4']
      refine sc_fam 0 hx1 (fun p => by simp) (by simp) (by simp) ?_
      generalize hW : numsM numP ((s.drop k).length + 1) (s.drop k) = W at hMM hx1 hx2 hx3
      cases hb : W.2.1 with
      | false =>
        rw [hb, if_neg (by simp)] at hMM
        subst hMM
        rw [hx3 hb]
        simp [splice, updF_app]
        exact tree_fin (t := .mk 1 [] []) (cs := [iv 1, .sl false [], .sl true []]) (by simp [updF_app]) (fun H1 => ⟨frz_bare rfl, frz_bare rfl, frz_sl, trivial⟩) (fun p => by simp [updF_app])
      | true =>
        rw [if_pos hb] at hMM
        have hle := (numsM_to numP_R _ _ _ _ (hW.trans (triple hb))).2.1
        rw [List.length_drop] at hle
        rw [hx2 hb]
        rw [List.drop_drop] at hMM
        obtain ⟨M', hM'⟩ : ∃ M', tailM (txKids (treeM numP d) 125) W.1 (s.drop (k + W.2.2)) = M' := ⟨_, rfl⟩
        rw [hM'] at hMM
        subst hMM
        simp [splice, updF_app]
        exact st_k1 hd hT hs (k := k + W.2.2) (by omega) (cs := [iv 0, .sl true [], .sl true []]) (ws := W.1) (fX := false) rfl (fun p => by simp [updF_app]) (by simp [updF_app]) (by simp [updF_app]) hM' (by omega)
theorem numsM_le : ∀ (f k : Nat) {s : List UInt8}, k ≤ s.length → (numsM numP f (s.drop k)).2.2 ≤ s.length - k
  | 0, k, s, hk => by simp [numsM]
  | f + 1, k, s, hk => by
    have h1 := numP_le (s.drop k)
    rw [List.length_drop] at h1
    unfold numsM
    split
    · split
      · rename_i hc
        obtain ⟨c1, _⟩ := eat_take hc
        rw [List.drop_drop]
        have := numsM_le f (k + ((numP (s.drop k)).2.2 + 1)) (s := s) (by simp at c1; omega)
        simp at c1 ⊢
        omega
      · simpa using h1
    · simpa using h1
theorem tailM_le {d : Nat} (hT : TrS d) {s : List UInt8} (hs : s.length ≤ 1000000000) (ws : List Int) {k : Nat} (hk : k ≤ s.length) : (tailM (txKids (treeM numP d) 125) ws (s.drop k)).2.2 ≤ s.length - k := by
  unfold tailM
  split
  · rename_i hc
    obtain ⟨c1, _⟩ := eat_take (k := 0) (by simpa using hc)
    simp at c1 ⊢; omega
  · split
    · rename_i hc
      obtain ⟨c1, _⟩ := eat_take (k := 0) (by simpa using hc)
      split
      · simp at c1 ⊢; omega
      · have := txKids_le (d := d) (D := false) (fun _ => hT) hs 125 (k := k + 1) (by simp at c1; omega)
        rw [List.drop_drop]
        have eR : rdK false d = treeM numP d := rfl
        rw [eR] at this
        simp at c1 ⊢
        omega
    · simp
theorem structM_le {d : Nat} (hT : TrS d) {s : List UInt8} (hs : s.length ≤ 1000000000) {k : Nat} (hk : k ≤ s.length) : (structM numP (txKids (treeM numP d) 125) (s.drop k)).2.2 ≤ s.length - k := by
  have hw : (wsM numP (s.drop k)).2.2 ≤ s.length - k := by
    unfold wsM
    split
    · exact numsM_le _ k hk
    · simp
  unfold structM
  split
  · rename_i hc
    obtain ⟨c1, _⟩ := eat_take (k := 0) (by simpa using hc)
    simp at c1 ⊢; omega
  · split
    · rw [List.drop_drop]
      have := tailM_le hT hs (wsM numP (s.drop k)).1 (k := k + (wsM numP (s.drop k)).2.2) (by omega)
      simp
      omega
    · exact hw
theorem treeM_le {d : Nat} (hT : TrS d) {s : List UInt8} (hs : s.length ≤ 1000000000) {k : Nat} (hk : k ≤ s.length) : (treeM numP (d + 1) (s.drop k)).2.2 ≤ s.length - k := by
  rw [treeM_succ]
  split
  · rename_i hc
    obtain ⟨c1, _⟩ := eat_take (k := 0) (by simpa using hc)
    simp at c1 ⊢; omega
  · split
    · rename_i hc
      obtain ⟨c1, _⟩ := eat_take (k := 0) (by simpa using hc)
      rw [List.drop_drop]
      have := structM_le hT hs (k := k + 1) (by simp at c1; omega)
      simp at c1 ⊢
      omega
    · split
      · simp
      · rename_i hl
        have hlt : k < s.length := by
          apply Nat.lt_of_not_le
          intro h
          rw [List.drop_of_length_le h] at hl
          exact hl (by decide)
        split
        · rename_i hc
          obtain ⟨c1, _⟩ := eat_take hc
          have := txKids_le (d := d) (D := isD (letV ((s.drop k).headD 0))) (fun _ => hT) hs 93 (k := k + 2) (by simp at c1; omega)
          rw [List.drop_drop]
          unfold rdK at this
          simp only [List.length_drop] at c1
          show 2 + _ ≤ _
          omega
        · simp; omega
theorem treeM_pos {d : Nat} {r : List UInt8} (h : (treeM numP d r).2.1 = true) : 0 < (treeM numP d r).2.2 := by
  obtain ⟨h1, h2, _⟩ := treeM_to numP_R d _ _ _ (triple h)
  apply Nat.pos_of_ne_zero
  intro e
  rw [e] at h1
  exact showT_pos _ (by rw [← h1]; simp)
theorem trS_zero : TrS 0 := fun {s} hs k hk => by
  have he := eat_spec s k 95 hk hs
  rw [treeM_zero]
  cases hE : eatB (s.drop k) 95 with
  | true =>
    have hlt : k < s.length := by
      rcases eat_cases s k 95 hk with h | h
      · exact h.2.1
      · rw [h.1] at hE; cases hE
    rw [hE] at he
    simp only [if_true]
    refine ⟨by omega, fun _ => by omega, specF_of' t_text_parser_tree (by simp) (famL_cons famA_pob (famL_cons famA_v famL_nil)) (fam_res8 _ _) fun w0 I0 M0 m0 hM => ?_⟩
    unfold c_text_parser_tree
    simp
    refine sc_fam 0 he (fun p => by simp [updF_app]) (by simp) (by simp) ?_
    simp [splice, updF_app]
    exact tree_fin (t := T0) (cs := [iv 0, .sl true [], .sl true []]) (by simp [updF_app]) (fun H1 => ⟨frz_bare rfl, frz_sl, frz_sl, trivial⟩) (fun p => by simp [updF_app])
  | false =>
    rw [hE] at he
    simp only [Bool.false_eq_true, if_false]
    refine ⟨by omega, (fun h => by cases h), specF_of' t_text_parser_tree (by simp) (famL_cons famA_pob (famL_cons famA_v famL_nil)) (fam_res8 _ _) fun w0 I0 M0 m0 hM => ?_⟩
    unfold c_text_parser_tree
    simp
    refine sc_fam 0 he (fun p => by simp [updF_app]) (by simp) (by simp) ?_
    simp [splice, updF_app]
    exact tree_fin (t := T0) (cs := [iv 0, .sl true [], .sl true []]) (by simp [updF_app]) (fun H1 => ⟨frz_bare rfl, frz_sl, frz_sl, trivial⟩) (fun p => by simp [updF_app])
theorem letS_46 {K : Int} (h1 : 2 ≤ K) (h2 : K ≤ 9) : letS K ≠ 46 := by
  have : ∀ k : Nat, k < 10 → 2 ≤ k → letS (k : Int) ≠ 46 := by decide
  have := this K.toNat (by omega) (by omega)
  rwa [Int.toNat_of_nonneg (by omega)] at this
theorem trS_succ {d : Nat} (hd : d ≤ 1000) (hT : TrS d) : TrS (d + 1) := fun {s} hs k hk => by
  refine ⟨treeM_le hT hs hk, treeM_pos, ?_⟩
  have he := eat_spec s k 95 hk hs
  have hst := eat_spec s k 123 hk hs
  have hn := next_spec s k hk
  refine specF_of' t_text_parser_tree (by simp) (famL_cons famA_pob (famL_cons famA_v famL_nil)) (fam_res8 _ _) fun w0 I0 M0 m0 hM => ?_
  obtain ⟨M, hMM⟩ : ∃ M, M = treeM numP (d + 1) (s.drop k) := ⟨_, rfl⟩
  rw [← hMM]
  rw [treeM_succ] at hMM
  unfold c_text_parser_tree
  simp
  refine sc_fam 0 he (fun p => by simp [updF_app]) (by simp) (by simp) ?_
  cases hE : eatB (s.drop k) 95 with
  | true =>
    rw [if_pos hE] at hMM
    subst hMM
    simp [splice, updF_app]
    exact tree_fin (t := T0) (cs := [iv 0, .sl true [], .sl true []]) (by simp [updF_app]) (fun H1 => ⟨frz_bare rfl, frz_sl, frz_sl, trivial⟩) (fun p => by simp [updF_app])
  | false =>
    rw [if_neg (by rw [hE]; simp)] at hMM
    simp [show ¬ (d : Int) + 1 = 0 by omega]
    refine sc_fam 0 hst (fun p => by simp [updF_app]) (by simp) (by simp) ?_
    cases hS : eatB (s.drop k) 123 with
    | true =>
      rw [if_pos hS, List.drop_drop] at hMM
      have hlt : k + 1 ≤ s.length := by
        rcases eat_cases s k 123 hk with h | h
        · exact h.2.1
        · rw [h.1] at hS; cases hS
      have hstr := struct_spec hd hT hs hlt
      generalize structM numP (txKids (treeM numP d) 125) (s.drop (k + 1)) = G at hMM hstr
      subst hMM
      simp
      refine sc_fam 0 hstr (fun p => by simp [updF_app]) (by simp) (by simp) ?_
      simp [splice, updF_app]
      exact tree_fin (t := G.1) (cs := [iv G.1.kind, uws G.1.words, tKs G.1.kids]) (by simp [updF_app]) (fun H1 => ⟨frz_bare rfl, frz_bare rfl, frz_bare rfl, trivial⟩) (fun p => by simp [updF_app, Nat.add_assoc])
    | false =>
      rw [if_neg (by rw [hS]; simp)] at hMM
      have hnx : (s.drop k).headD 0 = nxB (s.drop k) := rfl
      rw [hnx] at hMM
      have hidx := idx_spec letters (nxB (s.drop k))
      have hlV : idxB letters (nxB (s.drop k)) = letV (nxB (s.drop k)) := rfl
      rw [hlV] at hidx
      simp
      refine sc_fam 0 hn (fun p => by simp [updF_app]) (by simp) (by simp) ?_
      simp
      refine sc_call hidx rfl ?_
      by_cases hl : letV (nxB (s.drop k)) < 2
      · rw [if_pos hl] at hMM
        subst hMM
        generalize letV (nxB (s.drop k)) = K at hl
        simp [hl]
        refine sc_call_off rfl ?_
        simp [splice, updF_app]
        exact tree_fin (t := T0) (cs := [iv 0, .sl true [], .sl true []]) (by simp [updF_app]) (fun H1 => ⟨frz_bare rfl, frz_sl, frz_sl, trivial⟩) (fun p => by simp [updF_app])
      · rw [if_neg hl] at hMM
        obtain ⟨l1, l2, l3⟩ := letS_V hl
        have hlt : k + 1 ≤ s.length := by
          apply Nat.lt_of_not_le
          intro h
          rw [List.drop_of_length_le h] at hl
          exact hl (by decide)
        have h46 : ¬ ((nxB (s.drop k)).toNat : Int) = 46 := fun e => letS_46 l1 l2 (by rw [l3]; exact (u8_inj (b := 46)).1 e)
        have hb := eat_spec s (k + 1) 91 hlt hs
        have e1 : IntKind.i64.wrap ((k : Int) + 1) = ((k + 1 : Nat) : Int) := by rw [i64_same (by omega) (by omega)]; omega
        rw [List.drop_drop] at hMM
        generalize hK : letV (nxB (s.drop k)) = K at hMM hl l1 l2 l3
        simp [hl]
        rw [sc_guard]
        simp
        refine sc_fam 0 hn (fun p => by simp [updF_app]) (by simp) (by simp) ?_
        simp [h46, e1]
        refine sc_fam 0 hb (fun p => by by_cases hp : p = [] <;> simp [updF_app, hp]) (by simp) (by simp) ?_
        cases hB : eatB (s.drop (k + 1)) 91 with
        | false =>
          rw [if_neg (by rw [hB]; simp)] at hMM
          subst hMM
          simp [splice, updF_app]
          exact tree_fin (t := T0) (cs := [iv 0, .sl true [], .sl true []]) (by simp [updF_app]) (fun H1 => ⟨frz_bare rfl, frz_sl, frz_sl, trivial⟩) (fun p => by simp [updF_app])
        | true =>
          rw [if_pos hB, List.drop_drop] at hMM
          have hlt2 : k + 1 + 1 ≤ s.length := by
            rcases eat_cases s (k + 1) 91 hlt with h | h
            · exact h.2.1
            · rw [h.1] at hB; cases hB
          obtain ⟨x, hx1, hx2⟩ := rdkids_spec (d := d) (ki := K) (fun _ => hT) hs (e := 93) hlt2
          have eR : rdK (isD K) d = if isD K = true then numT numP else treeM numP d := rfl
          rw [eR] at hx1 hx2
          rw [show k + 2 = k + 1 + 1 by omega] at hMM
          obtain ⟨xb, xl, rfl, hxf⟩ := kids_frz (fun h => txKids_fail h) hx2
          generalize txKids (if isD K = true then numT numP else treeM numP d) 93 (s.drop (k + 1 + 1)) = G at hMM hx1 hxf
          subst hMM
          have e2 : IntKind.i64.wrap (d : Int) = (d : Int) := i64_same (by omega) (by omega)
          simp [e2]
          refine sc_fam 0 hx1 (fun p => by simp [updF_app]) (by simp) (by simp) ?_
          simp [splice, updF_app]
          exact tree_fin (t := .mk K [] G.1) (cs := [iv K, .sl true [], .sl xb xl]) (by simp [updF_app]) (fun H1 => ⟨frz_bare rfl, frz_sl, hxf H1, trivial⟩) (fun p => by rw [show k + (2 + G.2.2) = k + 1 + 1 + G.2.2 by omega]; simp [updF_app])
theorem trS_all : ∀ d : Nat, d ≤ 1000 → TrS d
  | 0, _ => trS_zero
  | d + 1, h => trS_succ (by omega) (trS_all d (by omega))
end Go.Proofs.YtgimfagpolbelaaDoor

/-
  text.Parse; which trees are proper.
-/
namespace Go.Proofs.YtgimfagpolbelaaDoor
set_option linter.unusedVariables false
set_option linter.unusedSimpArgs false
open Go Go.G Go.Proofs Go.PL
theorem join_mem_le {α : Type} (f : α → List UInt8) : ∀ (l : List α) (x : α), x ∈ l → (f x).length ≤ (joinC (l.map f)).length
  | [], x, h => by simp at h
  | [y], x, h => by simp at h; rw [h]; simp
  | y :: z :: l, x, h => by
    rw [List.map_cons, joinC_cons (by simp)]
    rcases List.mem_cons.1 h with rfl | h
    · simp
    · have := join_mem_le f (z :: l) x h
      simp at this ⊢
      omega
theorem proper_wf : ∀ (d : Nat) (t : T), proper d t → (showT t).length ≤ 1000000000 → wfT t
  | 0, t, h, _ => by
    have h : t = T0 := h
    subst h
    rw [wfT_iff]
    exact ⟨by simp [i64R], by simp, by simp, by simp, by simp⟩
  | d + 1, t, h, hl => by
    rcases h with rfl | ⟨h1, h2, h3⟩ | ⟨h1, h2, h3, h4⟩
    · rw [wfT_iff]
      exact ⟨by simp [i64R], by simp, by simp, by simp, by simp⟩
    · obtain ⟨k, w, l⟩ := t
      simp at h1 h2 h3
      subst h1
      rw [showT_mk, if_neg (by omega), if_pos rfl] at hl
      have hw := join_len (fun x : Int => hexS x.toNat) w (fun x _ => hexS_pos _)
      have hk : l.length ≤ 1000000000 ∧ ∀ c, c ∈ l → (showT c).length ≤ 1000000000 := by
        by_cases hne : l = []
        · subst hne; simp
        · rw [if_neg hne] at hl
          have := join_len showT l (fun x hx => by have := showT_pos x; cases hq : showT x with | nil => exact (this hq).elim | cons a b => simp)
          simp at hl
          refine ⟨by omega, fun c hc => ?_⟩
          have := join_mem_le showT l c hc
          omega
      simp at hl
      rw [wfT_iff]
      exact ⟨by simp [i64R], fun x hx => h2 x hx, by simp; omega, by simp; omega, fun c hc => proper_wf d c (h3 c hc) (hk.2 c hc)⟩
    · obtain ⟨k, w, l⟩ := t
      simp at h1 h2 h3 h4
      subst h3
      rw [showT_mk, if_neg (by omega), if_neg (by omega), if_pos ⟨h1, h2⟩] at hl
      simp at hl
      have := join_len showT l (fun x hx => by have := showT_pos x; cases hq : showT x with | nil => exact (this hq).elim | cons a b => simp)
      rw [wfT_iff]
      refine ⟨by simp [i64R]; omega, by simp, by simp, by simp; omega, fun c hc => ?_⟩
      have hc' : if isD k = true then atomOk c else proper d c := h4 c hc
      have hcl := join_mem_le showT l c hc
      by_cases hD : isD k = true
      · rw [if_pos hD] at hc'
        obtain ⟨n, rfl, hn, _⟩ := show_atom hc'
        rw [wfT_iff]
        exact ⟨by simp [i64R], by simp [u64R]; omega, by simp, by simp, by simp⟩
      · rw [if_neg hD] at hc'
        exact proper_wf d c hc' (by omega)
theorem right_proper : ∀ (d : Nat) (t : T), wfT t → rightT d t = true → t.kind ≠ 10 → proper d t
  | 0, t, hw, h, hk => by
    obtain ⟨k, w, l⟩ := t
    simp at hk
    rw [rightT_mk] at h
    split at h
    · rename_i h0
      simp at h
      rw [h0, h.1, h.2]; rfl
    · simp [hk, tooBig] at h
  | d + 1, t, hw, h, hk => by
    have hW := wfT_iff.1 hw
    obtain ⟨k, w, l⟩ := t
    simp at hk
    have hs := rightT_struct h
    rw [rightT_mk] at h
    split at h
    · rename_i h0
      simp at h
      rw [h0, h.1, h.2]; exact .inl rfl
    · rename_i h0
      split at h
      · cases h
      · rename_i hb
        simp [tooBig] at hb
        by_cases h1 : k = 1
        · subst h1
          refine .inr (.inl ⟨rfl, fun x hx => hW.w x hx, fun c hc => right_proper d c (hW.ks c hc) (hs c hc).1 ?_⟩)
          have := (hs c hc).2
          simp [kidOk, isData] at this
          exact this
        · refine .inr (.inr ⟨by simp; omega, by simp; omega, ?_, fun c hc => ?_⟩)
          · simp
            rcases Nat.eq_zero_or_pos w.length with e | e
            · exact List.eq_nil_of_length_eq_zero e
            · have := hb.2 (by omega)
              simp [this] at e
          · have hc2 := hs c hc
            have hD : isData k = isD k := rfl
            by_cases hDk : isD k = true
            · simp only [T.kind_mk, hDk, if_true]
              have h10 : c.kind = 10 := by
                have := hc2.2
                simp [kidOk, hD, hDk] at this
                exact this.1.1
              have hcW := wfT_iff.1 (hW.ks c hc)
              obtain ⟨ck, cw, cl⟩ := c
              simp at h10
              subst h10
              have := hc2.1
              rw [rightT_mk] at this
              simp at this
              obtain ⟨x, rfl⟩ : ∃ x, cw = [x] := List.length_eq_one_iff.1 this.1
              have hx := hcW.w x (by simp)
              unfold u64R at hx
              exact ⟨rfl, this.2, x.toNat, by simp; omega, by omega⟩
            · show (if isD k = true then atomOk c else proper d c)
              rw [if_neg hDk]
              refine right_proper d c (hW.ks c hc) hc2.1 ?_
              have := hc2.2
              simp [kidOk, hD, hDk] at this
              exact this.1
def okP (num : List UInt8 → Nat × Bool × Nat) (s : List UInt8) : Bool := (treeM num 64 s).2.1 && decide ((treeM num 64 s).2.2 = s.length) && rightT 64 (treeM num 64 s).1
def parsed (num : List UInt8 → Nat × Bool × Nat) (s : List UInt8) : T := if okP num s = true then (treeM num 64 s).1 else T0
theorem parse_spec {s : List UInt8} (hs : s.length ≤ 1000000000) : G.Spec Tryd.prog 11 [S s] (.tup [tX (parsed numP s), iv (if okP numP s = true then 0 else 11)]) := by
  obtain ⟨hle, _, hT⟩ := trS_all 64 (by omega) hs 0 (by omega)
  rw [List.drop_zero, Nat.zero_add] at hT
  rw [List.drop_zero] at hle
  refine spec_of t_text_Parse (by simp) fun w0 I0 => ?_
  have hwf : (treeM numP 64 s).2.1 = true → wfT (treeM numP 64 s).1 := fun h => by
    obtain ⟨h1, h2, h3⟩ := treeM_to numP_R 64 s _ _ (triple h)
    refine proper_wf 64 _ h3 ?_
    rw [← h1]
    simp; omega
  unfold parsed okP
  generalize treeM numP 64 s = M at hT hle hwf
  unfold c_text_Parse
  simp
  refine sc_fam 1 hT (fun p => ?_) (by simp) (by simp) ?_
  · by_cases hp : p = []
    · subst hp; simp [lkH]
    · simp [lkH, hp, Ne.symm hp]
  cases hb : M.2.1 with
  | false =>
    simp
    refine sc_call_off rfl ?_
    simp [splice, updF_app]
    exact frz_tup ⟨frz_T0, frz_bare rfl, trivial⟩
  | true =>
    by_cases hl : M.2.2 = s.length
    · have hR := ptRight_spec (hwf hb)
      simp [hl]
      rw [sc_guard]
      simp
      refine sc_call hR rfl ?_
      cases hr : rightT 64 M.1 with
      | true =>
        simp [splice, updF_app]
        exact frz_tup ⟨frz_bare rfl, frz_bare rfl, trivial⟩
      | false =>
        simp [splice, updF_app]
        exact frz_tup ⟨frz_T0, frz_bare rfl, trivial⟩
    · have hl2 : M.2.2 < s.length := by omega
      simp [hl, hl2]
      refine sc_call_off rfl ?_
      simp [splice, updF_app]
      exact frz_tup ⟨frz_T0, frz_bare rfl, trivial⟩
end Go.Proofs.YtgimfagpolbelaaDoor

/-
  The document's texts of trees.
-/
namespace Go.Proofs.YtgimfagpolbelaaDoor
set_option linter.unusedVariables false
set_option linter.unusedSimpArgs false
open Go Go.G Go.Proofs Go.PL
theorem dig16 (m : Nat) (h : m < 16) : (([48, 49, 50, 51, 52, 53, 54, 55, 56, 57, 97, 98, 99, 100, 101, 102] : List UInt8).drop m).take 1 = [hexD m] := by
  have : ∀ m : Nat, m < 16 → (([48, 49, 50, 51, 52, 53, 54, 55, 56, 57, 97, 98, 99, 100, 101, 102] : List UInt8).drop m).take 1 = [hexD m] := by decide
  exact this m h
theorem str_add {l m : List UInt8} (h : l.length + m.length ≤ 9223372036854775807) : strA .add ⟨l.toArray⟩ ⟨m.toArray⟩ = some (S (l ++ m)) := by
  unfold strA
  simp [h]
theorem hexS_short {n : Nat} (h : n < 18446744073709551616) : (hexS n).length ≤ 16 := hexS_len 16 n (by omega) (by omega)
theorem rHex_spec : ∀ n : Nat, n < 18446744073709551616 → G.Spec Tryd.prog 18 [uv n] (S (hexS n)) := by
  intro n
  induction n using Nat.strongRecOn with
  | _ n ih =>
    intro hn
    refine spec_of t_centoref08_Hex (by simp) fun w0 I0 => ?_
    unfold c_centoref08_Hex
    obtain ⟨m, hm⟩ : ∃ m, m = n % 16 := ⟨_, rfl⟩
    have hm16 : m < 16 := by omega
    have e0 : (n : Int).tmod 16 = (m : Int) := by rw [Int.tmod_eq_emod_of_nonneg (by omega)]; omega
    have e1 : IntKind.u64.wrap ((m : Int) + 1) = ((m + 1 : Nat) : Int) := by rw [u64_same (by omega) (by omega)]; omega
    have hd := dig16 m hm16
    by_cases h16 : n < 16
    · have : m = n := by omega
      subst this
      have g1 : (0 : Int) ≤ (m : Int) + 1 := by omega
      have g2 : (m : Int) + 1 ≤ 16 := by omega
      simp [e0, e1, show (m : Int) < 16 by omega, g1, g2, hd, show (m : Int) ≤ m + 1 by omega]
      rw [hexS_lt h16]
      exact frz_bare rfl
    · obtain ⟨q, hq⟩ : ∃ q, q = n / 16 := ⟨_, rfl⟩
      have e2 : IntKind.u64.wrap ((n : Int).tdiv 16) = (q : Int) := by
        rw [Int.tdiv_eq_ediv_of_nonneg (by omega), u64_same (by omega) (by omega)]; omega
      have g1 : (0 : Int) ≤ (m : Int) + 1 := by omega
      have g2 : (m : Int) + 1 ≤ 16 := by omega
      have g3 : IntKind.u64.wrap ((n : Int) / 16) = (q : Int) := by rw [u64_same (by omega) (by omega)]; omega
      have hcall := ih q (by omega) (by omega)
      have hl := hexS_short (n := q) (by omega)
      simp [e0, e1, show ¬ (n : Int) < 16 by omega, g3, g1, g2, hd, show (m : Int) ≤ m + 1 by omega]
      refine sc_call hcall rfl ?_
      rw [hexS_ge (n := n) (by omega), ← hq, ← hm]
      simp [str_add (l := hexS q) (m := [hexD m]) (by simp; omega)]
      exact frz_bare rfl
def RPr (t : T) : Prop := G.Spec Tryd.prog 10 [tX t] (S (showT t))
theorem dig10 (m : Nat) (h : m < 10) (h2 : 2 ≤ m) : (([46, 46, 118, 98, 121, 116, 102, 101, 112, 99] : List UInt8).drop m).take 1 = [letS m] := by
  have : ∀ m : Nat, m < 10 → 2 ≤ m → (([46, 46, 118, 98, 121, 116, 102, 101, 112, 99] : List UInt8).drop m).take 1 = [letS m] := by decide
  exact this m h h2
theorem rJoin_l1 {w0 : World} {I0 : Nat → Prop} {n0 : Nat} {Q : Exit → Sta → Prop} {ks : List T} {H : Hp} (hks : ks.length * 56 ≤ 140737488355328) (ih : ∀ c, c ∈ ks → RPr c) (hl : (joinC (ks.map showT)).length ≤ 70368744177664) (hq : Q (.exit 0) ⟨lk [(0, tKs ks), (3, S (joinC (ks.map showT))), (4, iv ks.length), (8, bv false)], H⟩) : ∀ (m i : Nat), i + m = ks.length →
    LoopC (cx Tryd.prog w0 I0 n0) l1_centoref08_join Q ⟨lk [(0, tKs ks), (3, S (joinC ((ks.take i).map showT))), (4, iv i)], H⟩ := by
  intro m
  induction m with
  | zero =>
    intro i hi
    have : i = ks.length := by omega
    subst this
    refine loopC_once mixed l1_centoref08_join.eq_1 ?_
    simp
    exact hq
  | succ m ihm =>
    intro i hi
    have hlt : i < ks.length := by omega
    have hw := join_step showT ks i hlt
    have hle := join_take_le showT ks m (i + 1) (by omega)
    have e1 : IntKind.i64.wrap ((i : Int) + 1) = ((i + 1 : Nat) : Int) := by rw [i64_same (by omega) (by omega)]; omega
    have hP := ih _ (List.getElem_mem hlt)
    have hgo := ihm (i + 1) (by omega)
    rw [hw] at hle hgo
    refine loopC_once mixed l1_centoref08_join.eq_1 ?_
    by_cases h0 : i = 0
    · subst h0
      simp only [if_true] at hle hgo
      simp at e1
      simp [hlt]
      refine sc_call hP rfl ?_
      simp [str_add (l := []) (m := showT ks[0]) (by simp; omega), e1]
      exact hgo
    · rw [if_neg h0] at hle hgo
      have hpos : 0 < i := by omega
      generalize joinC ((ks.take i).map showT) = J at hle hgo ⊢
      simp only [List.length_append, List.length_cons] at hle
      simp [hlt, hpos, str_add (l := J) (m := [44]) (by simp; omega)]
      refine sc_call hP rfl ?_
      simp [str_add (l := J ++ [44]) (m := showT ks[i]) (by simp; omega), e1]
      exact hgo
theorem rJoin_spec {ks : List T} (hks : ks.length * 56 ≤ 140737488355328) (ih : ∀ c, c ∈ ks → RPr c) (hl : (joinC (ks.map showT)).length ≤ 70368744177664) : G.Spec Tryd.prog 19 [tKs ks] (S (joinC (ks.map showT))) := by
  refine spec_of t_centoref08_join (by simp) fun w0 I0 => ?_
  unfold c_centoref08_join
  simp
  refine rJoin_l1 hks ih hl ?_ ks.length 0 (by omega)
  simp
  exact frz_bare rfl
theorem rPrint_l1 {w0 : World} {I0 : Nat → Prop} {n0 : Nat} {Q : Exit → Sta → Prop} {t : T} (hW : WfT t) (hl : (joinC (t.words.map fun x => hexS x.toNat)).length ≤ 70368744177664) {H : Hp} (hH : H [0] = ⟨1, .cells [iv t.kind, uws t.words, tKs t.kids]⟩)
    (hq : Q (.exit 0) ⟨lk [(1, .pob [0] 1 0), (3, S (123 :: joinC (t.words.map fun x => hexS x.toNat))), (4, iv t.words.length), (35, bv false)], H⟩) : ∀ (m i : Nat), i + m = t.words.length →
    LoopC (cx Tryd.prog w0 I0 n0) l1_centoref08_Print Q ⟨lk [(1, .pob [0] 1 0), (3, S (123 :: joinC ((t.words.take i).map fun x => hexS x.toNat))), (4, iv i)], H⟩ := by
  intro m
  induction m with
  | zero =>
    intro i hi
    have : i = t.words.length := by omega
    subst this
    refine loopC_once mixed l1_centoref08_Print.eq_1 ?_
    simp [hH]
    exact hq
  | succ m ihm =>
    intro i hi
    have hlt : i < t.words.length := by omega
    have hw := join_step (fun x : Int => hexS x.toNat) t.words i hlt
    have hle := join_take_le (fun x : Int => hexS x.toNat) t.words m (i + 1) (by omega)
    have hwl := hW.wl
    have e1 : IntKind.i64.wrap ((i : Int) + 1) = ((i + 1 : Nat) : Int) := by rw [i64_same (by omega) (by omega)]; omega
    have hx := hW.w _ (List.getElem_mem hlt)
    unfold u64R at hx
    have hP := rHex_spec t.words[i].toNat (by omega)
    rw [Int.toNat_of_nonneg hx.1] at hP
    have hgo := ihm (i + 1) (by omega)
    rw [hw] at hle hgo
    refine loopC_once mixed l1_centoref08_Print.eq_1 ?_
    by_cases h0 : i = 0
    · subst h0
      simp only [if_true] at hle hgo
      simp at e1
      simp [hlt, hH]
      rw [k1_centoref08_Print.eq_1]
      simp [hlt, hH]
      refine sc_call hP rfl ?_
      simp [str_add (l := [123]) (m := hexS t.words[0].toNat) (by simp; omega), e1]
      exact hgo
    · rw [if_neg h0] at hle hgo
      have hpos : 0 < i := by omega
      generalize joinC ((t.words.take i).map fun x => hexS x.toNat) = J at hle hgo ⊢
      simp only [List.length_append, List.length_cons] at hle
      simp [hlt, hH, hpos, str_add (l := 123 :: J) (m := [44]) (by simp; omega)]
      rw [k1_centoref08_Print.eq_1]
      simp [hlt, hH]
      refine sc_call hP rfl ?_
      simp [str_add (l := 123 :: (J ++ [44])) (m := hexS t.words[i].toNat) (by simp; omega), e1]
      simp at hgo
      exact hgo
theorem rPrint_spec : ∀ t : T, wfT t → ∀ d, rightT d t = true → (showT t).length ≤ 70368744177664 → RPr t := by
  refine T.ind fun k w ks ih hwf d hr hl => ?_
  have hW := wfT_iff.1 hwf
  have hkl := hW.kl
  simp at hkl
  have hkr := rightT_struct hr
  rw [rightT_mk] at hr
  unfold RPr
  rw [showT_mk] at hl ⊢
  refine spec_of t_centoref08_Print (by simp) fun w0 I0 => ?_
  unfold c_centoref08_Print
  by_cases h0 : k = 0
  · subst h0
    simp
    exact frz_bare rfl
  · rw [if_neg h0] at hr
    by_cases h10 : k = 10
    · subst h10
      simp at hr
      obtain ⟨x, rfl⟩ : ∃ x, w = [x] := List.length_eq_one_iff.1 hr.1
      have hx := hW.w x (by simp)
      unfold u64R at hx
      have hP := rHex_spec x.toNat (by omega)
      rw [Int.toNat_of_nonneg hx.1] at hP
      simp
      refine sc_call hP rfl ?_
      simp
      exact frz_bare rfl
    · rw [if_neg h10] at hr
      have hb : tooBig k d w.length ks.length = false := by
        by_cases e : tooBig k d w.length ks.length = true
        · rw [if_pos e] at hr; cases hr
        · simpa using e
      simp [tooBig] at hb
      rw [if_neg (fun e => h10 e.1)] at hl ⊢
      have mem : ∀ c, c ∈ ks → (joinC (ks.map showT)).length ≤ 70368744177664 → RPr c := fun c hc hj => ih c hc (hW.ks c hc) _ (hkr c hc).1 (Nat.le_trans (join_mem_le showT ks c hc) hj)
      by_cases h1 : k = 1
      · rw [if_pos h1] at hl ⊢
        subst h1
        simp only [List.length_cons, List.length_append] at hl
        simp
        refine rPrint_l1 hW (by simp; omega) (by simp) ?_ w.length 0 (by simp)
        simp only [T.words_mk]
        by_cases hks : ks = []
        · subst hks
          generalize joinC (w.map fun x => hexS x.toNat) = W at hl ⊢
          simp [str_add (l := 123 :: W) (m := [125]) (by simp; omega)]
          exact frz_bare rfl
        · have hpos : 0 < ks.length := List.length_pos_iff.2 hks
          rw [if_neg hks] at hl ⊢
          simp only [List.length_cons] at hl
          have hJ := rJoin_spec hkl (fun c hc => mem c hc (by omega)) (by omega)
          generalize joinC (w.map fun x => hexS x.toNat) = W at hl ⊢
          generalize joinC (ks.map showT) = J at hl hJ ⊢
          simp [hpos, str_add (l := 123 :: W) (m := [124]) (by simp; omega)]
          refine sc_call hJ rfl ?_
          simp [str_add (l := 123 :: (W ++ [124])) (m := J) (by simp; omega), str_add (l := 123 :: (W ++ 124 :: J)) (m := [125]) (by simp; omega)]
          exact frz_bare rfl
      · rw [if_neg h1] at hl ⊢
        have h2 : 2 ≤ k ∧ k ≤ 9 := by omega
        rw [if_pos h2] at hl ⊢
        simp only [List.length_cons, List.length_append] at hl
        have hJ := rJoin_spec hkl (fun c hc => mem c hc (by omega)) (by omega)
        have hg := letters_get k h2.1 h2.2
        obtain ⟨m, rfl⟩ : ∃ m : Nat, k = (m : Int) := ⟨k.toNat, by omega⟩
        have hd := dig10 m (by omega) (by omega)
        have e1 : IntKind.i64.wrap ((m : Int) + 1) = ((m + 1 : Nat) : Int) := by rw [i64_same (by omega) (by omega)]; omega
        have g1 : (0 : Int) ≤ (m : Int) + 1 := by omega
        have g2 : (m : Int) + 1 ≤ 10 := by omega
        have g3 : ¬ m = 0 := by omega
        have g4 : ¬ (m : Int) = 10 := by omega
        have g5 : 1 < (m : Int) := by omega
        have g6 : (m : Int) ≤ m + 1 := by omega
        have g7 : 1 < m := by omega
        generalize hjj : joinC (ks.map showT) = J at hJ hl ⊢
        simp [g3, g4, g5, g7, e1, g1, g2, g6, hd, str_add (l := [letS m]) (m := [91]) (by simp)]
        refine sc_call hJ rfl ?_
        simp [str_add (l := [letS m, 91]) (m := J) (by simp; omega), str_add (l := letS m :: 91 :: J) (m := [93]) (by simp; omega)]
        exact frz_bare rfl
/-! ### numbers -/
theorem u8_same {n : Int} (h0 : 0 ≤ n) (h1 : n < 256) : IntKind.u8.wrap n = n := by rw [IntKind.wrap_u8]; omega
theorem rnum_l1 {w0 : World} {I0 : Nat → Prop} {n0 : Nat} {Q : Exit → Sta → Prop} {H : Hp} {s : List UInt8} (hs : s.length ≤ 1000000000) {at' : Nat} : ∀ (c i n : Nat), i + c = at' + 17 → at' ≤ i → i ≤ s.length → n < 18446744073709551616 →
    (Q (.exit 0) ⟨lk [(0, S s), (1, iv at'), (7, uv (refGo c n (s.drop i)).1), (8, iv (i + (refGo c n (s.drop i)).2 : Nat)), (20, bv false)], H⟩) →
    (Q (.exit 0) ⟨lk [(0, S s), (1, iv at'), (7, uv (refGo c n (s.drop i)).1), (8, iv (i + (refGo c n (s.drop i)).2 : Nat)), (45, bv false)], H⟩) →
    LoopC (cx Tryd.prog w0 I0 n0) l1_centoref08_number Q ⟨lk [(0, S s), (1, iv at'), (7, uv n), (8, iv i)], H⟩ := by
  intro c
  induction c with
  | zero =>
    intro i n hi hai hle hn hq hq2
    have hsub : IntKind.i64.wrap ((i : Int) - at') = 17 := by rw [i64_same (by omega) (by omega)]; omega
    refine loopC_once mixed l1_centoref08_number.eq_1 ?_
    by_cases h : i < s.length
    · simp [h, hsub]
      exact hq
    · simp [h]
      exact hq
  | succ c ih =>
    intro i n hi hai hle hn hq hq2
    have hsub : IntKind.i64.wrap ((i : Int) - at') = (i : Int) - at' := i64_same (by omega) (by omega)
    by_cases h : i < s.length
    · rw [drop_get h] at hq hq2
      rw [refGo] at hq hq2
      have hi1 : (i : Int) - at' < 17 := by omega
      have e8 : IntKind.i64.wrap ((i : Int) + 1) = ((i + 1 : Nat) : Int) := by rw [i64_same (by omega) (by omega)]; omega
      have hgx : s[i]? = some s[i] := List.getElem?_eq_getElem h
      have hxl := (s[i]).toNat_lt
      refine loopC_once mixed l1_centoref08_number.eq_1 ?_
      generalize hx : s[i] = x at hq hq2 hxl hgx
      have step : ∀ d : Nat, hexV x = some d → WPC (cx Tryd.prog w0 I0 n0) k1_centoref08_number (InBlock 1 (ThenC (LoopC (cx Tryd.prog w0 I0 n0) l1_centoref08_number Q) Q)) ⟨lk [(0, S s), (1, iv at'), (7, uv n), (8, iv i), (9, iv d)], H⟩ := fun d hd => by
        have hd16 := (hexD_V hd).1
        simp only [hd] at hq hq2
        have e7 : IntKind.u64.wrap (IntKind.u64.wrap ((n : Int) * 16) + d) = (((n * 16 + d) % 18446744073709551616 : Nat) : Int) := by
          rw [IntKind.wrap_u64, IntKind.wrap_u64]; omega
        have e9 : IntKind.u64.wrap (d : Int) = d := u64_same (by omega) (by omega)
        have hgo := ih (i + 1) ((n * 16 + d) % 18446744073709551616) (by omega) (by omega) (by omega) (by omega) (by rw [Nat.add_assoc, Nat.add_comm 1]; exact hq) (by rw [Nat.add_assoc, Nat.add_comm 1]; exact hq2)
        rw [k1_centoref08_number.eq_1]
        simp [e9, e7, e8]
        exact hgo
      by_cases c1 : 48 ≤ x.toNat ∧ x.toNat ≤ 57
      · have hv : hexV x = some (x.toNat - 48) := by unfold hexV; rw [if_pos c1]
        have w1 : IntKind.u8.wrap ((x.toNat : Int) - 48) = ((x.toNat - 48 : Nat) : Int) := by rw [u8_same (by omega) (by omega)]; omega
        have w2 : IntKind.i64.wrap ((x.toNat - 48 : Nat) : Int) = ((x.toNat - 48 : Nat) : Int) := i64_same (by omega) (by omega)
        have hst := step _ hv
        simp [h, hsub, hi1, hx, show 48 ≤ (x.toNat : Int) by omega, show (x.toNat : Int) ≤ 57 by omega, w1, w2]
        exact hst
      · by_cases c2 : 97 ≤ x.toNat ∧ x.toNat ≤ 102
        · have hv : hexV x = some (x.toNat - 87) := by unfold hexV; rw [if_neg c1, if_pos c2]
          have w1 : IntKind.u8.wrap ((x.toNat : Int) - 97) = ((x.toNat - 97 : Nat) : Int) := by rw [u8_same (by omega) (by omega)]; omega
          have w2 : IntKind.i64.wrap ((x.toNat - 97 : Nat) : Int) = ((x.toNat - 97 : Nat) : Int) := i64_same (by omega) (by omega)
          have w3 : IntKind.i64.wrap (((x.toNat - 97 : Nat) : Int) + 10) = ((x.toNat - 87 : Nat) : Int) := by rw [i64_same (by omega) (by omega)]; omega
          have hst := step _ hv
          simp [h, hsub, hi1, hx, show 48 ≤ (x.toNat : Int) by omega, show ¬ (x.toNat : Int) ≤ 57 by omega, show 97 ≤ (x.toNat : Int) by omega, show (x.toNat : Int) ≤ 102 by omega, w1, w2, w3]
          exact hst
        · have hv : hexV x = none := by unfold hexV; rw [if_neg c1, if_neg c2]
          simp only [hv] at hq hq2
          simp only [Nat.add_zero] at hq hq2
          by_cases d1 : 48 ≤ x.toNat
          · have d2 : ¬ x.toNat ≤ 57 := fun e => c1 ⟨d1, e⟩
            by_cases d3 : 97 ≤ x.toNat
            · have d4 : ¬ x.toNat ≤ 102 := fun e => c2 ⟨d3, e⟩
              simp [h, hsub, hi1, hx, show 48 ≤ (x.toNat : Int) by omega, show ¬ (x.toNat : Int) ≤ 57 by omega, show 97 ≤ (x.toNat : Int) by omega, show ¬ (x.toNat : Int) ≤ 102 by omega]
              exact hq2
            · simp [h, hsub, hi1, hx, show 48 ≤ (x.toNat : Int) by omega, show ¬ (x.toNat : Int) ≤ 57 by omega, show ¬ 97 ≤ (x.toNat : Int) by omega]
              exact hq2
          · have d3 : ¬ 97 ≤ x.toNat := by omega
            simp [h, hsub, hi1, hx, show ¬ 48 ≤ (x.toNat : Int) by omega, show ¬ 97 ≤ (x.toNat : Int) by omega]
            exact hq2
    · have he : s.drop i = [] := List.drop_of_length_le (by omega)
      rw [he] at hq
      refine loopC_once mixed l1_centoref08_number.eq_1 ?_
      simp [h]
      exact hq
theorem rnum_spec {s : List UInt8} (hs : s.length ≤ 1000000000) (k : Nat) (hk : k ≤ s.length) : G.Spec Tryd.prog 46 [S s, iv k] (.tup [uv (numQ (s.drop k)).1, iv (k + (numQ (s.drop k)).2.2 : Nat), bv (numQ (s.drop k)).2.1]) := by
  refine spec_of t_centoref08_number (by simp) fun w0 I0 => ?_
  have hle := refGo_le 17 (s.drop k) 0
  have hhd : (s.drop k).headD 0 = nxB (s.drop k) := rfl
  unfold numQ
  rw [hhd]
  have hnx : k < s.length → s[k]? = some (nxB (s.drop k)) := fun h => by rw [nxB_at h]; exact List.getElem?_eq_getElem h
  have hng : ∀ h : k < s.length, s[k] = (nxB (s.drop k)) := fun h => (nxB_at h).symm
  simp only [List.length_drop] at hle
  unfold c_centoref08_number
  simp
  refine rnum_l1 hs (at' := k) 17 k 0 (by omega) (Nat.le_refl _) hk (by omega) ?_ ?_
  all_goals
    generalize refGo 17 0 (s.drop k) = G at hle
    obtain ⟨n, g⟩ := G
    generalize nxB (s.drop k) = x at hnx hng
    have e2 : IntKind.i64.wrap ((k : Int) + (g : Int) - (k : Int)) = (g : Int) := by rw [i64_same (by omega) (by omega)]; omega
    have e3 : IntKind.i64.wrap ((k : Int) + 1) = (k : Int) + 1 := i64_same (by omega) (by omega)
    simp
    rw [k2_centoref08_number.eq_1]
    rcases (by omega : g = 0 ∨ g = 1 ∨ (2 ≤ g ∧ g < 17) ∨ g = 17) with rfl | rfl | h | rfl
    · simp
      exact frz_bare rfl
    · simp at e2
      simp [e2, e3, show (k : Int) < k + 1 by omega]
      exact frz_bare rfl
    · have e4 : ¬ (k : Int) + g = k + 1 := by omega
      have hlt : k < s.length := by omega
      have hgx := hnx hlt
      have hge := hng hlt
      simp [e2, e3, e4, show (k : Int) < k + g by omega, show (g : Int) < 17 by omega, hlt, hge, h.2, show 0 < g by omega, show ¬ g = 1 by omega]
      by_cases h48 : x = 48
      · subst h48
        simp
        exact frz_bare rfl
      · have h48' : ¬ (x.toNat : Int) = 48 := fun e => h48 ((u8_inj (b := 48)).1 e)
        simp [h48, h48']
        exact frz_bare rfl
    · simp at e2
      simp [e2, e3]
      exact frz_bare rfl
def ltGo : Nat → Nat → UInt8 → Int
  | 0, _, _ => 0
  | m + 1, i, c => if letters.getD i 0 = c then (i : Int) else ltGo m (i + 1) c
set_option maxRecDepth 100000 in
theorem ltGo_V (c : UInt8) : ltGo 8 2 c = if letV c < 2 then 0 else letV c := by
  have : ∀ n : Fin 256, ltGo 8 2 (UInt8.ofNat n.val) = if letV (UInt8.ofNat n.val) < 2 then 0 else letV (UInt8.ofNat n.val) := by decide +kernel
  have h := this ⟨c.toNat, c.toNat_lt⟩
  simpa using h
theorem rlet_spec (c : UInt8) : G.Spec Tryd.prog 37 [u8v c] (iv (if letV c < 2 then 0 else letV c)) := by
  refine spec_of t_centoref08_letter (by simp) fun w0 I0 => ?_
  rw [← ltGo_V]
  have loop : ∀ (m i : Nat), i + m = 10 → 2 ≤ i → ∀ {Q : Exit → Sta → Prop} {n0 : Nat}, (∀ y : Int, y = ltGo m i c → ∀ s' : List (Nat × A), y ≠ 0 → Q .ret ⟨lk [(2, iv y)], lkH []⟩) → (ltGo m i c = 0 → Q (.exit 0) ⟨lk [(0, u8v c), (3, iv 10), (5, bv false)], lkH []⟩) →
      LoopC (cx Tryd.prog w0 I0 n0) l1_centoref08_letter Q ⟨lk [(0, u8v c), (3, iv i)], lkH []⟩ := by
    intro m
    induction m with
    | zero =>
      intro i hi h2 Q n0 hq hq2
      have : i = 10 := by omega
      subst this
      refine loopC_once mixed l1_centoref08_letter.eq_1 ?_
      simp
      exact hq2 rfl
    | succ m ih =>
      intro i hi h2 Q n0 hq hq2
      have hg : ([46, 46, 118, 98, 121, 116, 102, 101, 112, 99] : List UInt8)[i]? = some (letters.getD i 0) := by
        have : ∀ n : Nat, n < 10 → ([46, 46, 118, 98, 121, 116, 102, 101, 112, 99] : List UInt8)[n]? = some (letters.getD n 0) := by decide
        exact this i (by omega)
      have hgE : ∀ h : i < ([46, 46, 118, 98, 121, 116, 102, 101, 112, 99] : List UInt8).length, ([46, 46, 118, 98, 121, 116, 102, 101, 112, 99] : List UInt8)[i]'h = letters.getD i 0 := fun h => by
        rw [List.getElem?_eq_getElem h] at hg
        exact Option.some.inj hg
      have e8 : IntKind.i64.wrap ((i : Int) + 1) = ((i + 1 : Nat) : Int) := by rw [i64_same (by omega) (by omega)]; omega
      rw [ltGo] at hq hq2
      refine loopC_once mixed l1_centoref08_letter.eq_1 ?_
      generalize letters.getD i 0 = x at hg hgE hq hq2
      by_cases hx : x = c
      · rw [if_pos hx] at hq
        simp [hg, hgE, show i < 10 by omega, show (i : Int) < 10 by omega, hx]
        exact hq _ rfl [] (by omega)
      · rw [if_neg hx] at hq hq2
        have hx' : ¬ (x.toNat : Int) = c.toNat := fun e => hx (u8_inj.1 e)
        simp [hg, hgE, show i < 10 by omega, show (i : Int) < 10 by omega, hx', e8]
        exact ih (i + 1) (by omega) (by omega) hq hq2
  unfold c_centoref08_letter
  simp
  refine loop 8 2 (by omega) (by omega) (fun y hy _ _ => ?_) (fun h => ?_)
  · simp
    exact frz_int hy
  · rw [h]
    simp
    exact frz_bare rfl
end Go.Proofs.YtgimfagpolbelaaDoor

/-
  The document's reader of texts: kids.
-/
namespace Go.Proofs.YtgimfagpolbelaaDoor
set_option linter.unusedVariables false
set_option linter.unusedSimpArgs false
open Go Go.G Go.Proofs Go.PL
/-- What reads a kid, by the document. -/
def rqK (D : Bool) (d : Nat) : List UInt8 → T × Bool × Nat := if D = true then numT numQ else treeM numQ d
/-- What a reader has found. -/
def Fnd (M : T × Bool × Nat) (k : Nat) (t : T) (n : Int) : Prop := M.2.1 = true → t = M.1 ∧ n = (k + M.2.2 : Nat)
def RdQ (d : Nat) : Prop := ∀ {s : List UInt8}, s.length ≤ 1000000000 → ∀ k, k ≤ s.length → ∃ (t : T) (n : Int), Fnd (treeM numQ d (s.drop k)) k t n ∧
  G.Spec Tryd.prog 23 [S s, iv k, iv d] (.tup [tX t, iv n, bv (treeM numQ d (s.drop k)).2.1])
theorem numQ_pos {r : List UInt8} (h : (numQ r).2.1 = true) : 0 < (numQ r).2.2 := by
  unfold numQ at h
  simp only [Bool.and_eq_true, decide_eq_true_eq] at h
  exact h.1.1
theorem numQ_le (r : List UInt8) : (numQ r).2.2 ≤ r.length := (refGo_le 17 r 0).1
theorem treeQ_to {d : Nat} {r : List UInt8} (h : (treeM numQ d r).2.1 = true) : 0 < (treeM numQ d r).2.2 ∧ (treeM numQ d r).2.2 ≤ r.length := by
  obtain ⟨h1, h2, _⟩ := treeM_to numQ_R d _ _ _ (triple h)
  refine ⟨?_, h2⟩
  apply Nat.pos_of_ne_zero
  intro e
  rw [e] at h1
  exact showT_pos _ (by rw [← h1]; simp)
theorem rqK_to {D : Bool} {d : Nat} {r : List UInt8} (h : (rqK D d r).2.1 = true) : 0 < (rqK D d r).2.2 ∧ (rqK D d r).2.2 ≤ r.length := by
  unfold rqK at h ⊢
  by_cases hD : D = true
  · rw [if_pos hD] at h ⊢
    exact ⟨numQ_pos h, numQ_le r⟩
  · rw [if_neg hD] at h ⊢
    exact treeQ_to h
theorem rqk_k1 {n0 : Nat} {w0 : World} {I0 : Nat → Prop} {Q' : Exit → Sta → Prop} {s : List UInt8} (hs : s.length ≤ 1000000000) {k : Nat} {n : Int} {e : UInt8} {d : Int} {D b : Bool} (hk : b = true → n = k ∧ k ≤ s.length) {x : T} {acc : List T} {u v j : Nat} {H : Hp} (hacc : acc.length ≤ s.length)
    (h1 : H [0] = ⟨u, .cells (elC D x)⟩) (h2 : H [1] = ⟨v, .arr 3 (acc.map (el D))⟩)
    (hbad : (b = true → eatB (s.drop k) e = false ∧ eatB (s.drop k) 44 = false) → ∀ H' : Hp, Q' .ret ⟨lk [(10, .sl true []), (11, iv 0), (12, bv false)], H'⟩)
    (hend : b = true → eatB (s.drop k) e = true → ∀ H' : Hp, H' [1] = ⟨v + 1, .arr 3 ((acc ++ [x]).map (el D))⟩ → Q' .ret ⟨lk [(10, .osl [1] (v + 1) 3 0 (acc.length + 1)), (11, iv (k + 1 : Nat)), (12, bv true)], H'⟩)
    (hgo : b = true → eatB (s.drop k) e = false → eatB (s.drop k) 44 = true → ∀ H' : Hp, H' [1] = ⟨v + 1, .arr 3 ((acc ++ [x]).map (el D))⟩ → Q' .normal ⟨lk [(0, S s), (1, iv (k + 1 : Nat)), (2, bv D), (3, u8v e), (4, iv d), (13, .osl [1] (v + 1) 3 0 (acc.length + 1)), (14, iv j), (88, bv false)], H'⟩) :
    WPC (cx Tryd.prog w0 I0 n0) k1_centoref08_kids Q' ⟨lk [(0, S s), (2, bv D), (3, u8v e), (4, iv d), (13, .osl [1] v 3 0 acc.length), (14, iv j), (15, .pob [0] u 0), (16, iv n), (17, bv b)], H⟩ := by
  rw [k1_centoref08_kids.eq_1]
  cases b with
  | false =>
    simp
    exact hbad (fun h => by cases h) H
  | true =>
    obtain ⟨rfl, hk⟩ := hk rfl
    have hag : A.agg (elC D x) = el D x := rfl
    have e1 : IntKind.i64.wrap ((k : Int) + 1) = ((k + 1 : Nat) : Int) := by rw [i64_same (by omega) (by omega)]; omega
    by_cases hlt : k < s.length
    · have hx : s[k]? = some s[k] := List.getElem?_eq_getElem hlt
      have hE : eatB (s.drop k) e = (s[k] == e) := by rw [drop_get hlt]; rfl
      have hC : eatB (s.drop k) 44 = (s[k] == 44) := by rw [drop_get hlt]; rfl
      rw [hE] at hbad hend hgo
      rw [hC] at hbad hgo
      generalize hy : s[k] = y at *
      have hroom : (acc.length + 1) * 56 ≤ 140737488355328 := by omega
      simp [hlt, show ¬ s.length ≤ k by omega, h1, h2, lens_el, elC_ones, take_all, hag, e1, hy, hroom]
      refine ⟨elC_bare, ?_⟩
      by_cases c1 : y = e
      · subst c1
        simp
        exact hend rfl (by simp) _ (by simp)
      · have c1' : ¬ (y.toNat : Int) = e.toNat := fun h => c1 (u8_inj.1 h)
        by_cases c2 : y = 44
        · subst c2
          have c3 : ¬ (44 : Int) = e.toNat := c1'
          simp [c3]
          exact hgo rfl (by simpa using c1) (by simp) _ (by simp)
        · have c2' : ¬ (y.toNat : Int) = 44 := fun h => c2 ((u8_inj (b := 44)).1 h)
          simp [c1', c2']
          exact hbad (fun _ => ⟨by simpa using c1, by simpa using c2⟩) _
    · have he : s.drop k = [] := List.drop_of_length_le (by omega)
      have hke : k = s.length := by omega
      rw [he] at hbad
      simp [hlt, show s.length ≤ k by omega]
      exact hbad (fun _ => ⟨rfl, rfl⟩) H
theorem rqk_l1 {n0 : Nat} {w0 : World} {I0 : Nat → Prop} {Q : Exit → Sta → Prop} {s : List UInt8} (hs : s.length ≤ 1000000000) {D : Bool} {e : UInt8} {d : Nat} (hT : D = false → RdQ d) : ∀ (f k j : Nat) (acc : List T) (v : Nat) (H : Hp), s.length - k < f → k ≤ s.length → j ≤ k → acc.length ≤ k → H [1] = ⟨v, .arr 3 (acc.map (el D))⟩ →
    ((kidsGo (rqK D d) e f (s.drop k)).2.1 = false → ∀ H' : Hp, Q .ret ⟨lk [(10, .sl true []), (11, iv 0), (12, bv false)], H'⟩) →
    ((kidsGo (rqK D d) e f (s.drop k)).2.1 = true → ∀ (H' : Hp) (v' : Nat), H' [1] = ⟨v', .arr 3 ((acc ++ (kidsGo (rqK D d) e f (s.drop k)).1).map (el D))⟩ → Q .ret ⟨lk [(10, .osl [1] v' 3 0 (acc ++ (kidsGo (rqK D d) e f (s.drop k)).1).length), (11, iv (k + (kidsGo (rqK D d) e f (s.drop k)).2.2 : Nat)), (12, bv true)], H'⟩) →
    LoopC (cx Tryd.prog w0 I0 n0) l1_centoref08_kids Q ⟨lk [(0, S s), (1, iv k), (2, bv D), (3, u8v e), (4, iv d), (13, .osl [1] v 3 0 acc.length), (14, iv j)], H⟩ := by
  intro f
  induction f with
  | zero => intro k j acc v H hf; omega
  | succ f ih =>
    intro k j acc v H hf hk hj hacc hH2 hq0 hq1
    rw [kidsGo] at hq0 hq1
    have hle := rqK_to (D := D) (d := d) (r := s.drop k)
    rw [List.length_drop] at hle
    have ej : IntKind.i64.wrap ((j : Int) + 1) = ((j + 1 : Nat) : Int) := by rw [i64_same (by omega) (by omega)]; omega
    have tail : ∀ (Q' : Exit → Sta → Prop), (∀ st, Q .ret st → Q' .ret st) → (∀ (k' : Nat) (l : Nat) (v' : Nat) (H' : Hp), LoopC (cx Tryd.prog w0 I0 n0) l1_centoref08_kids Q ⟨lk [(0, S s), (1, iv k'), (2, bv D), (3, u8v e), (4, iv d), (13, .osl [1] v' 3 0 l), (14, iv (j + 1 : Nat))], H'⟩ → Q' .normal ⟨lk [(0, S s), (1, iv k'), (2, bv D), (3, u8v e), (4, iv d), (13, .osl [1] v' 3 0 l), (14, iv j), (88, bv false)], H'⟩) →
        ∀ (H' : Hp) (u : Nat) (x : T) (n : Int), Fnd (rqK D d (s.drop k)) k x n → H' [0] = ⟨u, .cells (elC D x)⟩ → H' [1] = ⟨v, .arr 3 (acc.map (el D))⟩ →
        WPC (cx Tryd.prog w0 I0 n0) k1_centoref08_kids Q' ⟨lk [(0, S s), (2, bv D), (3, u8v e), (4, iv d), (13, .osl [1] v 3 0 acc.length), (14, iv j), (15, .pob [0] u 0), (16, iv n), (17, bv (rqK D d (s.drop k)).2.1)], H'⟩ := fun Q' hr hn H' u x n hF g1 g2 => by
      generalize rqK D d (s.drop k) = N at *
      refine rqk_k1 hs (k := k + N.2.2) (fun hb => ⟨(hF hb).2, by have := (hle hb).2; omega⟩) (by omega) g1 g2 (fun hb H2 => ?_) (fun hb hE H2 f2 => ?_) (fun hb hE hC H2 f2 => ?_)
      · refine hr _ ?_
        rw [List.drop_drop] at hq0
        by_cases hb' : N.2.1 = true
        · obtain ⟨b1, b2⟩ := hb hb'
          have b1' : ¬ eatB (s.drop (k + N.2.2)) e = true := by rw [b1]; simp
          have b2' : ¬ eatB (s.drop (k + N.2.2)) 44 = true := by rw [b2]; simp
          rw [if_pos hb', if_neg b1', if_neg b2'] at hq0
          exact hq0 rfl H2
        · rw [if_neg hb'] at hq0
          exact hq0 rfl H2
      · refine hr _ ?_
        have hx := (hF hb).1
        subst hx
        rw [List.drop_drop] at hq1
        rw [if_pos hb, if_pos hE] at hq1
        have := hq1 rfl H2 (v + 1) f2
        simpa [Int.add_assoc] using this
      · have hlt : k + N.2.2 < s.length := by
          rcases eat_cases s (k + N.2.2) 44 (by have := (hle hb).2; omega) with h | h
          · exact h.2.1
          · rw [h.1] at hC; cases hC
        have hpos := (hle hb).1
        have hx := (hF hb).1
        subst hx
        rw [List.drop_drop] at hq0 hq1
        have hE' : ¬ eatB (s.drop (k + N.2.2)) e = true := by rw [hE]; simp
        rw [if_pos hb, if_neg hE', if_pos hC, List.drop_drop] at hq0 hq1
        refine hn (k + N.2.2 + 1) (acc.length + 1) (v + 1) H2 ?_
        refine LoopC.le (le_list [(0, S s), (1, iv (k + (N.2.2 + 1) : Nat)), (2, bv D), (3, u8v e), (4, iv d), (13, .osl [1] (v + 1) 3 0 (acc ++ [N.1]).length), (14, iv (j + 1 : Nat))] (by simp [Int.add_assoc])) ?_
        refine ih (k + (N.2.2 + 1)) (j + 1) (acc ++ [N.1]) (v + 1) _ (by omega) (by omega) (by omega) (by simp; omega) f2 (fun h H' => ?_) (fun h H' v' h2 => ?_)
        · exact hq0 h H'
        · have := hq1 h H' v' (by simp [h]; simpa using h2)
          simpa [h, Int.add_assoc] using this
    clear hq0 hq1
    refine loopC_once mixed l1_centoref08_kids.eq_1 ?_
    simp [show j ≤ s.length by omega]
    cases D with
    | true =>
      simp
      have hn := rnum_spec hs k hk
      refine sc_call hn rfl ?_
      have eR : rqK true d (s.drop k) = (.mk 10 [((numQ (s.drop k)).1 : Int)] [], (numQ (s.drop k)).2.1, (numQ (s.drop k)).2.2) := rfl
      rw [eR] at tail
      simp
      refine tail _ (fun st h => by simpa using h) (fun k' l v' H' h => by simp [ej]; exact h) _ _ (.mk 10 [((numQ (s.drop k)).1 : Int)] []) _ (fun _ => ⟨rfl, by simp⟩) ?_ ?_
      · simp [elC]
      · simp [updF_app, hH2]
    | false =>
      obtain ⟨t0, m, hF, ht⟩ := hT rfl hs k hk
      simp
      refine sc_call ht rfl ?_
      have eR : rqK false d (s.drop k) = treeM numQ d (s.drop k) := rfl
      rw [eR] at tail
      simp
      refine tail _ (fun st h => by simpa using h) (fun k' l v' H' h => by simp [ej]; exact h) _ _ t0 m hF ?_ ?_
      · simp [elC]
      · simp [updF_app, hH2]
theorem rqkids_spec {D : Bool} {d : Nat} (hT : D = false → RdQ d) {s : List UInt8} (hs : s.length ≤ 1000000000) {e : UInt8} {k : Nat} (hk : k ≤ s.length) : ∃ n : Int,
    G.Spec Tryd.prog 38 [S s, iv k, bv D, u8v e, iv d] (.tup [tKs (txKids (rqK D d) e (s.drop k)).1, iv n, bv (txKids (rqK D d) e (s.drop k)).2.1]) ∧ ((txKids (rqK D d) e (s.drop k)).2.1 = true → n = (k + (txKids (rqK D d) e (s.drop k)).2.2 : Nat)) := by
  have hnone : (txKids (rqK D d) e (s.drop k)).2.1 = false → (txKids (rqK D d) e (s.drop k)).1 = [] := fun h => txKids_fail h
  have e1 : IntKind.i64.wrap ((k : Int) + 1) = ((k + 1 : Nat) : Int) := by rw [i64_same (by omega) (by omega)]; omega
  unfold txKids at hnone ⊢
  by_cases hE : eatB (s.drop k) e = true
  · rw [if_pos hE] at hnone ⊢
    obtain ⟨hlt, hx⟩ : ∃ h : k < s.length, s[k] = e := by
      rcases eat_cases s k e hk with h | h
      · exact ⟨h.2.1, by rw [← nxB_at h.2.1]; exact h.2.2⟩
      · rw [h.1] at hE; cases hE
    have hxx : s[k]? = some e := by rw [List.getElem?_eq_getElem hlt, hx]
    refine ⟨(k + 1 : Nat), spec_of t_centoref08_kids (by simp) fun w0 I0 => ?_, fun _ => rfl⟩
    unfold c_centoref08_kids
    simp [hlt, hx, hxx, e1]
    exact frz_tup ⟨frz_sl, frz_bare rfl, frz_bare rfl, trivial⟩
  · rw [if_neg hE] at hnone ⊢
    have hne : ∀ h : k < s.length, ¬ ((s[k]).toNat : Int) = e.toNat := fun h q => by
      rw [drop_get h, eatB_cons] at hE
      exact hE (by simpa using u8_inj.1 q)
    cases hb : (kidsGo (rqK D d) e ((s.drop k).length + 1) (s.drop k)).2.1 with
    | false =>
      rw [hnone hb]
      refine ⟨0, spec_of t_centoref08_kids (by simp) fun w0 I0 => ?_, (fun h => by cases h)⟩
      unfold c_centoref08_kids
      by_cases hlt : k < s.length
      · have hne := hne hlt
        simp [hlt, hne]
        refine LoopC.le (le_blank 13 [1] 3 (by simp)) ?_
        refine LoopC.le (le_list [(0, S s), (1, iv k), (2, bv D), (3, u8v e), (4, iv d), (13, .osl [1] 1 3 0 ([] : List T).length), (14, iv (0 : Nat))] (by simp [upd])) ?_
        refine rqk_l1 hs hT ((s.drop k).length + 1) k 0 [] 1 _ (by simp) hk (by simp) (by simp) (by simp) (fun h H' => ?_) (fun h => by rw [hb] at h; cases h)
        simp
        exact frz_tup ⟨frz_sl, frz_bare rfl, frz_bare rfl, trivial⟩
      · simp [hlt]
        refine LoopC.le (le_blank 13 [1] 3 (by simp)) ?_
        refine LoopC.le (le_list [(0, S s), (1, iv k), (2, bv D), (3, u8v e), (4, iv d), (13, .osl [1] 1 3 0 ([] : List T).length), (14, iv (0 : Nat))] (by simp [upd])) ?_
        refine rqk_l1 hs hT ((s.drop k).length + 1) k 0 [] 1 _ (by simp) hk (by simp) (by simp) (by simp) (fun h H' => ?_) (fun h => by rw [hb] at h; cases h)
        simp
        exact frz_tup ⟨frz_sl, frz_bare rfl, frz_bare rfl, trivial⟩
    | true =>
      obtain ⟨G, hG⟩ : ∃ G, G = (kidsGo (rqK D d) e ((s.drop k).length + 1) (s.drop k)).1 := ⟨_, rfl⟩
      have hat : D = true → ∀ c, c ∈ G → c.kids = [] := fun hD c hc => by
        have eR : rqK D d = numT numQ := by rw [hD]; rfl
        rw [eR] at hb hG
        have := (kidsGo_to (numT_to numQ_R) e _ _ _ _ (triple hb)).2.2.2 c (by rw [← hG]; exact hc)
        exact this.2.1
      have hlt : k < s.length := by
        apply Nat.lt_of_not_le
        intro h
        rw [List.drop_of_length_le h, kidsGo] at hb
        have := rqK_to (D := D) (d := d) (r := [])
        simp only [List.length_nil] at this
        by_cases hq : (rqK D d []).2.1 = true
        · have := this hq; omega
        · rw [if_neg hq] at hb; cases hb
      have hne := hne hlt
      refine ⟨_, spec_of t_centoref08_kids (by simp) fun w0 I0 => ?_, fun _ => rfl⟩
      unfold c_centoref08_kids
      simp [hlt, hne]
      refine LoopC.le (le_blank 13 [1] 3 (by simp)) ?_
      refine LoopC.le (le_list [(0, S s), (1, iv k), (2, bv D), (3, u8v e), (4, iv d), (13, .osl [1] 1 3 0 ([] : List T).length), (14, iv (0 : Nat))] (by simp [upd])) ?_
      refine rqk_l1 hs hT ((s.drop k).length + 1) k 0 [] 1 _ (by simp) hk (by simp) (by simp) (by simp) (fun h => by rw [hb] at h; cases h) (fun h H' v' h2 => ?_)
      simp only [List.length_drop] at h2 hG ⊢
      rw [← hG] at h2 ⊢
      simp only [List.nil_append] at h2 ⊢
      simp
      refine frz_tup ⟨?_, frz_bare rfl, frz_bare rfl, trivial⟩
      refine frz_rowS (l := G) (f := el D) (g := tA) (by rw [h2]; simp) rfl (fun x hx => ?_)
      cases hD : D with
      | true =>
        have hk0 := hat hD x hx
        simp [elC, A.soft, A.softL, hk0, A.bare, A.ones, soft_uv]
      | false => simp [elC, A.soft, A.softL, A.bare, A.ones, soft_uv, soft_tKs]
/-! ### structs -/
/-- The words' row, and the struct in its cells. -/
def WsH (H : Hp) (u v : Nat) (ws : List Int) : Prop := H [1] = ⟨u, .cells [iv 1, .osl [2] v 1 0 ws.length, .sl true []]⟩ ∧ H [2] = ⟨v, .arr 1 (ws.map uv)⟩
theorem frz_wsH {H : Hp} {v : Nat} {ws : List Int} (h : H [2] = ⟨v, .arr 1 (ws.map uv)⟩) {x : A} {l : List T} (hx : Frz H x (tKs l)) : Frz H (.agg [iv 1, .osl [2] v 1 0 ws.length, x]) (tX (.mk 1 ws l)) := by
  refine frz_agg ⟨frz_bare rfl, ?_, hx, trivial⟩
  exact frz_row (l := ws) (f := uv) (by rw [h]; simp) rfl (fun x => by simp)
theorem stq_end {ws : List Int} {H : Hp} {v a : Nat} {n : Int} {b : Bool} (h0 : H [0] = ⟨a, .cells [iv 1, .osl [2] v 1 0 ws.length, .sl true []]⟩) (h2 : H [2] = ⟨v, .arr 1 (ws.map uv)⟩) :
    RetC Tryd.prog [.cell 6 25, .tmp 7, .tmp 8] (.tup [tX (.mk 1 ws []), iv n, bv b]) .ret ⟨lk [(6, .pob [0] a 0), (7, iv n), (8, bv b)], H⟩ := by
  simp [h0, resA]
  exact frz_tup ⟨frz_wsH h2 frz_sl, frz_bare rfl, frz_bare rfl, trivial⟩
theorem numsM_no {f : Nat} {r : List UInt8} (h : (numQ r).2.1 = false) : (numsM numQ f r).2.1 = false := by
  cases f with
  | zero => rfl
  | succ f => rw [numsM, if_neg (by rw [h]; simp)]
theorem numQ_none {c : UInt8} {r : List UInt8} (h : hexV c = none) : (numQ (c :: r)).2.1 = false := by
  unfold numQ
  rw [refGo_stop (fun x hx => by simp at hx; rw [← hx]; exact h)]
  simp
/-- The words that were read when it failed. -/
def failW : Nat → List UInt8 → List Int
  | 0, _ => []
  | f + 1, r => if (numQ r).2.1 = true ∧ r.drop (numQ r).2.2 ≠ [] then
      if eatB (r.drop (numQ r).2.2) 44 = true ∧ r.drop ((numQ r).2.2 + 1) ≠ [] ∧ (r.drop ((numQ r).2.2 + 1)).headD 0 ≠ 124 then ((numQ r).1 : Int) :: failW f (r.drop ((numQ r).2.2 + 1)) else [((numQ r).1 : Int)]
    else []
/-- Where the words end, and how. -/
theorem stq_l1 {n0 : Nat} {w0 : World} {I0 : Nat → Prop} {Q : Exit → Sta → Prop} {s : List UInt8} (hs : s.length ≤ 1000000000) {d : Int} : ∀ (f k j : Nat) (acc : List Int) (v u a : Nat) (H : Hp), s.length - k < f → (h : k < s.length) → s[k] ≠ 124 → j ≤ k → acc.length ≤ k → WsH H u v acc → (∃ x, H [0] = ⟨a, .cells x⟩ ∧ x.length = 3) →
    -- it fails
    (((numsM numQ f (s.drop k)).2.1 = true → eatB (s.drop (k + (numsM numQ f (s.drop k)).2.2)) 125 = false ∧ eatB (s.drop (k + (numsM numQ f (s.drop k)).2.2)) 124 = false) → ∀ (H' : Hp) (v' a' : Nat), H' [0] = ⟨a', .cells [iv 1, .osl [2] v' 1 0 (acc ++ failW f (s.drop k)).length, .sl true []]⟩ → H' [2] = ⟨v', .arr 1 ((acc ++ failW f (s.drop k)).map uv)⟩ → Q .ret ⟨lk [(6, .pob [0] a' 0), (7, iv 0), (8, bv false)], H'⟩) →
    -- a brace
    ((numsM numQ f (s.drop k)).2.1 = true → eatB (s.drop (k + (numsM numQ f (s.drop k)).2.2)) 125 = true → ∀ (H' : Hp) (v' a' : Nat), H' [0] = ⟨a', .cells [iv 1, .osl [2] v' 1 0 (acc ++ (numsM numQ f (s.drop k)).1).length, .sl true []]⟩ → H' [2] = ⟨v', .arr 1 ((acc ++ (numsM numQ f (s.drop k)).1).map uv)⟩ → Q .ret ⟨lk [(6, .pob [0] a' 0), (7, iv (k + (numsM numQ f (s.drop k)).2.2 + 1 : Nat)), (8, bv true)], H'⟩) →
    -- a bar
    ((numsM numQ f (s.drop k)).2.1 = true → eatB (s.drop (k + (numsM numQ f (s.drop k)).2.2)) 124 = true → ∀ (H' : Hp) (u' v' j' : Nat), WsH H' u' v' (acc ++ (numsM numQ f (s.drop k)).1) → (∃ x, H' [0] = ⟨a, .cells x⟩ ∧ x.length = 3) → Q (.exit 0) ⟨lk [(0, S s), (1, iv (k + (numsM numQ f (s.drop k)).2.2 : Nat)), (2, iv d), (6, .pob [0] a 0), (9, .pob [1] u' 0), (10, iv j'), (82, bv true)], H'⟩) →
    LoopC (cx Tryd.prog w0 I0 n0) l1_centoref08_structure Q ⟨lk [(0, S s), (1, iv k), (2, iv d), (6, .pob [0] a 0), (9, .pob [1] u 0), (10, iv j)], H⟩ := by
  intro f
  induction f with
  | zero => intro k j acc v u a H hf; omega
  | succ f ih =>
    intro k j acc v u a H hf hk h124 hj hacc hW hX hq0 hq1 hq2
    have hn := rnum_spec hs k (by omega)
    have ej : IntKind.i64.wrap ((j : Int) + 1) = ((j + 1 : Nat) : Int) := by rw [i64_same (by omega) (by omega)]; omega
    have hle := numQ_le (s.drop k)
    rw [List.length_drop] at hle
    have hy' : ¬ (s[k].toNat : Int) = 124 := fun h => h124 ((u8_inj (b := 124)).1 h)
    obtain ⟨g1, g2⟩ := hW
    obtain ⟨x, g0, hx3⟩ := hX
    obtain ⟨xa, xb, xc, rfl⟩ : ∃ a b c, x = [a, b, c] := by
      match x, hx3 with
      | [a, b, c], _ => exact ⟨a, b, c, rfl⟩
    rw [numsM] at hq0 hq1 hq2
    rw [failW] at hq0
    have hpos := numQ_pos (r := s.drop k)
    generalize numQ (s.drop k) = N at *
    have hnl : s.length - k < f + 1 := hf
    refine loopC_once mixed l1_centoref08_structure.eq_1 ?_
    simp [show j ≤ s.length by omega, hk, hy']
    refine sc_call hn rfl ?_
    by_cases hb : N.2.1 = true
    · rw [if_pos hb] at hq0 hq1 hq2
      rw [List.drop_drop] at hq0 hq1 hq2
      rw [List.drop_drop] at hq0
      have hp := hpos hb
      rw [hb]
      obtain ⟨k1, hk1⟩ : ∃ k1, k1 = k + N.2.2 := ⟨_, rfl⟩
      have hk1' : (k : Int) + (N.2.2 : Int) = (k1 : Int) := by omega
      by_cases hlt : k1 < s.length
      · have hxe : s[k1]? = some s[k1] := List.getElem?_eq_getElem hlt
        have hdr := drop_get hlt
        have eE : ∀ c, eatB (s.drop (k + N.2.2)) c = (s[k1] == c) := fun c => by rw [← hk1, hdr]; rfl
        rw [eE] at hq0 hq1 hq2
        have e1 : IntKind.i64.wrap ((k1 : Int) + 1) = ((k1 + 1 : Nat) : Int) := by rw [i64_same (by omega) (by omega)]; omega
        have hroom : (acc.length + 1) * 8 ≤ 140737488355328 := by omega
        generalize hy : s[k1] = y at *
        simp [hk1', show ¬ (s.length : Int) ≤ k1 by omega, g0, g1, g2, updF_app, take_all, hlt, hy, hroom, splice]
        by_cases c125 : y = 125
        · subst c125
          rw [if_neg (by decide)] at hq1
          simp [e1]
          simp only [← hk1] at hq1
          exact hq1 trivial (by rw [hdr]; rfl) _ (v + 1) a (by simp [updF_app]) (by simp [updF_app])
        · have c125' : ¬ (y.toNat : Int) = 125 := fun h => c125 ((u8_inj (b := 125)).1 h)
          by_cases c124 : y = 124
          · subst c124
            rw [if_neg (by decide)] at hq2
            simp
            simp only [← hk1] at hq2
            exact hq2 trivial (by rw [hdr]; rfl) _ u (v + 1) j ⟨by simp [updF_app], by simp [updF_app]⟩ ⟨_, by simp [updF_app, g0]; rfl, rfl⟩
          · have c124' : ¬ (y.toNat : Int) = 124 := fun h => c124 ((u8_inj (b := 124)).1 h)
            by_cases c44 : y = 44
            · subst c44
              rw [if_pos (by decide)] at hq0 hq1 hq2
              rw [List.drop_drop, ← Nat.add_assoc, ← hk1] at hq1 hq2
              rw [← Nat.add_assoc, ← hk1] at hq0
              rw [hdr] at hq0
              simp only [hb, eatB_cons, ne_eq, not_false_eq_true, reduceCtorEq, beq_self_eq_true, true_and, and_self, if_true] at hq0
              have bad : (numQ (s.drop (k1 + 1))).2.1 = false → s.drop (k1 + 1) = [] ∨ (s.drop (k1 + 1)).headD 0 = 124 → ∀ (H' : Hp) (v' a' : Nat), H' [0] = ⟨a', .cells [iv 1, .osl [2] v' 1 0 (acc ++ [(N.1 : Int)]).length, .sl true []]⟩ → H' [2] = ⟨v', .arr 1 ((acc ++ [(N.1 : Int)]).map uv)⟩ → Q .ret ⟨lk [(6, .pob [0] a' 0), (7, iv 0), (8, bv false)], H'⟩ := fun hno hor => by
                have hc : ¬ (¬ s.drop (k1 + 1) = [] ∧ ¬ (s.drop (k1 + 1)).headD 0 = 124) := fun h => by
                  rcases hor with e | e
                  · exact h.1 e
                  · exact h.2 e
                rw [if_neg hc] at hq0
                exact hq0 (fun h => by
                  have : (numsM numQ f (s.drop (k1 + 1))).2.1 = true := h
                  rw [numsM_no hno] at this
                  cases this)
              by_cases hl2 : k1 + 1 < s.length
              · have hx2 : s[k1 + 1]? = some s[k1 + 1] := List.getElem?_eq_getElem hl2
                have hdr2 := drop_get hl2
                generalize hz : s[k1 + 1] = z at *
                by_cases z124 : z = 124
                · subst z124
                  simp [e1, show ¬ (s.length : Int) ≤ (k1 : Int) + 1 by omega, show (0 : Int) ≤ (k1 : Int) + 1 by omega, hl2, hz]
                  exact bad (by rw [hdr2]; exact numQ_none (by decide)) (.inr (by rw [hdr2]; rfl)) _ (v + 1) a (by simp [updF_app]) (by simp [updF_app])
                · have z124' : ¬ (z.toNat : Int) = 124 := fun h => z124 ((u8_inj (b := 124)).1 h)
                  simp [e1, show ¬ (s.length : Int) ≤ (k1 : Int) + 1 by omega, show (0 : Int) ≤ (k1 : Int) + 1 by omega, hl2, hz, z124', ej]
                  refine LoopC.le (le_list [(0, S s), (1, iv (k1 + 1 : Nat)), (2, iv d), (6, .pob [0] a 0), (9, .pob [1] u 0), (10, iv (j + 1 : Nat))] (by simp)) ?_
                  have hgo : ¬ s.drop (k1 + 1) = [] ∧ ¬ (s.drop (k1 + 1)).headD 0 = 124 := ⟨by rw [hdr2]; simp, by rw [hdr2]; exact z124⟩
                  rw [if_pos hgo] at hq0
                  have eA : ∀ m, k + (N.2.2 + (1 + m)) = k1 + (1 + m) := fun m => by omega
                  simp only [Nat.add_assoc, eA] at hq0 hq1 hq2
                  refine ih (k1 + 1) (j + 1) (acc ++ [(N.1 : Int)]) (v + 1) u a _ (by omega) hl2 (by rw [hz]; exact z124) (by omega) (by simp; omega) ⟨by simp [updF_app], by simp [updF_app]⟩ ⟨_, by simp [updF_app, g0]; rfl, rfl⟩ (fun hf H' v' a' f0 f2 => ?_) (fun hf hE H' v' a' f0 f2 => ?_) (fun hf hE H' u' v' j' f0 f2 => ?_)
                  · simp only [Nat.add_assoc] at hf
                    exact hq0 hf H' v' a' (by simpa using f0) (by simpa using f2)
                  · simp only [if_pos hf] at hq1
                    simp only [Nat.add_assoc] at hE ⊢
                    exact hq1 hf hE H' v' a' (by simpa using f0) (by simpa using f2)
                  · simp only [if_pos hf] at hq2
                    simp only [Nat.add_assoc] at hE ⊢
                    exact hq2 hf hE H' u' v' j' (by simpa using f0) f2
              · simp [e1, show (s.length : Int) ≤ (k1 : Int) + 1 by omega]
                refine bad (by rw [List.drop_of_length_le (by omega)]; rfl) (.inl (List.drop_of_length_le (by omega))) _ (v + 1) a (by simp [updF_app]) (by simp [updF_app])
            · have c44' : ¬ (y.toNat : Int) = 44 := fun h => c44 ((u8_inj (b := 44)).1 h)
              rw [if_neg (by simpa using c44)] at hq0
              rw [← hk1, hdr] at hq0
              simp only [hb, eatB_cons, ne_eq, not_false_eq_true, reduceCtorEq, true_and, and_self, if_true, show (y == 44) = false by simpa using c44, Bool.false_eq_true, false_and, if_false] at hq0
              simp [c125', c124', c44']
              refine hq0 (fun _ => ?_) _ (v + 1) a (by simp [updF_app]) (by simp [updF_app])
              exact ⟨by simpa using c125, by simpa using c124⟩
      · simp [hk1', show (s.length : Int) ≤ k1 by omega, g0, g1, g2, updF_app, splice]
        have hnil : s.drop (k + N.2.2) = [] := List.drop_of_length_le (by omega)
        rw [hnil, if_neg (by simp)] at hq0
        simp only [ne_eq, not_true_eq_false, and_false, if_false, List.append_nil, hnil] at hq0
        exact hq0 (fun _ => ⟨rfl, rfl⟩) _ v a (by simp) (by simp [updF_app, g2])
    · rw [if_neg hb] at hq0
      simp only [Bool.not_eq_true] at hb
      rw [hb] at hq0 ⊢
      simp only [Bool.false_eq_true, false_and, if_false, List.append_nil] at hq0
      simp [g0, g1, splice]
      exact hq0 (fun h => h.elim) _ v a (by simp) (by simp [updF_app, g2])
def StQ (d : Nat) : Prop := ∀ {s : List UInt8}, s.length ≤ 1000000000 → ∀ k, k ≤ s.length → ∃ (t : T) (n : Int), Fnd (structM numQ (txKids (treeM numQ d) 125) (s.drop k)) k t n ∧
  G.Spec Tryd.prog 36 [S s, iv k, iv (d + 1 : Nat)] (.tup [tX t, iv n, bv (structM numQ (txKids (treeM numQ d) 125) (s.drop k)).2.1])
/-- Behind the words. -/
theorem stq_k1 {d : Nat} (hd : d ≤ 1000) (hT : RdQ d) {s : List UInt8} (hs : s.length ≤ 1000000000) {k : Nat} (hk : k ≤ s.length) (h125 : eatB (s.drop k) 125 = false) (ws : List Int)
    {M : T × Bool × Nat} (hM : tailM (txKids (treeM numQ d) 125) ws (s.drop k) = M) : ∃ n : Int, (M.2.1 = true → n = (k + M.2.2 : Nat)) ∧ ∀ {n0 : Nat} {w0 : World} {I0 : Nat → Prop} {u v a : Nat} {H : Hp} {x : List A} (hx3 : x.length = 3) (hX : H [0] = ⟨a, .cells x⟩) (hW : H [1] = ⟨u, .cells [iv 1, .osl [2] v 1 0 ws.length, .sl true []]⟩) (hW2 : H [2] = ⟨v, .arr 1 (ws.map uv)⟩),
    WPC (cx Tryd.prog w0 I0 n0) k1_centoref08_structure (RetC Tryd.prog [.cell 6 25, .tmp 7, .tmp 8] (.tup [tX M.1, iv n, bv M.2.1])) ⟨lk [(0, S s), (1, iv k), (2, iv (d + 1 : Nat)), (6, .pob [0] a 0), (9, .pob [1] u 0)], H⟩ := by
  have e1 : IntKind.i64.wrap ((k : Int) + 1) = ((k + 1 : Nat) : Int) := by rw [i64_same (by omega) (by omega)]; omega
  have e2 : IntKind.i64.wrap ((d : Int) + 1 - 1) = (d : Int) := by rw [i64_same (by omega) (by omega)]; omega
  simp only [Int.add_sub_cancel] at e2
  unfold tailM at hM
  rw [if_neg (by rw [h125]; simp)] at hM
  by_cases hlt : k < s.length
  · have hxe : s[k]? = some s[k] := List.getElem?_eq_getElem hlt
    have hdr := drop_get hlt
    have eE : eatB (s.drop k) 124 = (s[k] == 124) := by rw [hdr]; rfl
    rw [eE] at hM
    generalize hy : s[k] = y at *
    by_cases c124 : y = 124
    · subst c124
      rw [if_pos (by decide), List.drop_drop] at hM
      -- the kids
      have kids : M = (.mk 1 ws (txKids (treeM numQ d) 125 (s.drop (k + 1))).1, (txKids (treeM numQ d) 125 (s.drop (k + 1))).2.1, 1 + (txKids (treeM numQ d) 125 (s.drop (k + 1))).2.2) → (∀ h : k + 1 < s.length, ¬ ((s[k + 1]).toNat : Int) = 125) → ∃ n : Int, (M.2.1 = true → n = (k + M.2.2 : Nat)) ∧ ∀ {n0 : Nat} {w0 : World} {I0 : Nat → Prop} {u v a : Nat} {H : Hp} {x : List A} (hx3 : x.length = 3) (hX : H [0] = ⟨a, .cells x⟩) (hW : H [1] = ⟨u, .cells [iv 1, .osl [2] v 1 0 ws.length, .sl true []]⟩) (hW2 : H [2] = ⟨v, .arr 1 (ws.map uv)⟩),
          WPC (cx Tryd.prog w0 I0 n0) k1_centoref08_structure (RetC Tryd.prog [.cell 6 25, .tmp 7, .tmp 8] (.tup [tX M.1, iv n, bv M.2.1])) ⟨lk [(0, S s), (1, iv k), (2, iv (d + 1 : Nat)), (6, .pob [0] a 0), (9, .pob [1] u 0)], H⟩ := fun hM hz => by
        obtain ⟨n, hn1, hn2⟩ := rqkids_spec (D := false) (d := d) (fun _ => hT) hs (e := 125) (k := k + 1) (by omega)
        have eR : rqK false d = treeM numQ d := rfl
        rw [eR] at hn1 hn2
        generalize txKids (treeM numQ d) 125 (s.drop (k + 1)) = G at hM hn1 hn2
        subst hM
        refine ⟨n, fun h => by rw [hn2 h]; show ((k + 1 + G.2.2 : Nat) : Int) = ((k + (1 + G.2.2) : Nat) : Int); rw [Nat.add_assoc], fun {n0 w0 I0 u v a H x} hx3 hX hW hW2 => ?_⟩
        obtain ⟨xa, xb, xc, rfl⟩ : ∃ a b c, x = [a, b, c] := by
          match x, hx3 with
          | [a, b, c], _ => exact ⟨a, b, c, rfl⟩
        rw [k1_centoref08_structure.eq_1]
        by_cases hl2 : k + 1 < s.length
        · have hz := hz hl2
          have hl2' : (k : Int) + 1 < s.length := by omega
          simp [e1, e2, hlt, hy, hl2, hl2', hz, show ¬ s.length ≤ k by omega, show (0 : Int) ≤ (k : Int) + 1 by omega]
          refine sc_call hn1 rfl ?_
          simp [hX, hW, updF_app, splice]
          exact frz_tup ⟨frz_wsH (by simp [updF_app, hW2]) (frz_bare rfl), frz_bare rfl, frz_bare rfl, trivial⟩
        · have hl2' : ¬ (k : Int) + 1 < s.length := by omega
          simp [e1, e2, hlt, hy, hl2, hl2', show ¬ s.length ≤ k by omega]
          refine sc_call hn1 rfl ?_
          simp [hX, hW, updF_app, splice]
          exact frz_tup ⟨frz_wsH (by simp [updF_app, hW2]) (frz_bare rfl), frz_bare rfl, frz_bare rfl, trivial⟩
      by_cases hl2 : k + 1 < s.length
      · have hx2 : s[k + 1]? = some s[k + 1] := List.getElem?_eq_getElem hl2
        have hhd : (s.drop (k + 1)).headD 0 = s[k + 1] := nxB_at hl2
        rw [hhd] at hM
        by_cases z125 : s[k + 1] = 125
        · rw [if_pos z125] at hM
          subst hM
          refine ⟨0, (fun h => by cases h), fun {n0 w0 I0 u v a H x} hx3 hX hW hW2 => ?_⟩
          obtain ⟨xa, xb, xc, rfl⟩ : ∃ a b c, x = [a, b, c] := by
            match x, hx3 with
            | [a, b, c], _ => exact ⟨a, b, c, rfl⟩
          rw [k1_centoref08_structure.eq_1]
          simp [e1, hlt, hy, hl2, z125, hX, hW, hW2, show ¬ s.length ≤ k by omega, show (0 : Int) ≤ (k : Int) + 1 by omega, show (k : Int) + 1 < s.length by omega]
          exact frz_tup ⟨frz_wsH (by simp [updF_app, hW2]) frz_sl, frz_bare rfl, frz_bare rfl, trivial⟩
        · rw [if_neg z125] at hM
          exact kids hM.symm (fun h e => z125 ((u8_inj (b := 125)).1 e))
      · have hhd : (s.drop (k + 1)).headD 0 = 0 := by rw [List.drop_of_length_le (by omega)]; rfl
        rw [hhd, if_neg (by decide)] at hM
        exact kids hM.symm (fun h => absurd h hl2)
    · have c124' : ¬ (y.toNat : Int) = 124 := fun h => c124 ((u8_inj (b := 124)).1 h)
      rw [if_neg (by simpa using c124)] at hM
      subst hM
      refine ⟨0, (fun h => by cases h), fun {n0 w0 I0 u v a H x} hx3 hX hW hW2 => ?_⟩
      obtain ⟨xa, xb, xc, rfl⟩ : ∃ a b c, x = [a, b, c] := by
        match x, hx3 with
        | [a, b, c], _ => exact ⟨a, b, c, rfl⟩
      rw [k1_centoref08_structure.eq_1]
      simp [e1, hlt, hy, c124', hX, hW, hW2, show ¬ s.length ≤ k by omega]
      exact frz_tup ⟨frz_wsH (by simp [updF_app, hW2]) frz_sl, frz_bare rfl, frz_bare rfl, trivial⟩
  · have hnil : s.drop k = [] := List.drop_of_length_le (by omega)
    rw [hnil, if_neg (by simp)] at hM
    subst hM
    refine ⟨0, (fun h => by cases h), fun {n0 w0 I0 u v a H x} hx3 hX hW hW2 => ?_⟩
    obtain ⟨xa, xb, xc, rfl⟩ : ∃ a b c, x = [a, b, c] := by
      match x, hx3 with
      | [a, b, c], _ => exact ⟨a, b, c, rfl⟩
    rw [k1_centoref08_structure.eq_1]
    simp [e1, hlt, hX, hW, hW2, show s.length ≤ k by omega]
    exact frz_tup ⟨frz_wsH (by simp [updF_app, hW2]) frz_sl, frz_bare rfl, frz_bare rfl, trivial⟩
end Go.Proofs.YtgimfagpolbelaaDoor

/-
  The document's reader of texts: structs, trees.
-/
namespace Go.Proofs.YtgimfagpolbelaaDoor
set_option linter.unusedVariables false
set_option linter.unusedSimpArgs false
open Go Go.G Go.Proofs Go.PL
theorem stQ_of {d : Nat} (hd : d ≤ 1000) (hT : RdQ d) : StQ d := fun {s} hs k hk => by
  have e1 : IntKind.i64.wrap ((k : Int) + 1) = ((k + 1 : Nat) : Int) := by rw [i64_same (by omega) (by omega)]; omega
  obtain ⟨M, hM⟩ : ∃ M, M = structM numQ (txKids (treeM numQ d) 125) (s.drop k) := ⟨_, rfl⟩
  rw [← hM]
  unfold structM at hM
  by_cases h125 : eatB (s.drop k) 125 = true
  · rw [if_pos h125] at hM
    subst hM
    obtain ⟨hlt, hx⟩ : ∃ h : k < s.length, s[k] = 125 := by
      rcases eat_cases s k 125 hk with h | h
      · exact ⟨h.2.1, by rw [← nxB_at h.2.1]; exact h.2.2⟩
      · rw [h.1] at h125; cases h125
    refine ⟨.mk 1 [] [], (k + 1 : Nat), fun _ => ⟨rfl, rfl⟩, spec_of t_centoref08_structure (by simp) fun w0 I0 => ?_⟩
    unfold c_centoref08_structure
    simp [hlt, hx, e1, updF_app, splice]
    exact frz_tup ⟨frz_agg ⟨frz_bare rfl, frz_sl, frz_sl, trivial⟩, frz_bare rfl, frz_bare rfl, trivial⟩
  · rw [if_neg h125] at hM
    have hne : ∀ h : k < s.length, ¬ ((s[k]).toNat : Int) = 125 := fun h q => by
      rw [drop_get h, eatB_cons] at h125
      exact h125 (by simpa using (u8_inj (b := 125)).1 q)
    simp only [Bool.not_eq_true] at h125
    by_cases hlt : k < s.length
    · have hxe : s[k]? = some s[k] := List.getElem?_eq_getElem hlt
      have hne := hne hlt
      have hhd : (s.drop k).headD 0 = s[k] := nxB_at hlt
      by_cases c124 : s[k] = 124
      · have c124' : (s[k].toNat : Int) = 124 := by rw [c124]; rfl
        have hws : wsM numQ (s.drop k) = ([], true, 0) := by
          unfold wsM
          rw [hhd, if_neg (by rw [c124]; simp)]
        rw [hws] at hM
        simp only [if_true, List.drop_zero, Nat.zero_add] at hM
        obtain ⟨n, hn1, hn2⟩ := stq_k1 hd hT hs hk h125 [] rfl
        generalize tailM (txKids (treeM numQ d) 125) [] (s.drop k) = G at hM hn1 hn2
        subst hM
        refine ⟨G.1, n, fun h => ⟨rfl, hn1 h⟩, spec_of t_centoref08_structure (by simp) fun w0 I0 => ?_⟩
        unfold c_centoref08_structure
        simp [hlt, hne, updF_app, splice]
        refine LoopC.le (le_blankC (d := [1]) (u := 1) (cs := [iv 1, .sl true [], .sl true []]) 1 [2] 1 (by simp) rfl (by simp)) ?_
        refine loopC_once mixed l1_centoref08_structure.eq_1 ?_
        simp [hlt, c124', c124]
        refine hn2 (v := 1) (x := [iv 0, .sl true [], .sl true []]) rfl ?_ ?_ ?_
        · simp [updF_app]
        · simp [updF_app]
        · simp [updF_app]
      · have c124' : ¬ (s[k].toNat : Int) = 124 := fun h => c124 ((u8_inj (b := 124)).1 h)
        have hws : wsM numQ (s.drop k) = numsM numQ ((s.drop k).length + 1) (s.drop k) := by
          unfold wsM
          rw [hhd, if_pos c124]
        rw [hws] at hM
        have hf : s.length - k < (s.drop k).length + 1 := by simp
        generalize (s.drop k).length + 1 = f at hM hf
        by_cases hok : (numsM numQ f (s.drop k)).2.1 = true
        · rw [if_pos hok] at hM
          simp only [List.drop_drop] at hM
          have hto := (numsM_to numQ_R f _ _ _ (triple hok)).2.1
          rw [List.length_drop] at hto
          generalize hW : numsM numQ f (s.drop k) = W at hM hok hto
          have hk' : k + W.2.2 ≤ s.length := by omega
          -- the walk, from how it ends
          have walk : ∀ {t : T} {n : Int} {b : Bool}, 
              (eatB (s.drop (k + W.2.2)) 125 = false ∧ eatB (s.drop (k + W.2.2)) 124 = false → t = .mk 1 (failW f (s.drop k)) [] ∧ n = 0 ∧ b = false) →
              (eatB (s.drop (k + W.2.2)) 125 = true → t = .mk 1 W.1 [] ∧ n = (k + W.2.2 + 1 : Nat) ∧ b = true) →
              (eatB (s.drop (k + W.2.2)) 124 = true → ∀ {n0 : Nat} {w0 : World} {I0 : Nat → Prop} {u v a : Nat} {H : Hp} {x : List A} (hx3 : x.length = 3) (hX : H [0] = ⟨a, .cells x⟩) (hW : H [1] = ⟨u, .cells [iv 1, .osl [2] v 1 0 W.1.length, .sl true []]⟩) (hW2 : H [2] = ⟨v, .arr 1 (W.1.map uv)⟩),
                WPC (cx Tryd.prog w0 I0 n0) k1_centoref08_structure (RetC Tryd.prog [.cell 6 25, .tmp 7, .tmp 8] (.tup [tX t, iv n, bv b])) ⟨lk [(0, S s), (1, iv (k + W.2.2 : Nat)), (2, iv (d + 1 : Nat)), (6, .pob [0] a 0), (9, .pob [1] u 0)], H⟩) →
              G.Spec Tryd.prog 36 [S s, iv k, iv (d + 1 : Nat)] (.tup [tX t, iv n, bv b]) := fun {t n b} h0 h1 h2 => by
            refine spec_of t_centoref08_structure (by simp) fun w0 I0 => ?_
            unfold c_centoref08_structure
            simp [hlt, hne, updF_app, splice]
            refine LoopC.le (le_blankC (d := [1]) (u := 1) (cs := [iv 1, .sl true [], .sl true []]) 1 [2] 1 (by simp) rfl (by simp)) ?_
            refine LoopC.le (le_list [(0, S s), (1, iv k), (2, iv (d + 1 : Nat)), (6, .pob [0] 1 0), (9, .pob [1] 1 0), (10, iv (0 : Nat))] (by simp)) ?_
            refine stq_l1 hs f k 0 [] 1 1 1 _ hf hlt c124 (by omega) (by simp) ⟨?_, ?_⟩ ⟨[iv 0, .sl true [], .sl true []], ?_, rfl⟩ (fun h H' v' a' f0 f2 => ?_) (fun h hE H' v' a' f0 f2 => ?_) (fun h hE H' u' v' j' f0 f2 => ?_)
            · simp [updF_app]
            · simp [updF_app]
            · simp [updF_app]
            · rw [hW] at h
              obtain ⟨rfl, rfl, rfl⟩ := h0 (h hok)
              exact stq_end f0 f2
            · rw [hW] at hE f0 f2 ⊢
              obtain ⟨rfl, rfl, rfl⟩ := h1 hE
              exact stq_end f0 f2
            · rw [hW] at hE f0 ⊢
              obtain ⟨x, f2, f3⟩ := f2
              simp
              have := h2 hE (n0 := 144) (w0 := w0) (I0 := I0) f3 f2 f0.1 f0.2
              simpa using this
          by_cases hE : eatB (s.drop (k + W.2.2)) 125 = true
          · have hq : tailM (txKids (treeM numQ d) 125) W.1 (s.drop (k + W.2.2)) = (.mk 1 W.1 [], true, 1) := by
              unfold tailM; rw [if_pos hE]
            rw [hq] at hM
            subst hM
            refine ⟨.mk 1 W.1 [], (k + W.2.2 + 1 : Nat), fun _ => ⟨rfl, by rw [Nat.add_assoc]⟩, walk (fun h => by rw [h.1] at hE; cases hE) (fun _ => ⟨rfl, rfl, rfl⟩) (fun h => ?_)⟩
            have e1 := eat_head hE
            rw [eat_head h] at e1
            cases e1
          · simp only [Bool.not_eq_true] at hE
            obtain ⟨n, hn1, hn2⟩ := stq_k1 hd hT hs hk' hE W.1 rfl
            by_cases hE4 : eatB (s.drop (k + W.2.2)) 124 = true
            · generalize tailM (txKids (treeM numQ d) 125) W.1 (s.drop (k + W.2.2)) = G at hM hn1 hn2
              subst hM
              exact ⟨G.1, n, fun h => ⟨rfl, by rw [hn1 h, Nat.add_assoc]⟩, walk (fun h => by rw [h.2] at hE4; cases hE4) (fun h => by rw [h] at hE; cases hE) (fun _ => hn2)⟩
            · have hq : tailM (txKids (treeM numQ d) 125) W.1 (s.drop (k + W.2.2)) = (.mk 1 W.1 [], false, 0) := by
                unfold tailM; rw [if_neg (by rw [hE]; simp), if_neg hE4]
              rw [hq] at hM
              subst hM
              refine ⟨.mk 1 (failW f (s.drop k)) [], 0, (fun h => by cases h), walk (fun _ => ⟨rfl, rfl, rfl⟩) (fun h => by rw [h] at hE; cases hE) (fun h => absurd h hE4)⟩
        · rw [if_neg hok] at hM
          subst hM
          refine ⟨.mk 1 (failW f (s.drop k)) [], 0, (fun h => by cases h), spec_of t_centoref08_structure (by simp) fun w0 I0 => ?_⟩
          unfold c_centoref08_structure
          simp [hlt, hne, updF_app, splice]
          refine LoopC.le (le_blankC (d := [1]) (u := 1) (cs := [iv 1, .sl true [], .sl true []]) 1 [2] 1 (by simp) rfl (by simp)) ?_
          refine LoopC.le (le_list [(0, S s), (1, iv k), (2, iv (d + 1 : Nat)), (6, .pob [0] 1 0), (9, .pob [1] 1 0), (10, iv (0 : Nat))] (by simp)) ?_
          refine stq_l1 hs f k 0 [] 1 1 1 _ hf hlt c124 (by omega) (by simp) ⟨?_, ?_⟩ ⟨[iv 0, .sl true [], .sl true []], ?_, rfl⟩ (fun h H' v' a' f0 f2 => ?_) (fun h => absurd h hok) (fun h => absurd h hok)
          · simp [updF_app]
          · simp [updF_app]
          · simp [updF_app]
          · exact stq_end f0 f2
    · have hnil : s.drop k = [] := List.drop_of_length_le (by omega)
      rw [hnil] at hM
      have hM2 : M = (.mk 1 [] [], false, (wsM numQ []).2.2) := hM
      clear hM
      subst hM2
      refine ⟨.mk 1 [] [], 0, (fun h => by cases h), spec_of t_centoref08_structure (by simp) fun w0 I0 => ?_⟩
      unfold c_centoref08_structure
      simp [hlt, updF_app, splice]
      refine LoopC.le (le_blankC (d := [1]) (u := 1) (cs := [iv 1, .sl true [], .sl true []]) 1 [2] 1 (by simp) rfl (by simp)) ?_
      refine loopC_once mixed l1_centoref08_structure.eq_1 ?_
      simp [hlt]
      rw [k1_centoref08_structure.eq_1]
      simp [hlt, show s.length ≤ k by omega, updF_app]
      exact frz_tup ⟨frz_wsH (ws := []) (by simp [updF_app]) frz_sl, frz_bare rfl, frz_bare rfl, trivial⟩
/-! ### trees -/
theorem rdQ_zero : RdQ 0 := fun {s} hs k hk => by
  have e1 : IntKind.i64.wrap ((k : Int) + 1) = ((k + 1 : Nat) : Int) := by rw [i64_same (by omega) (by omega)]; omega
  rw [treeM_zero]
  by_cases hE : eatB (s.drop k) 95 = true
  · rw [if_pos hE]
    obtain ⟨hlt, hx⟩ : ∃ h : k < s.length, s[k] = 95 := by
      rcases eat_cases s k 95 hk with h | h
      · exact ⟨h.2.1, by rw [← nxB_at h.2.1]; exact h.2.2⟩
      · rw [h.1] at hE; cases hE
    refine ⟨T0, (k + 1 : Nat), fun _ => ⟨rfl, rfl⟩, spec_of t_centoref08_read (by simp) fun w0 I0 => ?_⟩
    unfold c_centoref08_read
    simp [hlt, hx, e1, show ¬ s.length ≤ k by omega, updF_app, splice]
    exact frz_tup ⟨frz_T0, frz_bare rfl, frz_bare rfl, trivial⟩
  · rw [if_neg hE]
    have hne : ∀ h : k < s.length, ¬ ((s[k]).toNat : Int) = 95 := fun h q => by
      rw [drop_get h, eatB_cons] at hE
      exact hE (by simpa using (u8_inj (b := 95)).1 q)
    refine ⟨T0, 0, (fun h => by cases h), spec_of t_centoref08_read (by simp) fun w0 I0 => ?_⟩
    unfold c_centoref08_read
    by_cases hlt : k < s.length
    · have hne := hne hlt
      simp [hlt, hne, show ¬ s.length ≤ k by omega, updF_app, splice]
      exact frz_tup ⟨frz_T0, frz_bare rfl, frz_bare rfl, trivial⟩
    · simp [hlt, show s.length ≤ k by omega, updF_app, splice]
      exact frz_tup ⟨frz_T0, frz_bare rfl, frz_bare rfl, trivial⟩
theorem rdQ_succ {d : Nat} (hd : d ≤ 1000) (hT : RdQ d) : RdQ (d + 1) := fun {s} hs k hk => by
  have e1 : IntKind.i64.wrap ((k : Int) + 1) = ((k + 1 : Nat) : Int) := by rw [i64_same (by omega) (by omega)]; omega
  have e2 : IntKind.i64.wrap ((k : Int) + 2) = ((k + 2 : Nat) : Int) := by rw [i64_same (by omega) (by omega)]; omega
  have e3 : IntKind.i64.wrap ((d : Int) + 1 - 1) = (d : Int) := by rw [i64_same (by omega) (by omega)]; omega
  simp only [Int.add_sub_cancel] at e3
  obtain ⟨M, hM⟩ : ∃ M, M = treeM numQ (d + 1) (s.drop k) := ⟨_, rfl⟩
  rw [← hM]
  rw [treeM_succ] at hM
  by_cases hlt : k < s.length
  · have hxe : s[k]? = some s[k] := List.getElem?_eq_getElem hlt
    have hdr := drop_get hlt
    have eE : ∀ c, eatB (s.drop k) c = (s[k] == c) := fun c => by rw [hdr]; rfl
    have hhd : (s.drop k).headD 0 = s[k] := nxB_at hlt
    rw [eE, eE, hhd] at hM
    have hlet := rlet_spec s[k]
    generalize hy : s[k] = y at *
    by_cases c95 : y = 95
    · subst c95
      rw [if_pos (by decide)] at hM
      subst hM
      refine ⟨T0, (k + 1 : Nat), fun _ => ⟨rfl, rfl⟩, spec_of t_centoref08_read (by simp) fun w0 I0 => ?_⟩
      unfold c_centoref08_read
      simp [hlt, hy, e1, show ¬ s.length ≤ k by omega, updF_app, splice]
      exact frz_tup ⟨frz_T0, frz_bare rfl, frz_bare rfl, trivial⟩
    · have c95' : ¬ (y.toNat : Int) = 95 := fun h => c95 ((u8_inj (b := 95)).1 h)
      rw [if_neg (by simpa using c95)] at hM
      by_cases c123 : y = 123
      · subst c123
        rw [if_pos (by decide), List.drop_drop] at hM
        obtain ⟨t, n, hF, hS⟩ := stQ_of hd hT hs (k + 1) (by omega)
        generalize structM numQ (txKids (treeM numQ d) 125) (s.drop (k + 1)) = G at hM hF hS
        subst hM
        refine ⟨t, n, fun h => ⟨(hF h).1, by rw [(hF h).2, Nat.add_assoc]⟩, spec_of t_centoref08_read (by simp) fun w0 I0 => ?_⟩
        unfold c_centoref08_read
        simp [hlt, hy, e1, show ¬ s.length ≤ k by omega, show ¬ (d : Int) + 1 = 0 by omega, updF_app, splice]
        refine sc_call hS rfl ?_
        simp [updF_app, splice]
        exact frz_tup ⟨frz_bare rfl, frz_bare rfl, frz_bare rfl, trivial⟩
      · have c123' : ¬ (y.toNat : Int) = 123 := fun h => c123 ((u8_inj (b := 123)).1 h)
        rw [if_neg (by simpa using c123)] at hM
        by_cases hl : letV y < 2
        · rw [if_pos hl] at hM hlet
          subst hM
          refine ⟨T0, 0, (fun h => by cases h), spec_of t_centoref08_read (by simp) fun w0 I0 => ?_⟩
          unfold c_centoref08_read
          simp [hlt, hy, c95', c123', show ¬ s.length ≤ k by omega, show ¬ (d : Int) + 1 = 0 by omega, updF_app, splice]
          refine sc_call hlet rfl ?_
          simp [updF_app, splice]
          exact frz_tup ⟨frz_T0, frz_bare rfl, frz_bare rfl, trivial⟩
        · rw [if_neg hl] at hM hlet
          obtain ⟨l1, l2, l3⟩ := letS_V hl
          generalize hK : letV y = K at hM hlet hl l1 l2 l3
          by_cases hl2 : k + 1 < s.length
          · have hx2 : s[k + 1]? = some s[k + 1] := List.getElem?_eq_getElem hl2
            have hdr2 := drop_get hl2
            rw [List.drop_drop, List.drop_drop] at hM
            have eB : eatB (s.drop (k + 1)) 91 = (s[k + 1] == 91) := by rw [hdr2]; rfl
            rw [eB] at hM
            generalize hz : s[k + 1] = z at *
            by_cases c91 : z = 91
            · subst c91
              rw [if_pos (by decide)] at hM
              obtain ⟨n, hn1, hn2⟩ := rqkids_spec (D := isD K) (d := d) (fun _ => hT) hs (e := 93) (k := k + 2) (by omega)
              have eR : rqK (isD K) d = if isD K = true then numT numQ else treeM numQ d := rfl
              rw [eR] at hn1 hn2
              have eD : isD K = decide (K ≤ 7) := by
                unfold isD
                simp [l1]
              generalize txKids (if isD K = true then numT numQ else treeM numQ d) 93 (s.drop (k + 2)) = G at hM hn1 hn2
              rw [eD] at hn1
              subst hM
              refine ⟨.mk K [] G.1, n, fun h => ⟨rfl, by rw [hn2 h, Nat.add_assoc]⟩, spec_of t_centoref08_read (by simp) fun w0 I0 => ?_⟩
              unfold c_centoref08_read
              simp [hlt, hy, c95', c123', show ¬ s.length ≤ k by omega, show ¬ (d : Int) + 1 = 0 by omega, updF_app, splice]
              refine sc_call hlet rfl ?_
              simp [hlt, hl2, hz, e1, e2, e3, show ¬ K = 0 by omega, show ¬ (s.length : Int) ≤ (k : Int) + 1 by omega, show (0 : Int) ≤ (k : Int) + 1 by omega, updF_app, splice]
              refine sc_call hn1 rfl ?_
              simp [updF_app, splice]
              exact frz_tup ⟨frz_agg ⟨frz_bare rfl, frz_sl, frz_bare rfl, trivial⟩, frz_bare rfl, frz_bare rfl, trivial⟩
            · have c91' : ¬ (z.toNat : Int) = 91 := fun h => c91 ((u8_inj (b := 91)).1 h)
              rw [if_neg (by simpa using c91)] at hM
              subst hM
              refine ⟨T0, 0, (fun h => by cases h), spec_of t_centoref08_read (by simp) fun w0 I0 => ?_⟩
              unfold c_centoref08_read
              simp [hlt, hy, c95', c123', show ¬ s.length ≤ k by omega, show ¬ (d : Int) + 1 = 0 by omega, updF_app, splice]
              refine sc_call hlet rfl ?_
              simp [hlt, hl2, hz, c91', e1, e2, e3, show ¬ K = 0 by omega, show ¬ (s.length : Int) ≤ (k : Int) + 1 by omega, show (0 : Int) ≤ (k : Int) + 1 by omega, updF_app, splice]
              exact frz_tup ⟨frz_T0, frz_bare rfl, frz_bare rfl, trivial⟩
          · rw [List.drop_drop, List.drop_of_length_le (i := k + 1) (by omega), if_neg (by simp)] at hM
            subst hM
            refine ⟨T0, 0, (fun h => by cases h), spec_of t_centoref08_read (by simp) fun w0 I0 => ?_⟩
            unfold c_centoref08_read
            simp [hlt, hy, c95', c123', show ¬ s.length ≤ k by omega, show ¬ (d : Int) + 1 = 0 by omega, updF_app, splice]
            refine sc_call hlet rfl ?_
            simp [e1, show ¬ K = 0 by omega, show (s.length : Int) ≤ (k : Int) + 1 by omega, updF_app, splice]
            exact frz_tup ⟨frz_T0, frz_bare rfl, frz_bare rfl, trivial⟩
  · have hnil : s.drop k = [] := List.drop_of_length_le (by omega)
    rw [hnil] at hM
    have hM2 : M = (T0, false, 0) := hM
    clear hM
    subst hM2
    refine ⟨T0, 0, (fun h => by cases h), spec_of t_centoref08_read (by simp) fun w0 I0 => ?_⟩
    unfold c_centoref08_read
    simp [hlt, show s.length ≤ k by omega, updF_app, splice]
    exact frz_tup ⟨frz_T0, frz_bare rfl, frz_bare rfl, trivial⟩
theorem rdQ_all : ∀ d : Nat, d ≤ 1000 → RdQ d
  | 0, _ => rdQ_zero
  | d + 1, h => rdQ_succ (by omega) (rdQ_all d (by omega))
end Go.Proofs.YtgimfagpolbelaaDoor

/-
  The document's Parse; both readers agree; the example.
-/
namespace Go.Proofs.YtgimfagpolbelaaDoor
set_option linter.unusedVariables false
set_option linter.unusedSimpArgs false
open Go Go.G Go.Proofs Go.PL
theorem rparse_spec {s : List UInt8} (hs : s.length ≤ 1000000000) : G.Spec Tryd.prog 13 [S s] (.tup [tX (parsed numQ s), bv (okP numQ s)]) := by
  obtain ⟨t, n, hF, hT⟩ := rdQ_all 64 (by omega) hs 0 (by omega)
  rw [List.drop_zero] at hF hT
  refine spec_of t_centoref08_Parse (by simp) fun w0 I0 => ?_
  have hwf : (treeM numQ 64 s).2.1 = true → wfT (treeM numQ 64 s).1 := fun h => by
    obtain ⟨h1, h2, h3⟩ := treeM_to numQ_R 64 s _ _ (triple h)
    refine proper_wf 64 _ h3 ?_
    rw [← h1]
    simp; omega
  unfold parsed okP
  generalize treeM numQ 64 s = M at hT hF hwf
  unfold c_centoref08_Parse
  simp
  refine sc_call hT rfl ?_
  cases hb : M.2.1 with
  | false =>
    simp
    refine sc_call_off rfl ?_
    simp [splice, updF_app]
    exact frz_tup ⟨frz_T0, frz_bare rfl, trivial⟩
  | true =>
    obtain ⟨rfl, rfl⟩ := hF hb
    by_cases hl : M.2.2 = s.length
    · have hR := rRight_spec _ (hwf hb) 64 (by omega)
      simp [hl]
      rw [sc_guard]
      simp
      refine sc_call hR rfl ?_
      cases hr : rightT 64 M.1 with
      | true =>
        simp [splice, updF_app]
        exact frz_tup ⟨frz_bare rfl, frz_bare rfl, trivial⟩
      | false =>
        simp [splice, updF_app]
        exact frz_tup ⟨frz_T0, frz_bare rfl, trivial⟩
    · have hl2 : ¬ (M.2.2 : Int) = s.length := by omega
      simp [hl, hl2]
      refine sc_call_off rfl ?_
      simp [splice, updF_app]
      exact frz_tup ⟨frz_T0, frz_bare rfl, trivial⟩
/-- Both read the same. -/
theorem ok_same (s : List UInt8) : okP numQ s = okP numP s ∧ parsed numQ s = parsed numP s := by
  have key : ∀ {num num' : List UInt8 → Nat × Bool × Nat}, NumR num → NumR num' → okP num s = true → okP num' s = true ∧ parsed num s = parsed num' s := fun {num num'} h h' ho => by
    unfold okP at ho
    simp only [Bool.and_eq_true, decide_eq_true_eq] at ho
    obtain ⟨⟨h1, h2⟩, h3⟩ := ho
    have e := triple h1
    rw [h2] at e
    have e' := (read_whole h h' e).1
    unfold parsed okP
    rw [e', e]
    simp [h3]
  cases hP : okP numP s with
  | true => 
    obtain ⟨h1, h2⟩ := key numP_R numQ_R hP
    exact ⟨h1, h2.symm⟩
  | false =>
    cases hQ : okP numQ s with
    | true =>
      have := (key numQ_R numP_R hQ).1
      rw [hP] at this; cases this
    | false =>
      refine ⟨rfl, ?_⟩
      unfold parsed
      rw [if_neg (by rw [hQ]; simp), if_neg (by rw [hP]; simp)]
/-- What is read is right, and its text is what was read. -/
theorem parsed_show {num : List UInt8 → Nat × Bool × Nat} (h : NumR num) {s : List UInt8} (ho : okP num s = true) : showT (parsed num s) = s ∧ proper 64 (parsed num s) ∧ rightT 64 (parsed num s) = true := by
  have hp : parsed num s = (treeM num 64 s).1 := by unfold parsed; rw [if_pos ho]
  unfold okP at ho
  simp only [Bool.and_eq_true, decide_eq_true_eq] at ho
  obtain ⟨⟨h1, h2⟩, h3⟩ := ho
  have e := triple h1
  rw [h2] at e
  obtain ⟨_, e2, e3⟩ := read_whole h h e
  rw [hp]
  exact ⟨e2, e3, h3⟩
/-- A proper tree's text is read as it. -/
theorem parsed_of {num : List UInt8 → Nat × Bool × Nat} (h : NumR num) {t : T} (hp : proper 64 t) (hr : rightT 64 t = true) : okP num (showT t) = true ∧ parsed num (showT t) = t := by
  have e := treeM_of h 64 t [] hp
  rw [List.append_nil] at e
  have : okP num (showT t) = true := by
    unfold okP
    rw [e]
    simp [hr]
  refine ⟨this, ?_⟩
  unfold parsed
  rw [if_pos this, e]
end Go.Proofs.YtgimfagpolbelaaDoor

/-
  Chapter 27, plain: trees of right edits are right; edits of right trees are few.
-/
namespace Go.PL
set_option linter.unusedVariables false
set_option linter.unusedSimpArgs false
theorem right_null (d : Nat) : rightT d T0 = true := by rw [rightT_mk]; simp
theorem right_to {d : Nat} {k : Int} {w : List Int} {l : List T} (h0 : k ≠ 0) (h10 : k ≠ 10) (hb : tooBig k d w.length l.length = false) (h : ∀ t, t ∈ l → rightT (d - 1) t = true ∧ kidOk k t = true) : rightT d (.mk k w l) = true := by
  rw [rightT_mk, if_neg h0, if_neg h10, if_neg (by rw [hb]; simp)]
  exact rightL_all.2 h
end Go.PL

/-
  Chapter 27, plain: how many words few parts are.
-/
namespace Go.PL
set_option linter.unusedVariables false
set_option linter.unusedSimpArgs false
mutual
def partsT : T → Int
  | .mk _ w l => 1 + w.length + partsL l
def partsL : List T → Int
  | [] => 0
  | t :: l => partsT t + partsL l
end
@[simp] theorem partsT_mk (k : Int) (w : List Int) (l : List T) : partsT (.mk k w l) = 1 + w.length + partsL l := by rw [partsT]
@[simp] theorem partsL_nil : partsL [] = 0 := by rw [partsL]
@[simp] theorem partsL_cons (t : T) (l : List T) : partsL (t :: l) = partsT t + partsL l := by rw [partsL]
theorem partsL_len {l : List T} (h : ∀ t, t ∈ l → 1 ≤ partsT t) : (l.length : Int) ≤ partsL l := by
  induction l with
  | nil => simp
  | cons t l ih =>
    have := h t (by simp)
    have := ih fun u hu => h u (by simp [hu])
    simp
    omega
theorem partsT_pos : ∀ t : T, 1 ≤ partsT t := by
  refine T.ind fun k w l ih => ?_
  have := partsL_len ih
  simp
  omega
theorem partsL_pos (l : List T) : (l.length : Int) ≤ partsL l := partsL_len fun t _ => partsT_pos t
/-! ### what is left -/
theorem parts_shallow : ∀ (t : T) (d : Nat) (n : Int), 0 ≤ shallow d n t → partsT t ≤ n - shallow d n t := by
  refine T.ind fun k w l ih d n h => ?_
  have hl : ∀ (m : List T) (d : Nat) (n : Int), (∀ t, t ∈ m → t ∈ l) → 0 ≤ shallowL d n m → partsL m ≤ n - shallowL d n m := by
    intro m
    induction m with
    | nil => intro d n _ _; simp
    | cons t m ihm =>
      intro d n hin h
      rw [shallowL_cons] at h ⊢
      split at h
      · omega
      · rename_i hc
        rw [if_neg hc]
        have h1 := ihm d (shallow d n t) (fun u hu => hin u (by simp [hu])) h
        have h3 : 0 ≤ shallow d n t := by
          cases m with
          | nil => simpa using h
          | cons u m =>
            rw [shallowL_cons] at h
            split at h <;> omega
        have := ih t (hin t (by simp)) d n h3
        simp
        omega
  rw [shallow_mk] at h ⊢
  split at h
  · omega
  rename_i hc
  rw [if_neg hc]
  have := hl l (d - 1) _ (fun t ht => ht) h
  simp
  omega
end Go.PL

/-
  Plain: how long a tree's text is; atoms' texts are no tree's; how deep a text may be.
-/
namespace Go.PL
set_option linter.unusedVariables false
set_option linter.unusedSimpArgs false
theorem join_sum {α : Type} (f : α → List UInt8) (g : α → Int) : ∀ (l : List α), (∀ x, x ∈ l → ((f x).length : Int) + 1 ≤ g x) → ((joinC (l.map f)).length : Int) ≤ (l.map g).sum
  | [], _ => by simp
  | [x], h => by have := h x (by simp); simp; omega
  | x :: y :: l, h => by
    have h1 := h x (by simp)
    have h2 := join_sum f g (y :: l) (fun z hz => h z (by simp [List.mem_cons] at hz ⊢; exact .inr hz))
    have e1 : joinC ((x :: y :: l).map f) = f x ++ 44 :: joinC ((y :: l).map f) := by rw [List.map_cons, joinC_cons (by simp)]
    have e2 : ((x :: y :: l).map g).sum = g x + ((y :: l).map g).sum := by rw [List.map_cons, List.sum_cons]
    rw [e1, e2]
    simp only [List.length_append, List.length_cons]
    omega
theorem partsL_sum : ∀ l : List T, (l.map fun t => 20 * partsT t).sum = 20 * partsL l
  | [] => by simp
  | t :: l => by
    rw [List.map_cons, List.sum_cons, partsL_sum l, partsL_cons]
    omega
theorem hexs_sum : ∀ w : List Int, (w.map fun _ => (17 : Int)).sum = 17 * w.length
  | [] => by simp
  | x :: w => by
    rw [List.map_cons, List.sum_cons, hexs_sum w, List.length_cons]
    omega
theorem showT_len : ∀ (t : T) (D : T → Prop), (∀ k w l, D (.mk k w l) → (∀ x, x ∈ w → x < 18446744073709551616) ∧ ∀ c, c ∈ l → D c) → D t → ((showT t).length : Int) + 1 ≤ 20 * partsT t := by
  refine T.ind fun k w l ih D hD ht => ?_
  obtain ⟨h1, h2⟩ := hD k w l ht
  have hk := join_sum showT (fun t => 20 * partsT t) l (fun c hc => ih c hc D hD (h2 c hc))
  rw [partsL_sum] at hk
  have hx : ∀ x : Int, x < 18446744073709551616 → (hexS x.toNat).length ≤ 16 := fun x hx => hexS_len 16 _ (by omega) (by omega)
  have hw := join_sum (fun x : Int => hexS x.toNat) (fun _ => 17) w (fun x hx' => by have := hx x (h1 x hx'); omega)
  rw [hexs_sum] at hw
  have hp := partsL_pos l
  rw [showT_mk, partsT_mk]
  split
  · rename_i h
    have : (hexS (w.headD 0).toNat).length ≤ 16 := by
      cases w with
      | nil => exact hx 0 (by omega)
      | cons x w => exact hx x (h1 x (by simp))
    omega
  · split
    · split
      · simp; omega
      · simp only [List.length_cons, List.length_append, List.length_nil]; omega
    · split
      · simp only [List.length_cons, List.length_append, List.length_nil]; omega
      · simp; omega
/-- An atom's text is no tree's. -/
theorem atom_none {d : Nat} {t : T} (h : proper d t) (n : Nat) : showT t ≠ hexS n := by
  intro e
  have hh := hexS_all n
  rw [← e] at hh
  have h95 : ¬ ∃ d, hexV 95 = some d := by rintro ⟨d, h⟩; revert h; decide +revert
  have h123 : ¬ ∃ d, hexV 123 = some d := by rintro ⟨d, h⟩; revert h; decide +revert
  have h91 : ¬ ∃ d, hexV 91 = some d := by rintro ⟨d, h⟩; revert h; decide +revert
  have t0 : t = T0 → False := fun e => by
    subst e
    exact h95 (hh 95 (by rw [showT_mk]; simp))
  cases d with
  | zero => exact t0 h
  | succ d =>
    rcases h with h | ⟨h1, _, _⟩ | ⟨h1, h2, h3, h4⟩
    · exact t0 h
    · obtain ⟨k, w, l⟩ := t
      simp at h1
      subst h1
      exact h123 (hh 123 (by rw [showT_mk, if_neg (by omega), if_pos rfl]; simp))
    · obtain ⟨k, w, l⟩ := t
      simp at h1 h2
      exact h91 (hh 91 (by rw [showT_mk, if_neg (by omega), if_neg (by omega), if_pos ⟨h1, h2⟩]; simp))
theorem proper_mono : ∀ (d : Nat) (t : T), proper d t → proper (d + 1) t
  | 0, t, h => .inl h
  | d + 1, t, h => by
    rcases h with h | ⟨h1, h2, h3⟩ | ⟨h1, h2, h3, h4⟩
    · exact .inl h
    · exact .inr (.inl ⟨h1, h2, fun c hc => proper_mono d c (h3 c hc)⟩)
    · refine .inr (.inr ⟨h1, h2, h3, fun c hc => ?_⟩)
      have := h4 c hc
      split
      · rename_i hD; rwa [if_pos hD] at this
      · rename_i hD; rw [if_neg hD] at this; exact proper_mono d c this
theorem proper_le {d e : Nat} (h : d ≤ e) {t : T} (ht : proper d t) : proper e t := by
  induction h with
  | refl => exact ht
  | step _ ih => exact proper_mono _ _ ih
/-! ### nests -/
def nestT : Nat → T
  | 0 => T0
  | m + 1 => .mk 8 [] [nestT m]
def nestS : Nat → List UInt8
  | 0 => [95]
  | m + 1 => 112 :: 91 :: (nestS m ++ [93])
theorem show_nest : ∀ m, showT (nestT m) = nestS m
  | 0 => by show showT T0 = [95]; rw [showT_mk]; simp
  | m + 1 => by
    rw [nestT, showT_mk, if_neg (by omega), if_neg (by omega), if_pos (by omega)]
    simp [show_nest m, nestS]
    rfl
theorem proper_nest : ∀ (m d : Nat), m ≤ d → proper d (nestT m)
  | 0, d, _ => by cases d with | zero => rfl | succ d => exact .inl rfl
  | m + 1, 0, h => by omega
  | m + 1, d + 1, h => .inr (.inr ⟨by simp [nestT], by simp [nestT], by simp [nestT], fun c hc => by
      simp [nestT] at hc
      subst hc
      have : isD (nestT (m + 1)).kind = false := by simp [nestT, isD]
      rw [this]
      exact proper_nest m d (by omega)⟩)
theorem nest_proper : ∀ (m d : Nat), proper d (nestT m) → m ≤ d
  | 0, d, _ => by omega
  | m + 1, 0, h => by
    have : nestT (m + 1) = T0 := h
    simp [nestT, T0] at this
  | m + 1, d + 1, h => by
    rcases h with h | ⟨h1, _, _⟩ | ⟨h1, h2, h3, h4⟩
    · simp [nestT, T0] at h
    · simp [nestT] at h1
    · have := h4 (nestT m) (by simp [nestT])
      have hD : isD (nestT (m + 1)).kind = false := by simp [nestT, isD]
      rw [hD] at this
      have := nest_proper m d (by simpa using this)
      omega
theorem right_nest : ∀ (m d : Nat), m ≤ d → rightT d (nestT m) = true
  | 0, d, _ => by show rightT d T0 = true; exact right_null d
  | m + 1, 0, h => by omega
  | m + 1, d + 1, h => by
    have ih := right_nest m d (by omega)
    refine right_to (by omega) (by omega) (by simp [tooBig]) fun t ht => ?_
    simp at ht
    subst ht
    refine ⟨ih, ?_⟩
    cases m with
    | zero => rfl
    | succ m => simp [kidOk, isData, nestT]
/-- What is read at 64, of what is read at 127. -/
theorem nest_read {num : List UInt8 → Nat × Bool × Nat} (h : NumR num) {m : Nat} (hm : m ≤ 127) {t : T} (ht : proper 64 t) (hs : showT t = nestS m) : m ≤ 64 := by
  have e1 := treeM_of h 127 t [] (proper_le (by omega) ht)
  have e2 := treeM_of h 127 (nestT m) [] (proper_nest m 127 hm)
  rw [hs] at e1
  rw [show_nest] at e2
  rw [e1] at e2
  have : t = nestT m := by simpa using e2
  subst this
  exact nest_proper m 64 ht
end Go.PL

/-
  Chapter 8: the laws.
-/
namespace Go.Proofs.YtgimfagpolbelaaDoor
set_option linter.unusedVariables false
set_option linter.unusedSimpArgs false
open Go Go.G Go.Proofs Go.PL
def exT : T := .mk 1 [1, 255] [T0, .mk 4 [] [.mk 10 [2] []]]
abbrev exS : List UInt8 := [123, 49, 44, 102, 102, 124, 95, 44, 121, 91, 50, 93, 125]
theorem ex_wf : wfT exT := by
  have h2 : wfT (.mk 10 [2] []) := wfT_iff.2 ⟨by simp [i64R], by simp [u64R], by simp, by simp, by simp⟩
  have h4 : wfT (.mk 4 [] [.mk 10 [2] []]) := wfT_iff.2 ⟨by simp [i64R], by simp, by simp, by simp, fun c hc => by simp at hc; rw [hc]; exact h2⟩
  have h0 : wfT T0 := wfT_iff.2 ⟨by simp [i64R], by simp, by simp, by simp, by simp⟩
  exact wfT_iff.2 ⟨by simp [exT, i64R], by simp [exT, u64R], by simp [exT], by simp [exT], fun c hc => by
    simp [exT] at hc
    rcases hc with rfl | rfl
    · exact h0
    · exact h4⟩
theorem ex_right : rightT 64 exT = true := by decide +kernel
theorem ex_show : showT exT = exS := by
  have e255 : hexS 255 = [102, 102] := by
    rw [hexS_ge (by omega), hexS_lt (by omega)]; rfl
  have e1 : hexS 1 = [49] := hexS_lt (by omega)
  have e2 : hexS 2 = [50] := hexS_lt (by omega)
  have s0 : showT T0 = [95] := by rw [showT_mk]; simp
  have s2 : showT (.mk 10 [2] []) = [50] := by rw [showT_mk]; simp [e2]
  have s4 : showT (.mk 4 [] [.mk 10 [2] []]) = [121, 91, 50, 93] := by
    rw [showT_mk, if_neg (by omega), if_neg (by omega), if_pos (by omega)]
    simp [s2]
    rfl
  rw [exT, showT_mk, if_neg (by omega), if_pos rfl]
  simp [s0, s4, e255, e1, joinC]
theorem ex_read : okP numP exS = true ∧ parsed numP exS = exT := by
  have := parsed_of numP_R (right_proper 64 exT ex_wf ex_right (by simp [exT])) ex_right
  rwa [ex_show] at this
theorem awake08_spec : G.Spec Tryd.prog 8 [] (bv true) := by
  have hP := parse_spec (s := exS) (by simp)
  rw [ex_read.1, ex_read.2] at hP
  have hS := print_spec ex_wf (by rw [ex_show]; simp)
  rw [ex_show] at hS
  refine spec_of t_centolaw08_awake (by simp) fun w0 I0 => ?_
  unfold c_centolaw08_awake
  simp
  refine sc_call hP rfl ?_
  simp [updF_app, exT]
  rw [sc_guard]
  simp
  refine sc_call hS rfl ?_
  simp [strA]
  exact frz_bool rfl
theorem few_len {t : T} (hw : wfT t) (hf : fewT t = true) : (showT t).length ≤ 60000 := by
  unfold fewT at hf
  simp at hf
  have h1 := parts_shallow t 80 3000 hf
  have h2 := showT_len t wfT (fun k w l h => ⟨fun x hx => ((wfT_iff.1 h).w x hx).2, fun c hc => (wfT_iff.1 h).ks c hc⟩) hw
  omega
theorem TextPrints_spec {t : T} (hw : wfT t) : G.Spec Tryd.prog 3 [tX t] (bv true) := by
  have hF := few_spec hw
  have hR := rRight_spec t hw 64 (by omega)
  refine spec_of t_centolaw08_TextPrints (by simp) fun w0 I0 => ?_
  unfold c_centolaw08_TextPrints
  simp
  refine sc_call hF rfl ?_
  cases hf : fewT t with
  | false =>
    simp
    refine sc_call_off rfl ?_
    simp
    refine sc_call awake08_spec rfl ?_
    simp
    exact frz_bool rfl
  | true =>
    simp
    rw [sc_guard]
    simp
    refine sc_call hR rfl ?_
    cases hr : rightT 64 t with
    | false =>
      simp
      refine sc_call awake08_spec rfl ?_
      simp
      exact frz_bool rfl
    | true =>
      have hlen := few_len hw hf
      have hS := print_spec hw (by omega)
      have hRS : RPr t := rPrint_spec t hw 64 hr (by omega)
      have hP := parse_spec (s := showT t) (by omega)
      simp
      refine sc_call hS rfl ?_
      simp
      refine sc_call hRS rfl ?_
      simp [strA]
      refine sc_call hP rfl ?_
      by_cases h10 : t.kind = 10
      · have hno : okP numP (showT t) = false := by
          rw [Bool.eq_false_iff]
          intro ho
          obtain ⟨h1, h2, _⟩ := parsed_show numP_R ho
          obtain ⟨k, w, l⟩ := t
          simp at h10
          subst h10
          rw [rightT_mk] at hr
          simp at hr
          have : showT (.mk 10 w l) = hexS (w.headD 0).toNat := by rw [showT_mk]; simp [hr.1]
          rw [this] at h1 h2
          exact atom_none h2 _ h1
        rw [hno]
        simp [h10, updF_app]
        rw [sc_guard]
        simp
        refine sc_call awake08_spec rfl ?_
        simp
        exact frz_bool rfl
      · obtain ⟨h1, h2⟩ := parsed_of numP_R (right_proper 64 t hw hr h10) hr
        rw [h1, h2]
        have hSame := rTSame_spec t hw t
        rw [sameB_iff.2 rfl] at hSame
        simp [h10, updF_app]
        rw [sc_guard]
        simp
        refine sc_call hSame rfl ?_
        simp
        rw [sc_guard]
        simp
        refine sc_call awake08_spec rfl ?_
        simp
        exact frz_bool rfl
theorem textParses_k1 {s : List UInt8} (hs : s.length ≤ 600) {w0 : World} {I0 : Nat → Prop} {n0 : Nat} :
    WPC (cx Tryd.prog w0 I0 n0) k1_centolaw08_TextParses (RetC Tryd.prog [.tmp 2] (bv true)) ⟨lk [(0, S s)], lkH []⟩ := by
  have hP := parse_spec (s := s) (by omega)
  have hR := rparse_spec (s := s) (by omega)
  obtain ⟨q1, q2⟩ := ok_same s
  rw [q1, q2] at hR
  have hwf : wfT (parsed numP s) := by
    unfold parsed
    split
    · rename_i ho
      have hp : parsed numP s = (treeM numP 64 s).1 := by unfold parsed; rw [if_pos ho]
      obtain ⟨h1, h2, h3⟩ := parsed_show numP_R ho
      rw [hp] at h1 h2
      exact proper_wf 64 _ h2 (by rw [h1]; omega)
    · exact wfT_iff.2 ⟨by simp [i64R], by simp, by simp, by simp, by simp⟩
  have hSame := rTSame_spec _ hwf (parsed numP s)
  rw [sameB_iff.2 rfl] at hSame
  rw [k1_centolaw08_TextParses.eq_1]
  simp
  refine sc_call hP rfl ?_
  simp [updF_app]
  refine sc_call hR rfl ?_
  simp [updF_app]
  refine sc_call hSame rfl ?_
  cases ho : okP numP s with
  | false =>
    simp
    refine sc_call_off rfl ?_
    simp
    rw [sc_guard]
    simp
    refine sc_call awake08_spec rfl ?_
    simp
    exact frz_bool rfl
  | true =>
    obtain ⟨h1, _, _⟩ := parsed_show numP_R ho
    have hS := print_spec hwf (by rw [h1]; omega)
    rw [h1] at hS
    simp [updF_app]
    rw [sc_guard]
    simp
    refine sc_call hS rfl ?_
    simp [strA]
    rw [sc_guard]
    simp
    refine sc_call awake08_spec rfl ?_
    simp
    exact frz_bool rfl
theorem TextParses_spec (s : List UInt8) : G.Spec Tryd.prog 4 [S s] (bv true) := by
  refine spec_of t_centolaw08_TextParses (by simp) fun w0 I0 => ?_
  unfold c_centolaw08_TextParses
  by_cases h : 600 < s.length
  · simp [show (600 : Int) < s.length by omega, show 600 ≤ s.length by omega, show (600 : Int) ≤ s.length by omega]
    exact textParses_k1 (by simp; omega)
  · simp [show ¬ (600 : Int) < s.length by omega]
    exact textParses_k1 (by omega)
theorem nestS_len : ∀ m, (nestS m).length = 3 * m + 1
  | 0 => rfl
  | m + 1 => by simp [nestS, nestS_len m]; omega
theorem nest_step : ∀ m, nestS (m + 1) = [112, 91] ++ nestS m ++ [93] := fun m => by simp [nestS]
theorem deep_l1 {w0 : World} {I0 : Nat → Prop} {n0 : Nat} {Q : Exit → Sta → Prop} {m : Nat} (hm : m ≤ 127) (hq : Q (.exit 0) ⟨lk [(0, iv m), (3, S (nestS m)), (4, iv m), (11, bv false)], lkH []⟩) : ∀ (j i : Nat), i + j = m →
    LoopC (cx Tryd.prog w0 I0 n0) l1_centolaw08_TextDeep Q ⟨lk [(0, iv m), (3, S (nestS i)), (4, iv i)], lkH []⟩ := by
  intro j
  induction j with
  | zero =>
    intro i hi
    have : i = m := by omega
    subst this
    refine loopC_once mixed l1_centolaw08_TextDeep.eq_1 ?_
    simp
    exact hq
  | succ j ih =>
    intro i hi
    have e1 : IntKind.i64.wrap ((i : Int) + 1) = ((i + 1 : Nat) : Int) := by rw [i64_same (by omega) (by omega)]; omega
    have hl := nestS_len i
    have hgo := ih (i + 1) (by omega)
    rw [nest_step] at hgo
    refine loopC_once mixed l1_centolaw08_TextDeep.eq_1 ?_
    simp [show i < m by omega, show (i : Int) < m by omega, str_add (l := [112, 91]) (m := nestS i) (by simp; omega), str_add (l := 112 :: 91 :: nestS i) (m := [93]) (by simp; omega), e1]
    simpa using hgo
theorem TextDeep_spec (n : Int) : G.Spec Tryd.prog 5 [iv n] (bv true) := by
  refine spec_of t_centolaw08_TextDeep (by simp) fun w0 I0 => ?_
  unfold c_centolaw08_TextDeep
  obtain ⟨m, hm⟩ : ∃ m : Nat, (m : Int) = n % 128 := ⟨(n % 128).toNat, by omega⟩
  have hm127 : m ≤ 127 := by omega
  have hl := nestS_len m
  have hP := parse_spec (s := nestS m) (by omega)
  have hok : okP numP (nestS m) = decide (m ≤ 64) := by
    by_cases h : m ≤ 64
    · have := (parsed_of numP_R (proper_nest m 64 h) (right_nest m 64 h)).1
      rw [show_nest] at this
      rw [this]; simp [h]
    · cases ho : okP numP (nestS m) with
      | false => simp [h]
      | true =>
        obtain ⟨h1, h2, _⟩ := parsed_show numP_R ho
        exact absurd (nest_read numP_R hm127 h2 h1) h
  rw [hok] at hP
  simp [i64_and127, ← hm]
  refine deep_l1 hm127 ?_ m 0 (by omega)
  simp
  refine sc_call hP rfl ?_
  by_cases h : m ≤ 64
  · simp [h, show (m : Int) ≤ 64 by omega, updF_app]
    rw [sc_guard]
    simp
    refine sc_call awake08_spec rfl ?_
    simp
    exact frz_bool rfl
  · simp [h, show ¬ (m : Int) ≤ 64 by omega, updF_app]
    rw [sc_guard]
    simp
    refine sc_call awake08_spec rfl ?_
    simp
    exact frz_bool rfl
end Go.Proofs.YtgimfagpolbelaaDoor

/-
  What an argument holds: trees and edits out of readings.
-/
namespace Go.Proofs.YtgimfagpolbelaaDoor
set_option linter.unusedVariables false
set_option linter.unusedSimpArgs false
open Go Go.G Go.Proofs Go.PL Go.RowKit
theorem lit_i64 {m : Int} (h : (Lit.int .i64 m).wf = true) : i64R m := by
  simp [Lit.wf, IntKind.min, IntKind.max, IntKind.bits, IntKind.signed] at h
  unfold i64R; omega
theorem lit_u64 {m : Int} (h : (Lit.int .u64 m).wf = true) : u64R m := by
  simp [Lit.wf, IntKind.min, IntKind.max, IntKind.bits, IntKind.signed] at h
  unfold u64R; omega
theorem und_int' : Tryd.prog.underlying 3 = some (.int .i64) := by kernel_rfl
theorem und_u64' : Tryd.prog.underlying 40 = some (.int .u64) := by kernel_rfl
theorem hasI {n : Nat} {b : List A} (h : Has Tryd.prog n 3 b) : ∃ m, i64R m ∧ b = [iv m] := by
  cases n with
  | zero => exact h.elim
  | succ n =>
    unfold Has at h
    rw [und_int'] at h
    obtain ⟨m, hm, rfl⟩ := h
    exact ⟨m, lit_i64 hm, rfl⟩
theorem hasU {n : Nat} {b : List A} (h : Has Tryd.prog n 40 b) : ∃ m, u64R m ∧ b = [uv m] := by
  cases n with
  | zero => exact h.elim
  | succ n =>
    unfold Has at h
    rw [und_u64'] at h
    obtain ⟨m, hm, rfl⟩ := h
    exact ⟨m, lit_u64 hm, rfl⟩
theorem rowOf {α : Type} {xs : List A} {g : α → A} {R : α → Prop} (h : ∀ x, x ∈ xs → ∃ y, R y ∧ x.soft = g y) : ∃ l : List α, A.softL xs = l.map g ∧ l.length = xs.length ∧ ∀ y, y ∈ l → R y := by
  induction xs with
  | nil => exact ⟨[], rfl, rfl, fun y h => nomatch h⟩
  | cons x xs ih =>
    obtain ⟨y, hy, e⟩ := h x (by simp)
    obtain ⟨l, e2, e3, hl⟩ := ih fun z hz => h z (by simp [hz])
    refine ⟨y :: l, by simp [A.softL, e, e2], by simp [e3], fun z hz => ?_⟩
    rcases List.mem_cons.1 hz with rfl | hz
    · exact hy
    · exact hl z hz
theorem hasSl {P : Program} {t e : TypeId} {m : Nat} (u : P.underlying t = some (.slice e)) (hb : P.bytesOf e = m) {n : Nat} {b : List A} (h : Has P n t b) {α : Type} {g : α → A} {R : α → Prop} (hx : ∀ k b, k < n → Has P k e b → ∃ y, R y ∧ (mk P e b).soft = g y) :
    ∃ (f : Bool) (xs : List A) (l : List α), b = [.sl f xs] ∧ A.softL xs = l.map g ∧ l.length * m ≤ 140737488355328 ∧ ∀ y, y ∈ l → R y := by
  cases n with
  | zero => exact h.elim
  | succ n =>
    unfold Has at h
    rw [u] at h
    obtain ⟨f, xs, rfl, _, hz, hf, hx'⟩ := h
    rw [hb] at hz
    obtain ⟨l, e1, e2, hl⟩ := rowOf (g := g) (R := R) (xs := xs) fun x hxx => by
      obtain ⟨b, hb', rfl⟩ := hx' x hxx
      exact hx n b (by omega) hb'
    exact ⟨f, xs, l, rfl, e1, by rw [e2]; exact Nat.le_trans hz (by decide), hl⟩
theorem mk_int (b : List A) : mk Tryd.prog 3 b = b.headD .any := by unfold mk; rw [und_int']
theorem mk_u64 (b : List A) : mk Tryd.prog 40 b = b.headD .any := by unfold mk; rw [und_u64']
theorem hasWs {n : Nat} {b : List A} (h : Has Tryd.prog n 22 b) : ∃ (f : Bool) (xs : List A) (l : List Int), b = [.sl f xs] ∧ A.softL xs = l.map uv ∧ l.length * 8 ≤ 140737488355328 ∧ ∀ y, y ∈ l → u64R y :=
  hasSl (e := 40) (by kernel_rfl) (by kernel_rfl) h fun k b _ hb => by
    obtain ⟨m, h1, rfl⟩ := hasU hb
    exact ⟨m, h1, by rw [mk_u64]; rfl⟩
theorem und_tree : Tryd.prog.underlying 25 = some (.struct (Tryd.prog.fieldsOf 25)) := by kernel_rfl
theorem fld_tree : (Tryd.prog.fieldsOf 25).toList.map Field.type = [3, 22, 23] := by kernel_rfl
theorem mk_tree (b : List A) : mk Tryd.prog 25 b = .agg b := by unfold mk; rw [und_tree]
theorem hasTree : ∀ (n : Nat) (b : List A), Has Tryd.prog n 25 b → ∃ t, wfT t ∧ A.softL b = [iv t.kind, uws t.words, tKs t.kids] := by
  intro n
  induction n using Nat.strongRecOn with
  | ind n ih =>
    intro b h
    cases n with
    | zero => exact h.elim
    | succ n =>
      unfold Has at h
      rw [und_tree] at h
      simp only at h
      rw [hasL_types, fld_tree] at h
      obtain ⟨_, _, rfl, h1, _, _, rfl, h2, _, _, rfl, h3, rfl⟩ := h
      obtain ⟨k, hk, rfl⟩ := hasI h1
      obtain ⟨f, xs, w, rfl, e2, l2, r2⟩ := hasWs h2
      obtain ⟨f3, ys, l, rfl, e3, l3, r3⟩ := hasSl (m := 56) (e := 25) (g := tA) (R := wfT) (by kernel_rfl) (by kernel_rfl) h3 fun j b hj hb => by
        obtain ⟨t, ht, e⟩ := ih j (by omega) b hb
        exact ⟨t, ht, by rw [mk_tree]; simp only [A.soft, e]; rw [tA_eq]⟩
      refine ⟨.mk k w l, wfT_iff.2 ⟨hk, r2, l2, l3, r3⟩, ?_⟩
      simp only [List.cons_append, List.nil_append, List.append_nil, A.softL, A.soft, e2, e3]
      rfl
end Go.Proofs.YtgimfagpolbelaaDoor

/-
  Chapter 8: each law, whatever its arguments hold.
-/
namespace Go.Proofs.YtgimfagpolbelaaDoor
set_option linter.unusedVariables false
set_option linter.unusedSimpArgs false
open Go Go.G Go.Proofs Go.PL Go.RowKit
theorem und_str' : Tryd.prog.underlying 9 = some .string := by kernel_rfl
theorem hasS {n : Nat} {b : List A} (h : Has Tryd.prog n 9 b) : ∃ l, b = [S l] := by
  cases n with
  | zero => exact h.elim
  | succ n =>
    unfold Has at h
    rw [und_str'] at h
    obtain ⟨s, _, _, rfl⟩ := h
    exact ⟨s.data.toList, by unfold S; rw [str_eta]⟩
set_option maxRecDepth 100000 in
theorem said_textPrints (xs : List A) (h : ArgsHas Tryd.prog Tryd.f3.params.toList xs) : G.Spec Tryd.prog 3 xs (.v (.bool true)) := by
  have h : ArgsHas Tryd.prog [25] xs := h
  match xs, h with
  | [a], ⟨⟨n, b, h1, h2⟩, _⟩ =>
    obtain ⟨t, ht, et⟩ := hasTree _ _ h1
    rw [h2, mk_tree]
    exact (TextPrints_spec ht).soft (by simp only [A.softL, A.soft, et])
set_option maxRecDepth 100000 in
theorem said_textParses (xs : List A) (h : ArgsHas Tryd.prog Tryd.f4.params.toList xs) : G.Spec Tryd.prog 4 xs (.v (.bool true)) := by
  have h : ArgsHas Tryd.prog [9] xs := h
  match xs, h with
  | [a], ⟨⟨n, b, h1, h2⟩, _⟩ =>
    obtain ⟨l, rfl⟩ := hasS h1
    have e : mk Tryd.prog 9 [S l] = S l := by unfold mk; rw [und_str']; rfl
    rw [h2, e]
    exact TextParses_spec l
set_option maxRecDepth 100000 in
theorem said_textDeep (xs : List A) (h : ArgsHas Tryd.prog Tryd.f5.params.toList xs) : G.Spec Tryd.prog 5 xs (.v (.bool true)) := by
  have h : ArgsHas Tryd.prog [3] xs := h
  match xs, h with
  | [a], ⟨⟨n, b, h1, h2⟩, _⟩ =>
    obtain ⟨m, hm, rfl⟩ := hasI h1
    rw [h2, mk_int]
    exact TextDeep_spec m
end Go.Proofs.YtgimfagpolbelaaDoor
