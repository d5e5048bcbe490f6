/-
  Chapter 4's functions: the program's own.
-/
import Derived.Test.YtigdcnlhgelkaaaD04a
import Derived.Laws.Bits64b
namespace Go.Proofs.Ytigdcnlhgelkaaa
set_option linter.unusedVariables false
set_option linter.unusedSimpArgs false
open Go Go.G Go.Proofs

theorem u64_mask (i : Nat) (hi : i ≤ 64) {x : Int} (h0 : 0 ≤ x) (h1 : x < 18446744073709551616) : bits .and .u64 x (2 ^ i - 1) = x % 2 ^ i :=
  bits_mask .u64 64 (by decide) (fun n a b => u64_same a b) i hi x h0 h1
theorem u64_or (i : Nat) {x y : Int} (hx0 : 0 ≤ x) (hx : x % 2 ^ i = 0) (hx1 : x < 18446744073709551616) (hy0 : 0 ≤ y) (hy : y < 2 ^ i) (hy1 : y < 18446744073709551616) : bits .or .u64 x y = x + y :=
  bits_join .u64 64 (by decide) (fun n a b => u64_same a b) i x y hx0 hx hx1 hy0 hy hy1
theorem u64_or' (i : Nat) {x y : Int} (hx0 : 0 ≤ x) (hx : x < 2 ^ i) (hx1 : x < 18446744073709551616) (hy0 : 0 ≤ y) (hy : y % 2 ^ i = 0) (hy1 : y < 18446744073709551616) : bits .or .u64 x y = x + y := by
  have : bits .or .u64 x y = bits .or .u64 y x := by simp only [bits, BitVec.or_comm]
  rw [this, u64_or i hy0 hy hy1 hx0 hx hx1, Int.add_comm]
theorem u64_and4 {x : Int} (h0 : 0 ≤ x) (h1 : x < 18446744073709551616) : (bits .and .u64 x 4 = 0) ↔ x / 4 % 2 = 0 := by
  obtain ⟨a, rfl⟩ := Int.eq_ofNat_of_zero_le h0
  have h2 := bits_and_u64_nat a 4 (by omega) (by omega)
  have h3 : bits .and .u64 (a : Int) 4 = ((a &&& 4 : Nat) : Int) := h2
  rw [h3]
  have h4 : a &&& 4 = 4 * (a / 4 % 2) := by
    have e : a &&& 4 = (a % 8) &&& 4 := by
      rw [show a % 8 = a &&& 7 from (Nat.and_two_pow_sub_one_eq_mod a 3).symm, Nat.and_assoc]; rfl
    have d : ∀ r, r < 8 → r &&& 4 = 4 * (r / 4 % 2) := by decide
    rw [e, d _ (by omega)]
    omega
  rw [h4]
  omega

theorem i32_shr2 {w : Int} : (IntKind.i32.wrap (IntKind.u32.wrap w)) / 4 = offs w := by
  rw [IntKind.wrap_i32, IntKind.wrap_u32, offs]
  split <;> omega

theorem Decode_spec {w : Int} (h0 : 0 ≤ w) (h1 : w < 18446744073709551616) : G.Spec Try.prog 129 [uv w] (dec w).a := by
  refine spec_of t_ptr_Decode (by simp) fun w0 I0 => ?_
  unfold c_ptr_Decode
  simp [convA_int]
  have e3 : bits .and .u64 w 3 = w % 4 := u64_mask 2 (by decide) h0 h1
  have e1 : IntKind.i64.wrap (bits .and .u64 (w / 2 ^ min 32 IntKind.u64.bits) 65535) = w / 4294967296 % 65536 := by
    rw [show w / 2 ^ min 32 IntKind.u64.bits = w / 4294967296 from rfl, show bits .and .u64 (w / 4294967296) 65535 = w / 4294967296 % 65536 from u64_mask 16 (by decide) (by omega) (by omega)]
    exact i64_same (by omega) (by omega)
  have e2 : IntKind.i64.wrap (w / 2 ^ min 48 IntKind.u64.bits) = w / 281474976710656 := by
    rw [show w / 2 ^ min 48 IntKind.u64.bits = w / 281474976710656 from rfl]
    exact i64_same (by omega) (by omega)
  have e4 : IntKind.i64.wrap (bits .and .u64 (w / 2 ^ min 32 IntKind.u64.bits) 7) = w / 4294967296 % 8 := by
    rw [show w / 2 ^ min 32 IntKind.u64.bits = w / 4294967296 from rfl, show bits .and .u64 (w / 4294967296) 7 = w / 4294967296 % 8 from u64_mask 3 (by decide) (by omega) (by omega)]
    exact i64_same (by omega) (by omega)
  have e5 : IntKind.i64.wrap (w / 2 ^ min 35 IntKind.u64.bits) = w / 34359738368 := by
    rw [show w / 2 ^ min 35 IntKind.u64.bits = w / 34359738368 from rfl]
    exact i64_same (by omega) (by omega)
  have e6 : IntKind.i64.wrap (bits .and .u64 (w / 2 ^ min 3 IntKind.u64.bits) 536870911) = w / 8 % 536870912 := by
    rw [show w / 2 ^ min 3 IntKind.u64.bits = w / 8 from rfl, show bits .and .u64 (w / 8) 536870911 = w / 8 % 536870912 from u64_mask 29 (by decide) (by omega) (by omega)]
    exact i64_same (by omega) (by omega)
  have e7 : IntKind.i64.wrap (w / 2 ^ min 32 IntKind.u64.bits) = w / 4294967296 := by
    rw [show w / 2 ^ min 32 IntKind.u64.bits = w / 4294967296 from rfl]
    exact i64_same (by omega) (by omega)
  have e8 : (!decide (bits .and .u64 w 4 = 0)) = decide (w / 4 % 2 = 1) := by
    have := u64_and4 h0 h1
    by_cases h : w / 4 % 2 = 1
    · rw [decide_eq_true h, decide_eq_false (by rw [this]; omega)]; rfl
    · rw [decide_eq_false h, decide_eq_true (by rw [this]; omega)]; rfl
  have e9 : IntKind.i64.wrap (IntKind.i32.wrap (IntKind.u32.wrap w)) / 2 ^ min 2 IntKind.i64.bits = offs w := by
    rw [← i32_shr2, IntKind.wrap_i32, i64_same (by omega) (by omega)]
    rfl
  rw [e1, e2, e3, e4, e5, e6, e7, e8, e9]
  refine ⟨fun h => ?_, fun h => ⟨fun h2 => ?_, fun h2 => ⟨fun h3 => ?_, fun h3 => ⟨fun h4 => ?_, fun h4 => ?_⟩⟩⟩⟩
  · subst h; exact frz_bare rfl
  · rw [show dec w = _ from (if_neg h).trans (if_pos h2)]; exact frz_bare rfl
  · rw [show dec w = _ from (if_neg h).trans ((if_neg h2).trans (if_pos h3))]; exact frz_bare rfl
  · rw [show dec w = _ from (if_neg h).trans ((if_neg h2).trans ((if_neg h3).trans (if_pos h4)))]; exact frz_bare rfl
  · rw [show dec w = _ from (if_neg h).trans ((if_neg h2).trans ((if_neg h3).trans (if_neg h4)))]; exact frz_bare rfl

theorem u64_or4 {x : Int} (h0 : 0 ≤ x) (h1 : x < 18446744073709551616) (h2 : x % 8 < 4) : bits .or .u64 x 4 = x + 4 := by
  obtain ⟨a, rfl⟩ := Int.eq_ofNat_of_zero_le h0
  have h3 : bits .or .u64 (a : Int) 4 = ((a ||| 4 : Nat) : Int) := bits_or_u64_nat a 4 (by omega) (by omega)
  rw [h3]
  have h4 : a = 2 ^ 3 * (a / 8) + a % 8 := by omega
  have h5 : a ||| 4 = a + 4 := by
    have e1 : 2 ^ 3 * (a / 8) + a % 8 = 2 ^ 3 * (a / 8) ||| a % 8 := Nat.two_pow_add_eq_or_of_lt (by omega) _
    have d : ∀ r, r < 4 → (r ||| 4) = r + 4 ∧ r ||| 4 < 8 := by decide
    obtain ⟨d1, d2⟩ := d (a % 8) (by omega)
    have e2 : 2 ^ 3 * (a / 8) + (a % 8 ||| 4) = 2 ^ 3 * (a / 8) ||| (a % 8 ||| 4) := Nat.two_pow_add_eq_or_of_lt (by omega) _
    have e3 : a ||| 4 = 2 ^ 3 * (a / 8) ||| (a % 8 ||| 4) := by rw [← Nat.or_assoc, ← e1, ← h4]
    rw [e3, ← e2, d1]
    omega
  rw [h5]
  rfl

theorem offs_in (w : Int) : -536870912 ≤ offs w ∧ offs w < 536870912 ∧ offs w * 4 % 4294967296 = w / 4 % 1073741824 * 4 := by
  unfold offs
  split <;> omega

theorem low_spec {a b : Int} (ha : -536870912 ≤ a) (ha1 : a < 536870912) (hb : 0 ≤ b) (hb1 : b < 4) : G.Spec Try.prog 150 [iv a, iv b] (uv (a * 4 % 4294967296 + b)) := by
  refine spec_of t_ptr_low (by simp) fun w0 I0 => ?_
  unfold c_ptr_low
  simp [convA_int]
  have e1 : IntKind.u32.wrap (IntKind.u32.wrap a * 2 ^ min 2 IntKind.u32.bits) = a * 4 % 4294967296 := by
    rw [show IntKind.u32.wrap a * 2 ^ min 2 IntKind.u32.bits = IntKind.u32.wrap a * 4 from rfl, IntKind.wrap_u32, IntKind.wrap_u32]
    omega
  have e2 : IntKind.u32.wrap b = b := by rw [IntKind.wrap_u32]; omega
  have e3 : bits .or .u32 (a * 4 % 4294967296) b = a * 4 % 4294967296 + b :=
    bits_join .u32 32 (by decide) (fun n h0 h1 => by rw [IntKind.wrap_u32]; omega) 2 _ _ (by omega) (by omega) (by omega) hb (by omega) (by omega)
  rw [e1, e2, e3, u64_same (by omega) (by omega)]
  exact frz_bare rfl

/-- A pointer's word, if there is one. -/
def encW (p : Pt) : Int :=
  if p.kind = 1 then if -536870912 ≤ p.off ∧ p.off < 536870912 ∧ 0 ≤ p.data ∧ p.data ≤ 65535 ∧ 0 ≤ p.ptrs ∧ p.ptrs ≤ 65535 then p.off * 4 % 4294967296 + p.data * 4294967296 + p.ptrs * 281474976710656 else 0
  else if p.kind = 2 then if -536870912 ≤ p.off ∧ p.off < 536870912 ∧ 0 ≤ p.code ∧ p.code ≤ 7 ∧ 0 ≤ p.count ∧ p.count ≤ 536870911 then p.off * 4 % 4294967296 + 1 + p.code * 4294967296 + p.count * 34359738368 else 0
  else if p.kind = 3 then if 0 ≤ p.off ∧ p.off ≤ 536870911 ∧ 0 ≤ p.seg ∧ p.seg ≤ 4294967295 then p.off * 8 + 2 + p.seg * 4294967296 + (if p.dbl = true then 4 else 0) else 0
  else 0
def encB (p : Pt) : Bool := decide (dec (encW p) = p) && !decide (p.kind = 4)

theorem pt_eq (q p : Pt) : (q.kind == p.kind && (q.off == p.off && (q.data == p.data && (q.ptrs == p.ptrs && (q.code == p.code && (q.count == p.count && (q.seg == p.seg && q.dbl == p.dbl))))))) = decide (q = p) := by
  obtain ⟨a1, a2, a3, a4, a5, a6, a7, a8⟩ := q
  obtain ⟨b1, b2, b3, b4, b5, b6, b7, b8⟩ := p
  rw [Bool.eq_iff_iff]
  simp

theorem encW_range (p : Pt) : 0 ≤ encW p ∧ encW p < 18446744073709551616 := by
  unfold encW
  repeat' split
  all_goals omega

/-- The end of it: is the word the pointer's? -/
theorem Encode_k1 {n : Nat} {w0 : World} {I0 : Nat → Prop} {p : Pt} {W : Int} (hW : W = encW p) : WPC (cx Try.prog w0 I0 n) k1_ptr_Encode (RetC Try.prog [.tmp 2, .tmp 3] (.tup [uv (encW p), bv (encB p)]))
    ⟨lk [(1, .pob [0] 1 0), (4, uv W), (93, .any), (94, .any), (95, .any)], lkH [([0], ⟨1, .cells [iv p.kind, iv p.off, iv p.data, iv p.ptrs, iv p.code, iv p.count, iv p.seg, bv p.dbl]⟩)]⟩ := by
  subst hW
  unfold k1_ptr_Encode
  simp
  refine sc_call (Decode_spec (encW_range p).1 (encW_range p).2) rfl ?_
  simp
  rw [pt_eq]
  exact frz_bare rfl

theorem u64_of_i64 {n : Int} (h0 : 0 ≤ n) (h1 : n < 18446744073709551616) (k : Nat) (h2 : n * 2 ^ k < 18446744073709551616) (hk : k ≤ 63) : IntKind.u64.wrap (IntKind.u64.wrap n * 2 ^ min k IntKind.u64.bits) = n * 2 ^ k := by
  have : (0 : Int) < 2 ^ k := Int.pow_pos (by decide)
  rw [show min k IntKind.u64.bits = k from by simp [IntKind.bits]; omega, u64_same h0 h1, u64_same (Int.mul_nonneg h0 (by omega)) h2]

theorem Encode_spec (p : Pt) : G.Spec Try.prog 134 [p.a] (.tup [uv (encW p), bv (encB p)]) := by
  refine spec_of t_ptr_Encode (by simp) fun w0 I0 => ?_
  unfold c_ptr_Encode
  simp
  refine ⟨fun h => ?_, fun h => ⟨fun h2 => ?_, fun h2 => ⟨fun h3 => ?_, fun h3 => ?_⟩⟩⟩
  · refine sc_call (near_spec _) rfl ?_
    simp
    refine sc_call_gt rfl (fun _ => within_spec p.data 65535) (fun e => by simp [e]) rfl ?_
    simp
    refine sc_call_gt rfl (fun _ => within_spec p.ptrs 65535) (fun e => by simp [e]) rfl ?_
    simp
    refine ⟨fun a1 a2 a3 a4 a5 a6 => ?_, fun hn => ?_⟩
    · refine sc_call (low_spec a1 a2 (by decide) (by decide)) rfl ?_
      try simp
      refine Encode_k1 ?_
      rw [u64_of_i64 a3 (by omega) 32 (by omega) (by decide), u64_of_i64 a5 (by omega) 48 (by omega) (by decide)]
      rw [show bits .or .u64 (p.off * 4 % 4294967296) (p.data * 2 ^ 32) = p.off * 4 % 4294967296 + p.data * 2 ^ 32 from u64_or' 32 (by omega) (by omega) (by omega) (by omega) (by omega) (by omega)]
      rw [show bits .or .u64 (p.off * 4 % 4294967296 + p.data * 2 ^ 32) (p.ptrs * 2 ^ 48) = p.off * 4 % 4294967296 + p.data * 2 ^ 32 + p.ptrs * 2 ^ 48 from u64_or' 48 (by omega) (by omega) (by omega) (by omega) (by omega) (by omega)]
      rw [encW, if_pos h, if_pos ⟨a1, a2, a3, a4, a5, a6⟩]
      rfl
    · refine Encode_k1 ?_
      rw [encW, if_pos h, if_neg (by omega)]
  · refine sc_call (near_spec _) rfl ?_
    simp
    refine sc_call_gt rfl (fun _ => within_spec p.code 7) (fun e => by simp [e]) rfl ?_
    simp
    refine sc_call_gt rfl (fun _ => within_spec p.count 536870911) (fun e => by simp [e]) rfl ?_
    simp
    refine ⟨fun a1 a2 a3 a4 a5 a6 => ?_, fun hn => ?_⟩
    · refine sc_call (low_spec a1 a2 (by decide) (by decide)) rfl ?_
      try simp
      refine Encode_k1 ?_
      rw [u64_of_i64 a3 (by omega) 32 (by omega) (by decide), u64_of_i64 a5 (by omega) 35 (by omega) (by decide)]
      rw [show bits .or .u64 (p.off * 4 % 4294967296 + 1) (p.code * 2 ^ 32) = p.off * 4 % 4294967296 + 1 + p.code * 2 ^ 32 from u64_or' 32 (by omega) (by omega) (by omega) (by omega) (by omega) (by omega)]
      rw [show bits .or .u64 (p.off * 4 % 4294967296 + 1 + p.code * 2 ^ 32) (p.count * 2 ^ 35) = p.off * 4 % 4294967296 + 1 + p.code * 2 ^ 32 + p.count * 2 ^ 35 from u64_or' 35 (by omega) (by omega) (by omega) (by omega) (by omega) (by omega)]
      rw [encW, if_neg h, if_pos h2, if_pos ⟨a1, a2, a3, a4, a5, a6⟩]
      rfl
    · refine Encode_k1 ?_
      rw [encW, if_neg h, if_pos h2, if_neg (by omega)]
  · refine sc_call (within_spec _ 536870911) rfl ?_
    simp
    refine sc_call_gt rfl (fun _ => within_spec p.seg 4294967295) (fun e => by simp [e]) rfl ?_
    simp
    refine ⟨fun a1 a2 a3 a4 => ?_, fun hn => ?_⟩
    · try simp
      rw [u64_of_i64 a1 (by omega) 3 (by omega) (by decide), u64_of_i64 a3 (by omega) 32 (by omega) (by decide)]
      rw [show bits .or .u64 (p.off * 2 ^ 3) 2 = p.off * 2 ^ 3 + 2 from u64_or 3 (by omega) (by omega) (by omega) (by omega) (by omega) (by omega)]
      rw [show bits .or .u64 (p.off * 2 ^ 3 + 2) (p.seg * 2 ^ 32) = p.off * 2 ^ 3 + 2 + p.seg * 2 ^ 32 from u64_or' 32 (by omega) (by omega) (by omega) (by omega) (by omega) (by omega)]
      rw [u64_or4 (by omega) (by omega) (by omega)]
      have e : encW p = p.off * 8 + 2 + p.seg * 4294967296 + (if p.dbl = true then 4 else 0) := by
        rw [encW, if_neg h, if_neg h2, if_pos h3, if_pos ⟨a1, a2, a3, a4⟩]
      cases hd : p.dbl with
      | true =>
        rw [hd] at e
        simp
        have := Encode_k1 (n := 97) (w0 := w0) (I0 := I0) (p := p) (W := p.off * 2 ^ 3 + 2 + p.seg * 2 ^ 32 + 4) (by rw [e]; rfl)
        rw [hd] at this
        exact this
      | false =>
        rw [hd] at e
        simp
        have := Encode_k1 (n := 97) (w0 := w0) (I0 := I0) (p := p) (W := p.off * 2 ^ 3 + 2 + p.seg * 2 ^ 32) (by rw [e]; simp)
        rw [hd] at this
        exact this
    · refine Encode_k1 ?_
      rw [encW, if_neg h, if_neg h2, if_pos h3, if_neg (by omega)]
  · refine Encode_k1 ?_
    rw [encW, if_neg h, if_neg h2, if_neg h3]
end Go.Proofs.Ytigdcnlhgelkaaa
