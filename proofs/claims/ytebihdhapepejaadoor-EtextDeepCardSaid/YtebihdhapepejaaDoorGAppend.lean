/-
  append and copy: what they yield in an abstract state.
-/
import Derived.Test.YtebihdhapepejaaDoorGMem
namespace Go.G
set_option linter.unusedVariables false
set_option linter.unusedSimpArgs false
open Go.RowKit

/-- The first n elements of what reads as a list, as cells. -/
theorem Reads.first {P : Program} {w : World} {I : Nat → Prop} {μ : Mu} {x : Value} {s : Nat} {xs : List A} (h : Reads w I μ x s xs) (n : Nat) (hn : n ≤ xs.length) :
    (Builtin.lenOf x).run P w = .ok xs.length w ∧ ∃ news : Array Value, (∀ w' : World, w'.heap = w.heap → (Builtin.firstCells s n x).run P w' = .ok news w') ∧ news.size = n * s ∧
      ∀ (k : Nat) (y : A), ((xs.take n).flatMap A.cells)[k]? = some y → y.one = true ∧ Rel w I μ y (news.getD k undef) := by
  obtain ⟨a, cap, g, rfl, hl, hr⟩ := h
  refine ⟨by simp [Builtin.lenOf], ?_⟩
  by_cases h0 : n = 0
  · subst h0
    refine ⟨#[], fun w' _ => ?_, by simp, fun k y hk => by simp at hk⟩
    cases a <;> simp [Builtin.firstCells, loadCells, loadCellsFrom]
  · have hx : xs ≠ [] := fun e => by subst e; simp at hn; omega
    obtain ⟨b, off, rfl, hk⟩ := hr hx
    have hflat := flat_len hl
    have hns : n * s ≤ xs.length * s := Nat.mul_le_mul_right _ hn
    have hcell : ∀ (w' : World), w'.heap = w.heap → ∀ j, j < n * s → w'.cell? ((⟨b, off, none⟩ : Addr).add j) = some (g j) := fun w' hw j hj => by
      rw [Addr.add_lit]
      have := (hk j _ (List.getElem?_eq_getElem (by omega : j < (xs.flatMap A.cells).length))).2.1
      rw [← this]
      simp [World.cell?, hw]
    refine ⟨((List.range (n * s)).map g).toArray, fun w' hw => ?_, by simp, fun k y hy => ?_⟩
    · have := run_loadCells (P := P) w' ⟨b, off, none⟩ (n * s) g (hcell w' hw)
      simp [Builtin.firstCells, this]
    · have h1 : (xs.flatMap A.cells)[0 * s + k]? = some y := flat_take_drop (l := 0) (n := n) hl (by simpa using hy)
      simp only [Nat.zero_mul, Nat.zero_add] at h1
      have h2 : k < n * s := by
        have := (List.getElem?_eq_some_iff.1 hy).1
        rw [flat_len (sz := s) (fun q hq => hl q (List.mem_of_mem_take hq))] at this
        simp at this
        rwa [Nat.min_eq_left hn] at this
      refine ⟨(hk k y h1).1, ?_⟩
      have := (hk k y h1).2.2
      simpa [h2] using this

/-! ### append -/
def srcA (P : Program) (H : Hp) (s : Nat) (e t : TypeId) (x : A) : Option (List A) :=
  match P.underlying t with
  | some (.int _) => match x, zeroT P e, bytesT P e with
    | .v (.int _ n), some z, some b => if 0 ≤ n ∧ n * b ≤ 140737488355328 ∧ 0 < b ∧ (ofV z).cells.length = s ∧ A.ones (ofV z).cells = true then some (List.replicate n.toNat (ofV z)) else none
    | _, _, _ => none
  | some (.slice _) => elemsA H s x
  | some .string => match x with
    | .v (.string str) => if s = 1 then some (str.data.toList.map fun b => .v (.int .u8 b.toNat)) else none
    | _ => none
  | _ => none

/-- What append asks of its second operand: so many elements, these cells. -/
def Src (P : Program) (w : World) (e : TypeId) (s : Nat) (t : TypeId) (x : Value) (m : Nat) (news : Array Value) : Prop :=
  (∃ (k k' : IntKind) (n : Int) (z : Value) (b : Nat), P.underlying t = some (.int k') ∧ x = .int k n ∧ zeroT P e = some z ∧ bytesT P e = some b ∧ 0 ≤ n ∧ n * b ≤ 140737488355328 ∧ 0 < b ∧ m = n.toNat ∧ z.cells.size = s ∧ news = Builtin.zeroCells z.cells m) ∨
  (∃ d, P.underlying t = some d ∧ (d = .string ∨ ∃ e', d = .slice e') ∧ (Builtin.lenOf x).run P w = .ok m w ∧ ∀ w' : World, w'.heap = w.heap → (Builtin.firstCells s m x).run P w' = .ok news w')

theorem srcA_sound {c : Cx} {w : World} {I : Nat → Prop} {μ : Mu} {H : Hp} (hs : Sim c w I μ H) {s : Nat} {e t : TypeId} {a : A} {x : Value} {zs : List A} (ha : Rel w I μ a x) (h : srcA c.P H s e t a = some zs) :
    ∃ news, Src c.P w e s t x zs.length news ∧ news.size = zs.length * s ∧ (∀ z, z ∈ zs → z.cells.length = s) ∧ ∀ (k : Nat) (y : A), (zs.flatMap A.cells)[k]? = some y → y.one = true ∧ Rel w I μ y (news.getD k undef) := by
  unfold srcA at h
  split at h
  · rename_i k' hu
    split at h
    · rename_i k n z b hz hb
      split at h
      · rename_i hcond
        obtain ⟨h0, h1, h2, h3, h4⟩ := hcond
        cases h
        cases ha
        have hz0 : z.cells.size = s := by rw [← h3]; exact ((rel_ofV (w := w) (I := I) (μ := μ) z).cellsRel h4).1
        refine ⟨Builtin.zeroCells z.cells n.toNat, .inl ⟨_, k', n, z, b, hu, rfl, hz, hb, h0, h1, h2, by simp, hz0, by simp⟩, by simp [Builtin.zeroCells, hz0], fun q hq => by rw [List.eq_of_mem_replicate hq]; exact h3, ?_⟩
        exact rel_zero_row h4 h3 (Nat.le_refl _) (N := n.toNat * s) (fun k hk => by simp [Builtin.zeroCells, hz0, hk])
      · cases h
    · cases h
  · rename_i e' hu
    have hr := elemsA_sound hs ha h
    obtain ⟨h1, news, h2, h3, h4⟩ := hr.first (P := c.P) zs.length (Nat.le_refl _)
    rw [List.take_length] at h4
    obtain ⟨_, _, _, _, hl, _⟩ := hr
    exact ⟨news, .inr ⟨_, hu, .inr ⟨_, rfl⟩, h1, h2⟩, h3, hl, h4⟩
  · rename_i hu
    split at h
    · rename_i str
      split at h
      · rename_i hs1
        cases h
        subst hs1
        cases ha
        refine ⟨str.data.map fun b => .int .u8 b.toNat, .inr ⟨_, hu, .inl rfl, by simp [Builtin.lenOf], fun w' _ => ?_⟩, by simp, fun z hz => ?_, fun k y hk => ?_⟩
        · simp [Builtin.firstCells]
        · obtain ⟨b, hb, rfl⟩ := List.mem_map.1 hz
          rfl
        · have h1 : (List.flatMap A.cells (str.data.toList.map fun b => A.v (.int .u8 b.toNat))) = str.data.toList.map fun b => A.v (.int .u8 b.toNat) := by
            rw [List.flatMap_map]
            generalize str.data.toList = l
            induction l with
            | nil => rfl
            | cons b l ih => simp only [List.flatMap_cons, List.map_cons, ih]; rfl
          rw [h1, List.getElem?_map, Option.map_eq_some_iff] at hk
          obtain ⟨b, hb, rfl⟩ := hk
          refine ⟨rfl, ?_⟩
          have : (str.data.map fun b => Value.int .u8 b.toNat).getD k undef = .int .u8 b.toNat := by
            have hb' : str.data[k]? = some b := by simpa using hb
            simp [Array.getD_eq_getD_getElem?, hb']
          rw [this]
          exact .v _ _
      · cases h
    · cases h
  · cases h

section
variable {P : Program} {w : World} {t u ty e : TypeId} {s b m : Nat} {z x : Value} {news : Array Value} {base : Option Addr} {sLen sCap : Nat}

theorem run_append_room' (ht : P.underlying t = some (.slice e)) (hsz : szT P e = some s) (hsrc : Src P w e s u x m news) (hroom : sLen + m ≤ sCap) {w1 : World}
    (hst : ∀ a, base = some a → (storeCells (a.add (sLen * s)) news.toList).run P w = .ok () w1) (hnone : base = none → w1 = w) :
    (Builtin.append_ #[t, u] ty #[.slice base sLen sCap, x]).run P w = .ok (.slice base (sLen + m) sCap) w1 := by
  rcases hsrc with ⟨k, k', n, z, b, hu, rfl, hz, hb, h0, h1, h2, rfl, hzs, rfl⟩ | ⟨d, hu, hd, hlen, hfirst⟩
  · have hn : n ≤ n * b := by
      have : n * 1 ≤ n * (b : Int) := Int.mul_le_mul_of_nonneg_left (by omega) h0
      omega
    have e1 : IntKind.i64.wrap n = n := by rw [IntKind.wrap_i64]; omega
    unfold bytesT at hb
    cases hi : P.info? e with
    | none => simp [hi] at hb
    | some i =>
      simp [hi] at hb
      subst hb
      have h3 : ¬ n < 0 := by omega
      have h4 : ¬ n * (i.bytes : Int) > 281474976710656 := by omega
      by_cases hN : n.toNat * s = 0
      · have hnews : Builtin.zeroCells z.cells n.toNat = #[] := by simp [Builtin.zeroCells, hzs, hN, range0_map]
        rw [hnews] at hst
        cases base with
        | none => rw [hnone rfl]; simp [Builtin.append_, run_underlying ht, run_underlying hu, run_szT hsz, asInt, asIntOf, e1, h3, h4, typeInfo, hi, hroom, hN]
        | some a =>
          have hst' := hst a rfl
          simp only [List.toList_toArray] at hst'
          simp [Builtin.append_, run_underlying ht, run_underlying hu, run_szT hsz, asInt, asIntOf, e1, h3, h4, typeInfo, hi, hroom, hN, hst']
      · cases base with
        | none => rw [hnone rfl]; simp [Builtin.append_, run_underlying ht, run_underlying hu, run_szT hsz, asInt, asIntOf, e1, h3, h4, typeInfo, hi, hroom, hN, run_zeroT hz]
        | some a => simp [Builtin.append_, run_underlying ht, run_underlying hu, run_szT hsz, asInt, asIntOf, e1, h3, h4, typeInfo, hi, hroom, hN, run_zeroT hz, hst a rfl]
  · have hf := hfirst w rfl
    cases base with
    | none => rw [hnone rfl]; rcases hd with rfl | ⟨e', rfl⟩ <;> simp [Builtin.append_, run_underlying ht, run_underlying hu, run_szT hsz, hlen, hroom, hf]
    | some a => rcases hd with rfl | ⟨e', rfl⟩ <;> simp [Builtin.append_, run_underlying ht, run_underlying hu, run_szT hsz, hlen, hroom, hf, hst a rfl]

theorem run_append_grow' (ht : P.underlying t = some (.slice e)) (hsz : szT P e = some s) (hz : zeroT P e = some z) (hb : bytesT P e = some b) (h0 : 0 < b) (hsrc : Src P w e s u x m news) (hg : sCap < sLen + m) (h47 : (sLen + m) * b ≤ 140737488355328)
    {old : Array Value} (hold : ∀ w' : World, w'.heap = w.heap → (Builtin.firstCells s sLen (.slice base sLen sCap)).run P w' = .ok old w') :
    (Builtin.append_ #[t, u] ty #[.slice base sLen sCap, x]).run P w =
      .ok (.slice (some ⟨w.heap.size, 0, none⟩) (sLen + m) (grownCap w (sLen + m) sCap e)) (w.drew.alloc (.cells (old ++ news ++ Builtin.zeroCells z.cells (grownCap w (sLen + m) sCap e - (sLen + m))) e)) := by
  have hnm : sLen + m ≤ 140737488355328 := by
    have : (sLen + m) * 1 ≤ (sLen + m) * b := Nat.mul_le_mul_left _ h0
    omega
  have hroom : ¬ sLen + m ≤ sCap := by omega
  have h63 : ¬ (9223372036854775807 < ((sLen : Int) + (m : Int))) := by omega
  unfold bytesT at hb
  cases hi : P.info? e with
  | none => simp [hi] at hb
  | some i =>
    simp [hi] at hb
    subst hb
    have hfit : ¬ (281474976710656 < Builtin.nextslicecap (sLen + m) sCap * i.bytes) := by have := growslice_fits hg h47; omega
    have hzr : ∀ w', (zeroValue e).run P w' = .ok z w' := fun w' => run_zeroT hz
    have hold' := hold w.drew rfl
    rcases hsrc with ⟨k, k', n, z', b, hu, rfl, hz', hb, h0', h1, h2, rfl, hzs, rfl⟩ | ⟨d, hu, hd, hlen, hfirst⟩
    · have hn : n ≤ n * b := by
        have : n * 1 ≤ n * (b : Int) := Int.mul_le_mul_of_nonneg_left (by omega) h0'
        omega
      have e1 : IntKind.i64.wrap n = n := by rw [IntKind.wrap_i64]; omega
      simp [bytesT, hi] at hb
      subst hb
      have h3 : ¬ n < 0 := by omega
      have h4 : ¬ n * (i.bytes : Int) > 281474976710656 := by omega
      have h63' : ¬ (9223372036854775807 < ((sLen : Int) + (n.toNat : Int))) := h63
      rw [hz] at hz'
      cases hz'
      by_cases hN : n.toNat * s = 0
      · have hnews : Builtin.zeroCells z.cells n.toNat = #[] := by simp [Builtin.zeroCells, hzs, hN, range0_map]
        rw [hnews]
        simp only [Int.ofNat_toNat, Int.max_eq_left h0'] at h63'
        simp [Builtin.append_, run_underlying ht, run_underlying hu, run_szT hsz, asInt, asIntOf, e1, h3, h4, typeInfo, hi, hroom, hN, hfit, Int.max_eq_left h0', h63', Question.forced, hold', hzr, newRow, grownCap]
      · simp only [Int.ofNat_toNat, Int.max_eq_left h0'] at h63'
        simp [Builtin.append_, run_underlying ht, run_underlying hu, run_szT hsz, asInt, asIntOf, e1, h3, h4, typeInfo, hi, hroom, hN, hfit, Int.max_eq_left h0', h63', Question.forced, hold', hzr, newRow, grownCap]
    · have hf := hfirst w.drew rfl
      have hb0 : ¬ i.bytes = 0 := by omega
      rcases hd with rfl | ⟨e', rfl⟩ <;> simp [Builtin.append_, run_underlying ht, run_underlying hu, run_szT hsz, hlen, hroom, typeInfo, hi, hfit, hb0, Question.forced, hold', hzr, newRow, grownCap, hf]
end
end Go.G
