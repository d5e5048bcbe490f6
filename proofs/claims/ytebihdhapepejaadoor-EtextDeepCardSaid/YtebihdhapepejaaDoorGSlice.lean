/-
  Slices: what an operation yields in an abstract state.
-/
import Derived.Test.YtebihdhapepejaaDoorGStore
namespace Go.G
set_option linter.unusedVariables false
set_option linter.unusedSimpArgs false
open Go.RowKit

def lens (s : Nat) (xs : List A) : Bool := xs.all fun x => x.cells.length == s

theorem lens_mem {s : Nat} {xs : List A} (h : lens s xs = true) : ∀ x, x ∈ xs → x.cells.length = s := by
  simpa [lens] using h

/-! ### what a slice's value reads as -/
def elemsA (H : Hp) (s : Nat) (a : A) : Option (List A) :=
  match a with
  | .sl _ xs => if lens s xs = true then some xs else none
  | .osl o u sz off len => match getR H o u with
    | some (s', ys) => if s' = s ∧ sz = s ∧ off + len ≤ ys.length then some ((ys.drop off).take len) else none
    | none => none
  | .v (.slice _ 0 _) => some []
  | _ => none

def Reads (w : World) (I : Nat → Prop) (μ : Mu) (x : Value) (s : Nat) (xs : List A) : Prop :=
  ∃ (a : Option Addr) (cap : Nat) (g : Nat → Value), x = .slice a xs.length cap ∧ (∀ z, z ∈ xs → z.cells.length = s) ∧
    (xs ≠ [] → ∃ b off, a = some ⟨b, off, none⟩ ∧ ∀ (k : Nat) (y : A), (xs.flatMap A.cells)[k]? = some y → y.one = true ∧ w.cell? ⟨b, off + k, none⟩ = some (g k) ∧ Rel w I μ y (g k))

theorem flat_take_drop {s : Nat} : ∀ {xs : List A} {l n k : Nat} {y : A}, (∀ x, x ∈ xs → x.cells.length = s) → (((xs.drop l).take n).flatMap A.cells)[k]? = some y → (xs.flatMap A.cells)[l * s + k]? = some y := by
  intro xs l n k y h hk
  have h1 : xs.flatMap A.cells = (xs.take l).flatMap A.cells ++ (xs.drop l).flatMap A.cells := by rw [← List.flatMap_append, List.take_append_drop]
  have h2 : (xs.drop l).flatMap A.cells = ((xs.drop l).take n).flatMap A.cells ++ ((xs.drop l).drop n).flatMap A.cells := by rw [← List.flatMap_append, List.take_append_drop]
  rcases Nat.lt_or_ge xs.length l with hl | hl
  · rw [List.drop_eq_nil_of_le (by omega)] at hk; simp at hk
  · have h3 : ((xs.take l).flatMap A.cells).length = l * s := by
      rw [flat_len (sz := s) (fun x hx => h x (List.mem_of_mem_take hx)), List.length_take, Nat.min_eq_left hl]
    rw [h1, List.getElem?_append_right (by omega), h3, h2, Nat.add_sub_cancel_left, List.getElem?_append_left (List.getElem?_eq_some_iff.1 hk).1]
    exact hk

theorem elemsA_sound {c : Cx} {w : World} {I : Nat → Prop} {μ : Mu} {H : Hp} (hs : Sim c w I μ H) {s : Nat} {a : A} {x : Value} {xs : List A} (ha : Rel w I μ a x) (h : elemsA H s a = some xs) : Reads w I μ x s xs := by
  unfold elemsA at h
  split at h
  · rename_i f ys
    split at h
    · rename_i hl
      cases h
      cases ha with
      | slN _ _ a cap hf => exact ⟨a, cap, fun _ => undef, rfl, by simp, fun h => (h rfl).elim⟩
      | sl _ _ b off n cap sz _ g hI hn hc hf hsz h1 hcell hr =>
        exact ⟨_, cap, g, by rw [hn], lens_mem hl, fun _ => ⟨b, off, rfl, fun k y hk => ⟨h1 k y hk, hcell k y hk, (hr k y hk).ofI⟩⟩⟩
    · cases h
  · rename_i o u sz off len
    split at h
    · rename_i s' ys ho
      split at h
      · rename_i hc
        obtain ⟨rfl, rfl, hle⟩ := hc
        cases h
        have hlen : ((ys.drop off).take len).length = len := by simp; omega
        cases ha with
        | osl _ _ _ _ _ _ a cap g1 g2 g4 g5 g3 =>
          obtain ⟨hu, k2, ⟨k1, rfl⟩ | ⟨k1, vs, k3, k4, k5, k6, k7⟩⟩ := hs.row ho
          · simp at hle
            obtain ⟨rfl, rfl⟩ := hle
            exact ⟨a, cap, fun _ => undef, by simp, by simp, fun h => (h (by simp)).elim⟩
          · subst k2
            have hmem : ∀ z, z ∈ (ys.drop off).take len → z.cells.length = (μ o).sz := fun z hz => k6 z (List.mem_of_mem_drop (List.mem_of_mem_take hz))
            by_cases h0 : len = 0
            · subst h0
              exact ⟨a, cap, fun _ => undef, by simp, by simp, fun h => (h (by simp)).elim⟩
            · obtain ⟨_, ⟨e1, e2⟩ | ⟨e1, e2, e3⟩⟩ := g3 hu.symm
              · exact (h0 e1).elim
              · refine ⟨a, cap, fun k => vs.getD (off * (μ o).sz + k) undef, by rw [hlen], hmem, fun _ => ⟨(μ o).b, off * (μ o).sz, e2, fun k y hk => ?_⟩⟩
                have h3 := flat_take_drop k6 hk
                have h4 := flat_len k6
                have h5 : ys.length * (μ o).sz ≤ (μ o).cap * (μ o).sz := Nat.mul_le_mul_right _ k5
                have h6 := (List.getElem?_eq_some_iff.1 h3).1
                refine ⟨(k7 _ y h3).1, ?_, (k7 _ y h3).2⟩
                rw [cell_of_row w (μ o).b _ vs (μ o).e (0, 0) k3]
                have : off * (μ o).sz + k < vs.size := by rw [k4]; omega
                simp [this]
      · cases h
    · cases h
  · cases h
    cases ha
    exact ⟨_, _, fun _ => undef, rfl, by simp, fun h => (h rfl).elim⟩
  · cases h

/-! ### addresses of elements -/
def indexAddrA (P : Program) (t : TypeId) (a ix : A) : Option A :=
  match P.underlying t, ix with
  | some (.slice e), .v (.int _ i) =>
    match szT P e with
    | some m =>
      match a with
      | .sl _ xs => if 0 ≤ i ∧ i < xs.length then (match xs[i.toNat]? with
          | some x => if x.cells.length = m then some (.pim x.cells) else none
          | none => none) else none
      | .osl o u sz off len => if 0 ≤ i ∧ i < len ∧ sz = m then some (.pel o u (off + i.toNat) 0) else none
      | _ => none
    | none => none
  | some (.array n e), .v (.int _ i) =>
    match szT P e with
    | some m => if 0 ≤ i ∧ i < n then a.shift (i.toNat * m) else none
    | none => none
  | _, _ => none

theorem indexAddrA_sound {P : Program} {w : World} {I : Nat → Prop} {μ : Mu} {t : TypeId} {a ix r : A} {x y : Value} (ha : Rel w I μ a x) (hi : Rel w I μ ix y) (h : indexAddrA P t a ix = some r) :
    ∃ v, (Instr.indexAt t x y).run P w = .ok v w ∧ Rel w I μ r v := by
  unfold indexAddrA at h
  split at h
  · rename_i e k i hu
    cases hi
    split at h
    · rename_i m hm
      split at h
      · rename_i f xs
        split at h
        · rename_i hb
          split at h
          · rename_i z hz
            split at h
            · rename_i hzl
              cases h
              cases ha with
              | slN => simp at hz
              | sl _ _ b off n cap sz _ g hI hn hc hf hsz h1 hcell hr =>
                have e1 : sz = m := by rw [← hzl, hsz z (List.mem_of_getElem? hz)]
                subst e1 hn
                have hg : ∀ (j : Nat) (q : A), z.cells[j]? = some q → (xs.flatMap A.cells)[i.toNat * sz + j]? = some q := fun j q hq => flat_get hsz hz hq
                refine ⟨.pointer (some ⟨b, off + i.toNat * sz, none⟩), ?_, .pim _ _ _ _ (fun j => g (i.toNat * sz + j)) hI (fun j q hq => h1 _ _ (hg j q hq)) (fun j q hq => ?_) (fun j q hq => hr _ _ (hg j q hq))⟩
                · simp [Instr.indexAt, asIntOf, run_underlying hu, hb.1, hb.2, run_szT hm, Addr.add_lit]
                · rw [Nat.add_assoc]; exact hcell _ _ (hg j q hq)
            · cases h
          · cases h
        · cases h
      · rename_i o u sz off len
        split at h
        · rename_i hb
          obtain ⟨h0, h1, rfl⟩ := hb
          cases h
          cases ha with
          | osl _ _ _ _ _ _ a cap g1 g2 g4 g5 g3 =>
            obtain ⟨b', k', rfl⟩ := g5 (by omega)
            refine ⟨.pointer (some ⟨b', k' + i.toNat * sz, none⟩), by simp [Instr.indexAt, asIntOf, run_underlying hu, h0, h1, run_szT hm, Addr.add_lit], .pel _ _ _ _ _ _ _ g1 g2 fun e => ?_⟩
            obtain ⟨k2, ⟨e1, e2⟩ | ⟨e1, e2, e3⟩⟩ := g3 e
            · omega
            · cases e2
              exact ⟨rfl, by rw [k2, Nat.add_mul]; omega⟩
        · cases h
      · cases h
    · cases h
  · rename_i n e k i hu
    cases hi
    split at h
    · rename_i m hm
      split at h
      · rename_i hb
        obtain ⟨b, off, rfl, hr⟩ := shift_sound ha h
        refine ⟨_, ?_, hr⟩
        simp [Instr.indexAt, asIntOf, run_underlying hu, hb.1, hb.2, run_szT hm, Addr.add_lit, Instr.sureAddr]
      · cases h
    · cases h
  · cases h

/-- An element of an array by value; a byte of a string. -/
def indexA (P : Program) (t : TypeId) (a ix : A) : Option A :=
  match P.underlying t, a, ix with
  | some (.array n e), .agg cs, .v (.int _ i) =>
    match szT P e with
    | some m => if 0 ≤ i ∧ i < n then partA P e cs (i.toNat * m) else none
    | none => none
  | some .string, .v (.string s), .v (.int _ i) => if 0 ≤ i then (s[i.toNat]?).map (fun b => .v (.int .u8 b.toNat)) else none
  | _, _, _ => none

theorem indexA_sound {P : Program} {w : World} {I : Nat → Prop} {μ : Mu} {t : TypeId} {a ix r : A} {x y : Value} (ha : Rel w I μ a x) (hi : Rel w I μ ix y) (h : indexA P t a ix = some r) :
    ∃ v, (Instr.index t x y).run P w = .ok v w ∧ Rel w I μ r v := by
  unfold indexA at h
  split at h
  · rename_i n e cs k i hu
    cases hi
    split at h
    · rename_i m hm
      split at h
      · rename_i hb
        cases ha with
        | agg _ _ vs hl hr =>
          obtain ⟨v, h1, h2⟩ := partA_sound (P := P) hl hr h
          exact ⟨v, by simp [Instr.index, asIntOf, run_underlying hu, hb.1, hb.2, run_szT hm, h1], h2⟩
      · cases h
    · cases h
  · rename_i s k i hu
    cases hi
    cases ha
    split at h
    · rename_i h0
      simp only [Option.map_eq_some_iff] at h
      obtain ⟨b, hb, rfl⟩ := h
      exact ⟨_, by simp [Instr.index, asIntOf, run_underlying hu, h0, hb], .v _ _⟩
    · cases h
  · cases h

/-! ### lengths -/
def lenA (P : Program) (t : TypeId) (a : A) : Option A :=
  match P.underlying t, a with
  | some (.slice _), .sl _ xs => some (.v (.int .i64 xs.length))
  | some (.slice _), .osl _ _ _ _ n => some (.v (.int .i64 n))
  | some .string, .v (.string s) => some (.v (.int .i64 s.size))
  | some (.array n _), _ => some (.v (.int .i64 n))
  | _, _ => none

theorem lenA_sound {P : Program} {w : World} {I : Nat → Prop} {μ : Mu} {t ty : TypeId} {a r : A} {x : Value} (ha : Rel w I μ a x) (h : lenA P t a = some r) :
    ∃ v, (Builtin.len_ #[t] ty #[x]).run P w = .ok v w ∧ Rel w I μ r v := by
  unfold lenA at h
  split at h
  · rename_i e f xs hu
    cases h
    cases ha with
    | slN => exact ⟨_, by simp [Builtin.len_, run_underlying hu, goInt]; rfl, by simpa using .v _ _⟩
    | sl _ _ b off n cap sz _ g hI hn => subst hn; exact ⟨_, by simp [Builtin.len_, run_underlying hu, goInt], .v _ _⟩
  · rename_i e o u sz off n hu
    cases h
    cases ha with
    | osl => exact ⟨_, by simp [Builtin.len_, run_underlying hu, goInt], .v _ _⟩
  · rename_i s hu
    cases h
    cases ha
    exact ⟨_, by simp [Builtin.len_, run_underlying hu, goInt], .v _ _⟩
  · rename_i n e hu
    cases h
    refine ⟨.int .i64 n, ?_, .v _ _⟩
    simp [Builtin.len_, run_underlying hu, goInt]
  · cases h

/-! ### slicing -/
def boundA (x : Option A) (d lim : Nat) : Option Nat :=
  match x with
  | none => some d
  | some (.v (.int _ i)) => if 0 ≤ i ∧ i ≤ lim then some i.toNat else none
  | _ => none

/-- low, high, max over a length; is the end at 'max'? -/
def boundsA (len : Nat) (low high max : Option A) : Option (Nat × Nat × Option Nat) :=
  match max with
  | none => match boundA high len len with
    | some h => match boundA low 0 h with
      | some l => some (l, h, none)
      | none => none
    | none => none
  | some m => match boundA (some m) 0 len, high with
    | some m, some hi => match boundA (some hi) 0 m with
      | some h => match boundA low 0 h with
        | some l => some (l, h, some m)
        | none => none
      | none => none
    | _, _ => none

def fullA (m : Option Nat) (f : Bool) (h len : Nat) : Bool :=
  match m with
  | some m => m == h
  | none => f && h == len

def sliceA (P : Program) (t : TypeId) (a : A) (low high max : Option A) : Option A :=
  match P.underlying t, a with
  | some (.slice e), .sl f xs => match boundsA xs.length low high max, szT P e with
    | some (l, h, m), some s => if lens s xs = true then some (.sl (fullA m f h xs.length) ((xs.drop l).take (h - l))) else none
    | _, _ => none
  | some (.slice e), .osl o u sz off len => match boundsA len low high max, szT P e with
    | some (l, h, _), some s => if s = sz then some (.osl o u sz (off + l) (h - l)) else none
    | _, _ => none
  | some .string, .v (.string s) => match boundsA s.size low high max with
    | some (l, h, none) => some (.v (.string (s.extract l h)))
    | _ => none
  | some (.array n e), .pim cs => match boundsA n low high max, szT P e with
    | some (l, h, m), some s => if s = 1 ∧ n ≤ cs.length then some (.sl (fullA m true h n) ((cs.drop l).take (h - l))) else none
    | _, _ => none
  | _, _ => none

theorem bound_sound {P : Program} {w : World} {I : Nat → Prop} {μ : Mu} {a : A} {x : Value} {lim lim' d n : Nat} {code : BoundsCode} (ha : Rel w I μ a x) (h : boundA (some a) d lim = some n) (hl : lim ≤ lim') :
    (Instr.sliceBound x lim' code).run P w = .ok n w ∧ n ≤ lim := by
  unfold boundA at h
  split at h
  · rename_i h0; cases h0
  · rename_i h0
    cases h0
    cases ha
    split at h
    · rename_i hb
      cases h
      have : (_ : Int) ≤ (lim' : Int) := Int.le_trans hb.2 (by omega)
      exact ⟨by simp [Instr.sliceBound, asIntOf, hb.1, this], by omega⟩
    · cases h
  · cases h

/-- Both are there, and stand for one another; or neither. -/
def RelO (w : World) (I : Nat → Prop) (μ : Mu) : Option A → Option Value → Prop
  | none, none => True
  | some a, some x => Rel w I μ a x
  | _, _ => False

theorem bounds_sound {P : Program} {w : World} {I : Nat → Prop} {μ : Mu} {len cap l h : Nat} {m : Option Nat} {low high max : Option A} {lv hv mv : Option Value} (isS : Bool) (h1 : RelO w I μ low lv) (h2 : RelO w I μ high hv) (h3 : RelO w I μ max mv)
    (hc : len ≤ cap) (hb : boundsA len low high max = some (l, h, m)) :
    (Instr.sliceBounds isS len cap lv hv mv).run P w = .ok (l, h, m.getD cap) w ∧ l ≤ h ∧ h ≤ len ∧ h ≤ m.getD cap ∧ m.getD cap ≤ cap ∧ (max.isSome = m.isSome) := by
  have lowCase : ∀ {n : Nat} {code : BoundsCode} {q : Nat}, boundA low 0 n = some q → ((match lv with | some v => Instr.sliceBound v n code | none => pure 0 : Sem Nat)).run P w = .ok q w ∧ q ≤ n := by
    intro n code q hq
    cases low with
    | none => cases lv with
      | none => simp [boundA] at hq; subst hq; simp
      | some v => exact h1.elim
    | some a => cases lv with
      | none => exact h1.elim
      | some v => exact bound_sound h1 hq (Nat.le_refl _)
  unfold boundsA at hb
  cases max with
  | none =>
    cases mv with
    | some v => exact h3.elim
    | none =>
      simp only at hb
      split at hb
      · rename_i hh hhq
        split at hb
        · rename_i ll hlq
          cases hb
          obtain ⟨e1, e2⟩ := lowCase (code := .sliceB) hlq
          cases high with
          | none => cases hv with
            | none =>
              simp [boundA] at hhq
              subst hhq
              refine ⟨?_, e2, Nat.le_refl _, hc, Nat.le_refl _, rfl⟩
              simp [Instr.sliceBounds]
              cases lv <;> simp_all
            | some v => exact h2.elim
          | some a => cases hv with
            | none => exact h2.elim
            | some v =>
              obtain ⟨e3, e4⟩ := bound_sound (P := P) (code := if isS then .sliceAcap else .sliceAlen) h2 hhq hc
              refine ⟨?_, e2, e4, by simp; omega, Nat.le_refl _, rfl⟩
              simp [Instr.sliceBounds, e3]
              cases lv <;> simp_all
        · cases hb
      · cases hb
  | some mA =>
    cases mv with
    | none => exact h3.elim
    | some mV =>
      simp only at hb
      split at hb
      · rename_i mm hi hmq
        split at hb
        · rename_i hh hhq
          split at hb
          · rename_i ll hlq
            cases hb
            obtain ⟨e1, e2⟩ := lowCase (code := .slice3C) hlq
            cases hv with
            | none => exact h2.elim
            | some v =>
              obtain ⟨e5, e6⟩ := bound_sound (P := P) (code := if isS then .slice3Acap else .slice3Alen) h3 hmq hc
              obtain ⟨e3, e4⟩ := bound_sound (P := P) (code := .slice3B) h2 hhq (Nat.le_refl _)
              refine ⟨?_, e2, by omega, by simpa using e4, by simp; omega, rfl⟩
              simp [Instr.sliceBounds, e3, e5]
              cases lv <;> simp_all
          · cases hb
        · cases hb
      · cases hb

theorem ones_flat : ∀ {l : List A}, (∀ x, x ∈ l → x.one = true) → l.flatMap A.cells = l
  | [], _ => rfl
  | x :: l, h => by
    have h1 := h x (by simp)
    have h2 : x.cells = [x] := by cases x <;> simp_all [A.one, A.cells]
    rw [List.flatMap_cons, h2, ones_flat fun y hy => h y (by simp [hy])]; rfl
theorem one_cells {x : A} (h : x.one = true) : x.cells = [x] := by cases x <;> simp_all [A.one, A.cells]
theorem sliceA_sound {c : Cx} {w : World} {I : Nat → Prop} {μ : Mu} {t : TypeId} {a r : A} {x : Value} {low high max : Option A} {lv hv mv : Option Value} (ha : Rel w I μ a x)
    (h1 : RelO w I μ low lv) (h2 : RelO w I μ high hv) (h3 : RelO w I μ max mv) (h : sliceA c.P t a low high max = some r) : ∃ v, (Instr.sliceAt t x lv hv mv).run c.P w = .ok v w ∧ Rel w I μ r v := by
  unfold sliceA at h
  split at h
  · rename_i e f xs hu
    split at h
    · rename_i l hh m s hb hsz
      split at h
      · rename_i hl
        cases h
        have hl' := lens_mem hl
        have hlen : ∀ (hle : hh ≤ xs.length), ((xs.drop l).take (hh - l)).length = hh - l := fun hle => by simp; omega
        cases ha with
        | slN _ _ a cap hf =>
          obtain ⟨e1, e2, e3, e4, e5, e6⟩ := bounds_sound (P := c.P) (len := 0) (cap := cap) true h1 h2 h3 (Nat.zero_le _) hb
          have : hh = 0 := by simpa using e3
          subst this
          have : l = 0 := by omega
          subst this
          refine ⟨_, by simp [Instr.sliceAt, Instr.slice, run_underlying hu, e1, run_szT hsz]; rfl, ?_⟩
          simp only [List.drop_nil, List.take_nil]
          refine .slN _ _ _ _ fun hq => ?_
          cases m with
          | some m => simp [fullA] at hq ⊢; omega
          | none => simp [fullA] at hq ⊢; exact hf hq
        | sl _ _ b off n cap sz _ g hI hn hc hf hsz' g1 hcell hr =>
          subst hn
          obtain ⟨e1, e2, e3, e4, e5, e6⟩ := bounds_sound (P := c.P) (len := xs.length) (cap := cap) true h1 h2 h3 hc hb
          refine ⟨_, by simp [Instr.sliceAt, Instr.slice, run_underlying hu, e1, run_szT hsz, Addr.add_lit]; rfl, ?_⟩
          have hfull : fullA m f hh xs.length = true → m.getD cap - l = hh - l := fun hq => by
            cases m with
            | some m => simp [fullA] at hq ⊢; omega
            | none => simp [fullA] at hq ⊢; have := hf hq.1; omega
          by_cases hz : hh = l
          · subst hz
            simp only [Nat.sub_self, List.take_zero]
            have := fun hq => hfull hq
            simp only [Nat.sub_self] at this
            split <;> exact .slN _ _ _ _ this
          · have hne : ¬ m.getD cap = l := by omega
            rw [if_neg hne]
            have hxs : xs ≠ [] := fun e => by subst e; simp at e3; omega
            have hsame : sz = s := by
              obtain ⟨z, zs, rfl⟩ := List.exists_cons_of_ne_nil hxs
              rw [← hsz' z (by simp), hl' z (by simp)]
            subst hsame
            have hg : ∀ (k : Nat) (y : A), (((xs.drop l).take (hh - l)).flatMap A.cells)[k]? = some y → (xs.flatMap A.cells)[l * sz + k]? = some y := fun k y hk => flat_take_drop hl' hk
            exact .sl _ _ b (off + l * sz) _ _ sz _ (fun k => g (l * sz + k)) hI (hlen e3).symm (by rw [hlen e3]; omega) (fun hq => by rw [hlen e3]; exact hfull hq) (fun z hz => hl' z (List.mem_of_mem_drop (List.mem_of_mem_take hz)))
              (fun k y hk => g1 _ _ (hg k y hk)) (fun k y hk => by rw [Nat.add_assoc]; exact hcell _ _ (hg k y hk)) (fun k y hk => hr _ _ (hg k y hk))
      · cases h
    · cases h
  · rename_i e o u sz off len hu
    split at h
    · rename_i l hh m s hb hsz
      split at h
      · rename_i hss
        subst hss
        cases h
        cases ha with
        | osl _ _ _ _ _ _ a cap g1 g2 g4 g5 g3 =>
          obtain ⟨e1, e2, e3, e4, e5, e6⟩ := bounds_sound (P := c.P) (len := len) (cap := cap) true h1 h2 h3 g4 hb
          cases a with
          | none =>
            have hc : cap = 0 := by
              apply Nat.eq_zero_of_not_pos
              intro hp
              obtain ⟨_, _, e⟩ := g5 hp
              cases e
            subst hc
            have hm0 : m.getD 0 = 0 := by omega
            have hl0 : l = 0 := by omega
            have hh0 : hh = 0 := by omega
            refine ⟨_, by simp [Instr.sliceAt, Instr.slice, run_underlying hu, e1, run_szT hsz, hm0, hl0]; rfl, ?_⟩
            subst hl0 hh0
            exact .osl _ _ _ _ _ _ _ _ g1 g2 (Nat.le_refl _) (fun h => by omega) fun e => ⟨(g3 e).1, .inl ⟨rfl, rfl⟩⟩
          | some q =>
            by_cases hq : m.getD cap = l
            · have hh0 : hh = l := by omega
              refine ⟨.slice (some q) (hh - l) (m.getD cap - l), by simp [Instr.sliceAt, Instr.slice, run_underlying hu, e1, run_szT hsz, hq], ?_⟩
              rw [hq, hh0, Nat.sub_self]
              exact .osl _ _ _ _ _ _ _ _ g1 g2 (Nat.le_refl _) (fun h => by omega) fun e => ⟨(g3 e).1, .inl ⟨rfl, rfl⟩⟩
            · obtain ⟨b', k', hqe⟩ := g5 (by omega)
              cases hqe
              refine ⟨.slice (some ⟨b', k' + l * s, none⟩) (hh - l) (m.getD cap - l), by simp [Instr.sliceAt, Instr.slice, run_underlying hu, e1, run_szT hsz, Addr.add_lit, hq], ?_⟩
              refine .osl _ _ _ _ _ _ _ _ g1 g2 (by omega) (fun _ => ⟨_, _, rfl⟩) fun e => ?_
              obtain ⟨k2, ⟨p1, p2⟩ | ⟨p1, p2, p3⟩⟩ := g3 e
              · exact ⟨k2, .inl ⟨by omega, by omega⟩⟩
              · cases p2
                exact ⟨k2, .inr ⟨p1, by rw [Nat.add_mul], by omega⟩⟩
      · cases h
    · cases h
  · rename_i s hu
    split at h
    · rename_i l hh hb
      cases h
      cases ha
      obtain ⟨e1, e2, e3, e4, e5, e6⟩ := bounds_sound (P := c.P) (len := s.size) (cap := s.size) false h1 h2 h3 (Nat.le_refl _) hb
      have hm : mv = none := by
        cases max with
        | none => cases mv with
          | none => rfl
          | some v => exact h3.elim
        | some q => cases e6
      subst hm
      exact ⟨_, by simp [Instr.sliceAt, Instr.slice, run_underlying hu, e1], .v _ _⟩
    · cases h
  · rename_i n e cs hu
    split at h
    · rename_i l hh m s hb hsz
      split at h
      · rename_i hc
        obtain ⟨rfl, hn⟩ := hc
        cases h
        cases ha with
        | pim _ b off _ g hI g1 hcell hr =>
          obtain ⟨e1, e2, e3, e4, e5, e6⟩ := bounds_sound (P := c.P) (len := n) (cap := n) false h1 h2 h3 (Nat.le_refl _) hb
          refine ⟨_, by simp [Instr.sliceAt, Instr.sureAddr, run_underlying hu, e1, run_szT hsz, Addr.add_lit]; rfl, ?_⟩
          have hlen : ((cs.drop l).take (hh - l)).length = hh - l := by simp; omega
          have hfull : fullA m true hh n = true → m.getD n - l = hh - l := fun hq => by
            cases m with
            | some m => simp [fullA] at hq ⊢; omega
            | none => simp [fullA] at hq ⊢; omega
          by_cases hz : hh = l
          · subst hz
            simp only [Nat.sub_self, List.take_zero]
            have := fun hq => hfull hq
            simp only [Nat.sub_self] at this
            split <;> exact .slN _ _ _ _ this
          · have hne : ¬ m.getD n = l := by omega
            rw [if_neg hne]
            have hone : ∀ x, x ∈ (cs.drop l).take (hh - l) → x.one = true := fun x hx => by
              obtain ⟨k, hk⟩ := List.mem_iff_getElem?.1 (List.mem_of_mem_drop (List.mem_of_mem_take hx))
              exact g1 k x hk
            have hfl := ones_flat hone
            have hg : ∀ (k : Nat) (y : A), ((cs.drop l).take (hh - l))[k]? = some y → cs[l + k]? = some y := fun k y hk => by
              rw [List.getElem?_take] at hk
              split at hk
              · rwa [List.getElem?_drop] at hk
              · cases hk
            refine .sl _ _ b (off + l) _ _ 1 _ (fun k => g (l + k)) hI hlen.symm (by rw [hlen]; omega) (fun hq => by rw [hlen]; exact hfull hq) (fun z hz => by rw [one_cells (hone z hz)]; rfl)
              (fun k y hk => ?_) (fun k y hk => ?_) (fun k y hk => ?_)
            all_goals rw [hfl] at hk
            · exact g1 _ _ (hg k y hk)
            · rw [Nat.add_assoc]; exact hcell _ _ (hg k y hk)
            · exact hr _ _ (hg k y hk)
      · cases h
    · cases h
  · cases h
end Go.G
