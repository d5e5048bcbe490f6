/-
  How an abstract state of a call stands to the model's state: its objects lie in blocks of their own; what is immutable lies in other blocks; of what was there before the call nothing turns (but what it was handed to write).
-/
import Derived.Test.YtfdlelcipnabpaaAbRel
namespace Go.Ab
set_option linter.unusedVariables false
set_option linter.unusedSimpArgs false
open Go.RowKit

/-- What stays fixed in one activation: the program, the world and the immutable blocks at its beginning, the blocks that it was handed to write, the size of its frame. -/
structure Cx where
  P : Program
  w0 : World
  I0 : Nat → Prop
  M0 : Nat → Prop
  n : Nat

inductive Ob where
  | dead
  | cells (cs : List A)
  | arr (sz : Nat) (xs : List A)

def Ob.live : Ob → Bool
  | .dead => false
  | _ => true

structure Kept (M0 : Nat → Prop) (w w' : World) : Prop where
  os : w'.os = w.os
  tape : w'.tape = w.tape
  output : w'.output = w.output
  size : w.heap.size ≤ w'.heap.size
  block : ∀ b, b < w.heap.size → ¬ M0 b → w'.heap[b]? = w.heap[b]?

def OSim (w : World) (I : Nat → Prop) (μ : Mu) (o : Nat) : Ob → Prop
  | .dead => True
  | .cells cs => ∃ (L : Loc) (vs : Array Value), μ[o]? = some (some L) ∧ w.heap[L.b]? = some (.cells vs L.e (0, 0)) ∧ vs.size = cs.length ∧
      ∀ (k : Nat) (y : A), cs[k]? = some y → y.one = true ∧ Rel w I μ y (vs.getD k undef)
  | .arr sz xs => (μ[o]? = some none ∧ xs = []) ∨ ∃ (L : Loc) (vs : Array Value), μ[o]? = some (some L) ∧ L.sz = sz ∧ w.heap[L.b]? = some (.cells vs L.e (0, 0)) ∧ vs.size = L.cap * sz ∧
      xs.length ≤ L.cap ∧ (∀ x, x ∈ xs → x.cells.length = sz) ∧ ∀ (k : Nat) (y : A), (xs.flatMap A.cells)[k]? = some y → y.one = true ∧ Rel w I μ y (vs.getD k undef)

structure Sim (c : Cx) (w : World) (I : Nat → Prop) (μ : Mu) (H : List Ob) : Prop where
  kept : Kept c.M0 c.w0 w
  lt : ∀ b, I b → b < w.heap.size
  old : ∀ b, c.I0 b → I b
  new : ∀ b, I b → c.I0 b ∨ c.w0.heap.size ≤ b
  len : μ.length = H.length
  ob : ∀ (o : Nat) (ob : Ob), H[o]? = some ob → OSim w I μ o ob
  apart : ∀ (o o' : Nat) (ob ob' : Ob) (L L' : Loc), H[o]? = some ob → ob.live = true → H[o']? = some ob' → ob'.live = true → μ[o]? = some (some L) → μ[o']? = some (some L') → o ≠ o' → L.b ≠ L'.b
  own : ∀ (o : Nat) (ob : Ob) (L : Loc), H[o]? = some ob → ob.live = true → μ[o]? = some (some L) → ¬ I L.b ∧ (c.M0 L.b ∨ c.w0.heap.size ≤ L.b) ∧ L.b < w.heap.size

structure Ext (I : Nat → Prop) (μ : Mu) (w : World) (I' : Nat → Prop) (μ' : Mu) (w' : World) : Prop where
  sub : ∀ b, I b → I' b
  heap : ∀ b, I b → w'.heap[b]? = w.heap[b]?
  mu : ∀ (o : Nat) (L : Loc), μ[o]? = some (some L) → μ'[o]? = some (some L)

theorem Ext.refl (I : Nat → Prop) (μ : Mu) (w : World) : Ext I μ w I μ w := ⟨fun _ h => h, fun _ _ => rfl, fun _ _ h => h⟩
theorem Ext.trans {I I' I'' : Nat → Prop} {μ μ' μ'' : Mu} {w w' w'' : World} (h : Ext I μ w I' μ' w') (k : Ext I' μ' w' I'' μ'' w'') : Ext I μ w I'' μ'' w'' :=
  ⟨fun b hb => k.sub b (h.sub b hb), fun b hb => (k.heap b (h.sub b hb)).trans (h.heap b hb), fun o L hl => k.mu o L (h.mu o L hl)⟩
theorem Ext.rel {I I' : Nat → Prop} {μ μ' : Mu} {w w' : World} (h : Ext I μ w I' μ' w') {a : A} {x : Value} (hr : Rel w I μ a x) : Rel w' I' μ' a x := hr.mono h.sub h.heap h.mu

section
variable {c : Cx} {w w' : World} {I I' : Nat → Prop} {μ μ' : Mu} {H : List Ob} {B : Option Nat}

/-- The one block that may have been written is a live object's. -/
def Hits (H : List Ob) (μ : Mu) (B : Option Nat) : Prop := ∀ b, B = some b → ∃ (o : Nat) (ob : Ob) (L : Loc), H[o]? = some ob ∧ ob.live = true ∧ μ[o]? = some (some L) ∧ L.b = b

theorem Hits.none (H : List Ob) (μ : Mu) : Hits H μ none := fun _ h => nomatch h

theorem Sim.ext (hs : Sim c w I μ H) (hg : w.grownBy w' B) (hB : Hits H μ B) (hI : ∀ b, I b → I' b) : Ext I μ w I' μ w' :=
  ⟨hI, fun b hb => hg.block b (hs.lt b hb) (fun e => by
    obtain ⟨o, ob, L, h1, h2, h3, rfl⟩ := hB b e.symm
    exact (hs.own o ob L h1 h2 h3).1 hb), fun _ _ h => h⟩

theorem Sim.kept' (hs : Sim c w I μ H) (hg : w.grownBy w' B) (hB : Hits H μ B) : Kept c.M0 c.w0 w' :=
  ⟨hg.os.trans hs.kept.os, hg.tape.trans hs.kept.tape, hg.output.trans hs.kept.output, Nat.le_trans hs.kept.size hg.size, fun b hb hm => by
    have := hs.kept.size
    refine (hg.block b (by omega) (fun e => ?_)).trans (hs.kept.block b hb hm)
    obtain ⟨o, ob, L, h1, h2, h3, rfl⟩ := hB b e.symm
    rcases (hs.own o ob L h1 h2 h3).2.1 with h | h
    · exact hm h
    · omega⟩

theorem OSim.keep (h : Ext I μ w I' μ' w') {o : Nat} {ob : Ob} (hlen : o < μ.length) (hn : μ[o]? = some none → μ'[o]? = some none) (hk : ob.live = true → ∀ L, μ[o]? = some (some L) → w'.heap[L.b]? = w.heap[L.b]?) (hs : OSim w I μ o ob) : OSim w' I' μ' o ob := by
  cases ob with
  | dead => trivial
  | cells cs =>
    obtain ⟨L, vs, h1, h2, h3, h4⟩ := hs
    exact ⟨L, vs, h.mu _ _ h1, (hk rfl L h1).trans h2, h3, fun k y hy => ⟨(h4 k y hy).1, h.rel (h4 k y hy).2⟩⟩
  | arr sz xs =>
    rcases hs with ⟨h1, h2⟩ | ⟨L, vs, h1, h2, h3, h4, h5, h6, h7⟩
    · exact .inl ⟨hn h1, h2⟩
    · exact .inr ⟨L, vs, h.mu _ _ h1, h2, (hk rfl L h1).trans h3, h4, h5, h6, fun k y hy => ⟨(h7 k y hy).1, h.rel (h7 k y hy).2⟩⟩

/-- Nothing of the call's own has turned; immutable blocks may have come. -/
theorem Sim.same (hs : Sim c w I μ H) (hg : w.grownBy w' none) (hI : ∀ b, I b → I' b) (hI' : ∀ b, I' b → I b ∨ (w.heap.size ≤ b ∧ b < w'.heap.size)) : Ext I μ w I' μ w' ∧ Sim c w' I' μ H := by
  have hx := hs.ext hg (Hits.none _ _) hI
  have hsz := hg.size
  have h0 := hs.kept.size
  refine ⟨hx, hs.kept' hg (Hits.none _ _), fun b hb => ?_, fun b hb => hI b (hs.old b hb), fun b hb => ?_, hs.len, fun o ob ho => ?_, hs.apart, fun o ob L h1 h2 h3 => ?_⟩
  · rcases hI' b hb with h | h
    · have := hs.lt b h; omega
    · exact h.2
  · rcases hI' b hb with h | h
    · exact hs.new b h
    · right; omega
  · have hlt : o < H.length := (List.getElem?_eq_some_iff.1 ho).1
    exact OSim.keep hx (hs.len ▸ hlt) (fun h => h) (fun hl L hL => hg.block _ (hs.own o ob L ho hl hL).2.2 (by simp)) (hs.ob o ob ho)
  · obtain ⟨k1, k2, k3⟩ := hs.own o ob L h1 h2 h3
    refine ⟨fun hb => ?_, k2, by omega⟩
    rcases hI' _ hb with h | h
    · exact k1 h
    · omega

/-- A new object. -/
theorem Sim.push (hs : Sim c w I μ H) (hg : w.grownBy w' none) (l : Option Loc) (ob : Ob) (hl : ∀ L, l = some L → w.heap.size ≤ L.b ∧ L.b < w'.heap.size)
    (hob : Ext I μ w I (μ ++ [l]) w' → OSim w' I (μ ++ [l]) H.length ob) : Ext I μ w I (μ ++ [l]) w' ∧ Sim c w' I (μ ++ [l]) (H ++ [ob]) := by
  have hx0 := hs.ext hg (Hits.none _ _) (fun b hb => hb : ∀ b, I b → I b)
  have hsz := hg.size
  have h0 := hs.kept.size
  have hmu : ∀ (o : Nat), o < μ.length → (μ ++ [l])[o]? = μ[o]? := fun o ho => List.getElem?_append_left ho
  have hx : Ext I μ w I (μ ++ [l]) w' := ⟨hx0.sub, hx0.heap, fun o L h => by rw [hmu o (List.getElem?_eq_some_iff.1 h).1]; exact h⟩
  have hcase : ∀ (o : Nat) (b : Ob), (H ++ [ob])[o]? = some b → (o < H.length ∧ H[o]? = some b) ∨ (o = H.length ∧ b = ob) := fun o b h => by
    rcases Nat.lt_or_ge o H.length with h1 | h1
    · rw [List.getElem?_append_left h1] at h; exact .inl ⟨h1, h⟩
    · rw [List.getElem?_append_right h1] at h
      have h2 := (List.getElem?_eq_some_iff.1 h).1
      simp only [List.length_singleton] at h2
      have h3 : o - H.length = 0 := by omega
      rw [h3] at h
      simp only [List.getElem?_cons_zero, Option.some.injEq] at h
      exact .inr ⟨by omega, h.symm⟩
  have hlast : ∀ L, (μ ++ [l])[H.length]? = some (some L) → l = some L := fun L h => by
    rw [← hs.len] at h; simpa using h
  refine ⟨hx, hs.kept' hg (Hits.none _ _), fun b hb => by have := hs.lt b hb; omega, hs.old, hs.new, by simp [hs.len], fun o b ho => ?_, ?_, fun o b L h1 h2 h3 => ?_⟩
  · rcases hcase o b ho with ⟨h1, h2⟩ | ⟨rfl, rfl⟩
    · refine OSim.keep hx (hs.len ▸ h1) (fun h => by rw [hmu o (hs.len ▸ h1)]; exact h) (fun hv L hL => hg.block _ (hs.own o b L h2 hv hL).2.2 (by simp)) (hs.ob o b h2)
    · exact hob hx
  · intro o o' b b' L L' h1 h2 h3 h4 h5 h6 hne
    rcases hcase o b h1 with ⟨k1, k2⟩ | ⟨rfl, rfl⟩
    · rw [hmu o (hs.len ▸ k1)] at h5
      rcases hcase o' b' h3 with ⟨k3, k4⟩ | ⟨rfl, rfl⟩
      · rw [hmu o' (hs.len ▸ k3)] at h6
        exact hs.apart o o' b b' L L' k2 h2 k4 h4 h5 h6 hne
      · have e1 := hl L' (hlast L' h6)
        have e2 := (hs.own o b L k2 h2 h5).2.2
        omega
    · rcases hcase o' b' h3 with ⟨k3, k4⟩ | ⟨rfl, rfl⟩
      · rw [hmu o' (hs.len ▸ k3)] at h6
        have e1 := hl L (hlast L h5)
        have e2 := (hs.own o' b' L' k4 h4 h6).2.2
        omega
      · exact (hne rfl).elim
  · rcases hcase o b h1 with ⟨k1, k2⟩ | ⟨rfl, rfl⟩
    · rw [hmu o (hs.len ▸ k1)] at h3
      obtain ⟨e1, e2, e3⟩ := hs.own o b L k2 h2 h3
      exact ⟨e1, e2, by omega⟩
    · have e1 := hl L (hlast L h3)
      exact ⟨fun hb => by have := hs.lt _ hb; omega, .inr (by omega), e1.2⟩

/-- An object is written. -/
theorem Sim.put (hs : Sim c w I μ H) (hg : w.grownBy w' B) (o : Nat) (ob0 ob : Ob) (L : Loc) (ho : H[o]? = some ob0) (hl0 : ob0.live = true) (hL : μ[o]? = some (some L)) (hB : B = some L.b)
    (hob : Ext I μ w I μ w' → OSim w' I μ o ob) : Ext I μ w I μ w' ∧ Sim c w' I μ (H.set o ob) := by
  subst hB
  have hit : Hits H μ (some L.b) := fun b hb => ⟨o, ob0, L, ho, hl0, hL, Option.some.inj hb⟩
  have hx := hs.ext hg hit (fun b hb => hb : ∀ b, I b → I b)
  have hsz := hg.size
  have hlt : o < H.length := (List.getElem?_eq_some_iff.1 ho).1
  have hcase : ∀ (i : Nat) (b : Ob), (H.set o ob)[i]? = some b → (i ≠ o ∧ H[i]? = some b) ∨ (i = o ∧ b = ob) := fun i b h => by
    by_cases e : i = o
    · subst e; rw [List.getElem?_set_self hlt] at h; exact .inr ⟨rfl, (Option.some.inj h).symm⟩
    · rw [List.getElem?_set_ne (Ne.symm e)] at h; exact .inl ⟨e, h⟩
  refine ⟨hx, hs.kept' hg hit, fun b hb => by have := hs.lt b hb; omega, hs.old, hs.new, by simp [hs.len], fun i b hi => ?_, ?_, fun i b L' h1 h2 h3 => ?_⟩
  · rcases hcase i b hi with ⟨h1, h2⟩ | ⟨rfl, rfl⟩
    · have hlt' : i < H.length := (List.getElem?_eq_some_iff.1 h2).1
      exact OSim.keep hx (hs.len ▸ hlt') (fun h => h) (fun hv L' hL' => hg.block _ (hs.own i b L' h2 hv hL').2.2 (fun e => hs.apart i o b ob0 L' L h2 hv ho hl0 hL' hL h1 (Option.some.inj e))) (hs.ob i b h2)
    · exact hob hx
  · intro i i' b b' L1 L2 h1 h2 h3 h4 h5 h6 hne
    have get : ∀ (j : Nat) (bb : Ob), (H.set o ob)[j]? = some bb → bb.live = true → ∃ b0, H[j]? = some b0 ∧ b0.live = true := fun j bb hj hb => by
      rcases hcase j bb hj with ⟨_, k⟩ | ⟨rfl, _⟩
      · exact ⟨bb, k, hb⟩
      · exact ⟨ob0, ho, hl0⟩
    obtain ⟨x1, y1, z1⟩ := get i b h1 h2
    obtain ⟨x2, y2, z2⟩ := get i' b' h3 h4
    exact hs.apart i i' x1 x2 L1 L2 y1 z1 y2 z2 h5 h6 hne
  · have : ∃ b0, H[i]? = some b0 ∧ b0.live = true := by
      rcases hcase i b h1 with ⟨_, k⟩ | ⟨rfl, _⟩
      · exact ⟨b, k, h2⟩
      · exact ⟨ob0, ho, hl0⟩
    obtain ⟨b0, k1, k2⟩ := this
    obtain ⟨e1, e2, e3⟩ := hs.own i b0 L' k1 k2 h3
    exact ⟨e1, e2, by omega⟩

/-- An object is given up. -/
theorem Sim.kill (hs : Sim c w I μ H) (o : Nat) : Sim c w I μ (H.set o .dead) := by
  have hcase : ∀ (i : Nat) (b : Ob), (H.set o .dead)[i]? = some b → H[i]? = some b ∨ b = .dead := fun i b h => by
    by_cases e : i = o
    · subst e
      rw [List.getElem?_set] at h
      split at h
      · split at h
        · exact .inr (Option.some.inj h).symm
        · cases h
      · exact .inl h
    · rw [List.getElem?_set_ne (Ne.symm e)] at h; exact .inl h
  have hlive : ∀ (i : Nat) (b : Ob), (H.set o .dead)[i]? = some b → b.live = true → H[i]? = some b := fun i b h hl => by
    rcases hcase i b h with h | rfl
    · exact h
    · cases hl
  exact ⟨hs.kept, hs.lt, hs.old, hs.new, by simp [hs.len], fun i b hi => by
      rcases hcase i b hi with h | rfl
      · exact hs.ob i b h
      · trivial,
    fun i i' b b' L L' h1 h2 h3 h4 => hs.apart i i' b b' L L' (hlive i b h1 h2) h2 (hlive i' b' h3 h4) h4, fun i b L h1 h2 => hs.own i b L (hlive i b h1 h2) h2⟩

/-- A row goes over, with its block, to a new number. -/
theorem Sim.moved (hs : Sim c w I μ H) (hg : w.grownBy w' B) (o : Nat) (ob0 ob : Ob) (L L' : Loc) (ho : H[o]? = some ob0) (hl0 : ob0.live = true) (hL : μ[o]? = some (some L)) (hB : B = some L.b) (hb : L'.b = L.b)
    (hob : Ext I μ w I (μ ++ [some L']) w' → OSim w' I (μ ++ [some L']) H.length ob) : Ext I μ w I (μ ++ [some L']) w' ∧ Sim c w' I (μ ++ [some L']) (H.set o .dead ++ [ob]) := by
  subst hB
  have hit : Hits H μ (some L.b) := fun b hb => ⟨o, ob0, L, ho, hl0, hL, Option.some.inj hb⟩
  have hx0 := hs.ext hg hit (fun b hb => hb : ∀ b, I b → I b)
  have hsz := hg.size
  have hmu : ∀ (i : Nat), i < μ.length → (μ ++ [some L'])[i]? = μ[i]? := fun i hi => List.getElem?_append_left hi
  have hx : Ext I μ w I (μ ++ [some L']) w' := ⟨hx0.sub, hx0.heap, fun i L h => by rw [hmu i (List.getElem?_eq_some_iff.1 h).1]; exact h⟩
  have hlt : o < H.length := (List.getElem?_eq_some_iff.1 ho).1
  have hcase : ∀ (i : Nat) (b : Ob), (H.set o .dead ++ [ob])[i]? = some b → (i < H.length ∧ i ≠ o ∧ H[i]? = some b) ∨ (i = o ∧ b = .dead) ∨ (i = H.length ∧ b = ob) := fun i b h => by
    rcases Nat.lt_or_ge i H.length with h1 | h1
    · rw [List.getElem?_append_left (by simpa using h1)] at h
      by_cases e : i = o
      · subst e; rw [List.getElem?_set_self hlt] at h; exact .inr (.inl ⟨rfl, (Option.some.inj h).symm⟩)
      · rw [List.getElem?_set_ne (Ne.symm e)] at h; exact .inl ⟨h1, e, h⟩
    · rw [List.getElem?_append_right (by simpa using h1)] at h
      have h2 := (List.getElem?_eq_some_iff.1 h).1
      simp only [List.length_singleton, List.length_set] at h2 h
      have h3 : i - H.length = 0 := by omega
      rw [h3] at h
      simp only [List.getElem?_cons_zero, Option.some.injEq] at h
      exact .inr (.inr ⟨by omega, h.symm⟩)
  have hlast : ∀ L0, (μ ++ [some L'])[H.length]? = some (some L0) → L0 = L' := fun L0 h => by
    rw [← hs.len] at h; simpa using h.symm
  obtain ⟨o1, o2, o3⟩ := hs.own o ob0 L ho hl0 hL
  refine ⟨hx, hs.kept' hg hit, fun b hb => by have := hs.lt b hb; omega, hs.old, hs.new, by simp [hs.len], fun i b hi => ?_, ?_, fun i b L0 h1 h2 h3 => ?_⟩
  · rcases hcase i b hi with ⟨h0, h1, h2⟩ | ⟨rfl, rfl⟩ | ⟨rfl, rfl⟩
    · exact OSim.keep hx (hs.len ▸ h0) (fun h => by rw [hmu i (hs.len ▸ h0)]; exact h) (fun hv L' hL' => hg.block _ (hs.own i b L' h2 hv hL').2.2 (fun e => hs.apart i o b ob0 L' L h2 hv ho hl0 hL' hL h1 (Option.some.inj e))) (hs.ob i b h2)
    · trivial
    · exact hob hx
  · intro i i' b b' L1 L2 h1 h2 h3 h4 h5 h6 hne
    rcases hcase i b h1 with ⟨p1, p2, p3⟩ | ⟨rfl, rfl⟩ | ⟨rfl, rfl⟩
    · rw [hmu i (hs.len ▸ p1)] at h5
      rcases hcase i' b' h3 with ⟨q1, q2, q3⟩ | ⟨rfl, rfl⟩ | ⟨rfl, rfl⟩
      · rw [hmu i' (hs.len ▸ q1)] at h6
        exact hs.apart i i' b b' L1 L2 p3 h2 q3 h4 h5 h6 hne
      · cases h4
      · rw [hlast L2 h6, hb]
        exact hs.apart i o b ob0 L1 L p3 h2 ho hl0 h5 hL p2
    · cases h2
    · rcases hcase i' b' h3 with ⟨q1, q2, q3⟩ | ⟨rfl, rfl⟩ | ⟨rfl, rfl⟩
      · rw [hmu i' (hs.len ▸ q1)] at h6
        rw [hlast L1 h5, hb]
        exact hs.apart o i' ob0 b' L L2 ho hl0 q3 h4 hL h6 (Ne.symm q2)
      · cases h4
      · exact (hne rfl).elim
  · rcases hcase i b h1 with ⟨p1, p2, p3⟩ | ⟨rfl, rfl⟩ | ⟨rfl, rfl⟩
    · rw [hmu i (hs.len ▸ p1)] at h3
      obtain ⟨e1, e2, e3⟩ := hs.own i b L0 p3 h2 h3
      exact ⟨e1, e2, by omega⟩
    · cases h2
    · rw [hlast L0 h3, hb]
      exact ⟨o1, o2, by omega⟩
end
end Go.Ab
