/-
  Chapter 16, plain: places that are hashed by hand.
-/
import Derived.Test.YtigdcnlhgelkaaaP15
namespace Go.PL
set_option linter.unusedVariables false
set_option linter.unusedSimpArgs false

/-- Where one comes to from a place on: the first place that is free, or where it is to stop. -/
def fndP (stop : Nat → Bool) (pl : List Nat) : Nat → Nat → Nat
  | 0, a => a
  | f + 1, a => if pl.getD a 0 = 0 then a else if stop (pl.getD a 0) = true then a else fndP stop pl f ((a + 1) % pl.length)

theorem mod_succ (a d m : Nat) : ((a + 1) % m + d) % m = (a + (d + 1)) % m := by
  rw [Nat.mod_add_mod]
  congr 1
  omega
theorem fndP_spec {stop : Nat → Bool} {pl : List Nat} : ∀ (f a d : Nat), a < pl.length → d < f → pl.getD ((a + d) % pl.length) 0 = 0 →
    fndP stop pl f a < pl.length ∧ (pl.getD (fndP stop pl f a) 0 = 0 ∨ stop (pl.getD (fndP stop pl f a) 0) = true) ∧
      ∃ k, fndP stop pl f a = (a + k) % pl.length ∧ ∀ e, e < k → pl.getD ((a + e) % pl.length) 0 ≠ 0 ∧ stop (pl.getD ((a + e) % pl.length) 0) = false := by
  intro f
  induction f with
  | zero => intro a d _ h; omega
  | succ f ih =>
    intro a d ha hd hz
    unfold fndP
    have hself : ∃ k, a = (a + k) % pl.length ∧ ∀ e, e < k → pl.getD ((a + e) % pl.length) 0 ≠ 0 ∧ stop (pl.getD ((a + e) % pl.length) 0) = false := ⟨0, by rw [Nat.add_zero, Nat.mod_eq_of_lt ha], fun e he => by omega⟩
    split
    · rename_i h0
      exact ⟨ha, .inl h0, hself⟩
    · rename_i h0
      split
      · rename_i h1
        exact ⟨ha, .inr h1, hself⟩
      · rename_i h1
        cases d with
        | zero => rw [Nat.add_zero, Nat.mod_eq_of_lt ha] at hz; exact absurd hz h0
        | succ d =>
          obtain ⟨p1, p2, k, p3, p4⟩ := ih ((a + 1) % pl.length) d (Nat.mod_lt _ (by omega)) (by omega) (by rw [mod_succ]; exact hz)
          refine ⟨p1, p2, k + 1, by rw [p3, mod_succ], fun e he => ?_⟩
          cases e with
          | zero => rw [Nat.add_zero, Nat.mod_eq_of_lt ha]; exact ⟨h0, by simpa using h1⟩
          | succ e =>
            have := p4 e (by omega)
            rwa [mod_succ] at this

/-- Places of so many classes, by their numbers. -/
structure Pl (hs : List Nat) (pl : List Nat) : Prop where
  cnt : pl.countP (fun v => v != 0) = hs.length
  vals : ∀ v, v ∈ pl → v ≤ hs.length
  reach : ∀ (c : Nat) (hc : c < hs.length), ∃ d, pl[(hs[c] + d) % pl.length]? = some (c + 1) ∧ ∀ e, e < d → pl.getD ((hs[c] + e) % pl.length) 0 ≠ 0

theorem Pl.free {hs pl : List Nat} (h : Pl hs pl) (hl : hs.length < pl.length) (a : Nat) : ∃ d, d < pl.length ∧ pl.getD ((a + d) % pl.length) 0 = 0 := by
  have hm : ∃ v, v ∈ pl ∧ v = 0 := by
    apply Classical.byContradiction
    intro hn
    have : pl.countP (fun v => v != 0) = pl.length := List.countP_eq_length.2 fun v hv => by
      simp only [bne_iff_ne, ne_eq]
      exact fun e => hn ⟨v, hv, e⟩
    have := h.cnt
    omega
  obtain ⟨v, hv, rfl⟩ := hm
  obtain ⟨i, hi, e⟩ := List.mem_iff_getElem.1 hv
  refine ⟨(i + (pl.length - a % pl.length)) % pl.length, Nat.mod_lt _ (by omega), ?_⟩
  have : (a + (i + (pl.length - a % pl.length)) % pl.length) % pl.length = i := by
    rw [Nat.add_mod_mod]
    have h1 := Nat.mod_lt a (show 0 < pl.length by omega)
    have h2 := Nat.div_add_mod a pl.length
    have h3 : a + (i + (pl.length - a % pl.length)) = i + pl.length * (a / pl.length + 1) := by
      rw [Nat.mul_add, Nat.mul_one]
      omega
    rw [h3, Nat.add_mul_mod_self_left, Nat.mod_eq_of_lt hi]
  rw [this]
  simp [hi, e]

theorem countP_set {pl : List Nat} {a v : Nat} (ha : a < pl.length) (h0 : pl.getD a 0 = 0) (hv : v ≠ 0) : (pl.set a v).countP (fun v => v != 0) = pl.countP (fun v => v != 0) + 1 := by
  induction pl generalizing a with
  | nil => simp at ha
  | cons x l ih =>
    cases a with
    | zero =>
      simp at h0
      subst h0
      simp [hv]
    | succ a =>
      simp only [List.set_cons_succ, List.countP_cons]
      rw [ih (by simpa using ha) (by simpa using h0)]
      omega
theorem Pl.ins {hs pl : List Nat} (h : Pl hs pl) {x a k : Nat} (ha : a < pl.length) (h0 : pl.getD a 0 = 0) (he : a = (x + k) % pl.length) (hk : ∀ e, e < k → pl.getD ((x + e) % pl.length) 0 ≠ 0) : Pl (hs ++ [x]) (pl.set a (hs.length + 1)) := by
  have hmod : ∀ y, y % pl.length < pl.length := fun y => Nat.mod_lt _ (by omega)
  have nz : ∀ y, pl.getD (y % pl.length) 0 ≠ 0 → (pl.set a (hs.length + 1)).getD (y % pl.length) 0 ≠ 0 := fun y hy => by
    have hne : a ≠ y % pl.length := fun e => hy (by rw [← e]; exact h0)
    simpa [List.getD_eq_getElem?_getD, List.getElem?_set_ne hne] using hy
  refine ⟨?_, fun v hv => ?_, fun c hc => ?_⟩
  · rw [countP_set ha h0 (by omega), h.cnt]; simp
  · rw [List.length_append, List.length_singleton]
    rcases List.mem_or_eq_of_mem_set hv with hv | rfl
    · have := h.vals v hv; omega
    · omega
  · simp only [List.length_set]
    by_cases hcl : c < hs.length
    · obtain ⟨d, h1, h2⟩ := h.reach c hcl
      rw [List.getElem_append_left hcl]
      refine ⟨d, ?_, fun e he => nz _ (h2 e he)⟩
      have hne : a ≠ (hs[c] + d) % pl.length := fun e => by
        rw [← e] at h1
        rw [List.getD_eq_getElem?_getD, h1] at h0
        simp at h0
      rw [List.getElem?_set_ne hne, h1]
    · have : c = hs.length := by simp at hc; omega
      subst this
      rw [List.getElem_append_right (Nat.le_refl _)]
      simp only [Nat.sub_self, List.getElem_cons_zero]
      refine ⟨k, ?_, fun e he => nz _ (hk e he)⟩
      rw [← he, List.getElem?_set_self ha]

/-- Places anew, of more. -/
def insP (pl : List Nat) (x v : Nat) : List Nat := pl.set (fndP (fun _ => false) pl pl.length (x % pl.length)) v
def growP : List Nat → Nat → List Nat → List Nat
  | pl, _, [] => pl
  | pl, i, x :: hs => growP (insP pl x (i + 1)) (i + 1) hs
@[simp] theorem insP_length {pl : List Nat} {x v : Nat} : (insP pl x v).length = pl.length := by simp [insP]
theorem growP_length : ∀ {hs pl : List Nat} {i : Nat}, (growP pl i hs).length = pl.length
  | [], _, _ => rfl
  | x :: hs, pl, i => by rw [growP, growP_length, insP_length]
theorem Pl.nil (m : Nat) : Pl [] (List.replicate m 0) := by
  refine ⟨?_, fun v hv => ?_, fun c hc => ?_⟩
  · simp [List.countP_replicate]
  · simp at hv; omega
  · simp at hc
theorem fndP_mod {stop : Nat → Bool} {pl : List Nat} {x : Nat} {hs : List Nat} (h : Pl hs pl) (hl : hs.length < pl.length) :
    fndP stop pl pl.length (x % pl.length) < pl.length ∧ (pl.getD (fndP stop pl pl.length (x % pl.length)) 0 = 0 ∨ stop (pl.getD (fndP stop pl pl.length (x % pl.length)) 0) = true) ∧
      ∃ k, fndP stop pl pl.length (x % pl.length) = (x + k) % pl.length ∧ ∀ e, e < k → pl.getD ((x + e) % pl.length) 0 ≠ 0 ∧ stop (pl.getD ((x + e) % pl.length) 0) = false := by
  obtain ⟨d, h1, h2⟩ := h.free hl (x % pl.length)
  have := fndP_spec (stop := stop) pl.length (x % pl.length) d (Nat.mod_lt _ (by omega)) h1 h2
  simpa using this
theorem Pl.insP {hs pl : List Nat} (h : Pl hs pl) (hl : hs.length < pl.length) (x : Nat) : Pl (hs ++ [x]) (insP pl x (hs.length + 1)) := by
  obtain ⟨h1, h2, k, h3, h4⟩ := fndP_mod (stop := fun _ => false) (x := x) h hl
  refine h.ins h1 (h2.resolve_right (by simp)) h3 fun e he => (h4 e he).1
theorem Pl.grow : ∀ {hs2 hs pl : List Nat}, Pl hs pl → hs.length + hs2.length ≤ pl.length → Pl (hs ++ hs2) (growP pl hs.length hs2)
  | [], hs, pl, h, _ => by simpa [growP] using h
  | x :: hs2, hs, pl, h, hl => by
    simp only [List.length_cons] at hl
    have h1 := h.insP (by omega) x
    have := Pl.grow (hs2 := hs2) h1 (by simp; omega)
    rw [List.append_assoc] at this
    simpa [growP] using this

/-- The class of a Norm. -/
noncomputable def clsI (ks : List T) (n : T) : Nat := ks.findIdx (fun k => sameB k n)
noncomputable def clsK (ks : List T) (n : T) : List T := if clsI ks n < ks.length then ks else ks ++ [n]
theorem clsI_at {ks : List T} {n : T} {i : Nat} (h : i < ks.length) (e : ks[i] = n) (hd : ks.Nodup) : clsI ks n = i := by
  have h1 : clsI ks n ≤ i := by
    apply Classical.byContradiction
    intro hn
    have := List.not_of_lt_findIdx (p := fun k => sameB k n) (xs := ks) (i := i) (by unfold clsI at hn; omega)
    simp [sameB_iff.2 e] at this
  have h2 : clsI ks n < ks.length := by omega
  have h3 : ks[clsI ks n] = n := sameB_iff.1 (List.findIdx_getElem (p := fun k => sameB k n) (w := h2))
  apply Classical.byContradiction
  intro hn
  have h4 : clsI ks n < i := by omega
  have := List.pairwise_iff_getElem.1 hd _ _ h2 h h4
  exact this (by rw [h3, e])
theorem clsI_none {ks : List T} {n : T} (h : n ∉ ks) : clsI ks n = ks.length := by
  unfold clsI
  rw [List.findIdx_eq_length]
  intro x hx
  rw [Bool.eq_false_iff]
  intro e
  rw [sameB_iff] at e
  subst e
  exact h hx
theorem clsI_le (ks : List T) (n : T) : clsI ks n ≤ ks.length := List.findIdx_le_length
theorem clsI_lt {ks : List T} {n : T} : clsI ks n < ks.length ↔ n ∈ ks := by
  constructor
  · intro h
    have h3 : ks[clsI ks n] = n := sameB_iff.1 (List.findIdx_getElem (p := fun k => sameB k n) (w := h))
    rw [← h3]
    exact List.getElem_mem _
  · intro h
    have := clsI_le ks n
    apply Classical.byContradiction
    intro hn
    have e : clsI ks n = ks.length := by omega
    have := (List.findIdx_eq_length (p := fun k => sameB k n) (xs := ks)).1 e n h
    rw [Bool.eq_false_iff] at this
    exact this (sameB_iff.2 rfl)
theorem clsK_nodup {ks : List T} {n : T} (h : ks.Nodup) : (clsK ks n).Nodup := by
  unfold clsK
  split
  · exact h
  · rename_i hn
    rw [clsI_lt] at hn
    rw [List.nodup_append]
    exact ⟨h, by simp, fun a ha b hb => by simp at hb; subst hb; exact fun e => hn (e ▸ ha)⟩
/-- Of trees, one behind the other. -/
noncomputable def clsL : List T → List T → List T × List Nat
  | ks, [] => (ks, [])
  | ks, t :: l => ((clsL (clsK ks (norm t)) l).1, clsI ks (norm t) :: (clsL (clsK ks (norm t)) l).2)
end Go.PL
