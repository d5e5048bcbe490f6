/-
  Chapters 12 and 14, plain: trees as words.
-/
import Derived.Test.YtigdcnlhgelkaaaP15
namespace Go.PL
set_option linter.unusedVariables false
set_option linter.unusedSimpArgs false

/-- A pointer's word: from a place to another one; its kind, its upper half. -/
def ptrZ (at_ to kind upper : Int) : Int := 4 * (if to - at_ - 1 < 0 then to - at_ - 1 + 1073741824 else to - at_ - 1) + kind + upper * 4294967296
/-- Numbers side by side, of so many bits each. -/
def putL (w : Nat) : List Int → Nat → List Int → List Int
  | [], _, out => out
  | n :: ns, i, out => putL w ns (i + 1) (if w = 0 then out else out.set (i * w / 64) (out.getD (i * w / 64) 0 + n * 2 ^ (i * w % 64)))
def putZ (c : Int) (ns : List Int) : List Int := putL (widthZ c).toNat ns 0 (List.replicate (roomZ c ns.length).toNat 0)
def hd (t : T) : Int := t.words.headD 0
/-- Words laid over others. -/
def setW : Nat → List Int → List Int → List Int
  | _, [], l => l
  | b, x :: ws, l => setW (b + 1) ws (l.set b x)
/-- The structs of a list, without their kids. -/
def rowsC (w k : Nat) : List T → List Int
  | [] => []
  | t :: ts => t.words ++ List.replicate (w + k - t.words.length) 0 ++ rowsC w k ts
mutual
/-- A tree that is its Norm, to which a word points. -/
def layT : T → Nat → List Int → List Int
  | .mk k w ks, at_, l =>
    if k = 0 then l
    else if k = 1 then layL ks (l.length + w.length) (l.set at_ (ptrZ at_ (if w.length + ks.length = 0 then at_ else l.length) 0 ((w.length : Int) + 65536 * ks.length)) ++ w ++ List.replicate ks.length 0)
    else if k = 8 then layL ks l.length (l.set at_ (ptrZ at_ l.length 1 (6 + 8 * ks.length)) ++ List.replicate ks.length 0)
    else if k = 9 then layC (frameW ks) (frameK ks) ks (l.length + 1) (l.set at_ (ptrZ at_ l.length 1 (7 + 8 * (ks.length * (frameW ks + frameK ks) : Nat))) ++ [4 * (ks.length : Int) + 4294967296 * ((frameW ks : Int) + 65536 * frameK ks)] ++ rowsC (frameW ks) (frameK ks) ks)
    else l.set at_ (ptrZ at_ l.length 1 (k - 2 + 8 * ks.length)) ++ putZ (k - 2) (ks.map hd)
def layL : List T → Nat → List Int → List Int
  | [], _, l => l
  | t :: ts, at_, l => layL ts (at_ + 1) (layT t at_ l)
def layC (w k : Nat) : List T → Nat → List Int → List Int
  | [], _, l => l
  | .mk _ _ ks :: ts, at_, l => layC w k ts (at_ + (w + k)) (layL ks (at_ + w) l)
end
theorem layT_mk (k : Int) (w : List Int) (ks : List T) (at_ : Nat) (l : List Int) : layT (.mk k w ks) at_ l = if k = 0 then l
    else if k = 1 then layL ks (l.length + w.length) (l.set at_ (ptrZ at_ (if w.length + ks.length = 0 then at_ else l.length) 0 ((w.length : Int) + 65536 * ks.length)) ++ w ++ List.replicate ks.length 0)
    else if k = 8 then layL ks l.length (l.set at_ (ptrZ at_ l.length 1 (6 + 8 * ks.length)) ++ List.replicate ks.length 0)
    else if k = 9 then layC (frameW ks) (frameK ks) ks (l.length + 1) (l.set at_ (ptrZ at_ l.length 1 (7 + 8 * (ks.length * (frameW ks + frameK ks) : Nat))) ++ [4 * (ks.length : Int) + 4294967296 * ((frameW ks : Int) + 65536 * frameK ks)] ++ rowsC (frameW ks) (frameK ks) ks)
    else l.set at_ (ptrZ at_ l.length 1 (k - 2 + 8 * ks.length)) ++ putZ (k - 2) (ks.map hd) := by rw [layT]
@[simp] theorem layL_nil (at_ : Nat) (l : List Int) : layL [] at_ l = l := by rw [layL]
@[simp] theorem layL_cons (t : T) (ts : List T) (at_ : Nat) (l : List Int) : layL (t :: ts) at_ l = layL ts (at_ + 1) (layT t at_ l) := by rw [layL]
@[simp] theorem layC_nil (w k at_ : Nat) (l : List Int) : layC w k [] at_ l = l := by rw [layC]
@[simp] theorem layC_cons (w k : Nat) (t : T) (ts : List T) (at_ : Nat) (l : List Int) : layC w k (t :: ts) at_ l = layC w k ts (at_ + (w + k)) (layL t.kids (at_ + w) l) := by cases t; rw [layC]; rfl
theorem layL_append : ∀ (ts us : List T) (at_ : Nat) (l : List Int), layL (ts ++ us) at_ l = layL us (at_ + ts.length) (layL ts at_ l)
  | [], us, at_, l => by simp
  | t :: ts, us, at_, l => by
    simp only [List.cons_append, layL_cons, layL_append ts, List.length_cons]
    rw [show at_ + 1 + ts.length = at_ + (ts.length + 1) from by omega]

theorem putL_length : ∀ (w : Nat) (ns : List Int) (i : Nat) (out : List Int), (putL w ns i out).length = out.length
  | w, [], i, out => rfl
  | w, n :: ns, i, out => by
    rw [putL, putL_length]
    split <;> simp
@[simp] theorem putZ_length (c : Int) (ns : List Int) : (putZ c ns).length = (roomZ c ns.length).toNat := by simp [putZ, putL_length]
@[simp] theorem setW_length : ∀ (b : Nat) (ws l : List Int), (setW b ws l).length = l.length
  | _, [], _ => rfl
  | b, x :: ws, l => by rw [setW, setW_length, List.length_set]

/-! ### numbers side by side -/
/-- So far nothing stands behind. -/
structure PutI (w i : Nat) (out : List Int) : Prop where
  rng : ∀ (j : Nat) (h : j < out.length), 0 ≤ out[j] ∧ out[j] < 18446744073709551616
  here : ∀ (h : i * w / 64 < out.length), out[i * w / 64] < 2 ^ (i * w % 64)
  zero : ∀ (j : Nat) (h : j < out.length), i * w / 64 < j → out[j] = 0
theorem PutI.start (w m : Nat) : PutI w 0 (List.replicate m 0) := ⟨fun j h => by simp, fun h => by simp, fun j h _ => by simp⟩
theorem putI_step {w i : Nat} {out : List Int} (h : PutI w i out) (hw : w = 1 ∨ w = 8 ∨ w = 16 ∨ w = 32 ∨ w = 64) {n : Int} (h0 : 0 ≤ n) (h1 : n < 2 ^ w) (hl : i * w / 64 < out.length) : PutI w (i + 1) (out.set (i * w / 64) (out.getD (i * w / 64) 0 + n * 2 ^ (i * w % 64))) ∧
    0 ≤ out.getD (i * w / 64) 0 ∧ out.getD (i * w / 64) 0 < 2 ^ (i * w % 64) ∧ n * 2 ^ (i * w % 64) < 18446744073709551616 ∧ out.getD (i * w / 64) 0 + n * 2 ^ (i * w % 64) < 18446744073709551616 := by
  have hg : out.getD (i * w / 64) 0 = out[i * w / 64] := by simp [hl]
  rw [hg]
  obtain ⟨r0, r1⟩ := h.rng _ hl
  have hh := h.here hl
  have hs : i * w % 64 + w ≤ 64 := by
    rcases hw with rfl | rfl | rfl | rfl | rfl <;> omega
  have hp : (0 : Int) < 2 ^ (i * w % 64) := Int.pow_pos (by decide)
  have hsum : out[i * w / 64] + n * 2 ^ (i * w % 64) < 2 ^ (i * w % 64 + w) := by
    have e1 : n * 2 ^ (i * w % 64) ≤ (2 ^ w - 1) * 2 ^ (i * w % 64) := Int.mul_le_mul_of_nonneg_right (by omega) (by omega)
    have e2 : (2 ^ w - 1) * 2 ^ (i * w % 64) = (2 : Int) ^ (i * w % 64 + w) - 2 ^ (i * w % 64) := by
      rw [Int.sub_mul, Int.one_mul, Int.pow_add, Int.mul_comm]
    omega
  have hle : (2 : Int) ^ (i * w % 64 + w) ≤ 2 ^ 64 := by
    have e : ∀ k : Nat, (2 : Int) ^ k = ((2 ^ k : Nat) : Int) := fun k => by simp
    rw [e, e]
    exact Int.ofNat_le.2 (Nat.pow_le_pow_right (by decide) hs)
  have hnn : 0 ≤ n * 2 ^ (i * w % 64) := Int.mul_nonneg h0 (by omega)
  have h64 : (2 : Int) ^ 64 = 18446744073709551616 := by decide
  refine ⟨⟨fun j hj => ?_, fun hj => ?_, fun j hj hlt => ?_⟩, r0, hh, by omega, by omega⟩
  · rw [List.getElem_set]
    split
    · omega
    · exact h.rng j (by simpa using hj)
  · rw [List.getElem_set]
    split
    · rename_i e
      have e3 : (i + 1) * w % 64 = i * w % 64 + w := by
        rw [Nat.add_mul, Nat.one_mul] at e ⊢
        rcases hw with rfl | rfl | rfl | rfl | rfl <;> omega
      rw [e3]
      exact hsum
    · rename_i e
      have e4 : i * w / 64 < (i + 1) * w / 64 := by
        have : i * w / 64 ≤ (i + 1) * w / 64 := Nat.div_le_div_right (by rw [Nat.add_mul]; omega)
        omega
      rw [h.zero _ (by simpa using hj) e4]
      exact Int.pow_pos (by decide)
  · have e5 : i * w / 64 ≤ (i + 1) * w / 64 := Nat.div_le_div_right (by rw [Nat.add_mul]; omega)
    rw [List.getElem_set]
    split
    · omega
    · exact h.zero j (by simpa using hj) (by omega)
theorem put_at {w n i : Nat} (hw : w = 1 ∨ w = 8 ∨ w = 16 ∨ w = 32 ∨ w = 64) (h : i < n) : i * w / 64 < (n * w + 63) / 64 := by
  have : (i + 1) * w ≤ n * w := Nat.mul_le_mul_right _ h
  rw [Nat.add_mul] at this
  rcases hw with rfl | rfl | rfl | rfl | rfl <;> omega

/-! ### what is laid leaves other words -/
/-- Words ahead stay, and what is laid does not look at them. -/
def LS (f : Nat → List Int → List Int) (n : Nat) : Prop := ∀ (at_ p : Nat) (x : Int) (l : List Int), p < l.length → (p < at_ ∨ at_ + n ≤ p) → f at_ (l.set p x) = (f at_ l).set p x
def LM (f : Nat → List Int → List Int) : Prop := ∀ (at_ : Nat) (l : List Int), l.length ≤ (f at_ l).length
theorem set_app {l m : List Int} {p : Nat} {x : Int} (h : p < l.length) : l.set p x ++ m = (l ++ m).set p x := by rw [List.set_append_left _ _ h]
theorem layL_ls : ∀ {ts : List T}, (∀ t, t ∈ ts → LS (layT t) 1 ∧ LM (layT t)) → LS (layL ts) ts.length ∧ LM (layL ts)
  | [], _ => ⟨fun at_ p x l _ _ => by simp, fun at_ l => by simp⟩
  | t :: ts, h => by
    obtain ⟨h1, h2⟩ := h t (by simp)
    obtain ⟨h3, h4⟩ := layL_ls (ts := ts) fun u hu => h u (by simp [hu])
    refine ⟨fun at_ p x l hp hr => ?_, fun at_ l => ?_⟩
    · simp only [List.length_cons] at hr
      have := h2 at_ l
      rw [layL_cons, layL_cons, h1 at_ p x l hp (by omega), h3 (at_ + 1) p x _ (by omega) (by omega)]
    · rw [layL_cons]
      exact Nat.le_trans (h2 at_ l) (h4 _ _)
theorem layC_ls {w k : Nat} : ∀ {ts : List T}, (∀ t, t ∈ ts → LS (layL t.kids) t.kids.length ∧ LM (layL t.kids)) → (∀ (at_ p : Nat) (x : Int) (l : List Int), p < l.length → p < at_ → layC w k ts at_ (l.set p x) = (layC w k ts at_ l).set p x) ∧ LM (layC w k ts)
  | [], _ => ⟨fun at_ p x l _ _ => by simp, fun at_ l => by simp⟩
  | t :: ts, h => by
    obtain ⟨h1, h2⟩ := h t (by simp)
    obtain ⟨h3, h4⟩ := layC_ls (w := w) (k := k) (ts := ts) fun u hu => h u (by simp [hu])
    refine ⟨fun at_ p x l hp hr => ?_, fun at_ l => ?_⟩
    · have := h2 (at_ + w) l
      rw [layC_cons, layC_cons, h1 (at_ + w) p x l hp (by omega), h3 _ p x _ (by omega) (by omega)]
    · rw [layC_cons]
      exact Nat.le_trans (h2 _ l) (h4 _ _)
theorem lay_ls : ∀ t : T, (LS (layT t) 1 ∧ LM (layT t)) ∧ (LS (layL t.kids) t.kids.length ∧ LM (layL t.kids)) := by
  refine T.ind fun k w ks ih => ?_
  have hK := layL_ls fun t ht => (ih t ht).1
  have hC := fun (w k : Nat) => layC_ls (w := w) (k := k) fun t ht => (ih t ht).2
  refine ⟨⟨fun at_ p x l hp hr => ?_, fun at_ l => ?_⟩, hK⟩
  · have hne : at_ ≠ p := by omega
    rw [layT_mk, layT_mk]
    simp only [List.length_set]
    split
    · rfl
    · split
      · rw [List.set_comm _ _ (Ne.symm hne), set_app (by simpa using hp), set_app (by simp; omega), hK.1 _ _ _ _ (by simp; omega) (by omega)]
      · split
        · rw [List.set_comm _ _ (Ne.symm hne), set_app (by simpa using hp), hK.1 _ _ _ _ (by simp; omega) (by omega)]
        · split
          · rw [List.set_comm _ _ (Ne.symm hne), set_app (by simpa using hp), set_app (by simp; omega), (hC _ _).1 _ _ _ _ (by simp; omega) (by omega)]
          · rw [List.set_comm _ _ (Ne.symm hne), set_app (by simpa using hp)]
  · rw [layT_mk]
    split
    · exact Nat.le_refl _
    · split
      · exact Nat.le_trans (by simp) (hK.2 _ _)
      · split
        · exact Nat.le_trans (by simp) (hK.2 _ _)
        · split
          · exact Nat.le_trans (by simp) ((hC _ _).2 _ _)
          · simp
theorem layL_set (ts : List T) : LS (layL ts) ts.length := (layL_ls fun t _ => (lay_ls t).1).1
theorem layL_setW {ts : List T} : ∀ (ws : List Int) (b at_ : Nat) (l : List Int), b + ws.length ≤ l.length → at_ + ts.length ≤ b → layL ts at_ (setW b ws l) = setW b ws (layL ts at_ l)
  | [], b, at_, l, _, _ => rfl
  | x :: ws, b, at_, l, h, h2 => by
    simp only [List.length_cons] at h
    rw [setW, setW, layL_setW ws (b + 1) at_ _ (by simp; omega) (by omega), layL_set ts at_ b x l (by omega) (by omega)]
/-- As the program lays the structs of a list: each with its kids. -/
def cpC (w long : Nat) : List T → Nat → List Int → List Int
  | [], _, l => l
  | t :: ts, b, l => cpC w long ts (b + long) (layL t.kids (b + w) (setW b t.words l))
def fillC (long : Nat) : List T → Nat → List Int → List Int
  | [], _, l => l
  | t :: ts, b, l => fillC long ts (b + long) (setW b t.words l)
theorem fillC_length {long : Nat} : ∀ (ts : List T) (b : Nat) (l : List Int), (fillC long ts b l).length = l.length
  | [], b, l => rfl
  | t :: ts, b, l => by rw [fillC, fillC_length, setW_length]
theorem fillC_lay {long : Nat} {ks : List T} : ∀ (ts : List T) (b at_ : Nat) (l : List Int), (∀ t, t ∈ ts → t.words.length ≤ long) → b + ts.length * long ≤ l.length → at_ + ks.length ≤ b → fillC long ts b (layL ks at_ l) = layL ks at_ (fillC long ts b l)
  | [], b, at_, l, _, _, _ => rfl
  | t :: ts, b, at_, l, hw, h, h2 => by
    have h3 := hw t (by simp)
    simp only [List.length_cons, Nat.add_mul, Nat.one_mul] at h
    rw [fillC, fillC, ← layL_setW _ _ _ _ (by omega) h2, fillC_lay ts _ _ _ (fun u hu => hw u (by simp [hu])) (by simp; omega) (by omega)]
theorem rightT_mono : ∀ (t : T) (d d' : Nat), d ≤ d' → rightT d t = true → rightT d' t = true := by
  refine T.ind fun k w ks ih d d' hd h => ?_
  rw [rightT_mk] at h ⊢
  by_cases h0 : k = 0
  · rw [if_pos h0] at h ⊢; exact h
  · rw [if_neg h0] at h ⊢
    by_cases h10 : k = 10
    · rw [if_pos h10] at h ⊢; exact h
    · rw [if_neg h10] at h ⊢
      split at h
      · cases h
      · rename_i hb
        have hb' : ¬ tooBig k d' w.length ks.length = true := by
          intro e
          apply hb
          unfold tooBig at e ⊢
          simp only [Bool.or_eq_true, decide_eq_true_eq] at e ⊢
          have : d' = 0 → d = 0 := by omega
          rcases e with (((((e | e) | e) | e) | e) | e) | e
          · exact .inl (.inl (.inl (.inl (.inl (.inl e)))))
          · exact .inl (.inl (.inl (.inl (.inl (.inr e)))))
          · exact .inl (.inl (.inl (.inl (.inr (this e)))))
          · exact .inl (.inl (.inl (.inr e)))
          · exact .inl (.inl (.inr e))
          · exact .inl (.inr e)
          · exact .inr e
        rw [if_neg hb']
        refine rightL_all.2 fun t ht => ?_
        obtain ⟨h1, h2⟩ := rightL_all.1 h t ht
        exact ⟨ih t ht _ _ (by omega) h1, h2⟩
inductive LayOk : T → Prop
  | null (w : List Int) : LayOk (.mk 0 w [])
  | str (w : List Int) (ks : List T) : w.length < 65536 → ks.length < 65536 → (∀ t, t ∈ ks → LayOk t) → LayOk (.mk 1 w ks)
  | ptrs (w : List Int) (ks : List T) : ks.length < 536870912 → (∀ t, t ∈ ks → LayOk t) → LayOk (.mk 8 w ks)
  | comp (w : List Int) (ks : List T) : ks.length < 536870912 → (∀ t, t ∈ ks → t.words.length < 65536 ∧ t.kids.length < 65536) → (∀ t, t ∈ ks → ∀ u, u ∈ t.kids → LayOk u) → LayOk (.mk 9 w ks)
  | data (k : Int) (w : List Int) (ks : List T) : 2 ≤ k → k ≤ 7 → ks.length < 536870912 → (∀ c, c ∈ ks → ∃ x, c.words = [x] ∧ 0 ≤ x ∧ x < 18446744073709551616 ∧ fitsZ (k - 2) x = true) → LayOk (.mk k w ks)
def LN (f : Nat → List Int → List Int) (n : Int) : Prop := ∀ (at_ : Nat) (l : List Int), ((f at_ l).length : Int) = l.length + n
theorem layL_ln : ∀ {ts : List T}, (∀ t, t ∈ ts → LN (layT t) (sizeT t)) → LN (layL ts) (sizeL ts)
  | [], _ => fun at_ l => by simp
  | t :: ts, h => fun at_ l => by
    rw [layL_cons, layL_ln (ts := ts) (fun u hu => h u (by simp [hu])), h t (by simp), sizeL_cons]
    omega
theorem layC_ln {w k : Nat} : ∀ {ts : List T}, (∀ t, t ∈ ts → LN (layL t.kids) (sizeL t.kids)) → LN (layC w k ts) (sizeLL ts)
  | [], _ => fun at_ l => by simp
  | t :: ts, h => fun at_ l => by
    rw [layC_cons, layC_ln (ts := ts) (fun u hu => h u (by simp [hu])), h t (by simp), sizeLL_cons]
    omega
theorem frameW_le : ∀ {ts : List T} {t : T}, t ∈ ts → t.words.length ≤ frameW ts
  | u :: ts, t, h => by
    rcases List.mem_cons.1 h with rfl | h
    · simp only [frameW]; omega
    · have := frameW_le h
      simp only [frameW]; omega
theorem frameK_le : ∀ {ts : List T} {t : T}, t ∈ ts → t.kids.length ≤ frameK ts
  | u :: ts, t, h => by
    rcases List.mem_cons.1 h with rfl | h
    · simp only [frameK]; omega
    · have := frameK_le h
      simp only [frameK]; omega
theorem rowsC_length {w k : Nat} : ∀ (ts : List T), (∀ t, t ∈ ts → t.words.length ≤ w + k) → (rowsC w k ts).length = ts.length * (w + k)
  | [], _ => by simp [rowsC]
  | t :: ts, h => by
    have h1 := h t (by simp)
    rw [rowsC, List.length_append, List.length_append, List.length_replicate, rowsC_length ts fun u hu => h u (by simp [hu])]
    simp only [List.length_cons, Nat.add_mul, Nat.one_mul]
    omega
theorem roomZ_nonneg (c n : Int) : 0 ≤ roomZ c n := by
  unfold roomZ bitsZ
  repeat' split
  all_goals omega
theorem lay_len : ∀ t : T, (LayOk t → LN (layT t) (sizeT t)) ∧ ((∀ u, u ∈ t.kids → LayOk u) → LN (layL t.kids) (sizeL t.kids)) := by
  refine T.ind fun k w ks ih => ?_
  have hK : (∀ u, u ∈ ks → LayOk u) → LN (layL ks) (sizeL ks) := fun h => layL_ln fun t ht => (ih t ht).1 (h t ht)
  refine ⟨fun h at_ l => ?_, hK⟩
  rw [layT_mk, sizeT_mk]
  cases h with
  | null => simp
  | str w ks b1 b2 h =>
    rw [if_neg (by decide), if_pos rfl, if_pos rfl, hK h]
    simp
    omega
  | ptrs w ks b1 h =>
    rw [if_neg (by decide), if_neg (by decide), if_pos rfl, if_neg (by decide), if_pos rfl, hK h]
    simp
    omega
  | comp w ks b1 b2 h =>
    have hr := rowsC_length (w := frameW ks) (k := frameK ks) ks fun t ht => by have := frameW_le ht; omega
    rw [if_neg (by decide), if_neg (by decide), if_neg (by decide), if_pos rfl, if_neg (by decide), if_neg (by decide), if_neg (by decide), if_pos rfl, layC_ln fun t ht => (ih t ht).2 (h t ht)]
    simp only [List.length_append, List.length_set, List.length_singleton, hr]
    have e : ((ks.length * (frameW ks + frameK ks) : Nat) : Int) = (ks.length : Int) * ((frameW ks : Int) + frameK ks) := by rw [Int.natCast_mul, Int.natCast_add]
    rw [← e]
    omega
  | data k w ks h1 h2 b1 b2 =>
    rw [if_neg (by omega), if_neg (by omega), if_neg (by omega), if_neg (by omega), if_neg (by omega), if_neg (by omega), if_pos ⟨h1, h2⟩]
    simp only [List.length_append, List.length_set, putZ_length, List.length_map]
    have := roomZ_nonneg (k - 2) ks.length
    omega
theorem layL_len {ts : List T} (h : ∀ t, t ∈ ts → LayOk t) : LN (layL ts) (sizeL ts) := layL_ln fun t ht => (lay_len t).1 (h t ht)
theorem size_nonneg : ∀ t : T, (LayOk t → 0 ≤ sizeT t) ∧ ((∀ u, u ∈ t.kids → LayOk u) → 0 ≤ sizeL t.kids) := fun t => by
  refine ⟨fun h => ?_, fun h => ?_⟩
  · have h1 := (lay_len t).1 h 0 []
    simp at h1
    omega
  · have h1 := (lay_len t).2 h 0 []
    simp at h1
    omega
theorem cpC_eq {w k : Nat} : ∀ (ts : List T) (b : Nat) (l : List Int), (∀ t, t ∈ ts → t.words.length ≤ w ∧ t.kids.length ≤ k) → b + ts.length * (w + k) ≤ l.length → cpC w (w + k) ts b l = layC w k ts b (fillC (w + k) ts b l)
  | [], b, l, _, _ => by simp [cpC, fillC]
  | t :: ts, b, l, hw, h => by
    obtain ⟨h3, h4⟩ := hw t (by simp)
    simp only [List.length_cons, Nat.add_mul, Nat.one_mul] at h
    have hm := ((layL_ls fun t _ => (lay_ls t).1).2 : LM (layL t.kids)) (b + w) (setW b t.words l)
    rw [setW_length] at hm
    rw [cpC, layC_cons, fillC, cpC_eq ts _ _ (fun u hu => hw u (by simp [hu])) (by omega), fillC_lay ts _ _ _ (fun u hu => by have := (hw u (by simp [hu])).1; omega) (by simp; omega) (by omega)]
theorem setW_app : ∀ (ws : List Int) (a z : List Int), ws.length ≤ z.length → setW a.length ws (a ++ z) = a ++ ws ++ z.drop ws.length
  | [], a, z, _ => by simp [setW]
  | x :: ws, a, [], h => by simp at h
  | x :: ws, a, y :: z, h => by
    simp only [List.length_cons] at h
    have : (a ++ y :: z).set a.length x = (a ++ [x]) ++ z := by simp
    rw [setW, this, show a.length + 1 = (a ++ [x]).length from by simp, setW_app ws (a ++ [x]) z (by omega)]
    simp
theorem fillC_app {w k : Nat} : ∀ (ts : List T) (a : List Int), (∀ t, t ∈ ts → t.words.length ≤ w + k) → fillC (w + k) ts a.length (a ++ List.replicate (ts.length * (w + k)) 0) = a ++ rowsC w k ts
  | [], a, _ => by simp [fillC, rowsC]
  | t :: ts, a, h => by
    have h1 := h t (by simp)
    have e : List.replicate ((t :: ts).length * (w + k)) (0 : Int) = List.replicate (w + k) 0 ++ List.replicate (ts.length * (w + k)) 0 := by
      rw [List.replicate_append_replicate]
      congr 1
      simp only [List.length_cons, Nat.add_mul, Nat.one_mul]
      omega
    rw [fillC, e, setW_app _ _ _ (by simp; omega), rowsC]
    have e2 : a ++ t.words ++ List.drop t.words.length (List.replicate (w + k) (0 : Int) ++ List.replicate (ts.length * (w + k)) 0) = (a ++ t.words ++ List.replicate (w + k - t.words.length) 0) ++ List.replicate (ts.length * (w + k)) 0 := by
      rw [List.drop_append_of_le_length (by simp; omega), List.drop_replicate]
      simp
    have e3 : a.length + (w + k) = (a ++ t.words ++ List.replicate (w + k - t.words.length) (0 : Int)).length := by simp; omega
    rw [e2, e3, fillC_app ts _ fun u hu => h u (by simp [hu])]
    simp
end Go.PL
