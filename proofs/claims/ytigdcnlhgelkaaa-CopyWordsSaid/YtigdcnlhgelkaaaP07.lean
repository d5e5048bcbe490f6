/-
  Plain: trees, and what the document says of them.
-/
namespace Go.PL
set_option linter.unusedVariables false
set_option linter.unusedSimpArgs false

inductive T where
  | mk (kind : Int) (words : List Int) (kids : List T)
  deriving Inhabited
namespace T
def kind : T → Int | mk k _ _ => k
def words : T → List Int | mk _ w _ => w
def kids : T → List T | mk _ _ l => l
@[simp] theorem kind_mk {k : Int} {w : List Int} {l : List T} : (mk k w l).kind = k := rfl
@[simp] theorem words_mk {k : Int} {w : List Int} {l : List T} : (mk k w l).words = w := rfl
@[simp] theorem kids_mk {k : Int} {w : List Int} {l : List T} : (mk k w l).kids = l := rfl
end T
theorem snocInd {α : Type} {P : List α → Prop} (h0 : P []) (h1 : ∀ l x, P l → P (l ++ [x])) (l : List α) : P l := by
  have : ∀ m : List α, P m.reverse := by
    intro m
    induction m with
    | nil => exact h0
    | cons x m ih => rw [List.reverse_cons]; exact h1 _ _ ih
  have h := this l.reverse
  rwa [List.reverse_reverse] at h
abbrev T0 : T := .mk 0 [] []
theorem T.eta (t : T) : t = .mk t.kind t.words t.kids := by cases t; rfl

mutual
theorem T.ind {P : T → Prop} (h : ∀ k w l, (∀ t, t ∈ l → P t) → P (.mk k w l)) : ∀ t, P t
  | .mk k w l => h k w l (T.indL h l)
theorem T.indL {P : T → Prop} (h : ∀ k w l, (∀ t, t ∈ l → P t) → P (.mk k w l)) : ∀ (l : List T), ∀ t, t ∈ l → P t
  | [], t, ht => nomatch ht
  | x :: l, t, ht => by
    rcases List.mem_cons.1 ht with e | ht
    · rw [e]; exact T.ind h x
    · exact T.indL h l t ht
end

/-! ### the Norm -/
/-- Without what is nothing at the end. -/
def trimW (l : List Int) : List Int := (l.reverse.dropWhile (fun x => x == 0)).reverse
def trimK (l : List T) : List T := (l.reverse.dropWhile (fun x => x.kind == 0)).reverse
mutual
def norm : T → T
  | .mk k w l => if k = 0 then T0 else if k = 1 then .mk 1 (trimW w) (trimK (normL l)) else .mk k w (normL l)
def normL : List T → List T
  | [] => []
  | t :: l => norm t :: normL l
end
@[simp] theorem normL_map : ∀ l, normL l = l.map norm
  | [] => by simp [normL]
  | t :: l => by simp [normL, normL_map l]
theorem norm_mk (k : Int) (w : List Int) (l : List T) : norm (.mk k w l) = if k = 0 then T0 else if k = 1 then .mk 1 (trimW w) (trimK (l.map norm)) else .mk k w (l.map norm) := by simp [norm]
@[simp] theorem norm_kind (t : T) : (norm t).kind = t.kind := by
  cases t; rw [norm_mk]; split
  · rename_i h; rw [h]; rfl
  · split
    · rename_i h; rw [h]; rfl
    · rfl
@[simp] theorem trimW_nil : trimW [] = [] := rfl
@[simp] theorem trimK_nil : trimK [] = [] := rfl
theorem trimW_snoc (l : List Int) (x : Int) : trimW (l ++ [x]) = if x = 0 then trimW l else l ++ [x] := by
  unfold trimW; simp [List.dropWhile_cons]; split <;> simp
theorem trimK_snoc (l : List T) (x : T) : trimK (l ++ [x]) = if x.kind = 0 then trimK l else l ++ [x] := by
  unfold trimK
  by_cases h : x.kind = 0 <;> simp [List.dropWhile_cons, h]
theorem trimW_le (l : List Int) : (trimW l).length ≤ l.length := by
  unfold trimW; simp; have := (List.dropWhile_sublist (fun x : Int => x == 0) (l := l.reverse)).length_le; simpa using this
theorem trimK_le (l : List T) : (trimK l).length ≤ l.length := by
  unfold trimK; simp; have := (List.dropWhile_sublist (fun x : T => x.kind == 0) (l := l.reverse)).length_le; simpa using this
theorem trimW_take (l : List Int) : trimW l = l.take (trimW l).length := by
  induction l using snocInd with
  | h0 => rfl
  | h1 l x ih =>
    rw [trimW_snoc]
    split
    · rw [List.take_append_of_le_length (trimW_le l)]; exact ih
    · rw [List.take_of_length_le (Nat.le_refl _)]
theorem trimK_take (l : List T) : trimK l = l.take (trimK l).length := by
  induction l using snocInd with
  | h0 => rfl
  | h1 l x ih =>
    rw [trimK_snoc]
    split
    · rw [List.take_append_of_le_length (trimK_le l)]; exact ih
    · rw [List.take_of_length_le (Nat.le_refl _)]

/-! ### how many words a tree takes -/
def bitsZ (c : Int) : Int := if c = 1 then 1 else if c = 2 then 8 else if c = 3 then 16 else if c = 4 then 32 else if c = 5 then 64 else 0
def roomZ (c n : Int) : Int := if n < 0 ∨ n > 1099511627776 then 0 else (n * bitsZ c + 63) / 64
def frameW : List T → Nat
  | [] => 0
  | t :: l => max t.words.length (frameW l)
def frameK : List T → Nat
  | [] => 0
  | t :: l => max t.kids.length (frameK l)
mutual
def sizeT : T → Int
  | .mk k w l => if k = 1 then w.length + l.length + sizeL l else if k = 8 then l.length + sizeL l else if 2 ≤ k ∧ k ≤ 7 then roomZ (k - 2) l.length
    else if k = 9 then 1 + l.length * (frameW l + frameK l) + sizeLL l else sizeL l
def sizeK : T → Int
  | .mk _ _ l => sizeL l
def sizeL : List T → Int
  | [] => 0
  | t :: l => sizeT t + sizeL l
def sizeLL : List T → Int
  | [] => 0
  | t :: l => sizeK t + sizeLL l
end
theorem sizeT_mk (k : Int) (w : List Int) (l : List T) : sizeT (.mk k w l) = if k = 1 then w.length + l.length + sizeL l else if k = 8 then l.length + sizeL l else if 2 ≤ k ∧ k ≤ 7 then roomZ (k - 2) l.length
    else if k = 9 then 1 + l.length * (frameW l + frameK l) + sizeLL l else sizeL l := by rw [sizeT]
@[simp] theorem sizeK_eq (t : T) : sizeK t = sizeL t.kids := by cases t; rw [sizeK]; rfl
@[simp] theorem sizeL_nil : sizeL [] = 0 := by rw [sizeL]
@[simp] theorem sizeL_cons (t : T) (l : List T) : sizeL (t :: l) = sizeT t + sizeL l := by rw [sizeL]
@[simp] theorem sizeLL_nil : sizeLL [] = 0 := by rw [sizeLL]
@[simp] theorem sizeLL_cons (t : T) (l : List T) : sizeLL (t :: l) = sizeL t.kids + sizeLL l := by rw [sizeLL, sizeK_eq]
@[simp] theorem sizeL_append (l m : List T) : sizeL (l ++ m) = sizeL l + sizeL m := by
  induction l with
  | nil => simp
  | cons t l ih => simp [ih]; omega
@[simp] theorem sizeT_zero (w : List Int) : sizeT (.mk 0 w []) = 0 := by rw [sizeT_mk]; simp
/- As the program counts it. -/
mutual
def sizeP : T → Int
  | .mk k w l => if k = 1 then w.length + l.length + sizePL l else if k = 8 then l.length + sizePL l else if 2 ≤ k ∧ k ≤ 7 then roomZ (k - 2) l.length
    else if k = 9 then 1 + l.length * (frameW l + frameK l) + sizePC l else sizePL l
def sizePL : List T → Int
  | [] => 0
  | t :: l => sizeP t + sizePL l
def sizePC : List T → Int
  | [] => 0
  | t :: l => (sizeP t - t.words.length - t.kids.length) + sizePC l
end
theorem sizeP_mk (k : Int) (w : List Int) (l : List T) : sizeP (.mk k w l) = if k = 1 then w.length + l.length + sizePL l else if k = 8 then l.length + sizePL l else if 2 ≤ k ∧ k ≤ 7 then roomZ (k - 2) l.length
    else if k = 9 then 1 + l.length * (frameW l + frameK l) + sizePC l else sizePL l := by rw [sizeP]
@[simp] theorem sizePL_nil : sizePL [] = 0 := by rw [sizePL]
@[simp] theorem sizePL_cons (t : T) (l : List T) : sizePL (t :: l) = sizeP t + sizePL l := by rw [sizePL]
@[simp] theorem sizePC_nil : sizePC [] = 0 := by rw [sizePC]
@[simp] theorem sizePC_cons (t : T) (l : List T) : sizePC (t :: l) = (sizeP t - t.words.length - t.kids.length) + sizePC l := by rw [sizePC]

/-! ### which trees may be -/
def widthZ (c : Int) : Int := if c = 0 then 0 else if c = 1 then 1 else if c = 2 then 8 else if c = 3 then 16 else if c = 4 then 32 else if c = 5 then 64 else -1
def fitsZ (c n : Int) : Bool := decide (0 ≤ widthZ c) && decide (n / 2 ^ (widthZ c).toNat = 0)
def isData (k : Int) : Bool := decide (2 ≤ k) && decide (k ≤ 7)
/-- May it be a kid of a list? -/
def kidOk (k : Int) (c : T) : Bool := !(isData k != decide (c.kind = 10) || decide (k = 9) && !decide (c.kind = 1) || isData k && !fitsZ (k - 2) (c.words.headD 0))
def tooBig (k : Int) (d nw nl : Nat) : Bool := decide (k < 0) || decide (k > 10) || decide (d = 0) || decide (nw ≥ 65536) || decide (k = 1) && decide (nl ≥ 65536) || decide (nl ≥ 1048576) || decide (k > 1) && decide (nw > 0)
mutual
def rightT : Nat → T → Bool
  | d, .mk k w l => if k = 0 then w.isEmpty && l.isEmpty else if k = 10 then decide (w.length = 1) && l.isEmpty
    else if tooBig k d w.length l.length = true then false else rightL (d - 1) k l
def rightL : Nat → Int → List T → Bool
  | _, _, [] => true
  | d, k, t :: l => rightT d t && kidOk k t && rightL d k l
end
theorem rightT_mk (d : Nat) (k : Int) (w : List Int) (l : List T) : rightT d (.mk k w l) = if k = 0 then w.isEmpty && l.isEmpty else if k = 10 then decide (w.length = 1) && l.isEmpty
    else if tooBig k d w.length l.length = true then false else rightL (d - 1) k l := by rw [rightT]
@[simp] theorem rightL_nil (d : Nat) (k : Int) : rightL d k [] = true := by rw [rightL]
@[simp] theorem rightL_cons (d : Nat) (k : Int) (t : T) (l : List T) : rightL d k (t :: l) = (rightT d t && kidOk k t && rightL d k l) := by rw [rightL]
theorem rightL_all {d : Nat} {k : Int} : ∀ {l : List T}, rightL d k l = true ↔ ∀ t, t ∈ l → rightT d t = true ∧ kidOk k t = true
  | [] => by simp
  | t :: l => by simp [rightL_all (l := l), and_assoc]
/- No deeper, and no more parts: what is left. -/
mutual
def shallow : Nat → Int → T → Int
  | d, n, .mk _ w l => if d = 0 ∨ n - 1 - w.length < 0 then -1 else shallowL (d - 1) (n - 1 - w.length) l
def shallowL : Nat → Int → List T → Int
  | _, n, [] => n
  | d, n, t :: l => if n < 0 then n else shallowL d (shallow d n t) l
end
theorem shallow_mk (d : Nat) (n : Int) (k : Int) (w : List Int) (l : List T) : shallow d n (.mk k w l) = if d = 0 ∨ n - 1 - w.length < 0 then -1 else shallowL (d - 1) (n - 1 - w.length) l := by rw [shallow]
@[simp] theorem shallowL_nil (d : Nat) (n : Int) : shallowL d n [] = n := by rw [shallowL]
@[simp] theorem shallowL_cons (d : Nat) (n : Int) (t : T) (l : List T) : shallowL d n (t :: l) = if n < 0 then n else shallowL d (shallow d n t) l := by rw [shallowL]

/-! ### the program's size is the document's, of a right tree's Norm -/
theorem kidOk_9 {c : T} (h : kidOk 9 c = true) : c.kind = 1 := by
  simp [kidOk, isData] at h
  exact h.2
theorem rightT_struct {d : Nat} {k : Int} {w : List Int} {l : List T} (h : rightT d (.mk k w l) = true) : ∀ t, t ∈ l → rightT (d - 1) t = true ∧ kidOk k t = true := by
  rw [rightT_mk] at h
  split at h
  · simp at h; intro t ht; rw [h.2] at ht; cases ht
  · split at h
    · simp at h; intro t ht; rw [h.2] at ht; cases ht
    · split at h
      · cases h
      · exact rightL_all.1 h
theorem norm_struct {t : T} (h : t.kind = 1) : norm t = .mk 1 (trimW t.words) (trimK (t.kids.map norm)) := by
  cases t; simp at h; subst h; rw [norm_mk]; simp
theorem sizePL_eq {l : List T} (h : ∀ t, t ∈ l → sizeP t = sizeT t) : sizePL l = sizeL l := by
  induction l with
  | nil => simp
  | cons t l ih => simp [h t (by simp), ih fun u hu => h u (by simp [hu])]
theorem size_norm : ∀ (t : T) (d : Nat), rightT d t = true → sizeP (norm t) = sizeT (norm t) := by
  refine T.ind fun k w l ih d h => ?_
  have hk := rightT_struct h
  have ihl : ∀ t, t ∈ l.map norm → sizeP t = sizeT t := fun t ht => by
    obtain ⟨u, hu, rfl⟩ := List.mem_map.1 ht
    exact ih u hu _ (hk u hu).1
  rw [norm_mk]
  split
  · rfl
  · split
    · rw [sizeP_mk, sizeT_mk]; simp
      refine sizePL_eq fun t ht => ihl t ?_
      rw [trimK_take] at ht
      exact List.mem_of_mem_take ht
    · rw [sizeP_mk, sizeT_mk]
      rw [sizePL_eq ihl]
      have e9 : k = 9 → sizePC (l.map norm) = sizeLL (l.map norm) := fun e => by
        subst e
        have : ∀ (m : List T), (∀ t, t ∈ m → sizeP t = sizeT t ∧ t.kind = 1) → sizePC m = sizeLL m := by
          intro m
          induction m with
          | nil => simp
          | cons t m ih =>
            intro hm
            obtain ⟨h1, h2⟩ := hm t (by simp)
            simp [ih fun u hu => hm u (by simp [hu]), h1]
            cases t; simp at h2; subst h2
            rw [sizeT_mk]; simp; omega
        refine this _ fun t ht => ⟨ihl t ht, ?_⟩
        obtain ⟨u, hu, rfl⟩ := List.mem_map.1 ht
        rw [norm_kind]
        exact kidOk_9 (hk u hu).2
      by_cases h9 : k = 9
      · simp [e9 h9]
      · simp [h9]
end Go.PL
