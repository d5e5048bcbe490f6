/-
  Texts, merged, without what is not reached.
-/
import Derived.Test.YtebihdhapepejaaDoorGStr
import Derived.Test.YtebihdhapepejaaDoorProg
import Derived.Test.YtebihdhapepejaaDoorGSimp
import Derived.KernelRfl
import Derived.WalkKit
import Derived.Laws.Externs
import Derived.Lib.Bytealg
import Derived.Lib.Builder
import Derived.Lib.UnsafeStr
import Derived.Lib.Walk
import Derived.Laws.BitsLemmas
import Derived.Laws.Bits64
import Derived.Test.YtebihdhapepejaaDoorGCall2
import Derived.Test.YtebihdhapepejaaDoorGLo
import Derived.Laws.Bits64b
import Derived.Test.YtebihdhapepejaaDoorGLe
import Derived.Test.YtebihdhapepejaaDoorGCall3
import Derived.Test.YtebihdhapepejaaDoorGFam
import Derived.Lib.Join
import Derived.Test.YtebihdhapepejaaDoorGDie
import Derived.Shelf.Strings.OnBuilder
import Derived.Shelf.Strconv.ToErrorRange
import Derived.Shelf.Strconv.ToError
import Derived.Recover
import Derived.Test.YtebihdhapepejaaDoorGMove
import Derived.Test.YtebihdhapepejaaDoorGOpen
import Derived.Test.YtebihdhapepejaaDoorGTab
/-
  Plain: trees, and what the document says of them.
-/
namespace Go.PL
set_option linter.unusedVariables false
set_option linter.unusedSimpArgs false
inductive T where
  | mk (kind : Int) (words : List Int) (kids : List T)
  deriving Inhabited
namespace T
def kind : T → Int | mk k _ _ => k
def words : T → List Int | mk _ w _ => w
def kids : T → List T | mk _ _ l => l
@[simp] theorem kind_mk {k : Int} {w : List Int} {l : List T} : (mk k w l).kind = k := rfl
@[simp] theorem words_mk {k : Int} {w : List Int} {l : List T} : (mk k w l).words = w := rfl
@[simp] theorem kids_mk {k : Int} {w : List Int} {l : List T} : (mk k w l).kids = l := rfl
end T
abbrev T0 : T := .mk 0 [] []
mutual
theorem T.ind {P : T → Prop} (h : ∀ k w l, (∀ t, t ∈ l → P t) → P (.mk k w l)) : ∀ t, P t
  | .mk k w l => h k w l (T.indL h l)
theorem T.indL {P : T → Prop} (h : ∀ k w l, (∀ t, t ∈ l → P t) → P (.mk k w l)) : ∀ (l : List T), ∀ t, t ∈ l → P t
  | [], t, ht => nomatch ht
  | x :: l, t, ht => by
    rcases List.mem_cons.1 ht with e | ht
    · rw [e]; exact T.ind h x
    · exact T.indL h l t ht
end
/-! ### the Norm -/
/-- Without what is nothing at the end. -/
def trimW (l : List Int) : List Int := (l.reverse.dropWhile (fun x => x == 0)).reverse
def trimK (l : List T) : List T := (l.reverse.dropWhile (fun x => x.kind == 0)).reverse
mutual
def norm : T → T
  | .mk k w l => if k = 0 then T0 else if k = 1 then .mk 1 (trimW w) (trimK (normL l)) else .mk k w (normL l)
def normL : List T → List T
  | [] => []
  | t :: l => norm t :: normL l
end
@[simp] theorem normL_map : ∀ l, normL l = l.map norm
  | [] => by simp [normL]
  | t :: l => by simp [normL, normL_map l]
theorem norm_mk (k : Int) (w : List Int) (l : List T) : norm (.mk k w l) = if k = 0 then T0 else if k = 1 then .mk 1 (trimW w) (trimK (l.map norm)) else .mk k w (l.map norm) := by simp [norm]
@[simp] theorem norm_kind (t : T) : (norm t).kind = t.kind := by
  cases t; rw [norm_mk]; split
  · rename_i h; rw [h]; rfl
  · split
    · rename_i h; rw [h]; rfl
    · rfl
@[simp] theorem trimW_nil : trimW [] = [] := rfl
@[simp] theorem trimK_nil : trimK [] = [] := rfl
/-! ### how many words a tree takes -/
/- As the program counts it. -/
/-! ### which trees may be -/
def widthZ (c : Int) : Int := if c = 0 then 0 else if c = 1 then 1 else if c = 2 then 8 else if c = 3 then 16 else if c = 4 then 32 else if c = 5 then 64 else -1
def fitsZ (c n : Int) : Bool := decide (0 ≤ widthZ c) && decide (n / 2 ^ (widthZ c).toNat = 0)
def isData (k : Int) : Bool := decide (2 ≤ k) && decide (k ≤ 7)
/-- May it be a kid of a list? -/
def kidOk (k : Int) (c : T) : Bool := !(isData k != decide (c.kind = 10) || decide (k = 9) && !decide (c.kind = 1) || isData k && !fitsZ (k - 2) (c.words.headD 0))
def tooBig (k : Int) (d nw nl : Nat) : Bool := decide (k < 0) || decide (k > 10) || decide (d = 0) || decide (nw ≥ 65536) || decide (k = 1) && decide (nl ≥ 65536) || decide (nl ≥ 1048576) || decide (k > 1) && decide (nw > 0)
mutual
def rightT : Nat → T → Bool
  | d, .mk k w l => if k = 0 then w.isEmpty && l.isEmpty else if k = 10 then decide (w.length = 1) && l.isEmpty
    else if tooBig k d w.length l.length = true then false else rightL (d - 1) k l
def rightL : Nat → Int → List T → Bool
  | _, _, [] => true
  | d, k, t :: l => rightT d t && kidOk k t && rightL d k l
end
theorem rightT_mk (d : Nat) (k : Int) (w : List Int) (l : List T) : rightT d (.mk k w l) = if k = 0 then w.isEmpty && l.isEmpty else if k = 10 then decide (w.length = 1) && l.isEmpty
    else if tooBig k d w.length l.length = true then false else rightL (d - 1) k l := by rw [rightT]
@[simp] theorem rightL_nil (d : Nat) (k : Int) : rightL d k [] = true := by rw [rightL]
@[simp] theorem rightL_cons (d : Nat) (k : Int) (t : T) (l : List T) : rightL d k (t :: l) = (rightT d t && kidOk k t && rightL d k l) := by rw [rightL]
theorem rightL_all {d : Nat} {k : Int} : ∀ {l : List T}, rightL d k l = true ↔ ∀ t, t ∈ l → rightT d t = true ∧ kidOk k t = true
  | [] => by simp
  | t :: l => by simp [rightL_all (l := l), and_assoc]
/- No deeper, and no more parts: what is left. -/
/-! ### the program's size is the document's, of a right tree's Norm -/
theorem rightT_struct {d : Nat} {k : Int} {w : List Int} {l : List T} (h : rightT d (.mk k w l) = true) : ∀ t, t ∈ l → rightT (d - 1) t = true ∧ kidOk k t = true := by
  rw [rightT_mk] at h
  split at h
  · simp at h; intro t ht; rw [h.2] at ht; cases ht
  · split at h
    · simp at h; intro t ht; rw [h.2] at ht; cases ht
    · split at h
      · cases h
      · exact rightL_all.1 h
end Go.PL

/-
  Plain: trees as texts, and how a text is read (for whichever reader of numbers).
-/
namespace Go.PL
set_option linter.unusedVariables false
set_option linter.unusedSimpArgs false
/-! ### numbers -/
def hexD (n : Nat) : UInt8 := if n < 10 then UInt8.ofNat (48 + n) else UInt8.ofNat (87 + n)
def hexV (c : UInt8) : Option Nat := if 48 ≤ c.toNat ∧ c.toNat ≤ 57 then some (c.toNat - 48) else if 97 ≤ c.toNat ∧ c.toNat ≤ 102 then some (c.toNat - 87) else none
def hexS (n : Nat) : List UInt8 := if n < 16 then [hexD n] else hexS (n / 16) ++ [hexD (n % 16)]
  termination_by n
theorem hexS_lt {n : Nat} (h : n < 16) : hexS n = [hexD n] := by rw [hexS, if_pos h]
theorem hexS_ge {n : Nat} (h : 16 ≤ n) : hexS n = hexS (n / 16) ++ [hexD (n % 16)] := by rw [hexS, if_neg (by omega)]
theorem hexS_step {m d : Nat} (hm : 1 ≤ m) (hd : d < 16) : hexS (m * 16 + d) = hexS m ++ [hexD d] := by
  rw [hexS_ge (by omega)]
  have e1 : (m * 16 + d) / 16 = m := by omega
  have e2 : (m * 16 + d) % 16 = d := by omega
  rw [e1, e2]
theorem hexD_nat {n : Nat} (h : n < 16) : (hexD n).toNat = if n < 10 then 48 + n else 87 + n := by
  unfold hexD
  split
  · rw [UInt8.toNat_ofNat']; exact Nat.mod_eq_of_lt (by omega)
  · rw [UInt8.toNat_ofNat']; exact Nat.mod_eq_of_lt (by omega)
theorem hexV_D {n : Nat} (h : n < 16) : hexV (hexD n) = some n := by
  have e := hexD_nat h
  unfold hexV
  rw [e]
  by_cases h1 : n < 10
  · rw [if_pos h1, if_pos (by omega)]; congr 1; omega
  · rw [if_neg h1, if_neg (by omega), if_pos (by omega)]; congr 1; omega
theorem hexD_V {c : UInt8} {d : Nat} (h : hexV c = some d) : d < 16 ∧ hexD d = c := by
  unfold hexV at h
  have hd : d < 16 := by
    split at h
    · cases h; omega
    · split at h
      · cases h; omega
      · cases h
  refine ⟨hd, ?_⟩
  apply UInt8.toNat_inj.1
  rw [hexD_nat hd]
  split at h
  · cases h; split <;> omega
  · split at h
    · cases h; split <;> omega
    · cases h
theorem hexS_pos (n : Nat) : 0 < (hexS n).length := by
  by_cases h : n < 16
  · rw [hexS_lt h]; simp
  · rw [hexS_ge (by omega)]; simp
/-- Each letter is a digit. -/
theorem hexS_all : ∀ (n : Nat), ∀ c, c ∈ hexS n → ∃ d, hexV c = some d := by
  intro n
  induction n using Nat.strongRecOn with
  | _ n ih =>
    intro c hc
    by_cases h : n < 16
    · rw [hexS_lt h] at hc
      simp at hc
      rw [hc]; exact ⟨n, hexV_D h⟩
    · rw [hexS_ge (by omega)] at hc
      rcases List.mem_append.1 hc with hc | hc
      · exact ih (n / 16) (by omega) c hc
      · simp at hc
        rw [hc]; exact ⟨_, hexV_D (Nat.mod_lt _ (by omega))⟩
theorem hexS_head : ∀ (n : Nat), 1 ≤ n → (hexS n).headD 0 ≠ 48 := by
  intro n
  induction n using Nat.strongRecOn with
  | _ n ih =>
    intro h1
    by_cases h : n < 16
    · rw [hexS_lt h]
      simp only [List.headD_cons]
      intro e
      have := hexD_nat h
      rw [e] at this
      have e48 : (48 : UInt8).toNat = 48 := rfl
      rw [e48] at this
      split at this <;> omega
    · rw [hexS_ge (by omega)]
      have h2 := ih (n / 16) (by omega) (by omega)
      have h3 := hexS_pos (n / 16)
      cases hq : hexS (n / 16) with
      | nil => rw [hq] at h3; simp at h3
      | cons c l => rw [hq] at h2; simpa using h2
theorem hexS_len : ∀ (j n : Nat), 1 ≤ j → n < 16 ^ j → (hexS n).length ≤ j := by
  intro j
  induction j with
  | zero => intro n h; omega
  | succ j ih =>
    intro n _ hn
    by_cases h : n < 16
    · rw [hexS_lt h]; simp
    · have hj : 1 ≤ j := by
        rcases Nat.eq_zero_or_pos j with e | e
        · subst e; simp at hn; omega
        · exact e
      rw [hexS_ge (by omega)]
      have := ih (n / 16) hj (by rw [Nat.pow_succ] at hn; omega)
      simp; exact this
/-- A reader of numbers: what it reads is just a number's text; it reads any. -/
structure NumR (num : List UInt8 → Nat × Bool × Nat) : Prop where
  to : ∀ r n k, num r = (n, true, k) → r.take k = hexS n ∧ n < 18446744073709551616 ∧ k ≤ r.length
  of : ∀ n rest, n < 18446744073709551616 → (∀ c, rest.head? = some c → hexV c = none) → num (hexS n ++ rest) = (n, true, (hexS n).length)
/-! ### the program's reader of numbers -/
def numGo : Nat → List UInt8 → Nat × Nat
  | n, [] => (n, 0)
  | n, x :: r => match hexV x with
    | some d => if n < 1152921504606846976 then ((numGo (n * 16 + d) r).1, (numGo (n * 16 + d) r).2 + 1) else (n, 0)
    | none => (n, 0)
def numP (r : List UInt8) : Nat × Bool × Nat := ((numGo 0 r).1, decide (0 < (numGo 0 r).2) && (decide ((numGo 0 r).2 = 1) || decide (r.headD 0 ≠ 48)), (numGo 0 r).2)
theorem numGo_le : ∀ (r : List UInt8) (n : Nat), n < 18446744073709551616 → (numGo n r).1 < 18446744073709551616 ∧ (numGo n r).2 ≤ r.length
  | [], n, h => by simp [numGo]; exact h
  | x :: r, n, h => by
    unfold numGo
    split
    · rename_i d hd
      have := (hexD_V hd).1
      split
      · have := numGo_le r (n * 16 + d) (by omega)
        simp; omega
      · simp; exact h
    · simp; exact h
theorem numGo_hex : ∀ (r : List UInt8) (m : Nat), 1 ≤ m → hexS m ++ r.take (numGo m r).2 = hexS (numGo m r).1
  | [], m, h => by simp [numGo]
  | x :: r, m, h => by
    unfold numGo
    split
    · rename_i d hd
      have hx := hexD_V hd
      split
      · have := numGo_hex r (m * 16 + d) (by omega)
        rw [hexS_step h hx.1, hx.2] at this
        simpa using this
      · simp
    · simp
theorem numGo_show : ∀ (q : Nat) (tail : List UInt8), q < 18446744073709551616 → numGo 0 (hexS q ++ tail) = ((numGo q tail).1, (numGo q tail).2 + (hexS q).length) := by
  intro q
  induction q using Nat.strongRecOn with
  | _ q ih =>
    intro tail hq
    by_cases h : q < 16
    · rw [hexS_lt h]
      simp only [List.singleton_append, numGo, hexV_D h]
      simp
    · rw [hexS_ge (by omega), List.append_assoc, List.singleton_append, ih (q / 16) (by omega) _ (by omega)]
      have h16 : q % 16 < 16 := Nat.mod_lt _ (by omega)
      have e : numGo (q / 16) (hexD (q % 16) :: tail) = ((numGo q tail).1, (numGo q tail).2 + 1) := by
        rw [numGo, hexV_D h16]
        simp only
        rw [if_pos (by omega)]
        have : q / 16 * 16 + q % 16 = q := by omega
        rw [this]
      rw [e]
      simp
      omega
theorem numGo_stop {n : Nat} {rest : List UInt8} (h : ∀ c, rest.head? = some c → hexV c = none) : numGo n rest = (n, 0) := by
  cases rest with
  | nil => rfl
  | cons c r => rw [numGo, h c rfl]
theorem numP_R : NumR numP where
  to := by
    intro r n k h
    unfold numP at h
    simp only [Prod.mk.injEq] at h
    obtain ⟨h1, h2, h3⟩ := h
    have hle := numGo_le r 0 (by omega)
    subst h1 h3
    refine ⟨?_, hle⟩
    cases r with
    | nil => simp [numGo] at h2
    | cons x r =>
      rw [numGo] at h2 ⊢
      cases hv : hexV x with
      | none => simp [hv] at h2
      | some d =>
        have hx := hexD_V hv
        simp only [hv] at h2 ⊢
        simp only [Nat.zero_mul, Nat.zero_add, List.headD_cons, if_pos (show (0 : Nat) < 1152921504606846976 by omega)] at h2 ⊢
        by_cases hd : d = 0
        · subst hd
          have h48 : x = 48 := by rw [← hx.2]; rfl
          simp [h48] at h2
          have hz : (numGo 0 r).2 = 0 := h2
          have hn : (numGo 0 r).1 = 0 := by
            cases r with
            | nil => rfl
            | cons y r =>
              rw [numGo] at hz ⊢
              cases hy : hexV y with
              | none => rfl
              | some e => simp [hy] at hz
          rw [hz, hn, h48, hexS_lt (by omega)]
          rfl
        · have := numGo_hex r d (by omega)
          rw [← this, hexS_lt hx.1, hx.2]
          simp
  of := by
    intro n rest hn hr
    unfold numP
    rw [numGo_show n rest hn, numGo_stop hr]
    have hp := hexS_pos n
    simp only [Nat.zero_add, Prod.mk.injEq, true_and, and_true]
    by_cases h : n < 16
    · rw [hexS_lt h]; simp
    · have h1 := hexS_head n (by omega)
      cases hq : hexS n with
      | nil => rw [hq] at hp; simp at hp
      | cons c l => rw [hq] at h1; simp at h1; simp [h1]
/-! ### the document's reader of numbers -/
end Go.PL

/-
  Plain: how trees are told as texts, and read of them.
-/
namespace Go.PL
set_option linter.unusedVariables false
set_option linter.unusedSimpArgs false
/-! ### texts with commas between -/
def joinC : List (List UInt8) → List UInt8
  | [] => []
  | [x] => x
  | x :: y :: l => x ++ 44 :: joinC (y :: l)
@[simp] theorem joinC_nil : joinC [] = [] := rfl
@[simp] theorem joinC_one {x : List UInt8} : joinC [x] = x := rfl
theorem joinC_cons {x : List UInt8} {l : List (List UInt8)} (h : l ≠ []) : joinC (x :: l) = x ++ 44 :: joinC l := by
  cases l with
  | nil => exact (h rfl).elim
  | cons y l => rfl
theorem joinC_snoc : ∀ (l : List (List UInt8)) (x : List UInt8), joinC (l ++ [x]) = if l = [] then x else joinC l ++ 44 :: x
  | [], x => rfl
  | [y], x => rfl
  | y :: z :: l, x => by
    have := joinC_snoc (z :: l) x
    simp only [List.cons_append] at this ⊢
    rw [joinC, this]
    simp [joinC]
/-! ### a tree's text -/
def letters : List UInt8 := [46, 46, 118, 98, 121, 116, 102, 101, 112, 99]
def letS (k : Int) : UInt8 := letters.getD k.toNat 0
mutual
def showT : T → List UInt8
  | .mk k w l => if k = 10 ∧ w.length = 1 then hexS (w.headD 0).toNat
    else if k = 1 then 123 :: (joinC (w.map fun x => hexS x.toNat) ++ ((if l = [] then [] else 124 :: joinC (showLs l)) ++ [125]))
    else if 2 ≤ k ∧ k ≤ 9 then letS k :: 91 :: (joinC (showLs l) ++ [93]) else [95]
def showLs : List T → List (List UInt8)
  | [] => []
  | t :: l => showT t :: showLs l
end
theorem showLs_map : ∀ l, showLs l = l.map showT
  | [] => by rw [showLs]; rfl
  | t :: l => by rw [showLs, showLs_map l]; rfl
theorem showT_mk (k : Int) (w : List Int) (l : List T) : showT (.mk k w l) = if k = 10 ∧ w.length = 1 then hexS (w.headD 0).toNat
    else if k = 1 then 123 :: (joinC (w.map fun x => hexS x.toNat) ++ ((if l = [] then [] else 124 :: joinC (l.map showT)) ++ [125]))
    else if 2 ≤ k ∧ k ≤ 9 then letS k :: 91 :: (joinC (l.map showT) ++ [93]) else [95] := by rw [showT, showLs_map]
/-! ### how a text is read -/
def eatB : List UInt8 → UInt8 → Bool
  | [], _ => false
  | x :: _, c => x == c
@[simp] theorem eatB_cons {x c : UInt8} {r : List UInt8} : eatB (x :: r) c = (x == c) := rfl
@[simp] theorem eatB_nil {c : UInt8} : eatB [] c = false := rfl
def idxB : List UInt8 → UInt8 → Int
  | [], _ => -1
  | b :: l, c => if b == c then 0 else if idxB l c == -1 then -1 else idxB l c + 1
def letV (c : UInt8) : Int := idxB letters c
section
variable (num : List UInt8 → Nat × Bool × Nat)
def numsM : Nat → List UInt8 → List Int × Bool × Nat
  | 0, r => ([], false, 0)
  | f + 1, r => if (num r).2.1 = true then
      if eatB (r.drop (num r).2.2) 44 = true then
        let q := numsM f (r.drop ((num r).2.2 + 1))
        (if q.2.1 = true then ((num r).1 : Int) :: q.1 else [], q.2.1, (num r).2.2 + 1 + q.2.2)
      else ([((num r).1 : Int)], true, (num r).2.2)
    else ([], false, (num r).2.2)
def numT (r : List UInt8) : T × Bool × Nat := (.mk 10 [((num r).1 : Int)] [], (num r).2.1, (num r).2.2)
end
def kidsGo (p : List UInt8 → T × Bool × Nat) (e : UInt8) : Nat → List UInt8 → List T × Bool × Nat
  | 0, r => ([], false, 0)
  | f + 1, r => if (p r).2.1 = true then
      if eatB (r.drop (p r).2.2) e = true then ([(p r).1], true, (p r).2.2 + 1)
      else if eatB (r.drop (p r).2.2) 44 = true then
        let g := kidsGo p e f (r.drop ((p r).2.2 + 1))
        (if g.2.1 = true then (p r).1 :: g.1 else [], g.2.1, (p r).2.2 + 1 + g.2.2)
      else ([], false, (p r).2.2)
    else ([], false, (p r).2.2)
def txKids (p : List UInt8 → T × Bool × Nat) (e : UInt8) (r : List UInt8) : List T × Bool × Nat :=
  if eatB r e = true then ([], true, 1) else kidsGo p e (r.length + 1) r
def wsM (num : List UInt8 → Nat × Bool × Nat) (r : List UInt8) : List Int × Bool × Nat := if r.headD 0 ≠ 124 then numsM num (r.length + 1) r else ([], true, 0)
/-- Behind the words. -/
def tailM (kp : List UInt8 → List T × Bool × Nat) (ws : List Int) (r : List UInt8) : T × Bool × Nat :=
  if eatB r 125 = true then (.mk 1 ws [], true, 1)
  else if eatB r 124 = true then
    if (r.drop 1).headD 0 = 125 then (.mk 1 ws [], false, 1)
    else (.mk 1 ws (kp (r.drop 1)).1, (kp (r.drop 1)).2.1, 1 + (kp (r.drop 1)).2.2)
  else (.mk 1 ws [], false, 0)
def structM (num : List UInt8 → Nat × Bool × Nat) (kp : List UInt8 → List T × Bool × Nat) (r : List UInt8) : T × Bool × Nat :=
  if eatB r 125 = true then (.mk 1 [] [], true, 1)
  else if (wsM num r).2.1 = true then
    let q := tailM kp (wsM num r).1 (r.drop (wsM num r).2.2)
    (q.1, q.2.1, (wsM num r).2.2 + q.2.2)
  else (.mk 1 [] [], false, (wsM num r).2.2)
def isD (k : Int) : Bool := decide (2 ≤ k) && decide (k ≤ 7)
def treeM (num : List UInt8 → Nat × Bool × Nat) : Nat → List UInt8 → T × Bool × Nat
  | d, r => if eatB r 95 = true then (T0, true, 1) else match d with
    | 0 => (T0, false, 0)
    | d + 1 =>
      if eatB r 123 = true then
        let q := structM num (txKids (treeM num d) 125) (r.drop 1)
        (q.1, q.2.1, 1 + q.2.2)
      else if letV (r.headD 0) < 2 then (T0, false, 0)
      else if eatB (r.drop 1) 91 = true then
        let g := txKids (if isD (letV (r.headD 0)) = true then numT num else treeM num d) 93 (r.drop 2)
        (.mk (letV (r.headD 0)) [] g.1, g.2.1, 2 + g.2.2)
      else (T0, false, 1)
theorem treeM_zero (num : List UInt8 → Nat × Bool × Nat) (r : List UInt8) : treeM num 0 r = if eatB r 95 = true then (T0, true, 1) else (T0, false, 0) := by rw [treeM]
theorem treeM_succ (num : List UInt8 → Nat × Bool × Nat) (d : Nat) (r : List UInt8) : treeM num (d + 1) r = if eatB r 95 = true then (T0, true, 1) else
      if eatB r 123 = true then ((structM num (txKids (treeM num d) 125) (r.drop 1)).1, (structM num (txKids (treeM num d) 125) (r.drop 1)).2.1, 1 + (structM num (txKids (treeM num d) 125) (r.drop 1)).2.2)
      else if letV (r.headD 0) < 2 then (T0, false, 0)
      else if eatB (r.drop 1) 91 = true then
        (.mk (letV (r.headD 0)) [] (txKids (if isD (letV (r.headD 0)) = true then numT num else treeM num d) 93 (r.drop 2)).1, (txKids (if isD (letV (r.headD 0)) = true then numT num else treeM num d) 93 (r.drop 2)).2.1, 2 + (txKids (if isD (letV (r.headD 0)) = true then numT num else treeM num d) 93 (r.drop 2)).2.2)
      else (T0, false, 1) := by rw [treeM]
/-! ### what is read is a tree whose text it is -/
def atomOk (t : T) : Prop := t.kind = 10 ∧ t.kids = [] ∧ ∃ n : Nat, t.words = [(n : Int)] ∧ n < 18446744073709551616
def proper : Nat → T → Prop
  | 0, t => t = T0
  | d + 1, t => t = T0 ∨ (t.kind = 1 ∧ (∀ x, x ∈ t.words → 0 ≤ x ∧ x < 18446744073709551616) ∧ ∀ c, c ∈ t.kids → proper d c) ∨
    (2 ≤ t.kind ∧ t.kind ≤ 9 ∧ t.words = [] ∧ ∀ c, c ∈ t.kids → if isD t.kind = true then atomOk c else proper d c)
theorem T.mkOf {t : T} {k : Int} {w : List Int} {l : List T} (h1 : t.kind = k) (h2 : t.words = w) (h3 : t.kids = l) : t = .mk k w l := by cases t; simp at h1 h2 h3; rw [h1, h2, h3]
theorem show_atom {t : T} (h : atomOk t) : ∃ n : Nat, t = .mk 10 [(n : Int)] [] ∧ n < 18446744073709551616 ∧ showT t = hexS n := by
  obtain ⟨h1, h2, n, h3, h4⟩ := h
  have e := T.mkOf h1 h3 h2
  refine ⟨n, e, h4, ?_⟩
  rw [e, showT_mk]
  simp
theorem letV_S : ∀ k : Nat, k < 10 → 2 ≤ k → letV (letS (k : Int)) = k ∧ letS (k : Int) ≠ 95 ∧ letS (k : Int) ≠ 123 ∧ letS (k : Int) ≠ 125 ∧ letS (k : Int) ≠ 93 := by decide
theorem letV_spec {k : Int} (h1 : 2 ≤ k) (h2 : k ≤ 9) : letV (letS k) = k ∧ letS k ≠ 95 ∧ letS k ≠ 123 ∧ letS k ≠ 125 ∧ letS k ≠ 93 := by
  have := letV_S k.toNat (by omega) (by omega)
  rwa [Int.toNat_of_nonneg (by omega)] at this
theorem idxB_spec : ∀ (l : List UInt8) (c : UInt8), idxB l c = -1 ∨ (0 ≤ idxB l c ∧ idxB l c < l.length ∧ l[(idxB l c).toNat]? = some c)
  | [], c => .inl rfl
  | b :: l, c => by
    unfold idxB
    by_cases h : (b == c) = true
    · rw [if_pos h]
      right
      simp at h
      simp [h]
    · rw [if_neg h]
      rcases idxB_spec l c with e | ⟨e1, e2, e3⟩
      · simp [e]
      · right
        have hne : ¬ (idxB l c == -1) = true := by simp; omega
        rw [if_neg hne]
        refine ⟨by omega, by simp; omega, ?_⟩
        have : (idxB l c + 1).toNat = (idxB l c).toNat + 1 := by omega
        rw [this]
        simpa using e3
theorem letS_V {c : UInt8} (h : ¬ letV c < 2) : 2 ≤ letV c ∧ letV c ≤ 9 ∧ letS (letV c) = c := by
  rcases idxB_spec letters c with e | ⟨e1, e2, e3⟩
  · unfold letV at h; omega
  · have e2 : letV c < 10 := e2
    refine ⟨by omega, by omega, ?_⟩
    unfold letS
    rw [List.getD_eq_getElem?_getD]
    show (letters[(idxB letters c).toNat]?).getD 0 = c
    rw [e3]; rfl
theorem triple {α : Type} {q : α × Bool × Nat} (h : q.2.1 = true) : q = (q.1, true, q.2.2) := by
  obtain ⟨a, b, c⟩ := q
  simp at h
  rw [h]
theorem take_plus {α : Type} (r : List α) (a b : Nat) : r.take (a + b) = r.take a ++ (r.drop a).take b := List.take_add ..
theorem eat_take {r : List UInt8} {c : UInt8} {k : Nat} (h : eatB (r.drop k) c = true) : k < r.length ∧ (r.drop k).take 1 = [c] := by
  cases hq : r.drop k with
  | nil => rw [hq] at h; cases h
  | cons x q =>
    rw [hq] at h
    simp at h
    have : k < r.length := by
      apply Nat.lt_of_not_le
      intro hk
      rw [List.drop_of_length_le hk] at hq
      cases hq
    exact ⟨this, by simp [h]⟩
section
variable {num : List UInt8 → Nat × Bool × Nat}
/-- A reader of things: what it reads is just such a thing's text. -/
def RdTo (p : List UInt8 → T × Bool × Nat) (Q : T → Prop) : Prop := ∀ r t k, p r = (t, true, k) → r.take k = showT t ∧ k ≤ r.length ∧ Q t
theorem numsM_to (h : NumR num) : ∀ (f : Nat) (r : List UInt8) (ws : List Int) (k : Nat), numsM num f r = (ws, true, k) → r.take k = joinC (ws.map fun x => hexS x.toNat) ∧ k ≤ r.length ∧ ws ≠ [] ∧ ∀ x, x ∈ ws → 0 ≤ x ∧ x < 18446744073709551616
  | 0, r, ws, k, e => by simp [numsM] at e
  | f + 1, r, ws, k, e => by
    unfold numsM at e
    split at e
    · rename_i ho
      have hn := triple ho
      obtain ⟨g1, g2, g3⟩ := h.to _ _ _ hn
      split at e
      · rename_i hc
        simp only [Prod.mk.injEq] at e
        obtain ⟨e1, e2, e3⟩ := e
        rw [if_pos e2] at e1
        obtain ⟨i1, i2, i3, i4⟩ := numsM_to h f _ _ _ (triple e2)
        obtain ⟨c1, c2⟩ := eat_take hc
        subst e1 e3
        refine ⟨?_, ?_, by simp, fun x hx => ?_⟩
        · rw [take_plus, take_plus, g1, c2, i1, List.map_cons, joinC_cons (by simpa using i3)]
          simp
        · simp at i2; omega
        · rcases List.mem_cons.1 hx with rfl | hx
          · omega
          · exact i4 x hx
      · simp only [Prod.mk.injEq] at e
        obtain ⟨e1, _, e3⟩ := e
        subst e1 e3
        refine ⟨by simpa using g1, g3, by simp, fun x hx => ?_⟩
        simp at hx; omega
    · simp at e
theorem numT_to (h : NumR num) : RdTo (numT num) atomOk := fun r t k e => by
  unfold numT at e
  simp only [Prod.mk.injEq] at e
  obtain ⟨e1, e2, e3⟩ := e
  have hn := triple e2
  obtain ⟨g1, g2, g3⟩ := h.to _ _ _ hn
  subst e1 e3
  refine ⟨?_, g3, rfl, rfl, _, rfl, g2⟩
  rw [g1, showT_mk]
  simp
theorem kidsGo_to {p : List UInt8 → T × Bool × Nat} {Q : T → Prop} (h : RdTo p Q) (e : UInt8) : ∀ (f : Nat) (r : List UInt8) (l : List T) (k : Nat), kidsGo p e f r = (l, true, k) →
    r.take k = joinC (l.map showT) ++ [e] ∧ k ≤ r.length ∧ l ≠ [] ∧ ∀ c, c ∈ l → Q c
  | 0, r, l, k, q => by simp [kidsGo] at q
  | f + 1, r, l, k, q => by
    unfold kidsGo at q
    split at q
    · rename_i ho
      have hn := triple ho
      obtain ⟨g1, g2, g3⟩ := h _ _ _ hn
      split at q
      · rename_i hc
        simp only [Prod.mk.injEq] at q
        obtain ⟨e1, _, e3⟩ := q
        obtain ⟨c1, c2⟩ := eat_take hc
        subst e1 e3
        refine ⟨by rw [take_plus, g1, c2]; simp, by omega, by simp, fun c hc => ?_⟩
        simp at hc; rw [hc]; exact g3
      · split at q
        · rename_i hc
          simp only [Prod.mk.injEq] at q
          obtain ⟨e1, e2, e3⟩ := q
          rw [if_pos e2] at e1
          obtain ⟨i1, i2, i3, i4⟩ := kidsGo_to h e f _ _ _ (triple e2)
          obtain ⟨c1, c2⟩ := eat_take hc
          subst e1 e3
          refine ⟨?_, ?_, by simp, fun x hx => ?_⟩
          · rw [take_plus, take_plus, g1, c2, i1, List.map_cons, joinC_cons (by simpa using i3)]
            simp
          · simp at i2; omega
          · rcases List.mem_cons.1 hx with rfl | hx
            · exact g3
            · exact i4 x hx
        · simp at q
    · simp at q
theorem txKids_to {p : List UInt8 → T × Bool × Nat} {Q : T → Prop} (h : RdTo p Q) (e : UInt8) (r : List UInt8) (l : List T) (k : Nat) (q : txKids p e r = (l, true, k)) :
    r.take k = joinC (l.map showT) ++ [e] ∧ k ≤ r.length ∧ (l = [] → eatB r e = true) ∧ ∀ c, c ∈ l → Q c := by
  unfold txKids at q
  split at q
  · rename_i hc
    simp only [Prod.mk.injEq] at q
    obtain ⟨e1, _, e3⟩ := q
    subst e1 e3
    obtain ⟨c1, c2⟩ := eat_take (k := 0) (by simpa using hc)
    exact ⟨by simpa using c2, by omega, fun _ => hc, fun c hc => by simp at hc⟩
  · obtain ⟨h1, h2, h3, h4⟩ := kidsGo_to h e _ _ _ _ q
    exact ⟨h1, h2, fun e => (h3 e).elim, h4⟩
theorem eat_head {r : List UInt8} {c : UInt8} (h : eatB r c = true) : r.headD 0 = c := by
  cases r with
  | nil => cases h
  | cons x r => simpa using h
theorem treeM_to (h : NumR num) : ∀ d, RdTo (treeM num d) (proper d)
  | 0 => fun r t k q => by
    rw [treeM_zero] at q
    split at q
    · rename_i hc
      simp only [Prod.mk.injEq] at q
      obtain ⟨e1, _, e3⟩ := q
      subst e1 e3
      obtain ⟨c1, c2⟩ := eat_take (k := 0) (by simpa using hc)
      refine ⟨?_, by omega, rfl⟩
      rw [showT_mk]; simpa using c2
    · simp at q
  | d + 1 => fun r t k q => by
    have ih := treeM_to h d
    rw [treeM_succ] at q
    split at q
    · rename_i hc
      simp only [Prod.mk.injEq] at q
      obtain ⟨e1, _, e3⟩ := q
      subst e1 e3
      obtain ⟨c1, c2⟩ := eat_take (k := 0) (by simpa using hc)
      refine ⟨?_, by omega, .inl rfl⟩
      rw [showT_mk]; simpa using c2
    · split at q
      · rename_i hc
        obtain ⟨c1, c2⟩ := eat_take (k := 0) (by simpa using hc)
        simp only [List.drop_zero] at c2
        simp only [Prod.mk.injEq] at q
        obtain ⟨e1, e2, e3⟩ := q
        suffices ∀ (t : T) (k : Nat), structM num (txKids (treeM num d) 125) (r.drop 1) = (t, true, k) → (r.drop 1).take k ++ [] = (showT t).drop 1 ∧ k + 1 ≤ r.length ∧ showT t = 123 :: (showT t).drop 1 ∧ proper (d + 1) t by
          obtain ⟨g1, g2, g3, g4⟩ := this _ _ (triple e2)
          subst e1 e3
          refine ⟨?_, by omega, g4⟩
          rw [take_plus, c2, g3, ← g1]
          simp
        clear e1 e2 e3
        intro t k q
        unfold structM at q
        split at q
        · rename_i hc2
          simp only [Prod.mk.injEq] at q
          obtain ⟨e1, _, e3⟩ := q
          subst e1 e3
          obtain ⟨b1, b2⟩ := eat_take hc2
          refine ⟨?_, by omega, ?_, .inr (.inl ⟨rfl, fun x hx => by simp at hx, fun c hc => by simp at hc⟩)⟩
          · rw [showT_mk, b2]; simp
          · rw [showT_mk]; simp
        · split at q
          · rename_i hw
            have hws : (r.drop 1).take (wsM num (r.drop 1)).2.2 = joinC ((wsM num (r.drop 1)).1.map fun x => hexS x.toNat) ∧ (wsM num (r.drop 1)).2.2 ≤ (r.drop 1).length ∧ ∀ x, x ∈ (wsM num (r.drop 1)).1 → 0 ≤ x ∧ x < 18446744073709551616 := by
              unfold wsM at hw ⊢
              split at hw
              · rename_i h124
                rw [if_pos h124]
                obtain ⟨i1, i2, _, i4⟩ := numsM_to h _ _ _ _ (triple hw)
                exact ⟨i1, i2, i4⟩
              · rename_i h124
                rw [if_neg h124]
                simp
            obtain ⟨w1, w2, w3⟩ := hws
            generalize hwv : wsM num (r.drop 1) = W at q hw w1 w2 w3
            simp only [Prod.mk.injEq] at q
            obtain ⟨e1, e2, e3⟩ := q
            unfold tailM at e1 e2 e3
            split at e2
            · rename_i hc3
              rw [if_pos hc3] at e1 e3
              simp only at e1 e3
              subst e1 e3
              obtain ⟨b1, b2⟩ := eat_take hc3
              refine ⟨?_, by simp at b1; omega, ?_, .inr (.inl ⟨rfl, w3, fun c hc => by simp at hc⟩)⟩
              · rw [take_plus, w1, b2, showT_mk]; simp
              · rw [showT_mk]; simp
            · rename_i hc3
              rw [if_neg hc3] at e1 e3
              split at e2
              · rename_i hc4
                rw [if_pos hc4] at e1 e3
                split at e2
                · cases e2
                · rename_i hc5
                  rw [if_neg hc5] at e1 e3
                  obtain ⟨b1, b2⟩ := eat_take hc4
                  obtain ⟨k1, k2, k3, k4⟩ := txKids_to ih 125 _ _ _ (triple e2)
                  generalize txKids (treeM num d) 125 (((r.drop 1).drop W.2.2).drop 1) = G at e1 e2 e3 k1 k2 k3 k4
                  have hne : G.1 ≠ [] := fun e => hc5 (eat_head (k3 e))
                  simp only at e1 e3
                  subst e1 e3
                  refine ⟨?_, by simp at b1 k2; omega, ?_, .inr (.inl ⟨rfl, w3, k4⟩)⟩
                  · rw [take_plus, w1, take_plus, b2, k1, showT_mk]; simp [hne]
                  · rw [showT_mk]; simp
              · cases e2
          · simp at q
      · split at q
        · simp at q
        · rename_i hl
          obtain ⟨l1, l2, l3⟩ := letS_V hl
          split at q
          · rename_i hc2
            obtain ⟨b1, b2⟩ := eat_take hc2
            have hhd : r.take 1 = [r.headD 0] := by
              cases r with
              | nil => simp at b1
              | cons x r => rfl
            generalize hk : letV (r.headD 0) = K at q hl l1 l2 l3
            simp only [Prod.mk.injEq] at q
            obtain ⟨e1, e2, e3⟩ := q
            have hto : RdTo (if isD K = true then numT num else treeM num d) (fun c => if isD K = true then atomOk c else proper d c) := by
              by_cases hD : isD K = true
              · simp only [hD, if_true]; exact numT_to h
              · simp only [hD, if_false]; exact ih
            obtain ⟨k1, k2, k3, k4⟩ := txKids_to hto 93 _ _ _ (triple e2)
            generalize txKids (if isD K = true then numT num else treeM num d) 93 (r.drop 2) = G at e1 e2 e3 k1 k2 k3 k4
            subst e1 e3
            refine ⟨?_, by simp at k2; omega, .inr (.inr ⟨l1, l2, rfl, k4⟩)⟩
            rw [show 2 + G.2.2 = 1 + (1 + G.2.2) by omega, take_plus, hhd, take_plus, b2, List.drop_drop, k1, showT_mk, if_neg (by omega), if_neg (by omega), if_pos ⟨l1, l2⟩, l3]
            simp
          · simp at q
end
end Go.PL

/-
  The functions' text as data, and the facts on the types that they use: written by a program of ours (gen2.py) off the translation.
-/
namespace Go.Proofs.YtebihdhapepejaaDoor
set_option linter.unusedVariables false
set_option linter.unusedSimpArgs false
set_option maxRecDepth 20000
open Go Go.G Go.Proofs
theorem mixed : Tryd.prog.follows .mixedOrders = true := by kernel_rfl
end Go.Proofs.YtebihdhapepejaaDoor

/-
  The functions' text as data, and the facts on the types that they use: written by a program of ours (gen2.py) off the translation.
-/
namespace Go.Proofs.YtebihdhapepejaaDoor
set_option linter.unusedVariables false
set_option linter.unusedSimpArgs false
set_option maxRecDepth 20000
open Go Go.G Go.Proofs
@[simp] theorem und_3 : Tryd.prog.underlying 3 = some (.int .i64) := by kernel_rfl
@[simp] theorem und_148 : Tryd.prog.underlying 148 = some (.array 6 3) := by kernel_rfl
@[simp] theorem szT_3 : szT Tryd.prog 3 = some 1 := by kernel_rfl
@[simp] theorem szT_148 : szT Tryd.prog 148 = some 6 := by kernel_rfl
@[simp] theorem aggT_3 : aggT Tryd.prog 3 = some false := by kernel_rfl
@[simp] theorem zeroT_148 : zeroT Tryd.prog 148 = some (Value.agg #[Value.int IntKind.i64 0, Value.int IntKind.i64 0, Value.int IntKind.i64 0, Value.int IntKind.i64 0, Value.int IntKind.i64 0, Value.int IntKind.i64 0]) := by kernel_rfl
@[simp] theorem buildA_148 (ps : List (Nat × A)) : buildA Tryd.prog 148 ps = (fillA (fun i => some (i * 1, 1)) [A.v (Value.int IntKind.i64 0), A.v (Value.int IntKind.i64 0), A.v (Value.int IntKind.i64 0), A.v (Value.int IntKind.i64 0), A.v (Value.int IntKind.i64 0), A.v (Value.int IntKind.i64 0)] ps).map A.agg := by kernel_rfl
/-- cento/word.width -/
def c_word_width : CC :=
  .seq (.reg [co (some 2) (.assign (.const (.int .i64 0))) none,
      co (some 3) (.assign (.const (.bool false))) none] [0])
  (.seq (.reg [co (some 5) (.build 148 #[(0, (.const (.int .i64 0))), (1, (.const (.int .i64 1))), (2, (.const (.int .i64 8))), (3, (.const (.int .i64 16))), (4, (.const (.int .i64 32))), (5, (.const (.int .i64 64)))]) none,
      cn (some 4) (.alloc 148) none [0],
      co none (.store 148 (.tmp 4) (.tmp 5)) none] [0, 4])
  (.seq (.seq (.reg [co (some 6) (.move (.tmp 0)) none,
        co (some 7) (.binOp .lss 3 (.tmp 6) (.const (.int .i64 0)) 3) none,
        co (some 8) (.move (.tmp 7)) none,
        co (some 9) (.move (.tmp 0)) (some (8, false)),
        co (some 10) (.binOp .geq 3 (.tmp 9) (.const (.int .i64 6)) 3) (some (8, false)),
        co (some 11) (.pick (.tmp 8) (.const (.bool true)) (.tmp 10)) none] [0, 4, 11])
    (.cond (.tmp 11)
      (.seq (.reg [co (some 2) (.assign (.const (.int .i64 0))) none,
          co (some 3) (.assign (.const (.bool false))) none] [2, 3])
      (.ret))
      (.skip)))
  (.keep [0, 4] (.seq (.reg [co (some 12) (.move (.tmp 0)) none,
      co (some 13) (.indexAddr 148 (.tmp 4) (.tmp 12)) none,
      co (some 14) (.load 3 (.tmp 13)) none,
      co (some 2) (.assign (.tmp 14)) none,
      co (some 3) (.assign (.const (.bool true))) none] [2, 3])
  (.ret)))))
theorem t_word_width : Txt Tryd.prog 95 15 [(.tmp 2), (.tmp 3)] c_word_width := txt_of (code := Tryd.f95.body.getD .ret) mixed (by kernel_rfl) Tryd.func95 (by kernel_rfl) Tryd.ntmps95 (by kernel_rfl) (ls := [([0], []), ([], []), ([0, 4], [(1, [0])]), ([], []), ([0, 4, 11], []), ([], []), ([2, 3], []), ([], []), ([999999, 0, 4], []), ([2, 3], []), ([], [])]) (by kernel_rfl)
/-- cento/tree.Data -/
def c_tree_Data : CC :=
  .seq (.reg [co (some 2) (.assign (.const (.bool false))) none] [0])
  (.seq (.reg [co (some 3) (.move (.tmp 0)) none,
      co (some 4) (.binOp .geq 3 (.tmp 3) (.const (.int .i64 2)) 3) none,
      co (some 5) (.move (.tmp 4)) none,
      co (some 6) (.move (.tmp 0)) (some (5, true)),
      co (some 7) (.binOp .leq 3 (.tmp 6) (.const (.int .i64 7)) 3) (some (5, true)),
      co (some 8) (.pick (.tmp 5) (.tmp 7) (.const (.bool false))) none,
      co (some 2) (.assign (.tmp 8)) none] [2])
  (.ret))
theorem t_tree_Data : Txt Tryd.prog 73 9 [(.tmp 2)] c_tree_Data := txt_of (code := Tryd.f73.body.getD .ret) mixed (by kernel_rfl) Tryd.func73 (by kernel_rfl) Tryd.ntmps73 (by kernel_rfl) (ls := [([0], []), ([], []), ([2], []), ([], [])]) (by kernel_rfl)
end Go.Proofs.YtebihdhapepejaaDoor

/-
  The functions' text as data, and the facts on the types that they use: written by a program of ours (gen2.py) off the translation.
-/
namespace Go.Proofs.YtebihdhapepejaaDoor
set_option linter.unusedVariables false
set_option linter.unusedSimpArgs false
set_option maxRecDepth 20000
open Go Go.G Go.Proofs
@[simp] theorem und_5 : Tryd.prog.underlying 5 = some (.int .u8) := by kernel_rfl
@[simp] theorem und_52 : Tryd.prog.underlying 52 = some (.int .u64) := by kernel_rfl
def l1_word_Wide : CC :=
  .seq (.reg [co (some 6) (.binOp .lss 3 (.tmp 5) (.const (.int .i64 8)) 3) none] [0, 3, 5, 6])
  (.seq (.cond (.tmp 6)
      (.skip)
      (.exit 0))
  (.keep [0, 3, 5] (.seq (.block 1
      (.seq (.reg [co (some 7) (.move (.tmp 5)) none,
          co (some 4) (.assign (.tmp 7)) none] [0, 3, 4, 5])
      (.seq (.reg [co (some 8) (.move (.tmp 0)) none,
          co (some 9) (.move (.tmp 4)) none,
          co (some 10) (.binOp .shr 5 (.tmp 8) (.tmp 9) 3) none,
          co (some 11) (.binOp .and 5 (.tmp 10) (.const (.int .u8 1)) 5) none,
          co (some 12) (.binOp .eql 5 (.tmp 11) (.const (.int .u8 1)) 5) none] [0, 3, 4, 5, 12])
      (.cond (.tmp 12)
        (.reg [co (some 13) (.move (.tmp 3)) none,
          co (some 14) (.move (.tmp 4)) none,
          co (some 15) (.binOp .mul 3 (.const (.int .i64 8)) (.tmp 14) 3) none,
          co (some 16) (.binOp .shl 52 (.const (.int .u64 255)) (.tmp 15) 3) none,
          co (some 17) (.binOp .or 52 (.tmp 13) (.tmp 16) 52) none,
          co (some 3) (.assign (.tmp 17)) none] [0, 3, 5])
        (.skip)))))
  (.keep [0, 3, 5] (.reg [co (some 18) (.binOp .add 3 (.tmp 5) (.const (.int .i64 1)) 3) none,
    co (some 5) (.move (.tmp 18)) none] [0, 3, 5])))))
/-- cento/word.Wide -/
def c_word_Wide : CC :=
  .seq (.reg [co (some 2) (.assign (.const (.int .u64 0))) none] [0])
  (.seq (.reg [co (some 3) (.assign (.const (.int .u64 0))) none] [0, 3])
  (.seq (.seq (.reg [co (some 5) (.move (.const (.int .i64 0))) none] [0, 3, 5])
    (.block 0
      (.loop l1_word_Wide)))
  (.keep [3] (.seq (.reg [co (some 19) (.move (.tmp 3)) none,
      co (some 2) (.assign (.tmp 19)) none] [2])
  (.ret)))))
theorem t_word_Wide : Txt Tryd.prog 53 20 [(.tmp 2)] c_word_Wide := txt_of (code := Tryd.f53.body.getD .ret) mixed (by kernel_rfl) Tryd.func53 (by kernel_rfl) Tryd.ntmps53 (by kernel_rfl) (ls := [([0], []), ([], []), ([0, 3], []), ([], []), ([0, 3, 5], []), ([], []), ([0, 3, 5, 6], []), ([], []), ([999999, 0, 3, 5], []), ([0, 3, 4, 5], []), ([], []), ([0, 3, 4, 5, 12], []), ([], []), ([0, 3, 5], []), ([999999, 0, 3, 5], []), ([0, 3, 5], []), ([999999, 3], []), ([2], []), ([], [])]) (by kernel_rfl)
/-- cento/word.Mix -/
def c_word_Mix : CC :=
  .seq (.reg [co (some 6) (.assign (.const (.int .u64 0))) none] [0, 1, 2])
  (.seq (.reg [co (some 7) (.move (.tmp 0)) none,
      co (some 8) (.move (.tmp 2)) none,
      co (some 9) (.call { callee := (.value (.func 53)), args := #[(.tmp 8)], argTypes := #[5] }) none,
      co (some 10) (.binOp .andNot 52 (.tmp 7) (.tmp 9) 52) none,
      co (some 11) (.move (.tmp 1)) none,
      co (some 12) (.move (.tmp 2)) none,
      co (some 13) (.call { callee := (.value (.func 53)), args := #[(.tmp 12)], argTypes := #[5] }) none,
      co (some 14) (.binOp .and 52 (.tmp 11) (.tmp 13) 52) none,
      co (some 15) (.binOp .or 52 (.tmp 10) (.tmp 14) 52) none,
      co (some 6) (.assign (.tmp 15)) none] [6])
  (.ret))
theorem t_word_Mix : Txt Tryd.prog 41 16 [(.tmp 6)] c_word_Mix := txt_of (code := Tryd.f41.body.getD .ret) mixed (by kernel_rfl) Tryd.func41 (by kernel_rfl) Tryd.ntmps41 (by kernel_rfl) (ls := [([0, 1, 2], []), ([], []), ([6], []), ([], [])]) (by kernel_rfl)
end Go.Proofs.YtebihdhapepejaaDoor

/-
  The functions' text as data, and the facts on the types that they use: written by a program of ours (gen2.py) off the translation.
-/
namespace Go.Proofs.YtebihdhapepejaaDoor
set_option linter.unusedVariables false
set_option linter.unusedSimpArgs false
set_option maxRecDepth 20000
open Go Go.G Go.Proofs
@[simp] theorem und_22 : Tryd.prog.underlying 22 = some (.slice 52) := by kernel_rfl
@[simp] theorem und_23 : Tryd.prog.underlying 23 = some (.slice 25) := by kernel_rfl
@[simp] theorem und_26 : Tryd.prog.underlying 26 = some (.slice 54) := by kernel_rfl
@[simp] theorem und_27 : Tryd.prog.underlying 27 = some (.slice 58) := by kernel_rfl
@[simp] theorem und_28 : Tryd.prog.underlying 28 = some (.slice 41) := by kernel_rfl
@[simp] theorem szT_5 : szT Tryd.prog 5 = some 1 := by kernel_rfl
@[simp] theorem szT_22 : szT Tryd.prog 22 = some 1 := by kernel_rfl
@[simp] theorem szT_23 : szT Tryd.prog 23 = some 1 := by kernel_rfl
@[simp] theorem szT_25 : szT Tryd.prog 25 = some 3 := by kernel_rfl
@[simp] theorem szT_26 : szT Tryd.prog 26 = some 1 := by kernel_rfl
@[simp] theorem szT_27 : szT Tryd.prog 27 = some 1 := by kernel_rfl
@[simp] theorem szT_28 : szT Tryd.prog 28 = some 1 := by kernel_rfl
@[simp] theorem szT_30 : szT Tryd.prog 30 = some 11 := by kernel_rfl
@[simp] theorem szT_41 : szT Tryd.prog 41 = some 14 := by kernel_rfl
@[simp] theorem szT_52 : szT Tryd.prog 52 = some 1 := by kernel_rfl
@[simp] theorem szT_54 : szT Tryd.prog 54 = some 4 := by kernel_rfl
@[simp] theorem szT_58 : szT Tryd.prog 58 = some 12 := by kernel_rfl
@[simp] theorem aggT_5 : aggT Tryd.prog 5 = some false := by kernel_rfl
@[simp] theorem aggT_22 : aggT Tryd.prog 22 = some false := by kernel_rfl
@[simp] theorem aggT_23 : aggT Tryd.prog 23 = some false := by kernel_rfl
@[simp] theorem aggT_25 : aggT Tryd.prog 25 = some true := by kernel_rfl
@[simp] theorem aggT_26 : aggT Tryd.prog 26 = some false := by kernel_rfl
@[simp] theorem aggT_27 : aggT Tryd.prog 27 = some false := by kernel_rfl
@[simp] theorem aggT_28 : aggT Tryd.prog 28 = some false := by kernel_rfl
@[simp] theorem aggT_30 : aggT Tryd.prog 30 = some true := by kernel_rfl
@[simp] theorem aggT_41 : aggT Tryd.prog 41 = some true := by kernel_rfl
@[simp] theorem aggT_52 : aggT Tryd.prog 52 = some false := by kernel_rfl
@[simp] theorem aggT_54 : aggT Tryd.prog 54 = some true := by kernel_rfl
@[simp] theorem aggT_58 : aggT Tryd.prog 58 = some true := by kernel_rfl
@[simp] theorem zeroT_25 : zeroT Tryd.prog 25 = some (Value.agg #[Value.int IntKind.i64 0, Value.slice none 0 0, Value.slice none 0 0]) := by kernel_rfl
@[simp] theorem zeroT_41 : zeroT Tryd.prog 41 = some (Value.agg #[Value.int IntKind.i64 0, Value.int IntKind.i64 0, Value.slice none 0 0, Value.int IntKind.i64 0, Value.int IntKind.i64 0, Value.slice none 0 0, Value.slice none 0 0, Value.int IntKind.i64 0, Value.slice none 0 0, Value.slice none 0 0, Value.slice none 0 0, Value.slice none 0 0, Value.int IntKind.i64 0, Value.slice none 0 0]) := by kernel_rfl
@[simp] theorem zeroT_52 : zeroT Tryd.prog 52 = some (Value.int IntKind.u64 0) := by kernel_rfl
@[simp] theorem zeroT_54 : zeroT Tryd.prog 54 = some (Value.agg #[Value.int IntKind.i64 0, Value.int IntKind.u8 0, Value.int IntKind.u64 0, Value.int IntKind.u64 0]) := by kernel_rfl
@[simp] theorem zeroT_58 : zeroT Tryd.prog 58 = some (Value.agg #[Value.int IntKind.i64 0, Value.int IntKind.i64 0, Value.int IntKind.i64 0, Value.slice none 0 0, Value.slice none 0 0, Value.int IntKind.i64 0, Value.slice none 0 0, Value.slice none 0 0, Value.slice none 0 0, Value.slice none 0 0, Value.int IntKind.i64 0, Value.slice none 0 0]) := by kernel_rfl
@[simp] theorem bytesT_25 : bytesT Tryd.prog 25 = some 56 := by kernel_rfl
@[simp] theorem bytesT_41 : bytesT Tryd.prog 41 = some 240 := by kernel_rfl
@[simp] theorem bytesT_52 : bytesT Tryd.prog 52 = some 8 := by kernel_rfl
@[simp] theorem bytesT_54 : bytesT Tryd.prog 54 = some 32 := by kernel_rfl
@[simp] theorem bytesT_58 : bytesT Tryd.prog 58 = some 208 := by kernel_rfl
@[simp] theorem fieldOffT_25_0 : fieldOffT Tryd.prog 25 0 = some 0 := by kernel_rfl
@[simp] theorem fieldOffT_25_1 : fieldOffT Tryd.prog 25 1 = some 1 := by kernel_rfl
@[simp] theorem fieldOffT_25_2 : fieldOffT Tryd.prog 25 2 = some 2 := by kernel_rfl
@[simp] theorem fieldOffT_30_0 : fieldOffT Tryd.prog 30 0 = some 0 := by kernel_rfl
@[simp] theorem fieldOffT_30_1 : fieldOffT Tryd.prog 30 1 = some 1 := by kernel_rfl
@[simp] theorem fieldOffT_30_2 : fieldOffT Tryd.prog 30 2 = some 4 := by kernel_rfl
@[simp] theorem fieldOffT_30_3 : fieldOffT Tryd.prog 30 3 = some 7 := by kernel_rfl
@[simp] theorem fieldOffT_30_4 : fieldOffT Tryd.prog 30 4 = some 8 := by kernel_rfl
@[simp] theorem fieldOffT_30_5 : fieldOffT Tryd.prog 30 5 = some 9 := by kernel_rfl
@[simp] theorem fieldOffT_30_6 : fieldOffT Tryd.prog 30 6 = some 10 := by kernel_rfl
@[simp] theorem fieldOffT_41_0 : fieldOffT Tryd.prog 41 0 = some 0 := by kernel_rfl
@[simp] theorem fieldOffT_41_1 : fieldOffT Tryd.prog 41 1 = some 1 := by kernel_rfl
@[simp] theorem fieldOffT_41_2 : fieldOffT Tryd.prog 41 2 = some 2 := by kernel_rfl
@[simp] theorem fieldOffT_41_3 : fieldOffT Tryd.prog 41 3 = some 3 := by kernel_rfl
@[simp] theorem fieldOffT_54_0 : fieldOffT Tryd.prog 54 0 = some 0 := by kernel_rfl
@[simp] theorem fieldOffT_54_1 : fieldOffT Tryd.prog 54 1 = some 1 := by kernel_rfl
@[simp] theorem fieldOffT_54_2 : fieldOffT Tryd.prog 54 2 = some 2 := by kernel_rfl
@[simp] theorem fieldOffT_54_3 : fieldOffT Tryd.prog 54 3 = some 3 := by kernel_rfl
@[simp] theorem fieldOffT_58_0 : fieldOffT Tryd.prog 58 0 = some 0 := by kernel_rfl
@[simp] theorem fieldOffT_58_1 : fieldOffT Tryd.prog 58 1 = some 1 := by kernel_rfl
@[simp] theorem buildA_25 (ps : List (Nat × A)) : buildA Tryd.prog 25 ps = (fillA (fun i => ([(0, 1), (1, 1), (2, 1)] : List (Nat × Nat))[i]?) [A.v (Value.int IntKind.i64 0), A.sl true [], A.sl true []] ps).map A.agg := by kernel_rfl
/-- cento/word.Fits -/
def c_word_Fits : CC :=
  .seq (.reg [co (some 4) (.assign (.const (.bool false))) none] [0, 1])
  (.seq (.reg [co (some 8) (.move (.tmp 0)) none,
      co (some 9) (.call { callee := (.value (.func 95)), args := #[(.tmp 8)], argTypes := #[3] }) none,
      co (some 7) (.move (.tmp 9)) none,
      co (some 10) (.extract (.tmp 7) 0) none,
      co (some 11) (.extract (.tmp 7) 1) none,
      co (some 5) (.assign (.tmp 10)) none,
      co (some 6) (.assign (.tmp 11)) none] [1, 5, 6])
  (.seq (.reg [co (some 12) (.move (.tmp 6)) none,
      co (some 13) (.move (.tmp 12)) none,
      co (some 14) (.move (.tmp 5)) (some (13, true)),
      co (some 15) (.binOp .eql 3 (.tmp 14) (.const (.int .i64 64)) 3) (some (13, true)),
      co (some 16) (.move (.tmp 15)) (some (13, true)),
      co (some 17) (.move (.tmp 1)) (some (16, false)),
      co (some 18) (.move (.tmp 5)) (some (16, false)),
      co (some 19) (.binOp .shr 52 (.tmp 17) (.tmp 18) 3) (some (16, false)),
      co (some 20) (.binOp .eql 52 (.tmp 19) (.const (.int .u64 0)) 52) (some (16, false)),
      co (some 21) (.pick (.tmp 16) (.const (.bool true)) (.tmp 20)) (some (13, true)),
      co (some 22) (.pick (.tmp 13) (.tmp 21) (.const (.bool false))) none,
      co (some 4) (.assign (.tmp 22)) none] [4])
  (.ret)))
theorem t_word_Fits : Txt Tryd.prog 88 23 [(.tmp 4)] c_word_Fits := txt_of (code := Tryd.f88.body.getD .ret) mixed (by kernel_rfl) Tryd.func88 (by kernel_rfl) Tryd.ntmps88 (by kernel_rfl) (ls := [([0, 1], []), ([], []), ([1, 5, 6], []), ([], []), ([4], []), ([], [])]) (by kernel_rfl)
/-- cento/tree.List -/
def c_tree_List : CC :=
  .seq (.reg [co (some 2) (.assign (.const (.bool false))) none] [0])
  (.seq (.reg [co (some 3) (.move (.tmp 0)) none,
      co (some 4) (.binOp .geq 3 (.tmp 3) (.const (.int .i64 2)) 3) none,
      co (some 5) (.move (.tmp 4)) none,
      co (some 6) (.move (.tmp 0)) (some (5, true)),
      co (some 7) (.binOp .leq 3 (.tmp 6) (.const (.int .i64 9)) 3) (some (5, true)),
      co (some 8) (.pick (.tmp 5) (.tmp 7) (.const (.bool false))) none,
      co (some 2) (.assign (.tmp 8)) none] [2])
  (.ret))
theorem t_tree_List : Txt Tryd.prog 26 9 [(.tmp 2)] c_tree_List := txt_of (code := Tryd.f26.body.getD .ret) mixed (by kernel_rfl) Tryd.func26 (by kernel_rfl) Tryd.ntmps26 (by kernel_rfl) (ls := [([0], []), ([], []), ([2], []), ([], [])]) (by kernel_rfl)
/-- cento/tree.kid -/
def c_tree_kid : CC :=
  .seq (.reg [cn (some 3) (.box 25 (.tmp 1)) none [0],
      co (some 4) (.assign (.const (.bool false))) none] [0, 3])
  (.seq (.block 0
      (.seq (.reg [co (some 6) (.move (.tmp 0)) none,
          co (some 7) (.call { callee := (.value (.func 73)), args := #[(.tmp 6)], argTypes := #[3] }) none,
          co (some 5) (.assign (.tmp 7)) none] [0, 3, 5])
      (.cond (.tmp 5)
        (.seq (.reg [co (some 8) (.fieldAddr 25 (.tmp 3) 0) none,
            co (some 9) (.load 3 (.tmp 8)) none,
            co (some 10) (.binOp .eql 3 (.tmp 9) (.const (.int .i64 10)) 3) none,
            co (some 11) (.move (.tmp 10)) none,
            co (some 12) (.fieldAddr 25 (.tmp 3) 2) (some (11, true)),
            co (some 13) (.load 23 (.tmp 12)) (some (11, true)),
            co (some 14) (.call { callee := (.builtin .len), args := #[(.tmp 13)], argTypes := #[23] }) (some (11, true)),
            co (some 15) (.binOp .eql 3 (.tmp 14) (.const (.int .i64 0)) 3) (some (11, true)),
            co (some 16) (.pick (.tmp 11) (.tmp 15) (.const (.bool false))) none,
            co (some 17) (.move (.tmp 16)) none,
            co (some 18) (.fieldAddr 25 (.tmp 3) 1) (some (17, true)),
            co (some 19) (.load 22 (.tmp 18)) (some (17, true)),
            co (some 20) (.call { callee := (.builtin .len), args := #[(.tmp 19)], argTypes := #[22] }) (some (17, true)),
            co (some 21) (.binOp .eql 3 (.tmp 20) (.const (.int .i64 1)) 3) (some (17, true)),
            co (some 22) (.pick (.tmp 17) (.tmp 21) (.const (.bool false))) none,
            co (some 23) (.move (.tmp 22)) none,
            co (some 24) (.move (.tmp 0)) (some (23, true)),
            co (some 25) (.binOp .sub 3 (.tmp 24) (.const (.int .i64 2)) 3) (some (23, true)),
            co (some 26) (.fieldAddr 25 (.tmp 3) 1) (some (23, true)),
            co (some 27) (.load 22 (.tmp 26)) (some (23, true)),
            co (some 28) (.indexAddr 22 (.tmp 27) (.const (.int .i64 0))) (some (23, true)),
            co (some 29) (.load 52 (.tmp 28)) (some (23, true)),
            co (some 30) (.call { callee := (.value (.func 88)), args := #[(.tmp 25), (.tmp 29)], argTypes := #[3, 52] }) (some (23, true)),
            co (some 31) (.pick (.tmp 23) (.tmp 30) (.const (.bool false))) none,
            co (some 4) (.assign (.tmp 31)) none] [4])
        (.ret))
        (.seq (.reg [co (some 33) (.move (.tmp 0)) none,
            co (some 34) (.binOp .eql 3 (.tmp 33) (.const (.int .i64 9)) 3) none,
            co (some 32) (.assign (.tmp 34)) none] [3, 32])
        (.cond (.tmp 32)
          (.seq (.reg [co (some 35) (.fieldAddr 25 (.tmp 3) 0) none,
              co (some 36) (.load 3 (.tmp 35)) none,
              co (some 37) (.binOp .eql 3 (.tmp 36) (.const (.int .i64 1)) 3) none,
              co (some 4) (.assign (.tmp 37)) none] [4])
          (.ret))
          (.skip))))))
  (.keep [3] (.seq (.reg [co (some 38) (.fieldAddr 25 (.tmp 3) 0) none,
      co (some 39) (.load 3 (.tmp 38)) none,
      co (some 40) (.binOp .neq 3 (.tmp 39) (.const (.int .i64 10)) 3) none,
      co (some 4) (.assign (.tmp 40)) none] [4])
  (.ret))))
theorem t_tree_kid : Txt Tryd.prog 71 41 [(.tmp 4)] c_tree_kid := txt_of (code := Tryd.f71.body.getD .ret) mixed (by kernel_rfl) Tryd.func71 (by kernel_rfl) Tryd.ntmps71 (by kernel_rfl) (ls := [([0, 3], [(0, [0])]), ([], []), ([0, 3, 5], []), ([], []), ([4], []), ([], []), ([3, 32], []), ([], []), ([4], []), ([], []), ([999999, 3], []), ([4], []), ([], [])]) (by kernel_rfl)
def k1_tree_right : CC :=
  .seq (.reg [co (some 87) (.move (.tmp 7)) none,
      co (some 88) (.unOp .not 4 (.tmp 87)) none,
      co (some 89) (.move (.tmp 88)) none,
      co (some 90) (.load 25 (.tmp 6)) (some (89, false)),
      co (some 91) (.move (.tmp 1)) (some (89, false)),
      co (some 92) (.binOp .sub 3 (.tmp 91) (.const (.int .i64 1)) 3) (some (89, false)),
      co (some 93) (.call { callee := (.value (.func 52)), args := #[(.tmp 90), (.tmp 92)], argTypes := #[25, 3] }) (some (89, false)),
      co (some 94) (.unOp .not 4 (.tmp 93)) (some (89, false)),
      co (some 95) (.pick (.tmp 89) (.const (.bool true)) (.tmp 94)) none] [1, 2, 71, 72, 73, 95])
  (.cond (.tmp 95)
    (.seq (.reg [co (some 4) (.assign (.const (.bool false))) none] [4])
    (.ret))
    (.skip))
def l1_tree_right : CC :=
  .seq (.reg [co (some 74) (.binOp .lss 3 (.tmp 73) (.tmp 72) 3) none] [1, 2, 71, 72, 73, 74])
  (.seq (.cond (.tmp 74)
      (.skip)
      (.exit 1))
  (.keep [1, 2, 71, 72, 73] (.seq (.block 2
      (.seq (.reg [co (some 75) (.indexAddr 23 (.tmp 71) (.tmp 73)) none,
          co (some 76) (.load 25 (.tmp 75)) none,
          cn (some 6) (.alloc 25) none [1],
          co none (.store 25 (.tmp 6) (.tmp 76)) none] [1, 2, 6, 71, 72, 73])
      (.seq (.reg [co (some 77) (.fieldAddr 25 (.tmp 6) 0) none,
          co (some 78) (.load 3 (.tmp 77)) none,
          co (some 79) (.binOp .neq 3 (.tmp 78) (.const (.int .i64 10)) 3) none,
          co (some 7) (.assign (.tmp 79)) none] [1, 2, 6, 7, 71, 72, 73])
      (.seq (.seq (.reg [co (some 80) (.fieldAddr 25 (.tmp 2) 0) none,
            co (some 81) (.load 3 (.tmp 80)) none,
            co (some 82) (.binOp .neq 3 (.tmp 81) (.const (.int .i64 1)) 3) none] [1, 2, 6, 7, 71, 72, 73, 82])
        (.cond (.tmp 82)
          (.reg [co (some 83) (.fieldAddr 25 (.tmp 2) 0) none,
            co (some 84) (.load 3 (.tmp 83)) none,
            co (some 85) (.load 25 (.tmp 6)) none,
            co (some 86) (.call { callee := (.value (.func 71)), args := #[(.tmp 84), (.tmp 85)], argTypes := #[3, 25] }) none,
            co (some 7) (.assign (.tmp 86)) none] [1, 2, 6, 7, 71, 72, 73])
          (.skip)))
      (.keep [1, 2, 6, 7, 71, 72, 73] k1_tree_right)))))
  (.keep [1, 2, 71, 72, 73] (.reg [co (some 96) (.binOp .add 3 (.tmp 73) (.const (.int .i64 1)) 3) none,
    co (some 73) (.move (.tmp 96)) none] [1, 2, 71, 72, 73])))))
def k2_tree_right : CC :=
  .seq (.seq (.reg [co (some 70) (.fieldAddr 25 (.tmp 2) 2) none,
        co (some 71) (.load 23 (.tmp 70)) none,
        co (some 72) (.call { callee := (.builtin .len), args := #[(.tmp 71)], argTypes := #[23] }) none,
        co (some 73) (.move (.const (.int .i64 0))) none] [1, 2, 71, 72, 73])
    (.block 1
      (.loop l1_tree_right)))
  (.keep [] (.seq (.reg [co (some 4) (.assign (.const (.bool true))) none] [4])
  (.ret)))
/-- cento/tree.right -/
def c_tree_right : CC :=
  .seq (.reg [cn (some 2) (.box 25 (.tmp 0)) none [0],
      co (some 4) (.assign (.const (.bool false))) none] [1, 2])
  (.seq (.block 0
      (.seq (.reg [co (some 9) (.fieldAddr 25 (.tmp 2) 0) none,
          co (some 10) (.load 3 (.tmp 9)) none,
          co (some 11) (.binOp .eql 3 (.tmp 10) (.const (.int .i64 0)) 3) none,
          co (some 8) (.assign (.tmp 11)) none] [1, 2, 8])
      (.cond (.tmp 8)
        (.seq (.reg [co (some 12) (.fieldAddr 25 (.tmp 2) 1) none,
            co (some 13) (.load 22 (.tmp 12)) none,
            co (some 14) (.call { callee := (.builtin .len), args := #[(.tmp 13)], argTypes := #[22] }) none,
            co (some 15) (.binOp .eql 3 (.tmp 14) (.const (.int .i64 0)) 3) none,
            co (some 16) (.move (.tmp 15)) none,
            co (some 17) (.fieldAddr 25 (.tmp 2) 2) (some (16, true)),
            co (some 18) (.load 23 (.tmp 17)) (some (16, true)),
            co (some 19) (.call { callee := (.builtin .len), args := #[(.tmp 18)], argTypes := #[23] }) (some (16, true)),
            co (some 20) (.binOp .eql 3 (.tmp 19) (.const (.int .i64 0)) 3) (some (16, true)),
            co (some 21) (.pick (.tmp 16) (.tmp 20) (.const (.bool false))) none,
            co (some 4) (.assign (.tmp 21)) none] [4])
        (.ret))
        (.seq (.reg [co (some 23) (.fieldAddr 25 (.tmp 2) 0) none,
            co (some 24) (.load 3 (.tmp 23)) none,
            co (some 25) (.binOp .eql 3 (.tmp 24) (.const (.int .i64 10)) 3) none,
            co (some 22) (.assign (.tmp 25)) none] [1, 2, 22])
        (.cond (.tmp 22)
          (.seq (.reg [co (some 26) (.fieldAddr 25 (.tmp 2) 1) none,
              co (some 27) (.load 22 (.tmp 26)) none,
              co (some 28) (.call { callee := (.builtin .len), args := #[(.tmp 27)], argTypes := #[22] }) none,
              co (some 29) (.binOp .eql 3 (.tmp 28) (.const (.int .i64 1)) 3) none,
              co (some 30) (.move (.tmp 29)) none,
              co (some 31) (.fieldAddr 25 (.tmp 2) 2) (some (30, true)),
              co (some 32) (.load 23 (.tmp 31)) (some (30, true)),
              co (some 33) (.call { callee := (.builtin .len), args := #[(.tmp 32)], argTypes := #[23] }) (some (30, true)),
              co (some 34) (.binOp .eql 3 (.tmp 33) (.const (.int .i64 0)) 3) (some (30, true)),
              co (some 35) (.pick (.tmp 30) (.tmp 34) (.const (.bool false))) none,
              co (some 4) (.assign (.tmp 35)) none] [4])
          (.ret))
          (.seq (.reg [co (some 37) (.move (.tmp 1)) none,
              co (some 38) (.binOp .eql 3 (.tmp 37) (.const (.int .i64 0)) 3) none,
              co (some 36) (.assign (.tmp 38)) none] [1, 2, 36])
          (.cond (.tmp 36)
            (.seq (.reg [co (some 4) (.assign (.const (.bool false))) none] [4])
            (.ret))
            (.seq (.reg [co (some 40) (.fieldAddr 25 (.tmp 2) 0) none,
                co (some 41) (.load 3 (.tmp 40)) none,
                co (some 42) (.binOp .eql 3 (.tmp 41) (.const (.int .i64 1)) 3) none,
                co (some 39) (.assign (.tmp 42)) none] [1, 2, 39])
            (.cond (.tmp 39)
              (.seq (.reg [co (some 43) (.fieldAddr 25 (.tmp 2) 1) none,
                  co (some 44) (.load 22 (.tmp 43)) none,
                  co (some 45) (.call { callee := (.builtin .len), args := #[(.tmp 44)], argTypes := #[22] }) none,
                  co (some 46) (.binOp .geq 3 (.tmp 45) (.const (.int .i64 65536)) 3) none,
                  co (some 47) (.move (.tmp 46)) none,
                  co (some 48) (.fieldAddr 25 (.tmp 2) 2) (some (47, false)),
                  co (some 49) (.load 23 (.tmp 48)) (some (47, false)),
                  co (some 50) (.call { callee := (.builtin .len), args := #[(.tmp 49)], argTypes := #[23] }) (some (47, false)),
                  co (some 51) (.binOp .geq 3 (.tmp 50) (.const (.int .i64 65536)) 3) (some (47, false)),
                  co (some 52) (.pick (.tmp 47) (.const (.bool true)) (.tmp 51)) none] [1, 2, 52])
              (.cond (.tmp 52)
                (.seq (.reg [co (some 4) (.assign (.const (.bool false))) none] [4])
                (.ret))
                (.skip)))
              (.seq (.reg [co (some 54) (.fieldAddr 25 (.tmp 2) 0) none,
                  co (some 55) (.load 3 (.tmp 54)) none,
                  co (some 56) (.call { callee := (.value (.func 26)), args := #[(.tmp 55)], argTypes := #[3] }) none,
                  co (some 57) (.unOp .not 4 (.tmp 56)) none,
                  co (some 58) (.move (.tmp 57)) none,
                  co (some 59) (.fieldAddr 25 (.tmp 2) 1) (some (58, false)),
                  co (some 60) (.load 22 (.tmp 59)) (some (58, false)),
                  co (some 61) (.call { callee := (.builtin .len), args := #[(.tmp 60)], argTypes := #[22] }) (some (58, false)),
                  co (some 62) (.binOp .gtr 3 (.tmp 61) (.const (.int .i64 0)) 3) (some (58, false)),
                  co (some 63) (.pick (.tmp 58) (.const (.bool true)) (.tmp 62)) none,
                  co (some 64) (.move (.tmp 63)) none,
                  co (some 65) (.fieldAddr 25 (.tmp 2) 2) (some (64, false)),
                  co (some 66) (.load 23 (.tmp 65)) (some (64, false)),
                  co (some 67) (.call { callee := (.builtin .len), args := #[(.tmp 66)], argTypes := #[23] }) (some (64, false)),
                  co (some 68) (.binOp .geq 3 (.tmp 67) (.const (.int .i64 1048576)) 3) (some (64, false)),
                  co (some 69) (.pick (.tmp 64) (.const (.bool true)) (.tmp 68)) none,
                  co (some 53) (.assign (.tmp 69)) none] [1, 2, 53])
              (.cond (.tmp 53)
                (.seq (.reg [co (some 4) (.assign (.const (.bool false))) none] [4])
                (.ret))
                (.skip))))))))))))
  (.keep [1, 2] k2_tree_right))
theorem t_tree_right : Txt Tryd.prog 52 97 [(.tmp 4)] c_tree_right := txt_of (code := Tryd.f52.body.getD .ret) mixed (by kernel_rfl) Tryd.func52 (by kernel_rfl) Tryd.ntmps52 (by kernel_rfl) (ls := [([1, 2], [(0, [0])]), ([], []), ([1, 2, 8], []), ([], []), ([4], []), ([], []), ([1, 2, 22], []), ([], []), ([4], []), ([], []), ([1, 2, 36], []), ([], []), ([4], []), ([], []), ([1, 2, 39], []), ([], []), ([1, 2, 52], []), ([], []), ([4], []), ([], []), ([1, 2, 53], []), ([], []), ([4], []), ([], []), ([999999, 1, 2], []), ([1, 2, 71, 72, 73], []), ([], []), ([1, 2, 71, 72, 73, 74], []), ([], []), ([999999, 1, 2, 71, 72, 73], []), ([1, 2, 6, 71, 72, 73], [(2, [1])]), ([], []), ([1, 2, 6, 7, 71, 72, 73], []), ([], []), ([1, 2, 6, 7, 71, 72, 73, 82], []), ([], []), ([1, 2, 6, 7, 71, 72, 73], []), ([999999, 1, 2, 6, 7, 71, 72, 73], []), ([1, 2, 71, 72, 73, 95], []), ([], []), ([4], []), ([], []), ([999999, 1, 2, 71, 72, 73], []), ([1, 2, 71, 72, 73], []), ([999999], []), ([4], []), ([], [])]) (by kernel_rfl)
/-- cento/tree.Right -/
def c_tree_Right : CC :=
  .seq (.reg [cn (some 1) (.box 25 (.tmp 0)) none [0],
      co (some 2) (.assign (.const (.bool false))) none] [1])
  (.seq (.reg [co (some 3) (.load 25 (.tmp 1)) none,
      co (some 4) (.call { callee := (.value (.func 52)), args := #[(.tmp 3), (.const (.int .i64 64))], argTypes := #[25, 3] }) none,
      co (some 2) (.assign (.tmp 4)) none] [2])
  (.ret))
theorem t_tree_Right : Txt Tryd.prog 40 5 [(.tmp 2)] c_tree_Right := txt_of (code := Tryd.f40.body.getD .ret) mixed (by kernel_rfl) Tryd.func40 (by kernel_rfl) Tryd.ntmps40 (by kernel_rfl) (ls := [([1], [(0, [0])]), ([], []), ([2], []), ([], [])]) (by kernel_rfl)
/-- cento/edit.bare$1 -/
def c_edit_bare_1 : CC :=
  .seq (.reg [cn (some 1) (.box 25 (.tmp 0)) none [0],
      co (some 2) (.assign (.const (.bool false))) none] [1])
  (.seq (.reg [co (some 3) (.fieldAddr 25 (.tmp 1) 0) none,
      co (some 4) (.load 3 (.tmp 3)) none,
      co (some 5) (.binOp .eql 3 (.tmp 4) (.const (.int .i64 0)) 3) none,
      co (some 6) (.move (.tmp 5)) none,
      co (some 7) (.fieldAddr 25 (.tmp 1) 1) (some (6, true)),
      co (some 8) (.load 22 (.tmp 7)) (some (6, true)),
      co (some 9) (.call { callee := (.builtin .len), args := #[(.tmp 8)], argTypes := #[22] }) (some (6, true)),
      co (some 10) (.fieldAddr 25 (.tmp 1) 2) (some (6, true)),
      co (some 11) (.load 23 (.tmp 10)) (some (6, true)),
      co (some 12) (.call { callee := (.builtin .len), args := #[(.tmp 11)], argTypes := #[23] }) (some (6, true)),
      co (some 13) (.binOp .add 3 (.tmp 9) (.tmp 12) 3) (some (6, true)),
      co (some 14) (.binOp .eql 3 (.tmp 13) (.const (.int .i64 0)) 3) (some (6, true)),
      co (some 15) (.pick (.tmp 6) (.tmp 14) (.const (.bool false))) none,
      co (some 2) (.assign (.tmp 15)) none] [2])
  (.ret))
theorem t_edit_bare_1 : Txt Tryd.prog 39 16 [(.tmp 2)] c_edit_bare_1 := txt_of (code := Tryd.f39.body.getD .ret) mixed (by kernel_rfl) Tryd.func39 (by kernel_rfl) Tryd.ntmps39 (by kernel_rfl) (ls := [([1], [(0, [0])]), ([], []), ([2], []), ([], [])]) (by kernel_rfl)
/-- cento/edit.bare -/
def c_edit_bare : CC :=
  .seq (.reg [cn (some 1) (.box 30 (.tmp 0)) none [0],
      co (some 2) (.assign (.const (.bool false))) none] [1])
  (.seq (.reg [co (some 3) (.assign (.func 39)) none] [1, 3])
  (.seq (.block 0
      (.seq (.reg [co (some 5) (.fieldAddr 30 (.tmp 1) 0) none,
          co (some 6) (.load 3 (.tmp 5)) none,
          co (some 7) (.binOp .neq 3 (.tmp 6) (.const (.int .i64 1)) 3) none,
          co (some 8) (.move (.tmp 7)) none,
          co (some 9) (.move (.tmp 3)) (some (8, true)),
          co (some 10) (.fieldAddr 30 (.tmp 1) 1) (some (8, true)),
          co (some 11) (.load 25 (.tmp 10)) (some (8, true)),
          co (some 12) (.call { callee := (.value (.tmp 9)), args := #[(.tmp 11)], argTypes := #[25] }) (some (8, true)),
          co (some 13) (.move (.tmp 12)) (some (8, true)),
          co (some 14) (.move (.tmp 3)) (some (13, true)),
          co (some 15) (.fieldAddr 30 (.tmp 1) 2) (some (13, true)),
          co (some 16) (.load 25 (.tmp 15)) (some (13, true)),
          co (some 17) (.call { callee := (.value (.tmp 14)), args := #[(.tmp 16)], argTypes := #[25] }) (some (13, true)),
          co (some 18) (.pick (.tmp 13) (.tmp 17) (.const (.bool false))) (some (8, true)),
          co (some 19) (.unOp .not 4 (.tmp 18)) (some (8, true)),
          co (some 20) (.pick (.tmp 8) (.tmp 19) (.const (.bool false))) none,
          co (some 4) (.assign (.tmp 20)) none] [1, 4])
      (.cond (.tmp 4)
        (.seq (.reg [co (some 2) (.assign (.const (.bool false))) none] [2])
        (.ret))
        (.seq (.reg [co (some 22) (.fieldAddr 30 (.tmp 1) 0) none,
            co (some 23) (.load 3 (.tmp 22)) none,
            co (some 24) (.binOp .neq 3 (.tmp 23) (.const (.int .i64 2)) 3) none,
            co (some 25) (.move (.tmp 24)) none,
            co (some 26) (.fieldAddr 30 (.tmp 1) 3) (some (25, true)),
            co (some 27) (.load 26 (.tmp 26)) (some (25, true)),
            co (some 28) (.call { callee := (.builtin .len), args := #[(.tmp 27)], argTypes := #[26] }) (some (25, true)),
            co (some 29) (.fieldAddr 30 (.tmp 1) 4) (some (25, true)),
            co (some 30) (.load 27 (.tmp 29)) (some (25, true)),
            co (some 31) (.call { callee := (.builtin .len), args := #[(.tmp 30)], argTypes := #[27] }) (some (25, true)),
            co (some 32) (.binOp .add 3 (.tmp 28) (.tmp 31) 3) (some (25, true)),
            co (some 33) (.binOp .gtr 3 (.tmp 32) (.const (.int .i64 0)) 3) (some (25, true)),
            co (some 34) (.pick (.tmp 25) (.tmp 33) (.const (.bool false))) none,
            co (some 21) (.assign (.tmp 34)) none] [1, 21])
        (.cond (.tmp 21)
          (.seq (.reg [co (some 2) (.assign (.const (.bool false))) none] [2])
          (.ret))
          (.skip))))))
  (.keep [1] (.seq (.reg [co (some 35) (.fieldAddr 30 (.tmp 1) 0) none,
      co (some 36) (.load 3 (.tmp 35)) none,
      co (some 37) (.binOp .eql 3 (.tmp 36) (.const (.int .i64 3)) 3) none,
      co (some 38) (.move (.tmp 37)) none,
      co (some 39) (.fieldAddr 30 (.tmp 1) 5) (some (38, false)),
      co (some 40) (.load 3 (.tmp 39)) (some (38, false)),
      co (some 41) (.binOp .eql 3 (.tmp 40) (.const (.int .i64 0)) 3) (some (38, false)),
      co (some 42) (.move (.tmp 41)) (some (38, false)),
      co (some 43) (.fieldAddr 30 (.tmp 1) 6) (some (42, true)),
      co (some 44) (.load 28 (.tmp 43)) (some (42, true)),
      co (some 45) (.call { callee := (.builtin .len), args := #[(.tmp 44)], argTypes := #[28] }) (some (42, true)),
      co (some 46) (.binOp .eql 3 (.tmp 45) (.const (.int .i64 0)) 3) (some (42, true)),
      co (some 47) (.pick (.tmp 42) (.tmp 46) (.const (.bool false))) (some (38, false)),
      co (some 48) (.pick (.tmp 38) (.const (.bool true)) (.tmp 47)) none,
      co (some 2) (.assign (.tmp 48)) none] [2])
  (.ret)))))
theorem t_edit_bare : Txt Tryd.prog 22 49 [(.tmp 2)] c_edit_bare := txt_of (code := Tryd.f22.body.getD .ret) mixed (by kernel_rfl) Tryd.func22 (by kernel_rfl) Tryd.ntmps22 (by kernel_rfl) (ls := [([1], [(0, [0])]), ([], []), ([1, 3], []), ([], []), ([1, 4], []), ([], []), ([2], []), ([], []), ([1, 21], []), ([], []), ([2], []), ([], []), ([999999, 1], []), ([2], []), ([], [])]) (by kernel_rfl)
/-- cento/edit.value -/
def c_edit_value : CC :=
  .seq (.reg [cn (some 1) (.box 25 (.tmp 0)) none [0],
      co (some 2) (.assign (.const (.bool false))) none] [1])
  (.seq (.reg [co (some 3) (.fieldAddr 25 (.tmp 1) 0) none,
      co (some 4) (.load 3 (.tmp 3)) none,
      co (some 5) (.binOp .neq 3 (.tmp 4) (.const (.int .i64 10)) 3) none,
      co (some 6) (.move (.tmp 5)) none,
      co (some 7) (.load 25 (.tmp 1)) (some (6, true)),
      co (some 8) (.call { callee := (.value (.func 40)), args := #[(.tmp 7)], argTypes := #[25] }) (some (6, true)),
      co (some 9) (.pick (.tmp 6) (.tmp 8) (.const (.bool false))) none,
      co (some 2) (.assign (.tmp 9)) none] [2])
  (.ret))
theorem t_edit_value : Txt Tryd.prog 23 10 [(.tmp 2)] c_edit_value := txt_of (code := Tryd.f23.body.getD .ret) mixed (by kernel_rfl) Tryd.func23 (by kernel_rfl) Tryd.ntmps23 (by kernel_rfl) (ls := [([1], [(0, [0])]), ([], []), ([2], []), ([], [])]) (by kernel_rfl)
def k1_edit_words : CC :=
  .seq (.reg [co (some 40) (.fieldAddr 54 (.tmp 4) 2) none,
      co (some 41) (.load 52 (.tmp 40)) none,
      co (some 42) (.fieldAddr 54 (.tmp 4) 1) none,
      co (some 43) (.load 5 (.tmp 42)) none,
      co (some 44) (.call { callee := (.value (.func 41)), args := #[(.tmp 41), (.const (.int .u64 0)), (.tmp 43)], argTypes := #[52, 52, 5] }) none,
      co (some 45) (.binOp .neq 52 (.tmp 44) (.const (.int .u64 0)) 52) none,
      co (some 46) (.move (.tmp 45)) none,
      co (some 47) (.fieldAddr 54 (.tmp 4) 3) (some (46, false)),
      co (some 48) (.load 52 (.tmp 47)) (some (46, false)),
      co (some 49) (.fieldAddr 54 (.tmp 4) 1) (some (46, false)),
      co (some 50) (.load 5 (.tmp 49)) (some (46, false)),
      co (some 51) (.call { callee := (.value (.func 41)), args := #[(.tmp 48), (.const (.int .u64 0)), (.tmp 50)], argTypes := #[52, 52, 5] }) (some (46, false)),
      co (some 52) (.binOp .neq 52 (.tmp 51) (.const (.int .u64 0)) 52) (some (46, false)),
      co (some 53) (.pick (.tmp 46) (.const (.bool true)) (.tmp 52)) none] [0, 5, 6, 7, 53])
  (.cond (.tmp 53)
    (.seq (.reg [co (some 2) (.assign (.const (.bool false))) none] [2])
    (.ret))
    (.skip))
def l1_edit_words : CC :=
  .seq (.reg [co (some 8) (.binOp .lss 3 (.tmp 7) (.tmp 6) 3) none] [0, 5, 6, 7, 8])
  (.seq (.cond (.tmp 8)
      (.skip)
      (.exit 0))
  (.keep [0, 5, 6, 7] (.seq (.block 1
      (.seq (.reg [co (some 9) (.move (.tmp 7)) none,
          co (some 10) (.indexAddr 26 (.tmp 5) (.tmp 7)) none,
          co (some 11) (.load 54 (.tmp 10)) none,
          cn (some 4) (.alloc 54) none [0],
          co (some 3) (.assign (.tmp 9)) none,
          co none (.store 54 (.tmp 4) (.tmp 11)) none] [0, 3, 4, 5, 6, 7])
      (.seq (.seq (.reg [co (some 12) (.fieldAddr 54 (.tmp 4) 0) none,
            co (some 13) (.load 3 (.tmp 12)) none,
            co (some 14) (.binOp .lss 3 (.tmp 13) (.const (.int .i64 0)) 3) none,
            co (some 15) (.move (.tmp 14)) none,
            co (some 16) (.fieldAddr 54 (.tmp 4) 0) (some (15, false)),
            co (some 17) (.load 3 (.tmp 16)) (some (15, false)),
            co (some 18) (.binOp .geq 3 (.tmp 17) (.const (.int .i64 65535)) 3) (some (15, false)),
            co (some 19) (.pick (.tmp 15) (.const (.bool true)) (.tmp 18)) none,
            co (some 20) (.move (.tmp 19)) none,
            co (some 21) (.move (.tmp 3)) (some (20, false)),
            co (some 22) (.binOp .gtr 3 (.tmp 21) (.const (.int .i64 0)) 3) (some (20, false)),
            co (some 23) (.move (.tmp 22)) (some (20, false)),
            co (some 24) (.move (.tmp 0)) (some (23, true)),
            co (some 25) (.move (.tmp 3)) (some (23, true)),
            co (some 26) (.binOp .sub 3 (.tmp 25) (.const (.int .i64 1)) 3) (some (23, true)),
            co (some 27) (.indexAddr 26 (.tmp 24) (.tmp 26)) (some (23, true)),
            co (some 28) (.fieldAddr 54 (.tmp 27) 0) (some (23, true)),
            co (some 29) (.load 3 (.tmp 28)) (some (23, true)),
            co (some 30) (.fieldAddr 54 (.tmp 4) 0) (some (23, true)),
            co (some 31) (.load 3 (.tmp 30)) (some (23, true)),
            co (some 32) (.binOp .geq 3 (.tmp 29) (.tmp 31) 3) (some (23, true)),
            co (some 33) (.pick (.tmp 23) (.tmp 32) (.const (.bool false))) (some (20, false)),
            co (some 34) (.pick (.tmp 20) (.const (.bool true)) (.tmp 33)) none,
            co (some 35) (.move (.tmp 34)) none,
            co (some 36) (.fieldAddr 54 (.tmp 4) 1) (some (35, false)),
            co (some 37) (.load 5 (.tmp 36)) (some (35, false)),
            co (some 38) (.binOp .eql 5 (.tmp 37) (.const (.int .u8 0)) 5) (some (35, false)),
            co (some 39) (.pick (.tmp 35) (.const (.bool true)) (.tmp 38)) none] [0, 4, 5, 6, 7, 39])
        (.cond (.tmp 39)
          (.seq (.reg [co (some 2) (.assign (.const (.bool false))) none] [2])
          (.ret))
          (.skip)))
      (.keep [0, 4, 5, 6, 7] (.stop k1_edit_words)))))
  (.keep [0, 5, 6, 7] (.reg [co (some 54) (.binOp .add 3 (.tmp 7) (.const (.int .i64 1)) 3) none,
    co (some 7) (.move (.tmp 54)) none] [0, 5, 6, 7])))))
/-- cento/edit.words -/
def c_edit_words : CC :=
  .seq (.reg [co (some 2) (.assign (.const (.bool false))) none] [0])
  (.seq (.seq (.reg [co (some 5) (.move (.tmp 0)) none,
        co (some 6) (.call { callee := (.builtin .len), args := #[(.tmp 5)], argTypes := #[26] }) none,
        co (some 7) (.move (.const (.int .i64 0))) none] [0, 5, 6, 7])
    (.block 0
      (.loop l1_edit_words)))
  (.keep [] (.seq (.reg [co (some 2) (.assign (.const (.bool true))) none] [2])
  (.ret))))
theorem t_edit_words : Txt Tryd.prog 24 55 [(.tmp 2)] c_edit_words := txt_of (code := Tryd.f24.body.getD .ret) mixed (by kernel_rfl) Tryd.func24 (by kernel_rfl) Tryd.ntmps24 (by kernel_rfl) (ls := [([0], []), ([], []), ([0, 5, 6, 7], []), ([], []), ([0, 5, 6, 7, 8], []), ([], []), ([999999, 0, 5, 6, 7], []), ([0, 3, 4, 5, 6, 7], [(3, [0])]), ([], []), ([0, 4, 5, 6, 7, 39], []), ([], []), ([2], []), ([], []), ([999997, 0, 4, 5, 6, 7], []), ([0, 5, 6, 7, 53], []), ([], []), ([2], []), ([], []), ([999999, 0, 5, 6, 7], []), ([0, 5, 6, 7], []), ([999999], []), ([2], []), ([], [])]) (by kernel_rfl)
def l1_edit_kids : CC :=
  .seq (.reg [co (some 10) (.binOp .lss 3 (.tmp 9) (.tmp 8) 3) none] [0, 1, 7, 8, 9, 10])
  (.seq (.cond (.tmp 10)
      (.skip)
      (.exit 0))
  (.keep [0, 1, 7, 8, 9] (.seq (.block 1
      (.seq (.reg [co (some 11) (.move (.tmp 9)) none,
          co (some 12) (.indexAddr 27 (.tmp 7) (.tmp 9)) none,
          co (some 13) (.load 58 (.tmp 12)) none,
          cn (some 6) (.alloc 58) none [0],
          co (some 5) (.assign (.tmp 11)) none,
          co none (.store 58 (.tmp 6) (.tmp 13)) none] [0, 1, 5, 6, 7, 8, 9])
      (.seq (.reg [co (some 14) (.fieldAddr 58 (.tmp 6) 0) none,
          co (some 15) (.load 3 (.tmp 14)) none,
          co (some 16) (.binOp .lss 3 (.tmp 15) (.const (.int .i64 0)) 3) none,
          co (some 17) (.move (.tmp 16)) none,
          co (some 18) (.fieldAddr 58 (.tmp 6) 0) (some (17, false)),
          co (some 19) (.load 3 (.tmp 18)) (some (17, false)),
          co (some 20) (.binOp .geq 3 (.tmp 19) (.const (.int .i64 65535)) 3) (some (17, false)),
          co (some 21) (.pick (.tmp 17) (.const (.bool true)) (.tmp 20)) none,
          co (some 22) (.move (.tmp 21)) none,
          co (some 23) (.move (.tmp 5)) (some (22, false)),
          co (some 24) (.binOp .gtr 3 (.tmp 23) (.const (.int .i64 0)) 3) (some (22, false)),
          co (some 25) (.move (.tmp 24)) (some (22, false)),
          co (some 26) (.move (.tmp 0)) (some (25, true)),
          co (some 27) (.move (.tmp 5)) (some (25, true)),
          co (some 28) (.binOp .sub 3 (.tmp 27) (.const (.int .i64 1)) 3) (some (25, true)),
          co (some 29) (.indexAddr 27 (.tmp 26) (.tmp 28)) (some (25, true)),
          co (some 30) (.fieldAddr 58 (.tmp 29) 0) (some (25, true)),
          co (some 31) (.load 3 (.tmp 30)) (some (25, true)),
          co (some 32) (.fieldAddr 58 (.tmp 6) 0) (some (25, true)),
          co (some 33) (.load 3 (.tmp 32)) (some (25, true)),
          co (some 34) (.binOp .geq 3 (.tmp 31) (.tmp 33) 3) (some (25, true)),
          co (some 35) (.pick (.tmp 25) (.tmp 34) (.const (.bool false))) (some (22, false)),
          co (some 36) (.pick (.tmp 22) (.const (.bool true)) (.tmp 35)) none,
          co (some 37) (.move (.tmp 36)) none,
          co (some 38) (.fieldAddr 58 (.tmp 6) 1) (some (37, false)),
          co (some 39) (.fieldAddr 30 (.tmp 38) 0) (some (37, false)),
          co (some 40) (.load 3 (.tmp 39)) (some (37, false)),
          co (some 41) (.binOp .eql 3 (.tmp 40) (.const (.int .i64 0)) 3) (some (37, false)),
          co (some 42) (.pick (.tmp 37) (.const (.bool true)) (.tmp 41)) none,
          co (some 43) (.move (.tmp 42)) none,
          co (some 44) (.fieldAddr 58 (.tmp 6) 1) (some (43, false)),
          co (some 45) (.load 30 (.tmp 44)) (some (43, false)),
          co (some 46) (.move (.tmp 1)) (some (43, false)),
          co (some 47) (.call { callee := (.value (.func 11)), args := #[(.tmp 45), (.tmp 46)], argTypes := #[30, 3] }) (some (43, false)),
          co (some 48) (.unOp .not 4 (.tmp 47)) (some (43, false)),
          co (some 49) (.pick (.tmp 43) (.const (.bool true)) (.tmp 48)) none] [0, 1, 7, 8, 9, 49])
      (.cond (.tmp 49)
        (.seq (.reg [co (some 4) (.assign (.const (.bool false))) none] [4])
        (.ret))
        (.skip)))))
  (.keep [0, 1, 7, 8, 9] (.reg [co (some 50) (.binOp .add 3 (.tmp 9) (.const (.int .i64 1)) 3) none,
    co (some 9) (.move (.tmp 50)) none] [0, 1, 7, 8, 9])))))
/-- cento/edit.kids -/
def c_edit_kids : CC :=
  .seq (.reg [co (some 4) (.assign (.const (.bool false))) none] [0, 1])
  (.seq (.seq (.reg [co (some 7) (.move (.tmp 0)) none,
        co (some 8) (.call { callee := (.builtin .len), args := #[(.tmp 7)], argTypes := #[27] }) none,
        co (some 9) (.move (.const (.int .i64 0))) none] [0, 1, 7, 8, 9])
    (.block 0
      (.loop l1_edit_kids)))
  (.keep [] (.seq (.reg [co (some 4) (.assign (.const (.bool true))) none] [4])
  (.ret))))
theorem t_edit_kids : Txt Tryd.prog 25 51 [(.tmp 4)] c_edit_kids := txt_of (code := Tryd.f25.body.getD .ret) mixed (by kernel_rfl) Tryd.func25 (by kernel_rfl) Tryd.ntmps25 (by kernel_rfl) (ls := [([0, 1], []), ([], []), ([0, 1, 7, 8, 9], []), ([], []), ([0, 1, 7, 8, 9, 10], []), ([], []), ([999999, 0, 1, 7, 8, 9], []), ([0, 1, 5, 6, 7, 8, 9], [(3, [0])]), ([], []), ([0, 1, 7, 8, 9, 49], []), ([], []), ([4], []), ([], []), ([999999, 0, 1, 7, 8, 9], []), ([0, 1, 7, 8, 9], []), ([999999], []), ([4], []), ([], [])]) (by kernel_rfl)
/-- cento/edit.kid -/
def c_edit_kid : CC :=
  .seq (.reg [cn (some 3) (.box 25 (.tmp 1)) none [0],
      co (some 4) (.assign (.const (.bool false))) none] [0, 3])
  (.seq (.reg [co (some 5) (.move (.tmp 0)) none,
      co (some 6) (.load 25 (.tmp 3)) none,
      co (some 7) (.buildSlice 23 1 #[(0, (.tmp 6))]) none,
      co (some 8) (.build 25 #[(0, (.tmp 5)), (2, (.tmp 7))]) none,
      co (some 9) (.call { callee := (.value (.func 40)), args := #[(.tmp 8)], argTypes := #[25] }) none,
      co (some 4) (.assign (.tmp 9)) none] [4])
  (.ret))
theorem t_edit_kid : Txt Tryd.prog 56 10 [(.tmp 4)] c_edit_kid := txt_of (code := Tryd.f56.body.getD .ret) mixed (by kernel_rfl) Tryd.func56 (by kernel_rfl) Tryd.ntmps56 (by kernel_rfl) (ls := [([0, 3], [(0, [0])]), ([], []), ([4], []), ([], [])]) (by kernel_rfl)
/-- cento/edit.within -/
def c_edit_within : CC :=
  .seq (.reg [cn (some 3) (.box 30 (.tmp 1)) none [0],
      co (some 4) (.assign (.const (.bool false))) none] [0, 3])
  (.seq (.block 0
      (.seq (.reg [co (some 6) (.move (.tmp 0)) none,
          co (some 7) (.call { callee := (.value (.func 73)), args := #[(.tmp 6)], argTypes := #[3] }) none,
          co (some 8) (.move (.tmp 7)) none,
          co (some 9) (.fieldAddr 30 (.tmp 3) 0) (some (8, false)),
          co (some 10) (.load 3 (.tmp 9)) (some (8, false)),
          co (some 11) (.binOp .eql 3 (.tmp 10) (.const (.int .i64 0)) 3) (some (8, false)),
          co (some 12) (.pick (.tmp 8) (.const (.bool true)) (.tmp 11)) none,
          co (some 5) (.assign (.tmp 12)) none] [0, 3, 5])
      (.cond (.tmp 5)
        (.seq (.reg [co (some 4) (.assign (.const (.bool false))) none] [4])
        (.ret))
        (.seq (.reg [co (some 14) (.move (.tmp 0)) none,
            co (some 15) (.binOp .eql 3 (.tmp 14) (.const (.int .i64 8)) 3) none,
            co (some 16) (.move (.tmp 15)) none,
            co (some 17) (.fieldAddr 30 (.tmp 3) 0) (some (16, false)),
            co (some 18) (.load 3 (.tmp 17)) (some (16, false)),
            co (some 19) (.binOp .eql 3 (.tmp 18) (.const (.int .i64 2)) 3) (some (16, false)),
            co (some 20) (.pick (.tmp 16) (.const (.bool true)) (.tmp 19)) none,
            co (some 13) (.assign (.tmp 20)) none] [3, 13])
        (.cond (.tmp 13)
          (.seq (.reg [co (some 4) (.assign (.const (.bool true))) none] [4])
          (.ret))
          (.skip))))))
  (.keep [3] (.seq (.reg [co (some 21) (.fieldAddr 30 (.tmp 3) 0) none,
      co (some 22) (.load 3 (.tmp 21)) none,
      co (some 23) (.binOp .eql 3 (.tmp 22) (.const (.int .i64 1)) 3) none,
      co (some 24) (.move (.tmp 23)) none,
      co (some 25) (.fieldAddr 30 (.tmp 3) 1) (some (24, true)),
      co (some 26) (.fieldAddr 25 (.tmp 25) 0) (some (24, true)),
      co (some 27) (.load 3 (.tmp 26)) (some (24, true)),
      co (some 28) (.binOp .eql 3 (.tmp 27) (.const (.int .i64 1)) 3) (some (24, true)),
      co (some 29) (.pick (.tmp 24) (.tmp 28) (.const (.bool false))) none,
      co (some 30) (.move (.tmp 29)) none,
      co (some 31) (.fieldAddr 30 (.tmp 3) 2) (some (30, true)),
      co (some 32) (.fieldAddr 25 (.tmp 31) 0) (some (30, true)),
      co (some 33) (.load 3 (.tmp 32)) (some (30, true)),
      co (some 34) (.binOp .eql 3 (.tmp 33) (.const (.int .i64 1)) 3) (some (30, true)),
      co (some 35) (.pick (.tmp 30) (.tmp 34) (.const (.bool false))) none,
      co (some 4) (.assign (.tmp 35)) none] [4])
  (.ret))))
theorem t_edit_within : Txt Tryd.prog 57 36 [(.tmp 4)] c_edit_within := txt_of (code := Tryd.f57.body.getD .ret) mixed (by kernel_rfl) Tryd.func57 (by kernel_rfl) Tryd.ntmps57 (by kernel_rfl) (ls := [([0, 3], [(0, [0])]), ([], []), ([0, 3, 5], []), ([], []), ([4], []), ([], []), ([3, 13], []), ([], []), ([4], []), ([], []), ([999999, 3], []), ([4], []), ([], [])]) (by kernel_rfl)
/-- cento/edit.op$1 -/
def c_edit_op_1 : CC :=
  .seq (.reg [cn (some 2) (.box 25 (.tmp 0)) none [0],
      co (some 3) (.assign (.const (.bool false))) none] [1, 2])
  (.seq (.reg [co (some 4) (.load 3 (.tmp 1)) none,
      co (some 5) (.load 25 (.tmp 2)) none,
      co (some 6) (.call { callee := (.value (.func 56)), args := #[(.tmp 4), (.tmp 5)], argTypes := #[3, 25] }) none,
      co (some 7) (.unOp .not 4 (.tmp 6)) none,
      co (some 3) (.assign (.tmp 7)) none] [3])
  (.ret))
theorem t_edit_op_1 : Txt Tryd.prog 55 8 [(.tmp 3)] c_edit_op_1 := txt_of (code := Tryd.f55.body.getD .ret) mixed (by kernel_rfl) Tryd.func55 (by kernel_rfl) Tryd.ntmps55 (by kernel_rfl) (ls := [([1, 2], [(0, [0])]), ([], []), ([3], []), ([], [])]) (by kernel_rfl)
def l1_slices_IndexFunc_api_Tree_api_Tree : CC :=
  .seq (.reg [co (some 9) (.binOp .lss 3 (.tmp 8) (.tmp 7) 3) none] [0, 1, 7, 8, 9])
  (.seq (.cond (.tmp 9)
      (.skip)
      (.exit 0))
  (.keep [0, 1, 7, 8] (.seq (.block 1
      (.seq (.reg [co (some 10) (.move (.tmp 8)) none,
          co (some 5) (.assign (.tmp 10)) none] [0, 1, 5, 7, 8])
      (.seq (.reg [co (some 11) (.move (.tmp 1)) none,
          co (some 12) (.move (.tmp 0)) none,
          co (some 13) (.move (.tmp 5)) none,
          co (some 14) (.indexAddr 23 (.tmp 12) (.tmp 13)) none,
          co (some 15) (.load 25 (.tmp 14)) none,
          co (some 16) (.call { callee := (.value (.tmp 11)), args := #[(.tmp 15)], argTypes := #[25] }) none] [0, 1, 5, 7, 8, 16])
      (.cond (.tmp 16)
        (.seq (.reg [co (some 17) (.move (.tmp 5)) none,
            co (some 4) (.assign (.tmp 17)) none] [4])
        (.ret))
        (.skip)))))
  (.keep [0, 1, 7, 8] (.reg [co (some 18) (.binOp .add 3 (.tmp 8) (.const (.int .i64 1)) 3) none,
    co (some 8) (.move (.tmp 18)) none] [0, 1, 7, 8])))))
/-- slices.IndexFunc[[]cento/api.Tree,cento/api.Tree] -/
def c_slices_IndexFunc_api_Tree_api_Tree : CC :=
  .seq (.reg [co (some 4) (.assign (.const (.int .i64 0))) none] [0, 1])
  (.seq (.seq (.reg [co (some 6) (.move (.tmp 0)) none,
        co (some 7) (.call { callee := (.builtin .len), args := #[(.tmp 6)], argTypes := #[23] }) none,
        co (some 8) (.move (.const (.int .i64 0))) none] [0, 1, 7, 8])
    (.block 0
      (.loop l1_slices_IndexFunc_api_Tree_api_Tree)))
  (.keep [] (.seq (.reg [co (some 4) (.assign (.const (.int .i64 (-1)))) none] [4])
  (.ret))))
theorem t_slices_IndexFunc_api_Tree_api_Tree : Txt Tryd.prog 72 19 [(.tmp 4)] c_slices_IndexFunc_api_Tree_api_Tree := txt_of (code := Tryd.f72.body.getD .ret) mixed (by kernel_rfl) Tryd.func72 (by kernel_rfl) Tryd.ntmps72 (by kernel_rfl) (ls := [([0, 1], []), ([], []), ([0, 1, 7, 8], []), ([], []), ([0, 1, 7, 8, 9], []), ([], []), ([999999, 0, 1, 7, 8], []), ([0, 1, 5, 7, 8], []), ([], []), ([0, 1, 5, 7, 8, 16], []), ([], []), ([4], []), ([], []), ([999999, 0, 1, 7, 8], []), ([0, 1, 7, 8], []), ([999999], []), ([4], []), ([], [])]) (by kernel_rfl)
/-- slices.ContainsFunc[[]cento/api.Tree,cento/api.Tree] -/
def c_slices_ContainsFunc_api_Tree_api_Tree : CC :=
  .seq (.reg [co (some 4) (.assign (.const (.bool false))) none] [0, 1])
  (.seq (.reg [co (some 5) (.move (.tmp 0)) none,
      co (some 6) (.move (.tmp 1)) none,
      co (some 7) (.call { callee := (.value (.func 72)), args := #[(.tmp 5), (.tmp 6)], argTypes := #[23, 63] }) none,
      co (some 8) (.binOp .geq 3 (.tmp 7) (.const (.int .i64 0)) 3) none,
      co (some 4) (.assign (.tmp 8)) none] [4])
  (.ret))
theorem t_slices_ContainsFunc_api_Tree_api_Tree : Txt Tryd.prog 54 9 [(.tmp 4)] c_slices_ContainsFunc_api_Tree_api_Tree := txt_of (code := Tryd.f54.body.getD .ret) mixed (by kernel_rfl) Tryd.func54 (by kernel_rfl) Tryd.ntmps54 (by kernel_rfl) (ls := [([0, 1], []), ([], []), ([4], []), ([], [])]) (by kernel_rfl)
def k1_edit_op : CC :=
  .seq (.seq (.reg [co (some 42) (.fieldAddr 41 (.tmp 4) 1) none,
        co (some 43) (.load 3 (.tmp 42)) none,
        co (some 44) (.binOp .eql 3 (.tmp 43) (.const (.int .i64 0)) 3) none,
        co (some 45) (.move (.tmp 44)) none,
        co (some 46) (.fieldAddr 41 (.tmp 4) 2) (some (45, true)),
        co (some 47) (.load 23 (.tmp 46)) (some (45, true)),
        co (some 48) (.call { callee := (.builtin .len), args := #[(.tmp 47)], argTypes := #[23] }) (some (45, true)),
        co (some 49) (.binOp .gtr 3 (.tmp 48) (.const (.int .i64 0)) 3) (some (45, true)),
        co (some 50) (.pick (.tmp 45) (.tmp 49) (.const (.bool false))) none,
        co (some 51) (.move (.tmp 50)) none,
        co (some 52) (.fieldAddr 41 (.tmp 4) 3) (some (51, true)),
        co (some 53) (.load 30 (.tmp 52)) (some (51, true)),
        co (some 54) (.call { callee := (.value (.func 11)), args := #[(.tmp 53), (.const (.int .i64 1))], argTypes := #[30, 3] }) (some (51, true)),
        co (some 55) (.pick (.tmp 51) (.tmp 54) (.const (.bool false))) none,
        co (some 56) (.move (.tmp 55)) none,
        co (some 57) (.fieldAddr 41 (.tmp 4) 3) (some (56, true)),
        co (some 58) (.fieldAddr 30 (.tmp 57) 0) (some (56, true)),
        co (some 59) (.load 3 (.tmp 58)) (some (56, true)),
        co (some 60) (.binOp .eql 3 (.tmp 59) (.const (.int .i64 0)) 3) (some (56, true)),
        co (some 61) (.pick (.tmp 56) (.tmp 60) (.const (.bool false))) none,
        co (some 62) (.move (.tmp 61)) none,
        co (some 63) (.fieldAddr 41 (.tmp 4) 2) (some (62, true)),
        co (some 64) (.load 23 (.tmp 63)) (some (62, true)),
        co (some 65) (.makeFunc (.func 55) #[] #[(.tmp 3)]) (some (62, true)),
        co (some 66) (.call { callee := (.value (.func 54)), args := #[(.tmp 64), (.tmp 65)], argTypes := #[23, 63] }) (some (62, true)),
        co (some 67) (.unOp .not 4 (.tmp 66)) (some (62, true)),
        co (some 68) (.pick (.tmp 62) (.tmp 67) (.const (.bool false))) none,
        co (some 6) (.assign (.tmp 68)) none] [6])
    (.ret))
  (.exit 0)
/-- cento/edit.op -/
def c_edit_op : CC :=
  .seq (.reg [cn (some 3) (.box 3 (.tmp 0)) none [0],
      cn (some 4) (.box 41 (.tmp 1)) none [1],
      co (some 6) (.assign (.const (.bool false))) none] [2, 3, 4])
  (.seq (.seq (.reg [co (some 7) (.fieldAddr 41 (.tmp 4) 0) none,
        co (some 8) (.load 3 (.tmp 7)) none] [2, 3, 4, 8])
    (.block 0
      (.seq (.block 4
          (.seq (.block 3
              (.block 2
                (.seq (.block 1
                    (.seq (.seq (.seq (.reg [co (some 10) (.binOp .eql 3 (.tmp 8) (.const (.int .i64 0)) 3) none,
                            co (some 9) (.assign (.tmp 10)) none] [2, 3, 4, 8, 9])
                        (.cond (.tmp 9)
                          (.exit 1)
                          (.skip)))
                      (.keep [2, 3, 4, 8] (.seq (.seq (.reg [co (some 12) (.binOp .eql 3 (.tmp 8) (.const (.int .i64 1)) 3) none,
                            co (some 11) (.assign (.tmp 12)) none] [2, 3, 4, 8, 11])
                        (.cond (.tmp 11)
                          (.exit 2)
                          (.skip)))
                      (.keep [2, 3, 4, 8] (.seq (.seq (.reg [co (some 14) (.binOp .eql 3 (.tmp 8) (.const (.int .i64 2)) 3) none,
                            co (some 13) (.assign (.tmp 14)) none] [2, 3, 4, 8, 13])
                        (.cond (.tmp 13)
                          (.exit 3)
                          (.skip)))
                      (.keep [2, 3, 4, 8] (.seq (.reg [co (some 16) (.binOp .eql 3 (.tmp 8) (.const (.int .i64 3)) 3) none,
                          co (some 15) (.assign (.tmp 16)) none] [2, 3, 4, 15])
                      (.cond (.tmp 15)
                        (.exit 4)
                        (.skip)))))))))
                    (.exit 0)))
                (.keep [4] (.seq (.seq (.reg [co (some 17) (.fieldAddr 41 (.tmp 4) 1) none,
                      co (some 18) (.load 3 (.tmp 17)) none,
                      co (some 19) (.binOp .geq 3 (.tmp 18) (.const (.int .i64 1)) 3) none,
                      co (some 20) (.move (.tmp 19)) none,
                      co (some 21) (.fieldAddr 41 (.tmp 4) 1) (some (20, true)),
                      co (some 22) (.load 3 (.tmp 21)) (some (20, true)),
                      co (some 23) (.binOp .leq 3 (.tmp 22) (.const (.int .i64 1048576)) 3) (some (20, true)),
                      co (some 24) (.pick (.tmp 20) (.tmp 23) (.const (.bool false))) none,
                      co (some 25) (.move (.tmp 24)) none,
                      co (some 26) (.fieldAddr 41 (.tmp 4) 2) (some (25, true)),
                      co (some 27) (.load 23 (.tmp 26)) (some (25, true)),
                      co (some 28) (.call { callee := (.builtin .len), args := #[(.tmp 27)], argTypes := #[23] }) (some (25, true)),
                      co (some 29) (.binOp .eql 3 (.tmp 28) (.const (.int .i64 0)) 3) (some (25, true)),
                      co (some 30) (.pick (.tmp 25) (.tmp 29) (.const (.bool false))) none,
                      co (some 31) (.move (.tmp 30)) none,
                      co (some 32) (.fieldAddr 41 (.tmp 4) 3) (some (31, true)),
                      co (some 33) (.load 30 (.tmp 32)) (some (31, true)),
                      co (some 34) (.call { callee := (.value (.func 11)), args := #[(.tmp 33), (.const (.int .i64 1))], argTypes := #[30, 3] }) (some (31, true)),
                      co (some 35) (.pick (.tmp 31) (.tmp 34) (.const (.bool false))) none,
                      co (some 36) (.move (.tmp 35)) none,
                      co (some 37) (.fieldAddr 41 (.tmp 4) 3) (some (36, true)),
                      co (some 38) (.fieldAddr 30 (.tmp 37) 0) (some (36, true)),
                      co (some 39) (.load 3 (.tmp 38)) (some (36, true)),
                      co (some 40) (.binOp .eql 3 (.tmp 39) (.const (.int .i64 0)) 3) (some (36, true)),
                      co (some 41) (.pick (.tmp 36) (.tmp 40) (.const (.bool false))) none,
                      co (some 6) (.assign (.tmp 41)) none] [6])
                  (.ret))
                (.exit 0))))))
          (.keep [3, 4] (.stop k1_edit_op))))
      (.keep [2, 3, 4] (.seq (.seq (.reg [co (some 69) (.fieldAddr 41 (.tmp 4) 1) none,
            co (some 70) (.load 3 (.tmp 69)) none,
            co (some 71) (.binOp .eql 3 (.tmp 70) (.const (.int .i64 0)) 3) none,
            co (some 72) (.move (.tmp 71)) none,
            co (some 73) (.fieldAddr 41 (.tmp 4) 2) (some (72, true)),
            co (some 74) (.load 23 (.tmp 73)) (some (72, true)),
            co (some 75) (.call { callee := (.builtin .len), args := #[(.tmp 74)], argTypes := #[23] }) (some (72, true)),
            co (some 76) (.binOp .eql 3 (.tmp 75) (.const (.int .i64 0)) 3) (some (72, true)),
            co (some 77) (.pick (.tmp 72) (.tmp 76) (.const (.bool false))) none,
            co (some 78) (.move (.tmp 77)) none,
            co (some 79) (.load 3 (.tmp 3)) (some (78, true)),
            co (some 80) (.fieldAddr 41 (.tmp 4) 3) (some (78, true)),
            co (some 81) (.load 30 (.tmp 80)) (some (78, true)),
            co (some 82) (.call { callee := (.value (.func 57)), args := #[(.tmp 79), (.tmp 81)], argTypes := #[3, 30] }) (some (78, true)),
            co (some 83) (.pick (.tmp 78) (.tmp 82) (.const (.bool false))) none,
            co (some 84) (.move (.tmp 83)) none,
            co (some 85) (.fieldAddr 41 (.tmp 4) 3) (some (84, true)),
            co (some 86) (.load 30 (.tmp 85)) (some (84, true)),
            co (some 87) (.move (.tmp 2)) (some (84, true)),
            co (some 88) (.call { callee := (.value (.func 11)), args := #[(.tmp 86), (.tmp 87)], argTypes := #[30, 3] }) (some (84, true)),
            co (some 89) (.pick (.tmp 84) (.tmp 88) (.const (.bool false))) none,
            co (some 6) (.assign (.tmp 89)) none] [6])
        (.ret))
      (.exit 0))))))
  (.keep [] (.seq (.reg [co (some 6) (.assign (.const (.bool false))) none] [6])
  (.ret))))
theorem t_edit_op : Txt Tryd.prog 42 90 [(.tmp 6)] c_edit_op := txt_of (code := Tryd.f42.body.getD .ret) mixed (by kernel_rfl) Tryd.func42 (by kernel_rfl) Tryd.ntmps42 (by kernel_rfl) (ls := [([2, 3, 4], [(0, [0]), (1, [1])]), ([], []), ([2, 3, 4, 8], []), ([], []), ([2, 3, 4, 8, 9], []), ([], []), ([999999, 2, 3, 4, 8], []), ([2, 3, 4, 8, 11], []), ([], []), ([999999, 2, 3, 4, 8], []), ([2, 3, 4, 8, 13], []), ([], []), ([999999, 2, 3, 4, 8], []), ([2, 3, 4, 15], []), ([], []), ([], []), ([999999, 4], []), ([6], []), ([], []), ([], []), ([999997, 3, 4], []), ([6], []), ([], []), ([], []), ([999999, 2, 3, 4], []), ([6], []), ([], []), ([], []), ([999999], []), ([6], []), ([], [])]) (by kernel_rfl)
def k1_edit_Lengths : CC :=
  .seq (.reg [co (some 32) (.fieldAddr 41 (.tmp 7) 0) none,
      co (some 33) (.load 3 (.tmp 32)) none,
      co (some 34) (.binOp .neq 3 (.tmp 33) (.const (.int .i64 1)) 3) none] [4, 5, 8, 10, 11, 12, 34])
  (.cond (.tmp 34)
    (.reg [co (some 35) (.move (.tmp 5)) none,
      co (some 36) (.move (.tmp 8)) none,
      co (some 37) (.binOp .add 3 (.tmp 35) (.tmp 36) 3) none,
      co (some 38) (.call { callee := (.builtin .min), args := #[(.tmp 37), (.const (.int .i64 1048576))], argTypes := #[3, 3] }) none,
      co (some 5) (.assign (.tmp 38)) none] [4, 5, 10, 11, 12])
    (.skip))
def k2_edit_Lengths : CC :=
  .seq (.seq (.reg [co (some 25) (.fieldAddr 41 (.tmp 7) 0) none,
        co (some 26) (.load 3 (.tmp 25)) none,
        co (some 27) (.binOp .neq 3 (.tmp 26) (.const (.int .i64 2)) 3) none] [4, 5, 7, 8, 10, 11, 12, 27])
    (.cond (.tmp 27)
      (.reg [co (some 28) (.move (.tmp 4)) none,
        co (some 29) (.move (.tmp 8)) none,
        co (some 30) (.binOp .add 3 (.tmp 28) (.tmp 29) 3) none,
        co (some 31) (.call { callee := (.builtin .min), args := #[(.tmp 30), (.const (.int .i64 1048576))], argTypes := #[3, 3] }) none,
        co (some 4) (.assign (.tmp 31)) none] [4, 5, 7, 8, 10, 11, 12])
      (.skip)))
  (.keep [4, 5, 7, 8, 10, 11, 12] k1_edit_Lengths)
def l1_edit_Lengths : CC :=
  .seq (.reg [co (some 13) (.binOp .lss 3 (.tmp 12) (.tmp 11) 3) none] [4, 5, 10, 11, 12, 13])
  (.seq (.cond (.tmp 13)
      (.skip)
      (.exit 0))
  (.keep [4, 5, 10, 11, 12] (.seq (.block 1
      (.seq (.reg [co (some 14) (.indexAddr 28 (.tmp 10) (.tmp 12)) none,
          co (some 15) (.load 41 (.tmp 14)) none,
          cn (some 7) (.alloc 41) none [1],
          co none (.store 41 (.tmp 7) (.tmp 15)) none] [4, 5, 7, 10, 11, 12])
      (.seq (.reg [co (some 16) (.fieldAddr 41 (.tmp 7) 1) none,
          co (some 17) (.load 3 (.tmp 16)) none,
          co (some 18) (.fieldAddr 41 (.tmp 7) 2) none,
          co (some 19) (.load 23 (.tmp 18)) none,
          co (some 20) (.call { callee := (.builtin .len), args := #[(.tmp 19)], argTypes := #[23] }) none,
          co (some 21) (.binOp .add 3 (.tmp 17) (.tmp 20) 3) none,
          co (some 8) (.assign (.tmp 21)) none] [4, 5, 7, 8, 10, 11, 12])
      (.seq (.seq (.reg [co (some 22) (.fieldAddr 41 (.tmp 7) 0) none,
            co (some 23) (.load 3 (.tmp 22)) none,
            co (some 24) (.binOp .eql 3 (.tmp 23) (.const (.int .i64 3)) 3) none] [4, 5, 7, 8, 10, 11, 12, 24])
        (.cond (.tmp 24)
          (.reg [co (some 8) (.assign (.const (.int .i64 1))) none] [4, 5, 7, 8, 10, 11, 12])
          (.skip)))
      (.keep [4, 5, 7, 8, 10, 11, 12] k2_edit_Lengths)))))
  (.keep [4, 5, 10, 11, 12] (.reg [co (some 39) (.binOp .add 3 (.tmp 12) (.const (.int .i64 1)) 3) none,
    co (some 12) (.move (.tmp 39)) none] [4, 5, 10, 11, 12])))))
/-- cento/edit.Lengths -/
def c_edit_Lengths : CC :=
  .seq (.reg [cn (some 1) (.box 30 (.tmp 0)) none [0],
      co (some 2) (.assign (.const (.int .i64 0))) none,
      co (some 3) (.assign (.const (.int .i64 0))) none] [1])
  (.seq (.reg [co (some 4) (.assign (.const (.int .i64 0))) none,
      co (some 5) (.assign (.const (.int .i64 0))) none] [1, 4, 5])
  (.seq (.seq (.reg [co (some 9) (.fieldAddr 30 (.tmp 1) 6) none,
        co (some 10) (.load 28 (.tmp 9)) none,
        co (some 11) (.call { callee := (.builtin .len), args := #[(.tmp 10)], argTypes := #[28] }) none,
        co (some 12) (.move (.const (.int .i64 0))) none] [4, 5, 10, 11, 12])
    (.block 0
      (.loop l1_edit_Lengths)))
  (.keep [4, 5] (.seq (.reg [co (some 40) (.move (.tmp 4)) none,
      co (some 41) (.move (.tmp 5)) none,
      co (some 2) (.assign (.tmp 40)) none,
      co (some 3) (.assign (.tmp 41)) none] [2, 3])
  (.ret)))))
theorem t_edit_Lengths : Txt Tryd.prog 43 42 [(.tmp 2), (.tmp 3)] c_edit_Lengths := txt_of (code := Tryd.f43.body.getD .ret) mixed (by kernel_rfl) Tryd.func43 (by kernel_rfl) Tryd.ntmps43 (by kernel_rfl) (ls := [([1], [(0, [0])]), ([], []), ([1, 4, 5], []), ([], []), ([4, 5, 10, 11, 12], []), ([], []), ([4, 5, 10, 11, 12, 13], []), ([], []), ([999999, 4, 5, 10, 11, 12], []), ([4, 5, 7, 10, 11, 12], [(2, [1])]), ([], []), ([4, 5, 7, 8, 10, 11, 12], []), ([], []), ([4, 5, 7, 8, 10, 11, 12, 24], []), ([], []), ([4, 5, 7, 8, 10, 11, 12], []), ([999999, 4, 5, 7, 8, 10, 11, 12], []), ([4, 5, 7, 8, 10, 11, 12, 27], []), ([], []), ([4, 5, 7, 8, 10, 11, 12], []), ([999999, 4, 5, 7, 8, 10, 11, 12], []), ([4, 5, 8, 10, 11, 12, 34], []), ([], []), ([4, 5, 10, 11, 12], []), ([999999, 4, 5, 10, 11, 12], []), ([4, 5, 10, 11, 12], []), ([999999, 4, 5], []), ([2, 3], []), ([], [])]) (by kernel_rfl)
def l1_edit_ops : CC :=
  .seq (.reg [co (some 13) (.binOp .lss 3 (.tmp 12) (.tmp 11) 3) none] [1, 2, 10, 11, 12, 13])
  (.seq (.cond (.tmp 13)
      (.skip)
      (.exit 0))
  (.keep [1, 2, 10, 11, 12] (.seq (.block 1
      (.seq (.reg [co (some 14) (.indexAddr 28 (.tmp 10) (.tmp 12)) none,
          co (some 15) (.load 41 (.tmp 14)) none,
          cn (some 6) (.alloc 41) none [1],
          co none (.store 41 (.tmp 6) (.tmp 15)) none] [1, 2, 6, 10, 11, 12])
      (.seq (.reg [co (some 16) (.fieldAddr 30 (.tmp 2) 5) none,
          co (some 17) (.load 3 (.tmp 16)) none,
          co (some 18) (.load 41 (.tmp 6)) none,
          co (some 19) (.move (.tmp 1)) none,
          co (some 20) (.call { callee := (.value (.func 42)), args := #[(.tmp 17), (.tmp 18), (.tmp 19)], argTypes := #[3, 41, 3] }) none,
          co (some 21) (.unOp .not 4 (.tmp 20)) none] [1, 2, 10, 11, 12, 21])
      (.cond (.tmp 21)
        (.seq (.reg [co (some 4) (.assign (.const (.bool false))) none] [4])
        (.ret))
        (.skip)))))
  (.keep [1, 2, 10, 11, 12] (.reg [co (some 22) (.binOp .add 3 (.tmp 12) (.const (.int .i64 1)) 3) none,
    co (some 12) (.move (.tmp 22)) none] [1, 2, 10, 11, 12])))))
/-- cento/edit.ops -/
def c_edit_ops : CC :=
  .seq (.reg [cn (some 2) (.box 30 (.tmp 0)) none [0],
      co (some 4) (.assign (.const (.bool false))) none] [1, 2])
  (.seq (.seq (.reg [co (some 9) (.fieldAddr 30 (.tmp 2) 6) none,
        co (some 10) (.load 28 (.tmp 9)) none,
        co (some 11) (.call { callee := (.builtin .len), args := #[(.tmp 10)], argTypes := #[28] }) none,
        co (some 12) (.move (.const (.int .i64 0))) none] [1, 2, 10, 11, 12])
    (.block 0
      (.loop l1_edit_ops)))
  (.keep [2] (.seq (.reg [co (some 24) (.load 30 (.tmp 2)) none,
      co (some 25) (.call { callee := (.value (.func 43)), args := #[(.tmp 24)], argTypes := #[30] }) none,
      co (some 23) (.move (.tmp 25)) none,
      co (some 26) (.extract (.tmp 23) 0) none,
      co (some 27) (.extract (.tmp 23) 1) none,
      co (some 7) (.assign (.tmp 26)) none,
      co (some 8) (.assign (.tmp 27)) none] [7, 8])
  (.seq (.reg [co (some 28) (.move (.tmp 7)) none,
      co (some 29) (.binOp .lss 3 (.tmp 28) (.const (.int .i64 1048576)) 3) none,
      co (some 30) (.move (.tmp 29)) none,
      co (some 31) (.move (.tmp 8)) (some (30, true)),
      co (some 32) (.binOp .lss 3 (.tmp 31) (.const (.int .i64 1048576)) 3) (some (30, true)),
      co (some 33) (.pick (.tmp 30) (.tmp 32) (.const (.bool false))) none,
      co (some 4) (.assign (.tmp 33)) none] [4])
  (.ret)))))
theorem t_edit_ops : Txt Tryd.prog 27 34 [(.tmp 4)] c_edit_ops := txt_of (code := Tryd.f27.body.getD .ret) mixed (by kernel_rfl) Tryd.func27 (by kernel_rfl) Tryd.ntmps27 (by kernel_rfl) (ls := [([1, 2], [(0, [0])]), ([], []), ([1, 2, 10, 11, 12], []), ([], []), ([1, 2, 10, 11, 12, 13], []), ([], []), ([999999, 1, 2, 10, 11, 12], []), ([1, 2, 6, 10, 11, 12], [(2, [1])]), ([], []), ([1, 2, 10, 11, 12, 21], []), ([], []), ([4], []), ([], []), ([999999, 1, 2, 10, 11, 12], []), ([1, 2, 10, 11, 12], []), ([999999, 2], []), ([7, 8], []), ([], []), ([4], []), ([], [])]) (by kernel_rfl)
/-- cento/edit.right -/
def c_edit_right : CC :=
  .seq (.reg [cn (some 2) (.box 30 (.tmp 0)) none [0],
      co (some 4) (.assign (.const (.bool false))) none] [1, 2])
  (.seq (.seq (.reg [co (some 5) (.load 30 (.tmp 2)) none,
        co (some 6) (.call { callee := (.value (.func 22)), args := #[(.tmp 5)], argTypes := #[30] }) none,
        co (some 7) (.unOp .not 4 (.tmp 6)) none,
        co (some 8) (.move (.tmp 7)) none,
        co (some 9) (.move (.tmp 1)) (some (8, false)),
        co (some 10) (.binOp .eql 3 (.tmp 9) (.const (.int .i64 0)) 3) (some (8, false)),
        co (some 11) (.pick (.tmp 8) (.const (.bool true)) (.tmp 10)) none] [1, 2, 11])
    (.cond (.tmp 11)
      (.seq (.reg [co (some 4) (.assign (.const (.bool false))) none] [4])
      (.ret))
      (.skip)))
  (.keep [1, 2] (.seq (.seq (.reg [co (some 12) (.fieldAddr 30 (.tmp 2) 0) none,
        co (some 13) (.load 3 (.tmp 12)) none] [1, 2, 13])
    (.block 0
      (.seq (.reg [co (some 15) (.binOp .eql 3 (.tmp 13) (.const (.int .i64 0)) 3) none,
          co (some 14) (.assign (.tmp 15)) none] [1, 2, 13, 14])
      (.cond (.tmp 14)
        (.seq (.reg [co (some 4) (.assign (.const (.bool true))) none] [4])
        (.ret))
        (.seq (.reg [co (some 17) (.binOp .eql 3 (.tmp 13) (.const (.int .i64 1)) 3) none,
            co (some 16) (.assign (.tmp 17)) none] [1, 2, 13, 16])
        (.cond (.tmp 16)
          (.seq (.reg [co (some 18) (.fieldAddr 30 (.tmp 2) 1) none,
              co (some 19) (.load 25 (.tmp 18)) none,
              co (some 20) (.call { callee := (.value (.func 23)), args := #[(.tmp 19)], argTypes := #[25] }) none,
              co (some 21) (.move (.tmp 20)) none,
              co (some 22) (.fieldAddr 30 (.tmp 2) 2) (some (21, true)),
              co (some 23) (.load 25 (.tmp 22)) (some (21, true)),
              co (some 24) (.call { callee := (.value (.func 23)), args := #[(.tmp 23)], argTypes := #[25] }) (some (21, true)),
              co (some 25) (.pick (.tmp 21) (.tmp 24) (.const (.bool false))) none,
              co (some 4) (.assign (.tmp 25)) none] [4])
          (.ret))
          (.seq (.reg [co (some 27) (.binOp .eql 3 (.tmp 13) (.const (.int .i64 2)) 3) none,
              co (some 26) (.assign (.tmp 27)) none] [1, 2, 13, 26])
          (.cond (.tmp 26)
            (.seq (.reg [co (some 28) (.fieldAddr 30 (.tmp 2) 3) none,
                co (some 29) (.load 26 (.tmp 28)) none,
                co (some 30) (.call { callee := (.value (.func 24)), args := #[(.tmp 29)], argTypes := #[26] }) none,
                co (some 31) (.move (.tmp 30)) none,
                co (some 32) (.fieldAddr 30 (.tmp 2) 4) (some (31, true)),
                co (some 33) (.load 27 (.tmp 32)) (some (31, true)),
                co (some 34) (.move (.tmp 1)) (some (31, true)),
                co (some 35) (.binOp .sub 3 (.tmp 34) (.const (.int .i64 1)) 3) (some (31, true)),
                co (some 36) (.call { callee := (.value (.func 25)), args := #[(.tmp 33), (.tmp 35)], argTypes := #[27, 3] }) (some (31, true)),
                co (some 37) (.pick (.tmp 31) (.tmp 36) (.const (.bool false))) none,
                co (some 4) (.assign (.tmp 37)) none] [4])
            (.ret))
            (.seq (.reg [co (some 39) (.binOp .eql 3 (.tmp 13) (.const (.int .i64 3)) 3) none,
                co (some 38) (.assign (.tmp 39)) none] [1, 2, 38])
            (.cond (.tmp 38)
              (.seq (.reg [co (some 40) (.fieldAddr 30 (.tmp 2) 5) none,
                  co (some 41) (.load 3 (.tmp 40)) none,
                  co (some 42) (.call { callee := (.value (.func 26)), args := #[(.tmp 41)], argTypes := #[3] }) none,
                  co (some 43) (.move (.tmp 42)) none,
                  co (some 44) (.load 30 (.tmp 2)) (some (43, true)),
                  co (some 45) (.move (.tmp 1)) (some (43, true)),
                  co (some 46) (.binOp .sub 3 (.tmp 45) (.const (.int .i64 1)) 3) (some (43, true)),
                  co (some 47) (.call { callee := (.value (.func 27)), args := #[(.tmp 44), (.tmp 46)], argTypes := #[30, 3] }) (some (43, true)),
                  co (some 48) (.pick (.tmp 43) (.tmp 47) (.const (.bool false))) none,
                  co (some 4) (.assign (.tmp 48)) none] [4])
              (.ret))
              (.skip)))))))))))
  (.keep [] (.seq (.reg [co (some 4) (.assign (.const (.bool false))) none] [4])
  (.ret))))))
theorem t_edit_right : Txt Tryd.prog 11 49 [(.tmp 4)] c_edit_right := txt_of (code := Tryd.f11.body.getD .ret) mixed (by kernel_rfl) Tryd.func11 (by kernel_rfl) Tryd.ntmps11 (by kernel_rfl) (ls := [([1, 2], [(0, [0])]), ([], []), ([1, 2, 11], []), ([], []), ([4], []), ([], []), ([999999, 1, 2], []), ([1, 2, 13], []), ([], []), ([1, 2, 13, 14], []), ([], []), ([4], []), ([], []), ([1, 2, 13, 16], []), ([], []), ([4], []), ([], []), ([1, 2, 13, 26], []), ([], []), ([4], []), ([], []), ([1, 2, 38], []), ([], []), ([4], []), ([], []), ([999999], []), ([4], []), ([], [])]) (by kernel_rfl)
/-- cento/edit.Right -/
def c_edit_Right : CC :=
  .seq (.reg [cn (some 1) (.box 30 (.tmp 0)) none [0],
      co (some 2) (.assign (.const (.bool false))) none] [1])
  (.seq (.reg [co (some 3) (.load 30 (.tmp 1)) none,
      co (some 4) (.call { callee := (.value (.func 11)), args := #[(.tmp 3), (.const (.int .i64 64))], argTypes := #[30, 3] }) none,
      co (some 2) (.assign (.tmp 4)) none] [2])
  (.ret))
theorem t_edit_Right : Txt Tryd.prog 7 5 [(.tmp 2)] c_edit_Right := txt_of (code := Tryd.f7.body.getD .ret) mixed (by kernel_rfl) Tryd.func7 (by kernel_rfl) Tryd.ntmps7 (by kernel_rfl) (ls := [([1], [(0, [0])]), ([], []), ([2], []), ([], [])]) (by kernel_rfl)
end Go.Proofs.YtebihdhapepejaaDoor

/-
  The functions' text as data, and the facts on the types that they use: written by a program of ours (gen2.py) off the translation.
-/
namespace Go.Proofs.YtebihdhapepejaaDoor
set_option linter.unusedVariables false
set_option linter.unusedSimpArgs false
set_option maxRecDepth 20000
open Go Go.G Go.Proofs
@[simp] theorem und_9 : Tryd.prog.underlying 9 = some .string := by kernel_rfl
@[simp] theorem und_67 : Tryd.prog.underlying 67 = some (.slice 5) := by kernel_rfl
@[simp] theorem und_108 : Tryd.prog.underlying 108 = some (.array 24 5) := by kernel_rfl
@[simp] theorem und_121 : Tryd.prog.underlying 121 = some (.array 65 5) := by kernel_rfl
@[simp] theorem und_122 : Tryd.prog.underlying 122 = some (.int .u64) := by kernel_rfl
@[simp] theorem szT_9 : szT Tryd.prog 9 = some 1 := by kernel_rfl
@[simp] theorem szT_67 : szT Tryd.prog 67 = some 1 := by kernel_rfl
@[simp] theorem aggT_9 : aggT Tryd.prog 9 = some false := by kernel_rfl
@[simp] theorem aggT_67 : aggT Tryd.prog 67 = some false := by kernel_rfl
@[simp] theorem zeroT_5 : zeroT Tryd.prog 5 = some (Value.int IntKind.u8 0) := by kernel_rfl
@[simp] theorem zeroT_69 : zeroT Tryd.prog 69 = some (Value.agg #[Value.pointer none, Value.slice none 0 0]) := by kernel_rfl
@[simp] theorem zeroT_108 : zeroT Tryd.prog 108 = some (Value.agg #[Value.int IntKind.u8 0, Value.int IntKind.u8 0, Value.int IntKind.u8 0, Value.int IntKind.u8 0, Value.int IntKind.u8 0, Value.int IntKind.u8 0, Value.int IntKind.u8 0, Value.int IntKind.u8 0, Value.int IntKind.u8 0, Value.int IntKind.u8 0, Value.int IntKind.u8 0, Value.int IntKind.u8 0, Value.int IntKind.u8 0, Value.int IntKind.u8 0, Value.int IntKind.u8 0, Value.int IntKind.u8 0, Value.int IntKind.u8 0, Value.int IntKind.u8 0, Value.int IntKind.u8 0, Value.int IntKind.u8 0, Value.int IntKind.u8 0, Value.int IntKind.u8 0, Value.int IntKind.u8 0, Value.int IntKind.u8 0]) := by kernel_rfl
@[simp] theorem zeroT_121 : zeroT Tryd.prog 121 = some (Value.agg #[Value.int IntKind.u8 0, Value.int IntKind.u8 0, Value.int IntKind.u8 0, Value.int IntKind.u8 0, Value.int IntKind.u8 0, Value.int IntKind.u8 0, Value.int IntKind.u8 0, Value.int IntKind.u8 0, Value.int IntKind.u8 0, Value.int IntKind.u8 0, Value.int IntKind.u8 0, Value.int IntKind.u8 0, Value.int IntKind.u8 0, Value.int IntKind.u8 0, Value.int IntKind.u8 0, Value.int IntKind.u8 0, Value.int IntKind.u8 0, Value.int IntKind.u8 0, Value.int IntKind.u8 0, Value.int IntKind.u8 0, Value.int IntKind.u8 0, Value.int IntKind.u8 0, Value.int IntKind.u8 0, Value.int IntKind.u8 0, Value.int IntKind.u8 0, Value.int IntKind.u8 0, Value.int IntKind.u8 0, Value.int IntKind.u8 0, Value.int IntKind.u8 0, Value.int IntKind.u8 0, Value.int IntKind.u8 0, Value.int IntKind.u8 0, Value.int IntKind.u8 0, Value.int IntKind.u8 0, Value.int IntKind.u8 0, Value.int IntKind.u8 0, Value.int IntKind.u8 0, Value.int IntKind.u8 0, Value.int IntKind.u8 0, Value.int IntKind.u8 0, Value.int IntKind.u8 0, Value.int IntKind.u8 0, Value.int IntKind.u8 0, Value.int IntKind.u8 0, Value.int IntKind.u8 0, Value.int IntKind.u8 0, Value.int IntKind.u8 0, Value.int IntKind.u8 0, Value.int IntKind.u8 0, Value.int IntKind.u8 0, Value.int IntKind.u8 0, Value.int IntKind.u8 0, Value.int IntKind.u8 0, Value.int IntKind.u8 0, Value.int IntKind.u8 0, Value.int IntKind.u8 0, Value.int IntKind.u8 0, Value.int IntKind.u8 0, Value.int IntKind.u8 0, Value.int IntKind.u8 0, Value.int IntKind.u8 0, Value.int IntKind.u8 0, Value.int IntKind.u8 0, Value.int IntKind.u8 0, Value.int IntKind.u8 0]) := by kernel_rfl
@[simp] theorem bytesT_5 : bytesT Tryd.prog 5 = some 1 := by kernel_rfl
@[simp] theorem fieldOffT_69_1 : fieldOffT Tryd.prog 69 1 = some 1 := by kernel_rfl
@[simp] theorem fieldOffT_93_0 : fieldOffT Tryd.prog 93 0 = some 0 := by kernel_rfl
@[simp] theorem fieldOffT_93_1 : fieldOffT Tryd.prog 93 1 = some 1 := by kernel_rfl
@[simp] theorem buildA_93 (ps : List (Nat × A)) : buildA Tryd.prog 93 ps = (fillA (fun i => ([(0, 1), (1, 1)] : List (Nat × Nat))[i]?) [A.v (Value.string ByteArray.empty), A.v (Value.int IntKind.i64 0)] ps).map A.agg := by kernel_rfl
/-- (*strings.Builder).WriteByte -/
def c_strings_Builder_WriteByte : CC :=
  .seq (.reg [co (some 4) (.assign (.const .nilIface)) none] [0, 1])
  (.seq (.reg [co (some 5) (.move (.tmp 0)) none,
      co (some 6) (.call { callee := (.value (.func 46)), args := #[(.tmp 5)], argTypes := #[66] }) none] [0, 1])
  (.seq (.reg [co (some 7) (.move (.tmp 0)) none,
      co (some 8) (.move (.tmp 0)) none,
      co (some 9) (.nilCheck (.tmp 8)) none,
      co (some 10) (.fieldAddr 69 (.tmp 9) 1) none,
      co (some 11) (.load 67 (.tmp 10)) none,
      co (some 12) (.move (.tmp 1)) none,
      co (some 13) (.buildSlice 67 1 #[(0, (.tmp 12))]) none,
      cn (some 14) (.call { callee := (.builtin .append), args := #[(.tmp 11), (.tmp 13)], argTypes := #[67, 67] }) none [1],
      co (some 15) (.nilCheck (.tmp 7)) none,
      co (some 16) (.fieldAddr 69 (.tmp 15) 1) none,
      co none (.store 67 (.tmp 16) (.tmp 14)) none] [])
  (.seq (.reg [co (some 4) (.assign (.const .nilIface)) none] [4])
  (.ret))))
theorem t_strings_Builder_WriteByte : Txt Tryd.prog 44 17 [(.tmp 4)] c_strings_Builder_WriteByte := txt_of (code := Tryd.f44.body.getD .ret) mixed (by kernel_rfl) Tryd.func44 (by kernel_rfl) Tryd.ntmps44 (by kernel_rfl) (ls := [([0, 1], []), ([], []), ([0, 1], []), ([], []), ([], [(7, [1])]), ([], []), ([4], []), ([], [])]) (by kernel_rfl)
/-- (*strings.Builder).WriteString -/
def c_strings_Builder_WriteString : CC :=
  .seq (.reg [co (some 4) (.assign (.const (.int .i64 0))) none,
      co (some 5) (.assign (.const .nilIface)) none] [0, 1])
  (.seq (.reg [co (some 6) (.move (.tmp 0)) none,
      co (some 7) (.call { callee := (.value (.func 46)), args := #[(.tmp 6)], argTypes := #[66] }) none] [0, 1])
  (.seq (.reg [co (some 8) (.move (.tmp 0)) none,
      co (some 9) (.move (.tmp 0)) none,
      co (some 10) (.nilCheck (.tmp 9)) none,
      co (some 11) (.fieldAddr 69 (.tmp 10) 1) none,
      co (some 12) (.load 67 (.tmp 11)) none,
      co (some 13) (.move (.tmp 1)) none,
      cn (some 14) (.call { callee := (.builtin .append), args := #[(.tmp 12), (.tmp 13)], argTypes := #[67, 9] }) none [1],
      co (some 15) (.nilCheck (.tmp 8)) none,
      co (some 16) (.fieldAddr 69 (.tmp 15) 1) none,
      co none (.store 67 (.tmp 16) (.tmp 14)) none] [1])
  (.seq (.reg [co (some 17) (.move (.tmp 1)) none,
      co (some 18) (.call { callee := (.builtin .len), args := #[(.tmp 17)], argTypes := #[9] }) none,
      co (some 4) (.assign (.tmp 18)) none,
      co (some 5) (.assign (.const .nilIface)) none] [4, 5])
  (.ret))))
theorem t_strings_Builder_WriteString : Txt Tryd.prog 31 19 [(.tmp 4), (.tmp 5)] c_strings_Builder_WriteString := txt_of (code := Tryd.f31.body.getD .ret) mixed (by kernel_rfl) Tryd.func31 (by kernel_rfl) Tryd.ntmps31 (by kernel_rfl) (ls := [([0, 1], []), ([], []), ([0, 1], []), ([], []), ([1], [(6, [1])]), ([], []), ([4, 5], []), ([], [])]) (by kernel_rfl)
/-- internal/strconv.isPowerOfTwo -/
def c_internal_strconv_isPowerOfTwo : CC :=
  .seq (.reg [co (some 2) (.assign (.const (.bool false))) none] [0])
  (.seq (.reg [co (some 3) (.move (.tmp 0)) none,
      co (some 4) (.move (.tmp 0)) none,
      co (some 5) (.binOp .sub 3 (.tmp 4) (.const (.int .i64 1)) 3) none,
      co (some 6) (.binOp .and 3 (.tmp 3) (.tmp 5) 3) none,
      co (some 7) (.binOp .eql 3 (.tmp 6) (.const (.int .i64 0)) 3) none,
      co (some 2) (.assign (.tmp 7)) none] [2])
  (.ret))
theorem t_internal_strconv_isPowerOfTwo : Txt Tryd.prog 77 8 [(.tmp 2)] c_internal_strconv_isPowerOfTwo := txt_of (code := Tryd.f77.body.getD .ret) mixed (by kernel_rfl) Tryd.func77 (by kernel_rfl) Tryd.ntmps77 (by kernel_rfl) (ls := [([0], []), ([], []), ([2], []), ([], [])]) (by kernel_rfl)
def l1_internal_strconv_formatBits : CC :=
  .seq (.seq (.reg [co (some 44) (.move (.tmp 1)) none,
        co (some 45) (.move (.tmp 15)) none,
        co (some 46) (.binOp .geq 52 (.tmp 44) (.tmp 45) 52) none] [0, 1, 3, 4, 10, 11, 12, 13, 14, 15, 16, 46])
    (.cond (.tmp 46)
      (.skip)
      (.exit 0)))
  (.keep [0, 1, 3, 4, 10, 11, 12, 13, 14, 15, 16] (.block 1
    (.seq (.reg [co (some 47) (.move (.tmp 13)) none,
        co (some 48) (.binOp .sub 3 (.tmp 47) (.const (.int .i64 1)) 3) none,
        co (some 13) (.assign (.tmp 48)) none] [0, 1, 3, 4, 10, 11, 12, 13, 14, 15, 16])
    (.seq (.reg [co (some 49) (.move (.tmp 13)) none,
        co (some 50) (.move (.tmp 1)) none,
        co (some 51) (.move (.tmp 16)) none,
        co (some 52) (.binOp .and 122 (.tmp 50) (.tmp 51) 122) none,
        co (some 53) (.index 9 (.const (.string { data := #[48, 49, 50, 51, 52, 53, 54, 55, 56, 57, 97, 98, 99, 100, 101, 102, 103, 104, 105, 106, 107, 108, 109, 110, 111, 112, 113, 114, 115, 116, 117, 118, 119, 120, 121, 122] })) (.tmp 52)) none,
        co (some 54) (.indexAddr 121 (.tmp 12) (.tmp 49)) none,
        co none (.store 5 (.tmp 54) (.tmp 53)) none] [0, 1, 3, 4, 10, 11, 12, 13, 14, 15, 16])
    (.reg [co (some 55) (.move (.tmp 1)) none,
      co (some 56) (.move (.tmp 14)) none,
      co (some 57) (.binOp .shr 52 (.tmp 55) (.tmp 56) 122) none,
      co (some 1) (.assign (.tmp 57)) none] [0, 1, 3, 4, 10, 11, 12, 13, 14, 15, 16])))))
def l2_internal_strconv_formatBits : CC :=
  .seq (.seq (.reg [co (some 66) (.move (.tmp 1)) none,
        co (some 67) (.move (.tmp 17)) none,
        co (some 68) (.binOp .geq 52 (.tmp 66) (.tmp 67) 52) none] [0, 1, 3, 4, 10, 11, 12, 13, 17, 68])
    (.cond (.tmp 68)
      (.skip)
      (.exit 2)))
  (.keep [0, 1, 3, 4, 10, 11, 12, 13, 17] (.block 3
    (.seq (.reg [co (some 69) (.move (.tmp 13)) none,
        co (some 70) (.binOp .sub 3 (.tmp 69) (.const (.int .i64 1)) 3) none,
        co (some 13) (.assign (.tmp 70)) none] [0, 1, 3, 4, 10, 11, 12, 13, 17])
    (.seq (.reg [co (some 71) (.move (.tmp 1)) none,
        co (some 72) (.move (.tmp 17)) none,
        co (some 73) (.binOp .quo 52 (.tmp 71) (.tmp 72) 52) none,
        co (some 18) (.assign (.tmp 73)) none] [0, 1, 3, 4, 10, 11, 12, 13, 17, 18])
    (.seq (.reg [co (some 74) (.move (.tmp 13)) none,
        co (some 75) (.move (.tmp 1)) none,
        co (some 76) (.move (.tmp 18)) none,
        co (some 77) (.move (.tmp 17)) none,
        co (some 78) (.binOp .mul 52 (.tmp 76) (.tmp 77) 52) none,
        co (some 79) (.binOp .sub 52 (.tmp 75) (.tmp 78) 52) none,
        co (some 80) (.index 9 (.const (.string { data := #[48, 49, 50, 51, 52, 53, 54, 55, 56, 57, 97, 98, 99, 100, 101, 102, 103, 104, 105, 106, 107, 108, 109, 110, 111, 112, 113, 114, 115, 116, 117, 118, 119, 120, 121, 122] })) (.tmp 79)) none,
        co (some 81) (.indexAddr 121 (.tmp 12) (.tmp 74)) none,
        co none (.store 5 (.tmp 81) (.tmp 80)) none] [0, 3, 4, 10, 11, 12, 13, 17, 18])
    (.reg [co (some 82) (.move (.tmp 18)) none,
      co (some 1) (.assign (.tmp 82)) none] [0, 1, 3, 4, 10, 11, 12, 13, 17]))))))
def k1_internal_strconv_formatBits : CC :=
  .seq (.seq (.reg [co (some 94) (.move (.tmp 4)) none] [0, 10, 11, 12, 13, 94])
    (.cond (.tmp 94)
      (.seq (.reg [co (some 95) (.move (.tmp 0)) none,
          co (some 96) (.move (.tmp 13)) none,
          co (some 97) (.slice 121 (.tmp 12) (some (.tmp 96)) none none) none,
          cn (some 98) (.call { callee := (.builtin .append), args := #[(.tmp 95), (.tmp 97)], argTypes := #[67, 67] }) none [1],
          co (some 10) (.assign (.tmp 98)) none] [10, 11])
      (.ret))
      (.skip)))
  (.keep [10, 12, 13] (.stop (.seq (.reg [co (some 99) (.move (.tmp 13)) none,
      co (some 100) (.slice 121 (.tmp 12) (some (.tmp 99)) none none) none,
      co (some 101) (.convert 67 9 (.tmp 100)) none,
      co (some 11) (.assign (.tmp 101)) none] [10, 11])
  (.ret))))
def k2_internal_strconv_formatBits : CC :=
  .seq (.seq (.reg [co (some 89) (.move (.tmp 3)) none] [0, 4, 10, 11, 12, 13, 89])
    (.cond (.tmp 89)
      (.seq (.reg [co (some 90) (.move (.tmp 13)) none,
          co (some 91) (.binOp .sub 3 (.tmp 90) (.const (.int .i64 1)) 3) none,
          co (some 13) (.assign (.tmp 91)) none] [0, 4, 10, 11, 12, 13])
      (.reg [co (some 92) (.move (.tmp 13)) none,
        co (some 93) (.indexAddr 121 (.tmp 12) (.tmp 92)) none,
        co none (.store 5 (.tmp 93) (.const (.int .u8 45))) none] [0, 4, 10, 11, 12, 13]))
      (.skip)))
  (.keep [0, 4, 10, 11, 12, 13] k1_internal_strconv_formatBits)
def k3_internal_strconv_formatBits : CC :=
  .seq (.seq (.reg [co (some 33) (.move (.tmp 2)) none,
        co (some 34) (.call { callee := (.value (.func 77)), args := #[(.tmp 33)], argTypes := #[3] }) none] [0, 1, 2, 3, 4, 10, 11, 12, 13, 34])
    (.cond (.tmp 34)
      (.seq (.reg [co (some 35) (.move (.tmp 2)) none,
          co (some 36) (.convert 3 122 (.tmp 35)) none,
          co (some 37) (.call { callee := (.value (.func 78)), args := #[(.tmp 36)], argTypes := #[122] }) none,
          co (some 38) (.convert 3 122 (.tmp 37)) none,
          co (some 14) (.assign (.tmp 38)) none] [0, 1, 2, 3, 4, 10, 11, 12, 13, 14])
      (.seq (.reg [co (some 39) (.move (.tmp 2)) none,
          co (some 40) (.convert 3 52 (.tmp 39)) none,
          co (some 15) (.assign (.tmp 40)) none] [0, 1, 2, 3, 4, 10, 11, 12, 13, 14, 15])
      (.seq (.reg [co (some 41) (.move (.tmp 2)) none,
          co (some 42) (.convert 3 122 (.tmp 41)) none,
          co (some 43) (.binOp .sub 122 (.tmp 42) (.const (.int .u64 1)) 122) none,
          co (some 16) (.assign (.tmp 43)) none] [0, 1, 3, 4, 10, 11, 12, 13, 14, 15, 16])
      (.seq (.block 0
          (.loop l1_internal_strconv_formatBits))
      (.keep [0, 1, 3, 4, 10, 11, 12, 13] (.seq (.reg [co (some 58) (.move (.tmp 13)) none,
          co (some 59) (.binOp .sub 3 (.tmp 58) (.const (.int .i64 1)) 3) none,
          co (some 13) (.assign (.tmp 59)) none] [0, 1, 3, 4, 10, 11, 12, 13])
      (.reg [co (some 60) (.move (.tmp 13)) none,
        co (some 61) (.move (.tmp 1)) none,
        co (some 62) (.index 9 (.const (.string { data := #[48, 49, 50, 51, 52, 53, 54, 55, 56, 57, 97, 98, 99, 100, 101, 102, 103, 104, 105, 106, 107, 108, 109, 110, 111, 112, 113, 114, 115, 116, 117, 118, 119, 120, 121, 122] })) (.tmp 61)) none,
        co (some 63) (.indexAddr 121 (.tmp 12) (.tmp 60)) none,
        co none (.store 5 (.tmp 63) (.tmp 62)) none] [0, 3, 4, 10, 11, 12, 13])))))))
      (.seq (.reg [co (some 64) (.move (.tmp 2)) none,
          co (some 65) (.convert 3 52 (.tmp 64)) none,
          co (some 17) (.assign (.tmp 65)) none] [0, 1, 3, 4, 10, 11, 12, 13, 17])
      (.seq (.block 2
          (.loop l2_internal_strconv_formatBits))
      (.keep [0, 1, 3, 4, 10, 11, 12, 13] (.seq (.reg [co (some 83) (.move (.tmp 13)) none,
          co (some 84) (.binOp .sub 3 (.tmp 83) (.const (.int .i64 1)) 3) none,
          co (some 13) (.assign (.tmp 84)) none] [0, 1, 3, 4, 10, 11, 12, 13])
      (.reg [co (some 85) (.move (.tmp 13)) none,
        co (some 86) (.move (.tmp 1)) none,
        co (some 87) (.index 9 (.const (.string { data := #[48, 49, 50, 51, 52, 53, 54, 55, 56, 57, 97, 98, 99, 100, 101, 102, 103, 104, 105, 106, 107, 108, 109, 110, 111, 112, 113, 114, 115, 116, 117, 118, 119, 120, 121, 122] })) (.tmp 86)) none,
        co (some 88) (.indexAddr 121 (.tmp 12) (.tmp 85)) none,
        co none (.store 5 (.tmp 88) (.tmp 87)) none] [0, 3, 4, 10, 11, 12, 13])))))))
  (.keep [0, 3, 4, 10, 11, 12, 13] k2_internal_strconv_formatBits)
def k4_internal_strconv_formatBits : CC :=
  .seq (.reg [cn (some 12) (.alloc 121) none [0]] [0, 1, 2, 3, 4, 10, 11, 12])
  (.seq (.reg [co (some 13) (.assign (.const (.int .i64 65))) none] [0, 1, 2, 3, 4, 10, 11, 12, 13])
  (.seq (.seq (.reg [co (some 30) (.move (.tmp 3)) none] [0, 1, 2, 3, 4, 10, 11, 12, 13, 30])
    (.cond (.tmp 30)
      (.reg [co (some 31) (.move (.tmp 1)) none,
        co (some 32) (.unOp .neg 52 (.tmp 31)) none,
        co (some 1) (.assign (.tmp 32)) none] [0, 1, 2, 3, 4, 10, 11, 12, 13])
      (.skip)))
  (.keep [0, 1, 2, 3, 4, 10, 11, 12, 13] k3_internal_strconv_formatBits)))
/-- internal/strconv.formatBits -/
def c_internal_strconv_formatBits : CC :=
  .seq (.reg [co (some 10) (.assign (.const (.slice none 0 0))) none,
      co (some 11) (.assign (.const (.string { data := #[] }))) none] [0, 1, 2, 3, 4, 10, 11])
  (.seq (.seq (.reg [co (some 19) (.move (.tmp 2)) none,
        co (some 20) (.binOp .lss 3 (.tmp 19) (.const (.int .i64 2)) 3) none,
        co (some 21) (.move (.tmp 20)) none,
        co (some 22) (.move (.tmp 2)) (some (21, false)),
        co (some 23) (.binOp .eql 3 (.tmp 22) (.const (.int .i64 10)) 3) (some (21, false)),
        co (some 24) (.pick (.tmp 21) (.const (.bool true)) (.tmp 23)) none,
        co (some 25) (.move (.tmp 24)) none,
        co (some 26) (.move (.tmp 2)) (some (25, false)),
        co (some 27) (.binOp .gtr 3 (.tmp 26) (.const (.int .i64 36)) 3) (some (25, false)),
        co (some 28) (.pick (.tmp 25) (.const (.bool true)) (.tmp 27)) none] [0, 1, 2, 3, 4, 10, 11, 28])
    (.cond (.tmp 28)
      (.reg [co (some 29) (.makeInterface 9 (.const (.string { data := #[115, 116, 114, 99, 111, 110, 118, 58, 32, 105, 108, 108, 101, 103, 97, 108, 32, 65, 112, 112, 101, 110, 100, 73, 110, 116, 47, 70, 111, 114, 109, 97, 116, 73, 110, 116, 32, 98, 97, 115, 101] }))) none,
        co none (.panic (.tmp 29)) none] [0, 1, 2, 3, 4, 10, 11])
      (.skip)))
  (.keep [0, 1, 2, 3, 4, 10, 11] k4_internal_strconv_formatBits))
theorem t_internal_strconv_formatBits : Txt Tryd.prog 63 102 [(.tmp 10), (.tmp 11)] c_internal_strconv_formatBits := txt_of (code := Tryd.f63.body.getD .ret) mixed (by kernel_rfl) Tryd.func63 (by kernel_rfl) Tryd.ntmps63 (by kernel_rfl) (ls := [([0, 1, 2, 3, 4, 10, 11], []), ([], []), ([0, 1, 2, 3, 4, 10, 11, 28], []), ([], []), ([0, 1, 2, 3, 4, 10, 11], []), ([999999, 0, 1, 2, 3, 4, 10, 11], []), ([0, 1, 2, 3, 4, 10, 11, 12], [(0, [0])]), ([], []), ([0, 1, 2, 3, 4, 10, 11, 12, 13], []), ([], []), ([0, 1, 2, 3, 4, 10, 11, 12, 13, 30], []), ([], []), ([0, 1, 2, 3, 4, 10, 11, 12, 13], []), ([999999, 0, 1, 2, 3, 4, 10, 11, 12, 13], []), ([0, 1, 2, 3, 4, 10, 11, 12, 13, 34], []), ([], []), ([0, 1, 2, 3, 4, 10, 11, 12, 13, 14], []), ([], []), ([0, 1, 2, 3, 4, 10, 11, 12, 13, 14, 15], []), ([], []), ([0, 1, 3, 4, 10, 11, 12, 13, 14, 15, 16], []), ([], []), ([0, 1, 3, 4, 10, 11, 12, 13, 14, 15, 16, 46], []), ([], []), ([999999, 0, 1, 3, 4, 10, 11, 12, 13, 14, 15, 16], []), ([0, 1, 3, 4, 10, 11, 12, 13, 14, 15, 16], []), ([], []), ([0, 1, 3, 4, 10, 11, 12, 13, 14, 15, 16], []), ([], []), ([0, 1, 3, 4, 10, 11, 12, 13, 14, 15, 16], []), ([999999, 0, 1, 3, 4, 10, 11, 12, 13], []), ([0, 1, 3, 4, 10, 11, 12, 13], []), ([], []), ([0, 3, 4, 10, 11, 12, 13], []), ([0, 1, 3, 4, 10, 11, 12, 13, 17], []), ([], []), ([0, 1, 3, 4, 10, 11, 12, 13, 17, 68], []), ([], []), ([999999, 0, 1, 3, 4, 10, 11, 12, 13, 17], []), ([0, 1, 3, 4, 10, 11, 12, 13, 17], []), ([], []), ([0, 1, 3, 4, 10, 11, 12, 13, 17, 18], []), ([], []), ([0, 3, 4, 10, 11, 12, 13, 17, 18], []), ([], []), ([0, 1, 3, 4, 10, 11, 12, 13, 17], []), ([999999, 0, 1, 3, 4, 10, 11, 12, 13], []), ([0, 1, 3, 4, 10, 11, 12, 13], []), ([], []), ([0, 3, 4, 10, 11, 12, 13], []), ([999999, 0, 3, 4, 10, 11, 12, 13], []), ([0, 4, 10, 11, 12, 13, 89], []), ([], []), ([0, 4, 10, 11, 12, 13], []), ([], []), ([0, 4, 10, 11, 12, 13], []), ([999999, 0, 4, 10, 11, 12, 13], []), ([0, 10, 11, 12, 13, 94], []), ([], []), ([10, 11], [(3, [1])]), ([], []), ([999997, 10, 12, 13], []), ([10, 11], []), ([], [])]) (by kernel_rfl)
/-- internal/strconv.FormatUint -/
def c_internal_strconv_FormatUint : CC :=
  .seq (.reg [co (some 4) (.assign (.const (.string { data := #[] }))) none] [0, 1])
  (.seq (.seq (.reg [co (some 9) (.move (.tmp 1)) none,
        co (some 10) (.binOp .eql 3 (.tmp 9) (.const (.int .i64 10)) 3) none] [0, 1, 10])
    (.cond (.tmp 10)
      (.seq (.seq (.reg [co (some 11) (.move (.tmp 0)) none,
            co (some 12) (.binOp .lss 52 (.tmp 11) (.const (.int .u64 100)) 52) none] [0, 12])
        (.cond (.tmp 12)
          (.seq (.reg [co (some 13) (.move (.tmp 0)) none,
              co (some 14) (.convert 52 3 (.tmp 13)) none,
              co (some 15) (.call { callee := (.value (.func 60)), args := #[(.tmp 14)], argTypes := #[3] }) none,
              co (some 4) (.assign (.tmp 15)) none] [4])
          (.ret))
          (.skip)))
      (.keep [0] (.seq (.reg [cn (some 5) (.alloc 108) none [0]] [0, 5])
      (.seq (.reg [co (some 16) (.move (.tmp 0)) none,
          co (some 17) (.call { callee := (.value (.func 61)), args := #[(.tmp 16)], argTypes := #[52] }) none,
          co (some 6) (.assign (.tmp 17)) none] [0, 5, 6])
      (.seq (.reg [co (some 18) (.move (.tmp 6)) none,
          co (some 19) (.slice 108 (.tmp 5) none (some (.tmp 18)) none) none,
          co (some 20) (.move (.tmp 0)) none,
          co (some 21) (.call { callee := (.value (.func 62)), args := #[(.tmp 19), (.tmp 20)], argTypes := #[67, 52] }) none] [5, 6])
      (.seq (.reg [co (some 22) (.move (.tmp 6)) none,
          co (some 23) (.slice 108 (.tmp 5) none (some (.tmp 22)) none) none,
          co (some 24) (.convert 67 9 (.tmp 23)) none,
          co (some 4) (.assign (.tmp 24)) none] [4])
      (.ret)))))))
      (.skip)))
  (.keep [0, 1] (.seq (.reg [co (some 26) (.move (.tmp 0)) none,
      co (some 27) (.move (.tmp 1)) none,
      co (some 28) (.call { callee := (.value (.func 63)), args := #[(.const (.slice none 0 0)), (.tmp 26), (.tmp 27), (.const (.bool false)), (.const (.bool false))], argTypes := #[67, 52, 3, 4, 4] }) none,
      co (some 25) (.move (.tmp 28)) none,
      co (some 29) (.extract (.tmp 25) 0) none,
      co (some 30) (.extract (.tmp 25) 1) none,
      co (some 7) (.assign (.tmp 29)) none,
      co (some 8) (.assign (.tmp 30)) none] [8])
  (.seq (.reg [co (some 31) (.move (.tmp 8)) none,
      co (some 4) (.assign (.tmp 31)) none] [4])
  (.ret)))))
theorem t_internal_strconv_FormatUint : Txt Tryd.prog 48 32 [(.tmp 4)] c_internal_strconv_FormatUint := txt_of (code := Tryd.f48.body.getD .ret) mixed (by kernel_rfl) Tryd.func48 (by kernel_rfl) Tryd.ntmps48 (by kernel_rfl) (ls := [([0, 1], []), ([], []), ([0, 1, 10], []), ([], []), ([0, 12], []), ([], []), ([4], []), ([], []), ([999999, 0], []), ([0, 5], [(0, [0])]), ([], []), ([0, 5, 6], []), ([], []), ([5, 6], []), ([], []), ([4], []), ([], []), ([999999, 0, 1], []), ([8], []), ([], []), ([4], []), ([], [])]) (by kernel_rfl)
/-- strconv.FormatUint -/
def c_strconv_FormatUint : CC :=
  .seq (.reg [co (some 4) (.assign (.const (.string { data := #[] }))) none] [0, 1])
  (.seq (.reg [co (some 5) (.move (.tmp 0)) none,
      co (some 6) (.move (.tmp 1)) none,
      co (some 7) (.call { callee := (.value (.func 48)), args := #[(.tmp 5), (.tmp 6)], argTypes := #[52, 3] }) none,
      co (some 4) (.assign (.tmp 7)) none] [4])
  (.ret))
theorem t_strconv_FormatUint : Txt Tryd.prog 32 8 [(.tmp 4)] c_strconv_FormatUint := txt_of (code := Tryd.f32.body.getD .ret) mixed (by kernel_rfl) Tryd.func32 (by kernel_rfl) Tryd.ntmps32 (by kernel_rfl) (ls := [([0, 1], []), ([], []), ([4], []), ([], [])]) (by kernel_rfl)
def l1_text_all : CC :=
  .seq (.reg [co (some 9) (.binOp .lss 3 (.tmp 8) (.tmp 7) 3) none] [0, 6, 7, 8, 9])
  (.seq (.cond (.tmp 9)
      (.skip)
      (.exit 0))
  (.keep [0, 6, 7, 8] (.seq (.block 1
      (.seq (.reg [co (some 10) (.move (.tmp 8)) none,
          co (some 11) (.indexAddr 23 (.tmp 6) (.tmp 8)) none,
          co (some 12) (.load 25 (.tmp 11)) none,
          cn (some 5) (.alloc 25) none [1],
          co (some 4) (.assign (.tmp 10)) none,
          co none (.store 25 (.tmp 5) (.tmp 12)) none] [0, 4, 5, 6, 7, 8])
      (.seq (.seq (.reg [co (some 13) (.move (.tmp 4)) none,
            co (some 14) (.binOp .gtr 3 (.tmp 13) (.const (.int .i64 0)) 3) none] [0, 5, 6, 7, 8, 14])
        (.cond (.tmp 14)
          (.reg [co (some 15) (.move (.tmp 0)) none,
            co (some 16) (.call { callee := (.value (.func 44)), args := #[(.tmp 15), (.const (.int .u8 44))], argTypes := #[66, 5] }) none] [0, 5, 6, 7, 8])
          (.skip)))
      (.keep [0, 5, 6, 7, 8] (.reg [co (some 17) (.move (.tmp 0)) none,
        co (some 18) (.load 25 (.tmp 5)) none,
        co (some 19) (.call { callee := (.value (.func 28)), args := #[(.tmp 17), (.tmp 18)], argTypes := #[66, 25] }) none] [0, 6, 7, 8])))))
  (.keep [0, 6, 7, 8] (.reg [co (some 20) (.binOp .add 3 (.tmp 8) (.const (.int .i64 1)) 3) none,
    co (some 8) (.move (.tmp 20)) none] [0, 6, 7, 8])))))
/-- cento/text.all -/
def c_text_all : CC :=
  .seq (.reg [co (some 6) (.move (.tmp 1)) none,
      co (some 7) (.call { callee := (.builtin .len), args := #[(.tmp 6)], argTypes := #[23] }) none,
      co (some 8) (.move (.const (.int .i64 0))) none] [0, 6, 7, 8])
  (.block 0
    (.loop l1_text_all))
theorem t_text_all : Txt Tryd.prog 45 21 [] c_text_all := txt_of (code := Tryd.f45.body.getD .ret) mixed (by kernel_rfl) Tryd.func45 (by kernel_rfl) Tryd.ntmps45 (by kernel_rfl) (ls := [([0, 6, 7, 8], []), ([], []), ([0, 6, 7, 8, 9], []), ([], []), ([999999, 0, 6, 7, 8], []), ([0, 4, 5, 6, 7, 8], [(3, [1])]), ([], []), ([0, 5, 6, 7, 8, 14], []), ([], []), ([0, 5, 6, 7, 8], []), ([999999, 0, 5, 6, 7, 8], []), ([0, 6, 7, 8], []), ([999999, 0, 6, 7, 8], []), ([0, 6, 7, 8], [])]) (by kernel_rfl)
def l1_text_show : CC :=
  .seq (.reg [co (some 35) (.binOp .lss 3 (.tmp 34) (.tmp 33) 3) none] [0, 3, 32, 33, 34, 35])
  (.seq (.cond (.tmp 35)
      (.skip)
      (.exit 1))
  (.keep [0, 3, 32, 33, 34] (.seq (.block 2
      (.seq (.reg [co (some 36) (.move (.tmp 34)) none,
          co (some 37) (.indexAddr 22 (.tmp 32) (.tmp 34)) none,
          co (some 38) (.load 52 (.tmp 37)) none,
          co (some 4) (.assign (.tmp 36)) none,
          co (some 5) (.assign (.tmp 38)) none] [0, 3, 4, 5, 32, 33, 34])
      (.seq (.seq (.reg [co (some 39) (.move (.tmp 4)) none,
            co (some 40) (.binOp .gtr 3 (.tmp 39) (.const (.int .i64 0)) 3) none] [0, 3, 5, 32, 33, 34, 40])
        (.cond (.tmp 40)
          (.reg [co (some 41) (.move (.tmp 0)) none,
            co (some 42) (.call { callee := (.value (.func 44)), args := #[(.tmp 41), (.const (.int .u8 44))], argTypes := #[66, 5] }) none] [0, 3, 5, 32, 33, 34])
          (.skip)))
      (.keep [0, 3, 5, 32, 33, 34] (.reg [co (some 43) (.move (.tmp 0)) none,
        co (some 44) (.move (.tmp 5)) none,
        co (some 45) (.call { callee := (.value (.func 32)), args := #[(.tmp 44), (.const (.int .i64 16))], argTypes := #[52, 3] }) none,
        co (some 46) (.call { callee := (.value (.func 31)), args := #[(.tmp 43), (.tmp 45)], argTypes := #[66, 9] }) none] [0, 3, 32, 33, 34])))))
  (.keep [0, 3, 32, 33, 34] (.reg [co (some 47) (.binOp .add 3 (.tmp 34) (.const (.int .i64 1)) 3) none,
    co (some 34) (.move (.tmp 47)) none] [0, 3, 32, 33, 34])))))
/-- cento/text.show -/
def c_text_show : CC :=
  .seq (.reg [cn (some 3) (.box 25 (.tmp 1)) none [1]] [0, 3])
  (.block 0
    (.seq (.reg [co (some 9) (.fieldAddr 25 (.tmp 3) 0) none,
        co (some 10) (.load 3 (.tmp 9)) none,
        co (some 11) (.binOp .eql 3 (.tmp 10) (.const (.int .i64 10)) 3) none,
        co (some 12) (.move (.tmp 11)) none,
        co (some 13) (.fieldAddr 25 (.tmp 3) 1) (some (12, true)),
        co (some 14) (.load 22 (.tmp 13)) (some (12, true)),
        co (some 15) (.call { callee := (.builtin .len), args := #[(.tmp 14)], argTypes := #[22] }) (some (12, true)),
        co (some 16) (.binOp .eql 3 (.tmp 15) (.const (.int .i64 1)) 3) (some (12, true)),
        co (some 17) (.pick (.tmp 12) (.tmp 16) (.const (.bool false))) none,
        co (some 8) (.assign (.tmp 17)) none] [0, 3, 8])
    (.cond (.tmp 8)
      (.reg [co (some 18) (.move (.tmp 0)) none,
        co (some 19) (.fieldAddr 25 (.tmp 3) 1) none,
        co (some 20) (.load 22 (.tmp 19)) none,
        co (some 21) (.indexAddr 22 (.tmp 20) (.const (.int .i64 0))) none,
        co (some 22) (.load 52 (.tmp 21)) none,
        co (some 23) (.call { callee := (.value (.func 32)), args := #[(.tmp 22), (.const (.int .i64 16))], argTypes := #[52, 3] }) none,
        co (some 24) (.call { callee := (.value (.func 31)), args := #[(.tmp 18), (.tmp 23)], argTypes := #[66, 9] }) none] [])
      (.seq (.reg [co (some 26) (.fieldAddr 25 (.tmp 3) 0) none,
          co (some 27) (.load 3 (.tmp 26)) none,
          co (some 28) (.binOp .eql 3 (.tmp 27) (.const (.int .i64 1)) 3) none,
          co (some 25) (.assign (.tmp 28)) none] [0, 3, 25])
      (.cond (.tmp 25)
        (.seq (.reg [co (some 29) (.move (.tmp 0)) none,
            co (some 30) (.call { callee := (.value (.func 44)), args := #[(.tmp 29), (.const (.int .u8 123))], argTypes := #[66, 5] }) none] [0, 3])
        (.seq (.seq (.reg [co (some 31) (.fieldAddr 25 (.tmp 3) 1) none,
              co (some 32) (.load 22 (.tmp 31)) none,
              co (some 33) (.call { callee := (.builtin .len), args := #[(.tmp 32)], argTypes := #[22] }) none,
              co (some 34) (.move (.const (.int .i64 0))) none] [0, 3, 32, 33, 34])
          (.block 1
            (.loop l1_text_show)))
        (.keep [0, 3] (.seq (.seq (.reg [co (some 48) (.fieldAddr 25 (.tmp 3) 2) none,
              co (some 49) (.load 23 (.tmp 48)) none,
              co (some 50) (.call { callee := (.builtin .len), args := #[(.tmp 49)], argTypes := #[23] }) none,
              co (some 51) (.binOp .gtr 3 (.tmp 50) (.const (.int .i64 0)) 3) none] [0, 3, 51])
          (.cond (.tmp 51)
            (.reg [co (some 52) (.move (.tmp 0)) none,
              co (some 53) (.call { callee := (.value (.func 44)), args := #[(.tmp 52), (.const (.int .u8 124))], argTypes := #[66, 5] }) none] [0, 3])
            (.skip)))
        (.keep [0, 3] (.seq (.reg [co (some 54) (.move (.tmp 0)) none,
            co (some 55) (.fieldAddr 25 (.tmp 3) 2) none,
            co (some 56) (.load 23 (.tmp 55)) none,
            co (some 57) (.call { callee := (.value (.func 45)), args := #[(.tmp 54), (.tmp 56)], argTypes := #[66, 23] }) none] [0])
        (.reg [co (some 58) (.move (.tmp 0)) none,
          co (some 59) (.call { callee := (.value (.func 44)), args := #[(.tmp 58), (.const (.int .u8 125))], argTypes := #[66, 5] }) none] [])))))))
        (.seq (.reg [co (some 61) (.fieldAddr 25 (.tmp 3) 0) none,
            co (some 62) (.load 3 (.tmp 61)) none,
            co (some 63) (.call { callee := (.value (.func 26)), args := #[(.tmp 62)], argTypes := #[3] }) none,
            co (some 60) (.assign (.tmp 63)) none] [0, 3, 60])
        (.cond (.tmp 60)
          (.seq (.reg [co (some 64) (.move (.tmp 0)) none,
              co (some 65) (.fieldAddr 25 (.tmp 3) 0) none,
              co (some 66) (.load 3 (.tmp 65)) none,
              co (some 67) (.index 9 (.const (.string { data := #[46, 46, 118, 98, 121, 116, 102, 101, 112, 99] })) (.tmp 66)) none,
              co (some 68) (.call { callee := (.value (.func 44)), args := #[(.tmp 64), (.tmp 67)], argTypes := #[66, 5] }) none] [0, 3])
          (.seq (.reg [co (some 69) (.move (.tmp 0)) none,
              co (some 70) (.call { callee := (.value (.func 44)), args := #[(.tmp 69), (.const (.int .u8 91))], argTypes := #[66, 5] }) none] [0, 3])
          (.seq (.reg [co (some 71) (.move (.tmp 0)) none,
              co (some 72) (.fieldAddr 25 (.tmp 3) 2) none,
              co (some 73) (.load 23 (.tmp 72)) none,
              co (some 74) (.call { callee := (.value (.func 45)), args := #[(.tmp 71), (.tmp 73)], argTypes := #[66, 23] }) none] [0])
          (.reg [co (some 75) (.move (.tmp 0)) none,
            co (some 76) (.call { callee := (.value (.func 44)), args := #[(.tmp 75), (.const (.int .u8 93))], argTypes := #[66, 5] }) none] []))))
          (.reg [co (some 6) (.move (.tmp 0)) none,
            co (some 7) (.call { callee := (.value (.func 44)), args := #[(.tmp 6), (.const (.int .u8 95))], argTypes := #[66, 5] }) none] []))))))))
theorem t_text_show : Txt Tryd.prog 28 77 [] c_text_show := txt_of (code := Tryd.f28.body.getD .ret) mixed (by kernel_rfl) Tryd.func28 (by kernel_rfl) Tryd.ntmps28 (by kernel_rfl) (ls := [([0, 3], [(0, [1])]), ([], []), ([0, 3, 8], []), ([], []), ([], []), ([0, 3, 25], []), ([], []), ([0, 3], []), ([], []), ([0, 3, 32, 33, 34], []), ([], []), ([0, 3, 32, 33, 34, 35], []), ([], []), ([999999, 0, 3, 32, 33, 34], []), ([0, 3, 4, 5, 32, 33, 34], []), ([], []), ([0, 3, 5, 32, 33, 34, 40], []), ([], []), ([0, 3, 5, 32, 33, 34], []), ([999999, 0, 3, 5, 32, 33, 34], []), ([0, 3, 32, 33, 34], []), ([999999, 0, 3, 32, 33, 34], []), ([0, 3, 32, 33, 34], []), ([999999, 0, 3], []), ([0, 3, 51], []), ([], []), ([0, 3], []), ([999999, 0, 3], []), ([0], []), ([], []), ([], []), ([0, 3, 60], []), ([], []), ([0, 3], []), ([], []), ([0, 3], []), ([], []), ([0], []), ([], []), ([], []), ([], [])]) (by kernel_rfl)
/-- cento/text.Print -/
def c_text_Print : CC :=
  .seq (.reg [cn (some 1) (.box 25 (.tmp 0)) none [0],
      co (some 2) (.assign (.const (.string { data := #[] }))) none] [1])
  (.seq (.reg [cn (some 3) (.alloc 69) none [1, 777777, 69]] [1, 3])
  (.stop (.seq (.reg [co (some 4) (.load 25 (.tmp 1)) none,
      co (some 5) (.call { callee := (.value (.func 28)), args := #[(.tmp 3), (.tmp 4)], argTypes := #[66, 25] }) none] [3])
  (.seq (.reg [co (some 6) (.call { callee := (.value (.func 29)), args := #[(.tmp 3)], argTypes := #[69] }) none,
      co (some 2) (.assign (.tmp 6)) none] [2])
  (.ret)))))
theorem t_text_Print : Txt Tryd.prog 12 7 [(.tmp 2)] c_text_Print := txt_of (code := Tryd.f12.body.getD .ret) mixed (by kernel_rfl) Tryd.func12 (by kernel_rfl) Tryd.ntmps12 (by kernel_rfl) (ls := [([1], [(0, [0])]), ([], []), ([1, 3], [(0, [1, 777777, 69])]), ([999998], []), ([3], []), ([], []), ([2], []), ([], [])]) (by kernel_rfl)
/-- (*cento/text.parser).next -/
def c_text_parser_next : CC :=
  .seq (.reg [co (some 2) (.assign (.const (.int .u8 0))) none] [0])
  (.seq (.seq (.reg [co (some 3) (.move (.tmp 0)) none,
        co (some 4) (.nilCheck (.tmp 3)) none,
        co (some 5) (.fieldAddr 93 (.tmp 4) 1) none,
        co (some 6) (.load 3 (.tmp 5)) none,
        co (some 7) (.move (.tmp 0)) none,
        co (some 8) (.nilCheck (.tmp 7)) none,
        co (some 9) (.fieldAddr 93 (.tmp 8) 0) none,
        co (some 10) (.load 9 (.tmp 9)) none,
        co (some 11) (.call { callee := (.builtin .len), args := #[(.tmp 10)], argTypes := #[9] }) none,
        co (some 12) (.binOp .eql 3 (.tmp 6) (.tmp 11) 3) none] [0, 12])
    (.cond (.tmp 12)
      (.seq (.reg [co (some 2) (.assign (.const (.int .u8 0))) none] [2])
      (.ret))
      (.skip)))
  (.keep [0] (.seq (.reg [co (some 13) (.move (.tmp 0)) none,
      co (some 14) (.nilCheck (.tmp 13)) none,
      co (some 15) (.fieldAddr 93 (.tmp 14) 0) none,
      co (some 16) (.load 9 (.tmp 15)) none,
      co (some 17) (.move (.tmp 0)) none,
      co (some 18) (.nilCheck (.tmp 17)) none,
      co (some 19) (.fieldAddr 93 (.tmp 18) 1) none,
      co (some 20) (.load 3 (.tmp 19)) none,
      co (some 21) (.index 9 (.tmp 16) (.tmp 20)) none,
      co (some 2) (.assign (.tmp 21)) none] [2])
  (.ret))))
theorem t_text_parser_next : Txt Tryd.prog 66 22 [(.tmp 2)] c_text_parser_next := txt_of (code := Tryd.f66.body.getD .ret) mixed (by kernel_rfl) Tryd.func66 (by kernel_rfl) Tryd.ntmps66 (by kernel_rfl) (ls := [([0], []), ([], []), ([0, 12], []), ([], []), ([2], []), ([], []), ([999999, 0], []), ([2], []), ([], [])]) (by kernel_rfl)
/-- (*cento/text.parser).eat -/
def c_text_parser_eat : CC :=
  .seq (.reg [co (some 4) (.assign (.const (.bool false))) none] [0, 1])
  (.seq (.seq (.reg [co (some 5) (.move (.tmp 0)) none,
        co (some 6) (.call { callee := (.value (.func 66)), args := #[(.tmp 5)], argTypes := #[91] }) none,
        co (some 7) (.move (.tmp 1)) none,
        co (some 8) (.binOp .neq 5 (.tmp 6) (.tmp 7) 5) none,
        co (some 9) (.move (.tmp 8)) none,
        co (some 10) (.move (.tmp 0)) (some (9, false)),
        co (some 11) (.nilCheck (.tmp 10)) (some (9, false)),
        co (some 12) (.fieldAddr 93 (.tmp 11) 1) (some (9, false)),
        co (some 13) (.load 3 (.tmp 12)) (some (9, false)),
        co (some 14) (.move (.tmp 0)) (some (9, false)),
        co (some 15) (.nilCheck (.tmp 14)) (some (9, false)),
        co (some 16) (.fieldAddr 93 (.tmp 15) 0) (some (9, false)),
        co (some 17) (.load 9 (.tmp 16)) (some (9, false)),
        co (some 18) (.call { callee := (.builtin .len), args := #[(.tmp 17)], argTypes := #[9] }) (some (9, false)),
        co (some 19) (.binOp .eql 3 (.tmp 13) (.tmp 18) 3) (some (9, false)),
        co (some 20) (.pick (.tmp 9) (.const (.bool true)) (.tmp 19)) none] [0, 20])
    (.cond (.tmp 20)
      (.seq (.reg [co (some 4) (.assign (.const (.bool false))) none] [4])
      (.ret))
      (.skip)))
  (.keep [0] (.seq (.reg [co (some 21) (.move (.tmp 0)) none,
      co (some 22) (.nilCheck (.tmp 21)) none,
      co (some 23) (.fieldAddr 93 (.tmp 22) 1) none,
      co (some 24) (.load 3 (.tmp 23)) none,
      co (some 25) (.binOp .add 3 (.tmp 24) (.const (.int .i64 1)) 3) none,
      co (some 26) (.nilCheck (.tmp 21)) none,
      co (some 27) (.fieldAddr 93 (.tmp 26) 1) none,
      co none (.store 3 (.tmp 27) (.tmp 25)) none] [])
  (.seq (.reg [co (some 4) (.assign (.const (.bool true))) none] [4])
  (.ret)))))
theorem t_text_parser_eat : Txt Tryd.prog 64 28 [(.tmp 4)] c_text_parser_eat := txt_of (code := Tryd.f64.body.getD .ret) mixed (by kernel_rfl) Tryd.func64 (by kernel_rfl) Tryd.ntmps64 (by kernel_rfl) (ls := [([0, 1], []), ([], []), ([0, 20], []), ([], []), ([4], []), ([], []), ([999999, 0], []), ([], []), ([], []), ([4], []), ([], [])]) (by kernel_rfl)
/-- cento/text.hex -/
def c_text_hex : CC :=
  .seq (.reg [co (some 2) (.assign (.const (.int .u64 0))) none,
      co (some 3) (.assign (.const (.bool false))) none] [0])
  (.seq (.reg [co (some 5) (.move (.tmp 0)) none,
      co (some 6) (.call { callee := (.value (.func 50)), args := #[(.const (.string { data := #[48, 49, 50, 51, 52, 53, 54, 55, 56, 57, 97, 98, 99, 100, 101, 102] })), (.tmp 5)], argTypes := #[9, 5] }) none,
      co (some 4) (.assign (.tmp 6)) none] [4])
  (.seq (.reg [co (some 7) (.move (.tmp 4)) none,
      co (some 8) (.call { callee := (.builtin .max), args := #[(.tmp 7), (.const (.int .i64 0))], argTypes := #[3, 3] }) none,
      co (some 9) (.convert 3 52 (.tmp 8)) none,
      co (some 10) (.move (.tmp 4)) none,
      co (some 11) (.binOp .geq 3 (.tmp 10) (.const (.int .i64 0)) 3) none,
      co (some 2) (.assign (.tmp 9)) none,
      co (some 3) (.assign (.tmp 11)) none] [2, 3])
  (.ret)))
theorem t_text_hex : Txt Tryd.prog 91 12 [(.tmp 2), (.tmp 3)] c_text_hex := txt_of (code := Tryd.f91.body.getD .ret) mixed (by kernel_rfl) Tryd.func91 (by kernel_rfl) Tryd.ntmps91 (by kernel_rfl) (ls := [([0], []), ([], []), ([4], []), ([], []), ([2, 3], []), ([], [])]) (by kernel_rfl)
def l1_text_parser_number : CC :=
  .seq (.seq (.reg [co (some 13) (.move (.tmp 0)) none,
        co (some 14) (.nilCheck (.tmp 13)) none,
        co (some 15) (.fieldAddr 93 (.tmp 14) 1) none,
        co (some 16) (.load 3 (.tmp 15)) none,
        co (some 17) (.move (.tmp 0)) none,
        co (some 18) (.nilCheck (.tmp 17)) none,
        co (some 19) (.fieldAddr 93 (.tmp 18) 0) none,
        co (some 20) (.load 9 (.tmp 19)) none,
        co (some 21) (.call { callee := (.builtin .len), args := #[(.tmp 20)], argTypes := #[9] }) none,
        co (some 22) (.binOp .lss 3 (.tmp 16) (.tmp 21) 3) none] [0, 4, 5, 22])
    (.cond (.tmp 22)
      (.skip)
      (.exit 0)))
  (.keep [0, 4, 5] (.block 1
    (.seq (.reg [co (some 24) (.move (.tmp 0)) none,
        co (some 25) (.nilCheck (.tmp 24)) none,
        co (some 26) (.fieldAddr 93 (.tmp 25) 0) none,
        co (some 27) (.load 9 (.tmp 26)) none,
        co (some 28) (.move (.tmp 0)) none,
        co (some 29) (.nilCheck (.tmp 28)) none,
        co (some 30) (.fieldAddr 93 (.tmp 29) 1) none,
        co (some 31) (.load 3 (.tmp 30)) none,
        co (some 32) (.index 9 (.tmp 27) (.tmp 31)) none,
        co (some 33) (.call { callee := (.value (.func 91)), args := #[(.tmp 32)], argTypes := #[5] }) none,
        co (some 23) (.move (.tmp 33)) none,
        co (some 34) (.extract (.tmp 23) 0) none,
        co (some 35) (.extract (.tmp 23) 1) none,
        co (some 6) (.assign (.tmp 34)) none,
        co (some 7) (.assign (.tmp 35)) none] [0, 4, 5, 6, 7])
    (.seq (.seq (.reg [co (some 36) (.move (.tmp 7)) none,
          co (some 37) (.unOp .not 4 (.tmp 36)) none,
          co (some 38) (.move (.tmp 37)) none,
          co (some 39) (.move (.tmp 5)) (some (38, false)),
          co (some 40) (.binOp .shr 52 (.tmp 39) (.const (.int .u64 60)) 122) (some (38, false)),
          co (some 41) (.binOp .neq 52 (.tmp 40) (.const (.int .u64 0)) 52) (some (38, false)),
          co (some 42) (.pick (.tmp 38) (.const (.bool true)) (.tmp 41)) none] [0, 4, 5, 6, 42])
      (.cond (.tmp 42)
        (.exit 0)
        (.skip)))
    (.keep [0, 4, 5, 6] (.reg [co (some 43) (.move (.tmp 0)) none,
      co (some 44) (.move (.tmp 5)) none,
      co (some 45) (.binOp .shl 52 (.tmp 44) (.const (.int .u64 4)) 122) none,
      co (some 46) (.move (.tmp 6)) none,
      co (some 47) (.binOp .or 52 (.tmp 45) (.tmp 46) 52) none,
      co (some 48) (.move (.tmp 0)) none,
      co (some 49) (.nilCheck (.tmp 48)) none,
      co (some 50) (.fieldAddr 93 (.tmp 49) 1) none,
      co (some 51) (.load 3 (.tmp 50)) none,
      co (some 52) (.binOp .add 3 (.tmp 51) (.const (.int .i64 1)) 3) none,
      co (some 5) (.assign (.tmp 47)) none,
      co (some 53) (.nilCheck (.tmp 43)) none,
      co (some 54) (.fieldAddr 93 (.tmp 53) 1) none,
      co none (.store 3 (.tmp 54) (.tmp 52)) none] [0, 4, 5]))))))
def k1_text_parser_number : CC :=
  .seq (.reg [co (some 55) (.move (.tmp 0)) none,
      co (some 56) (.nilCheck (.tmp 55)) none,
      co (some 57) (.fieldAddr 93 (.tmp 56) 1) none,
      co (some 58) (.load 3 (.tmp 57)) none,
      co (some 59) (.move (.tmp 4)) none,
      co (some 60) (.binOp .sub 3 (.tmp 58) (.tmp 59) 3) none,
      co (some 8) (.assign (.tmp 60)) none] [0, 4, 5, 8])
  (.seq (.reg [co (some 61) (.move (.tmp 5)) none,
      co (some 62) (.move (.tmp 8)) none,
      co (some 63) (.binOp .gtr 3 (.tmp 62) (.const (.int .i64 0)) 3) none,
      co (some 64) (.move (.tmp 63)) none,
      co (some 65) (.move (.tmp 8)) (some (64, true)),
      co (some 66) (.binOp .eql 3 (.tmp 65) (.const (.int .i64 1)) 3) (some (64, true)),
      co (some 67) (.move (.tmp 66)) (some (64, true)),
      co (some 68) (.move (.tmp 0)) (some (67, false)),
      co (some 69) (.nilCheck (.tmp 68)) (some (67, false)),
      co (some 70) (.fieldAddr 93 (.tmp 69) 0) (some (67, false)),
      co (some 71) (.load 9 (.tmp 70)) (some (67, false)),
      co (some 72) (.move (.tmp 4)) (some (67, false)),
      co (some 73) (.index 9 (.tmp 71) (.tmp 72)) (some (67, false)),
      co (some 74) (.binOp .neq 5 (.tmp 73) (.const (.int .u8 48)) 5) (some (67, false)),
      co (some 75) (.pick (.tmp 67) (.const (.bool true)) (.tmp 74)) (some (64, true)),
      co (some 76) (.pick (.tmp 64) (.tmp 75) (.const (.bool false))) none,
      co (some 2) (.assign (.tmp 61)) none,
      co (some 3) (.assign (.tmp 76)) none] [2, 3])
  (.ret))
/-- (*cento/text.parser).number -/
def c_text_parser_number : CC :=
  .seq (.reg [co (some 2) (.assign (.const (.int .u64 0))) none,
      co (some 3) (.assign (.const (.bool false))) none] [0])
  (.seq (.reg [co (some 9) (.move (.tmp 0)) none,
      co (some 10) (.nilCheck (.tmp 9)) none,
      co (some 11) (.fieldAddr 93 (.tmp 10) 1) none,
      co (some 12) (.load 3 (.tmp 11)) none,
      co (some 4) (.assign (.tmp 12)) none,
      co (some 5) (.assign (.const (.int .u64 0))) none] [0, 4, 5])
  (.seq (.block 0
      (.loop l1_text_parser_number))
  (.keep [0, 4, 5] k1_text_parser_number)))
theorem t_text_parser_number : Txt Tryd.prog 80 77 [(.tmp 2), (.tmp 3)] c_text_parser_number := txt_of (code := Tryd.f80.body.getD .ret) mixed (by kernel_rfl) Tryd.func80 (by kernel_rfl) Tryd.ntmps80 (by kernel_rfl) (ls := [([0], []), ([], []), ([0, 4, 5], []), ([], []), ([0, 4, 5, 22], []), ([], []), ([999999, 0, 4, 5], []), ([0, 4, 5, 6, 7], []), ([], []), ([0, 4, 5, 6, 42], []), ([], []), ([999999, 0, 4, 5, 6], []), ([0, 4, 5], []), ([999999, 0, 4, 5], []), ([0, 4, 5, 8], []), ([], []), ([2, 3], []), ([], [])]) (by kernel_rfl)
def l1_text_parser_numbers : CC :=
  .block 1
    (.seq (.reg [co (some 8) (.move (.tmp 0)) none,
        co (some 9) (.call { callee := (.value (.func 80)), args := #[(.tmp 8)], argTypes := #[91] }) none,
        co (some 7) (.move (.tmp 9)) none,
        co (some 10) (.extract (.tmp 7) 0) none,
        co (some 11) (.extract (.tmp 7) 1) none,
        co (some 5) (.assign (.tmp 10)) none,
        co (some 6) (.assign (.tmp 11)) none] [0, 4, 5, 6])
    (.seq (.seq (.reg [co (some 12) (.move (.tmp 6)) none,
          co (some 13) (.unOp .not 4 (.tmp 12)) none] [0, 4, 5, 13])
      (.cond (.tmp 13)
        (.seq (.reg [co (some 2) (.assign (.const (.slice none 0 0))) none,
            co (some 3) (.assign (.const (.bool false))) none] [2, 3])
        (.ret))
        (.skip)))
    (.keep [0, 4, 5] (.seq (.reg [co (some 14) (.move (.tmp 4)) none,
        co (some 15) (.move (.tmp 5)) none,
        co (some 16) (.buildSlice 22 1 #[(0, (.tmp 15))]) none,
        cn (some 17) (.call { callee := (.builtin .append), args := #[(.tmp 14), (.tmp 16)], argTypes := #[22, 22] }) none [1],
        co (some 4) (.assign (.tmp 17)) none] [0, 4])
    (.seq (.reg [co (some 18) (.move (.tmp 0)) none,
        co (some 19) (.call { callee := (.value (.func 64)), args := #[(.tmp 18), (.const (.int .u8 44))], argTypes := #[91, 5] }) none,
        co (some 20) (.unOp .not 4 (.tmp 19)) none] [0, 4, 20])
    (.cond (.tmp 20)
      (.seq (.reg [co (some 21) (.move (.tmp 4)) none,
          co (some 2) (.assign (.tmp 21)) none,
          co (some 3) (.assign (.const (.bool true))) none] [2, 3])
      (.ret))
      (.skip)))))))
/-- (*cento/text.parser).numbers -/
def c_text_parser_numbers : CC :=
  .seq (.reg [co (some 2) (.assign (.const (.slice none 0 0))) none,
      co (some 3) (.assign (.const (.bool false))) none] [0])
  (.seq (.reg [co (some 4) (.assign (.const (.slice none 0 0))) none] [0, 4])
  (.block 0
    (.loop l1_text_parser_numbers)))
theorem t_text_parser_numbers : Txt Tryd.prog 79 22 [(.tmp 2), (.tmp 3)] c_text_parser_numbers := txt_of (code := Tryd.f79.body.getD .ret) mixed (by kernel_rfl) Tryd.func79 (by kernel_rfl) Tryd.ntmps79 (by kernel_rfl) (ls := [([0], []), ([], []), ([0, 4], []), ([], []), ([0, 4, 5, 6], []), ([], []), ([0, 4, 5, 13], []), ([], []), ([2, 3], []), ([], []), ([999999, 0, 4, 5], []), ([0, 4], [(3, [1])]), ([], []), ([0, 4, 20], []), ([], []), ([2, 3], []), ([], [])]) (by kernel_rfl)
def k1_text_parser_kids : CC :=
  .seq (.seq (.reg [co (some 33) (.move (.tmp 12)) none,
        co (some 34) (.unOp .not 4 (.tmp 33)) none] [0, 1, 2, 3, 10, 11, 34])
    (.cond (.tmp 34)
      (.seq (.reg [co (some 8) (.assign (.const (.slice none 0 0))) none,
          co (some 9) (.assign (.const (.bool false))) none] [8, 9])
      (.ret))
      (.skip)))
  (.keep [0, 1, 2, 3, 10, 11] (.seq (.reg [co (some 35) (.move (.tmp 10)) none,
      co (some 36) (.load 25 (.tmp 11)) none,
      co (some 37) (.buildSlice 23 1 #[(0, (.tmp 36))]) none,
      cn (some 38) (.call { callee := (.builtin .append), args := #[(.tmp 35), (.tmp 37)], argTypes := #[23, 23] }) none [2],
      co (some 10) (.assign (.tmp 38)) none] [0, 1, 2, 3, 10])
  (.block 2
    (.seq (.reg [co (some 40) (.move (.tmp 0)) none,
        co (some 41) (.move (.tmp 2)) none,
        co (some 42) (.call { callee := (.value (.func 64)), args := #[(.tmp 40), (.tmp 41)], argTypes := #[91, 5] }) none,
        co (some 39) (.assign (.tmp 42)) none] [0, 1, 2, 3, 10, 39])
    (.cond (.tmp 39)
      (.seq (.reg [co (some 43) (.move (.tmp 10)) none,
          co (some 8) (.assign (.tmp 43)) none,
          co (some 9) (.assign (.const (.bool true))) none] [8, 9])
      (.ret))
      (.seq (.reg [co (some 45) (.move (.tmp 0)) none,
          co (some 46) (.call { callee := (.value (.func 64)), args := #[(.tmp 45), (.const (.int .u8 44))], argTypes := #[91, 5] }) none,
          co (some 47) (.unOp .not 4 (.tmp 46)) none,
          co (some 44) (.assign (.tmp 47)) none] [0, 1, 2, 3, 10, 44])
      (.cond (.tmp 44)
        (.seq (.reg [co (some 8) (.assign (.const (.slice none 0 0))) none,
            co (some 9) (.assign (.const (.bool false))) none] [8, 9])
        (.ret))
        (.skip))))))))
def l1_text_parser_kids : CC :=
  .block 1
    (.seq (.reg [cn (some 11) (.alloc 25) none [1]] [0, 1, 2, 3, 10, 11])
    (.seq (.reg [co (some 12) (.assign (.const (.bool false))) none] [0, 1, 2, 3, 10, 11])
    (.seq (.seq (.reg [co (some 17) (.move (.tmp 1)) none,
          co (some 18) (.call { callee := (.value (.func 73)), args := #[(.tmp 17)], argTypes := #[3] }) none] [0, 1, 2, 3, 10, 11, 18])
      (.cond (.tmp 18)
        (.seq (.reg [co (some 13) (.assign (.const (.int .u64 0))) none] [0, 1, 2, 3, 10, 11])
        (.seq (.reg [co (some 20) (.move (.tmp 0)) none,
            co (some 21) (.call { callee := (.value (.func 80)), args := #[(.tmp 20)], argTypes := #[91] }) none,
            co (some 19) (.move (.tmp 21)) none,
            co (some 22) (.extract (.tmp 19) 0) none,
            co (some 23) (.extract (.tmp 19) 1) none,
            co (some 13) (.assign (.tmp 22)) none,
            co (some 12) (.assign (.tmp 23)) none] [0, 1, 2, 3, 10, 11, 12, 13])
        (.reg [co (some 24) (.move (.tmp 13)) none,
          co (some 25) (.buildSlice 22 1 #[(0, (.tmp 24))]) none,
          co (some 26) (.build 25 #[(0, (.const (.int .i64 10))), (1, (.tmp 25))]) none,
          co none (.store 25 (.tmp 11) (.tmp 26)) none] [0, 1, 2, 3, 10, 11, 12])))
        (.reg [co (some 28) (.move (.tmp 0)) none,
          co (some 29) (.move (.tmp 3)) none,
          co (some 30) (.call { callee := (.value (.func 49)), args := #[(.tmp 28), (.tmp 29)], argTypes := #[91, 3] }) none,
          co (some 27) (.move (.tmp 30)) none,
          co (some 31) (.extract (.tmp 27) 0) none,
          co (some 32) (.extract (.tmp 27) 1) none,
          co none (.store 25 (.tmp 11) (.tmp 31)) none,
          co (some 12) (.assign (.tmp 32)) none] [0, 1, 2, 3, 10, 11, 12])))
    (.keep [0, 1, 2, 3, 10, 11, 12] k1_text_parser_kids))))
/-- (*cento/text.parser).kids -/
def c_text_parser_kids : CC :=
  .seq (.reg [co (some 8) (.assign (.const (.slice none 0 0))) none,
      co (some 9) (.assign (.const (.bool false))) none] [0, 1, 2, 3])
  (.seq (.reg [co (some 10) (.assign (.const (.slice none 0 0))) none] [0, 1, 2, 3, 10])
  (.seq (.seq (.reg [co (some 14) (.move (.tmp 0)) none,
        co (some 15) (.move (.tmp 2)) none,
        co (some 16) (.call { callee := (.value (.func 64)), args := #[(.tmp 14), (.tmp 15)], argTypes := #[91, 5] }) none] [0, 1, 2, 3, 10, 16])
    (.cond (.tmp 16)
      (.seq (.reg [co (some 8) (.assign (.const (.slice none 0 0))) none,
          co (some 9) (.assign (.const (.bool true))) none] [8, 9])
      (.ret))
      (.skip)))
  (.keep [0, 1, 2, 3, 10] (.block 0
    (.loop l1_text_parser_kids)))))
theorem t_text_parser_kids : Txt Tryd.prog 67 48 [(.tmp 8), (.tmp 9)] c_text_parser_kids := txt_of (code := Tryd.f67.body.getD .ret) mixed (by kernel_rfl) Tryd.func67 (by kernel_rfl) Tryd.ntmps67 (by kernel_rfl) (ls := [([0, 1, 2, 3], []), ([], []), ([0, 1, 2, 3, 10], []), ([], []), ([0, 1, 2, 3, 10, 16], []), ([], []), ([8, 9], []), ([], []), ([999999, 0, 1, 2, 3, 10], []), ([0, 1, 2, 3, 10, 11], [(0, [1])]), ([], []), ([0, 1, 2, 3, 10, 11], []), ([], []), ([0, 1, 2, 3, 10, 11, 18], []), ([], []), ([0, 1, 2, 3, 10, 11], []), ([], []), ([0, 1, 2, 3, 10, 11, 12, 13], []), ([], []), ([0, 1, 2, 3, 10, 11, 12], []), ([0, 1, 2, 3, 10, 11, 12], []), ([999999, 0, 1, 2, 3, 10, 11, 12], []), ([0, 1, 2, 3, 10, 11, 34], []), ([], []), ([8, 9], []), ([], []), ([999999, 0, 1, 2, 3, 10, 11], []), ([0, 1, 2, 3, 10], [(3, [2])]), ([], []), ([0, 1, 2, 3, 10, 39], []), ([], []), ([8, 9], []), ([], []), ([0, 1, 2, 3, 10, 44], []), ([], []), ([8, 9], []), ([], [])]) (by kernel_rfl)
def k1_text_parser_structure : CC :=
  .seq (.seq (.reg [co (some 24) (.move (.tmp 0)) none,
        co (some 25) (.call { callee := (.value (.func 64)), args := #[(.tmp 24), (.const (.int .u8 125))], argTypes := #[91, 5] }) none] [0, 1, 4, 6, 25])
    (.cond (.tmp 25)
      (.seq (.reg [co (some 26) (.load 25 (.tmp 6)) none,
          co none (.store 25 (.tmp 4) (.tmp 26)) none,
          co (some 5) (.assign (.const (.bool true))) none] [4, 5])
      (.ret))
      (.skip)))
  (.keep [0, 1, 4, 6] (.seq (.seq (.reg [co (some 27) (.move (.tmp 0)) none,
        co (some 28) (.call { callee := (.value (.func 64)), args := #[(.tmp 27), (.const (.int .u8 124))], argTypes := #[91, 5] }) none,
        co (some 29) (.unOp .not 4 (.tmp 28)) none,
        co (some 30) (.move (.tmp 29)) none,
        co (some 31) (.move (.tmp 0)) (some (30, false)),
        co (some 32) (.call { callee := (.value (.func 66)), args := #[(.tmp 31)], argTypes := #[91] }) (some (30, false)),
        co (some 33) (.binOp .eql 5 (.tmp 32) (.const (.int .u8 125)) 5) (some (30, false)),
        co (some 34) (.pick (.tmp 30) (.const (.bool true)) (.tmp 33)) none] [0, 1, 4, 6, 34])
    (.cond (.tmp 34)
      (.seq (.reg [co (some 35) (.load 25 (.tmp 6)) none,
          co none (.store 25 (.tmp 4) (.tmp 35)) none,
          co (some 5) (.assign (.const (.bool false))) none] [4, 5])
      (.ret))
      (.skip)))
  (.keep [0, 1, 4, 6] (.seq (.reg [co (some 37) (.move (.tmp 0)) none,
      co (some 38) (.move (.tmp 1)) none,
      co (some 39) (.binOp .sub 3 (.tmp 38) (.const (.int .i64 1)) 3) none,
      co (some 40) (.call { callee := (.value (.func 67)), args := #[(.tmp 37), (.const (.int .i64 1)), (.const (.int .u8 125)), (.tmp 39)], argTypes := #[91, 3, 5, 3] }) none,
      co (some 36) (.move (.tmp 40)) none,
      co (some 41) (.extract (.tmp 36) 0) none,
      co (some 42) (.extract (.tmp 36) 1) none,
      co (some 43) (.fieldAddr 25 (.tmp 6) 2) none,
      co none (.store 23 (.tmp 43) (.tmp 41)) none,
      co (some 7) (.assign (.tmp 42)) none] [4, 6, 7])
  (.seq (.reg [co (some 44) (.load 25 (.tmp 6)) none,
      co (some 45) (.move (.tmp 7)) none,
      co none (.store 25 (.tmp 4) (.tmp 44)) none,
      co (some 5) (.assign (.tmp 45)) none] [4, 5])
  (.ret))))))
/-- (*cento/text.parser).structure -/
def c_text_parser_structure : CC :=
  .seq (.reg [cn (some 4) (.alloc 25) none [1],
      co (some 5) (.assign (.const (.bool false))) none] [0, 1, 4])
  (.seq (.reg [co (some 8) (.build 25 #[(0, (.const (.int .i64 1)))]) none,
      cn (some 6) (.alloc 25) none [2],
      co none (.store 25 (.tmp 6) (.tmp 8)) none] [0, 1, 4, 6])
  (.seq (.seq (.reg [co (some 9) (.move (.tmp 0)) none,
        co (some 10) (.call { callee := (.value (.func 64)), args := #[(.tmp 9), (.const (.int .u8 125))], argTypes := #[91, 5] }) none] [0, 1, 4, 6, 10])
    (.cond (.tmp 10)
      (.seq (.reg [co (some 11) (.load 25 (.tmp 6)) none,
          co none (.store 25 (.tmp 4) (.tmp 11)) none,
          co (some 5) (.assign (.const (.bool true))) none] [4, 5])
      (.ret))
      (.skip)))
  (.keep [0, 1, 4, 6] (.seq (.reg [co (some 7) (.assign (.const (.bool true))) none] [0, 1, 4, 6])
  (.seq (.seq (.reg [co (some 12) (.move (.tmp 0)) none,
        co (some 13) (.call { callee := (.value (.func 66)), args := #[(.tmp 12)], argTypes := #[91] }) none,
        co (some 14) (.binOp .neq 5 (.tmp 13) (.const (.int .u8 124)) 5) none] [0, 1, 4, 6, 14])
    (.cond (.tmp 14)
      (.seq (.reg [co (some 16) (.move (.tmp 0)) none,
          co (some 17) (.call { callee := (.value (.func 79)), args := #[(.tmp 16)], argTypes := #[91] }) none,
          co (some 15) (.move (.tmp 17)) none,
          co (some 18) (.extract (.tmp 15) 0) none,
          co (some 19) (.extract (.tmp 15) 1) none,
          co (some 20) (.fieldAddr 25 (.tmp 6) 1) none,
          co none (.store 22 (.tmp 20) (.tmp 18)) none,
          co (some 7) (.assign (.tmp 19)) none] [0, 1, 4, 6, 7])
      (.seq (.reg [co (some 21) (.move (.tmp 7)) none,
          co (some 22) (.unOp .not 4 (.tmp 21)) none] [0, 1, 4, 6, 22])
      (.cond (.tmp 22)
        (.seq (.reg [co (some 23) (.load 25 (.tmp 6)) none,
            co none (.store 25 (.tmp 4) (.tmp 23)) none,
            co (some 5) (.assign (.const (.bool false))) none] [4, 5])
        (.ret))
        (.skip))))
      (.skip)))
  (.keep [0, 1, 4, 6] k1_text_parser_structure))))))
theorem t_text_parser_structure : Txt Tryd.prog 65 46 [(.cell 4 25), (.tmp 5)] c_text_parser_structure := txt_of (code := Tryd.f65.body.getD .ret) mixed (by kernel_rfl) Tryd.func65 (by kernel_rfl) Tryd.ntmps65 (by kernel_rfl) (ls := [([0, 1, 4], [(0, [1])]), ([], []), ([0, 1, 4, 6], [(1, [2])]), ([], []), ([0, 1, 4, 6, 10], []), ([], []), ([4, 5], []), ([], []), ([999999, 0, 1, 4, 6], []), ([0, 1, 4, 6], []), ([], []), ([0, 1, 4, 6, 14], []), ([], []), ([0, 1, 4, 6, 7], []), ([], []), ([0, 1, 4, 6, 22], []), ([], []), ([4, 5], []), ([], []), ([999999, 0, 1, 4, 6], []), ([0, 1, 4, 6, 25], []), ([], []), ([4, 5], []), ([], []), ([999999, 0, 1, 4, 6], []), ([0, 1, 4, 6, 34], []), ([], []), ([4, 5], []), ([], []), ([999999, 0, 1, 4, 6], []), ([4, 6, 7], []), ([], []), ([4, 5], []), ([], [])]) (by kernel_rfl)
/-- (*cento/text.parser).tree -/
def c_text_parser_tree : CC :=
  .seq (.reg [cn (some 4) (.alloc 25) none [1],
      co (some 5) (.assign (.const (.bool false))) none] [0, 1, 4])
  (.seq (.seq (.reg [co (some 9) (.move (.tmp 0)) none,
        co (some 10) (.call { callee := (.value (.func 64)), args := #[(.tmp 9), (.const (.int .u8 95))], argTypes := #[91, 5] }) none] [0, 1, 4, 10])
    (.cond (.tmp 10)
      (.seq (.reg [co (some 11) (.build 25 #[]) none,
          co none (.store 25 (.tmp 4) (.tmp 11)) none,
          co (some 5) (.assign (.const (.bool true))) none] [4, 5])
      (.ret))
      (.skip)))
  (.keep [0, 1, 4] (.seq (.seq (.reg [co (some 12) (.move (.tmp 1)) none,
        co (some 13) (.binOp .eql 3 (.tmp 12) (.const (.int .i64 0)) 3) none] [0, 1, 4, 13])
    (.cond (.tmp 13)
      (.seq (.reg [co (some 14) (.build 25 #[]) none,
          co none (.store 25 (.tmp 4) (.tmp 14)) none,
          co (some 5) (.assign (.const (.bool false))) none] [4, 5])
      (.ret))
      (.skip)))
  (.keep [0, 1, 4] (.seq (.seq (.reg [co (some 15) (.move (.tmp 0)) none,
        co (some 16) (.call { callee := (.value (.func 64)), args := #[(.tmp 15), (.const (.int .u8 123))], argTypes := #[91, 5] }) none] [0, 1, 4, 16])
    (.cond (.tmp 16)
      (.seq (.reg [co (some 17) (.move (.tmp 0)) none,
          co (some 18) (.move (.tmp 1)) none,
          co (some 19) (.call { callee := (.value (.func 65)), args := #[(.tmp 17), (.tmp 18)], argTypes := #[91, 3] }) none,
          co (some 20) (.extract (.tmp 19) 0) none,
          co (some 21) (.extract (.tmp 19) 1) none,
          co none (.store 25 (.tmp 4) (.tmp 20)) none,
          co (some 5) (.assign (.tmp 21)) none] [4, 5])
      (.ret))
      (.skip)))
  (.keep [0, 1, 4] (.seq (.reg [co (some 22) (.move (.tmp 0)) none,
      co (some 23) (.call { callee := (.value (.func 66)), args := #[(.tmp 22)], argTypes := #[91] }) none,
      co (some 24) (.call { callee := (.value (.func 50)), args := #[(.const (.string { data := #[46, 46, 118, 98, 121, 116, 102, 101, 112, 99] })), (.tmp 23)], argTypes := #[9, 5] }) none,
      co (some 6) (.assign (.tmp 24)) none] [0, 1, 4, 6])
  (.seq (.seq (.reg [co (some 25) (.move (.tmp 6)) none,
        co (some 26) (.binOp .lss 3 (.tmp 25) (.const (.int .i64 2)) 3) none,
        co (some 27) (.move (.tmp 26)) none,
        co (some 28) (.move (.tmp 0)) (some (27, false)),
        co (some 29) (.call { callee := (.value (.func 66)), args := #[(.tmp 28)], argTypes := #[91] }) (some (27, false)),
        co (some 30) (.binOp .eql 5 (.tmp 29) (.const (.int .u8 46)) 5) (some (27, false)),
        co (some 31) (.pick (.tmp 27) (.const (.bool true)) (.tmp 30)) none] [0, 1, 4, 6, 31])
    (.cond (.tmp 31)
      (.seq (.reg [co (some 32) (.build 25 #[]) none,
          co none (.store 25 (.tmp 4) (.tmp 32)) none,
          co (some 5) (.assign (.const (.bool false))) none] [4, 5])
      (.ret))
      (.skip)))
  (.keep [0, 1, 4, 6] (.seq (.reg [co (some 33) (.move (.tmp 0)) none,
      co (some 34) (.nilCheck (.tmp 33)) none,
      co (some 35) (.fieldAddr 93 (.tmp 34) 1) none,
      co (some 36) (.load 3 (.tmp 35)) none,
      co (some 37) (.binOp .add 3 (.tmp 36) (.const (.int .i64 1)) 3) none,
      co (some 38) (.nilCheck (.tmp 33)) none,
      co (some 39) (.fieldAddr 93 (.tmp 38) 1) none,
      co none (.store 3 (.tmp 39) (.tmp 37)) none] [0, 1, 4, 6])
  (.seq (.seq (.reg [co (some 40) (.move (.tmp 0)) none,
        co (some 41) (.call { callee := (.value (.func 64)), args := #[(.tmp 40), (.const (.int .u8 91))], argTypes := #[91, 5] }) none,
        co (some 42) (.unOp .not 4 (.tmp 41)) none] [0, 1, 4, 6, 42])
    (.cond (.tmp 42)
      (.seq (.reg [co (some 43) (.build 25 #[]) none,
          co none (.store 25 (.tmp 4) (.tmp 43)) none,
          co (some 5) (.assign (.const (.bool false))) none] [4, 5])
      (.ret))
      (.skip)))
  (.keep [0, 1, 4, 6] (.seq (.reg [co (some 45) (.move (.tmp 0)) none,
      co (some 46) (.move (.tmp 6)) none,
      co (some 47) (.move (.tmp 1)) none,
      co (some 48) (.binOp .sub 3 (.tmp 47) (.const (.int .i64 1)) 3) none,
      co (some 49) (.call { callee := (.value (.func 67)), args := #[(.tmp 45), (.tmp 46), (.const (.int .u8 93)), (.tmp 48)], argTypes := #[91, 3, 5, 3] }) none,
      co (some 44) (.move (.tmp 49)) none,
      co (some 50) (.extract (.tmp 44) 0) none,
      co (some 51) (.extract (.tmp 44) 1) none,
      co (some 7) (.assign (.tmp 50)) none,
      co (some 8) (.assign (.tmp 51)) none] [4, 6, 7, 8])
  (.seq (.reg [co (some 52) (.move (.tmp 6)) none,
      co (some 53) (.move (.tmp 7)) none,
      co (some 54) (.build 25 #[(0, (.tmp 52)), (2, (.tmp 53))]) none,
      co (some 55) (.move (.tmp 8)) none,
      co none (.store 25 (.tmp 4) (.tmp 54)) none,
      co (some 5) (.assign (.tmp 55)) none] [4, 5])
  (.ret)))))))))))))))
theorem t_text_parser_tree : Txt Tryd.prog 49 56 [(.cell 4 25), (.tmp 5)] c_text_parser_tree := txt_of (code := Tryd.f49.body.getD .ret) mixed (by kernel_rfl) Tryd.func49 (by kernel_rfl) Tryd.ntmps49 (by kernel_rfl) (ls := [([0, 1, 4], [(0, [1])]), ([], []), ([0, 1, 4, 10], []), ([], []), ([4, 5], []), ([], []), ([999999, 0, 1, 4], []), ([0, 1, 4, 13], []), ([], []), ([4, 5], []), ([], []), ([999999, 0, 1, 4], []), ([0, 1, 4, 16], []), ([], []), ([4, 5], []), ([], []), ([999999, 0, 1, 4], []), ([0, 1, 4, 6], []), ([], []), ([0, 1, 4, 6, 31], []), ([], []), ([4, 5], []), ([], []), ([999999, 0, 1, 4, 6], []), ([0, 1, 4, 6], []), ([], []), ([0, 1, 4, 6, 42], []), ([], []), ([4, 5], []), ([], []), ([999999, 0, 1, 4, 6], []), ([4, 6, 7, 8], []), ([], []), ([4, 5], []), ([], [])]) (by kernel_rfl)
/-- cento/text.Parse -/
def c_text_Parse : CC :=
  .seq (.reg [cn (some 2) (.alloc 25) none [0],
      co (some 3) (.assign (.const (.int .i64 0))) none] [0, 2])
  (.seq (.reg [co (some 7) (.move (.tmp 0)) none,
      co (some 8) (.build 93 #[(0, (.tmp 7))]) none,
      cn (some 9) (.box 93 (.tmp 8)) none [1],
      co (some 4) (.assign (.tmp 9)) none] [0, 2, 4])
  (.seq (.reg [co (some 11) (.move (.tmp 4)) none,
      co (some 12) (.call { callee := (.value (.func 49)), args := #[(.tmp 11), (.const (.int .i64 64))], argTypes := #[91, 3] }) none,
      co (some 10) (.move (.tmp 12)) none,
      co (some 13) (.extract (.tmp 10) 0) none,
      co (some 14) (.extract (.tmp 10) 1) none,
      cn (some 5) (.alloc 25) none [2],
      co none (.store 25 (.tmp 5) (.tmp 13)) none,
      co (some 6) (.assign (.tmp 14)) none] [0, 2, 4, 5, 6])
  (.seq (.seq (.reg [co (some 15) (.move (.tmp 6)) none,
        co (some 16) (.unOp .not 4 (.tmp 15)) none,
        co (some 17) (.move (.tmp 16)) none,
        co (some 18) (.move (.tmp 4)) (some (17, false)),
        co (some 19) (.nilCheck (.tmp 18)) (some (17, false)),
        co (some 20) (.fieldAddr 93 (.tmp 19) 1) (some (17, false)),
        co (some 21) (.load 3 (.tmp 20)) (some (17, false)),
        co (some 22) (.move (.tmp 0)) (some (17, false)),
        co (some 23) (.call { callee := (.builtin .len), args := #[(.tmp 22)], argTypes := #[9] }) (some (17, false)),
        co (some 24) (.binOp .lss 3 (.tmp 21) (.tmp 23) 3) (some (17, false)),
        co (some 25) (.pick (.tmp 17) (.const (.bool true)) (.tmp 24)) none,
        co (some 26) (.move (.tmp 25)) none,
        co (some 27) (.load 25 (.tmp 5)) (some (26, false)),
        co (some 28) (.call { callee := (.value (.func 40)), args := #[(.tmp 27)], argTypes := #[25] }) (some (26, false)),
        co (some 29) (.unOp .not 4 (.tmp 28)) (some (26, false)),
        co (some 30) (.pick (.tmp 26) (.const (.bool true)) (.tmp 29)) none] [2, 5, 30])
    (.cond (.tmp 30)
      (.seq (.reg [co (some 31) (.build 25 #[]) none,
          co none (.store 25 (.tmp 2) (.tmp 31)) none,
          co (some 3) (.assign (.const (.int .i64 11))) none] [2, 3])
      (.ret))
      (.skip)))
  (.keep [2, 5] (.seq (.reg [co (some 32) (.load 25 (.tmp 5)) none,
      co none (.store 25 (.tmp 2) (.tmp 32)) none,
      co (some 3) (.assign (.const (.int .i64 0))) none] [2, 3])
  (.ret))))))
theorem t_text_Parse : Txt Tryd.prog 34 33 [(.cell 2 25), (.tmp 3)] c_text_Parse := txt_of (code := Tryd.f34.body.getD .ret) mixed (by kernel_rfl) Tryd.func34 (by kernel_rfl) Tryd.ntmps34 (by kernel_rfl) (ls := [([0, 2], [(0, [0])]), ([], []), ([0, 2, 4], [(2, [1])]), ([], []), ([0, 2, 4, 5, 6], [(5, [2])]), ([], []), ([2, 5, 30], []), ([], []), ([2, 3], []), ([], []), ([999999, 2, 5], []), ([2, 3], []), ([], [])]) (by kernel_rfl)
end Go.Proofs.YtebihdhapepejaaDoor

/-
  Functions of Go's library that the texts' printer and reader call: met by the model's own run, as contracts.
-/
namespace Go.Proofs.YtebihdhapepejaaDoor
set_option linter.unusedVariables false
set_option linter.unusedSimpArgs false
open Go Go.G Go.Proofs Go.RowKit Go.PL
/-- A function that turns nothing, met by the model's own run. -/
theorem spec_run {P : Program} {f : FuncId} {r : Value} (hk : okFn P f = true) (l : List Value) (h : ∀ (w : World) (I : Nat → Prop), Tabs P w I → Calls P f l.toArray w fun e w' => e = .returned r ∧ w' = w) : G.Spec P f (l.map A.v) (.v r) := by
  refine ⟨hk, fun w I vs hI ht hl hr => ?_⟩
  have e : vs = l.toArray := by
    apply Array.ext
    · simpa using hl
    · intro i h1 h2
      have h3 : i < l.length := by simpa using h2
      have := hr i (A.v l[i]) (by simp [h3])
      generalize hq : vs.getD i undef = x at this
      cases this
      have : vs.getD i undef = vs[i] := by simp [h1]
      rw [this] at hq
      simpa using hq
  subst e
  refine (h w I ht).mono fun e w' ⟨h1, h2⟩ => ⟨r, h1, ?_, ?_⟩
  · subst h2
    exact ⟨rfl, rfl, rfl, Nat.le_refl _, fun _ _ => rfl⟩
  · exact .v _ _
theorem idx_lib (l : List UInt8) (c : UInt8) : Lib.indexByte l c = idxB l c := by
  induction l with
  | nil => rfl
  | cons b l ih => simp [Lib.indexByte, idxB, ih]
set_option maxHeartbeats 1000000 in
set_option maxRecDepth 100000 in
theorem indexByte_run (l : List UInt8) (c : UInt8) (w : World) : Calls Tryd.prog 50 #[.string ⟨l.toArray⟩, .int .u8 c.toNat] w fun e w' => e = .returned (.int .i64 (idxB l c)) ∧ w' = w := by
  have h : (Extern.BytealgIndexByte.indexByte #[.string ⟨l.toArray⟩, .int .u8 c.toNat]).run Tryd.prog w = .ok (.int .i64 (idxB l c)) w := by
    rw [Lib.run_indexByteString, idx_lib]
    simp
  go_enter Tryd.func50, Tryd.ntmps50
  go_wp2
  rw [run_callFunc_extern Tryd.func81 (by kernel_rfl) (by kernel_rfl) (by kernel_rfl) (e := Extern.BytealgIndexByte.indexByte) (by kernel_rfl)]
  rw [h]
  simp only [Result.andThen]
  rw [Oper.upon_value]
  go_wp2
  go_ret
  exact ⟨rfl, rfl⟩
theorem idx_spec (l : List UInt8) (c : UInt8) : G.Spec Tryd.prog 50 [S l, u8v c] (.v (.int .i64 (idxB l c))) :=
  spec_run (by kernel_rfl) [.string ⟨l.toArray⟩, .int .u8 c.toNat] fun w I _ => indexByte_run l c w
set_option maxHeartbeats 1000000 in
set_option maxRecDepth 100000 in
theorem tz_run (w : World) (I : Nat → Prop) (ht : Tabs Tryd.prog w I) : Calls Tryd.prog 78 #[.int .u64 16] w fun e w' => e = .returned (.int .i64 4) ∧ w' = w := by
  have h0 : gtab Tryd.prog 5 = some (.u8, tab64) := by kernel_rfl
  have h1 := (ht.tab 5 _ h0).2 15 4 (by decide)
  have e : IntKind.u64.wrap (bits BinOp.and IntKind.u64 16 (IntKind.u64.wrap (-16)) * 285870213051353865) / 288230376151711744 = 15 := by decide
  have hb : 0 ≤ IntKind.u64.wrap (bits BinOp.and IntKind.u64 16 (IntKind.u64.wrap (-16)) * 285870213051353865) / 288230376151711744 ∧ IntKind.u64.wrap (bits BinOp.and IntKind.u64 16 (IntKind.u64.wrap (-16)) * 285870213051353865) / 288230376151711744 < 64 := by rw [e]; decide
  have hc : w.cell? ⟨5, (IntKind.u64.wrap (bits BinOp.and IntKind.u64 16 (IntKind.u64.wrap (-16)) * 285870213051353865) / 288230376151711744).toNat, none⟩ = some (.int .u8 4) := by rw [e]; exact h1
  clear e
  go_enter Tryd.func78, Tryd.ntmps78
  go_wp2
  go_ret
  exact ⟨rfl, rfl⟩
set_option maxHeartbeats 1000000 in
set_option maxRecDepth 100000 in
theorem copyCheck_used (b : Nat) (w : World) (h0 : w.cell? ⟨b, 0, none⟩ = some (.pointer (some ⟨b, 0, none⟩))) :
    Calls Tryd.prog 46 #[.pointer (some ⟨b, 0, none⟩)] w fun e w' => e = .returned (.tuple #[]) ∧ w' = w := by
  obtain ⟨j, hj, hjs⟩ := Option.map_eq_some_iff.1 (show szT Tryd.prog 69 = some 2 by kernel_rfl)
  go_enter Tryd.func46, Tryd.ntmps46
  go_wp2
  rw [Lib.run_neq_ptr_same w _ Tryd.underlying66 hj]
  go_wp2
  go_end0
  exact ⟨rfl, rfl⟩
set_option maxHeartbeats 1000000 in
set_option maxRecDepth 100000 in
theorem copyCheck_fresh (b : Nat) (w : World) (h0 : w.cell? ⟨b, 0, none⟩ = some (.pointer none)) (hsh : w.shape? b = some (69, 2)) (hfz : w.frozen? ⟨b, 0, none⟩ = false) :
    Calls Tryd.prog 46 #[.pointer (some ⟨b, 0, none⟩)] w fun e w' => e = .returned (.tuple #[]) ∧ w' = w.setCell ⟨b, 0, none⟩ (.pointer (some ⟨b, 0, none⟩)) := by
  obtain ⟨j, hj, hjs⟩ := Option.map_eq_some_iff.1 (show szT Tryd.prog 69 = some 2 by kernel_rfl)
  go_enter Tryd.func46, Tryd.ntmps46
  go_wp2
  rw [Lib.run_to_unsafe w ⟨b, 0, none⟩ Tryd.underlying66 Tryd.underlying104 hj (by rw [hjs]; decide) hsh (Nat.zero_lt_succ 1)]
  simp only [Result.andThen]
  rw [Oper.upon_value]
  go_wp2
  rw [run_callFunc_extern Tryd.func58 (by kernel_rfl) (by kernel_rfl) (by kernel_rfl) (e := Extern.AbiNoEscape.same) (by kernel_rfl)]
  rw [Lib.run_noEscape]
  simp only [Result.andThen]
  rw [Oper.upon_value]
  go_wp2
  rw [Lib.run_from_unsafe w ⟨b, 0, none⟩ Tryd.underlying104 Tryd.underlying66 hj hsh (by kernel_rfl)]
  simp only [Result.andThen]
  rw [Oper.upon_value]
  go_wp2
  go_end0
  exact ⟨rfl, rfl⟩
set_option maxHeartbeats 1000000 in
set_option maxRecDepth 100000 in
theorem string_run (b g : Nat) (l : List UInt8) (cap : Nat) (w : World) (h0 : l ≠ []) (hb1 : w.cell? ⟨b, 1, none⟩ = some (.slice (some ⟨g, 0, none⟩) l.length cap)) (cells : Nat) (hsh : w.shape? g = some (5, cells)) (hn : l.length ≤ cells) (hc : l.length ≤ cap) (hcm : l.length ≤ 9223372036854775807)
    (hcell : ∀ j x, l[j]? = some x → w.cell? ⟨g, j, none⟩ = some (.int .u8 x.toNat)) :
    Calls Tryd.prog 29 #[.pointer (some ⟨b, 0, none⟩)] w fun e w' => e = .returned (.string ⟨l.toArray⟩) ∧ w' = w.drew.freeze ⟨g, 0, none⟩ l.length := by
  have hl0 : l.length ≠ 0 := by simpa using h0
  have c1 : w.drew.cell? ⟨b, 1, none⟩ = some (.slice (some ⟨g, 0, none⟩) l.length cap) := hb1
  have hSD : (Builtin.unsafeSliceData_ #[67] 90 #[.slice (some ⟨g, 0, none⟩) l.length cap]).run Tryd.prog w.drew = .ok (.pointer (some ⟨g, 0, none⟩)) w.drew :=
    Lib.run_unsafeSliceData_row _ _ _ _ _ _ (by omega)
  have hUS : (Builtin.unsafeString_ #[90, 3] 9 #[.pointer (some ⟨g, 0, none⟩), .int .i64 l.length]).run Tryd.prog w.drew = .ok (.string ⟨l.toArray⟩) (w.drew.freeze ⟨g, 0, none⟩ l.length) :=
    Lib.run_unsafeString_row w.drew 90 3 9 5 Tryd.underlying90 (by kernel_rfl) g cells hsh l h0 hn (by omega) (fun j x hx => by rw [Addr.add_lit, Nat.zero_add]; exact hcell j x hx)
  go_enter Tryd.func29, Tryd.ntmps29
  go_wp2
  go_region
  all_goals (go_wp2; go_ret; exact ⟨rfl, rfl⟩)
theorem tz_spec : G.Spec Tryd.prog 78 [.v (.int .u64 16)] (.v (.int .i64 4)) :=
  spec_run (by kernel_rfl) [.int .u64 16] fun w I ht => tz_run w I ht
end Go.Proofs.YtebihdhapepejaaDoor

/-
  strings.Builder: a family of two objects; what its methods make of it.
-/
namespace Go.Proofs.YtebihdhapepejaaDoor
set_option linter.unusedVariables false
set_option linter.unusedSimpArgs false
open Go Go.G Go.Proofs Go.RowKit Go.PL
/-- A builder: has it been written; its bytes; its row's version. -/
def bdF (a : Bool) (l : List UInt8) (v : Nat) : Fam := ⟨fun r p => if p = [777777, 69] then ⟨1, .cells [if a = true then .pob (r :: [777777, 69]) 1 0 else .v (.pointer none), .osl (r :: [777777, 69, 777777, 5]) v 1 0 l.length]⟩
    else if p = [777777, 69, 777777, 5] then ⟨v, .arr 1 (l.map u8v)⟩ else ⟨0, .none⟩, fun {g δ r r'} hg hd p => by
    by_cases h1 : p = [777777, 69]
    · rw [if_pos h1, if_pos h1]
      refine Fam.cells_ren ?_
      cases a <;> simp [A.renL, A.ren, hg, hd]
    · rw [if_neg h1, if_neg h1]
      by_cases h2 : p = [777777, 69, 777777, 5]
      · rw [if_pos h2]
        refine Fam.arr_ren ?_
        simp [renL_map, A.ren, Function.comp_def]
      · rw [if_neg h2]; rfl, fun {D r} hD p => by
    by_cases h1 : p = [777777, 69]
    · rw [if_pos h1]
      cases a <;> simp [Ob.refs, A.refsL, A.refs, hD]
    · rw [if_neg h1]
      by_cases h2 : p = [777777, 69, 777777, 5]
      · rw [if_pos h2]
        simp [Ob.refs, refsL_iff, A.refs]
      · rw [if_neg h2]; trivial⟩
@[simp] theorem bdF_F {a : Bool} {l : List UInt8} {v r : Nat} {p : Nm} : (bdF a l v).F r p = if p = [777777, 69] then ⟨1, .cells [if a = true then .pob (r :: [777777, 69]) 1 0 else .v (.pointer none), .osl (r :: [777777, 69, 777777, 5]) v 1 0 l.length]⟩
    else if p = [777777, 69, 777777, 5] then ⟨v, .arr 1 (l.map u8v)⟩ else ⟨0, .none⟩ := rfl
abbrev bp (r : Nat) : A := .pob (r :: [777777, 69]) 1 0
theorem copyCheck_spec (a : Bool) (l : List UInt8) (v : Nat) : SpecF Tryd.prog 46 (fun r => [bp r]) (bdF a l v) (fun _ => .tup []) (bdF true l v) := by
  refine ⟨famL_cons famA_pob famL_nil, famA_tup famL_nil, by kernel_rfl, fun w I M0 n μ vs hM hs hl hr => ?_⟩
  have hd : (ov 0 ((bdF a l v).F 0) (lkH []) : Hp) [0, 777777, 69] = ⟨1, .cells [if a = true then .pob [0, 777777, 69] 1 0 else .v (.pointer none), .osl [0, 777777, 69, 777777, 5] v 1 0 l.length]⟩ := by simp
  have hob := hs.ob [0, 777777, 69]
  have hver := hs.ver [0, 777777, 69]
  have hB : hasB (μ [0, 777777, 69]) ((ov 0 ((bdF a l v).F 0) (lkH []) : Hp) [0, 777777, 69]).ob = true := by rw [hd]; rfl
  have htag := hs.tag _ hB
  rw [hd] at hob hver
  obtain ⟨cs, k1, k2, k3⟩ := hob
  simp only [List.length_cons, List.length_nil] at k2
  simp only [tagOK_tag, beq_iff_eq] at htag
  replace htag := htag.symm
  generalize hμ : μ [0, 777777, 69] = L at k1 k2 k3 hver htag hB
  have harg := hr 0 _ rfl
  obtain ⟨b, hb⟩ : ∃ b, b = L.b := ⟨_, rfl⟩
  have hv0 : vs.getD 0 undef = .pointer (some ⟨b, 0, none⟩) := by
    generalize vs.getD 0 undef = x at harg
    cases harg with
    | pob _ _ _ _ b' k' g1 g2 g3 =>
      have := g3 (by rw [hμ, hver])
      rw [hμ] at this
      obtain ⟨rfl, rfl⟩ := this
      rw [hb]
  have hvs : vs = #[.pointer (some ⟨b, 0, none⟩)] := by
    apply Array.ext
    · simpa using hl
    · intro i h1 h2
      have : i = 0 := by simp at h2; omega
      subst this
      have e : vs.getD 0 undef = vs[0] := by simp [h1]
      rw [← e, hv0]; rfl
  subst hvs
  obtain ⟨x0, x1, hcs⟩ : ∃ x0 x1, cs = #[x0, x1] := ⟨cs[0]'(by omega), cs[1]'(by omega), by
    apply Array.ext
    · simpa using k2
    · intro i h1 h2
      match i, h2 with
      | 0, _ => rfl
      | 1, _ => rfl⟩
  subst hcs
  have hx0 := (k3 0 _ rfl).2
  have hx1 := (k3 1 _ rfl).2
  simp only [show (#[x0, x1] : Array Value).getD 0 undef = x0 from rfl] at hx0
  simp only [show (#[x0, x1] : Array Value).getD 1 undef = x1 from rfl] at hx1
  rw [← hb, htag] at k1
  have c0 : w.cell? ⟨b, 0, none⟩ = some x0 := by rw [cell_of_row w b 0 _ _ _ k1]; rfl
  cases a with
  | true =>
    simp only [if_true] at hx0
    have e0 : x0 = .pointer (some ⟨b, 0, none⟩) := by
      cases hx0 with
      | pob _ _ _ _ b' k' g1 g2 g3 =>
        have := g3 (by rw [hμ, hver])
        rw [hμ] at this
        obtain ⟨rfl, rfl⟩ := this
        rw [hb]
    rw [e0] at c0
    refine (copyCheck_used b w c0).mono fun e w' ⟨h1, h2⟩ => ⟨_, h1, _, I, μ, by rw [h2]; exact hs, .tup _ _ _ rfl (fun k y hk => by simp at hk), fun i p hi => rfl⟩
  | false =>
    simp only [Bool.false_eq_true, if_false] at hx0
    have e0 : x0 = .pointer none := by cases hx0; rfl
    rw [e0] at c0
    refine (copyCheck_fresh b w c0 (by simp [World.shape?, k1]) (by simp [World.frozen?, k1])).mono fun e w' ⟨h1, h2⟩ => ?_
    rw [setCell_eq_setRow w b 0 _ _ _ _ k1] at h2
    subst h2
    obtain ⟨hx, hs'⟩ := hs.upd (grownBy_setRow w b (#[x0, x1].setIfInBounds 0 (.pointer (some ⟨b, 0, none⟩)))) [0, 777777, 69] (μ [0, 777777, 69]) (.cells [.pob [0, 777777, 69] 1 0, .osl [0, 777777, 69, 777777, 5] v 1 0 l.length])
      (.inr ⟨by rw [hμ, hb], by rw [hμ]; exact hB⟩) (.inr rfl) (fun _ => .inr ⟨by rw [hμ]; exact hB, rfl⟩) (fun _ => by rw [hμ]; simp [htag]) (fun hx => by
        rw [updM_self] at hx ⊢
        rw [hμ]
        refine ⟨#[.pointer (some ⟨b, 0, none⟩), x1], ?_, rfl, fun k y hk => ?_⟩
        · rw [← hb, htag]
          exact setRow_heap w b _ _ _ _ k1
        · match k, hk with
          | 0, hk =>
            cases hk
            exact ⟨rfl, .pob _ _ _ _ _ _ (Nat.le_refl _) (by rw [hμ, hver]; exact Nat.le_refl _) (fun _ => by rw [hμ, hb]; exact ⟨rfl, rfl⟩)⟩
          | 1, hk =>
            cases hk
            exact ⟨rfl, hx.rel hx1⟩)
    rw [updM_self, hμ, hver] at hs'
    refine ⟨_, h1, _, I, μ, hs', .tup _ _ _ rfl (fun k y hk => by simp at hk), fun i p hi => ?_⟩
    have : i = 0 := by omega
    subst this
    by_cases hp : p = [777777, 69]
    · subst hp; simp
    · rw [updF_ne (by simpa using hp)]
      simp [hp]
/-- Given up. -/
def bdX (v : Nat) : Fam := ⟨fun r p => if p = [777777, 69] then ⟨1, .none⟩ else if p = [777777, 69, 777777, 5] then ⟨v, .none⟩ else ⟨0, .none⟩, fun {g δ r r'} hg hd p => by
    by_cases h1 : p = [777777, 69]
    · rw [if_pos h1]; rfl
    · rw [if_neg h1]
      by_cases h2 : p = [777777, 69, 777777, 5]
      · rw [if_pos h2]; rfl
      · rw [if_neg h2]; rfl, fun {D r} hD p => by
    by_cases h1 : p = [777777, 69]
    · rw [if_pos h1]; trivial
    · rw [if_neg h1]
      by_cases h2 : p = [777777, 69, 777777, 5]
      · rw [if_pos h2]; trivial
      · rw [if_neg h2]; trivial⟩
theorem grownBy_freeze (w : World) (g n : Nat) : w.grownBy (w.drew.freeze ⟨g, 0, none⟩ n) (some g) := by
  unfold World.freeze
  split
  · exact ⟨rfl, rfl, rfl, Nat.le_refl _, fun _ _ _ => rfl⟩
  · refine ⟨rfl, rfl, rfl, ?_, fun k _ hk => ?_⟩
    · show w.heap.size ≤ (w.heap.modify g _).size
      rw [Array.size_modify]
      exact Nat.le_refl _
    · have : g ≠ k := fun e => hk (by rw [e])
      show (w.heap.modify g _)[k]? = w.heap[k]?
      rw [Array.getElem?_modify, if_neg this]
theorem bString_spec (l : List UInt8) (v : Nat) (h0 : l ≠ []) (hl63 : l.length ≤ 9223372036854775807) : SpecF Tryd.prog 29 (fun r => [bp r]) (bdF true l v) (fun _ => S l) (bdX v) := by
  refine ⟨famL_cons famA_pob famL_nil, famA_v, by kernel_rfl, fun w I M0 n μ vs hM hs hl hr => ?_⟩
  have hl0 : l.length ≠ 0 := by simpa using h0
  have hd : (ov 0 ((bdF true l v).F 0) (lkH []) : Hp) [0, 777777, 69] = ⟨1, .cells [.pob [0, 777777, 69] 1 0, .osl [0, 777777, 69, 777777, 5] v 1 0 l.length]⟩ := by simp
  have hd2 : (ov 0 ((bdF true l v).F 0) (lkH []) : Hp) [0, 777777, 69, 777777, 5] = ⟨v, .arr 1 (l.map u8v)⟩ := by simp
  have hob := hs.ob [0, 777777, 69]
  have hver := hs.ver [0, 777777, 69]
  rw [hd] at hob hver
  obtain ⟨cs, k1, k2, k3⟩ := hob
  have hob2 := hs.ob [0, 777777, 69, 777777, 5]
  have hver2 := hs.ver [0, 777777, 69, 777777, 5]
  rw [hd2] at hob2 hver2
  obtain ⟨q0, ⟨_, q1⟩ | ⟨q1, cur, q3, q4, q5, q6, q7⟩⟩ := hob2
  · exact (h0 (by simpa using q1)).elim
  have hB : hasB (μ [0, 777777, 69, 777777, 5]) ((ov 0 ((bdF true l v).F 0) (lkH []) : Hp) [0, 777777, 69, 777777, 5]).ob = true := by rw [hd2]; exact q1
  have htag := hs.tag _ hB
  simp only [tagOK_tag2, beq_iff_eq] at htag
  replace htag := htag.symm
  simp only [List.length_cons, List.length_nil] at k2
  have harg := hr 0 _ rfl
  have hv0 : vs.getD 0 undef = .pointer (some ⟨(μ [0, 777777, 69]).b, 0, none⟩) := by
    generalize vs.getD 0 undef = x at harg
    cases harg with
    | pob _ _ _ _ b' k' g1 g2 g3 =>
      obtain ⟨rfl, rfl⟩ := g3 hver.symm
      rfl
  generalize hb : (μ [0, 777777, 69]).b = b at k1 hv0
  have hvs : vs = #[.pointer (some ⟨b, 0, none⟩)] := by
    apply Array.ext
    · simpa using hl
    · intro i h1 h2
      have : i = 0 := by simp at h2; omega
      subst this
      have e : vs.getD 0 undef = vs[0] := by simp [h1]
      rw [← e, hv0]; rfl
  subst hvs
  have hx1 := (k3 1 _ rfl).2
  have hc1 : w.cell? ⟨b, 1, none⟩ = some (cs.getD 1 undef) := by
    rw [cell_of_row w b 1 _ _ _ k1]
    have : 1 < cs.size := by omega
    simp [this]
  generalize cs.getD 1 undef = x1 at hx1 hc1
  cases hx1 with
  | osl _ _ _ _ _ _ a cap g1 g2 g4 g5 g3 =>
    obtain ⟨_, ⟨e1, _⟩ | ⟨_, rfl, e3⟩⟩ := g3 hver2.symm
    · exact (hl0 e1).elim
    · simp only [Nat.zero_mul] at hc1
      have hflat : (l.map u8v).flatMap A.cells = l.map u8v := bytes_flat l
      have hcell : ∀ j x, l[j]? = some x → w.cell? ⟨(μ [0, 777777, 69, 777777, 5]).b, j, none⟩ = some (.int .u8 x.toNat) := fun j x hx => by
        have hlt := (List.getElem?_eq_some_iff.1 hx).1
        have h1 := (q7 j (u8v x) (by rw [hflat]; simp [hx])).2
        rw [cell_of_row w _ j _ _ _ q3]
        have hj : j < cur.size := by simp at q5; rw [q4]; omega
        have e : cur.getD j undef = cur[j] := by simp [hj]
        rw [e] at h1
        generalize hq : cur[j] = y at h1
        cases h1
        simp [hj, hq]
      have hsh : w.shape? (μ [0, 777777, 69, 777777, 5]).b = some (5, cur.size) := by simp [World.shape?, q3, htag]
      simp only [List.length_map] at q5
      refine (string_run b (μ [0, 777777, 69, 777777, 5]).b l cap w h0 hc1 cur.size hsh (by omega) g4 hl63 hcell).mono fun e w' ⟨h1, h2⟩ => ?_
      subst h2
      obtain ⟨hx, hs'⟩ := hs.upd (grownBy_freeze w (μ [0, 777777, 69, 777777, 5]).b l.length) [0, 777777, 69, 777777, 5] (μ [0, 777777, 69, 777777, 5]) .none (.inr ⟨rfl, hB⟩) (.inr rfl) (fun h => nomatch h) (fun h => nomatch h) (fun _ => trivial)
      rw [updM_self, hver2] at hs'
      have hs2 := hs'.drop [0, 777777, 69]
      refine ⟨_, h1, _, I, μ, hs2, .v _ _, fun i p hi => ?_⟩
      have : i = 0 := by omega
      subst this
      by_cases hp : p = [777777, 69]
      · subst hp
        simp [bdX, updF]
      · rw [updF_ne (by simpa using hp)]
        by_cases hp2 : p = [777777, 69, 777777, 5]
        · subst hp2
          simp [bdX]
        · rw [updF_ne (by simpa using hp2)]
          simp [bdX, hp, hp2]
theorem take_all {α β : Type} (l : List α) (f : α → β) : (l.map f).take l.length = l.map f := by rw [List.take_of_length_le (by simp)]
theorem bd_done {n : Nat} {c : Cx} {l : List UInt8} {v : Nat} {H : Hp} {p : Nm} (hp : H [0, 777777, 69] = ⟨1, .cells [.pob [0, 777777, 69] 1 0, .osl [0, 777777, 69, 777777, 5] v 1 0 l.length]⟩) (h2 : H [0, 777777, 69, 777777, 5] = ⟨v, .arr 1 (l.map u8v)⟩)
    (h3 : ∀ p, p ≠ [777777, 69] → p ≠ [777777, 69, 777777, 5] → H (0 :: p) = ⟨0, .none⟩) : H (0 :: p) = (bdF true l v).F 0 p := by
  rw [bdF_F]
  by_cases h1 : p = [777777, 69]
  · rw [if_pos h1, h1]; exact hp
  · rw [if_neg h1]
    by_cases hq : p = [777777, 69, 777777, 5]
    · rw [if_pos hq, hq]; exact h2
    · rw [if_neg hq]; exact h3 p h1 hq
theorem bByte_spec (a : Bool) (l : List UInt8) (v : Nat) (c : UInt8) (hl : l.length + 1 ≤ 140737488355328) : SpecF Tryd.prog 44 (fun r => [bp r, u8v c]) (bdF a l v) (fun _ => .v .nilIface) (bdF true (l ++ [c]) (v + 1)) := by
  refine specF_of t_strings_Builder_WriteByte (by simp) (famL_cons famA_pob (famL_cons famA_v famL_nil)) famA_v fun w0 I0 M0 m0 => ?_
  unfold c_strings_Builder_WriteByte
  simp
  refine sc_fam 0 (copyCheck_spec a l v) (fun p => by simp) (by simp) (by simp) ?_
  simp [updF_app, take_all, splice]
  refine ⟨by omega, reth_fam rfl rfl fun p => bd_done (n := 0) (c := cxh Tryd.prog w0 I0 M0 17 m0) (by simp [updF_app]) (by simp [updF_app]) (fun p h1 h2 => by simp [updF_app, h1, h2])⟩
theorem bStr_spec (a : Bool) (l : List UInt8) (v : Nat) (m : List UInt8) (hl : l.length + m.length ≤ 140737488355328) : SpecF Tryd.prog 31 (fun r => [bp r, S m]) (bdF a l v) (fun _ => .tup [.v (.int .i64 m.length), .v .nilIface]) (bdF true (l ++ m) (v + 1)) := by
  refine specF_of t_strings_Builder_WriteString (by simp) (famL_cons famA_pob (famL_cons famA_v famL_nil)) (famA_tup (famL_cons famA_v (famL_cons famA_v famL_nil))) fun w0 I0 M0 m0 => ?_
  unfold c_strings_Builder_WriteString
  simp
  refine sc_fam 0 (copyCheck_spec a l v) (fun p => by simp) (by simp) (by simp) ?_
  simp [updF_app, take_all, splice]
  refine ⟨by omega, reth_fam rfl rfl fun p => bd_done (n := 0) (c := cxh Tryd.prog w0 I0 M0 19 m0) (by simp [updF_app]) (by simp [updF_app]) (fun p h1 h2 => by simp [updF_app, h1, h2])⟩
end Go.Proofs.YtebihdhapepejaaDoor

/-
  Chapter 4's functions: what each answers.
-/
namespace Go.Proofs.YtebihdhapepejaaDoor
set_option linter.unusedVariables false
set_option linter.unusedSimpArgs false
open Go Go.G Go.Proofs
abbrev iv (n : Int) : A := .v (.int .i64 n)
abbrev uv (n : Int) : A := .v (.int .u64 n)
abbrev bv (b : Bool) : A := .v (.bool b)
theorem i64_same {n : Int} (h0 : -9223372036854775808 ≤ n) (h1 : n < 9223372036854775808) : IntKind.i64.wrap n = n := by rw [IntKind.wrap_i64]; omega
theorem u64_same {n : Int} (h0 : 0 ≤ n) (h1 : n < 18446744073709551616) : IntKind.u64.wrap n = n := by rw [IntKind.wrap_u64]; omega
/-- A pointer, as numbers. -/
structure Pt where
  (kind off data ptrs code count seg : Int)
  dbl : Bool
deriving DecidableEq
@[simp] def Pt.a (p : Pt) : A := .agg [iv p.kind, iv p.off, iv p.data, iv p.ptrs, iv p.code, iv p.count, iv p.seg, bv p.dbl]
/-- The offset in a word's lower half. -/
def offs (w : Int) : Int := if w / 4 % 1073741824 < 536870912 then w / 4 % 1073741824 else w / 4 % 1073741824 - 1073741824
/-- A word's pointer. -/
def dec (w : Int) : Pt :=
  if w = 0 then ⟨0, 0, 0, 0, 0, 0, 0, false⟩
  else if w % 4 = 0 then ⟨1, offs w, w / 4294967296 % 65536, w / 281474976710656, 0, 0, 0, false⟩
  else if w % 4 = 1 then ⟨2, offs w, 0, 0, w / 4294967296 % 8, w / 34359738368, 0, false⟩
  else if w % 4 = 2 then ⟨3, w / 8 % 536870912, 0, 0, 0, 0, w / 4294967296, decide (w / 4 % 2 = 1)⟩
  else ⟨4, 0, 0, 0, 0, 0, 0, false⟩
end Go.Proofs.YtebihdhapepejaaDoor

/-
  Plain: edits, which ones are right, their trees, and how many words they take.
-/
namespace Go.PL
set_option linter.unusedVariables false
set_option linter.unusedSimpArgs false
structure WE where
  at_ : Int
  mask : Int
  old : Int
  new : Int
mutual
inductive E where
  | mk (kind : Int) (old new : T) (words : List WE) (kids : List KE) (list : Int) (ops : List OP)
inductive KE where
  | mk (at_ : Int) (e : E)
inductive OP where
  | mk (kind n : Int) (l : List T) (e : E)
end
namespace E
def kind : E → Int | mk k _ _ _ _ _ _ => k
def old : E → T | mk _ o _ _ _ _ _ => o
def new : E → T | mk _ _ n _ _ _ _ => n
def words : E → List WE | mk _ _ _ w _ _ _ => w
def kids : E → List KE | mk _ _ _ _ k _ _ => k
def list : E → Int | mk _ _ _ _ _ l _ => l
def ops : E → List OP | mk _ _ _ _ _ _ o => o
variable {k l : Int} {o n : T} {w : List WE} {ks : List KE} {os : List OP}
@[simp] theorem kind_mk : (mk k o n w ks l os).kind = k := rfl
@[simp] theorem old_mk : (mk k o n w ks l os).old = o := rfl
@[simp] theorem new_mk : (mk k o n w ks l os).new = n := rfl
@[simp] theorem words_mk : (mk k o n w ks l os).words = w := rfl
@[simp] theorem kids_mk : (mk k o n w ks l os).kids = ks := rfl
@[simp] theorem list_mk : (mk k o n w ks l os).list = l := rfl
@[simp] theorem ops_mk : (mk k o n w ks l os).ops = os := rfl
end E
namespace KE
def at_ : KE → Int | mk a _ => a
def e : KE → E | mk _ e => e
@[simp] theorem at_mk {a : Int} {e : E} : (mk a e).at_ = a := rfl
@[simp] theorem e_mk {a : Int} {e : E} : (mk a e).e = e := rfl
end KE
namespace OP
def kind : OP → Int | mk k _ _ _ => k
def n : OP → Int | mk _ n _ _ => n
def l : OP → List T | mk _ _ l _ => l
def e : OP → E | mk _ _ _ e => e
variable {k m : Int} {t : List T} {x : E}
@[simp] theorem kind_mk : (mk k m t x).kind = k := rfl
@[simp] theorem n_mk : (mk k m t x).n = m := rfl
@[simp] theorem l_mk : (mk k m t x).l = t := rfl
@[simp] theorem e_mk : (mk k m t x).e = x := rfl
end OP
abbrev E0 : E := .mk 0 T0 T0 [] [] 0 []
mutual
theorem E.ind {P : E → Prop} (h : ∀ k o n w ks l os, (∀ x, x ∈ ks → P x.e) → (∀ x, x ∈ os → P x.e) → P (.mk k o n w ks l os)) : ∀ e, P e
  | .mk k o n w ks l os => h k o n w ks l os (E.indK h ks) (E.indO h os)
theorem E.indK {P : E → Prop} (h : ∀ k o n w ks l os, (∀ x, x ∈ ks → P x.e) → (∀ x, x ∈ os → P x.e) → P (.mk k o n w ks l os)) : ∀ (ks : List KE), ∀ x, x ∈ ks → P x.e
  | [], _, hx => nomatch hx
  | .mk a e :: ks, x, hx => by
    rcases List.mem_cons.1 hx with q | hx
    · rw [q]; exact E.ind h e
    · exact E.indK h ks x hx
theorem E.indO {P : E → Prop} (h : ∀ k o n w ks l os, (∀ x, x ∈ ks → P x.e) → (∀ x, x ∈ os → P x.e) → P (.mk k o n w ks l os)) : ∀ (os : List OP), ∀ x, x ∈ os → P x.e
  | [], _, hx => nomatch hx
  | .mk a n l e :: os, x, hx => by
    rcases List.mem_cons.1 hx with q | hx
    · rw [q]; exact E.ind h e
    · exact E.indO h os x hx
end
/-! ### which edits are right -/
def noneT (t : T) : Bool := decide (t.kind = 0) && t.words.isEmpty && t.kids.isEmpty
def sameE (e : E) : Bool := decide (e.kind = 0) && noneT e.old && noneT e.new && (e.words.isEmpty && e.kids.isEmpty && e.ops.isEmpty) && decide (e.list = 0)
def withinZ (w mask : Int) : Bool := (List.range 8).all fun i => decide (mask / 2 ^ i % 2 = 1) || decide (w / 256 ^ i % 256 = 0)
def wordOk (last : Int) (w : WE) : Bool := !(decide (w.at_ ≤ last) || decide (w.at_ > 65534) || decide (w.mask = 0) || !withinZ w.old w.mask || !withinZ w.new w.mask)
def wordsOk : Int → List WE → Bool
  | _, [] => true
  | last, w :: l => wordOk last w && wordsOk w.at_ l
def sat (n : Int) : Int := if n > 1048576 then 1048576 else n
def opLen (o : OP) : Int := if o.kind = 3 then 1 else o.n + o.l.length
def lengths : Int → Int → List OP → Int × Int
  | n, m, [] => (n, m)
  | n, m, o :: l => lengths (sat (if o.kind ≠ 2 then n + opLen o else n)) (sat (if o.kind ≠ 1 then m + opLen o else m)) l
/-- A step that holds no edit. -/
def opFlat (list : Int) (o : OP) : Bool :=
  if o.kind = 0 then decide (1 ≤ o.n) && decide (o.n ≤ 1048576) && o.l.isEmpty && sameE o.e
  else if o.n ≠ 0 ∨ o.kind < 0 ∨ o.kind > 3 then false
  else if o.kind < 3 then (o.l.all fun t => rightT 64 (.mk list [] [t])) && !o.l.isEmpty && sameE o.e
  else true
def opDeep (list : Int) (o : OP) : Bool := o.l.isEmpty && !decide (o.e.kind = 0) && !decide (list ≤ 7)
def opFit (list : Int) (o : OP) : Bool := decide (list = 8) || decide (o.e.kind = 2) || decide (o.e.kind = 1) && decide (o.e.old.kind = 1) && decide (o.e.new.kind = 1)
def headOk (d : Nat) (k : Int) (o n : T) (nw nk : Nat) (list : Int) (no : Nat) : Bool :=
  !(decide (d = 0) || decide (k < 0) || decide (k > 3)) && !(!decide (k = 1) && !(noneT o && noneT n) || !decide (k = 2) && decide (nw + nk > 0) || !decide (k = 3) && (!decide (list = 0) || decide (no > 0)))
mutual
def rightE : Nat → E → Bool
  | d, .mk k o n ws ks l os =>
    if headOk d k o n ws.length ks.length l os.length = false then false
    else if k = 1 then rightT 64 o && rightT 64 n && !decide (o.kind = 10) && !decide (n.kind = 10)
    else if wordsOk (-1) ws = false then false
    else if rightKs (d - 1) (-1) ks = false then false
    else if k = 3 ∧ (l < 2 ∨ l > 9) then false
    else if rightOs (d - 1) l os = false then false
    else decide ((lengths 0 0 os).1 < 1048576) && decide ((lengths 0 0 os).2 < 1048576)
def rightKs : Nat → Int → List KE → Bool
  | _, _, [] => true
  | d, last, .mk a e :: l => !(decide (a ≤ last) || decide (a > 65534) || decide (e.kind = 0)) && rightE d e && rightKs d a l
def rightOs : Nat → Int → List OP → Bool
  | _, _, [] => true
  | d, list, .mk k n t e :: l => rightO d list (.mk k n t e) && rightOs d list l
def rightO : Nat → Int → OP → Bool
  | d, list, .mk k n t e => opFlat list (.mk k n t e) && (if k = 3 then opDeep list (.mk k n t e) && rightE d e && opFit list (.mk k n t e) else true)
end
theorem rightE_mk (d : Nat) (k : Int) (o n : T) (ws : List WE) (ks : List KE) (l : Int) (os : List OP) : rightE d (.mk k o n ws ks l os) =
    if headOk d k o n ws.length ks.length l os.length = false then false
    else if k = 1 then rightT 64 o && rightT 64 n && !decide (o.kind = 10) && !decide (n.kind = 10)
    else if wordsOk (-1) ws = false then false
    else if rightKs (d - 1) (-1) ks = false then false
    else if k = 3 ∧ (l < 2 ∨ l > 9) then false
    else if rightOs (d - 1) l os = false then false
    else decide ((lengths 0 0 os).1 < 1048576) && decide ((lengths 0 0 os).2 < 1048576) := by rw [rightE]
@[simp] theorem rightKs_nil (d : Nat) (last : Int) : rightKs d last [] = true := by rw [rightKs]
@[simp] theorem rightKs_cons (d : Nat) (last : Int) (x : KE) (l : List KE) : rightKs d last (x :: l) = (!(decide (x.at_ ≤ last) || decide (x.at_ > 65534) || decide (x.e.kind = 0)) && rightE d x.e && rightKs d x.at_ l) := by cases x; rw [rightKs]; rfl
@[simp] theorem rightOs_nil (d : Nat) (list : Int) : rightOs d list [] = true := by rw [rightOs]
@[simp] theorem rightOs_cons (d : Nat) (list : Int) (x : OP) (l : List OP) : rightOs d list (x :: l) = (rightO d list x && rightOs d list l) := by cases x; rw [rightOs]
theorem rightO_eq (d : Nat) (list : Int) (x : OP) : rightO d list x = (opFlat list x && (if x.kind = 3 then opDeep list x && rightE d x.e && opFit list x else true)) := by cases x; rw [rightO]; rfl
theorem rightOs_all {d : Nat} {list : Int} : ∀ {l : List OP}, rightOs d list l = true ↔ ∀ x, x ∈ l → rightO d list x = true
  | [] => by simp
  | x :: l => by simp [rightOs_all (l := l)]
/- How many parts are left behind an edit; below 0: it has more, or is deeper. -/
/-! ### the tree of an edit -/
def u64m (n : Int) : Int := n % 18446744073709551616
def treeW (w : WE) : T := .mk 1 [u64m (w.at_ + 4294967296 * w.mask), w.old, w.new] []
mutual
def treeE : E → T
  | .mk k o n ws ks l os =>
    if k = 0 then T0
    else if k = 1 then .mk 1 [u64m (k + 256 * l)] [o, n]
    else if k = 2 then .mk 1 [u64m (k + 256 * l)] [rowT' (ws.map treeW), rowT' (treeKs ks)]
    else .mk 1 [u64m (k + 256 * l)] [rowT' (treeOs l os)]
def treeKs : List KE → List T
  | [] => []
  | .mk a e :: l => .mk 1 [u64m a] [treeE e] :: treeKs l
def treeOs : Int → List OP → List T
  | _, [] => []
  | list, .mk k n t e :: l => .mk 1 [u64m (k + 256 * n)] (if k = 3 then [treeE e] else if k > 0 then [.mk list [] t] else []) :: treeOs list l
def rowT' : List T → T
  | [] => T0
  | t :: l => .mk 9 [] (t :: l)
end
@[simp] theorem rowT'_nil : rowT' [] = T0 := by rw [rowT']
@[simp] theorem rowT'_cons (t : T) (l : List T) : rowT' (t :: l) = .mk 9 [] (t :: l) := by rw [rowT']
/-! ### how many words an edit takes -/
end Go.PL

/-
  Trees and edits as the program's values.
-/
namespace Go.Proofs.YtebihdhapepejaaDoor
set_option linter.unusedVariables false
set_option linter.unusedSimpArgs false
open Go Go.G Go.Proofs Go.PL
/-- A call that is not made. -/
theorem sc_call_off {P : Program} {K : Kont} {rest : List CO} {s : Nat → A} {H : Hp} {dd : Option Nat} {k : Nat} {f : Bool} {nm : Nm} {ix : Nat} {un : List Nat} {l : Bool} {lg : Lg} {g : FuncId} {aa : Array Operand} {ts : Array TypeId}
    (hq : wantA (s k) f = some false) (h : SeqC P K rest (addL l ix ⟨[], []⟩ lg) (Sta.put ⟨s, H⟩ dd (.v undef) H)) :
    SeqC P K (⟨dd, .call { callee := .value (.func g), args := aa, argTypes := ts }, some (k, f), nm, ix, un, l⟩ :: rest) lg ⟨s, H⟩ :=
  sc_call_g (q := false) (x := .any) hq (fun e => by cases e) h
abbrev uws (l : List Int) : A := .sl false (l.map uv)
abbrev u8 (n : Int) : A := .v (.int .u8 n)
mutual
def tC : T → List A
  | .mk k w l => [iv k, uws w, .sl false (tCs l)]
def tCs : List T → List A
  | [] => []
  | t :: l => .agg (tC t) :: tCs l
end
def tA (t : T) : A := .agg (tC t)
abbrev tKs (l : List T) : A := .sl false (l.map tA)
abbrev tX (t : T) : A := .agg [iv t.kind, uws t.words, tKs t.kids]
theorem tCs_map : ∀ l, tCs l = l.map tA
  | [] => by rw [tCs]; rfl
  | t :: l => by rw [tCs, tCs_map l]; rfl
theorem tC_eq (t : T) : tC t = [iv t.kind, uws t.words, tKs t.kids] := by cases t; rw [tC, tCs_map]; rfl
@[simp] theorem tA_eq (t : T) : tA t = tX t := by rw [tA, tC_eq]
def wA (w : WE) : A := .agg [iv w.at_, u8 w.mask, uv w.old, uv w.new]
abbrev wX (w : WE) : A := .agg [iv w.at_, u8 w.mask, uv w.old, uv w.new]
@[simp] theorem wA_eq (w : WE) : wA w = wX w := rfl
abbrev wKs (l : List WE) : A := .sl false (l.map wA)
mutual
def eC : E → List A
  | .mk k o n w ks l os => [iv k, iv o.kind, uws o.words, tKs o.kids, iv n.kind, uws n.words, tKs n.kids, wKs w, .sl false (eKs ks), iv l, .sl false (eOs os)]
def eKs : List KE → List A
  | [] => []
  | .mk a e :: l => .agg (iv a :: eC e) :: eKs l
def eOs : List OP → List A
  | [] => []
  | .mk k n t e :: l => .agg (iv k :: iv n :: tKs t :: eC e) :: eOs l
end
def kA (x : KE) : A := .agg (iv x.at_ :: eC x.e)
def oA (x : OP) : A := .agg (iv x.kind :: iv x.n :: tKs x.l :: eC x.e)
abbrev kKs (l : List KE) : A := .sl false (l.map kA)
abbrev oKs (l : List OP) : A := .sl false (l.map oA)
abbrev eL (e : E) : List A := [iv e.kind, iv e.old.kind, uws e.old.words, tKs e.old.kids, iv e.new.kind, uws e.new.words, tKs e.new.kids, wKs e.words, kKs e.kids, iv e.list, oKs e.ops]
abbrev eX (e : E) : A := .agg (eL e)
abbrev kX (x : KE) : A := .agg (iv x.at_ :: eL x.e)
abbrev oX (x : OP) : A := .agg (iv x.kind :: iv x.n :: tKs x.l :: eL x.e)
theorem eKs_map : ∀ l, eKs l = l.map kA
  | [] => by rw [eKs]; rfl
  | .mk a e :: l => by rw [eKs, eKs_map l]; rfl
theorem eOs_map : ∀ l, eOs l = l.map oA
  | [] => by rw [eOs]; rfl
  | .mk k n t e :: l => by rw [eOs, eOs_map l]; rfl
theorem eC_eq (e : E) : eC e = eL e := by cases e; rw [eC, eKs_map, eOs_map]; rfl
@[simp] theorem kA_eq (x : KE) : kA x = kX x := by rw [kA, eC_eq]
@[simp] theorem oA_eq (x : OP) : oA x = oX x := by rw [oA, eC_eq]
@[simp] theorem lens_uv (l : List Int) : lens 1 (l.map uv) = true := by simp [lens]
@[simp] theorem lens_iv (l : List Int) : lens 1 (l.map iv) = true := by simp [lens]
@[simp] theorem lens_tA (l : List T) : lens 3 (l.map tA) = true := by simp [lens]
@[simp] theorem lens_wA (l : List WE) : lens 4 (l.map wA) = true := by simp [lens]
@[simp] theorem lens_kA (l : List KE) : lens 12 (l.map kA) = true := by simp [lens]
@[simp] theorem lens_oA (l : List OP) : lens 14 (l.map oA) = true := by simp [lens]
theorem lens_all {n : Nat} {l : List A} : lens n l = true ↔ ∀ x, x ∈ l → x.cells.length = n := by simp [lens]
@[simp] theorem lens_take {n k : Nat} {l : List A} (h : lens n l = true) : lens n (l.take k) = true := by
  rw [lens_all] at h ⊢
  exact fun x hx => h x (List.mem_of_mem_take hx)
@[simp] theorem lens_drop {n k : Nat} {l : List A} (h : lens n l = true) : lens n (l.drop k) = true := by
  rw [lens_all] at h ⊢
  exact fun x hx => h x (List.mem_of_mem_drop hx)
/-- A row of the call's own, read. -/
theorem frz_row {α : Type} {H : Hp} {o : Nm} {u n sz : Nat} {l : List α} {f : α → A} (h : vr (H o) u = some (sz, l.map f)) (hn : n = l.length) (hf : ∀ x, ((f x).cells.length == sz && (f x).cells.all fun y => A.bare1 y && y.one) = true) : Frz H (.osl o u sz 0 n) (.sl false (l.map f)) := by
  subst hn
  have := frz_osl (H := H) (o := o) (u := u) (off := 0) (len := l.length) (sz := sz) (xs := l.map f) (by simpa using h) (by simp) (by
    simp only [List.drop_zero]
    rw [List.take_of_length_le (by simp), List.all_map, List.all_eq_true]
    exact fun x _ => hf x)
  simp [List.take_of_length_le] at this
  exact this
theorem frz_T0 {H : Hp} : Frz H (.agg [iv 0, .sl true [], .sl true []]) (tX T0) := frz_agg (by simp; exact ⟨frz_bare rfl, frz_sl, frz_sl⟩)
/-! ### sums, whatever is turned round -/
/-! ### sizes that memory has -/
def i64R (n : Int) : Prop := -9223372036854775808 ≤ n ∧ n < 9223372036854775808
def u64R (n : Int) : Prop := 0 ≤ n ∧ n < 18446744073709551616
mutual
def wfT : T → Prop
  | .mk k w l => i64R k ∧ (∀ x, x ∈ w → u64R x) ∧ w.length * 8 ≤ 140737488355328 ∧ l.length * 56 ≤ 140737488355328 ∧ wfTs l
def wfTs : List T → Prop
  | [] => True
  | t :: l => wfT t ∧ wfTs l
end
theorem wfTs_all : ∀ {l : List T}, wfTs l ↔ ∀ t, t ∈ l → wfT t
  | [] => by simp [wfTs]
  | t :: l => by simp [wfTs, wfTs_all (l := l)]
structure WfT (t : T) : Prop where
  k : i64R t.kind
  w : ∀ x, x ∈ t.words → u64R x
  wl : t.words.length * 8 ≤ 140737488355328
  kl : t.kids.length * 56 ≤ 140737488355328
  ks : ∀ x, x ∈ t.kids → wfT x
theorem wfT_iff {t : T} : wfT t ↔ WfT t := by
  cases t; rw [wfT, wfTs_all]
  exact ⟨fun ⟨a, b, c, d, e⟩ => ⟨a, b, c, d, e⟩, fun ⟨a, b, c, d, e⟩ => ⟨a, b, c, d, e⟩⟩
def WE.wf (w : WE) : Prop := i64R w.at_ ∧ (0 ≤ w.mask ∧ w.mask < 256) ∧ u64R w.old ∧ u64R w.new
mutual
def wfE : E → Prop
  | .mk k o n w ks l os => (i64R k ∧ i64R l ∧ wfT o ∧ wfT n ∧ (∀ x, x ∈ w → WE.wf x) ∧ w.length * 32 ≤ 140737488355328 ∧ ks.length * 208 ≤ 140737488355328 ∧ os.length * 240 ≤ 140737488355328) ∧ wfKs ks ∧ wfOs os
def wfKs : List KE → Prop
  | [] => True
  | .mk a e :: l => (i64R a ∧ wfE e) ∧ wfKs l
def wfOs : List OP → Prop
  | [] => True
  | .mk k n t e :: l => (i64R k ∧ i64R n ∧ wfTs t ∧ t.length * 56 ≤ 140737488355328 ∧ wfE e) ∧ wfOs l
end
structure WfO (x : OP) : Prop where
  k : i64R x.kind
  n : i64R x.n
  l : ∀ t, t ∈ x.l → wfT t
  ll : x.l.length * 56 ≤ 140737488355328
  e : wfE x.e
theorem wfKs_all : ∀ {l : List KE}, wfKs l ↔ ∀ x, x ∈ l → i64R x.at_ ∧ wfE x.e
  | [] => by simp [wfKs]
  | .mk a e :: l => by simp [wfKs, wfKs_all (l := l)]
theorem wfOs_all : ∀ {l : List OP}, wfOs l ↔ ∀ x, x ∈ l → WfO x
  | [] => by simp [wfOs]
  | .mk k n t e :: l => by
    simp only [wfOs, wfOs_all (l := l), wfTs_all, List.forall_mem_cons]
    exact ⟨fun ⟨⟨a, b, c, d, e⟩, h⟩ => ⟨⟨a, b, c, d, e⟩, h⟩, fun ⟨⟨a, b, c, d, e⟩, h⟩ => ⟨⟨a, b, c, d, e⟩, h⟩⟩
structure WfE (e : E) : Prop where
  k : i64R e.kind
  l : i64R e.list
  o : wfT e.old
  n : wfT e.new
  w : ∀ x, x ∈ e.words → WE.wf x
  wl : e.words.length * 32 ≤ 140737488355328
  kl : e.kids.length * 208 ≤ 140737488355328
  ol : e.ops.length * 240 ≤ 140737488355328
  ks : ∀ x, x ∈ e.kids → i64R x.at_ ∧ wfE x.e
  os : ∀ x, x ∈ e.ops → WfO x
theorem wfE_iff {e : E} : wfE e ↔ WfE e := by
  cases e; rw [wfE, wfKs_all, wfOs_all]
  exact ⟨fun ⟨⟨a, b, c, d, e, f, g, h⟩, i, j⟩ => ⟨a, b, c, d, e, f, g, h, i, j⟩, fun ⟨a, b, c, d, e, f, g, h, i, j⟩ => ⟨⟨a, b, c, d, e, f, g, h⟩, i, j⟩⟩
end Go.Proofs.YtebihdhapepejaaDoor

/-
  Chapter 4's functions: the program's own.
-/
namespace Go.Proofs.YtebihdhapepejaaDoor
set_option linter.unusedVariables false
set_option linter.unusedSimpArgs false
open Go Go.G Go.Proofs
theorem u64_mask (i : Nat) (hi : i ≤ 64) {x : Int} (h0 : 0 ≤ x) (h1 : x < 18446744073709551616) : bits .and .u64 x (2 ^ i - 1) = x % 2 ^ i :=
  bits_mask .u64 64 (by decide) (fun n a b => u64_same a b) i hi x h0 h1
end Go.Proofs.YtebihdhapepejaaDoor

/-
  strconv.FormatUint at base sixteen.
-/
namespace Go.Proofs.YtebihdhapepejaaDoor
set_option linter.unusedVariables false
set_option linter.unusedSimpArgs false
open Go Go.G Go.Proofs Go.PL
theorem pow2_spec : G.Spec Tryd.prog 77 [iv 16] (bv true) := by
  refine spec_of t_internal_strconv_isPowerOfTwo (by simp) fun w0 I0 => ?_
  unfold c_internal_strconv_isPowerOfTwo
  simp
  exact frz_bool (by decide)
/-- The array so far: zeros, then digits. -/
def zsA (i : Nat) (ds : List UInt8) : List A := List.replicate i (.v (.int .u8 0)) ++ ds.map u8v
theorem zsA_put (i : Nat) (ds : List UInt8) (c : UInt8) : splice (zsA (i + 1) ds) i [u8v c] = zsA i (c :: ds) := by
  unfold splice zsA
  rw [List.take_append_of_le_length (by simp), List.take_replicate]
  have e : (List.replicate (i + 1) (A.v (.int .u8 0)) ++ ds.map u8v).drop (i + [u8v c].length) = ds.map u8v := by
    rw [List.drop_append_of_le_length (by simp)]
    simp
  rw [e]
  simp
theorem zsA_len (i : Nat) (ds : List UInt8) : (zsA i ds).length = i + ds.length := by simp [zsA]
theorem digits_get (n : Nat) (h : n < 16) : ([48, 49, 50, 51, 52, 53, 54, 55, 56, 57, 97, 98, 99, 100, 101, 102, 103, 104, 105, 106, 107, 108, 109, 110, 111, 112, 113, 114, 115, 116, 117, 118, 119, 120, 121, 122] : List UInt8)[n]? = some (hexD n) := by
  have : ∀ n : Nat, n < 16 → ([48, 49, 50, 51, 52, 53, 54, 55, 56, 57, 97, 98, 99, 100, 101, 102, 103, 104, 105, 106, 107, 108, 109, 110, 111, 112, 113, 114, 115, 116, 117, 118, 119, 120, 121, 122] : List UInt8)[n]? = some (hexD n) := by decide
  exact this n h
theorem u64_and15 (n : Nat) (h : n < 18446744073709551616) : bits .and .u64 (n : Int) 15 = ((n % 16 : Nat) : Int) := by
  have := u64_mask 4 (by decide) (x := (n : Int)) (by omega) (by omega)
  simpa using this
section
variable {n0 : Nat} {w0 : World} {I0 : Nat → Prop} {Q : Exit → Sta → Prop}
theorem fmt_l1 : ∀ (n : Nat) (i : Nat) (ds : List UInt8) (H : Hp), n < 18446744073709551616 → i ≤ 65 → (hexS n).length ≤ i → H [0] = ⟨1, .cells (zsA i ds)⟩ →
    (∀ (H' : Hp) (m i' : Nat) (ds' : List UInt8), H' [0] = ⟨1, .cells (zsA i' ds')⟩ → m < 16 → hexD m :: ds' = hexS n ++ ds → i' + ds'.length = i + ds.length → 1 ≤ i' → i' ≤ 65 → Q (.exit 0) ⟨lk [(0, .sl true []), (1, uv m), (3, bv false), (4, bv false), (10, .sl true []), (11, S []), (12, .pob [0] 1 0), (13, iv i'), (14, uv 4), (15, uv 16), (16, uv 15), (46, bv false)], H'⟩) →
    LoopC (cx Tryd.prog w0 I0 n0) l1_internal_strconv_formatBits Q ⟨lk [(0, .sl true []), (1, uv n), (3, bv false), (4, bv false), (10, .sl true []), (11, S []), (12, .pob [0] 1 0), (13, iv i), (14, uv 4), (15, uv 16), (16, uv 15)], H⟩ := by
  intro n
  induction n using Nat.strongRecOn with
  | _ n ih =>
    intro i ds H hn hi hl hH hq
    refine loopC_once mixed l1_internal_strconv_formatBits.eq_1 ?_
    have hp := hexS_pos n
    by_cases h16 : n < 16
    · simp [hH, show ¬ (16 : Int) ≤ n by omega]
      exact hq H n i ds hH h16 (by rw [hexS_lt h16]; rfl) rfl (by omega) hi
    · have hge := hexS_ge (n := n) (by omega)
      have hp2 := hexS_pos (n / 16)
      have hl2 : (hexS n).length = (hexS (n / 16)).length + 1 := by rw [hge]; simp
      obtain ⟨j, rfl⟩ : ∃ j, i = j + 1 := ⟨i - 1, by omega⟩
      have e1 : IntKind.i64.wrap (j : Int) = (j : Int) := i64_same (by omega) (by omega)
      obtain ⟨q, hqd⟩ : ∃ q, q = n / 16 := ⟨_, rfl⟩
      have e2 : (n : Int) / 2 ^ min 4 IntKind.u64.bits = (q : Int) := by
        rw [show min 4 IntKind.u64.bits = 4 from rfl]
        omega
      have hm : n % 16 < 16 := Nat.mod_lt _ (by omega)
      have h0 : 0 ≤ (n : Int) % 16 := by omega
      have hdg := digits_get _ hm
      rw [show n % 16 = ((n : Int) % 16).toNat by omega] at hdg
      simp [hH, show (16 : Int) ≤ n by omega, u64_and15 n hn, e1, e2, h0, hdg, zsA_put, zsA_len]
      refine ⟨by omega, ?_⟩
      refine ih q (by omega) j (hexD ((n : Int) % 16).toNat :: ds) _ (by omega) (by omega) (by rw [hqd]; omega) (by simp) fun H' m i' ds' g1 g2 g3 g4 g5 g6 => ?_
      refine hq H' m i' ds' g1 g2 ?_ (by rw [g4]; simp; omega) g5 g6
      rw [g3, hge, ← hqd, show ((n : Int) % 16).toNat = n % 16 by omega]
      simp
end
theorem fmtBits_spec (n : Nat) (hn : n < 18446744073709551616) : G.Spec Tryd.prog 63 [.sl true [], uv n, iv 16, bv false, bv false] (.tup [.sl false [], S (hexS n)]) := by
  refine spec_of t_internal_strconv_formatBits (by simp) fun w0 I0 => ?_
  unfold c_internal_strconv_formatBits
  simp
  rw [k4_internal_strconv_formatBits.eq_1]
  simp
  rw [k3_internal_strconv_formatBits.eq_1]
  simp
  refine sc_call pow2_spec rfl ?_
  simp
  refine sc_call tz_spec rfl ?_
  have w4 : IntKind.u64.wrap 4 = 4 := by decide
  have w16 : IntKind.u64.wrap 16 = 16 := by decide
  have w15 : IntKind.u64.wrap (16 - 1) = 15 := by decide
  simp [w4, w16, w15]
  have hlen := hexS_len 16 n (by omega) (by omega)
  refine fmt_l1 n 65 [] _ hn (by omega) (by omega) (by simp; rfl) fun H' m i' ds' g1 g2 g3 g4 g5 g6 => ?_
  obtain ⟨j, rfl⟩ : ∃ j, i' = j + 1 := ⟨i' - 1, by omega⟩
  have e1 : IntKind.i64.wrap (j : Int) = (j : Int) := i64_same (by omega) (by omega)
  have hdg := digits_get m g2
  simp at g3
  simp at g4
  simp [g1, e1, hdg, zsA_put, zsA_len, show (j : Int) < 65 by omega]
  rw [k2_internal_strconv_formatBits.eq_1]
  simp
  rw [k1_internal_strconv_formatBits.eq_1]
  simp
  refine stop_le (le_freezeD (d := [0]) (fun _ h => h) 12 (.pim (zsA j (hexS n))) fun H1 h1 => frz_pob (cs := zsA j (hexS n)) (by simp [h1, g3]) (frzL_bare (List.all_eq_true.2 fun x hx => ?_)) ?_) (stop_go ?_)
  · unfold zsA at hx
    rcases List.mem_append.1 hx with hx | hx
    · rw [List.eq_of_mem_replicate hx]; rfl
    · obtain ⟨b, _, rfl⟩ := List.mem_map.1 hx; rfl
  · unfold A.ones zsA
    rw [List.all_append, List.all_map, List.all_replicate]
    simp
  · have hd : ((zsA j (hexS n)).drop j).take (65 - j) = (hexS n).map u8v := by
      unfold zsA
      rw [List.drop_append_of_le_length (by simp), List.drop_replicate, Nat.sub_self, List.replicate_zero, List.nil_append, List.take_of_length_le (by rw [← g3]; simp; omega)]
    simp [zsA_len, show (j : Int) ≤ 65 by omega, hd]
    exact ⟨by rw [← g3]; simp; omega, frz_tup ⟨frz_sl, frz_bare rfl, trivial⟩⟩
theorem fmtUint_spec (n : Nat) (hn : n < 18446744073709551616) : G.Spec Tryd.prog 32 [uv n, iv 16] (S (hexS n)) := by
  have h1 : G.Spec Tryd.prog 48 [uv n, iv 16] (S (hexS n)) := by
    refine spec_of t_internal_strconv_FormatUint (by simp) fun w0 I0 => ?_
    unfold c_internal_strconv_FormatUint
    simp
    refine sc_call (fmtBits_spec n hn) rfl ?_
    simp
    exact frz_bare rfl
  refine spec_of t_strconv_FormatUint (by simp) fun w0 I0 => ?_
  unfold c_strconv_FormatUint
  simp
  refine sc_call h1 rfl ?_
  simp
  exact frz_bare rfl
end Go.Proofs.YtebihdhapepejaaDoor

/-
  Chapter 6's functions: arenas that are only read.
-/
namespace Go.Proofs.YtebihdhapepejaaDoor
set_option linter.unusedVariables false
set_option linter.unusedSimpArgs false
open Go Go.G Go.Proofs
abbrev ws (l : List Int) : A := .sl false (l.map uv)
abbrev sgs (l : List (List Int)) : A := .sl false (l.map ws)
@[simp] theorem lens_ws (l : List (List Int)) : lens 1 (l.map ws) = true := by simp [lens]
/-- An arena that is only read. -/
abbrev arX (l : List (List Int)) (z m u : Int) : A := .pim [sgs l, iv z, iv m, iv u]
abbrev arn (l : List (List Int)) : A := arX l 0 0 0
/-- A segment; its length. -/
def seg (l : List (List Int)) (s : Int) : Option (List Int) := if 0 ≤ s then l[s.toNat]? else none
def szAt (l : List (List Int)) (s : Int) : Nat := ((seg l s).map List.length).getD 0
/-- Are so many words, from one on, in a segment? -/
def hasW (l : List (List Int)) (s a n : Int) : Bool := decide (0 ≤ s ∧ s < l.length ∧ 0 ≤ a ∧ 0 ≤ n ∧ a + n ≤ szAt l s)
/-- A word. -/
def word (l : List (List Int)) (s a : Int) : Option Int := if 0 ≤ a then (seg l s).bind fun g => g[a.toNat]? else none
/-- Words. -/
def part (l : List (List Int)) (s a n : Int) : List Int := (((seg l s).getD []).drop a.toNat).take n.toNat
end Go.Proofs.YtebihdhapepejaaDoor

/-
  Chapter 6: far pointers are followed, by the program and by the document.
-/
namespace Go.Proofs.YtebihdhapepejaaDoor
set_option linter.unusedVariables false
set_option linter.unusedSimpArgs false
open Go Go.G Go.Proofs
/-- How many bits each kid has. -/
def bitsOf (c : Int) : Int := if c = 0 then 0 else if c = 1 then 1 else if c = 2 then 8 else if c = 3 then 16 else if c = 4 then 32 else 64
/-- How many words what is pointed to takes. -/
def wordsP (p : Pt) : Option Int :=
  if p.kind = 1 then some (p.data + p.ptrs)
  else if p.kind = 2 ∧ p.code = 7 then some (p.count + 1)
  else if p.kind = 2 ∧ 0 ≤ p.code ∧ p.code ≤ 6 ∧ 0 ≤ p.count ∧ p.count ≤ 536870911 then some ((p.count * bitsOf p.code + 63) / 64)
  else none
/-- What a pointer points to. -/
structure Lc where
  p : Pt
  s : Int
  at_ : Int
deriving DecidableEq
def Pt.l (p : Pt) : List A := [iv p.kind, iv p.off, iv p.data, iv p.ptrs, iv p.code, iv p.count, iv p.seg, bv p.dbl]
@[simp] theorem Pt.l_eq (p : Pt) : p.l = [iv p.kind, iv p.off, iv p.data, iv p.ptrs, iv p.code, iv p.count, iv p.seg, bv p.dbl] := rfl
def Pt.zero : Pt := ⟨0, 0, 0, 0, 0, 0, 0, false⟩
def Lc.zero : Lc := ⟨Pt.zero, 0, 0⟩
abbrev Lc.a (x : Lc) : A := .agg [iv x.p.kind, iv x.p.off, iv x.p.data, iv x.p.ptrs, iv x.p.code, iv x.p.count, iv x.p.seg, bv x.p.dbl, iv x.s, iv x.at_]
/-- All of it in its segment? -/
def insideP (l : List (List Int)) (x : Lc) : Lc × Int := if hasW l x.s x.at_ ((wordsP x.p).getD 0) = true then (⟨{ x.p with off := 0 }, x.s, x.at_⟩, 0) else (Lc.zero, 7)
def nearP (l : List (List Int)) (p : Pt) (s a : Int) : Lc × Int :=
  if p.kind = 1 ∨ p.kind = 2 then insideP l ⟨p, s, a + 1 + p.off⟩ else if p.kind = 4 then (Lc.zero, 9) else (Lc.zero, 8)
/-- All of it are words. -/
def Wds (l : List (List Int)) : Prop := ∀ x, x ∈ l → ∀ y, y ∈ x → 0 ≤ y ∧ y < 18446744073709551616
/-- Two words: a far pointer to what is meant, and its shape. -/
def doubleP (l : List (List Int)) (s a : Int) : Lc × Int :=
  match word l s a, word l s (a + 1) with
  | some v, some w =>
    if (dec v).kind ≠ 3 ∨ (dec v).dbl = true then (Lc.zero, 8)
    else if (dec w).kind = 4 then (Lc.zero, 9)
    else if ((dec w).kind ≠ 1 ∧ (dec w).kind ≠ 2) ∨ (dec w).off ≠ 0 then (Lc.zero, 8)
    else insideP l ⟨dec w, (dec v).seg, (dec v).off⟩
  | _, _ => (Lc.zero, 7)
/-- What the pointer points to that stands in a word. -/
def followP (l : List (List Int)) (s a : Int) : Lc × Int :=
  match word l s a with
  | none => (Lc.zero, 7)
  | some w =>
    if (dec w).kind = 0 then (Lc.zero, 0)
    else if (dec w).kind ≠ 3 then nearP l (dec w) s a
    else if (dec w).dbl = true then doubleP l (dec w).seg (dec w).off
    else match word l (dec w).seg (dec w).off with
      | none => (Lc.zero, 7)
      | some v => nearP l (dec v) (dec w).seg (dec w).off
end Go.Proofs.YtebihdhapepejaaDoor

/-
  Chapters 9 and 10, plain: values where they lie, and what they mean.
-/
namespace Go.Proofs.YtebihdhapepejaaDoor
set_option linter.unusedVariables false
set_option linter.unusedSimpArgs false
open Go Go.G Go.Proofs Go.PL
/-- A value where it lies. -/
structure Rf where
  kind : Int
  s : Int
  at_ : Int
  data : Int
  kids : Int
  count : Int
  n : Int
def Rf.zero : Rf := ⟨0, 0, 0, 0, 0, 0, 0⟩
def nk (r : Rf) : Int := if r.kind = 1 then r.kids else r.count
def compP (l : List (List Int)) (s a m : Int) : Rf × Int :=
  if ((word l s a).getD 0 ≠ 0 ∧ (dec ((word l s a).getD 0)).kind ≠ 1) ∨ (dec ((word l s a).getD 0)).off < 0 ∨ m < (dec ((word l s a).getD 0)).off * ((dec ((word l s a).getD 0)).data + (dec ((word l s a).getD 0)).ptrs) then (Rf.zero, 8)
  else (⟨9, s, a + 1, (dec ((word l s a).getD 0)).data, (dec ((word l s a).getD 0)).ptrs, (dec ((word l s a).getD 0)).off, 0⟩, 0)
/-- What a shape at a place is. -/
def refP (l : List (List Int)) (x : Lc) : Rf × Int :=
  if x.p.kind = 1 then (⟨1, x.s, x.at_, x.p.data, x.p.ptrs, 0, 0⟩, 0)
  else if x.p.code < 7 then (⟨2 + x.p.code, x.s, x.at_, 0, 0, x.p.count, 0⟩, 0)
  else compP l x.s x.at_ x.p.count
def atP (l : List (List Int)) (s a : Int) : Rf × Int :=
  if (followP l s a).2 ≠ 0 ∨ (followP l s a).1.p.kind = 0 then (Rf.zero, (followP l s a).2) else refP l (followP l s a).1
def getZ (g : List Int) (c i : Int) : Int :=
  if widthZ c < 1 ∨ i < 0 ∨ 1099511627776 < i then 0 else ((g[(i * widthZ c / 64).toNat]?).getD 0) / 2 ^ (i * widthZ c % 64).toNat % 2 ^ (widthZ c).toNat
def atomZ (l : List (List Int)) (r : Rf) (i : Int) : Int := getZ (((seg l r.s).getD []).drop r.at_.toNat) (r.kind - 2) i
def kidP (l : List (List Int)) (r : Rf) (i : Int) : Rf × Int :=
  if i < 0 ∨ nk r ≤ i then (Rf.zero, 0)
  else if r.kind = 1 then atP l r.s (r.at_ + r.data + i)
  else if r.kind = 8 then atP l r.s (r.at_ + i)
  else if r.kind = 9 then (⟨1, r.s, r.at_ + i * (r.data + r.kids), r.data, r.kids, 0, 0⟩, 0)
  else (⟨10, 0, 0, 0, 0, 0, atomZ l r i⟩, 0)
def wordsR (l : List (List Int)) (r : Rf) : List Int := if r.kind = 10 then [r.n] else if r.kind ≠ 1 then [] else part l r.s r.at_ r.data
/-- It lies in its segment. -/
inductive RfOk (l : List (List Int)) : Rf → Prop
  | zero : RfOk l Rf.zero
  | str (s a d k : Int) : 0 ≤ d → d < 65536 → 0 ≤ k → k < 65536 → hasW l s a (d + k) = true → RfOk l ⟨1, s, a, d, k, 0, 0⟩
  | dat (c s a n : Int) : 0 ≤ c → c < 6 → 0 ≤ n → n < 536870912 → hasW l s a ((n * bitsOf c + 63) / 64) = true → RfOk l ⟨2 + c, s, a, 0, 0, n, 0⟩
  | ptrs (s a n : Int) : 0 ≤ n → n < 536870912 → hasW l s a n = true → RfOk l ⟨8, s, a, 0, 0, n, 0⟩
  | comp (s a d k n : Int) : 0 ≤ d → d < 65536 → 0 ≤ k → k < 65536 → 0 ≤ n → n < 536870912 → hasW l s a (n * (d + k)) = true → RfOk l ⟨9, s, a, d, k, n, 0⟩
  | atom (n : Int) : 0 ≤ n → n < 18446744073709551616 → RfOk l ⟨10, 0, 0, 0, 0, 0, n⟩
/-! ### what is followed lies in its segment -/
/-! ### what it means -/
inductive Means (l : List (List Int)) : Rf → T → Prop
  | mk (r : Rf) (t : T) : RfOk l r → r.kind = t.kind → wordsR l r = t.words → nk r = t.kids.length → (∀ (i : Nat) (h : i < t.kids.length), (kidP l r i).2 = 0) → (∀ (i : Nat) (h : i < t.kids.length), Means l (kidP l r i).1 t.kids[i]) → Means l r t
end Go.Proofs.YtebihdhapepejaaDoor

/-
  The document's words: bytes, masks, small numbers.
-/
namespace Go.Proofs.YtebihdhapepejaaDoor
set_option linter.unusedVariables false
set_option linter.unusedSimpArgs false
open Go Go.G Go.Proofs Go.PL
theorem widthZ_cases (c : Int) : widthZ c = -1 ∨ widthZ c = 0 ∨ widthZ c = 1 ∨ widthZ c = 8 ∨ widthZ c = 16 ∨ widthZ c = 32 ∨ widthZ c = 64 := by
  unfold widthZ; repeat' split
  all_goals simp
section
variable {n0 : Nat} {w0 : World} {I0 : Nat → Prop} {Q : Exit → Sta → Prop} {H : Hp}
end
section
variable {n0 : Nat} {w0 : World} {I0 : Nat → Prop} {Q : Exit → Sta → Prop} {H : Hp}
end
/-! ### the program's widths -/
theorem width_spec (c : Int) : G.Spec Tryd.prog 95 [iv c] (.tup [iv (if widthZ c < 0 then 0 else widthZ c), bv (decide (0 ≤ widthZ c))]) := by
  refine spec_of t_word_width (by simp) fun w0 I0 => ?_
  unfold c_word_width
  by_cases h0 : c = 0
  · subst h0; simp; exact frz_is rfl rfl
  by_cases h1 : c = 1
  · subst h1; simp; exact frz_is rfl rfl
  by_cases h2 : c = 2
  · subst h2; simp; exact frz_is rfl rfl
  by_cases h3 : c = 3
  · subst h3; simp; exact frz_is rfl rfl
  by_cases h4 : c = 4
  · subst h4; simp; exact frz_is rfl rfl
  by_cases h5 : c = 5
  · subst h5; simp; exact frz_is rfl rfl
  have hd : (decide (c < 0) || decide (6 ≤ c)) = true := by simp; omega
  simp [hd]
  exact frz_is rfl (by simp [widthZ, h0, h1, h2, h3, h4, h5])
theorem data_spec (k : Int) : G.Spec Tryd.prog 73 [iv k] (bv (isData k)) := by
  refine spec_of t_tree_Data (by simp) fun w0 I0 => ?_
  unfold c_tree_Data
  simp
  refine frz_bool ?_
  simp [isData]
/-! ### without noughts at the end -/
section
variable {n0 : Nat} {w0 : World} {I0 : Nat → Prop} {Q : Exit → Sta → Prop} {H : Hp}
end
/-! ### bytes -/
/-- So many bytes, the lowest one first. -/
def bytesN : Nat → Int → List Int
  | 0, _ => []
  | m + 1, x => x % 256 :: bytesN m (x / 256)
@[simp] theorem bytesN_length : ∀ (m : Nat) (x : Int), (bytesN m x).length = m
  | 0, _ => rfl
  | m + 1, x => by simp [bytesN, bytesN_length m]
section
variable {n0 : Nat} {w0 : World} {I0 : Nat → Prop} {Q : Exit → Sta → Prop}
end
def bytesZ (x : Int) : List Int := bytesN 8 x
section
variable {n0 : Nat} {w0 : World} {I0 : Nat → Prop} {Q : Exit → Sta → Prop} {H : Hp}
end
def namedZ (x : Int) (i : Nat) : Bool := decide (x / 2 ^ i % 2 = 1)
/-- The word of bytes. -/
def ofZ : List Int → Int
  | [] => 0
  | b :: l => b + 256 * ofZ l
theorem ofZ_range : ∀ (l : List Int), (∀ b, b ∈ l → 0 ≤ b ∧ b < 256) → 0 ≤ ofZ l ∧ ofZ l < 256 ^ l.length
  | [], _ => by simp [ofZ]
  | b :: l, h => by
    have h1 := h b (by simp)
    have h2 := ofZ_range l fun x hx => h x (by simp [hx])
    simp only [ofZ, List.length_cons, Int.pow_succ]
    omega
section
variable {n0 : Nat} {w0 : World} {I0 : Nat → Prop} {Q : Exit → Sta → Prop} {H : Hp}
end
theorem bytesN_range : ∀ (m : Nat) (x : Int), ∀ b, b ∈ bytesN m x → 0 ≤ b ∧ b < 256
  | m + 1, x, b, h => by
    rcases List.mem_cons.1 h with rfl | h
    · omega
    · exact bytesN_range m _ b h
def mixL (a b : List Int) (mask : Int) (k : Nat) : List Int := (List.range k).map (fun i => if namedZ mask i = true then b.getD i 0 else a.getD i 0) ++ a.drop k
section
variable {n0 : Nat} {w0 : World} {I0 : Nat → Prop} {Q : Exit → Sta → Prop}
end
def mixZ (a b mask : Int) : Int := ofZ (mixL (bytesZ a) (bytesZ b) mask 8)
theorem mixL_range {a b mask : Int} {k : Nat} : ∀ x, x ∈ mixL (bytesZ a) (bytesZ b) mask k → 0 ≤ x ∧ x < 256 := by
  have hg : ∀ (y : Int) (i : Nat), 0 ≤ (bytesZ y).getD i 0 ∧ (bytesZ y).getD i 0 < 256 := fun y i => by
    rw [List.getD_eq_getElem?_getD]
    cases e : (bytesZ y)[i]? with
    | none => simp
    | some z => exact bytesN_range 8 y z (List.mem_of_getElem? e)
  intro x hx
  rcases List.mem_append.1 hx with hx | hx
  · obtain ⟨i, _, rfl⟩ := List.mem_map.1 hx
    split
    · exact hg b i
    · exact hg a i
  · exact bytesN_range 8 a x (List.mem_of_mem_drop hx)
theorem bytesZ_length (x : Int) : (bytesZ x).length = 8 := bytesN_length 8 x
end Go.Proofs.YtebihdhapepejaaDoor

/-
  Trees and edits as arguments, whatever the room of their slices; operations under a guard.
-/
namespace Go.Proofs.YtebihdhapepejaaDoor
set_option linter.unusedVariables false
set_option linter.unusedSimpArgs false
open Go Go.G Go.Proofs Go.PL
@[simp] theorem GtG_shift {q : Bool} {n : Nat} {y : A} {K : A → Prop} : GtG q (A.shift n (gd q y)) K = GtG q (A.shift n y) K := GtG_same fun h => by rw [h]; rfl
/-! ### slices of any room -/
theorem soft_uv (l : List Int) : A.softL (l.map uv) = l.map uv := by
  rw [softL_map, List.map_map]; rfl
theorem soft_tA : ∀ t : T, (tA t).soft = tA t := by
  refine T.ind fun k w l ih => ?_
  rw [tA_eq]
  simp only [A.soft, A.softL, T.kind_mk, T.words_mk, T.kids_mk, soft_uv]
  have e : l.map (A.soft ∘ tA) = l.map tA := List.map_congr_left fun t ht => ih t ht
  rw [softL_map, List.map_map, e]
  rfl
theorem soft_tKs (l : List T) : A.softL (l.map tA) = l.map tA := by
  rw [softL_map, List.map_map]
  exact List.map_congr_left fun t _ => soft_tA t
end Go.Proofs.YtebihdhapepejaaDoor

/-
  Chapter 9: values are read where they lie, by the program.
-/
namespace Go.Proofs.YtebihdhapepejaaDoor
set_option linter.unusedVariables false
set_option linter.unusedSimpArgs false
open Go Go.G Go.Proofs Go.PL
/-- Segments that memory can hold. -/
structure Sg (l : List (List Int)) : Prop where
  b : ∀ x, x ∈ l → x.length * 8 ≤ 140737488355328
  w : Wds l
def arO (l : List (List Int)) (r : Rf) : A := if r.kind = 0 then .v (.pointer none) else arn l
@[simp] theorem arO_cells (l : List (List Int)) (r : Rf) : (arO l r).cells = [arO l r] := by unfold arO; split <;> rfl
@[simp] theorem arO_one (l : List (List Int)) (r : Rf) : (arO l r).one = true := by unfold arO; split <;> rfl
@[simp] theorem arO_bare (l : List (List Int)) (r : Rf) : (arO l r).bare = true := by unfold arO; split <;> rfl
@[simp] theorem arO_bare1 (l : List (List Int)) (r : Rf) : (arO l r).bare1 = true := by unfold arO; split <;> rfl
@[simp] theorem arO_bare2 (l : List (List Int)) (r : Rf) : (arO l r).bare2 = true := by unfold arO; split <;> rfl
abbrev paL (l : List (List Int)) (r : Rf) : List A := [arO l r, iv r.kind, iv r.s, iv r.at_, iv r.data, iv r.kids, iv r.count, uv r.n]
/-! ### small numbers -/
/-! ### a value -/
end Go.Proofs.YtebihdhapepejaaDoor

/-
  The document's trees: what they have at the most, whether they are the same, the Norm.
-/
namespace Go.Proofs.YtebihdhapepejaaDoor
set_option linter.unusedVariables false
set_option linter.unusedSimpArgs false
open Go Go.G Go.Proofs Go.PL
abbrev tL (t : T) : List A := [iv t.kind, uws t.words, tKs t.kids]
section
variable {n0 : Nat} {w0 : World} {I0 : Nat → Prop} {Q : Exit → Sta → Prop}
end
/-! ### the same -/
section
variable {n0 : Nat} {w0 : World} {I0 : Nat → Prop} {Q : Exit → Sta → Prop}
end
/-! ### the Norm -/
section
variable {n0 : Nat} {w0 : World} {I0 : Nat → Prop} {Q : Exit → Sta → Prop}
end
end Go.Proofs.YtebihdhapepejaaDoor

/-
  Chapters 12 and 14, plain: trees as words.
-/
namespace Go.PL
set_option linter.unusedVariables false
set_option linter.unusedSimpArgs false
def hd (t : T) : Int := t.words.headD 0
/-! ### numbers side by side -/
/-! ### what is laid leaves other words -/
end Go.PL

/-
  Chapter 15: the law EqualGoes.
-/
namespace Go.Proofs.YtebihdhapepejaaDoor
set_option linter.unusedVariables false
set_option linter.unusedSimpArgs false
open Go Go.G Go.Proofs Go.PL
abbrev s1 : List (List Int) := [[4294967296, 7]]
abbrev s2 : List (List Int) := [[8589934592, 7, 0]]
abbrev s3 : List (List Int) := [[4294967296, 8]]
end Go.Proofs.YtebihdhapepejaaDoor

/-
  Chapter 15: the hash.
-/
namespace Go.Proofs.YtebihdhapepejaaDoor
set_option linter.unusedVariables false
set_option linter.unusedSimpArgs false
open Go Go.G Go.Proofs Go.PL
def mixG (h x : Int) : Int := IntKind.u64.wrap (bits .xor .u64 h x * 1099511628211)
def mixH (h x : Int) : Int := bits .xor .u64 (mixG h x) (mixG h x / 2 ^ min 29 IntKind.u64.bits)
mutual
def hashN : T → Int
  | .mk k w l => hashL (w.foldl mixH (mixH (mixH 14695981039346656037 (IntKind.u64.wrap k)) (IntKind.u64.wrap w.length))) l
def hashL : Int → List T → Int
  | h, [] => h
  | h, t :: l => hashL (mixH h (hashN t)) l
end
end Go.Proofs.YtebihdhapepejaaDoor

/-
  Chapter 16, plain: places that are hashed by hand.
-/
namespace Go.PL
set_option linter.unusedVariables false
set_option linter.unusedSimpArgs false
/-- Places of so many classes, by their numbers. -/
structure Pl (hs : List Nat) (pl : List Nat) : Prop where
  cnt : pl.countP (fun v => v != 0) = hs.length
  vals : ∀ v, v ∈ pl → v ≤ hs.length
  reach : ∀ (c : Nat) (hc : c < hs.length), ∃ d, pl[(hs[c] + d) % pl.length]? = some (c + 1) ∧ ∀ e, e < d → pl.getD ((hs[c] + e) % pl.length) 0 ≠ 0
theorem Pl.nil (m : Nat) : Pl [] (List.replicate m 0) := by
  refine ⟨?_, fun v hv => ?_, fun c hc => ?_⟩
  · simp [List.countP_replicate]
  · simp at hv; omega
  · simp at hc
end Go.PL

/-
  Chapter 16: tables of classes.
-/
namespace Go.Proofs.YtebihdhapepejaaDoor
set_option linter.unusedVariables false
set_option linter.unusedSimpArgs false
open Go Go.G Go.Proofs Go.PL
/-- A class: its number of what it means; where its value lies, and what it means. -/
structure Cl where
  l : List (List Int)
  r : Rf
  t : T
noncomputable def Cl.h (c : Cl) : Int := hashN (norm c.t)
noncomputable def Cl.hn (c : Cl) : Nat := c.h.toNat
abbrev clL (h : Int) (l : List (List Int)) (r : Rf) : List A := uv h :: paL l r
noncomputable def Cl.a (c : Cl) : A := .agg (clL c.h c.l c.r)
/-- A table: versions, classes, places. -/
structure Tb where
  u : Nat
  uc : Nat
  up : Nat
  cl : List Cl
  pl : List Nat
structure Tb.Ok (S : Tb) : Prop where
  p8 : 8 ≤ S.pl.length
  half : 2 * S.cl.length ≤ S.pl.length
  most : S.pl.length ≤ 8 + 4 * S.cl.length
  pl : Pl (S.cl.map Cl.hn) S.pl
  means : ∀ c, c ∈ S.cl → Sg c.l ∧ Means c.l c.r c.t
  nd : (S.cl.map fun c => norm c.t).Nodup
noncomputable def Tb.ks (S : Tb) : List T := S.cl.map fun c => norm c.t
@[simp] theorem Tb.ks_length (S : Tb) : S.ks.length = S.cl.length := by simp [Tb.ks]
theorem Tb.Ok.lt {S : Tb} (h : S.Ok) : S.cl.length < S.pl.length := by have := h.p8; have := h.half; omega
/-- But for its room. -/
structure Tb.Ok1 (S : Tb) : Prop where
  p8 : 8 ≤ S.pl.length
  half : 2 * S.cl.length ≤ S.pl.length + 2
  most : S.pl.length ≤ 8 + 4 * S.cl.length
  pl : Pl (S.cl.map Cl.hn) S.pl
  means : ∀ c, c ∈ S.cl → Sg c.l ∧ Means c.l c.r c.t
  nd : (S.cl.map fun c => norm c.t).Nodup
theorem Tb.Ok1.ok {S : Tb} (h : S.Ok1) (hf : ¬ S.pl.length < 2 * S.cl.length) : S.Ok := ⟨h.p8, by omega, h.most, h.pl, h.means, h.nd⟩
section
variable {n0 : Nat} {w0 : World} {I0 : Nat → Prop} {Q : Exit → Sta → Prop}
end
end Go.Proofs.YtebihdhapepejaaDoor

/-
  Chapter 27, plain: the edit that a tree would be of.
-/
namespace Go.PL
set_option linter.unusedVariables false
set_option linter.unusedSimpArgs false
def kdT (t : T) (i : Nat) : T := t.kids.getD i T0
/-! ### right edits: told by their trees, as these stand -/
@[simp] theorem rowT'_kids (l : List T) : (rowT' l).kids = l := by cases l <;> simp
theorem noneT_T0 {t : T} (h : noneT t = true) : t = T0 := by
  obtain ⟨k, w, l⟩ := t
  simp only [noneT, Bool.and_eq_true, decide_eq_true_eq, List.isEmpty_iff, T.kind_mk, T.words_mk, T.kids_mk] at h
  obtain ⟨⟨h0, rfl⟩, rfl⟩ := h
  obtain rfl := of_decide_eq_true h0
  rfl
theorem sameE_eq {e : E} (h : sameE e = true) : e = E0 := by
  obtain ⟨k, o, n, ws, ks, l, os⟩ := e
  simp only [sameE, Bool.and_eq_true, decide_eq_true_eq, List.isEmpty_iff, E.kind_mk, E.old_mk, E.new_mk, E.words_mk, E.kids_mk, E.list_mk, E.ops_mk] at h
  obtain ⟨⟨⟨⟨h0, h1⟩, h2⟩, ⟨rfl, rfl⟩, rfl⟩, h3⟩ := h
  obtain rfl := of_decide_eq_true h0
  obtain rfl := of_decide_eq_true h3
  rw [noneT_T0 h1, noneT_T0 h2]
theorem headOk_iff {d : Nat} {k : Int} {o n : T} {nw nk : Nat} {l : Int} {no : Nat} : headOk d k o n nw nk l no = true ↔ d ≠ 0 ∧ 0 ≤ k ∧ k ≤ 3 ∧ (k ≠ 1 → noneT o = true ∧ noneT n = true) ∧ (k ≠ 2 → nw = 0 ∧ nk = 0) ∧ (k ≠ 3 → l = 0 ∧ no = 0) := by
  unfold headOk
  simp only [Bool.and_eq_true, Bool.not_eq_true', Bool.or_eq_false_iff, Bool.and_eq_false_iff, decide_eq_false_iff_not, Bool.not_eq_false', decide_eq_true_eq]
  constructor
  · rintro ⟨⟨⟨h1, h2⟩, h3⟩, ⟨h4, h5⟩, h6⟩
    refine ⟨h1, by omega, by omega, fun hk => ?_, fun hk => ?_, fun hk => ?_⟩
    · rcases h4 with h4 | h4
      · exact absurd h4 hk
      · exact h4
    · rcases h5 with h5 | h5
      · exact absurd h5 hk
      · omega
    · rcases h6 with h6 | h6
      · exact absurd h6 hk
      · exact ⟨h6.1, by omega⟩
  · rintro ⟨h1, h2, h3, h4, h5, h6⟩
    refine ⟨⟨⟨h1, by omega⟩, by omega⟩, ⟨?_, ?_⟩, ?_⟩
    · by_cases hk : k = 1
      · exact .inl hk
      · exact .inr (h4 hk)
    · by_cases hk : k = 2
      · exact .inl hk
      · exact .inr (by have := h5 hk; omega)
    · by_cases hk : k = 3
      · exact .inl hk
      · exact .inr ⟨(h6 hk).1, by have := h6 hk; omega⟩
structure RightE (d : Nat) (k : Int) (o n : T) (ws : List WE) (ks : List KE) (l : Int) (os : List OP) : Prop where
  d0 : d ≠ 0
  k0 : 0 ≤ k
  k3 : k ≤ 3
  one : k ≠ 1 → o = T0 ∧ n = T0
  two : k ≠ 2 → ws = [] ∧ ks = []
  three : k ≠ 3 → l = 0 ∧ os = []
  rep : k = 1 → rightT 64 o = true ∧ rightT 64 n = true ∧ o.kind ≠ 10 ∧ n.kind ≠ 10
  wok : wordsOk (-1) ws = true
  kok : rightKs (d - 1) (-1) ks = true
  lst : k = 3 → 2 ≤ l ∧ l ≤ 9
  ook : rightOs (d - 1) l os = true
  len : (lengths 0 0 os).1 < 1048576 ∧ (lengths 0 0 os).2 < 1048576
theorem rightE_iff {d : Nat} {k : Int} {o n : T} {ws : List WE} {ks : List KE} {l : Int} {os : List OP} : rightE d (.mk k o n ws ks l os) = true ↔ RightE d k o n ws ks l os := by
  rw [rightE_mk]
  constructor
  · intro h
    by_cases hh : headOk d k o n ws.length ks.length l os.length = true
    · rw [if_neg (by rw [hh]; simp)] at h
      obtain ⟨h1, h2, h3, h4, h5, h6⟩ := headOk_iff.1 hh
      have g1 : k ≠ 1 → o = T0 ∧ n = T0 := fun hk => ⟨noneT_T0 (h4 hk).1, noneT_T0 (h4 hk).2⟩
      have g2 : k ≠ 2 → ws = [] ∧ ks = [] := fun hk => ⟨List.length_eq_zero_iff.1 (h5 hk).1, List.length_eq_zero_iff.1 (h5 hk).2⟩
      have g3 : k ≠ 3 → l = 0 ∧ os = [] := fun hk => ⟨(h6 hk).1, List.length_eq_zero_iff.1 (h6 hk).2⟩
      by_cases hk : k = 1
      · rw [if_pos hk] at h
        simp at h
        obtain ⟨rfl, rfl⟩ := g2 (by omega)
        obtain ⟨rfl, rfl⟩ := g3 (by omega)
        exact ⟨h1, h2, h3, g1, g2, g3, fun _ => ⟨h.1.1.1, h.1.1.2, h.1.2, h.2⟩, by simp [wordsOk], by simp, fun e => by omega, by simp, by simp [lengths]⟩
      · rw [if_neg hk] at h
        split at h
        · cases h
        · rename_i hw
          split at h
          · cases h
          · rename_i hks
            split at h
            · cases h
            · rename_i hl
              split at h
              · cases h
              · rename_i ho
                simp at h hw hks ho
                exact ⟨h1, h2, h3, g1, g2, g3, fun e => absurd e hk, hw, hks, fun e => by omega, ho, h⟩
    · rw [if_pos (by simpa using hh)] at h
      cases h
  · intro h
    have hh : headOk d k o n ws.length ks.length l os.length = true := headOk_iff.2 ⟨h.d0, h.k0, h.k3, fun hk => by rw [(h.one hk).1, (h.one hk).2]; exact ⟨rfl, rfl⟩, fun hk => by rw [(h.two hk).1, (h.two hk).2]; exact ⟨rfl, rfl⟩, fun hk => by rw [(h.three hk).1, (h.three hk).2]; exact ⟨rfl, rfl⟩⟩
    rw [if_neg (by rw [hh]; simp)]
    by_cases hk : k = 1
    · rw [if_pos hk]
      obtain ⟨a, b, c, e⟩ := h.rep hk
      simp [a, b, c, e]
    · rw [if_neg hk, if_neg (by rw [h.wok]; simp), if_neg (by rw [h.kok]; simp), if_neg (by have := h.lst; omega), if_neg (by rw [h.ook]; simp)]
      simp [h.len]
theorem sameE_E0 : sameE E0 = true := rfl
end Go.PL

/-
  Chapter 27, plain: an edit told by the Norm of its tree.
-/
namespace Go.PL
set_option linter.unusedVariables false
set_option linter.unusedSimpArgs false
/-! ### what is right stays so -/
/-! ### no value has very many kids -/
inductive SmT : T → Prop
  | mk (k : Int) (w : List Int) (l : List T) : l.length ≤ 1048576 → (∀ t, t ∈ l → SmT t) → SmT (.mk k w l)
theorem SmT.len {t : T} (h : SmT t) : t.kids.length ≤ 1048576 := by cases h; assumption
theorem SmT.kid {t : T} (h : SmT t) : ∀ c, c ∈ t.kids → SmT c := by cases h; assumption
theorem sm_T0 : SmT T0 := .mk _ _ _ (Nat.zero_le _) (fun t h => by cases h)
theorem SmT.kd {t : T} (h : SmT t) (i : Nat) : SmT (kdT t i) := by
  unfold kdT
  rw [List.getD_eq_getElem?_getD]
  cases e : t.kids[i]? with
  | none => exact sm_T0
  | some x => exact h.kid x (List.mem_of_getElem? e)
end Go.PL
