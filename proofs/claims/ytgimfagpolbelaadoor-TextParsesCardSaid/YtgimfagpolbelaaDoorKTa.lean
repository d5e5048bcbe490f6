/-
  Texts, merged, without what is not reached.
-/
import Derived.Test.YtgimfagpolbelaaDoorGStr
import Derived.Test.YtgimfagpolbelaaDoorProg
import Derived.Test.YtgimfagpolbelaaDoorGSimp
import Derived.KernelRfl
import Derived.WalkKit
import Derived.Laws.Externs
import Derived.Lib.Bytealg
import Derived.Lib.Builder
import Derived.Lib.UnsafeStr
import Derived.Lib.Walk
import Derived.Laws.BitsLemmas
import Derived.Laws.Bits64
import Derived.Test.YtgimfagpolbelaaDoorGCall2
import Derived.Test.YtgimfagpolbelaaDoorGLo
import Derived.Laws.Bits64b
import Derived.Test.YtgimfagpolbelaaDoorGLe
import Derived.Test.YtgimfagpolbelaaDoorGCall3
import Derived.Test.YtgimfagpolbelaaDoorGFam
import Derived.Test.YtgimfagpolbelaaDoorGOpen
import Derived.Test.YtgimfagpolbelaaDoorGTab
/-
  Plain: trees, and what the document says of them.
-/
namespace Go.PL
set_option linter.unusedVariables false
set_option linter.unusedSimpArgs false
inductive T where
  | mk (kind : Int) (words : List Int) (kids : List T)
  deriving Inhabited
namespace T
def kind : T → Int | mk k _ _ => k
def words : T → List Int | mk _ w _ => w
def kids : T → List T | mk _ _ l => l
@[simp] theorem kind_mk {k : Int} {w : List Int} {l : List T} : (mk k w l).kind = k := rfl
@[simp] theorem words_mk {k : Int} {w : List Int} {l : List T} : (mk k w l).words = w := rfl
@[simp] theorem kids_mk {k : Int} {w : List Int} {l : List T} : (mk k w l).kids = l := rfl
end T
abbrev T0 : T := .mk 0 [] []
mutual
theorem T.ind {P : T → Prop} (h : ∀ k w l, (∀ t, t ∈ l → P t) → P (.mk k w l)) : ∀ t, P t
  | .mk k w l => h k w l (T.indL h l)
theorem T.indL {P : T → Prop} (h : ∀ k w l, (∀ t, t ∈ l → P t) → P (.mk k w l)) : ∀ (l : List T), ∀ t, t ∈ l → P t
  | [], t, ht => nomatch ht
  | x :: l, t, ht => by
    rcases List.mem_cons.1 ht with e | ht
    · rw [e]; exact T.ind h x
    · exact T.indL h l t ht
end
/-! ### the Norm -/
/-- Without what is nothing at the end. -/
def trimW (l : List Int) : List Int := (l.reverse.dropWhile (fun x => x == 0)).reverse
def trimK (l : List T) : List T := (l.reverse.dropWhile (fun x => x.kind == 0)).reverse
mutual
def norm : T → T
  | .mk k w l => if k = 0 then T0 else if k = 1 then .mk 1 (trimW w) (trimK (normL l)) else .mk k w (normL l)
def normL : List T → List T
  | [] => []
  | t :: l => norm t :: normL l
end
@[simp] theorem normL_map : ∀ l, normL l = l.map norm
  | [] => by simp [normL]
  | t :: l => by simp [normL, normL_map l]
theorem norm_mk (k : Int) (w : List Int) (l : List T) : norm (.mk k w l) = if k = 0 then T0 else if k = 1 then .mk 1 (trimW w) (trimK (l.map norm)) else .mk k w (l.map norm) := by simp [norm]
@[simp] theorem norm_kind (t : T) : (norm t).kind = t.kind := by
  cases t; rw [norm_mk]; split
  · rename_i h; rw [h]; rfl
  · split
    · rename_i h; rw [h]; rfl
    · rfl
@[simp] theorem trimW_nil : trimW [] = [] := rfl
@[simp] theorem trimK_nil : trimK [] = [] := rfl
/-! ### how many words a tree takes -/
/- As the program counts it. -/
/-! ### which trees may be -/
def widthZ (c : Int) : Int := if c = 0 then 0 else if c = 1 then 1 else if c = 2 then 8 else if c = 3 then 16 else if c = 4 then 32 else if c = 5 then 64 else -1
def fitsZ (c n : Int) : Bool := decide (0 ≤ widthZ c) && decide (n / 2 ^ (widthZ c).toNat = 0)
def isData (k : Int) : Bool := decide (2 ≤ k) && decide (k ≤ 7)
/-- May it be a kid of a list? -/
def kidOk (k : Int) (c : T) : Bool := !(isData k != decide (c.kind = 10) || decide (k = 9) && !decide (c.kind = 1) || isData k && !fitsZ (k - 2) (c.words.headD 0))
def tooBig (k : Int) (d nw nl : Nat) : Bool := decide (k < 0) || decide (k > 10) || decide (d = 0) || decide (nw ≥ 65536) || decide (k = 1) && decide (nl ≥ 65536) || decide (nl ≥ 1048576) || decide (k > 1) && decide (nw > 0)
mutual
def rightT : Nat → T → Bool
  | d, .mk k w l => if k = 0 then w.isEmpty && l.isEmpty else if k = 10 then decide (w.length = 1) && l.isEmpty
    else if tooBig k d w.length l.length = true then false else rightL (d - 1) k l
def rightL : Nat → Int → List T → Bool
  | _, _, [] => true
  | d, k, t :: l => rightT d t && kidOk k t && rightL d k l
end
theorem rightT_mk (d : Nat) (k : Int) (w : List Int) (l : List T) : rightT d (.mk k w l) = if k = 0 then w.isEmpty && l.isEmpty else if k = 10 then decide (w.length = 1) && l.isEmpty
    else if tooBig k d w.length l.length = true then false else rightL (d - 1) k l := by rw [rightT]
@[simp] theorem rightL_nil (d : Nat) (k : Int) : rightL d k [] = true := by rw [rightL]
@[simp] theorem rightL_cons (d : Nat) (k : Int) (t : T) (l : List T) : rightL d k (t :: l) = (rightT d t && kidOk k t && rightL d k l) := by rw [rightL]
theorem rightL_all {d : Nat} {k : Int} : ∀ {l : List T}, rightL d k l = true ↔ ∀ t, t ∈ l → rightT d t = true ∧ kidOk k t = true
  | [] => by simp
  | t :: l => by simp [rightL_all (l := l), and_assoc]
/- No deeper, and no more parts: what is left. -/
mutual
def shallow : Nat → Int → T → Int
  | d, n, .mk _ w l => if d = 0 ∨ n - 1 - w.length < 0 then -1 else shallowL (d - 1) (n - 1 - w.length) l
def shallowL : Nat → Int → List T → Int
  | _, n, [] => n
  | d, n, t :: l => if n < 0 then n else shallowL d (shallow d n t) l
end
theorem shallow_mk (d : Nat) (n : Int) (k : Int) (w : List Int) (l : List T) : shallow d n (.mk k w l) = if d = 0 ∨ n - 1 - w.length < 0 then -1 else shallowL (d - 1) (n - 1 - w.length) l := by rw [shallow]
@[simp] theorem shallowL_nil (d : Nat) (n : Int) : shallowL d n [] = n := by rw [shallowL]
@[simp] theorem shallowL_cons (d : Nat) (n : Int) (t : T) (l : List T) : shallowL d n (t :: l) = if n < 0 then n else shallowL d (shallow d n t) l := by rw [shallowL]
/-! ### the program's size is the document's, of a right tree's Norm -/
theorem rightT_struct {d : Nat} {k : Int} {w : List Int} {l : List T} (h : rightT d (.mk k w l) = true) : ∀ t, t ∈ l → rightT (d - 1) t = true ∧ kidOk k t = true := by
  rw [rightT_mk] at h
  split at h
  · simp at h; intro t ht; rw [h.2] at ht; cases ht
  · split at h
    · simp at h; intro t ht; rw [h.2] at ht; cases ht
    · split at h
      · cases h
      · exact rightL_all.1 h
end Go.PL

/-
  Plain: trees as texts, and how a text is read (for whichever reader of numbers).
-/
namespace Go.PL
set_option linter.unusedVariables false
set_option linter.unusedSimpArgs false
/-! ### numbers -/
def hexD (n : Nat) : UInt8 := if n < 10 then UInt8.ofNat (48 + n) else UInt8.ofNat (87 + n)
def hexV (c : UInt8) : Option Nat := if 48 ≤ c.toNat ∧ c.toNat ≤ 57 then some (c.toNat - 48) else if 97 ≤ c.toNat ∧ c.toNat ≤ 102 then some (c.toNat - 87) else none
def hexS (n : Nat) : List UInt8 := if n < 16 then [hexD n] else hexS (n / 16) ++ [hexD (n % 16)]
  termination_by n
theorem hexS_lt {n : Nat} (h : n < 16) : hexS n = [hexD n] := by rw [hexS, if_pos h]
theorem hexS_ge {n : Nat} (h : 16 ≤ n) : hexS n = hexS (n / 16) ++ [hexD (n % 16)] := by rw [hexS, if_neg (by omega)]
theorem hexS_step {m d : Nat} (hm : 1 ≤ m) (hd : d < 16) : hexS (m * 16 + d) = hexS m ++ [hexD d] := by
  rw [hexS_ge (by omega)]
  have e1 : (m * 16 + d) / 16 = m := by omega
  have e2 : (m * 16 + d) % 16 = d := by omega
  rw [e1, e2]
theorem hexD_nat {n : Nat} (h : n < 16) : (hexD n).toNat = if n < 10 then 48 + n else 87 + n := by
  unfold hexD
  split
  · rw [UInt8.toNat_ofNat']; exact Nat.mod_eq_of_lt (by omega)
  · rw [UInt8.toNat_ofNat']; exact Nat.mod_eq_of_lt (by omega)
theorem hexV_D {n : Nat} (h : n < 16) : hexV (hexD n) = some n := by
  have e := hexD_nat h
  unfold hexV
  rw [e]
  by_cases h1 : n < 10
  · rw [if_pos h1, if_pos (by omega)]; congr 1; omega
  · rw [if_neg h1, if_neg (by omega), if_pos (by omega)]; congr 1; omega
theorem hexD_V {c : UInt8} {d : Nat} (h : hexV c = some d) : d < 16 ∧ hexD d = c := by
  unfold hexV at h
  have hd : d < 16 := by
    split at h
    · cases h; omega
    · split at h
      · cases h; omega
      · cases h
  refine ⟨hd, ?_⟩
  apply UInt8.toNat_inj.1
  rw [hexD_nat hd]
  split at h
  · cases h; split <;> omega
  · split at h
    · cases h; split <;> omega
    · cases h
theorem hexS_pos (n : Nat) : 0 < (hexS n).length := by
  by_cases h : n < 16
  · rw [hexS_lt h]; simp
  · rw [hexS_ge (by omega)]; simp
/-- Each letter is a digit. -/
theorem hexS_all : ∀ (n : Nat), ∀ c, c ∈ hexS n → ∃ d, hexV c = some d := by
  intro n
  induction n using Nat.strongRecOn with
  | _ n ih =>
    intro c hc
    by_cases h : n < 16
    · rw [hexS_lt h] at hc
      simp at hc
      rw [hc]; exact ⟨n, hexV_D h⟩
    · rw [hexS_ge (by omega)] at hc
      rcases List.mem_append.1 hc with hc | hc
      · exact ih (n / 16) (by omega) c hc
      · simp at hc
        rw [hc]; exact ⟨_, hexV_D (Nat.mod_lt _ (by omega))⟩
theorem hexS_head : ∀ (n : Nat), 1 ≤ n → (hexS n).headD 0 ≠ 48 := by
  intro n
  induction n using Nat.strongRecOn with
  | _ n ih =>
    intro h1
    by_cases h : n < 16
    · rw [hexS_lt h]
      simp only [List.headD_cons]
      intro e
      have := hexD_nat h
      rw [e] at this
      have e48 : (48 : UInt8).toNat = 48 := rfl
      rw [e48] at this
      split at this <;> omega
    · rw [hexS_ge (by omega)]
      have h2 := ih (n / 16) (by omega) (by omega)
      have h3 := hexS_pos (n / 16)
      cases hq : hexS (n / 16) with
      | nil => rw [hq] at h3; simp at h3
      | cons c l => rw [hq] at h2; simpa using h2
theorem hexS_len : ∀ (j n : Nat), 1 ≤ j → n < 16 ^ j → (hexS n).length ≤ j := by
  intro j
  induction j with
  | zero => intro n h; omega
  | succ j ih =>
    intro n _ hn
    by_cases h : n < 16
    · rw [hexS_lt h]; simp
    · have hj : 1 ≤ j := by
        rcases Nat.eq_zero_or_pos j with e | e
        · subst e; simp at hn; omega
        · exact e
      rw [hexS_ge (by omega)]
      have := ih (n / 16) hj (by rw [Nat.pow_succ] at hn; omega)
      simp; exact this
/-- A reader of numbers: what it reads is just a number's text; it reads any. -/
structure NumR (num : List UInt8 → Nat × Bool × Nat) : Prop where
  to : ∀ r n k, num r = (n, true, k) → r.take k = hexS n ∧ n < 18446744073709551616 ∧ k ≤ r.length
  of : ∀ n rest, n < 18446744073709551616 → (∀ c, rest.head? = some c → hexV c = none) → num (hexS n ++ rest) = (n, true, (hexS n).length)
/-! ### the program's reader of numbers -/
def numGo : Nat → List UInt8 → Nat × Nat
  | n, [] => (n, 0)
  | n, x :: r => match hexV x with
    | some d => if n < 1152921504606846976 then ((numGo (n * 16 + d) r).1, (numGo (n * 16 + d) r).2 + 1) else (n, 0)
    | none => (n, 0)
def numP (r : List UInt8) : Nat × Bool × Nat := ((numGo 0 r).1, decide (0 < (numGo 0 r).2) && (decide ((numGo 0 r).2 = 1) || decide (r.headD 0 ≠ 48)), (numGo 0 r).2)
theorem numGo_le : ∀ (r : List UInt8) (n : Nat), n < 18446744073709551616 → (numGo n r).1 < 18446744073709551616 ∧ (numGo n r).2 ≤ r.length
  | [], n, h => by simp [numGo]; exact h
  | x :: r, n, h => by
    unfold numGo
    split
    · rename_i d hd
      have := (hexD_V hd).1
      split
      · have := numGo_le r (n * 16 + d) (by omega)
        simp; omega
      · simp; exact h
    · simp; exact h
theorem numGo_hex : ∀ (r : List UInt8) (m : Nat), 1 ≤ m → hexS m ++ r.take (numGo m r).2 = hexS (numGo m r).1
  | [], m, h => by simp [numGo]
  | x :: r, m, h => by
    unfold numGo
    split
    · rename_i d hd
      have hx := hexD_V hd
      split
      · have := numGo_hex r (m * 16 + d) (by omega)
        rw [hexS_step h hx.1, hx.2] at this
        simpa using this
      · simp
    · simp
theorem numGo_show : ∀ (q : Nat) (tail : List UInt8), q < 18446744073709551616 → numGo 0 (hexS q ++ tail) = ((numGo q tail).1, (numGo q tail).2 + (hexS q).length) := by
  intro q
  induction q using Nat.strongRecOn with
  | _ q ih =>
    intro tail hq
    by_cases h : q < 16
    · rw [hexS_lt h]
      simp only [List.singleton_append, numGo, hexV_D h]
      simp
    · rw [hexS_ge (by omega), List.append_assoc, List.singleton_append, ih (q / 16) (by omega) _ (by omega)]
      have h16 : q % 16 < 16 := Nat.mod_lt _ (by omega)
      have e : numGo (q / 16) (hexD (q % 16) :: tail) = ((numGo q tail).1, (numGo q tail).2 + 1) := by
        rw [numGo, hexV_D h16]
        simp only
        rw [if_pos (by omega)]
        have : q / 16 * 16 + q % 16 = q := by omega
        rw [this]
      rw [e]
      simp
      omega
theorem numGo_stop {n : Nat} {rest : List UInt8} (h : ∀ c, rest.head? = some c → hexV c = none) : numGo n rest = (n, 0) := by
  cases rest with
  | nil => rfl
  | cons c r => rw [numGo, h c rfl]
theorem numP_R : NumR numP where
  to := by
    intro r n k h
    unfold numP at h
    simp only [Prod.mk.injEq] at h
    obtain ⟨h1, h2, h3⟩ := h
    have hle := numGo_le r 0 (by omega)
    subst h1 h3
    refine ⟨?_, hle⟩
    cases r with
    | nil => simp [numGo] at h2
    | cons x r =>
      rw [numGo] at h2 ⊢
      cases hv : hexV x with
      | none => simp [hv] at h2
      | some d =>
        have hx := hexD_V hv
        simp only [hv] at h2 ⊢
        simp only [Nat.zero_mul, Nat.zero_add, List.headD_cons, if_pos (show (0 : Nat) < 1152921504606846976 by omega)] at h2 ⊢
        by_cases hd : d = 0
        · subst hd
          have h48 : x = 48 := by rw [← hx.2]; rfl
          simp [h48] at h2
          have hz : (numGo 0 r).2 = 0 := h2
          have hn : (numGo 0 r).1 = 0 := by
            cases r with
            | nil => rfl
            | cons y r =>
              rw [numGo] at hz ⊢
              cases hy : hexV y with
              | none => rfl
              | some e => simp [hy] at hz
          rw [hz, hn, h48, hexS_lt (by omega)]
          rfl
        · have := numGo_hex r d (by omega)
          rw [← this, hexS_lt hx.1, hx.2]
          simp
  of := by
    intro n rest hn hr
    unfold numP
    rw [numGo_show n rest hn, numGo_stop hr]
    have hp := hexS_pos n
    simp only [Nat.zero_add, Prod.mk.injEq, true_and, and_true]
    by_cases h : n < 16
    · rw [hexS_lt h]; simp
    · have h1 := hexS_head n (by omega)
      cases hq : hexS n with
      | nil => rw [hq] at hp; simp at hp
      | cons c l => rw [hq] at h1; simp at h1; simp [h1]
/-! ### the document's reader of numbers -/
def refGo : Nat → Nat → List UInt8 → Nat × Nat
  | 0, n, _ => (n, 0)
  | c + 1, n, [] => (n, 0)
  | c + 1, n, x :: r => match hexV x with
    | some d => ((refGo c ((n * 16 + d) % 18446744073709551616) r).1, (refGo c ((n * 16 + d) % 18446744073709551616) r).2 + 1)
    | none => (n, 0)
def numQ (r : List UInt8) : Nat × Bool × Nat := ((refGo 17 0 r).1, decide (0 < (refGo 17 0 r).2) && decide ((refGo 17 0 r).2 < 17) && (decide ((refGo 17 0 r).2 = 1) || decide (r.headD 0 ≠ 48)), (refGo 17 0 r).2)
theorem refGo_le : ∀ (c : Nat) (r : List UInt8) (n : Nat), (refGo c n r).2 ≤ r.length ∧ (refGo c n r).2 ≤ c
  | 0, r, n => by simp [refGo]
  | c + 1, [], n => by simp [refGo]
  | c + 1, x :: r, n => by
    unfold refGo
    split
    · rename_i d hd
      have := refGo_le c r ((n * 16 + d) % 18446744073709551616)
      simp; omega
    · simp
/-- j digits stand ahead, c may follow. -/
theorem refGo_hex : ∀ (c : Nat) (r : List UInt8) (m j : Nat), 1 ≤ m → m < 16 ^ j → j + (refGo c m r).2 ≤ 16 → hexS m ++ r.take (refGo c m r).2 = hexS (refGo c m r).1 ∧ (refGo c m r).1 < 16 ^ (j + (refGo c m r).2)
  | 0, r, m, j, h, hj, _ => by simp [refGo]; exact hj
  | c + 1, [], m, j, h, hj, _ => by simp [refGo]; exact hj
  | c + 1, x :: r, m, j, h, hj, hk => by
    unfold refGo at hk ⊢
    split at hk
    · rename_i d hd
      have hx := hexD_V hd
      simp only [hd] at hk ⊢
      have hpow : 16 ^ (j + 1) ≤ 16 ^ 16 := Nat.pow_le_pow_right (by omega) (by omega)
      have h16 : (16 : Nat) ^ 16 = 18446744073709551616 := by decide
      have hlt : m * 16 + d < 16 ^ (j + 1) := by rw [Nat.pow_succ]; omega
      have e : (m * 16 + d) % 18446744073709551616 = m * 16 + d := Nat.mod_eq_of_lt (by omega)
      rw [e] at hk ⊢
      have := refGo_hex c r (m * 16 + d) (j + 1) (by omega) hlt (by omega)
      rw [hexS_step h hx.1, hx.2] at this
      have e2 : j + 1 + (refGo c (m * 16 + d) r).2 = j + ((refGo c (m * 16 + d) r).2 + 1) := by omega
      rw [e2] at this
      simpa using this
    · rename_i hd
      simp [hd]; exact hj
theorem refGo_show : ∀ (q c : Nat) (tail : List UInt8), q < 18446744073709551616 → refGo (c + (hexS q).length) 0 (hexS q ++ tail) = ((refGo c q tail).1, (refGo c q tail).2 + (hexS q).length) := by
  intro q
  induction q using Nat.strongRecOn with
  | _ q ih =>
    intro c tail hq
    by_cases h : q < 16
    · rw [hexS_lt h]
      simp only [List.length_singleton, List.singleton_append, refGo, hexV_D h]
      have e : (0 * 16 + q) % 18446744073709551616 = q := by omega
      rw [e]
    · rw [hexS_ge (by omega)]
      have h16 : q % 16 < 16 := Nat.mod_lt _ (by omega)
      have e0 : c + (hexS (q / 16) ++ [hexD (q % 16)]).length = (c + 1) + (hexS (q / 16)).length := by simp; omega
      rw [e0, List.append_assoc, List.singleton_append, ih (q / 16) (by omega) _ _ (by omega)]
      have e : refGo (c + 1) (q / 16) (hexD (q % 16) :: tail) = ((refGo c q tail).1, (refGo c q tail).2 + 1) := by
        rw [refGo, hexV_D h16]
        have : (q / 16 * 16 + q % 16) % 18446744073709551616 = q := by omega
        simp only [this]
      rw [e]
      simp
      omega
theorem refGo_stop {c n : Nat} {rest : List UInt8} (h : ∀ x, rest.head? = some x → hexV x = none) : refGo c n rest = (n, 0) := by
  cases c with
  | zero => rfl
  | succ c => cases rest with
    | nil => rfl
    | cons x r => rw [refGo, h x rfl]
theorem numQ_R : NumR numQ where
  to := by
    intro r n k h
    unfold numQ at h
    simp only [Prod.mk.injEq] at h
    obtain ⟨h1, h2, h3⟩ := h
    have hle := refGo_le 17 r 0
    subst h1 h3
    have h16 : (16 : Nat) ^ 16 = 18446744073709551616 := by decide
    suffices r.take (refGo 17 0 r).2 = hexS (refGo 17 0 r).1 ∧ (refGo 17 0 r).1 < 18446744073709551616 from ⟨this.1, this.2, hle.1⟩
    cases r with
    | nil => simp [refGo] at h2
    | cons x r =>
      rw [refGo] at h2 ⊢
      cases hv : hexV x with
      | none => simp [hv] at h2
      | some d =>
        have hx := hexD_V hv
        simp only [hv] at h2 ⊢
        have e0 : (0 * 16 + d) % 18446744073709551616 = d := by omega
        rw [e0] at h2 ⊢
        simp only [List.headD_cons] at h2
        by_cases hd : d = 0
        · subst hd
          have h48 : x = 48 := by rw [← hx.2]; rfl
          simp [h48] at h2
          have hz : (refGo 16 0 r).2 = 0 := h2.2
          have hn : (refGo 16 0 r).1 = 0 := by
            cases r with
            | nil => rfl
            | cons y r =>
              rw [refGo] at hz ⊢
              cases hy : hexV y with
              | none => rfl
              | some e => simp [hy] at hz
          rw [hz, hn, h48, hexS_lt (by omega)]
          exact ⟨rfl, by omega⟩
        · have hk : (refGo 16 d r).2 + 1 < 17 := by simp at h2; exact h2.1
          have := refGo_hex 16 r d 1 (by omega) (by omega) (by omega)
          have hpow : 16 ^ (1 + (refGo 16 d r).2) ≤ 16 ^ 16 := Nat.pow_le_pow_right (by omega) (by omega)
          refine ⟨?_, by omega⟩
          rw [← this.1, hexS_lt hx.1, hx.2]
          simp
  of := by
    intro n rest hn hr
    have hl := hexS_len 16 n (by omega) (by omega)
    have e := refGo_show n (17 - (hexS n).length) rest hn
    rw [show 17 - (hexS n).length + (hexS n).length = 17 by omega, refGo_stop hr] at e
    unfold numQ
    rw [e]
    have hp := hexS_pos n
    simp only [Nat.zero_add, Prod.mk.injEq, true_and, and_true]
    by_cases h : n < 16
    · rw [hexS_lt h]; simp
    · have h1 := hexS_head n (by omega)
      cases hq : hexS n with
      | nil => rw [hq] at hp; simp at hp
      | cons c l => rw [hq] at h1 hl; simp at h1 hl; simp [h1]; omega
end Go.PL

/-
  Plain: how trees are told as texts, and read of them.
-/
namespace Go.PL
set_option linter.unusedVariables false
set_option linter.unusedSimpArgs false
/-! ### texts with commas between -/
def joinC : List (List UInt8) → List UInt8
  | [] => []
  | [x] => x
  | x :: y :: l => x ++ 44 :: joinC (y :: l)
@[simp] theorem joinC_nil : joinC [] = [] := rfl
@[simp] theorem joinC_one {x : List UInt8} : joinC [x] = x := rfl
theorem joinC_cons {x : List UInt8} {l : List (List UInt8)} (h : l ≠ []) : joinC (x :: l) = x ++ 44 :: joinC l := by
  cases l with
  | nil => exact (h rfl).elim
  | cons y l => rfl
theorem joinC_snoc : ∀ (l : List (List UInt8)) (x : List UInt8), joinC (l ++ [x]) = if l = [] then x else joinC l ++ 44 :: x
  | [], x => rfl
  | [y], x => rfl
  | y :: z :: l, x => by
    have := joinC_snoc (z :: l) x
    simp only [List.cons_append] at this ⊢
    rw [joinC, this]
    simp [joinC]
/-! ### a tree's text -/
def letters : List UInt8 := [46, 46, 118, 98, 121, 116, 102, 101, 112, 99]
def letS (k : Int) : UInt8 := letters.getD k.toNat 0
mutual
def showT : T → List UInt8
  | .mk k w l => if k = 10 ∧ w.length = 1 then hexS (w.headD 0).toNat
    else if k = 1 then 123 :: (joinC (w.map fun x => hexS x.toNat) ++ ((if l = [] then [] else 124 :: joinC (showLs l)) ++ [125]))
    else if 2 ≤ k ∧ k ≤ 9 then letS k :: 91 :: (joinC (showLs l) ++ [93]) else [95]
def showLs : List T → List (List UInt8)
  | [] => []
  | t :: l => showT t :: showLs l
end
theorem showLs_map : ∀ l, showLs l = l.map showT
  | [] => by rw [showLs]; rfl
  | t :: l => by rw [showLs, showLs_map l]; rfl
theorem showT_mk (k : Int) (w : List Int) (l : List T) : showT (.mk k w l) = if k = 10 ∧ w.length = 1 then hexS (w.headD 0).toNat
    else if k = 1 then 123 :: (joinC (w.map fun x => hexS x.toNat) ++ ((if l = [] then [] else 124 :: joinC (l.map showT)) ++ [125]))
    else if 2 ≤ k ∧ k ≤ 9 then letS k :: 91 :: (joinC (l.map showT) ++ [93]) else [95] := by rw [showT, showLs_map]
/-! ### how a text is read -/
def eatB : List UInt8 → UInt8 → Bool
  | [], _ => false
  | x :: _, c => x == c
@[simp] theorem eatB_cons {x c : UInt8} {r : List UInt8} : eatB (x :: r) c = (x == c) := rfl
@[simp] theorem eatB_nil {c : UInt8} : eatB [] c = false := rfl
def idxB : List UInt8 → UInt8 → Int
  | [], _ => -1
  | b :: l, c => if b == c then 0 else if idxB l c == -1 then -1 else idxB l c + 1
def letV (c : UInt8) : Int := idxB letters c
section
variable (num : List UInt8 → Nat × Bool × Nat)
def numsM : Nat → List UInt8 → List Int × Bool × Nat
  | 0, r => ([], false, 0)
  | f + 1, r => if (num r).2.1 = true then
      if eatB (r.drop (num r).2.2) 44 = true then
        let q := numsM f (r.drop ((num r).2.2 + 1))
        (if q.2.1 = true then ((num r).1 : Int) :: q.1 else [], q.2.1, (num r).2.2 + 1 + q.2.2)
      else ([((num r).1 : Int)], true, (num r).2.2)
    else ([], false, (num r).2.2)
def numT (r : List UInt8) : T × Bool × Nat := (.mk 10 [((num r).1 : Int)] [], (num r).2.1, (num r).2.2)
end
def kidsGo (p : List UInt8 → T × Bool × Nat) (e : UInt8) : Nat → List UInt8 → List T × Bool × Nat
  | 0, r => ([], false, 0)
  | f + 1, r => if (p r).2.1 = true then
      if eatB (r.drop (p r).2.2) e = true then ([(p r).1], true, (p r).2.2 + 1)
      else if eatB (r.drop (p r).2.2) 44 = true then
        let g := kidsGo p e f (r.drop ((p r).2.2 + 1))
        (if g.2.1 = true then (p r).1 :: g.1 else [], g.2.1, (p r).2.2 + 1 + g.2.2)
      else ([], false, (p r).2.2)
    else ([], false, (p r).2.2)
def txKids (p : List UInt8 → T × Bool × Nat) (e : UInt8) (r : List UInt8) : List T × Bool × Nat :=
  if eatB r e = true then ([], true, 1) else kidsGo p e (r.length + 1) r
def wsM (num : List UInt8 → Nat × Bool × Nat) (r : List UInt8) : List Int × Bool × Nat := if r.headD 0 ≠ 124 then numsM num (r.length + 1) r else ([], true, 0)
/-- Behind the words. -/
def tailM (kp : List UInt8 → List T × Bool × Nat) (ws : List Int) (r : List UInt8) : T × Bool × Nat :=
  if eatB r 125 = true then (.mk 1 ws [], true, 1)
  else if eatB r 124 = true then
    if (r.drop 1).headD 0 = 125 then (.mk 1 ws [], false, 1)
    else (.mk 1 ws (kp (r.drop 1)).1, (kp (r.drop 1)).2.1, 1 + (kp (r.drop 1)).2.2)
  else (.mk 1 ws [], false, 0)
def structM (num : List UInt8 → Nat × Bool × Nat) (kp : List UInt8 → List T × Bool × Nat) (r : List UInt8) : T × Bool × Nat :=
  if eatB r 125 = true then (.mk 1 [] [], true, 1)
  else if (wsM num r).2.1 = true then
    let q := tailM kp (wsM num r).1 (r.drop (wsM num r).2.2)
    (q.1, q.2.1, (wsM num r).2.2 + q.2.2)
  else (.mk 1 [] [], false, (wsM num r).2.2)
def isD (k : Int) : Bool := decide (2 ≤ k) && decide (k ≤ 7)
def treeM (num : List UInt8 → Nat × Bool × Nat) : Nat → List UInt8 → T × Bool × Nat
  | d, r => if eatB r 95 = true then (T0, true, 1) else match d with
    | 0 => (T0, false, 0)
    | d + 1 =>
      if eatB r 123 = true then
        let q := structM num (txKids (treeM num d) 125) (r.drop 1)
        (q.1, q.2.1, 1 + q.2.2)
      else if letV (r.headD 0) < 2 then (T0, false, 0)
      else if eatB (r.drop 1) 91 = true then
        let g := txKids (if isD (letV (r.headD 0)) = true then numT num else treeM num d) 93 (r.drop 2)
        (.mk (letV (r.headD 0)) [] g.1, g.2.1, 2 + g.2.2)
      else (T0, false, 1)
theorem treeM_zero (num : List UInt8 → Nat × Bool × Nat) (r : List UInt8) : treeM num 0 r = if eatB r 95 = true then (T0, true, 1) else (T0, false, 0) := by rw [treeM]
theorem treeM_succ (num : List UInt8 → Nat × Bool × Nat) (d : Nat) (r : List UInt8) : treeM num (d + 1) r = if eatB r 95 = true then (T0, true, 1) else
      if eatB r 123 = true then ((structM num (txKids (treeM num d) 125) (r.drop 1)).1, (structM num (txKids (treeM num d) 125) (r.drop 1)).2.1, 1 + (structM num (txKids (treeM num d) 125) (r.drop 1)).2.2)
      else if letV (r.headD 0) < 2 then (T0, false, 0)
      else if eatB (r.drop 1) 91 = true then
        (.mk (letV (r.headD 0)) [] (txKids (if isD (letV (r.headD 0)) = true then numT num else treeM num d) 93 (r.drop 2)).1, (txKids (if isD (letV (r.headD 0)) = true then numT num else treeM num d) 93 (r.drop 2)).2.1, 2 + (txKids (if isD (letV (r.headD 0)) = true then numT num else treeM num d) 93 (r.drop 2)).2.2)
      else (T0, false, 1) := by rw [treeM]
/-! ### what is read is a tree whose text it is -/
def atomOk (t : T) : Prop := t.kind = 10 ∧ t.kids = [] ∧ ∃ n : Nat, t.words = [(n : Int)] ∧ n < 18446744073709551616
def proper : Nat → T → Prop
  | 0, t => t = T0
  | d + 1, t => t = T0 ∨ (t.kind = 1 ∧ (∀ x, x ∈ t.words → 0 ≤ x ∧ x < 18446744073709551616) ∧ ∀ c, c ∈ t.kids → proper d c) ∨
    (2 ≤ t.kind ∧ t.kind ≤ 9 ∧ t.words = [] ∧ ∀ c, c ∈ t.kids → if isD t.kind = true then atomOk c else proper d c)
theorem T.mkOf {t : T} {k : Int} {w : List Int} {l : List T} (h1 : t.kind = k) (h2 : t.words = w) (h3 : t.kids = l) : t = .mk k w l := by cases t; simp at h1 h2 h3; rw [h1, h2, h3]
theorem show_atom {t : T} (h : atomOk t) : ∃ n : Nat, t = .mk 10 [(n : Int)] [] ∧ n < 18446744073709551616 ∧ showT t = hexS n := by
  obtain ⟨h1, h2, n, h3, h4⟩ := h
  have e := T.mkOf h1 h3 h2
  refine ⟨n, e, h4, ?_⟩
  rw [e, showT_mk]
  simp
theorem letV_S : ∀ k : Nat, k < 10 → 2 ≤ k → letV (letS (k : Int)) = k ∧ letS (k : Int) ≠ 95 ∧ letS (k : Int) ≠ 123 ∧ letS (k : Int) ≠ 125 ∧ letS (k : Int) ≠ 93 := by decide
theorem letV_spec {k : Int} (h1 : 2 ≤ k) (h2 : k ≤ 9) : letV (letS k) = k ∧ letS k ≠ 95 ∧ letS k ≠ 123 ∧ letS k ≠ 125 ∧ letS k ≠ 93 := by
  have := letV_S k.toNat (by omega) (by omega)
  rwa [Int.toNat_of_nonneg (by omega)] at this
theorem idxB_spec : ∀ (l : List UInt8) (c : UInt8), idxB l c = -1 ∨ (0 ≤ idxB l c ∧ idxB l c < l.length ∧ l[(idxB l c).toNat]? = some c)
  | [], c => .inl rfl
  | b :: l, c => by
    unfold idxB
    by_cases h : (b == c) = true
    · rw [if_pos h]
      right
      simp at h
      simp [h]
    · rw [if_neg h]
      rcases idxB_spec l c with e | ⟨e1, e2, e3⟩
      · simp [e]
      · right
        have hne : ¬ (idxB l c == -1) = true := by simp; omega
        rw [if_neg hne]
        refine ⟨by omega, by simp; omega, ?_⟩
        have : (idxB l c + 1).toNat = (idxB l c).toNat + 1 := by omega
        rw [this]
        simpa using e3
theorem letS_V {c : UInt8} (h : ¬ letV c < 2) : 2 ≤ letV c ∧ letV c ≤ 9 ∧ letS (letV c) = c := by
  rcases idxB_spec letters c with e | ⟨e1, e2, e3⟩
  · unfold letV at h; omega
  · have e2 : letV c < 10 := e2
    refine ⟨by omega, by omega, ?_⟩
    unfold letS
    rw [List.getD_eq_getElem?_getD]
    show (letters[(idxB letters c).toNat]?).getD 0 = c
    rw [e3]; rfl
theorem triple {α : Type} {q : α × Bool × Nat} (h : q.2.1 = true) : q = (q.1, true, q.2.2) := by
  obtain ⟨a, b, c⟩ := q
  simp at h
  rw [h]
theorem take_plus {α : Type} (r : List α) (a b : Nat) : r.take (a + b) = r.take a ++ (r.drop a).take b := List.take_add ..
theorem eat_take {r : List UInt8} {c : UInt8} {k : Nat} (h : eatB (r.drop k) c = true) : k < r.length ∧ (r.drop k).take 1 = [c] := by
  cases hq : r.drop k with
  | nil => rw [hq] at h; cases h
  | cons x q =>
    rw [hq] at h
    simp at h
    have : k < r.length := by
      apply Nat.lt_of_not_le
      intro hk
      rw [List.drop_of_length_le hk] at hq
      cases hq
    exact ⟨this, by simp [h]⟩
section
variable {num : List UInt8 → Nat × Bool × Nat}
/-- A reader of things: what it reads is just such a thing's text. -/
def RdTo (p : List UInt8 → T × Bool × Nat) (Q : T → Prop) : Prop := ∀ r t k, p r = (t, true, k) → r.take k = showT t ∧ k ≤ r.length ∧ Q t
theorem numsM_to (h : NumR num) : ∀ (f : Nat) (r : List UInt8) (ws : List Int) (k : Nat), numsM num f r = (ws, true, k) → r.take k = joinC (ws.map fun x => hexS x.toNat) ∧ k ≤ r.length ∧ ws ≠ [] ∧ ∀ x, x ∈ ws → 0 ≤ x ∧ x < 18446744073709551616
  | 0, r, ws, k, e => by simp [numsM] at e
  | f + 1, r, ws, k, e => by
    unfold numsM at e
    split at e
    · rename_i ho
      have hn := triple ho
      obtain ⟨g1, g2, g3⟩ := h.to _ _ _ hn
      split at e
      · rename_i hc
        simp only [Prod.mk.injEq] at e
        obtain ⟨e1, e2, e3⟩ := e
        rw [if_pos e2] at e1
        obtain ⟨i1, i2, i3, i4⟩ := numsM_to h f _ _ _ (triple e2)
        obtain ⟨c1, c2⟩ := eat_take hc
        subst e1 e3
        refine ⟨?_, ?_, by simp, fun x hx => ?_⟩
        · rw [take_plus, take_plus, g1, c2, i1, List.map_cons, joinC_cons (by simpa using i3)]
          simp
        · simp at i2; omega
        · rcases List.mem_cons.1 hx with rfl | hx
          · omega
          · exact i4 x hx
      · simp only [Prod.mk.injEq] at e
        obtain ⟨e1, _, e3⟩ := e
        subst e1 e3
        refine ⟨by simpa using g1, g3, by simp, fun x hx => ?_⟩
        simp at hx; omega
    · simp at e
theorem numT_to (h : NumR num) : RdTo (numT num) atomOk := fun r t k e => by
  unfold numT at e
  simp only [Prod.mk.injEq] at e
  obtain ⟨e1, e2, e3⟩ := e
  have hn := triple e2
  obtain ⟨g1, g2, g3⟩ := h.to _ _ _ hn
  subst e1 e3
  refine ⟨?_, g3, rfl, rfl, _, rfl, g2⟩
  rw [g1, showT_mk]
  simp
theorem kidsGo_to {p : List UInt8 → T × Bool × Nat} {Q : T → Prop} (h : RdTo p Q) (e : UInt8) : ∀ (f : Nat) (r : List UInt8) (l : List T) (k : Nat), kidsGo p e f r = (l, true, k) →
    r.take k = joinC (l.map showT) ++ [e] ∧ k ≤ r.length ∧ l ≠ [] ∧ ∀ c, c ∈ l → Q c
  | 0, r, l, k, q => by simp [kidsGo] at q
  | f + 1, r, l, k, q => by
    unfold kidsGo at q
    split at q
    · rename_i ho
      have hn := triple ho
      obtain ⟨g1, g2, g3⟩ := h _ _ _ hn
      split at q
      · rename_i hc
        simp only [Prod.mk.injEq] at q
        obtain ⟨e1, _, e3⟩ := q
        obtain ⟨c1, c2⟩ := eat_take hc
        subst e1 e3
        refine ⟨by rw [take_plus, g1, c2]; simp, by omega, by simp, fun c hc => ?_⟩
        simp at hc; rw [hc]; exact g3
      · split at q
        · rename_i hc
          simp only [Prod.mk.injEq] at q
          obtain ⟨e1, e2, e3⟩ := q
          rw [if_pos e2] at e1
          obtain ⟨i1, i2, i3, i4⟩ := kidsGo_to h e f _ _ _ (triple e2)
          obtain ⟨c1, c2⟩ := eat_take hc
          subst e1 e3
          refine ⟨?_, ?_, by simp, fun x hx => ?_⟩
          · rw [take_plus, take_plus, g1, c2, i1, List.map_cons, joinC_cons (by simpa using i3)]
            simp
          · simp at i2; omega
          · rcases List.mem_cons.1 hx with rfl | hx
            · exact g3
            · exact i4 x hx
        · simp at q
    · simp at q
theorem txKids_to {p : List UInt8 → T × Bool × Nat} {Q : T → Prop} (h : RdTo p Q) (e : UInt8) (r : List UInt8) (l : List T) (k : Nat) (q : txKids p e r = (l, true, k)) :
    r.take k = joinC (l.map showT) ++ [e] ∧ k ≤ r.length ∧ (l = [] → eatB r e = true) ∧ ∀ c, c ∈ l → Q c := by
  unfold txKids at q
  split at q
  · rename_i hc
    simp only [Prod.mk.injEq] at q
    obtain ⟨e1, _, e3⟩ := q
    subst e1 e3
    obtain ⟨c1, c2⟩ := eat_take (k := 0) (by simpa using hc)
    exact ⟨by simpa using c2, by omega, fun _ => hc, fun c hc => by simp at hc⟩
  · obtain ⟨h1, h2, h3, h4⟩ := kidsGo_to h e _ _ _ _ q
    exact ⟨h1, h2, fun e => (h3 e).elim, h4⟩
theorem eat_head {r : List UInt8} {c : UInt8} (h : eatB r c = true) : r.headD 0 = c := by
  cases r with
  | nil => cases h
  | cons x r => simpa using h
theorem treeM_to (h : NumR num) : ∀ d, RdTo (treeM num d) (proper d)
  | 0 => fun r t k q => by
    rw [treeM_zero] at q
    split at q
    · rename_i hc
      simp only [Prod.mk.injEq] at q
      obtain ⟨e1, _, e3⟩ := q
      subst e1 e3
      obtain ⟨c1, c2⟩ := eat_take (k := 0) (by simpa using hc)
      refine ⟨?_, by omega, rfl⟩
      rw [showT_mk]; simpa using c2
    · simp at q
  | d + 1 => fun r t k q => by
    have ih := treeM_to h d
    rw [treeM_succ] at q
    split at q
    · rename_i hc
      simp only [Prod.mk.injEq] at q
      obtain ⟨e1, _, e3⟩ := q
      subst e1 e3
      obtain ⟨c1, c2⟩ := eat_take (k := 0) (by simpa using hc)
      refine ⟨?_, by omega, .inl rfl⟩
      rw [showT_mk]; simpa using c2
    · split at q
      · rename_i hc
        obtain ⟨c1, c2⟩ := eat_take (k := 0) (by simpa using hc)
        simp only [List.drop_zero] at c2
        simp only [Prod.mk.injEq] at q
        obtain ⟨e1, e2, e3⟩ := q
        suffices ∀ (t : T) (k : Nat), structM num (txKids (treeM num d) 125) (r.drop 1) = (t, true, k) → (r.drop 1).take k ++ [] = (showT t).drop 1 ∧ k + 1 ≤ r.length ∧ showT t = 123 :: (showT t).drop 1 ∧ proper (d + 1) t by
          obtain ⟨g1, g2, g3, g4⟩ := this _ _ (triple e2)
          subst e1 e3
          refine ⟨?_, by omega, g4⟩
          rw [take_plus, c2, g3, ← g1]
          simp
        clear e1 e2 e3
        intro t k q
        unfold structM at q
        split at q
        · rename_i hc2
          simp only [Prod.mk.injEq] at q
          obtain ⟨e1, _, e3⟩ := q
          subst e1 e3
          obtain ⟨b1, b2⟩ := eat_take hc2
          refine ⟨?_, by omega, ?_, .inr (.inl ⟨rfl, fun x hx => by simp at hx, fun c hc => by simp at hc⟩)⟩
          · rw [showT_mk, b2]; simp
          · rw [showT_mk]; simp
        · split at q
          · rename_i hw
            have hws : (r.drop 1).take (wsM num (r.drop 1)).2.2 = joinC ((wsM num (r.drop 1)).1.map fun x => hexS x.toNat) ∧ (wsM num (r.drop 1)).2.2 ≤ (r.drop 1).length ∧ ∀ x, x ∈ (wsM num (r.drop 1)).1 → 0 ≤ x ∧ x < 18446744073709551616 := by
              unfold wsM at hw ⊢
              split at hw
              · rename_i h124
                rw [if_pos h124]
                obtain ⟨i1, i2, _, i4⟩ := numsM_to h _ _ _ _ (triple hw)
                exact ⟨i1, i2, i4⟩
              · rename_i h124
                rw [if_neg h124]
                simp
            obtain ⟨w1, w2, w3⟩ := hws
            generalize hwv : wsM num (r.drop 1) = W at q hw w1 w2 w3
            simp only [Prod.mk.injEq] at q
            obtain ⟨e1, e2, e3⟩ := q
            unfold tailM at e1 e2 e3
            split at e2
            · rename_i hc3
              rw [if_pos hc3] at e1 e3
              simp only at e1 e3
              subst e1 e3
              obtain ⟨b1, b2⟩ := eat_take hc3
              refine ⟨?_, by simp at b1; omega, ?_, .inr (.inl ⟨rfl, w3, fun c hc => by simp at hc⟩)⟩
              · rw [take_plus, w1, b2, showT_mk]; simp
              · rw [showT_mk]; simp
            · rename_i hc3
              rw [if_neg hc3] at e1 e3
              split at e2
              · rename_i hc4
                rw [if_pos hc4] at e1 e3
                split at e2
                · cases e2
                · rename_i hc5
                  rw [if_neg hc5] at e1 e3
                  obtain ⟨b1, b2⟩ := eat_take hc4
                  obtain ⟨k1, k2, k3, k4⟩ := txKids_to ih 125 _ _ _ (triple e2)
                  generalize txKids (treeM num d) 125 (((r.drop 1).drop W.2.2).drop 1) = G at e1 e2 e3 k1 k2 k3 k4
                  have hne : G.1 ≠ [] := fun e => hc5 (eat_head (k3 e))
                  simp only at e1 e3
                  subst e1 e3
                  refine ⟨?_, by simp at b1 k2; omega, ?_, .inr (.inl ⟨rfl, w3, k4⟩)⟩
                  · rw [take_plus, w1, take_plus, b2, k1, showT_mk]; simp [hne]
                  · rw [showT_mk]; simp
              · cases e2
          · simp at q
      · split at q
        · simp at q
        · rename_i hl
          obtain ⟨l1, l2, l3⟩ := letS_V hl
          split at q
          · rename_i hc2
            obtain ⟨b1, b2⟩ := eat_take hc2
            have hhd : r.take 1 = [r.headD 0] := by
              cases r with
              | nil => simp at b1
              | cons x r => rfl
            generalize hk : letV (r.headD 0) = K at q hl l1 l2 l3
            simp only [Prod.mk.injEq] at q
            obtain ⟨e1, e2, e3⟩ := q
            have hto : RdTo (if isD K = true then numT num else treeM num d) (fun c => if isD K = true then atomOk c else proper d c) := by
              by_cases hD : isD K = true
              · simp only [hD, if_true]; exact numT_to h
              · simp only [hD, if_false]; exact ih
            obtain ⟨k1, k2, k3, k4⟩ := txKids_to hto 93 _ _ _ (triple e2)
            generalize txKids (if isD K = true then numT num else treeM num d) 93 (r.drop 2) = G at e1 e2 e3 k1 k2 k3 k4
            subst e1 e3
            refine ⟨?_, by simp at k2; omega, .inr (.inr ⟨l1, l2, rfl, k4⟩)⟩
            rw [show 2 + G.2.2 = 1 + (1 + G.2.2) by omega, take_plus, hhd, take_plus, b2, List.drop_drop, k1, showT_mk, if_neg (by omega), if_neg (by omega), if_pos ⟨l1, l2⟩, l3]
            simp
          · simp at q
end
end Go.PL

/-
  The functions' text as data, and the facts on the types that they use: written by a program of ours (gen2.py) off the translation.
-/
namespace Go.Proofs.YtgimfagpolbelaaDoor
set_option linter.unusedVariables false
set_option linter.unusedSimpArgs false
set_option maxRecDepth 20000
open Go Go.G Go.Proofs
theorem mixed : Tryd.prog.follows .mixedOrders = true := by kernel_rfl
end Go.Proofs.YtgimfagpolbelaaDoor

/-
  The functions' text as data, and the facts on the types that they use: written by a program of ours (gen2.py) off the translation.
-/
namespace Go.Proofs.YtgimfagpolbelaaDoor
set_option linter.unusedVariables false
set_option linter.unusedSimpArgs false
set_option maxRecDepth 20000
open Go Go.G Go.Proofs
@[simp] theorem und_3 : Tryd.prog.underlying 3 = some (.int .i64) := by kernel_rfl
@[simp] theorem und_22 : Tryd.prog.underlying 22 = some (.slice 40) := by kernel_rfl
@[simp] theorem und_40 : Tryd.prog.underlying 40 = some (.int .u64) := by kernel_rfl
@[simp] theorem und_98 : Tryd.prog.underlying 98 = some (.array 6 3) := by kernel_rfl
@[simp] theorem szT_3 : szT Tryd.prog 3 = some 1 := by kernel_rfl
@[simp] theorem szT_40 : szT Tryd.prog 40 = some 1 := by kernel_rfl
@[simp] theorem szT_98 : szT Tryd.prog 98 = some 6 := by kernel_rfl
@[simp] theorem aggT_3 : aggT Tryd.prog 3 = some false := by kernel_rfl
@[simp] theorem aggT_40 : aggT Tryd.prog 40 = some false := by kernel_rfl
@[simp] theorem zeroT_40 : zeroT Tryd.prog 40 = some (Value.int IntKind.u64 0) := by kernel_rfl
@[simp] theorem zeroT_98 : zeroT Tryd.prog 98 = some (Value.agg #[Value.int IntKind.i64 0, Value.int IntKind.i64 0, Value.int IntKind.i64 0, Value.int IntKind.i64 0, Value.int IntKind.i64 0, Value.int IntKind.i64 0]) := by kernel_rfl
@[simp] theorem bytesT_40 : bytesT Tryd.prog 40 = some 8 := by kernel_rfl
@[simp] theorem buildA_98 (ps : List (Nat × A)) : buildA Tryd.prog 98 ps = (fillA (fun i => some (i * 1, 1)) [A.v (Value.int IntKind.i64 0), A.v (Value.int IntKind.i64 0), A.v (Value.int IntKind.i64 0), A.v (Value.int IntKind.i64 0), A.v (Value.int IntKind.i64 0), A.v (Value.int IntKind.i64 0)] ps).map A.agg := by kernel_rfl
/-- cento/centoref01.Width -/
def c_centoref01_Width : CC :=
  .seq (.reg [co (some 2) (.assign (.const (.int .i64 0))) none] [0])
  (.seq (.seq (.reg [co (some 3) (.move (.tmp 0)) none] [3])
    (.block 0
      (.seq (.reg [co (some 5) (.binOp .eql 3 (.tmp 3) (.const (.int .i64 0)) 3) none,
          co (some 4) (.assign (.tmp 5)) none] [3, 4])
      (.cond (.tmp 4)
        (.seq (.reg [co (some 2) (.assign (.const (.int .i64 0))) none] [2])
        (.ret))
        (.seq (.reg [co (some 7) (.binOp .eql 3 (.tmp 3) (.const (.int .i64 1)) 3) none,
            co (some 6) (.assign (.tmp 7)) none] [3, 6])
        (.cond (.tmp 6)
          (.seq (.reg [co (some 2) (.assign (.const (.int .i64 1))) none] [2])
          (.ret))
          (.seq (.reg [co (some 9) (.binOp .eql 3 (.tmp 3) (.const (.int .i64 2)) 3) none,
              co (some 8) (.assign (.tmp 9)) none] [3, 8])
          (.cond (.tmp 8)
            (.seq (.reg [co (some 2) (.assign (.const (.int .i64 8))) none] [2])
            (.ret))
            (.seq (.reg [co (some 11) (.binOp .eql 3 (.tmp 3) (.const (.int .i64 3)) 3) none,
                co (some 10) (.assign (.tmp 11)) none] [3, 10])
            (.cond (.tmp 10)
              (.seq (.reg [co (some 2) (.assign (.const (.int .i64 16))) none] [2])
              (.ret))
              (.seq (.reg [co (some 13) (.binOp .eql 3 (.tmp 3) (.const (.int .i64 4)) 3) none,
                  co (some 12) (.assign (.tmp 13)) none] [3, 12])
              (.cond (.tmp 12)
                (.seq (.reg [co (some 2) (.assign (.const (.int .i64 32))) none] [2])
                (.ret))
                (.seq (.reg [co (some 15) (.binOp .eql 3 (.tmp 3) (.const (.int .i64 5)) 3) none,
                    co (some 14) (.assign (.tmp 15)) none] [14])
                (.cond (.tmp 14)
                  (.seq (.reg [co (some 2) (.assign (.const (.int .i64 64))) none] [2])
                  (.ret))
                  (.skip)))))))))))))))
  (.keep [] (.seq (.reg [co (some 2) (.assign (.const (.int .i64 (-1)))) none] [2])
  (.ret))))
theorem t_centoref01_Width : Txt Tryd.prog 24 16 [(.tmp 2)] c_centoref01_Width := txt_of (code := Tryd.f24.body.getD .ret) mixed (by kernel_rfl) Tryd.func24 (by kernel_rfl) Tryd.ntmps24 (by kernel_rfl) (ls := [([0], []), ([], []), ([3], []), ([], []), ([3, 4], []), ([], []), ([2], []), ([], []), ([3, 6], []), ([], []), ([2], []), ([], []), ([3, 8], []), ([], []), ([2], []), ([], []), ([3, 10], []), ([], []), ([2], []), ([], []), ([3, 12], []), ([], []), ([2], []), ([], []), ([14], []), ([], []), ([2], []), ([], []), ([999999], []), ([2], []), ([], [])]) (by kernel_rfl)
def l1_centoref01_Fits : CC :=
  .seq (.seq (.reg [co (some 11) (.move (.tmp 6)) none,
        co (some 12) (.move (.tmp 5)) none,
        co (some 13) (.binOp .lss 3 (.tmp 11) (.tmp 12) 3) none] [1, 5, 6, 13])
    (.cond (.tmp 13)
      (.skip)
      (.exit 0)))
  (.keep [1, 5, 6] (.seq (.block 1
      (.reg [co (some 16) (.move (.tmp 1)) none,
        co (some 17) (.binOp .quo 40 (.tmp 16) (.const (.int .u64 2)) 40) none,
        co (some 1) (.assign (.tmp 17)) none] [1, 5, 6]))
  (.reg [co (some 14) (.move (.tmp 6)) none,
    co (some 15) (.binOp .add 3 (.tmp 14) (.const (.int .i64 1)) 3) none,
    co (some 6) (.assign (.tmp 15)) none] [1, 5, 6])))
/-- cento/centoref01.Fits -/
def c_centoref01_Fits : CC :=
  .seq (.reg [co (some 4) (.assign (.const (.bool false))) none] [0, 1])
  (.seq (.reg [co (some 7) (.move (.tmp 0)) none,
      co (some 8) (.call { callee := (.value (.func 24)), args := #[(.tmp 7)], argTypes := #[3] }) none,
      co (some 5) (.assign (.tmp 8)) none] [1, 5])
  (.seq (.seq (.reg [co (some 9) (.move (.tmp 5)) none,
        co (some 10) (.binOp .lss 3 (.tmp 9) (.const (.int .i64 0)) 3) none] [1, 5, 10])
    (.cond (.tmp 10)
      (.seq (.reg [co (some 4) (.assign (.const (.bool false))) none] [4])
      (.ret))
      (.skip)))
  (.keep [1, 5] (.seq (.seq (.reg [co (some 6) (.assign (.const (.int .i64 0))) none] [1, 5, 6])
    (.block 0
      (.loop l1_centoref01_Fits)))
  (.keep [1] (.seq (.reg [co (some 18) (.move (.tmp 1)) none,
      co (some 19) (.binOp .eql 40 (.tmp 18) (.const (.int .u64 0)) 40) none,
      co (some 4) (.assign (.tmp 19)) none] [4])
  (.ret)))))))
theorem t_centoref01_Fits : Txt Tryd.prog 15 20 [(.tmp 4)] c_centoref01_Fits := txt_of (code := Tryd.f15.body.getD .ret) mixed (by kernel_rfl) Tryd.func15 (by kernel_rfl) Tryd.ntmps15 (by kernel_rfl) (ls := [([0, 1], []), ([], []), ([1, 5], []), ([], []), ([1, 5, 10], []), ([], []), ([4], []), ([], []), ([999999, 1, 5], []), ([1, 5, 6], []), ([], []), ([1, 5, 6, 13], []), ([], []), ([999999, 1, 5, 6], []), ([1, 5, 6], []), ([], []), ([1, 5, 6], []), ([999999, 1], []), ([4], []), ([], [])]) (by kernel_rfl)
def l1_centoref01_Same : CC :=
  .seq (.seq (.reg [co (some 11) (.move (.tmp 5)) none,
        co (some 12) (.move (.tmp 0)) none,
        co (some 13) (.call { callee := (.builtin .len), args := #[(.tmp 12)], argTypes := #[22] }) none,
        co (some 14) (.binOp .lss 3 (.tmp 11) (.tmp 13) 3) none] [0, 1, 5, 14])
    (.cond (.tmp 14)
      (.skip)
      (.exit 0)))
  (.keep [0, 1, 5] (.seq (.block 1
      (.seq (.reg [co (some 17) (.move (.tmp 0)) none,
          co (some 18) (.move (.tmp 5)) none,
          co (some 19) (.indexAddr 22 (.tmp 17) (.tmp 18)) none,
          co (some 20) (.load 40 (.tmp 19)) none,
          co (some 21) (.move (.tmp 1)) none,
          co (some 22) (.move (.tmp 5)) none,
          co (some 23) (.indexAddr 22 (.tmp 21) (.tmp 22)) none,
          co (some 24) (.load 40 (.tmp 23)) none,
          co (some 25) (.binOp .neq 40 (.tmp 20) (.tmp 24) 40) none] [0, 1, 5, 25])
      (.cond (.tmp 25)
        (.seq (.reg [co (some 4) (.assign (.const (.bool false))) none] [4])
        (.ret))
        (.skip))))
  (.keep [0, 1, 5] (.reg [co (some 15) (.move (.tmp 5)) none,
    co (some 16) (.binOp .add 3 (.tmp 15) (.const (.int .i64 1)) 3) none,
    co (some 5) (.assign (.tmp 16)) none] [0, 1, 5]))))
/-- cento/centoref01.Same -/
def c_centoref01_Same : CC :=
  .seq (.reg [co (some 4) (.assign (.const (.bool false))) none] [0, 1])
  (.seq (.seq (.reg [co (some 6) (.move (.tmp 0)) none,
        co (some 7) (.call { callee := (.builtin .len), args := #[(.tmp 6)], argTypes := #[22] }) none,
        co (some 8) (.move (.tmp 1)) none,
        co (some 9) (.call { callee := (.builtin .len), args := #[(.tmp 8)], argTypes := #[22] }) none,
        co (some 10) (.binOp .neq 3 (.tmp 7) (.tmp 9) 3) none] [0, 1, 10])
    (.cond (.tmp 10)
      (.seq (.reg [co (some 4) (.assign (.const (.bool false))) none] [4])
      (.ret))
      (.skip)))
  (.keep [0, 1] (.seq (.seq (.reg [co (some 5) (.assign (.const (.int .i64 0))) none] [0, 1, 5])
    (.block 0
      (.loop l1_centoref01_Same)))
  (.keep [] (.seq (.reg [co (some 4) (.assign (.const (.bool true))) none] [4])
  (.ret))))))
theorem t_centoref01_Same : Txt Tryd.prog 22 26 [(.tmp 4)] c_centoref01_Same := txt_of (code := Tryd.f22.body.getD .ret) mixed (by kernel_rfl) Tryd.func22 (by kernel_rfl) Tryd.ntmps22 (by kernel_rfl) (ls := [([0, 1], []), ([], []), ([0, 1, 10], []), ([], []), ([4], []), ([], []), ([999999, 0, 1], []), ([0, 1, 5], []), ([], []), ([0, 1, 5, 14], []), ([], []), ([999999, 0, 1, 5], []), ([0, 1, 5, 25], []), ([], []), ([4], []), ([], []), ([999999, 0, 1, 5], []), ([0, 1, 5], []), ([999999], []), ([4], []), ([], [])]) (by kernel_rfl)
/-- cento/word.width -/
def c_word_width : CC :=
  .seq (.reg [co (some 2) (.assign (.const (.int .i64 0))) none,
      co (some 3) (.assign (.const (.bool false))) none] [0])
  (.seq (.reg [co (some 5) (.build 98 #[(0, (.const (.int .i64 0))), (1, (.const (.int .i64 1))), (2, (.const (.int .i64 8))), (3, (.const (.int .i64 16))), (4, (.const (.int .i64 32))), (5, (.const (.int .i64 64)))]) none,
      cn (some 4) (.alloc 98) none [0],
      co none (.store 98 (.tmp 4) (.tmp 5)) none] [0, 4])
  (.seq (.seq (.reg [co (some 6) (.move (.tmp 0)) none,
        co (some 7) (.binOp .lss 3 (.tmp 6) (.const (.int .i64 0)) 3) none,
        co (some 8) (.move (.tmp 7)) none,
        co (some 9) (.move (.tmp 0)) (some (8, false)),
        co (some 10) (.binOp .geq 3 (.tmp 9) (.const (.int .i64 6)) 3) (some (8, false)),
        co (some 11) (.pick (.tmp 8) (.const (.bool true)) (.tmp 10)) none] [0, 4, 11])
    (.cond (.tmp 11)
      (.seq (.reg [co (some 2) (.assign (.const (.int .i64 0))) none,
          co (some 3) (.assign (.const (.bool false))) none] [2, 3])
      (.ret))
      (.skip)))
  (.keep [0, 4] (.seq (.reg [co (some 12) (.move (.tmp 0)) none,
      co (some 13) (.indexAddr 98 (.tmp 4) (.tmp 12)) none,
      co (some 14) (.load 3 (.tmp 13)) none,
      co (some 2) (.assign (.tmp 14)) none,
      co (some 3) (.assign (.const (.bool true))) none] [2, 3])
  (.ret)))))
theorem t_word_width : Txt Tryd.prog 60 15 [(.tmp 2), (.tmp 3)] c_word_width := txt_of (code := Tryd.f60.body.getD .ret) mixed (by kernel_rfl) Tryd.func60 (by kernel_rfl) Tryd.ntmps60 (by kernel_rfl) (ls := [([0], []), ([], []), ([0, 4], [(1, [0])]), ([], []), ([0, 4, 11], []), ([], []), ([2, 3], []), ([], []), ([999999, 0, 4], []), ([2, 3], []), ([], [])]) (by kernel_rfl)
/-- cento/tree.Data -/
def c_tree_Data : CC :=
  .seq (.reg [co (some 2) (.assign (.const (.bool false))) none] [0])
  (.seq (.reg [co (some 3) (.move (.tmp 0)) none,
      co (some 4) (.binOp .geq 3 (.tmp 3) (.const (.int .i64 2)) 3) none,
      co (some 5) (.move (.tmp 4)) none,
      co (some 6) (.move (.tmp 0)) (some (5, true)),
      co (some 7) (.binOp .leq 3 (.tmp 6) (.const (.int .i64 7)) 3) (some (5, true)),
      co (some 8) (.pick (.tmp 5) (.tmp 7) (.const (.bool false))) none,
      co (some 2) (.assign (.tmp 8)) none] [2])
  (.ret))
theorem t_tree_Data : Txt Tryd.prog 43 9 [(.tmp 2)] c_tree_Data := txt_of (code := Tryd.f43.body.getD .ret) mixed (by kernel_rfl) Tryd.func43 (by kernel_rfl) Tryd.ntmps43 (by kernel_rfl) (ls := [([0], []), ([], []), ([2], []), ([], [])]) (by kernel_rfl)
end Go.Proofs.YtgimfagpolbelaaDoor

/-
  The functions' text as data, and the facts on the types that they use: written by a program of ours (gen2.py) off the translation.
-/
namespace Go.Proofs.YtgimfagpolbelaaDoor
set_option linter.unusedVariables false
set_option linter.unusedSimpArgs false
set_option maxRecDepth 20000
open Go Go.G Go.Proofs
@[simp] theorem und_4 : Tryd.prog.underlying 4 = some .bool := by kernel_rfl
@[simp] theorem und_23 : Tryd.prog.underlying 23 = some (.slice 25) := by kernel_rfl
@[simp] theorem szT_22 : szT Tryd.prog 22 = some 1 := by kernel_rfl
@[simp] theorem szT_23 : szT Tryd.prog 23 = some 1 := by kernel_rfl
@[simp] theorem szT_25 : szT Tryd.prog 25 = some 3 := by kernel_rfl
@[simp] theorem aggT_22 : aggT Tryd.prog 22 = some false := by kernel_rfl
@[simp] theorem aggT_23 : aggT Tryd.prog 23 = some false := by kernel_rfl
@[simp] theorem aggT_25 : aggT Tryd.prog 25 = some true := by kernel_rfl
@[simp] theorem zeroT_25 : zeroT Tryd.prog 25 = some (Value.agg #[Value.int IntKind.i64 0, Value.slice none 0 0, Value.slice none 0 0]) := by kernel_rfl
@[simp] theorem bytesT_25 : bytesT Tryd.prog 25 = some 56 := by kernel_rfl
@[simp] theorem fieldOffT_25_0 : fieldOffT Tryd.prog 25 0 = some 0 := by kernel_rfl
@[simp] theorem fieldOffT_25_1 : fieldOffT Tryd.prog 25 1 = some 1 := by kernel_rfl
@[simp] theorem fieldOffT_25_2 : fieldOffT Tryd.prog 25 2 = some 2 := by kernel_rfl
def l1_centoref07_Right : CC :=
  .seq (.seq (.reg [co (some 78) (.move (.tmp 5)) none,
        co (some 79) (.fieldAddr 25 (.tmp 2) 2) none,
        co (some 80) (.load 23 (.tmp 79)) none,
        co (some 81) (.call { callee := (.builtin .len), args := #[(.tmp 80)], argTypes := #[23] }) none,
        co (some 82) (.binOp .lss 3 (.tmp 78) (.tmp 81) 3) none] [1, 2, 5, 82])
    (.cond (.tmp 82)
      (.skip)
      (.exit 0)))
  (.keep [1, 2, 5] (.seq (.block 1
      (.seq (.reg [co (some 85) (.fieldAddr 25 (.tmp 2) 2) none,
          co (some 86) (.load 23 (.tmp 85)) none,
          co (some 87) (.move (.tmp 5)) none,
          co (some 88) (.indexAddr 23 (.tmp 86) (.tmp 87)) none,
          co (some 89) (.load 25 (.tmp 88)) none,
          cn (some 6) (.alloc 25) none [1],
          co none (.store 25 (.tmp 6) (.tmp 89)) none] [1, 2, 5, 6])
      (.seq (.seq (.reg [co (some 90) (.load 25 (.tmp 6)) none,
            co (some 91) (.move (.tmp 1)) none,
            co (some 92) (.binOp .sub 3 (.tmp 91) (.const (.int .i64 1)) 3) none,
            co (some 93) (.call { callee := (.value (.func 7)), args := #[(.tmp 90), (.tmp 92)], argTypes := #[25, 3] }) none,
            co (some 94) (.unOp .not 4 (.tmp 93)) none] [1, 2, 5, 6, 94])
        (.cond (.tmp 94)
          (.seq (.reg [co (some 4) (.assign (.const (.bool false))) none] [4])
          (.ret))
          (.skip)))
      (.keep [1, 2, 5, 6] (.seq (.reg [co (some 95) (.fieldAddr 25 (.tmp 2) 0) none,
          co (some 96) (.load 3 (.tmp 95)) none,
          co (some 97) (.binOp .geq 3 (.tmp 96) (.const (.int .i64 2)) 3) none,
          co (some 98) (.move (.tmp 97)) none,
          co (some 99) (.fieldAddr 25 (.tmp 2) 0) (some (98, true)),
          co (some 100) (.load 3 (.tmp 99)) (some (98, true)),
          co (some 101) (.binOp .leq 3 (.tmp 100) (.const (.int .i64 7)) 3) (some (98, true)),
          co (some 102) (.pick (.tmp 98) (.tmp 101) (.const (.bool false))) none,
          co (some 7) (.assign (.tmp 102)) none] [1, 2, 5, 6, 7])
      (.seq (.reg [co (some 103) (.move (.tmp 7)) none,
          co (some 104) (.fieldAddr 25 (.tmp 6) 0) none,
          co (some 105) (.load 3 (.tmp 104)) none,
          co (some 106) (.binOp .eql 3 (.tmp 105) (.const (.int .i64 10)) 3) none,
          co (some 107) (.binOp .neq 4 (.tmp 103) (.tmp 106) 4) none,
          co (some 108) (.move (.tmp 107)) none,
          co (some 109) (.fieldAddr 25 (.tmp 2) 0) (some (108, false)),
          co (some 110) (.load 3 (.tmp 109)) (some (108, false)),
          co (some 111) (.binOp .eql 3 (.tmp 110) (.const (.int .i64 9)) 3) (some (108, false)),
          co (some 112) (.move (.tmp 111)) (some (108, false)),
          co (some 113) (.fieldAddr 25 (.tmp 6) 0) (some (112, true)),
          co (some 114) (.load 3 (.tmp 113)) (some (112, true)),
          co (some 115) (.binOp .neq 3 (.tmp 114) (.const (.int .i64 1)) 3) (some (112, true)),
          co (some 116) (.pick (.tmp 112) (.tmp 115) (.const (.bool false))) (some (108, false)),
          co (some 117) (.pick (.tmp 108) (.const (.bool true)) (.tmp 116)) none,
          co (some 118) (.move (.tmp 117)) none,
          co (some 119) (.move (.tmp 7)) (some (118, false)),
          co (some 120) (.move (.tmp 119)) (some (118, false)),
          co (some 121) (.fieldAddr 25 (.tmp 2) 0) (some (120, true)),
          co (some 122) (.load 3 (.tmp 121)) (some (120, true)),
          co (some 123) (.binOp .sub 3 (.tmp 122) (.const (.int .i64 2)) 3) (some (120, true)),
          co (some 124) (.fieldAddr 25 (.tmp 6) 1) (some (120, true)),
          co (some 125) (.load 22 (.tmp 124)) (some (120, true)),
          co (some 126) (.indexAddr 22 (.tmp 125) (.const (.int .i64 0))) (some (120, true)),
          co (some 127) (.load 40 (.tmp 126)) (some (120, true)),
          co (some 128) (.call { callee := (.value (.func 15)), args := #[(.tmp 123), (.tmp 127)], argTypes := #[3, 40] }) (some (120, true)),
          co (some 129) (.unOp .not 4 (.tmp 128)) (some (120, true)),
          co (some 130) (.pick (.tmp 120) (.tmp 129) (.const (.bool false))) (some (118, false)),
          co (some 131) (.pick (.tmp 118) (.const (.bool true)) (.tmp 130)) none] [1, 2, 5, 131])
      (.cond (.tmp 131)
        (.seq (.reg [co (some 4) (.assign (.const (.bool false))) none] [4])
        (.ret))
        (.skip))))))))
  (.keep [1, 2, 5] (.reg [co (some 83) (.move (.tmp 5)) none,
    co (some 84) (.binOp .add 3 (.tmp 83) (.const (.int .i64 1)) 3) none,
    co (some 5) (.assign (.tmp 84)) none] [1, 2, 5]))))
/-- cento/centoref07.Right -/
def c_centoref07_Right : CC :=
  .seq (.reg [cn (some 2) (.box 25 (.tmp 0)) none [0],
      co (some 4) (.assign (.const (.bool false))) none] [1, 2])
  (.seq (.seq (.reg [co (some 8) (.fieldAddr 25 (.tmp 2) 0) none,
        co (some 9) (.load 3 (.tmp 8)) none,
        co (some 10) (.binOp .eql 3 (.tmp 9) (.const (.int .i64 0)) 3) none] [1, 2, 10])
    (.cond (.tmp 10)
      (.seq (.reg [co (some 11) (.fieldAddr 25 (.tmp 2) 1) none,
          co (some 12) (.load 22 (.tmp 11)) none,
          co (some 13) (.call { callee := (.builtin .len), args := #[(.tmp 12)], argTypes := #[22] }) none,
          co (some 14) (.binOp .eql 3 (.tmp 13) (.const (.int .i64 0)) 3) none,
          co (some 15) (.move (.tmp 14)) none,
          co (some 16) (.fieldAddr 25 (.tmp 2) 2) (some (15, true)),
          co (some 17) (.load 23 (.tmp 16)) (some (15, true)),
          co (some 18) (.call { callee := (.builtin .len), args := #[(.tmp 17)], argTypes := #[23] }) (some (15, true)),
          co (some 19) (.binOp .eql 3 (.tmp 18) (.const (.int .i64 0)) 3) (some (15, true)),
          co (some 20) (.pick (.tmp 15) (.tmp 19) (.const (.bool false))) none,
          co (some 4) (.assign (.tmp 20)) none] [4])
      (.ret))
      (.skip)))
  (.keep [1, 2] (.seq (.seq (.reg [co (some 21) (.fieldAddr 25 (.tmp 2) 0) none,
        co (some 22) (.load 3 (.tmp 21)) none,
        co (some 23) (.binOp .eql 3 (.tmp 22) (.const (.int .i64 10)) 3) none] [1, 2, 23])
    (.cond (.tmp 23)
      (.seq (.reg [co (some 24) (.fieldAddr 25 (.tmp 2) 1) none,
          co (some 25) (.load 22 (.tmp 24)) none,
          co (some 26) (.call { callee := (.builtin .len), args := #[(.tmp 25)], argTypes := #[22] }) none,
          co (some 27) (.binOp .eql 3 (.tmp 26) (.const (.int .i64 1)) 3) none,
          co (some 28) (.move (.tmp 27)) none,
          co (some 29) (.fieldAddr 25 (.tmp 2) 2) (some (28, true)),
          co (some 30) (.load 23 (.tmp 29)) (some (28, true)),
          co (some 31) (.call { callee := (.builtin .len), args := #[(.tmp 30)], argTypes := #[23] }) (some (28, true)),
          co (some 32) (.binOp .eql 3 (.tmp 31) (.const (.int .i64 0)) 3) (some (28, true)),
          co (some 33) (.pick (.tmp 28) (.tmp 32) (.const (.bool false))) none,
          co (some 4) (.assign (.tmp 33)) none] [4])
      (.ret))
      (.skip)))
  (.keep [1, 2] (.seq (.seq (.reg [co (some 34) (.fieldAddr 25 (.tmp 2) 0) none,
        co (some 35) (.load 3 (.tmp 34)) none,
        co (some 36) (.binOp .lss 3 (.tmp 35) (.const (.int .i64 0)) 3) none,
        co (some 37) (.move (.tmp 36)) none,
        co (some 38) (.fieldAddr 25 (.tmp 2) 0) (some (37, false)),
        co (some 39) (.load 3 (.tmp 38)) (some (37, false)),
        co (some 40) (.binOp .gtr 3 (.tmp 39) (.const (.int .i64 10)) 3) (some (37, false)),
        co (some 41) (.pick (.tmp 37) (.const (.bool true)) (.tmp 40)) none,
        co (some 42) (.move (.tmp 41)) none,
        co (some 43) (.move (.tmp 1)) (some (42, false)),
        co (some 44) (.binOp .eql 3 (.tmp 43) (.const (.int .i64 0)) 3) (some (42, false)),
        co (some 45) (.pick (.tmp 42) (.const (.bool true)) (.tmp 44)) none,
        co (some 46) (.move (.tmp 45)) none,
        co (some 47) (.fieldAddr 25 (.tmp 2) 1) (some (46, false)),
        co (some 48) (.load 22 (.tmp 47)) (some (46, false)),
        co (some 49) (.call { callee := (.builtin .len), args := #[(.tmp 48)], argTypes := #[22] }) (some (46, false)),
        co (some 50) (.binOp .geq 3 (.tmp 49) (.const (.int .i64 65536)) 3) (some (46, false)),
        co (some 51) (.pick (.tmp 46) (.const (.bool true)) (.tmp 50)) none,
        co (some 52) (.move (.tmp 51)) none,
        co (some 53) (.fieldAddr 25 (.tmp 2) 0) (some (52, false)),
        co (some 54) (.load 3 (.tmp 53)) (some (52, false)),
        co (some 55) (.binOp .eql 3 (.tmp 54) (.const (.int .i64 1)) 3) (some (52, false)),
        co (some 56) (.move (.tmp 55)) (some (52, false)),
        co (some 57) (.fieldAddr 25 (.tmp 2) 2) (some (56, true)),
        co (some 58) (.load 23 (.tmp 57)) (some (56, true)),
        co (some 59) (.call { callee := (.builtin .len), args := #[(.tmp 58)], argTypes := #[23] }) (some (56, true)),
        co (some 60) (.binOp .geq 3 (.tmp 59) (.const (.int .i64 65536)) 3) (some (56, true)),
        co (some 61) (.pick (.tmp 56) (.tmp 60) (.const (.bool false))) (some (52, false)),
        co (some 62) (.pick (.tmp 52) (.const (.bool true)) (.tmp 61)) none,
        co (some 63) (.move (.tmp 62)) none,
        co (some 64) (.fieldAddr 25 (.tmp 2) 2) (some (63, false)),
        co (some 65) (.load 23 (.tmp 64)) (some (63, false)),
        co (some 66) (.call { callee := (.builtin .len), args := #[(.tmp 65)], argTypes := #[23] }) (some (63, false)),
        co (some 67) (.binOp .geq 3 (.tmp 66) (.const (.int .i64 1048576)) 3) (some (63, false)),
        co (some 68) (.pick (.tmp 63) (.const (.bool true)) (.tmp 67)) none] [1, 2, 68])
    (.cond (.tmp 68)
      (.seq (.reg [co (some 4) (.assign (.const (.bool false))) none] [4])
      (.ret))
      (.skip)))
  (.keep [1, 2] (.seq (.seq (.reg [co (some 69) (.fieldAddr 25 (.tmp 2) 0) none,
        co (some 70) (.load 3 (.tmp 69)) none,
        co (some 71) (.binOp .gtr 3 (.tmp 70) (.const (.int .i64 1)) 3) none,
        co (some 72) (.move (.tmp 71)) none,
        co (some 73) (.fieldAddr 25 (.tmp 2) 1) (some (72, true)),
        co (some 74) (.load 22 (.tmp 73)) (some (72, true)),
        co (some 75) (.call { callee := (.builtin .len), args := #[(.tmp 74)], argTypes := #[22] }) (some (72, true)),
        co (some 76) (.binOp .gtr 3 (.tmp 75) (.const (.int .i64 0)) 3) (some (72, true)),
        co (some 77) (.pick (.tmp 72) (.tmp 76) (.const (.bool false))) none] [1, 2, 77])
    (.cond (.tmp 77)
      (.seq (.reg [co (some 4) (.assign (.const (.bool false))) none] [4])
      (.ret))
      (.skip)))
  (.keep [1, 2] (.seq (.seq (.reg [co (some 5) (.assign (.const (.int .i64 0))) none] [1, 2, 5])
    (.block 0
      (.loop l1_centoref07_Right)))
  (.keep [] (.seq (.reg [co (some 4) (.assign (.const (.bool true))) none] [4])
  (.ret))))))))))))
theorem t_centoref07_Right : Txt Tryd.prog 7 132 [(.tmp 4)] c_centoref07_Right := txt_of (code := Tryd.f7.body.getD .ret) mixed (by kernel_rfl) Tryd.func7 (by kernel_rfl) Tryd.ntmps7 (by kernel_rfl) (ls := [([1, 2], [(0, [0])]), ([], []), ([1, 2, 10], []), ([], []), ([4], []), ([], []), ([999999, 1, 2], []), ([1, 2, 23], []), ([], []), ([4], []), ([], []), ([999999, 1, 2], []), ([1, 2, 68], []), ([], []), ([4], []), ([], []), ([999999, 1, 2], []), ([1, 2, 77], []), ([], []), ([4], []), ([], []), ([999999, 1, 2], []), ([1, 2, 5], []), ([], []), ([1, 2, 5, 82], []), ([], []), ([999999, 1, 2, 5], []), ([1, 2, 5, 6], [(5, [1])]), ([], []), ([1, 2, 5, 6, 94], []), ([], []), ([4], []), ([], []), ([999999, 1, 2, 5, 6], []), ([1, 2, 5, 6, 7], []), ([], []), ([1, 2, 5, 131], []), ([], []), ([4], []), ([], []), ([999999, 1, 2, 5], []), ([1, 2, 5], []), ([999999], []), ([4], []), ([], [])]) (by kernel_rfl)
def l1_centoref07_Shallow : CC :=
  .seq (.seq (.reg [co (some 20) (.move (.tmp 7)) none,
        co (some 21) (.fieldAddr 25 (.tmp 3) 2) none,
        co (some 22) (.load 23 (.tmp 21)) none,
        co (some 23) (.call { callee := (.builtin .len), args := #[(.tmp 22)], argTypes := #[23] }) none,
        co (some 24) (.binOp .lss 3 (.tmp 20) (.tmp 23) 3) none,
        co (some 25) (.move (.tmp 24)) none,
        co (some 26) (.move (.tmp 2)) (some (25, true)),
        co (some 27) (.binOp .geq 3 (.tmp 26) (.const (.int .i64 0)) 3) (some (25, true)),
        co (some 28) (.pick (.tmp 25) (.tmp 27) (.const (.bool false))) none] [1, 2, 3, 7, 28])
    (.cond (.tmp 28)
      (.skip)
      (.exit 0)))
  (.keep [1, 2, 3, 7] (.seq (.block 1
      (.reg [co (some 31) (.fieldAddr 25 (.tmp 3) 2) none,
        co (some 32) (.load 23 (.tmp 31)) none,
        co (some 33) (.move (.tmp 7)) none,
        co (some 34) (.indexAddr 23 (.tmp 32) (.tmp 33)) none,
        co (some 35) (.load 25 (.tmp 34)) none,
        co (some 36) (.move (.tmp 1)) none,
        co (some 37) (.binOp .sub 3 (.tmp 36) (.const (.int .i64 1)) 3) none,
        co (some 38) (.move (.tmp 2)) none,
        co (some 39) (.call { callee := (.value (.func 14)), args := #[(.tmp 35), (.tmp 37), (.tmp 38)], argTypes := #[25, 3, 3] }) none,
        co (some 2) (.assign (.tmp 39)) none] [1, 2, 3, 7]))
  (.reg [co (some 29) (.move (.tmp 7)) none,
    co (some 30) (.binOp .add 3 (.tmp 29) (.const (.int .i64 1)) 3) none,
    co (some 7) (.assign (.tmp 30)) none] [1, 2, 3, 7])))
/-- cento/centoref07.Shallow -/
def c_centoref07_Shallow : CC :=
  .seq (.reg [cn (some 3) (.box 25 (.tmp 0)) none [0],
      co (some 6) (.assign (.const (.int .i64 0))) none] [1, 2, 3])
  (.seq (.reg [co (some 8) (.move (.tmp 2)) none,
      co (some 9) (.binOp .sub 3 (.tmp 8) (.const (.int .i64 1)) 3) none,
      co (some 10) (.fieldAddr 25 (.tmp 3) 1) none,
      co (some 11) (.load 22 (.tmp 10)) none,
      co (some 12) (.call { callee := (.builtin .len), args := #[(.tmp 11)], argTypes := #[22] }) none,
      co (some 13) (.binOp .sub 3 (.tmp 9) (.tmp 12) 3) none,
      co (some 2) (.assign (.tmp 13)) none] [1, 2, 3])
  (.seq (.seq (.reg [co (some 14) (.move (.tmp 1)) none,
        co (some 15) (.binOp .eql 3 (.tmp 14) (.const (.int .i64 0)) 3) none,
        co (some 16) (.move (.tmp 15)) none,
        co (some 17) (.move (.tmp 2)) (some (16, false)),
        co (some 18) (.binOp .lss 3 (.tmp 17) (.const (.int .i64 0)) 3) (some (16, false)),
        co (some 19) (.pick (.tmp 16) (.const (.bool true)) (.tmp 18)) none] [1, 2, 3, 19])
    (.cond (.tmp 19)
      (.seq (.reg [co (some 6) (.assign (.const (.int .i64 (-1)))) none] [6])
      (.ret))
      (.skip)))
  (.keep [1, 2, 3] (.seq (.seq (.reg [co (some 7) (.assign (.const (.int .i64 0))) none] [1, 2, 3, 7])
    (.block 0
      (.loop l1_centoref07_Shallow)))
  (.keep [2] (.seq (.reg [co (some 40) (.move (.tmp 2)) none,
      co (some 6) (.assign (.tmp 40)) none] [6])
  (.ret)))))))
theorem t_centoref07_Shallow : Txt Tryd.prog 14 41 [(.tmp 6)] c_centoref07_Shallow := txt_of (code := Tryd.f14.body.getD .ret) mixed (by kernel_rfl) Tryd.func14 (by kernel_rfl) Tryd.ntmps14 (by kernel_rfl) (ls := [([1, 2, 3], [(0, [0])]), ([], []), ([1, 2, 3], []), ([], []), ([1, 2, 3, 19], []), ([], []), ([6], []), ([], []), ([999999, 1, 2, 3], []), ([1, 2, 3, 7], []), ([], []), ([1, 2, 3, 7, 28], []), ([], []), ([999999, 1, 2, 3, 7], []), ([1, 2, 3, 7], []), ([], []), ([1, 2, 3, 7], []), ([999999, 2], []), ([6], []), ([], [])]) (by kernel_rfl)
/-- cento/centoref07.Few -/
def c_centoref07_Few : CC :=
  .seq (.reg [cn (some 1) (.box 25 (.tmp 0)) none [0],
      co (some 2) (.assign (.const (.bool false))) none] [1])
  (.seq (.reg [co (some 3) (.load 25 (.tmp 1)) none,
      co (some 4) (.call { callee := (.value (.func 14)), args := #[(.tmp 3), (.const (.int .i64 80)), (.const (.int .i64 3000))], argTypes := #[25, 3, 3] }) none,
      co (some 5) (.binOp .geq 3 (.tmp 4) (.const (.int .i64 0)) 3) none,
      co (some 2) (.assign (.tmp 5)) none] [2])
  (.ret))
theorem t_centoref07_Few : Txt Tryd.prog 6 6 [(.tmp 2)] c_centoref07_Few := txt_of (code := Tryd.f6.body.getD .ret) mixed (by kernel_rfl) Tryd.func6 (by kernel_rfl) Tryd.ntmps6 (by kernel_rfl) (ls := [([1], [(0, [0])]), ([], []), ([2], []), ([], [])]) (by kernel_rfl)
def l1_centoref07_Same : CC :=
  .seq (.seq (.reg [co (some 28) (.move (.tmp 5)) none,
        co (some 29) (.fieldAddr 25 (.tmp 2) 2) none,
        co (some 30) (.load 23 (.tmp 29)) none,
        co (some 31) (.call { callee := (.builtin .len), args := #[(.tmp 30)], argTypes := #[23] }) none,
        co (some 32) (.binOp .lss 3 (.tmp 28) (.tmp 31) 3) none] [2, 3, 5, 32])
    (.cond (.tmp 32)
      (.skip)
      (.exit 0)))
  (.keep [2, 3, 5] (.seq (.block 1
      (.seq (.reg [co (some 35) (.fieldAddr 25 (.tmp 2) 2) none,
          co (some 36) (.load 23 (.tmp 35)) none,
          co (some 37) (.move (.tmp 5)) none,
          co (some 38) (.indexAddr 23 (.tmp 36) (.tmp 37)) none,
          co (some 39) (.load 25 (.tmp 38)) none,
          co (some 40) (.fieldAddr 25 (.tmp 3) 2) none,
          co (some 41) (.load 23 (.tmp 40)) none,
          co (some 42) (.move (.tmp 5)) none,
          co (some 43) (.indexAddr 23 (.tmp 41) (.tmp 42)) none,
          co (some 44) (.load 25 (.tmp 43)) none,
          co (some 45) (.call { callee := (.value (.func 12)), args := #[(.tmp 39), (.tmp 44)], argTypes := #[25, 25] }) none,
          co (some 46) (.unOp .not 4 (.tmp 45)) none] [2, 3, 5, 46])
      (.cond (.tmp 46)
        (.seq (.reg [co (some 4) (.assign (.const (.bool false))) none] [4])
        (.ret))
        (.skip))))
  (.keep [2, 3, 5] (.reg [co (some 33) (.move (.tmp 5)) none,
    co (some 34) (.binOp .add 3 (.tmp 33) (.const (.int .i64 1)) 3) none,
    co (some 5) (.assign (.tmp 34)) none] [2, 3, 5]))))
/-- cento/centoref07.Same -/
def c_centoref07_Same : CC :=
  .seq (.reg [cn (some 2) (.box 25 (.tmp 0)) none [0],
      cn (some 3) (.box 25 (.tmp 1)) none [1],
      co (some 4) (.assign (.const (.bool false))) none] [2, 3])
  (.seq (.seq (.reg [co (some 6) (.fieldAddr 25 (.tmp 2) 0) none,
        co (some 7) (.load 3 (.tmp 6)) none,
        co (some 8) (.fieldAddr 25 (.tmp 3) 0) none,
        co (some 9) (.load 3 (.tmp 8)) none,
        co (some 10) (.binOp .neq 3 (.tmp 7) (.tmp 9) 3) none,
        co (some 11) (.move (.tmp 10)) none,
        co (some 12) (.fieldAddr 25 (.tmp 2) 1) (some (11, false)),
        co (some 13) (.load 22 (.tmp 12)) (some (11, false)),
        co (some 14) (.fieldAddr 25 (.tmp 3) 1) (some (11, false)),
        co (some 15) (.load 22 (.tmp 14)) (some (11, false)),
        co (some 16) (.call { callee := (.value (.func 22)), args := #[(.tmp 13), (.tmp 15)], argTypes := #[22, 22] }) (some (11, false)),
        co (some 17) (.unOp .not 4 (.tmp 16)) (some (11, false)),
        co (some 18) (.pick (.tmp 11) (.const (.bool true)) (.tmp 17)) none,
        co (some 19) (.move (.tmp 18)) none,
        co (some 20) (.fieldAddr 25 (.tmp 2) 2) (some (19, false)),
        co (some 21) (.load 23 (.tmp 20)) (some (19, false)),
        co (some 22) (.call { callee := (.builtin .len), args := #[(.tmp 21)], argTypes := #[23] }) (some (19, false)),
        co (some 23) (.fieldAddr 25 (.tmp 3) 2) (some (19, false)),
        co (some 24) (.load 23 (.tmp 23)) (some (19, false)),
        co (some 25) (.call { callee := (.builtin .len), args := #[(.tmp 24)], argTypes := #[23] }) (some (19, false)),
        co (some 26) (.binOp .neq 3 (.tmp 22) (.tmp 25) 3) (some (19, false)),
        co (some 27) (.pick (.tmp 19) (.const (.bool true)) (.tmp 26)) none] [2, 3, 27])
    (.cond (.tmp 27)
      (.seq (.reg [co (some 4) (.assign (.const (.bool false))) none] [4])
      (.ret))
      (.skip)))
  (.keep [2, 3] (.seq (.seq (.reg [co (some 5) (.assign (.const (.int .i64 0))) none] [2, 3, 5])
    (.block 0
      (.loop l1_centoref07_Same)))
  (.keep [] (.seq (.reg [co (some 4) (.assign (.const (.bool true))) none] [4])
  (.ret))))))
theorem t_centoref07_Same : Txt Tryd.prog 12 47 [(.tmp 4)] c_centoref07_Same := txt_of (code := Tryd.f12.body.getD .ret) mixed (by kernel_rfl) Tryd.func12 (by kernel_rfl) Tryd.ntmps12 (by kernel_rfl) (ls := [([2, 3], [(0, [0]), (1, [1])]), ([], []), ([2, 3, 27], []), ([], []), ([4], []), ([], []), ([999999, 2, 3], []), ([2, 3, 5], []), ([], []), ([2, 3, 5, 32], []), ([], []), ([999999, 2, 3, 5], []), ([2, 3, 5, 46], []), ([], []), ([4], []), ([], []), ([999999, 2, 3, 5], []), ([2, 3, 5], []), ([999999], []), ([4], []), ([], [])]) (by kernel_rfl)
end Go.Proofs.YtgimfagpolbelaaDoor

/-
  The functions' text as data, and the facts on the types that they use: written by a program of ours (gen2.py) off the translation.
-/
namespace Go.Proofs.YtgimfagpolbelaaDoor
set_option linter.unusedVariables false
set_option linter.unusedSimpArgs false
set_option maxRecDepth 20000
open Go Go.G Go.Proofs
/-- cento/word.Fits -/
def c_word_Fits : CC :=
  .seq (.reg [co (some 4) (.assign (.const (.bool false))) none] [0, 1])
  (.seq (.reg [co (some 8) (.move (.tmp 0)) none,
      co (some 9) (.call { callee := (.value (.func 60)), args := #[(.tmp 8)], argTypes := #[3] }) none,
      co (some 7) (.move (.tmp 9)) none,
      co (some 10) (.extract (.tmp 7) 0) none,
      co (some 11) (.extract (.tmp 7) 1) none,
      co (some 5) (.assign (.tmp 10)) none,
      co (some 6) (.assign (.tmp 11)) none] [1, 5, 6])
  (.seq (.reg [co (some 12) (.move (.tmp 6)) none,
      co (some 13) (.move (.tmp 12)) none,
      co (some 14) (.move (.tmp 5)) (some (13, true)),
      co (some 15) (.binOp .eql 3 (.tmp 14) (.const (.int .i64 64)) 3) (some (13, true)),
      co (some 16) (.move (.tmp 15)) (some (13, true)),
      co (some 17) (.move (.tmp 1)) (some (16, false)),
      co (some 18) (.move (.tmp 5)) (some (16, false)),
      co (some 19) (.binOp .shr 40 (.tmp 17) (.tmp 18) 3) (some (16, false)),
      co (some 20) (.binOp .eql 40 (.tmp 19) (.const (.int .u64 0)) 40) (some (16, false)),
      co (some 21) (.pick (.tmp 16) (.const (.bool true)) (.tmp 20)) (some (13, true)),
      co (some 22) (.pick (.tmp 13) (.tmp 21) (.const (.bool false))) none,
      co (some 4) (.assign (.tmp 22)) none] [4])
  (.ret)))
theorem t_word_Fits : Txt Tryd.prog 54 23 [(.tmp 4)] c_word_Fits := txt_of (code := Tryd.f54.body.getD .ret) mixed (by kernel_rfl) Tryd.func54 (by kernel_rfl) Tryd.ntmps54 (by kernel_rfl) (ls := [([0, 1], []), ([], []), ([1, 5, 6], []), ([], []), ([4], []), ([], [])]) (by kernel_rfl)
/-- cento/tree.List -/
def c_tree_List : CC :=
  .seq (.reg [co (some 2) (.assign (.const (.bool false))) none] [0])
  (.seq (.reg [co (some 3) (.move (.tmp 0)) none,
      co (some 4) (.binOp .geq 3 (.tmp 3) (.const (.int .i64 2)) 3) none,
      co (some 5) (.move (.tmp 4)) none,
      co (some 6) (.move (.tmp 0)) (some (5, true)),
      co (some 7) (.binOp .leq 3 (.tmp 6) (.const (.int .i64 9)) 3) (some (5, true)),
      co (some 8) (.pick (.tmp 5) (.tmp 7) (.const (.bool false))) none,
      co (some 2) (.assign (.tmp 8)) none] [2])
  (.ret))
theorem t_tree_List : Txt Tryd.prog 29 9 [(.tmp 2)] c_tree_List := txt_of (code := Tryd.f29.body.getD .ret) mixed (by kernel_rfl) Tryd.func29 (by kernel_rfl) Tryd.ntmps29 (by kernel_rfl) (ls := [([0], []), ([], []), ([2], []), ([], [])]) (by kernel_rfl)
/-- cento/tree.kid -/
def c_tree_kid : CC :=
  .seq (.reg [cn (some 3) (.box 25 (.tmp 1)) none [0],
      co (some 4) (.assign (.const (.bool false))) none] [0, 3])
  (.seq (.block 0
      (.seq (.reg [co (some 6) (.move (.tmp 0)) none,
          co (some 7) (.call { callee := (.value (.func 43)), args := #[(.tmp 6)], argTypes := #[3] }) none,
          co (some 5) (.assign (.tmp 7)) none] [0, 3, 5])
      (.cond (.tmp 5)
        (.seq (.reg [co (some 8) (.fieldAddr 25 (.tmp 3) 0) none,
            co (some 9) (.load 3 (.tmp 8)) none,
            co (some 10) (.binOp .eql 3 (.tmp 9) (.const (.int .i64 10)) 3) none,
            co (some 11) (.move (.tmp 10)) none,
            co (some 12) (.fieldAddr 25 (.tmp 3) 2) (some (11, true)),
            co (some 13) (.load 23 (.tmp 12)) (some (11, true)),
            co (some 14) (.call { callee := (.builtin .len), args := #[(.tmp 13)], argTypes := #[23] }) (some (11, true)),
            co (some 15) (.binOp .eql 3 (.tmp 14) (.const (.int .i64 0)) 3) (some (11, true)),
            co (some 16) (.pick (.tmp 11) (.tmp 15) (.const (.bool false))) none,
            co (some 17) (.move (.tmp 16)) none,
            co (some 18) (.fieldAddr 25 (.tmp 3) 1) (some (17, true)),
            co (some 19) (.load 22 (.tmp 18)) (some (17, true)),
            co (some 20) (.call { callee := (.builtin .len), args := #[(.tmp 19)], argTypes := #[22] }) (some (17, true)),
            co (some 21) (.binOp .eql 3 (.tmp 20) (.const (.int .i64 1)) 3) (some (17, true)),
            co (some 22) (.pick (.tmp 17) (.tmp 21) (.const (.bool false))) none,
            co (some 23) (.move (.tmp 22)) none,
            co (some 24) (.move (.tmp 0)) (some (23, true)),
            co (some 25) (.binOp .sub 3 (.tmp 24) (.const (.int .i64 2)) 3) (some (23, true)),
            co (some 26) (.fieldAddr 25 (.tmp 3) 1) (some (23, true)),
            co (some 27) (.load 22 (.tmp 26)) (some (23, true)),
            co (some 28) (.indexAddr 22 (.tmp 27) (.const (.int .i64 0))) (some (23, true)),
            co (some 29) (.load 40 (.tmp 28)) (some (23, true)),
            co (some 30) (.call { callee := (.value (.func 54)), args := #[(.tmp 25), (.tmp 29)], argTypes := #[3, 40] }) (some (23, true)),
            co (some 31) (.pick (.tmp 23) (.tmp 30) (.const (.bool false))) none,
            co (some 4) (.assign (.tmp 31)) none] [4])
        (.ret))
        (.seq (.reg [co (some 33) (.move (.tmp 0)) none,
            co (some 34) (.binOp .eql 3 (.tmp 33) (.const (.int .i64 9)) 3) none,
            co (some 32) (.assign (.tmp 34)) none] [3, 32])
        (.cond (.tmp 32)
          (.seq (.reg [co (some 35) (.fieldAddr 25 (.tmp 3) 0) none,
              co (some 36) (.load 3 (.tmp 35)) none,
              co (some 37) (.binOp .eql 3 (.tmp 36) (.const (.int .i64 1)) 3) none,
              co (some 4) (.assign (.tmp 37)) none] [4])
          (.ret))
          (.skip))))))
  (.keep [3] (.seq (.reg [co (some 38) (.fieldAddr 25 (.tmp 3) 0) none,
      co (some 39) (.load 3 (.tmp 38)) none,
      co (some 40) (.binOp .neq 3 (.tmp 39) (.const (.int .i64 10)) 3) none,
      co (some 4) (.assign (.tmp 40)) none] [4])
  (.ret))))
theorem t_tree_kid : Txt Tryd.prog 45 41 [(.tmp 4)] c_tree_kid := txt_of (code := Tryd.f45.body.getD .ret) mixed (by kernel_rfl) Tryd.func45 (by kernel_rfl) Tryd.ntmps45 (by kernel_rfl) (ls := [([0, 3], [(0, [0])]), ([], []), ([0, 3, 5], []), ([], []), ([4], []), ([], []), ([3, 32], []), ([], []), ([4], []), ([], []), ([999999, 3], []), ([4], []), ([], [])]) (by kernel_rfl)
def k1_tree_right : CC :=
  .seq (.reg [co (some 87) (.move (.tmp 7)) none,
      co (some 88) (.unOp .not 4 (.tmp 87)) none,
      co (some 89) (.move (.tmp 88)) none,
      co (some 90) (.load 25 (.tmp 6)) (some (89, false)),
      co (some 91) (.move (.tmp 1)) (some (89, false)),
      co (some 92) (.binOp .sub 3 (.tmp 91) (.const (.int .i64 1)) 3) (some (89, false)),
      co (some 93) (.call { callee := (.value (.func 35)), args := #[(.tmp 90), (.tmp 92)], argTypes := #[25, 3] }) (some (89, false)),
      co (some 94) (.unOp .not 4 (.tmp 93)) (some (89, false)),
      co (some 95) (.pick (.tmp 89) (.const (.bool true)) (.tmp 94)) none] [1, 2, 71, 72, 73, 95])
  (.cond (.tmp 95)
    (.seq (.reg [co (some 4) (.assign (.const (.bool false))) none] [4])
    (.ret))
    (.skip))
def l1_tree_right : CC :=
  .seq (.reg [co (some 74) (.binOp .lss 3 (.tmp 73) (.tmp 72) 3) none] [1, 2, 71, 72, 73, 74])
  (.seq (.cond (.tmp 74)
      (.skip)
      (.exit 1))
  (.keep [1, 2, 71, 72, 73] (.seq (.block 2
      (.seq (.reg [co (some 75) (.indexAddr 23 (.tmp 71) (.tmp 73)) none,
          co (some 76) (.load 25 (.tmp 75)) none,
          cn (some 6) (.alloc 25) none [1],
          co none (.store 25 (.tmp 6) (.tmp 76)) none] [1, 2, 6, 71, 72, 73])
      (.seq (.reg [co (some 77) (.fieldAddr 25 (.tmp 6) 0) none,
          co (some 78) (.load 3 (.tmp 77)) none,
          co (some 79) (.binOp .neq 3 (.tmp 78) (.const (.int .i64 10)) 3) none,
          co (some 7) (.assign (.tmp 79)) none] [1, 2, 6, 7, 71, 72, 73])
      (.seq (.seq (.reg [co (some 80) (.fieldAddr 25 (.tmp 2) 0) none,
            co (some 81) (.load 3 (.tmp 80)) none,
            co (some 82) (.binOp .neq 3 (.tmp 81) (.const (.int .i64 1)) 3) none] [1, 2, 6, 7, 71, 72, 73, 82])
        (.cond (.tmp 82)
          (.reg [co (some 83) (.fieldAddr 25 (.tmp 2) 0) none,
            co (some 84) (.load 3 (.tmp 83)) none,
            co (some 85) (.load 25 (.tmp 6)) none,
            co (some 86) (.call { callee := (.value (.func 45)), args := #[(.tmp 84), (.tmp 85)], argTypes := #[3, 25] }) none,
            co (some 7) (.assign (.tmp 86)) none] [1, 2, 6, 7, 71, 72, 73])
          (.skip)))
      (.keep [1, 2, 6, 7, 71, 72, 73] k1_tree_right)))))
  (.keep [1, 2, 71, 72, 73] (.reg [co (some 96) (.binOp .add 3 (.tmp 73) (.const (.int .i64 1)) 3) none,
    co (some 73) (.move (.tmp 96)) none] [1, 2, 71, 72, 73])))))
def k2_tree_right : CC :=
  .seq (.seq (.reg [co (some 70) (.fieldAddr 25 (.tmp 2) 2) none,
        co (some 71) (.load 23 (.tmp 70)) none,
        co (some 72) (.call { callee := (.builtin .len), args := #[(.tmp 71)], argTypes := #[23] }) none,
        co (some 73) (.move (.const (.int .i64 0))) none] [1, 2, 71, 72, 73])
    (.block 1
      (.loop l1_tree_right)))
  (.keep [] (.seq (.reg [co (some 4) (.assign (.const (.bool true))) none] [4])
  (.ret)))
/-- cento/tree.right -/
def c_tree_right : CC :=
  .seq (.reg [cn (some 2) (.box 25 (.tmp 0)) none [0],
      co (some 4) (.assign (.const (.bool false))) none] [1, 2])
  (.seq (.block 0
      (.seq (.reg [co (some 9) (.fieldAddr 25 (.tmp 2) 0) none,
          co (some 10) (.load 3 (.tmp 9)) none,
          co (some 11) (.binOp .eql 3 (.tmp 10) (.const (.int .i64 0)) 3) none,
          co (some 8) (.assign (.tmp 11)) none] [1, 2, 8])
      (.cond (.tmp 8)
        (.seq (.reg [co (some 12) (.fieldAddr 25 (.tmp 2) 1) none,
            co (some 13) (.load 22 (.tmp 12)) none,
            co (some 14) (.call { callee := (.builtin .len), args := #[(.tmp 13)], argTypes := #[22] }) none,
            co (some 15) (.binOp .eql 3 (.tmp 14) (.const (.int .i64 0)) 3) none,
            co (some 16) (.move (.tmp 15)) none,
            co (some 17) (.fieldAddr 25 (.tmp 2) 2) (some (16, true)),
            co (some 18) (.load 23 (.tmp 17)) (some (16, true)),
            co (some 19) (.call { callee := (.builtin .len), args := #[(.tmp 18)], argTypes := #[23] }) (some (16, true)),
            co (some 20) (.binOp .eql 3 (.tmp 19) (.const (.int .i64 0)) 3) (some (16, true)),
            co (some 21) (.pick (.tmp 16) (.tmp 20) (.const (.bool false))) none,
            co (some 4) (.assign (.tmp 21)) none] [4])
        (.ret))
        (.seq (.reg [co (some 23) (.fieldAddr 25 (.tmp 2) 0) none,
            co (some 24) (.load 3 (.tmp 23)) none,
            co (some 25) (.binOp .eql 3 (.tmp 24) (.const (.int .i64 10)) 3) none,
            co (some 22) (.assign (.tmp 25)) none] [1, 2, 22])
        (.cond (.tmp 22)
          (.seq (.reg [co (some 26) (.fieldAddr 25 (.tmp 2) 1) none,
              co (some 27) (.load 22 (.tmp 26)) none,
              co (some 28) (.call { callee := (.builtin .len), args := #[(.tmp 27)], argTypes := #[22] }) none,
              co (some 29) (.binOp .eql 3 (.tmp 28) (.const (.int .i64 1)) 3) none,
              co (some 30) (.move (.tmp 29)) none,
              co (some 31) (.fieldAddr 25 (.tmp 2) 2) (some (30, true)),
              co (some 32) (.load 23 (.tmp 31)) (some (30, true)),
              co (some 33) (.call { callee := (.builtin .len), args := #[(.tmp 32)], argTypes := #[23] }) (some (30, true)),
              co (some 34) (.binOp .eql 3 (.tmp 33) (.const (.int .i64 0)) 3) (some (30, true)),
              co (some 35) (.pick (.tmp 30) (.tmp 34) (.const (.bool false))) none,
              co (some 4) (.assign (.tmp 35)) none] [4])
          (.ret))
          (.seq (.reg [co (some 37) (.move (.tmp 1)) none,
              co (some 38) (.binOp .eql 3 (.tmp 37) (.const (.int .i64 0)) 3) none,
              co (some 36) (.assign (.tmp 38)) none] [1, 2, 36])
          (.cond (.tmp 36)
            (.seq (.reg [co (some 4) (.assign (.const (.bool false))) none] [4])
            (.ret))
            (.seq (.reg [co (some 40) (.fieldAddr 25 (.tmp 2) 0) none,
                co (some 41) (.load 3 (.tmp 40)) none,
                co (some 42) (.binOp .eql 3 (.tmp 41) (.const (.int .i64 1)) 3) none,
                co (some 39) (.assign (.tmp 42)) none] [1, 2, 39])
            (.cond (.tmp 39)
              (.seq (.reg [co (some 43) (.fieldAddr 25 (.tmp 2) 1) none,
                  co (some 44) (.load 22 (.tmp 43)) none,
                  co (some 45) (.call { callee := (.builtin .len), args := #[(.tmp 44)], argTypes := #[22] }) none,
                  co (some 46) (.binOp .geq 3 (.tmp 45) (.const (.int .i64 65536)) 3) none,
                  co (some 47) (.move (.tmp 46)) none,
                  co (some 48) (.fieldAddr 25 (.tmp 2) 2) (some (47, false)),
                  co (some 49) (.load 23 (.tmp 48)) (some (47, false)),
                  co (some 50) (.call { callee := (.builtin .len), args := #[(.tmp 49)], argTypes := #[23] }) (some (47, false)),
                  co (some 51) (.binOp .geq 3 (.tmp 50) (.const (.int .i64 65536)) 3) (some (47, false)),
                  co (some 52) (.pick (.tmp 47) (.const (.bool true)) (.tmp 51)) none] [1, 2, 52])
              (.cond (.tmp 52)
                (.seq (.reg [co (some 4) (.assign (.const (.bool false))) none] [4])
                (.ret))
                (.skip)))
              (.seq (.reg [co (some 54) (.fieldAddr 25 (.tmp 2) 0) none,
                  co (some 55) (.load 3 (.tmp 54)) none,
                  co (some 56) (.call { callee := (.value (.func 29)), args := #[(.tmp 55)], argTypes := #[3] }) none,
                  co (some 57) (.unOp .not 4 (.tmp 56)) none,
                  co (some 58) (.move (.tmp 57)) none,
                  co (some 59) (.fieldAddr 25 (.tmp 2) 1) (some (58, false)),
                  co (some 60) (.load 22 (.tmp 59)) (some (58, false)),
                  co (some 61) (.call { callee := (.builtin .len), args := #[(.tmp 60)], argTypes := #[22] }) (some (58, false)),
                  co (some 62) (.binOp .gtr 3 (.tmp 61) (.const (.int .i64 0)) 3) (some (58, false)),
                  co (some 63) (.pick (.tmp 58) (.const (.bool true)) (.tmp 62)) none,
                  co (some 64) (.move (.tmp 63)) none,
                  co (some 65) (.fieldAddr 25 (.tmp 2) 2) (some (64, false)),
                  co (some 66) (.load 23 (.tmp 65)) (some (64, false)),
                  co (some 67) (.call { callee := (.builtin .len), args := #[(.tmp 66)], argTypes := #[23] }) (some (64, false)),
                  co (some 68) (.binOp .geq 3 (.tmp 67) (.const (.int .i64 1048576)) 3) (some (64, false)),
                  co (some 69) (.pick (.tmp 64) (.const (.bool true)) (.tmp 68)) none,
                  co (some 53) (.assign (.tmp 69)) none] [1, 2, 53])
              (.cond (.tmp 53)
                (.seq (.reg [co (some 4) (.assign (.const (.bool false))) none] [4])
                (.ret))
                (.skip))))))))))))
  (.keep [1, 2] k2_tree_right))
theorem t_tree_right : Txt Tryd.prog 35 97 [(.tmp 4)] c_tree_right := txt_of (code := Tryd.f35.body.getD .ret) mixed (by kernel_rfl) Tryd.func35 (by kernel_rfl) Tryd.ntmps35 (by kernel_rfl) (ls := [([1, 2], [(0, [0])]), ([], []), ([1, 2, 8], []), ([], []), ([4], []), ([], []), ([1, 2, 22], []), ([], []), ([4], []), ([], []), ([1, 2, 36], []), ([], []), ([4], []), ([], []), ([1, 2, 39], []), ([], []), ([1, 2, 52], []), ([], []), ([4], []), ([], []), ([1, 2, 53], []), ([], []), ([4], []), ([], []), ([999999, 1, 2], []), ([1, 2, 71, 72, 73], []), ([], []), ([1, 2, 71, 72, 73, 74], []), ([], []), ([999999, 1, 2, 71, 72, 73], []), ([1, 2, 6, 71, 72, 73], [(2, [1])]), ([], []), ([1, 2, 6, 7, 71, 72, 73], []), ([], []), ([1, 2, 6, 7, 71, 72, 73, 82], []), ([], []), ([1, 2, 6, 7, 71, 72, 73], []), ([999999, 1, 2, 6, 7, 71, 72, 73], []), ([1, 2, 71, 72, 73, 95], []), ([], []), ([4], []), ([], []), ([999999, 1, 2, 71, 72, 73], []), ([1, 2, 71, 72, 73], []), ([999999], []), ([4], []), ([], [])]) (by kernel_rfl)
/-- cento/tree.Right -/
def c_tree_Right : CC :=
  .seq (.reg [cn (some 1) (.box 25 (.tmp 0)) none [0],
      co (some 2) (.assign (.const (.bool false))) none] [1])
  (.seq (.reg [co (some 3) (.load 25 (.tmp 1)) none,
      co (some 4) (.call { callee := (.value (.func 35)), args := #[(.tmp 3), (.const (.int .i64 64))], argTypes := #[25, 3] }) none,
      co (some 2) (.assign (.tmp 4)) none] [2])
  (.ret))
theorem t_tree_Right : Txt Tryd.prog 21 5 [(.tmp 2)] c_tree_Right := txt_of (code := Tryd.f21.body.getD .ret) mixed (by kernel_rfl) Tryd.func21 (by kernel_rfl) Tryd.ntmps21 (by kernel_rfl) (ls := [([1], [(0, [0])]), ([], []), ([2], []), ([], [])]) (by kernel_rfl)
end Go.Proofs.YtgimfagpolbelaaDoor

/-
  The functions' text as data, and the facts on the types that they use: written by a program of ours (gen2.py) off the translation.
-/
namespace Go.Proofs.YtgimfagpolbelaaDoor
set_option linter.unusedVariables false
set_option linter.unusedSimpArgs false
set_option maxRecDepth 20000
open Go Go.G Go.Proofs
@[simp] theorem und_5 : Tryd.prog.underlying 5 = some (.int .u8) := by kernel_rfl
@[simp] theorem und_9 : Tryd.prog.underlying 9 = some .string := by kernel_rfl
@[simp] theorem und_30 : Tryd.prog.underlying 30 = some (.int .i64) := by kernel_rfl
@[simp] theorem und_42 : Tryd.prog.underlying 42 = some (.slice 5) := by kernel_rfl
@[simp] theorem und_83 : Tryd.prog.underlying 83 = some (.array 24 5) := by kernel_rfl
@[simp] theorem und_89 : Tryd.prog.underlying 89 = some (.int .u64) := by kernel_rfl
@[simp] theorem und_93 : Tryd.prog.underlying 93 = some (.array 65 5) := by kernel_rfl
@[simp] theorem szT_5 : szT Tryd.prog 5 = some 1 := by kernel_rfl
@[simp] theorem szT_9 : szT Tryd.prog 9 = some 1 := by kernel_rfl
@[simp] theorem szT_42 : szT Tryd.prog 42 = some 1 := by kernel_rfl
@[simp] theorem aggT_5 : aggT Tryd.prog 5 = some false := by kernel_rfl
@[simp] theorem aggT_9 : aggT Tryd.prog 9 = some false := by kernel_rfl
@[simp] theorem aggT_42 : aggT Tryd.prog 42 = some false := by kernel_rfl
@[simp] theorem zeroT_5 : zeroT Tryd.prog 5 = some (Value.int IntKind.u8 0) := by kernel_rfl
@[simp] theorem zeroT_44 : zeroT Tryd.prog 44 = some (Value.agg #[Value.pointer none, Value.slice none 0 0]) := by kernel_rfl
@[simp] theorem zeroT_83 : zeroT Tryd.prog 83 = some (Value.agg #[Value.int IntKind.u8 0, Value.int IntKind.u8 0, Value.int IntKind.u8 0, Value.int IntKind.u8 0, Value.int IntKind.u8 0, Value.int IntKind.u8 0, Value.int IntKind.u8 0, Value.int IntKind.u8 0, Value.int IntKind.u8 0, Value.int IntKind.u8 0, Value.int IntKind.u8 0, Value.int IntKind.u8 0, Value.int IntKind.u8 0, Value.int IntKind.u8 0, Value.int IntKind.u8 0, Value.int IntKind.u8 0, Value.int IntKind.u8 0, Value.int IntKind.u8 0, Value.int IntKind.u8 0, Value.int IntKind.u8 0, Value.int IntKind.u8 0, Value.int IntKind.u8 0, Value.int IntKind.u8 0, Value.int IntKind.u8 0]) := by kernel_rfl
@[simp] theorem zeroT_93 : zeroT Tryd.prog 93 = some (Value.agg #[Value.int IntKind.u8 0, Value.int IntKind.u8 0, Value.int IntKind.u8 0, Value.int IntKind.u8 0, Value.int IntKind.u8 0, Value.int IntKind.u8 0, Value.int IntKind.u8 0, Value.int IntKind.u8 0, Value.int IntKind.u8 0, Value.int IntKind.u8 0, Value.int IntKind.u8 0, Value.int IntKind.u8 0, Value.int IntKind.u8 0, Value.int IntKind.u8 0, Value.int IntKind.u8 0, Value.int IntKind.u8 0, Value.int IntKind.u8 0, Value.int IntKind.u8 0, Value.int IntKind.u8 0, Value.int IntKind.u8 0, Value.int IntKind.u8 0, Value.int IntKind.u8 0, Value.int IntKind.u8 0, Value.int IntKind.u8 0, Value.int IntKind.u8 0, Value.int IntKind.u8 0, Value.int IntKind.u8 0, Value.int IntKind.u8 0, Value.int IntKind.u8 0, Value.int IntKind.u8 0, Value.int IntKind.u8 0, Value.int IntKind.u8 0, Value.int IntKind.u8 0, Value.int IntKind.u8 0, Value.int IntKind.u8 0, Value.int IntKind.u8 0, Value.int IntKind.u8 0, Value.int IntKind.u8 0, Value.int IntKind.u8 0, Value.int IntKind.u8 0, Value.int IntKind.u8 0, Value.int IntKind.u8 0, Value.int IntKind.u8 0, Value.int IntKind.u8 0, Value.int IntKind.u8 0, Value.int IntKind.u8 0, Value.int IntKind.u8 0, Value.int IntKind.u8 0, Value.int IntKind.u8 0, Value.int IntKind.u8 0, Value.int IntKind.u8 0, Value.int IntKind.u8 0, Value.int IntKind.u8 0, Value.int IntKind.u8 0, Value.int IntKind.u8 0, Value.int IntKind.u8 0, Value.int IntKind.u8 0, Value.int IntKind.u8 0, Value.int IntKind.u8 0, Value.int IntKind.u8 0, Value.int IntKind.u8 0, Value.int IntKind.u8 0, Value.int IntKind.u8 0, Value.int IntKind.u8 0, Value.int IntKind.u8 0]) := by kernel_rfl
@[simp] theorem bytesT_5 : bytesT Tryd.prog 5 = some 1 := by kernel_rfl
@[simp] theorem fieldOffT_44_1 : fieldOffT Tryd.prog 44 1 = some 1 := by kernel_rfl
@[simp] theorem fieldOffT_51_0 : fieldOffT Tryd.prog 51 0 = some 0 := by kernel_rfl
@[simp] theorem fieldOffT_51_1 : fieldOffT Tryd.prog 51 1 = some 1 := by kernel_rfl
@[simp] theorem buildA_25 (ps : List (Nat × A)) : buildA Tryd.prog 25 ps = (fillA (fun i => ([(0, 1), (1, 1), (2, 1)] : List (Nat × Nat))[i]?) [A.v (Value.int IntKind.i64 0), A.sl true [], A.sl true []] ps).map A.agg := by kernel_rfl
@[simp] theorem buildA_51 (ps : List (Nat × A)) : buildA Tryd.prog 51 ps = (fillA (fun i => ([(0, 1), (1, 1)] : List (Nat × Nat))[i]?) [A.v (Value.string ByteArray.empty), A.v (Value.int IntKind.i64 0)] ps).map A.agg := by kernel_rfl
/-- (*strings.Builder).WriteByte -/
def c_strings_Builder_WriteByte : CC :=
  .seq (.reg [co (some 4) (.assign (.const .nilIface)) none] [0, 1])
  (.seq (.reg [co (some 5) (.move (.tmp 0)) none,
      co (some 6) (.call { callee := (.value (.func 39)), args := #[(.tmp 5)], argTypes := #[41] }) none] [0, 1])
  (.seq (.reg [co (some 7) (.move (.tmp 0)) none,
      co (some 8) (.move (.tmp 0)) none,
      co (some 9) (.nilCheck (.tmp 8)) none,
      co (some 10) (.fieldAddr 44 (.tmp 9) 1) none,
      co (some 11) (.load 42 (.tmp 10)) none,
      co (some 12) (.move (.tmp 1)) none,
      co (some 13) (.buildSlice 42 1 #[(0, (.tmp 12))]) none,
      cn (some 14) (.call { callee := (.builtin .append), args := #[(.tmp 11), (.tmp 13)], argTypes := #[42, 42] }) none [1],
      co (some 15) (.nilCheck (.tmp 7)) none,
      co (some 16) (.fieldAddr 44 (.tmp 15) 1) none,
      co none (.store 42 (.tmp 16) (.tmp 14)) none] [])
  (.seq (.reg [co (some 4) (.assign (.const .nilIface)) none] [4])
  (.ret))))
theorem t_strings_Builder_WriteByte : Txt Tryd.prog 27 17 [(.tmp 4)] c_strings_Builder_WriteByte := txt_of (code := Tryd.f27.body.getD .ret) mixed (by kernel_rfl) Tryd.func27 (by kernel_rfl) Tryd.ntmps27 (by kernel_rfl) (ls := [([0, 1], []), ([], []), ([0, 1], []), ([], []), ([], [(7, [1])]), ([], []), ([4], []), ([], [])]) (by kernel_rfl)
/-- (*strings.Builder).WriteString -/
def c_strings_Builder_WriteString : CC :=
  .seq (.reg [co (some 4) (.assign (.const (.int .i64 0))) none,
      co (some 5) (.assign (.const .nilIface)) none] [0, 1])
  (.seq (.reg [co (some 6) (.move (.tmp 0)) none,
      co (some 7) (.call { callee := (.value (.func 39)), args := #[(.tmp 6)], argTypes := #[41] }) none] [0, 1])
  (.seq (.reg [co (some 8) (.move (.tmp 0)) none,
      co (some 9) (.move (.tmp 0)) none,
      co (some 10) (.nilCheck (.tmp 9)) none,
      co (some 11) (.fieldAddr 44 (.tmp 10) 1) none,
      co (some 12) (.load 42 (.tmp 11)) none,
      co (some 13) (.move (.tmp 1)) none,
      cn (some 14) (.call { callee := (.builtin .append), args := #[(.tmp 12), (.tmp 13)], argTypes := #[42, 9] }) none [1],
      co (some 15) (.nilCheck (.tmp 8)) none,
      co (some 16) (.fieldAddr 44 (.tmp 15) 1) none,
      co none (.store 42 (.tmp 16) (.tmp 14)) none] [1])
  (.seq (.reg [co (some 17) (.move (.tmp 1)) none,
      co (some 18) (.call { callee := (.builtin .len), args := #[(.tmp 17)], argTypes := #[9] }) none,
      co (some 4) (.assign (.tmp 18)) none,
      co (some 5) (.assign (.const .nilIface)) none] [4, 5])
  (.ret))))
theorem t_strings_Builder_WriteString : Txt Tryd.prog 25 19 [(.tmp 4), (.tmp 5)] c_strings_Builder_WriteString := txt_of (code := Tryd.f25.body.getD .ret) mixed (by kernel_rfl) Tryd.func25 (by kernel_rfl) Tryd.ntmps25 (by kernel_rfl) (ls := [([0, 1], []), ([], []), ([0, 1], []), ([], []), ([1], [(6, [1])]), ([], []), ([4, 5], []), ([], [])]) (by kernel_rfl)
/-- internal/strconv.isPowerOfTwo -/
def c_internal_strconv_isPowerOfTwo : CC :=
  .seq (.reg [co (some 2) (.assign (.const (.bool false))) none] [0])
  (.seq (.reg [co (some 3) (.move (.tmp 0)) none,
      co (some 4) (.move (.tmp 0)) none,
      co (some 5) (.binOp .sub 3 (.tmp 4) (.const (.int .i64 1)) 3) none,
      co (some 6) (.binOp .and 3 (.tmp 3) (.tmp 5) 3) none,
      co (some 7) (.binOp .eql 3 (.tmp 6) (.const (.int .i64 0)) 3) none,
      co (some 2) (.assign (.tmp 7)) none] [2])
  (.ret))
theorem t_internal_strconv_isPowerOfTwo : Txt Tryd.prog 58 8 [(.tmp 2)] c_internal_strconv_isPowerOfTwo := txt_of (code := Tryd.f58.body.getD .ret) mixed (by kernel_rfl) Tryd.func58 (by kernel_rfl) Tryd.ntmps58 (by kernel_rfl) (ls := [([0], []), ([], []), ([2], []), ([], [])]) (by kernel_rfl)
def l1_internal_strconv_formatBits : CC :=
  .seq (.seq (.reg [co (some 44) (.move (.tmp 1)) none,
        co (some 45) (.move (.tmp 15)) none,
        co (some 46) (.binOp .geq 40 (.tmp 44) (.tmp 45) 40) none] [0, 1, 3, 4, 10, 11, 12, 13, 14, 15, 16, 46])
    (.cond (.tmp 46)
      (.skip)
      (.exit 0)))
  (.keep [0, 1, 3, 4, 10, 11, 12, 13, 14, 15, 16] (.block 1
    (.seq (.reg [co (some 47) (.move (.tmp 13)) none,
        co (some 48) (.binOp .sub 3 (.tmp 47) (.const (.int .i64 1)) 3) none,
        co (some 13) (.assign (.tmp 48)) none] [0, 1, 3, 4, 10, 11, 12, 13, 14, 15, 16])
    (.seq (.reg [co (some 49) (.move (.tmp 13)) none,
        co (some 50) (.move (.tmp 1)) none,
        co (some 51) (.move (.tmp 16)) none,
        co (some 52) (.binOp .and 89 (.tmp 50) (.tmp 51) 89) none,
        co (some 53) (.index 9 (.const (.string { data := #[48, 49, 50, 51, 52, 53, 54, 55, 56, 57, 97, 98, 99, 100, 101, 102, 103, 104, 105, 106, 107, 108, 109, 110, 111, 112, 113, 114, 115, 116, 117, 118, 119, 120, 121, 122] })) (.tmp 52)) none,
        co (some 54) (.indexAddr 93 (.tmp 12) (.tmp 49)) none,
        co none (.store 5 (.tmp 54) (.tmp 53)) none] [0, 1, 3, 4, 10, 11, 12, 13, 14, 15, 16])
    (.reg [co (some 55) (.move (.tmp 1)) none,
      co (some 56) (.move (.tmp 14)) none,
      co (some 57) (.binOp .shr 40 (.tmp 55) (.tmp 56) 89) none,
      co (some 1) (.assign (.tmp 57)) none] [0, 1, 3, 4, 10, 11, 12, 13, 14, 15, 16])))))
def l2_internal_strconv_formatBits : CC :=
  .seq (.seq (.reg [co (some 66) (.move (.tmp 1)) none,
        co (some 67) (.move (.tmp 17)) none,
        co (some 68) (.binOp .geq 40 (.tmp 66) (.tmp 67) 40) none] [0, 1, 3, 4, 10, 11, 12, 13, 17, 68])
    (.cond (.tmp 68)
      (.skip)
      (.exit 2)))
  (.keep [0, 1, 3, 4, 10, 11, 12, 13, 17] (.block 3
    (.seq (.reg [co (some 69) (.move (.tmp 13)) none,
        co (some 70) (.binOp .sub 3 (.tmp 69) (.const (.int .i64 1)) 3) none,
        co (some 13) (.assign (.tmp 70)) none] [0, 1, 3, 4, 10, 11, 12, 13, 17])
    (.seq (.reg [co (some 71) (.move (.tmp 1)) none,
        co (some 72) (.move (.tmp 17)) none,
        co (some 73) (.binOp .quo 40 (.tmp 71) (.tmp 72) 40) none,
        co (some 18) (.assign (.tmp 73)) none] [0, 1, 3, 4, 10, 11, 12, 13, 17, 18])
    (.seq (.reg [co (some 74) (.move (.tmp 13)) none,
        co (some 75) (.move (.tmp 1)) none,
        co (some 76) (.move (.tmp 18)) none,
        co (some 77) (.move (.tmp 17)) none,
        co (some 78) (.binOp .mul 40 (.tmp 76) (.tmp 77) 40) none,
        co (some 79) (.binOp .sub 40 (.tmp 75) (.tmp 78) 40) none,
        co (some 80) (.index 9 (.const (.string { data := #[48, 49, 50, 51, 52, 53, 54, 55, 56, 57, 97, 98, 99, 100, 101, 102, 103, 104, 105, 106, 107, 108, 109, 110, 111, 112, 113, 114, 115, 116, 117, 118, 119, 120, 121, 122] })) (.tmp 79)) none,
        co (some 81) (.indexAddr 93 (.tmp 12) (.tmp 74)) none,
        co none (.store 5 (.tmp 81) (.tmp 80)) none] [0, 3, 4, 10, 11, 12, 13, 17, 18])
    (.reg [co (some 82) (.move (.tmp 18)) none,
      co (some 1) (.assign (.tmp 82)) none] [0, 1, 3, 4, 10, 11, 12, 13, 17]))))))
def k1_internal_strconv_formatBits : CC :=
  .seq (.seq (.reg [co (some 94) (.move (.tmp 4)) none] [0, 10, 11, 12, 13, 94])
    (.cond (.tmp 94)
      (.seq (.reg [co (some 95) (.move (.tmp 0)) none,
          co (some 96) (.move (.tmp 13)) none,
          co (some 97) (.slice 93 (.tmp 12) (some (.tmp 96)) none none) none,
          cn (some 98) (.call { callee := (.builtin .append), args := #[(.tmp 95), (.tmp 97)], argTypes := #[42, 42] }) none [1],
          co (some 10) (.assign (.tmp 98)) none] [10, 11])
      (.ret))
      (.skip)))
  (.keep [10, 12, 13] (.stop (.seq (.reg [co (some 99) (.move (.tmp 13)) none,
      co (some 100) (.slice 93 (.tmp 12) (some (.tmp 99)) none none) none,
      co (some 101) (.convert 42 9 (.tmp 100)) none,
      co (some 11) (.assign (.tmp 101)) none] [10, 11])
  (.ret))))
def k2_internal_strconv_formatBits : CC :=
  .seq (.seq (.reg [co (some 89) (.move (.tmp 3)) none] [0, 4, 10, 11, 12, 13, 89])
    (.cond (.tmp 89)
      (.seq (.reg [co (some 90) (.move (.tmp 13)) none,
          co (some 91) (.binOp .sub 3 (.tmp 90) (.const (.int .i64 1)) 3) none,
          co (some 13) (.assign (.tmp 91)) none] [0, 4, 10, 11, 12, 13])
      (.reg [co (some 92) (.move (.tmp 13)) none,
        co (some 93) (.indexAddr 93 (.tmp 12) (.tmp 92)) none,
        co none (.store 5 (.tmp 93) (.const (.int .u8 45))) none] [0, 4, 10, 11, 12, 13]))
      (.skip)))
  (.keep [0, 4, 10, 11, 12, 13] k1_internal_strconv_formatBits)
def k3_internal_strconv_formatBits : CC :=
  .seq (.seq (.reg [co (some 33) (.move (.tmp 2)) none,
        co (some 34) (.call { callee := (.value (.func 58)), args := #[(.tmp 33)], argTypes := #[3] }) none] [0, 1, 2, 3, 4, 10, 11, 12, 13, 34])
    (.cond (.tmp 34)
      (.seq (.reg [co (some 35) (.move (.tmp 2)) none,
          co (some 36) (.convert 3 89 (.tmp 35)) none,
          co (some 37) (.call { callee := (.value (.func 59)), args := #[(.tmp 36)], argTypes := #[89] }) none,
          co (some 38) (.convert 3 89 (.tmp 37)) none,
          co (some 14) (.assign (.tmp 38)) none] [0, 1, 2, 3, 4, 10, 11, 12, 13, 14])
      (.seq (.reg [co (some 39) (.move (.tmp 2)) none,
          co (some 40) (.convert 3 40 (.tmp 39)) none,
          co (some 15) (.assign (.tmp 40)) none] [0, 1, 2, 3, 4, 10, 11, 12, 13, 14, 15])
      (.seq (.reg [co (some 41) (.move (.tmp 2)) none,
          co (some 42) (.convert 3 89 (.tmp 41)) none,
          co (some 43) (.binOp .sub 89 (.tmp 42) (.const (.int .u64 1)) 89) none,
          co (some 16) (.assign (.tmp 43)) none] [0, 1, 3, 4, 10, 11, 12, 13, 14, 15, 16])
      (.seq (.block 0
          (.loop l1_internal_strconv_formatBits))
      (.keep [0, 1, 3, 4, 10, 11, 12, 13] (.seq (.reg [co (some 58) (.move (.tmp 13)) none,
          co (some 59) (.binOp .sub 3 (.tmp 58) (.const (.int .i64 1)) 3) none,
          co (some 13) (.assign (.tmp 59)) none] [0, 1, 3, 4, 10, 11, 12, 13])
      (.reg [co (some 60) (.move (.tmp 13)) none,
        co (some 61) (.move (.tmp 1)) none,
        co (some 62) (.index 9 (.const (.string { data := #[48, 49, 50, 51, 52, 53, 54, 55, 56, 57, 97, 98, 99, 100, 101, 102, 103, 104, 105, 106, 107, 108, 109, 110, 111, 112, 113, 114, 115, 116, 117, 118, 119, 120, 121, 122] })) (.tmp 61)) none,
        co (some 63) (.indexAddr 93 (.tmp 12) (.tmp 60)) none,
        co none (.store 5 (.tmp 63) (.tmp 62)) none] [0, 3, 4, 10, 11, 12, 13])))))))
      (.seq (.reg [co (some 64) (.move (.tmp 2)) none,
          co (some 65) (.convert 3 40 (.tmp 64)) none,
          co (some 17) (.assign (.tmp 65)) none] [0, 1, 3, 4, 10, 11, 12, 13, 17])
      (.seq (.block 2
          (.loop l2_internal_strconv_formatBits))
      (.keep [0, 1, 3, 4, 10, 11, 12, 13] (.seq (.reg [co (some 83) (.move (.tmp 13)) none,
          co (some 84) (.binOp .sub 3 (.tmp 83) (.const (.int .i64 1)) 3) none,
          co (some 13) (.assign (.tmp 84)) none] [0, 1, 3, 4, 10, 11, 12, 13])
      (.reg [co (some 85) (.move (.tmp 13)) none,
        co (some 86) (.move (.tmp 1)) none,
        co (some 87) (.index 9 (.const (.string { data := #[48, 49, 50, 51, 52, 53, 54, 55, 56, 57, 97, 98, 99, 100, 101, 102, 103, 104, 105, 106, 107, 108, 109, 110, 111, 112, 113, 114, 115, 116, 117, 118, 119, 120, 121, 122] })) (.tmp 86)) none,
        co (some 88) (.indexAddr 93 (.tmp 12) (.tmp 85)) none,
        co none (.store 5 (.tmp 88) (.tmp 87)) none] [0, 3, 4, 10, 11, 12, 13])))))))
  (.keep [0, 3, 4, 10, 11, 12, 13] k2_internal_strconv_formatBits)
def k4_internal_strconv_formatBits : CC :=
  .seq (.reg [cn (some 12) (.alloc 93) none [0]] [0, 1, 2, 3, 4, 10, 11, 12])
  (.seq (.reg [co (some 13) (.assign (.const (.int .i64 65))) none] [0, 1, 2, 3, 4, 10, 11, 12, 13])
  (.seq (.seq (.reg [co (some 30) (.move (.tmp 3)) none] [0, 1, 2, 3, 4, 10, 11, 12, 13, 30])
    (.cond (.tmp 30)
      (.reg [co (some 31) (.move (.tmp 1)) none,
        co (some 32) (.unOp .neg 40 (.tmp 31)) none,
        co (some 1) (.assign (.tmp 32)) none] [0, 1, 2, 3, 4, 10, 11, 12, 13])
      (.skip)))
  (.keep [0, 1, 2, 3, 4, 10, 11, 12, 13] k3_internal_strconv_formatBits)))
/-- internal/strconv.formatBits -/
def c_internal_strconv_formatBits : CC :=
  .seq (.reg [co (some 10) (.assign (.const (.slice none 0 0))) none,
      co (some 11) (.assign (.const (.string { data := #[] }))) none] [0, 1, 2, 3, 4, 10, 11])
  (.seq (.seq (.reg [co (some 19) (.move (.tmp 2)) none,
        co (some 20) (.binOp .lss 3 (.tmp 19) (.const (.int .i64 2)) 3) none,
        co (some 21) (.move (.tmp 20)) none,
        co (some 22) (.move (.tmp 2)) (some (21, false)),
        co (some 23) (.binOp .eql 3 (.tmp 22) (.const (.int .i64 10)) 3) (some (21, false)),
        co (some 24) (.pick (.tmp 21) (.const (.bool true)) (.tmp 23)) none,
        co (some 25) (.move (.tmp 24)) none,
        co (some 26) (.move (.tmp 2)) (some (25, false)),
        co (some 27) (.binOp .gtr 3 (.tmp 26) (.const (.int .i64 36)) 3) (some (25, false)),
        co (some 28) (.pick (.tmp 25) (.const (.bool true)) (.tmp 27)) none] [0, 1, 2, 3, 4, 10, 11, 28])
    (.cond (.tmp 28)
      (.reg [co (some 29) (.makeInterface 9 (.const (.string { data := #[115, 116, 114, 99, 111, 110, 118, 58, 32, 105, 108, 108, 101, 103, 97, 108, 32, 65, 112, 112, 101, 110, 100, 73, 110, 116, 47, 70, 111, 114, 109, 97, 116, 73, 110, 116, 32, 98, 97, 115, 101] }))) none,
        co none (.panic (.tmp 29)) none] [0, 1, 2, 3, 4, 10, 11])
      (.skip)))
  (.keep [0, 1, 2, 3, 4, 10, 11] k4_internal_strconv_formatBits))
theorem t_internal_strconv_formatBits : Txt Tryd.prog 51 102 [(.tmp 10), (.tmp 11)] c_internal_strconv_formatBits := txt_of (code := Tryd.f51.body.getD .ret) mixed (by kernel_rfl) Tryd.func51 (by kernel_rfl) Tryd.ntmps51 (by kernel_rfl) (ls := [([0, 1, 2, 3, 4, 10, 11], []), ([], []), ([0, 1, 2, 3, 4, 10, 11, 28], []), ([], []), ([0, 1, 2, 3, 4, 10, 11], []), ([999999, 0, 1, 2, 3, 4, 10, 11], []), ([0, 1, 2, 3, 4, 10, 11, 12], [(0, [0])]), ([], []), ([0, 1, 2, 3, 4, 10, 11, 12, 13], []), ([], []), ([0, 1, 2, 3, 4, 10, 11, 12, 13, 30], []), ([], []), ([0, 1, 2, 3, 4, 10, 11, 12, 13], []), ([999999, 0, 1, 2, 3, 4, 10, 11, 12, 13], []), ([0, 1, 2, 3, 4, 10, 11, 12, 13, 34], []), ([], []), ([0, 1, 2, 3, 4, 10, 11, 12, 13, 14], []), ([], []), ([0, 1, 2, 3, 4, 10, 11, 12, 13, 14, 15], []), ([], []), ([0, 1, 3, 4, 10, 11, 12, 13, 14, 15, 16], []), ([], []), ([0, 1, 3, 4, 10, 11, 12, 13, 14, 15, 16, 46], []), ([], []), ([999999, 0, 1, 3, 4, 10, 11, 12, 13, 14, 15, 16], []), ([0, 1, 3, 4, 10, 11, 12, 13, 14, 15, 16], []), ([], []), ([0, 1, 3, 4, 10, 11, 12, 13, 14, 15, 16], []), ([], []), ([0, 1, 3, 4, 10, 11, 12, 13, 14, 15, 16], []), ([999999, 0, 1, 3, 4, 10, 11, 12, 13], []), ([0, 1, 3, 4, 10, 11, 12, 13], []), ([], []), ([0, 3, 4, 10, 11, 12, 13], []), ([0, 1, 3, 4, 10, 11, 12, 13, 17], []), ([], []), ([0, 1, 3, 4, 10, 11, 12, 13, 17, 68], []), ([], []), ([999999, 0, 1, 3, 4, 10, 11, 12, 13, 17], []), ([0, 1, 3, 4, 10, 11, 12, 13, 17], []), ([], []), ([0, 1, 3, 4, 10, 11, 12, 13, 17, 18], []), ([], []), ([0, 3, 4, 10, 11, 12, 13, 17, 18], []), ([], []), ([0, 1, 3, 4, 10, 11, 12, 13, 17], []), ([999999, 0, 1, 3, 4, 10, 11, 12, 13], []), ([0, 1, 3, 4, 10, 11, 12, 13], []), ([], []), ([0, 3, 4, 10, 11, 12, 13], []), ([999999, 0, 3, 4, 10, 11, 12, 13], []), ([0, 4, 10, 11, 12, 13, 89], []), ([], []), ([0, 4, 10, 11, 12, 13], []), ([], []), ([0, 4, 10, 11, 12, 13], []), ([999999, 0, 4, 10, 11, 12, 13], []), ([0, 10, 11, 12, 13, 94], []), ([], []), ([10, 11], [(3, [1])]), ([], []), ([999997, 10, 12, 13], []), ([10, 11], []), ([], [])]) (by kernel_rfl)
/-- internal/strconv.FormatUint -/
def c_internal_strconv_FormatUint : CC :=
  .seq (.reg [co (some 4) (.assign (.const (.string { data := #[] }))) none] [0, 1])
  (.seq (.seq (.reg [co (some 9) (.move (.tmp 1)) none,
        co (some 10) (.binOp .eql 3 (.tmp 9) (.const (.int .i64 10)) 3) none] [0, 1, 10])
    (.cond (.tmp 10)
      (.seq (.seq (.reg [co (some 11) (.move (.tmp 0)) none,
            co (some 12) (.binOp .lss 40 (.tmp 11) (.const (.int .u64 100)) 40) none] [0, 12])
        (.cond (.tmp 12)
          (.seq (.reg [co (some 13) (.move (.tmp 0)) none,
              co (some 14) (.convert 40 3 (.tmp 13)) none,
              co (some 15) (.call { callee := (.value (.func 48)), args := #[(.tmp 14)], argTypes := #[3] }) none,
              co (some 4) (.assign (.tmp 15)) none] [4])
          (.ret))
          (.skip)))
      (.keep [0] (.seq (.reg [cn (some 5) (.alloc 83) none [0]] [0, 5])
      (.seq (.reg [co (some 16) (.move (.tmp 0)) none,
          co (some 17) (.call { callee := (.value (.func 49)), args := #[(.tmp 16)], argTypes := #[40] }) none,
          co (some 6) (.assign (.tmp 17)) none] [0, 5, 6])
      (.seq (.reg [co (some 18) (.move (.tmp 6)) none,
          co (some 19) (.slice 83 (.tmp 5) none (some (.tmp 18)) none) none,
          co (some 20) (.move (.tmp 0)) none,
          co (some 21) (.call { callee := (.value (.func 50)), args := #[(.tmp 19), (.tmp 20)], argTypes := #[42, 40] }) none] [5, 6])
      (.seq (.reg [co (some 22) (.move (.tmp 6)) none,
          co (some 23) (.slice 83 (.tmp 5) none (some (.tmp 22)) none) none,
          co (some 24) (.convert 42 9 (.tmp 23)) none,
          co (some 4) (.assign (.tmp 24)) none] [4])
      (.ret)))))))
      (.skip)))
  (.keep [0, 1] (.seq (.reg [co (some 26) (.move (.tmp 0)) none,
      co (some 27) (.move (.tmp 1)) none,
      co (some 28) (.call { callee := (.value (.func 51)), args := #[(.const (.slice none 0 0)), (.tmp 26), (.tmp 27), (.const (.bool false)), (.const (.bool false))], argTypes := #[42, 40, 3, 4, 4] }) none,
      co (some 25) (.move (.tmp 28)) none,
      co (some 29) (.extract (.tmp 25) 0) none,
      co (some 30) (.extract (.tmp 25) 1) none,
      co (some 7) (.assign (.tmp 29)) none,
      co (some 8) (.assign (.tmp 30)) none] [8])
  (.seq (.reg [co (some 31) (.move (.tmp 8)) none,
      co (some 4) (.assign (.tmp 31)) none] [4])
  (.ret)))))
theorem t_internal_strconv_FormatUint : Txt Tryd.prog 40 32 [(.tmp 4)] c_internal_strconv_FormatUint := txt_of (code := Tryd.f40.body.getD .ret) mixed (by kernel_rfl) Tryd.func40 (by kernel_rfl) Tryd.ntmps40 (by kernel_rfl) (ls := [([0, 1], []), ([], []), ([0, 1, 10], []), ([], []), ([0, 12], []), ([], []), ([4], []), ([], []), ([999999, 0], []), ([0, 5], [(0, [0])]), ([], []), ([0, 5, 6], []), ([], []), ([5, 6], []), ([], []), ([4], []), ([], []), ([999999, 0, 1], []), ([8], []), ([], []), ([4], []), ([], [])]) (by kernel_rfl)
/-- strconv.FormatUint -/
def c_strconv_FormatUint : CC :=
  .seq (.reg [co (some 4) (.assign (.const (.string { data := #[] }))) none] [0, 1])
  (.seq (.reg [co (some 5) (.move (.tmp 0)) none,
      co (some 6) (.move (.tmp 1)) none,
      co (some 7) (.call { callee := (.value (.func 40)), args := #[(.tmp 5), (.tmp 6)], argTypes := #[40, 3] }) none,
      co (some 4) (.assign (.tmp 7)) none] [4])
  (.ret))
theorem t_strconv_FormatUint : Txt Tryd.prog 26 8 [(.tmp 4)] c_strconv_FormatUint := txt_of (code := Tryd.f26.body.getD .ret) mixed (by kernel_rfl) Tryd.func26 (by kernel_rfl) Tryd.ntmps26 (by kernel_rfl) (ls := [([0, 1], []), ([], []), ([4], []), ([], [])]) (by kernel_rfl)
def l1_text_all : CC :=
  .seq (.reg [co (some 9) (.binOp .lss 3 (.tmp 8) (.tmp 7) 3) none] [0, 6, 7, 8, 9])
  (.seq (.cond (.tmp 9)
      (.skip)
      (.exit 0))
  (.keep [0, 6, 7, 8] (.seq (.block 1
      (.seq (.reg [co (some 10) (.move (.tmp 8)) none,
          co (some 11) (.indexAddr 23 (.tmp 6) (.tmp 8)) none,
          co (some 12) (.load 25 (.tmp 11)) none,
          cn (some 5) (.alloc 25) none [1],
          co (some 4) (.assign (.tmp 10)) none,
          co none (.store 25 (.tmp 5) (.tmp 12)) none] [0, 4, 5, 6, 7, 8])
      (.seq (.seq (.reg [co (some 13) (.move (.tmp 4)) none,
            co (some 14) (.binOp .gtr 3 (.tmp 13) (.const (.int .i64 0)) 3) none] [0, 5, 6, 7, 8, 14])
        (.cond (.tmp 14)
          (.reg [co (some 15) (.move (.tmp 0)) none,
            co (some 16) (.call { callee := (.value (.func 27)), args := #[(.tmp 15), (.const (.int .u8 44))], argTypes := #[41, 5] }) none] [0, 5, 6, 7, 8])
          (.skip)))
      (.keep [0, 5, 6, 7, 8] (.reg [co (some 17) (.move (.tmp 0)) none,
        co (some 18) (.load 25 (.tmp 5)) none,
        co (some 19) (.call { callee := (.value (.func 16)), args := #[(.tmp 17), (.tmp 18)], argTypes := #[41, 25] }) none] [0, 6, 7, 8])))))
  (.keep [0, 6, 7, 8] (.reg [co (some 20) (.binOp .add 3 (.tmp 8) (.const (.int .i64 1)) 3) none,
    co (some 8) (.move (.tmp 20)) none] [0, 6, 7, 8])))))
/-- cento/text.all -/
def c_text_all : CC :=
  .seq (.reg [co (some 6) (.move (.tmp 1)) none,
      co (some 7) (.call { callee := (.builtin .len), args := #[(.tmp 6)], argTypes := #[23] }) none,
      co (some 8) (.move (.const (.int .i64 0))) none] [0, 6, 7, 8])
  (.block 0
    (.loop l1_text_all))
theorem t_text_all : Txt Tryd.prog 28 21 [] c_text_all := txt_of (code := Tryd.f28.body.getD .ret) mixed (by kernel_rfl) Tryd.func28 (by kernel_rfl) Tryd.ntmps28 (by kernel_rfl) (ls := [([0, 6, 7, 8], []), ([], []), ([0, 6, 7, 8, 9], []), ([], []), ([999999, 0, 6, 7, 8], []), ([0, 4, 5, 6, 7, 8], [(3, [1])]), ([], []), ([0, 5, 6, 7, 8, 14], []), ([], []), ([0, 5, 6, 7, 8], []), ([999999, 0, 5, 6, 7, 8], []), ([0, 6, 7, 8], []), ([999999, 0, 6, 7, 8], []), ([0, 6, 7, 8], [])]) (by kernel_rfl)
def l1_text_show : CC :=
  .seq (.reg [co (some 35) (.binOp .lss 3 (.tmp 34) (.tmp 33) 3) none] [0, 3, 32, 33, 34, 35])
  (.seq (.cond (.tmp 35)
      (.skip)
      (.exit 1))
  (.keep [0, 3, 32, 33, 34] (.seq (.block 2
      (.seq (.reg [co (some 36) (.move (.tmp 34)) none,
          co (some 37) (.indexAddr 22 (.tmp 32) (.tmp 34)) none,
          co (some 38) (.load 40 (.tmp 37)) none,
          co (some 4) (.assign (.tmp 36)) none,
          co (some 5) (.assign (.tmp 38)) none] [0, 3, 4, 5, 32, 33, 34])
      (.seq (.seq (.reg [co (some 39) (.move (.tmp 4)) none,
            co (some 40) (.binOp .gtr 3 (.tmp 39) (.const (.int .i64 0)) 3) none] [0, 3, 5, 32, 33, 34, 40])
        (.cond (.tmp 40)
          (.reg [co (some 41) (.move (.tmp 0)) none,
            co (some 42) (.call { callee := (.value (.func 27)), args := #[(.tmp 41), (.const (.int .u8 44))], argTypes := #[41, 5] }) none] [0, 3, 5, 32, 33, 34])
          (.skip)))
      (.keep [0, 3, 5, 32, 33, 34] (.reg [co (some 43) (.move (.tmp 0)) none,
        co (some 44) (.move (.tmp 5)) none,
        co (some 45) (.call { callee := (.value (.func 26)), args := #[(.tmp 44), (.const (.int .i64 16))], argTypes := #[40, 3] }) none,
        co (some 46) (.call { callee := (.value (.func 25)), args := #[(.tmp 43), (.tmp 45)], argTypes := #[41, 9] }) none] [0, 3, 32, 33, 34])))))
  (.keep [0, 3, 32, 33, 34] (.reg [co (some 47) (.binOp .add 3 (.tmp 34) (.const (.int .i64 1)) 3) none,
    co (some 34) (.move (.tmp 47)) none] [0, 3, 32, 33, 34])))))
/-- cento/text.show -/
def c_text_show : CC :=
  .seq (.reg [cn (some 3) (.box 25 (.tmp 1)) none [1]] [0, 3])
  (.block 0
    (.seq (.reg [co (some 9) (.fieldAddr 25 (.tmp 3) 0) none,
        co (some 10) (.load 3 (.tmp 9)) none,
        co (some 11) (.binOp .eql 3 (.tmp 10) (.const (.int .i64 10)) 3) none,
        co (some 12) (.move (.tmp 11)) none,
        co (some 13) (.fieldAddr 25 (.tmp 3) 1) (some (12, true)),
        co (some 14) (.load 22 (.tmp 13)) (some (12, true)),
        co (some 15) (.call { callee := (.builtin .len), args := #[(.tmp 14)], argTypes := #[22] }) (some (12, true)),
        co (some 16) (.binOp .eql 3 (.tmp 15) (.const (.int .i64 1)) 3) (some (12, true)),
        co (some 17) (.pick (.tmp 12) (.tmp 16) (.const (.bool false))) none,
        co (some 8) (.assign (.tmp 17)) none] [0, 3, 8])
    (.cond (.tmp 8)
      (.reg [co (some 18) (.move (.tmp 0)) none,
        co (some 19) (.fieldAddr 25 (.tmp 3) 1) none,
        co (some 20) (.load 22 (.tmp 19)) none,
        co (some 21) (.indexAddr 22 (.tmp 20) (.const (.int .i64 0))) none,
        co (some 22) (.load 40 (.tmp 21)) none,
        co (some 23) (.call { callee := (.value (.func 26)), args := #[(.tmp 22), (.const (.int .i64 16))], argTypes := #[40, 3] }) none,
        co (some 24) (.call { callee := (.value (.func 25)), args := #[(.tmp 18), (.tmp 23)], argTypes := #[41, 9] }) none] [])
      (.seq (.reg [co (some 26) (.fieldAddr 25 (.tmp 3) 0) none,
          co (some 27) (.load 3 (.tmp 26)) none,
          co (some 28) (.binOp .eql 3 (.tmp 27) (.const (.int .i64 1)) 3) none,
          co (some 25) (.assign (.tmp 28)) none] [0, 3, 25])
      (.cond (.tmp 25)
        (.seq (.reg [co (some 29) (.move (.tmp 0)) none,
            co (some 30) (.call { callee := (.value (.func 27)), args := #[(.tmp 29), (.const (.int .u8 123))], argTypes := #[41, 5] }) none] [0, 3])
        (.seq (.seq (.reg [co (some 31) (.fieldAddr 25 (.tmp 3) 1) none,
              co (some 32) (.load 22 (.tmp 31)) none,
              co (some 33) (.call { callee := (.builtin .len), args := #[(.tmp 32)], argTypes := #[22] }) none,
              co (some 34) (.move (.const (.int .i64 0))) none] [0, 3, 32, 33, 34])
          (.block 1
            (.loop l1_text_show)))
        (.keep [0, 3] (.seq (.seq (.reg [co (some 48) (.fieldAddr 25 (.tmp 3) 2) none,
              co (some 49) (.load 23 (.tmp 48)) none,
              co (some 50) (.call { callee := (.builtin .len), args := #[(.tmp 49)], argTypes := #[23] }) none,
              co (some 51) (.binOp .gtr 3 (.tmp 50) (.const (.int .i64 0)) 3) none] [0, 3, 51])
          (.cond (.tmp 51)
            (.reg [co (some 52) (.move (.tmp 0)) none,
              co (some 53) (.call { callee := (.value (.func 27)), args := #[(.tmp 52), (.const (.int .u8 124))], argTypes := #[41, 5] }) none] [0, 3])
            (.skip)))
        (.keep [0, 3] (.seq (.reg [co (some 54) (.move (.tmp 0)) none,
            co (some 55) (.fieldAddr 25 (.tmp 3) 2) none,
            co (some 56) (.load 23 (.tmp 55)) none,
            co (some 57) (.call { callee := (.value (.func 28)), args := #[(.tmp 54), (.tmp 56)], argTypes := #[41, 23] }) none] [0])
        (.reg [co (some 58) (.move (.tmp 0)) none,
          co (some 59) (.call { callee := (.value (.func 27)), args := #[(.tmp 58), (.const (.int .u8 125))], argTypes := #[41, 5] }) none] [])))))))
        (.seq (.reg [co (some 61) (.fieldAddr 25 (.tmp 3) 0) none,
            co (some 62) (.load 3 (.tmp 61)) none,
            co (some 63) (.call { callee := (.value (.func 29)), args := #[(.tmp 62)], argTypes := #[3] }) none,
            co (some 60) (.assign (.tmp 63)) none] [0, 3, 60])
        (.cond (.tmp 60)
          (.seq (.reg [co (some 64) (.move (.tmp 0)) none,
              co (some 65) (.fieldAddr 25 (.tmp 3) 0) none,
              co (some 66) (.load 3 (.tmp 65)) none,
              co (some 67) (.index 9 (.const (.string { data := #[46, 46, 118, 98, 121, 116, 102, 101, 112, 99] })) (.tmp 66)) none,
              co (some 68) (.call { callee := (.value (.func 27)), args := #[(.tmp 64), (.tmp 67)], argTypes := #[41, 5] }) none] [0, 3])
          (.seq (.reg [co (some 69) (.move (.tmp 0)) none,
              co (some 70) (.call { callee := (.value (.func 27)), args := #[(.tmp 69), (.const (.int .u8 91))], argTypes := #[41, 5] }) none] [0, 3])
          (.seq (.reg [co (some 71) (.move (.tmp 0)) none,
              co (some 72) (.fieldAddr 25 (.tmp 3) 2) none,
              co (some 73) (.load 23 (.tmp 72)) none,
              co (some 74) (.call { callee := (.value (.func 28)), args := #[(.tmp 71), (.tmp 73)], argTypes := #[41, 23] }) none] [0])
          (.reg [co (some 75) (.move (.tmp 0)) none,
            co (some 76) (.call { callee := (.value (.func 27)), args := #[(.tmp 75), (.const (.int .u8 93))], argTypes := #[41, 5] }) none] []))))
          (.reg [co (some 6) (.move (.tmp 0)) none,
            co (some 7) (.call { callee := (.value (.func 27)), args := #[(.tmp 6), (.const (.int .u8 95))], argTypes := #[41, 5] }) none] []))))))))
theorem t_text_show : Txt Tryd.prog 16 77 [] c_text_show := txt_of (code := Tryd.f16.body.getD .ret) mixed (by kernel_rfl) Tryd.func16 (by kernel_rfl) Tryd.ntmps16 (by kernel_rfl) (ls := [([0, 3], [(0, [1])]), ([], []), ([0, 3, 8], []), ([], []), ([], []), ([0, 3, 25], []), ([], []), ([0, 3], []), ([], []), ([0, 3, 32, 33, 34], []), ([], []), ([0, 3, 32, 33, 34, 35], []), ([], []), ([999999, 0, 3, 32, 33, 34], []), ([0, 3, 4, 5, 32, 33, 34], []), ([], []), ([0, 3, 5, 32, 33, 34, 40], []), ([], []), ([0, 3, 5, 32, 33, 34], []), ([999999, 0, 3, 5, 32, 33, 34], []), ([0, 3, 32, 33, 34], []), ([999999, 0, 3, 32, 33, 34], []), ([0, 3, 32, 33, 34], []), ([999999, 0, 3], []), ([0, 3, 51], []), ([], []), ([0, 3], []), ([999999, 0, 3], []), ([0], []), ([], []), ([], []), ([0, 3, 60], []), ([], []), ([0, 3], []), ([], []), ([0, 3], []), ([], []), ([0], []), ([], []), ([], []), ([], [])]) (by kernel_rfl)
/-- cento/text.Print -/
def c_text_Print : CC :=
  .seq (.reg [cn (some 1) (.box 25 (.tmp 0)) none [0],
      co (some 2) (.assign (.const (.string { data := #[] }))) none] [1])
  (.seq (.reg [cn (some 3) (.alloc 44) none [1, 777777, 44]] [1, 3])
  (.stop (.seq (.reg [co (some 4) (.load 25 (.tmp 1)) none,
      co (some 5) (.call { callee := (.value (.func 16)), args := #[(.tmp 3), (.tmp 4)], argTypes := #[41, 25] }) none] [3])
  (.seq (.reg [co (some 6) (.call { callee := (.value (.func 17)), args := #[(.tmp 3)], argTypes := #[44] }) none,
      co (some 2) (.assign (.tmp 6)) none] [2])
  (.ret)))))
theorem t_text_Print : Txt Tryd.prog 9 7 [(.tmp 2)] c_text_Print := txt_of (code := Tryd.f9.body.getD .ret) mixed (by kernel_rfl) Tryd.func9 (by kernel_rfl) Tryd.ntmps9 (by kernel_rfl) (ls := [([1], [(0, [0])]), ([], []), ([1, 3], [(0, [1, 777777, 44])]), ([999998], []), ([3], []), ([], []), ([2], []), ([], [])]) (by kernel_rfl)
/-- (*cento/text.parser).next -/
def c_text_parser_next : CC :=
  .seq (.reg [co (some 2) (.assign (.const (.int .u8 0))) none] [0])
  (.seq (.seq (.reg [co (some 3) (.move (.tmp 0)) none,
        co (some 4) (.nilCheck (.tmp 3)) none,
        co (some 5) (.fieldAddr 51 (.tmp 4) 1) none,
        co (some 6) (.load 3 (.tmp 5)) none,
        co (some 7) (.move (.tmp 0)) none,
        co (some 8) (.nilCheck (.tmp 7)) none,
        co (some 9) (.fieldAddr 51 (.tmp 8) 0) none,
        co (some 10) (.load 9 (.tmp 9)) none,
        co (some 11) (.call { callee := (.builtin .len), args := #[(.tmp 10)], argTypes := #[9] }) none,
        co (some 12) (.binOp .eql 3 (.tmp 6) (.tmp 11) 3) none] [0, 12])
    (.cond (.tmp 12)
      (.seq (.reg [co (some 2) (.assign (.const (.int .u8 0))) none] [2])
      (.ret))
      (.skip)))
  (.keep [0] (.seq (.reg [co (some 13) (.move (.tmp 0)) none,
      co (some 14) (.nilCheck (.tmp 13)) none,
      co (some 15) (.fieldAddr 51 (.tmp 14) 0) none,
      co (some 16) (.load 9 (.tmp 15)) none,
      co (some 17) (.move (.tmp 0)) none,
      co (some 18) (.nilCheck (.tmp 17)) none,
      co (some 19) (.fieldAddr 51 (.tmp 18) 1) none,
      co (some 20) (.load 3 (.tmp 19)) none,
      co (some 21) (.index 9 (.tmp 16) (.tmp 20)) none,
      co (some 2) (.assign (.tmp 21)) none] [2])
  (.ret))))
theorem t_text_parser_next : Txt Tryd.prog 33 22 [(.tmp 2)] c_text_parser_next := txt_of (code := Tryd.f33.body.getD .ret) mixed (by kernel_rfl) Tryd.func33 (by kernel_rfl) Tryd.ntmps33 (by kernel_rfl) (ls := [([0], []), ([], []), ([0, 12], []), ([], []), ([2], []), ([], []), ([999999, 0], []), ([2], []), ([], [])]) (by kernel_rfl)
/-- (*cento/text.parser).eat -/
def c_text_parser_eat : CC :=
  .seq (.reg [co (some 4) (.assign (.const (.bool false))) none] [0, 1])
  (.seq (.seq (.reg [co (some 5) (.move (.tmp 0)) none,
        co (some 6) (.call { callee := (.value (.func 33)), args := #[(.tmp 5)], argTypes := #[49] }) none,
        co (some 7) (.move (.tmp 1)) none,
        co (some 8) (.binOp .neq 5 (.tmp 6) (.tmp 7) 5) none,
        co (some 9) (.move (.tmp 8)) none,
        co (some 10) (.move (.tmp 0)) (some (9, false)),
        co (some 11) (.nilCheck (.tmp 10)) (some (9, false)),
        co (some 12) (.fieldAddr 51 (.tmp 11) 1) (some (9, false)),
        co (some 13) (.load 3 (.tmp 12)) (some (9, false)),
        co (some 14) (.move (.tmp 0)) (some (9, false)),
        co (some 15) (.nilCheck (.tmp 14)) (some (9, false)),
        co (some 16) (.fieldAddr 51 (.tmp 15) 0) (some (9, false)),
        co (some 17) (.load 9 (.tmp 16)) (some (9, false)),
        co (some 18) (.call { callee := (.builtin .len), args := #[(.tmp 17)], argTypes := #[9] }) (some (9, false)),
        co (some 19) (.binOp .eql 3 (.tmp 13) (.tmp 18) 3) (some (9, false)),
        co (some 20) (.pick (.tmp 9) (.const (.bool true)) (.tmp 19)) none] [0, 20])
    (.cond (.tmp 20)
      (.seq (.reg [co (some 4) (.assign (.const (.bool false))) none] [4])
      (.ret))
      (.skip)))
  (.keep [0] (.seq (.reg [co (some 21) (.move (.tmp 0)) none,
      co (some 22) (.nilCheck (.tmp 21)) none,
      co (some 23) (.fieldAddr 51 (.tmp 22) 1) none,
      co (some 24) (.load 3 (.tmp 23)) none,
      co (some 25) (.binOp .add 3 (.tmp 24) (.const (.int .i64 1)) 3) none,
      co (some 26) (.nilCheck (.tmp 21)) none,
      co (some 27) (.fieldAddr 51 (.tmp 26) 1) none,
      co none (.store 3 (.tmp 27) (.tmp 25)) none] [])
  (.seq (.reg [co (some 4) (.assign (.const (.bool true))) none] [4])
  (.ret)))))
theorem t_text_parser_eat : Txt Tryd.prog 30 28 [(.tmp 4)] c_text_parser_eat := txt_of (code := Tryd.f30.body.getD .ret) mixed (by kernel_rfl) Tryd.func30 (by kernel_rfl) Tryd.ntmps30 (by kernel_rfl) (ls := [([0, 1], []), ([], []), ([0, 20], []), ([], []), ([4], []), ([], []), ([999999, 0], []), ([], []), ([], []), ([4], []), ([], [])]) (by kernel_rfl)
/-- cento/text.hex -/
def c_text_hex : CC :=
  .seq (.reg [co (some 2) (.assign (.const (.int .u64 0))) none,
      co (some 3) (.assign (.const (.bool false))) none] [0])
  (.seq (.reg [co (some 5) (.move (.tmp 0)) none,
      co (some 6) (.call { callee := (.value (.func 32)), args := #[(.const (.string { data := #[48, 49, 50, 51, 52, 53, 54, 55, 56, 57, 97, 98, 99, 100, 101, 102] })), (.tmp 5)], argTypes := #[9, 5] }) none,
      co (some 4) (.assign (.tmp 6)) none] [4])
  (.seq (.reg [co (some 7) (.move (.tmp 4)) none,
      co (some 8) (.call { callee := (.builtin .max), args := #[(.tmp 7), (.const (.int .i64 0))], argTypes := #[3, 3] }) none,
      co (some 9) (.convert 3 40 (.tmp 8)) none,
      co (some 10) (.move (.tmp 4)) none,
      co (some 11) (.binOp .geq 3 (.tmp 10) (.const (.int .i64 0)) 3) none,
      co (some 2) (.assign (.tmp 9)) none,
      co (some 3) (.assign (.tmp 11)) none] [2, 3])
  (.ret)))
theorem t_text_hex : Txt Tryd.prog 53 12 [(.tmp 2), (.tmp 3)] c_text_hex := txt_of (code := Tryd.f53.body.getD .ret) mixed (by kernel_rfl) Tryd.func53 (by kernel_rfl) Tryd.ntmps53 (by kernel_rfl) (ls := [([0], []), ([], []), ([4], []), ([], []), ([2, 3], []), ([], [])]) (by kernel_rfl)
def l1_text_parser_number : CC :=
  .seq (.seq (.reg [co (some 13) (.move (.tmp 0)) none,
        co (some 14) (.nilCheck (.tmp 13)) none,
        co (some 15) (.fieldAddr 51 (.tmp 14) 1) none,
        co (some 16) (.load 3 (.tmp 15)) none,
        co (some 17) (.move (.tmp 0)) none,
        co (some 18) (.nilCheck (.tmp 17)) none,
        co (some 19) (.fieldAddr 51 (.tmp 18) 0) none,
        co (some 20) (.load 9 (.tmp 19)) none,
        co (some 21) (.call { callee := (.builtin .len), args := #[(.tmp 20)], argTypes := #[9] }) none,
        co (some 22) (.binOp .lss 3 (.tmp 16) (.tmp 21) 3) none] [0, 4, 5, 22])
    (.cond (.tmp 22)
      (.skip)
      (.exit 0)))
  (.keep [0, 4, 5] (.block 1
    (.seq (.reg [co (some 24) (.move (.tmp 0)) none,
        co (some 25) (.nilCheck (.tmp 24)) none,
        co (some 26) (.fieldAddr 51 (.tmp 25) 0) none,
        co (some 27) (.load 9 (.tmp 26)) none,
        co (some 28) (.move (.tmp 0)) none,
        co (some 29) (.nilCheck (.tmp 28)) none,
        co (some 30) (.fieldAddr 51 (.tmp 29) 1) none,
        co (some 31) (.load 3 (.tmp 30)) none,
        co (some 32) (.index 9 (.tmp 27) (.tmp 31)) none,
        co (some 33) (.call { callee := (.value (.func 53)), args := #[(.tmp 32)], argTypes := #[5] }) none,
        co (some 23) (.move (.tmp 33)) none,
        co (some 34) (.extract (.tmp 23) 0) none,
        co (some 35) (.extract (.tmp 23) 1) none,
        co (some 6) (.assign (.tmp 34)) none,
        co (some 7) (.assign (.tmp 35)) none] [0, 4, 5, 6, 7])
    (.seq (.seq (.reg [co (some 36) (.move (.tmp 7)) none,
          co (some 37) (.unOp .not 4 (.tmp 36)) none,
          co (some 38) (.move (.tmp 37)) none,
          co (some 39) (.move (.tmp 5)) (some (38, false)),
          co (some 40) (.binOp .shr 40 (.tmp 39) (.const (.int .u64 60)) 89) (some (38, false)),
          co (some 41) (.binOp .neq 40 (.tmp 40) (.const (.int .u64 0)) 40) (some (38, false)),
          co (some 42) (.pick (.tmp 38) (.const (.bool true)) (.tmp 41)) none] [0, 4, 5, 6, 42])
      (.cond (.tmp 42)
        (.exit 0)
        (.skip)))
    (.keep [0, 4, 5, 6] (.reg [co (some 43) (.move (.tmp 0)) none,
      co (some 44) (.move (.tmp 5)) none,
      co (some 45) (.binOp .shl 40 (.tmp 44) (.const (.int .u64 4)) 89) none,
      co (some 46) (.move (.tmp 6)) none,
      co (some 47) (.binOp .or 40 (.tmp 45) (.tmp 46) 40) none,
      co (some 48) (.move (.tmp 0)) none,
      co (some 49) (.nilCheck (.tmp 48)) none,
      co (some 50) (.fieldAddr 51 (.tmp 49) 1) none,
      co (some 51) (.load 3 (.tmp 50)) none,
      co (some 52) (.binOp .add 3 (.tmp 51) (.const (.int .i64 1)) 3) none,
      co (some 5) (.assign (.tmp 47)) none,
      co (some 53) (.nilCheck (.tmp 43)) none,
      co (some 54) (.fieldAddr 51 (.tmp 53) 1) none,
      co none (.store 3 (.tmp 54) (.tmp 52)) none] [0, 4, 5]))))))
def k1_text_parser_number : CC :=
  .seq (.reg [co (some 55) (.move (.tmp 0)) none,
      co (some 56) (.nilCheck (.tmp 55)) none,
      co (some 57) (.fieldAddr 51 (.tmp 56) 1) none,
      co (some 58) (.load 3 (.tmp 57)) none,
      co (some 59) (.move (.tmp 4)) none,
      co (some 60) (.binOp .sub 3 (.tmp 58) (.tmp 59) 3) none,
      co (some 8) (.assign (.tmp 60)) none] [0, 4, 5, 8])
  (.seq (.reg [co (some 61) (.move (.tmp 5)) none,
      co (some 62) (.move (.tmp 8)) none,
      co (some 63) (.binOp .gtr 3 (.tmp 62) (.const (.int .i64 0)) 3) none,
      co (some 64) (.move (.tmp 63)) none,
      co (some 65) (.move (.tmp 8)) (some (64, true)),
      co (some 66) (.binOp .eql 3 (.tmp 65) (.const (.int .i64 1)) 3) (some (64, true)),
      co (some 67) (.move (.tmp 66)) (some (64, true)),
      co (some 68) (.move (.tmp 0)) (some (67, false)),
      co (some 69) (.nilCheck (.tmp 68)) (some (67, false)),
      co (some 70) (.fieldAddr 51 (.tmp 69) 0) (some (67, false)),
      co (some 71) (.load 9 (.tmp 70)) (some (67, false)),
      co (some 72) (.move (.tmp 4)) (some (67, false)),
      co (some 73) (.index 9 (.tmp 71) (.tmp 72)) (some (67, false)),
      co (some 74) (.binOp .neq 5 (.tmp 73) (.const (.int .u8 48)) 5) (some (67, false)),
      co (some 75) (.pick (.tmp 67) (.const (.bool true)) (.tmp 74)) (some (64, true)),
      co (some 76) (.pick (.tmp 64) (.tmp 75) (.const (.bool false))) none,
      co (some 2) (.assign (.tmp 61)) none,
      co (some 3) (.assign (.tmp 76)) none] [2, 3])
  (.ret))
/-- (*cento/text.parser).number -/
def c_text_parser_number : CC :=
  .seq (.reg [co (some 2) (.assign (.const (.int .u64 0))) none,
      co (some 3) (.assign (.const (.bool false))) none] [0])
  (.seq (.reg [co (some 9) (.move (.tmp 0)) none,
      co (some 10) (.nilCheck (.tmp 9)) none,
      co (some 11) (.fieldAddr 51 (.tmp 10) 1) none,
      co (some 12) (.load 3 (.tmp 11)) none,
      co (some 4) (.assign (.tmp 12)) none,
      co (some 5) (.assign (.const (.int .u64 0))) none] [0, 4, 5])
  (.seq (.block 0
      (.loop l1_text_parser_number))
  (.keep [0, 4, 5] k1_text_parser_number)))
theorem t_text_parser_number : Txt Tryd.prog 44 77 [(.tmp 2), (.tmp 3)] c_text_parser_number := txt_of (code := Tryd.f44.body.getD .ret) mixed (by kernel_rfl) Tryd.func44 (by kernel_rfl) Tryd.ntmps44 (by kernel_rfl) (ls := [([0], []), ([], []), ([0, 4, 5], []), ([], []), ([0, 4, 5, 22], []), ([], []), ([999999, 0, 4, 5], []), ([0, 4, 5, 6, 7], []), ([], []), ([0, 4, 5, 6, 42], []), ([], []), ([999999, 0, 4, 5, 6], []), ([0, 4, 5], []), ([999999, 0, 4, 5], []), ([0, 4, 5, 8], []), ([], []), ([2, 3], []), ([], [])]) (by kernel_rfl)
def l1_text_parser_numbers : CC :=
  .block 1
    (.seq (.reg [co (some 8) (.move (.tmp 0)) none,
        co (some 9) (.call { callee := (.value (.func 44)), args := #[(.tmp 8)], argTypes := #[49] }) none,
        co (some 7) (.move (.tmp 9)) none,
        co (some 10) (.extract (.tmp 7) 0) none,
        co (some 11) (.extract (.tmp 7) 1) none,
        co (some 5) (.assign (.tmp 10)) none,
        co (some 6) (.assign (.tmp 11)) none] [0, 4, 5, 6])
    (.seq (.seq (.reg [co (some 12) (.move (.tmp 6)) none,
          co (some 13) (.unOp .not 4 (.tmp 12)) none] [0, 4, 5, 13])
      (.cond (.tmp 13)
        (.seq (.reg [co (some 2) (.assign (.const (.slice none 0 0))) none,
            co (some 3) (.assign (.const (.bool false))) none] [2, 3])
        (.ret))
        (.skip)))
    (.keep [0, 4, 5] (.seq (.reg [co (some 14) (.move (.tmp 4)) none,
        co (some 15) (.move (.tmp 5)) none,
        co (some 16) (.buildSlice 22 1 #[(0, (.tmp 15))]) none,
        cn (some 17) (.call { callee := (.builtin .append), args := #[(.tmp 14), (.tmp 16)], argTypes := #[22, 22] }) none [1],
        co (some 4) (.assign (.tmp 17)) none] [0, 4])
    (.seq (.reg [co (some 18) (.move (.tmp 0)) none,
        co (some 19) (.call { callee := (.value (.func 30)), args := #[(.tmp 18), (.const (.int .u8 44))], argTypes := #[49, 5] }) none,
        co (some 20) (.unOp .not 4 (.tmp 19)) none] [0, 4, 20])
    (.cond (.tmp 20)
      (.seq (.reg [co (some 21) (.move (.tmp 4)) none,
          co (some 2) (.assign (.tmp 21)) none,
          co (some 3) (.assign (.const (.bool true))) none] [2, 3])
      (.ret))
      (.skip)))))))
/-- (*cento/text.parser).numbers -/
def c_text_parser_numbers : CC :=
  .seq (.reg [co (some 2) (.assign (.const (.slice none 0 0))) none,
      co (some 3) (.assign (.const (.bool false))) none] [0])
  (.seq (.reg [co (some 4) (.assign (.const (.slice none 0 0))) none] [0, 4])
  (.block 0
    (.loop l1_text_parser_numbers)))
theorem t_text_parser_numbers : Txt Tryd.prog 41 22 [(.tmp 2), (.tmp 3)] c_text_parser_numbers := txt_of (code := Tryd.f41.body.getD .ret) mixed (by kernel_rfl) Tryd.func41 (by kernel_rfl) Tryd.ntmps41 (by kernel_rfl) (ls := [([0], []), ([], []), ([0, 4], []), ([], []), ([0, 4, 5, 6], []), ([], []), ([0, 4, 5, 13], []), ([], []), ([2, 3], []), ([], []), ([999999, 0, 4, 5], []), ([0, 4], [(3, [1])]), ([], []), ([0, 4, 20], []), ([], []), ([2, 3], []), ([], [])]) (by kernel_rfl)
def k1_text_parser_kids : CC :=
  .seq (.seq (.reg [co (some 33) (.move (.tmp 12)) none,
        co (some 34) (.unOp .not 4 (.tmp 33)) none] [0, 1, 2, 3, 10, 11, 34])
    (.cond (.tmp 34)
      (.seq (.reg [co (some 8) (.assign (.const (.slice none 0 0))) none,
          co (some 9) (.assign (.const (.bool false))) none] [8, 9])
      (.ret))
      (.skip)))
  (.keep [0, 1, 2, 3, 10, 11] (.seq (.reg [co (some 35) (.move (.tmp 10)) none,
      co (some 36) (.load 25 (.tmp 11)) none,
      co (some 37) (.buildSlice 23 1 #[(0, (.tmp 36))]) none,
      cn (some 38) (.call { callee := (.builtin .append), args := #[(.tmp 35), (.tmp 37)], argTypes := #[23, 23] }) none [2],
      co (some 10) (.assign (.tmp 38)) none] [0, 1, 2, 3, 10])
  (.block 2
    (.seq (.reg [co (some 40) (.move (.tmp 0)) none,
        co (some 41) (.move (.tmp 2)) none,
        co (some 42) (.call { callee := (.value (.func 30)), args := #[(.tmp 40), (.tmp 41)], argTypes := #[49, 5] }) none,
        co (some 39) (.assign (.tmp 42)) none] [0, 1, 2, 3, 10, 39])
    (.cond (.tmp 39)
      (.seq (.reg [co (some 43) (.move (.tmp 10)) none,
          co (some 8) (.assign (.tmp 43)) none,
          co (some 9) (.assign (.const (.bool true))) none] [8, 9])
      (.ret))
      (.seq (.reg [co (some 45) (.move (.tmp 0)) none,
          co (some 46) (.call { callee := (.value (.func 30)), args := #[(.tmp 45), (.const (.int .u8 44))], argTypes := #[49, 5] }) none,
          co (some 47) (.unOp .not 4 (.tmp 46)) none,
          co (some 44) (.assign (.tmp 47)) none] [0, 1, 2, 3, 10, 44])
      (.cond (.tmp 44)
        (.seq (.reg [co (some 8) (.assign (.const (.slice none 0 0))) none,
            co (some 9) (.assign (.const (.bool false))) none] [8, 9])
        (.ret))
        (.skip))))))))
def l1_text_parser_kids : CC :=
  .block 1
    (.seq (.reg [cn (some 11) (.alloc 25) none [1]] [0, 1, 2, 3, 10, 11])
    (.seq (.reg [co (some 12) (.assign (.const (.bool false))) none] [0, 1, 2, 3, 10, 11])
    (.seq (.seq (.reg [co (some 17) (.move (.tmp 1)) none,
          co (some 18) (.call { callee := (.value (.func 43)), args := #[(.tmp 17)], argTypes := #[3] }) none] [0, 1, 2, 3, 10, 11, 18])
      (.cond (.tmp 18)
        (.seq (.reg [co (some 13) (.assign (.const (.int .u64 0))) none] [0, 1, 2, 3, 10, 11])
        (.seq (.reg [co (some 20) (.move (.tmp 0)) none,
            co (some 21) (.call { callee := (.value (.func 44)), args := #[(.tmp 20)], argTypes := #[49] }) none,
            co (some 19) (.move (.tmp 21)) none,
            co (some 22) (.extract (.tmp 19) 0) none,
            co (some 23) (.extract (.tmp 19) 1) none,
            co (some 13) (.assign (.tmp 22)) none,
            co (some 12) (.assign (.tmp 23)) none] [0, 1, 2, 3, 10, 11, 12, 13])
        (.reg [co (some 24) (.move (.tmp 13)) none,
          co (some 25) (.buildSlice 22 1 #[(0, (.tmp 24))]) none,
          co (some 26) (.build 25 #[(0, (.const (.int .i64 10))), (1, (.tmp 25))]) none,
          co none (.store 25 (.tmp 11) (.tmp 26)) none] [0, 1, 2, 3, 10, 11, 12])))
        (.reg [co (some 28) (.move (.tmp 0)) none,
          co (some 29) (.move (.tmp 3)) none,
          co (some 30) (.call { callee := (.value (.func 20)), args := #[(.tmp 28), (.tmp 29)], argTypes := #[49, 3] }) none,
          co (some 27) (.move (.tmp 30)) none,
          co (some 31) (.extract (.tmp 27) 0) none,
          co (some 32) (.extract (.tmp 27) 1) none,
          co none (.store 25 (.tmp 11) (.tmp 31)) none,
          co (some 12) (.assign (.tmp 32)) none] [0, 1, 2, 3, 10, 11, 12])))
    (.keep [0, 1, 2, 3, 10, 11, 12] k1_text_parser_kids))))
/-- (*cento/text.parser).kids -/
def c_text_parser_kids : CC :=
  .seq (.reg [co (some 8) (.assign (.const (.slice none 0 0))) none,
      co (some 9) (.assign (.const (.bool false))) none] [0, 1, 2, 3])
  (.seq (.reg [co (some 10) (.assign (.const (.slice none 0 0))) none] [0, 1, 2, 3, 10])
  (.seq (.seq (.reg [co (some 14) (.move (.tmp 0)) none,
        co (some 15) (.move (.tmp 2)) none,
        co (some 16) (.call { callee := (.value (.func 30)), args := #[(.tmp 14), (.tmp 15)], argTypes := #[49, 5] }) none] [0, 1, 2, 3, 10, 16])
    (.cond (.tmp 16)
      (.seq (.reg [co (some 8) (.assign (.const (.slice none 0 0))) none,
          co (some 9) (.assign (.const (.bool true))) none] [8, 9])
      (.ret))
      (.skip)))
  (.keep [0, 1, 2, 3, 10] (.block 0
    (.loop l1_text_parser_kids)))))
theorem t_text_parser_kids : Txt Tryd.prog 34 48 [(.tmp 8), (.tmp 9)] c_text_parser_kids := txt_of (code := Tryd.f34.body.getD .ret) mixed (by kernel_rfl) Tryd.func34 (by kernel_rfl) Tryd.ntmps34 (by kernel_rfl) (ls := [([0, 1, 2, 3], []), ([], []), ([0, 1, 2, 3, 10], []), ([], []), ([0, 1, 2, 3, 10, 16], []), ([], []), ([8, 9], []), ([], []), ([999999, 0, 1, 2, 3, 10], []), ([0, 1, 2, 3, 10, 11], [(0, [1])]), ([], []), ([0, 1, 2, 3, 10, 11], []), ([], []), ([0, 1, 2, 3, 10, 11, 18], []), ([], []), ([0, 1, 2, 3, 10, 11], []), ([], []), ([0, 1, 2, 3, 10, 11, 12, 13], []), ([], []), ([0, 1, 2, 3, 10, 11, 12], []), ([0, 1, 2, 3, 10, 11, 12], []), ([999999, 0, 1, 2, 3, 10, 11, 12], []), ([0, 1, 2, 3, 10, 11, 34], []), ([], []), ([8, 9], []), ([], []), ([999999, 0, 1, 2, 3, 10, 11], []), ([0, 1, 2, 3, 10], [(3, [2])]), ([], []), ([0, 1, 2, 3, 10, 39], []), ([], []), ([8, 9], []), ([], []), ([0, 1, 2, 3, 10, 44], []), ([], []), ([8, 9], []), ([], [])]) (by kernel_rfl)
def k1_text_parser_structure : CC :=
  .seq (.seq (.reg [co (some 24) (.move (.tmp 0)) none,
        co (some 25) (.call { callee := (.value (.func 30)), args := #[(.tmp 24), (.const (.int .u8 125))], argTypes := #[49, 5] }) none] [0, 1, 4, 6, 25])
    (.cond (.tmp 25)
      (.seq (.reg [co (some 26) (.load 25 (.tmp 6)) none,
          co none (.store 25 (.tmp 4) (.tmp 26)) none,
          co (some 5) (.assign (.const (.bool true))) none] [4, 5])
      (.ret))
      (.skip)))
  (.keep [0, 1, 4, 6] (.seq (.seq (.reg [co (some 27) (.move (.tmp 0)) none,
        co (some 28) (.call { callee := (.value (.func 30)), args := #[(.tmp 27), (.const (.int .u8 124))], argTypes := #[49, 5] }) none,
        co (some 29) (.unOp .not 4 (.tmp 28)) none,
        co (some 30) (.move (.tmp 29)) none,
        co (some 31) (.move (.tmp 0)) (some (30, false)),
        co (some 32) (.call { callee := (.value (.func 33)), args := #[(.tmp 31)], argTypes := #[49] }) (some (30, false)),
        co (some 33) (.binOp .eql 5 (.tmp 32) (.const (.int .u8 125)) 5) (some (30, false)),
        co (some 34) (.pick (.tmp 30) (.const (.bool true)) (.tmp 33)) none] [0, 1, 4, 6, 34])
    (.cond (.tmp 34)
      (.seq (.reg [co (some 35) (.load 25 (.tmp 6)) none,
          co none (.store 25 (.tmp 4) (.tmp 35)) none,
          co (some 5) (.assign (.const (.bool false))) none] [4, 5])
      (.ret))
      (.skip)))
  (.keep [0, 1, 4, 6] (.seq (.reg [co (some 37) (.move (.tmp 0)) none,
      co (some 38) (.move (.tmp 1)) none,
      co (some 39) (.binOp .sub 3 (.tmp 38) (.const (.int .i64 1)) 3) none,
      co (some 40) (.call { callee := (.value (.func 34)), args := #[(.tmp 37), (.const (.int .i64 1)), (.const (.int .u8 125)), (.tmp 39)], argTypes := #[49, 3, 5, 3] }) none,
      co (some 36) (.move (.tmp 40)) none,
      co (some 41) (.extract (.tmp 36) 0) none,
      co (some 42) (.extract (.tmp 36) 1) none,
      co (some 43) (.fieldAddr 25 (.tmp 6) 2) none,
      co none (.store 23 (.tmp 43) (.tmp 41)) none,
      co (some 7) (.assign (.tmp 42)) none] [4, 6, 7])
  (.seq (.reg [co (some 44) (.load 25 (.tmp 6)) none,
      co (some 45) (.move (.tmp 7)) none,
      co none (.store 25 (.tmp 4) (.tmp 44)) none,
      co (some 5) (.assign (.tmp 45)) none] [4, 5])
  (.ret))))))
/-- (*cento/text.parser).structure -/
def c_text_parser_structure : CC :=
  .seq (.reg [cn (some 4) (.alloc 25) none [1],
      co (some 5) (.assign (.const (.bool false))) none] [0, 1, 4])
  (.seq (.reg [co (some 8) (.build 25 #[(0, (.const (.int .i64 1)))]) none,
      cn (some 6) (.alloc 25) none [2],
      co none (.store 25 (.tmp 6) (.tmp 8)) none] [0, 1, 4, 6])
  (.seq (.seq (.reg [co (some 9) (.move (.tmp 0)) none,
        co (some 10) (.call { callee := (.value (.func 30)), args := #[(.tmp 9), (.const (.int .u8 125))], argTypes := #[49, 5] }) none] [0, 1, 4, 6, 10])
    (.cond (.tmp 10)
      (.seq (.reg [co (some 11) (.load 25 (.tmp 6)) none,
          co none (.store 25 (.tmp 4) (.tmp 11)) none,
          co (some 5) (.assign (.const (.bool true))) none] [4, 5])
      (.ret))
      (.skip)))
  (.keep [0, 1, 4, 6] (.seq (.reg [co (some 7) (.assign (.const (.bool true))) none] [0, 1, 4, 6])
  (.seq (.seq (.reg [co (some 12) (.move (.tmp 0)) none,
        co (some 13) (.call { callee := (.value (.func 33)), args := #[(.tmp 12)], argTypes := #[49] }) none,
        co (some 14) (.binOp .neq 5 (.tmp 13) (.const (.int .u8 124)) 5) none] [0, 1, 4, 6, 14])
    (.cond (.tmp 14)
      (.seq (.reg [co (some 16) (.move (.tmp 0)) none,
          co (some 17) (.call { callee := (.value (.func 41)), args := #[(.tmp 16)], argTypes := #[49] }) none,
          co (some 15) (.move (.tmp 17)) none,
          co (some 18) (.extract (.tmp 15) 0) none,
          co (some 19) (.extract (.tmp 15) 1) none,
          co (some 20) (.fieldAddr 25 (.tmp 6) 1) none,
          co none (.store 22 (.tmp 20) (.tmp 18)) none,
          co (some 7) (.assign (.tmp 19)) none] [0, 1, 4, 6, 7])
      (.seq (.reg [co (some 21) (.move (.tmp 7)) none,
          co (some 22) (.unOp .not 4 (.tmp 21)) none] [0, 1, 4, 6, 22])
      (.cond (.tmp 22)
        (.seq (.reg [co (some 23) (.load 25 (.tmp 6)) none,
            co none (.store 25 (.tmp 4) (.tmp 23)) none,
            co (some 5) (.assign (.const (.bool false))) none] [4, 5])
        (.ret))
        (.skip))))
      (.skip)))
  (.keep [0, 1, 4, 6] k1_text_parser_structure))))))
theorem t_text_parser_structure : Txt Tryd.prog 31 46 [(.cell 4 25), (.tmp 5)] c_text_parser_structure := txt_of (code := Tryd.f31.body.getD .ret) mixed (by kernel_rfl) Tryd.func31 (by kernel_rfl) Tryd.ntmps31 (by kernel_rfl) (ls := [([0, 1, 4], [(0, [1])]), ([], []), ([0, 1, 4, 6], [(1, [2])]), ([], []), ([0, 1, 4, 6, 10], []), ([], []), ([4, 5], []), ([], []), ([999999, 0, 1, 4, 6], []), ([0, 1, 4, 6], []), ([], []), ([0, 1, 4, 6, 14], []), ([], []), ([0, 1, 4, 6, 7], []), ([], []), ([0, 1, 4, 6, 22], []), ([], []), ([4, 5], []), ([], []), ([999999, 0, 1, 4, 6], []), ([0, 1, 4, 6, 25], []), ([], []), ([4, 5], []), ([], []), ([999999, 0, 1, 4, 6], []), ([0, 1, 4, 6, 34], []), ([], []), ([4, 5], []), ([], []), ([999999, 0, 1, 4, 6], []), ([4, 6, 7], []), ([], []), ([4, 5], []), ([], [])]) (by kernel_rfl)
/-- (*cento/text.parser).tree -/
def c_text_parser_tree : CC :=
  .seq (.reg [cn (some 4) (.alloc 25) none [1],
      co (some 5) (.assign (.const (.bool false))) none] [0, 1, 4])
  (.seq (.seq (.reg [co (some 9) (.move (.tmp 0)) none,
        co (some 10) (.call { callee := (.value (.func 30)), args := #[(.tmp 9), (.const (.int .u8 95))], argTypes := #[49, 5] }) none] [0, 1, 4, 10])
    (.cond (.tmp 10)
      (.seq (.reg [co (some 11) (.build 25 #[]) none,
          co none (.store 25 (.tmp 4) (.tmp 11)) none,
          co (some 5) (.assign (.const (.bool true))) none] [4, 5])
      (.ret))
      (.skip)))
  (.keep [0, 1, 4] (.seq (.seq (.reg [co (some 12) (.move (.tmp 1)) none,
        co (some 13) (.binOp .eql 3 (.tmp 12) (.const (.int .i64 0)) 3) none] [0, 1, 4, 13])
    (.cond (.tmp 13)
      (.seq (.reg [co (some 14) (.build 25 #[]) none,
          co none (.store 25 (.tmp 4) (.tmp 14)) none,
          co (some 5) (.assign (.const (.bool false))) none] [4, 5])
      (.ret))
      (.skip)))
  (.keep [0, 1, 4] (.seq (.seq (.reg [co (some 15) (.move (.tmp 0)) none,
        co (some 16) (.call { callee := (.value (.func 30)), args := #[(.tmp 15), (.const (.int .u8 123))], argTypes := #[49, 5] }) none] [0, 1, 4, 16])
    (.cond (.tmp 16)
      (.seq (.reg [co (some 17) (.move (.tmp 0)) none,
          co (some 18) (.move (.tmp 1)) none,
          co (some 19) (.call { callee := (.value (.func 31)), args := #[(.tmp 17), (.tmp 18)], argTypes := #[49, 3] }) none,
          co (some 20) (.extract (.tmp 19) 0) none,
          co (some 21) (.extract (.tmp 19) 1) none,
          co none (.store 25 (.tmp 4) (.tmp 20)) none,
          co (some 5) (.assign (.tmp 21)) none] [4, 5])
      (.ret))
      (.skip)))
  (.keep [0, 1, 4] (.seq (.reg [co (some 22) (.move (.tmp 0)) none,
      co (some 23) (.call { callee := (.value (.func 33)), args := #[(.tmp 22)], argTypes := #[49] }) none,
      co (some 24) (.call { callee := (.value (.func 32)), args := #[(.const (.string { data := #[46, 46, 118, 98, 121, 116, 102, 101, 112, 99] })), (.tmp 23)], argTypes := #[9, 5] }) none,
      co (some 6) (.assign (.tmp 24)) none] [0, 1, 4, 6])
  (.seq (.seq (.reg [co (some 25) (.move (.tmp 6)) none,
        co (some 26) (.binOp .lss 3 (.tmp 25) (.const (.int .i64 2)) 3) none,
        co (some 27) (.move (.tmp 26)) none,
        co (some 28) (.move (.tmp 0)) (some (27, false)),
        co (some 29) (.call { callee := (.value (.func 33)), args := #[(.tmp 28)], argTypes := #[49] }) (some (27, false)),
        co (some 30) (.binOp .eql 5 (.tmp 29) (.const (.int .u8 46)) 5) (some (27, false)),
        co (some 31) (.pick (.tmp 27) (.const (.bool true)) (.tmp 30)) none] [0, 1, 4, 6, 31])
    (.cond (.tmp 31)
      (.seq (.reg [co (some 32) (.build 25 #[]) none,
          co none (.store 25 (.tmp 4) (.tmp 32)) none,
          co (some 5) (.assign (.const (.bool false))) none] [4, 5])
      (.ret))
      (.skip)))
  (.keep [0, 1, 4, 6] (.seq (.reg [co (some 33) (.move (.tmp 0)) none,
      co (some 34) (.nilCheck (.tmp 33)) none,
      co (some 35) (.fieldAddr 51 (.tmp 34) 1) none,
      co (some 36) (.load 3 (.tmp 35)) none,
      co (some 37) (.binOp .add 3 (.tmp 36) (.const (.int .i64 1)) 3) none,
      co (some 38) (.nilCheck (.tmp 33)) none,
      co (some 39) (.fieldAddr 51 (.tmp 38) 1) none,
      co none (.store 3 (.tmp 39) (.tmp 37)) none] [0, 1, 4, 6])
  (.seq (.seq (.reg [co (some 40) (.move (.tmp 0)) none,
        co (some 41) (.call { callee := (.value (.func 30)), args := #[(.tmp 40), (.const (.int .u8 91))], argTypes := #[49, 5] }) none,
        co (some 42) (.unOp .not 4 (.tmp 41)) none] [0, 1, 4, 6, 42])
    (.cond (.tmp 42)
      (.seq (.reg [co (some 43) (.build 25 #[]) none,
          co none (.store 25 (.tmp 4) (.tmp 43)) none,
          co (some 5) (.assign (.const (.bool false))) none] [4, 5])
      (.ret))
      (.skip)))
  (.keep [0, 1, 4, 6] (.seq (.reg [co (some 45) (.move (.tmp 0)) none,
      co (some 46) (.move (.tmp 6)) none,
      co (some 47) (.move (.tmp 1)) none,
      co (some 48) (.binOp .sub 3 (.tmp 47) (.const (.int .i64 1)) 3) none,
      co (some 49) (.call { callee := (.value (.func 34)), args := #[(.tmp 45), (.tmp 46), (.const (.int .u8 93)), (.tmp 48)], argTypes := #[49, 3, 5, 3] }) none,
      co (some 44) (.move (.tmp 49)) none,
      co (some 50) (.extract (.tmp 44) 0) none,
      co (some 51) (.extract (.tmp 44) 1) none,
      co (some 7) (.assign (.tmp 50)) none,
      co (some 8) (.assign (.tmp 51)) none] [4, 6, 7, 8])
  (.seq (.reg [co (some 52) (.move (.tmp 6)) none,
      co (some 53) (.move (.tmp 7)) none,
      co (some 54) (.build 25 #[(0, (.tmp 52)), (2, (.tmp 53))]) none,
      co (some 55) (.move (.tmp 8)) none,
      co none (.store 25 (.tmp 4) (.tmp 54)) none,
      co (some 5) (.assign (.tmp 55)) none] [4, 5])
  (.ret)))))))))))))))
theorem t_text_parser_tree : Txt Tryd.prog 20 56 [(.cell 4 25), (.tmp 5)] c_text_parser_tree := txt_of (code := Tryd.f20.body.getD .ret) mixed (by kernel_rfl) Tryd.func20 (by kernel_rfl) Tryd.ntmps20 (by kernel_rfl) (ls := [([0, 1, 4], [(0, [1])]), ([], []), ([0, 1, 4, 10], []), ([], []), ([4, 5], []), ([], []), ([999999, 0, 1, 4], []), ([0, 1, 4, 13], []), ([], []), ([4, 5], []), ([], []), ([999999, 0, 1, 4], []), ([0, 1, 4, 16], []), ([], []), ([4, 5], []), ([], []), ([999999, 0, 1, 4], []), ([0, 1, 4, 6], []), ([], []), ([0, 1, 4, 6, 31], []), ([], []), ([4, 5], []), ([], []), ([999999, 0, 1, 4, 6], []), ([0, 1, 4, 6], []), ([], []), ([0, 1, 4, 6, 42], []), ([], []), ([4, 5], []), ([], []), ([999999, 0, 1, 4, 6], []), ([4, 6, 7, 8], []), ([], []), ([4, 5], []), ([], [])]) (by kernel_rfl)
/-- cento/text.Parse -/
def c_text_Parse : CC :=
  .seq (.reg [cn (some 2) (.alloc 25) none [0],
      co (some 3) (.assign (.const (.int .i64 0))) none] [0, 2])
  (.seq (.reg [co (some 7) (.move (.tmp 0)) none,
      co (some 8) (.build 51 #[(0, (.tmp 7))]) none,
      cn (some 9) (.box 51 (.tmp 8)) none [1],
      co (some 4) (.assign (.tmp 9)) none] [0, 2, 4])
  (.seq (.reg [co (some 11) (.move (.tmp 4)) none,
      co (some 12) (.call { callee := (.value (.func 20)), args := #[(.tmp 11), (.const (.int .i64 64))], argTypes := #[49, 3] }) none,
      co (some 10) (.move (.tmp 12)) none,
      co (some 13) (.extract (.tmp 10) 0) none,
      co (some 14) (.extract (.tmp 10) 1) none,
      cn (some 5) (.alloc 25) none [2],
      co none (.store 25 (.tmp 5) (.tmp 13)) none,
      co (some 6) (.assign (.tmp 14)) none] [0, 2, 4, 5, 6])
  (.seq (.seq (.reg [co (some 15) (.move (.tmp 6)) none,
        co (some 16) (.unOp .not 4 (.tmp 15)) none,
        co (some 17) (.move (.tmp 16)) none,
        co (some 18) (.move (.tmp 4)) (some (17, false)),
        co (some 19) (.nilCheck (.tmp 18)) (some (17, false)),
        co (some 20) (.fieldAddr 51 (.tmp 19) 1) (some (17, false)),
        co (some 21) (.load 3 (.tmp 20)) (some (17, false)),
        co (some 22) (.move (.tmp 0)) (some (17, false)),
        co (some 23) (.call { callee := (.builtin .len), args := #[(.tmp 22)], argTypes := #[9] }) (some (17, false)),
        co (some 24) (.binOp .lss 3 (.tmp 21) (.tmp 23) 3) (some (17, false)),
        co (some 25) (.pick (.tmp 17) (.const (.bool true)) (.tmp 24)) none,
        co (some 26) (.move (.tmp 25)) none,
        co (some 27) (.load 25 (.tmp 5)) (some (26, false)),
        co (some 28) (.call { callee := (.value (.func 21)), args := #[(.tmp 27)], argTypes := #[25] }) (some (26, false)),
        co (some 29) (.unOp .not 4 (.tmp 28)) (some (26, false)),
        co (some 30) (.pick (.tmp 26) (.const (.bool true)) (.tmp 29)) none] [2, 5, 30])
    (.cond (.tmp 30)
      (.seq (.reg [co (some 31) (.build 25 #[]) none,
          co none (.store 25 (.tmp 2) (.tmp 31)) none,
          co (some 3) (.assign (.const (.int .i64 11))) none] [2, 3])
      (.ret))
      (.skip)))
  (.keep [2, 5] (.seq (.reg [co (some 32) (.load 25 (.tmp 5)) none,
      co none (.store 25 (.tmp 2) (.tmp 32)) none,
      co (some 3) (.assign (.const (.int .i64 0))) none] [2, 3])
  (.ret))))))
theorem t_text_Parse : Txt Tryd.prog 11 33 [(.cell 2 25), (.tmp 3)] c_text_Parse := txt_of (code := Tryd.f11.body.getD .ret) mixed (by kernel_rfl) Tryd.func11 (by kernel_rfl) Tryd.ntmps11 (by kernel_rfl) (ls := [([0, 2], [(0, [0])]), ([], []), ([0, 2, 4], [(2, [1])]), ([], []), ([0, 2, 4, 5, 6], [(5, [2])]), ([], []), ([2, 5, 30], []), ([], []), ([2, 3], []), ([], []), ([999999, 2, 5], []), ([2, 3], []), ([], [])]) (by kernel_rfl)
/-- cento/centoref08.Hex -/
def c_centoref08_Hex : CC :=
  .seq (.reg [co (some 2) (.assign (.const (.string { data := #[] }))) none] [0])
  (.seq (.reg [co (some 4) (.move (.tmp 0)) none,
      co (some 5) (.binOp .rem 40 (.tmp 4) (.const (.int .u64 16)) 40) none,
      co (some 6) (.move (.tmp 0)) none,
      co (some 7) (.binOp .rem 40 (.tmp 6) (.const (.int .u64 16)) 40) none,
      co (some 8) (.binOp .add 40 (.tmp 7) (.const (.int .u64 1)) 40) none,
      co (some 9) (.slice 9 (.const (.string { data := #[48, 49, 50, 51, 52, 53, 54, 55, 56, 57, 97, 98, 99, 100, 101, 102] })) (some (.tmp 5)) (some (.tmp 8)) none) none,
      co (some 3) (.assign (.tmp 9)) none] [0, 3])
  (.seq (.seq (.reg [co (some 10) (.move (.tmp 0)) none,
        co (some 11) (.binOp .lss 40 (.tmp 10) (.const (.int .u64 16)) 40) none] [0, 3, 11])
    (.cond (.tmp 11)
      (.seq (.reg [co (some 12) (.move (.tmp 3)) none,
          co (some 2) (.assign (.tmp 12)) none] [2])
      (.ret))
      (.skip)))
  (.keep [0, 3] (.seq (.reg [co (some 13) (.move (.tmp 0)) none,
      co (some 14) (.binOp .quo 40 (.tmp 13) (.const (.int .u64 16)) 40) none,
      co (some 15) (.call { callee := (.value (.func 18)), args := #[(.tmp 14)], argTypes := #[40] }) none,
      co (some 16) (.move (.tmp 3)) none,
      co (some 17) (.binOp .add 9 (.tmp 15) (.tmp 16) 9) none,
      co (some 2) (.assign (.tmp 17)) none] [2])
  (.ret)))))
theorem t_centoref08_Hex : Txt Tryd.prog 18 18 [(.tmp 2)] c_centoref08_Hex := txt_of (code := Tryd.f18.body.getD .ret) mixed (by kernel_rfl) Tryd.func18 (by kernel_rfl) Tryd.ntmps18 (by kernel_rfl) (ls := [([0], []), ([], []), ([0, 3], []), ([], []), ([0, 3, 11], []), ([], []), ([2], []), ([], []), ([999999, 0, 3], []), ([2], []), ([], [])]) (by kernel_rfl)
def l1_centoref08_join : CC :=
  .seq (.seq (.reg [co (some 5) (.move (.tmp 4)) none,
        co (some 6) (.move (.tmp 0)) none,
        co (some 7) (.call { callee := (.builtin .len), args := #[(.tmp 6)], argTypes := #[23] }) none,
        co (some 8) (.binOp .lss 3 (.tmp 5) (.tmp 7) 3) none] [0, 3, 4, 8])
    (.cond (.tmp 8)
      (.skip)
      (.exit 0)))
  (.keep [0, 3, 4] (.seq (.block 1
      (.seq (.seq (.reg [co (some 11) (.move (.tmp 4)) none,
            co (some 12) (.binOp .gtr 3 (.tmp 11) (.const (.int .i64 0)) 3) none] [0, 3, 4, 12])
        (.cond (.tmp 12)
          (.reg [co (some 13) (.move (.tmp 3)) none,
            co (some 14) (.binOp .add 9 (.tmp 13) (.const (.string { data := #[44] })) 9) none,
            co (some 3) (.assign (.tmp 14)) none] [0, 3, 4])
          (.skip)))
      (.keep [0, 3, 4] (.reg [co (some 15) (.move (.tmp 3)) none,
        co (some 16) (.move (.tmp 0)) none,
        co (some 17) (.move (.tmp 4)) none,
        co (some 18) (.indexAddr 23 (.tmp 16) (.tmp 17)) none,
        co (some 19) (.load 25 (.tmp 18)) none,
        co (some 20) (.call { callee := (.value (.func 10)), args := #[(.tmp 19)], argTypes := #[25] }) none,
        co (some 21) (.binOp .add 9 (.tmp 15) (.tmp 20) 9) none,
        co (some 3) (.assign (.tmp 21)) none] [0, 3, 4]))))
  (.keep [0, 3, 4] (.reg [co (some 9) (.move (.tmp 4)) none,
    co (some 10) (.binOp .add 3 (.tmp 9) (.const (.int .i64 1)) 3) none,
    co (some 4) (.assign (.tmp 10)) none] [0, 3, 4]))))
/-- cento/centoref08.join -/
def c_centoref08_join : CC :=
  .seq (.reg [co (some 2) (.assign (.const (.string { data := #[] }))) none] [0])
  (.seq (.reg [co (some 3) (.assign (.const (.string { data := #[] }))) none] [0, 3])
  (.seq (.seq (.reg [co (some 4) (.assign (.const (.int .i64 0))) none] [0, 3, 4])
    (.block 0
      (.loop l1_centoref08_join)))
  (.keep [3] (.seq (.reg [co (some 22) (.move (.tmp 3)) none,
      co (some 2) (.assign (.tmp 22)) none] [2])
  (.ret)))))
theorem t_centoref08_join : Txt Tryd.prog 19 23 [(.tmp 2)] c_centoref08_join := txt_of (code := Tryd.f19.body.getD .ret) mixed (by kernel_rfl) Tryd.func19 (by kernel_rfl) Tryd.ntmps19 (by kernel_rfl) (ls := [([0], []), ([], []), ([0, 3], []), ([], []), ([0, 3, 4], []), ([], []), ([0, 3, 4, 8], []), ([], []), ([999999, 0, 3, 4], []), ([0, 3, 4, 12], []), ([], []), ([0, 3, 4], []), ([999999, 0, 3, 4], []), ([0, 3, 4], []), ([999999, 0, 3, 4], []), ([0, 3, 4], []), ([999999, 3], []), ([2], []), ([], [])]) (by kernel_rfl)
def k1_centoref08_Print : CC :=
  .reg [co (some 42) (.move (.tmp 3)) none,
    co (some 43) (.fieldAddr 25 (.tmp 1) 1) none,
    co (some 44) (.load 22 (.tmp 43)) none,
    co (some 45) (.move (.tmp 4)) none,
    co (some 46) (.indexAddr 22 (.tmp 44) (.tmp 45)) none,
    co (some 47) (.load 40 (.tmp 46)) none,
    co (some 48) (.call { callee := (.value (.func 18)), args := #[(.tmp 47)], argTypes := #[40] }) none,
    co (some 49) (.binOp .add 9 (.tmp 42) (.tmp 48) 9) none,
    co (some 3) (.assign (.tmp 49)) none] [1, 3, 4]
def l1_centoref08_Print : CC :=
  .seq (.seq (.reg [co (some 31) (.move (.tmp 4)) none,
        co (some 32) (.fieldAddr 25 (.tmp 1) 1) none,
        co (some 33) (.load 22 (.tmp 32)) none,
        co (some 34) (.call { callee := (.builtin .len), args := #[(.tmp 33)], argTypes := #[22] }) none,
        co (some 35) (.binOp .lss 3 (.tmp 31) (.tmp 34) 3) none] [1, 3, 4, 35])
    (.cond (.tmp 35)
      (.skip)
      (.exit 0)))
  (.keep [1, 3, 4] (.seq (.block 1
      (.seq (.seq (.reg [co (some 38) (.move (.tmp 4)) none,
            co (some 39) (.binOp .gtr 3 (.tmp 38) (.const (.int .i64 0)) 3) none] [1, 3, 4, 39])
        (.cond (.tmp 39)
          (.reg [co (some 40) (.move (.tmp 3)) none,
            co (some 41) (.binOp .add 9 (.tmp 40) (.const (.string { data := #[44] })) 9) none,
            co (some 3) (.assign (.tmp 41)) none] [1, 3, 4])
          (.skip)))
      (.keep [1, 3, 4] k1_centoref08_Print)))
  (.keep [1, 3, 4] (.reg [co (some 36) (.move (.tmp 4)) none,
    co (some 37) (.binOp .add 3 (.tmp 36) (.const (.int .i64 1)) 3) none,
    co (some 4) (.assign (.tmp 37)) none] [1, 3, 4]))))
/-- cento/centoref08.Print -/
def c_centoref08_Print : CC :=
  .seq (.reg [cn (some 1) (.box 25 (.tmp 0)) none [0],
      co (some 2) (.assign (.const (.string { data := #[] }))) none] [1])
  (.seq (.seq (.reg [co (some 5) (.fieldAddr 25 (.tmp 1) 0) none,
        co (some 6) (.load 3 (.tmp 5)) none,
        co (some 7) (.binOp .eql 3 (.tmp 6) (.const (.int .i64 0)) 3) none] [1, 7])
    (.cond (.tmp 7)
      (.seq (.reg [co (some 2) (.assign (.const (.string { data := #[95] }))) none] [2])
      (.ret))
      (.skip)))
  (.keep [1] (.seq (.seq (.reg [co (some 8) (.fieldAddr 25 (.tmp 1) 0) none,
        co (some 9) (.load 3 (.tmp 8)) none,
        co (some 10) (.binOp .eql 3 (.tmp 9) (.const (.int .i64 10)) 3) none] [1, 10])
    (.cond (.tmp 10)
      (.seq (.reg [co (some 11) (.fieldAddr 25 (.tmp 1) 1) none,
          co (some 12) (.load 22 (.tmp 11)) none,
          co (some 13) (.indexAddr 22 (.tmp 12) (.const (.int .i64 0))) none,
          co (some 14) (.load 40 (.tmp 13)) none,
          co (some 15) (.call { callee := (.value (.func 18)), args := #[(.tmp 14)], argTypes := #[40] }) none,
          co (some 2) (.assign (.tmp 15)) none] [2])
      (.ret))
      (.skip)))
  (.keep [1] (.seq (.seq (.reg [co (some 16) (.fieldAddr 25 (.tmp 1) 0) none,
        co (some 17) (.load 3 (.tmp 16)) none,
        co (some 18) (.binOp .gtr 3 (.tmp 17) (.const (.int .i64 1)) 3) none] [1, 18])
    (.cond (.tmp 18)
      (.seq (.reg [co (some 19) (.fieldAddr 25 (.tmp 1) 0) none,
          ⟨some 20, (.load 3 (.tmp 19)), none, [], 1, [], true⟩,
          co (some 21) (.fieldAddr 25 (.tmp 1) 0) none,
          ⟨some 22, (.load 3 (.tmp 21)), none, [], 3, [], true⟩,
          co (some 23) (.binOp .add 3 (.tmp 22) (.const (.int .i64 1)) 3) none,
          co (some 24) (.slice 9 (.const (.string { data := #[46, 46, 118, 98, 121, 116, 102, 101, 112, 99] })) (some (.tmp 20)) (some (.tmp 23)) none) none,
          co (some 25) (.binOp .add 9 (.tmp 24) (.const (.string { data := #[91] })) 9) none,
          co (some 26) (.fieldAddr 25 (.tmp 1) 2) none,
          co (some 27) (.load 23 (.tmp 26)) none,
          ⟨some 28, (.call { callee := (.value (.func 19)), args := #[(.tmp 27)], argTypes := #[23] }), none, [], 9, [1, 3], false⟩,
          co (some 29) (.binOp .add 9 (.tmp 25) (.tmp 28) 9) none,
          co (some 30) (.binOp .add 9 (.tmp 29) (.const (.string { data := #[93] })) 9) none,
          co (some 2) (.assign (.tmp 30)) none] [2])
      (.ret))
      (.skip)))
  (.keep [1] (.seq (.reg [co (some 3) (.assign (.const (.string { data := #[123] }))) none] [1, 3])
  (.seq (.seq (.reg [co (some 4) (.assign (.const (.int .i64 0))) none] [1, 3, 4])
    (.block 0
      (.loop l1_centoref08_Print)))
  (.keep [1, 3] (.seq (.seq (.reg [co (some 50) (.fieldAddr 25 (.tmp 1) 2) none,
        co (some 51) (.load 23 (.tmp 50)) none,
        co (some 52) (.call { callee := (.builtin .len), args := #[(.tmp 51)], argTypes := #[23] }) none,
        co (some 53) (.binOp .gtr 3 (.tmp 52) (.const (.int .i64 0)) 3) none] [1, 3, 53])
    (.cond (.tmp 53)
      (.reg [co (some 54) (.move (.tmp 3)) none,
        co (some 55) (.binOp .add 9 (.tmp 54) (.const (.string { data := #[124] })) 9) none,
        co (some 56) (.fieldAddr 25 (.tmp 1) 2) none,
        co (some 57) (.load 23 (.tmp 56)) none,
        co (some 58) (.call { callee := (.value (.func 19)), args := #[(.tmp 57)], argTypes := #[23] }) none,
        co (some 59) (.binOp .add 9 (.tmp 55) (.tmp 58) 9) none,
        co (some 3) (.assign (.tmp 59)) none] [3])
      (.skip)))
  (.keep [3] (.seq (.reg [co (some 60) (.move (.tmp 3)) none,
      co (some 61) (.binOp .add 9 (.tmp 60) (.const (.string { data := #[125] })) 9) none,
      co (some 2) (.assign (.tmp 61)) none] [2])
  (.ret)))))))))))))
theorem t_centoref08_Print : Txt Tryd.prog 10 62 [(.tmp 2)] c_centoref08_Print := txt_of (code := Tryd.f10.body.getD .ret) mixed (by kernel_rfl) Tryd.func10 (by kernel_rfl) Tryd.ntmps10 (by kernel_rfl) (ls := [([1], [(0, [0])]), ([], []), ([1, 7], []), ([], []), ([2], []), ([], []), ([999999, 1], []), ([1, 10], []), ([], []), ([2], []), ([], []), ([999999, 1], []), ([1, 18], []), ([], []), ([2], []), ([], []), ([999999, 1], []), ([1, 3], []), ([], []), ([1, 3, 4], []), ([], []), ([1, 3, 4, 35], []), ([], []), ([999999, 1, 3, 4], []), ([1, 3, 4, 39], []), ([], []), ([1, 3, 4], []), ([999999, 1, 3, 4], []), ([1, 3, 4], []), ([999999, 1, 3, 4], []), ([1, 3, 4], []), ([999999, 1, 3], []), ([1, 3, 53], []), ([], []), ([3], []), ([999999, 3], []), ([2], []), ([], [])]) (by kernel_rfl)
def k1_centoref08_number : CC :=
  .seq (.reg [co (some 52) (.move (.tmp 7)) none,
      co (some 53) (.binOp .mul 40 (.tmp 52) (.const (.int .u64 16)) 40) none,
      co (some 54) (.move (.tmp 9)) none,
      co (some 55) (.convert 3 40 (.tmp 54)) none,
      co (some 56) (.binOp .add 40 (.tmp 53) (.tmp 55) 40) none,
      co (some 7) (.assign (.tmp 56)) none] [0, 1, 7, 8])
  (.reg [co (some 57) (.move (.tmp 8)) none,
    co (some 58) (.binOp .add 3 (.tmp 57) (.const (.int .i64 1)) 3) none,
    co (some 8) (.assign (.tmp 58)) none] [0, 1, 7, 8])
def l1_centoref08_number : CC :=
  .seq (.seq (.reg [co (some 11) (.move (.tmp 8)) none,
        co (some 12) (.move (.tmp 0)) none,
        co (some 13) (.call { callee := (.builtin .len), args := #[(.tmp 12)], argTypes := #[9] }) none,
        co (some 14) (.binOp .lss 3 (.tmp 11) (.tmp 13) 3) none,
        co (some 15) (.move (.tmp 14)) none,
        co (some 16) (.move (.tmp 8)) (some (15, true)),
        co (some 17) (.move (.tmp 1)) (some (15, true)),
        co (some 18) (.binOp .sub 3 (.tmp 16) (.tmp 17) 3) (some (15, true)),
        co (some 19) (.binOp .lss 3 (.tmp 18) (.const (.int .i64 17)) 3) (some (15, true)),
        co (some 20) (.pick (.tmp 15) (.tmp 19) (.const (.bool false))) none] [0, 1, 7, 8, 20])
    (.cond (.tmp 20)
      (.skip)
      (.exit 0)))
  (.keep [0, 1, 7, 8] (.block 1
    (.seq (.reg [co (some 9) (.assign (.const (.int .i64 0))) none] [0, 1, 7, 8])
    (.seq (.seq (.reg [co (some 21) (.move (.tmp 0)) none,
          co (some 22) (.move (.tmp 8)) none,
          co (some 23) (.index 9 (.tmp 21) (.tmp 22)) none,
          co (some 24) (.binOp .geq 5 (.tmp 23) (.const (.int .u8 48)) 5) none,
          co (some 25) (.move (.tmp 24)) none,
          co (some 26) (.move (.tmp 0)) (some (25, true)),
          co (some 27) (.move (.tmp 8)) (some (25, true)),
          co (some 28) (.index 9 (.tmp 26) (.tmp 27)) (some (25, true)),
          co (some 29) (.binOp .leq 5 (.tmp 28) (.const (.int .u8 57)) 5) (some (25, true)),
          co (some 30) (.pick (.tmp 25) (.tmp 29) (.const (.bool false))) none] [0, 1, 7, 8, 30])
      (.cond (.tmp 30)
        (.reg [co (some 31) (.move (.tmp 0)) none,
          co (some 32) (.move (.tmp 8)) none,
          co (some 33) (.index 9 (.tmp 31) (.tmp 32)) none,
          co (some 34) (.binOp .sub 5 (.tmp 33) (.const (.int .u8 48)) 5) none,
          co (some 35) (.convert 5 3 (.tmp 34)) none,
          co (some 9) (.assign (.tmp 35)) none] [0, 1, 7, 8, 9])
        (.seq (.reg [co (some 36) (.move (.tmp 0)) none,
            co (some 37) (.move (.tmp 8)) none,
            co (some 38) (.index 9 (.tmp 36) (.tmp 37)) none,
            co (some 39) (.binOp .geq 5 (.tmp 38) (.const (.int .u8 97)) 5) none,
            co (some 40) (.move (.tmp 39)) none,
            co (some 41) (.move (.tmp 0)) (some (40, true)),
            co (some 42) (.move (.tmp 8)) (some (40, true)),
            co (some 43) (.index 9 (.tmp 41) (.tmp 42)) (some (40, true)),
            co (some 44) (.binOp .leq 5 (.tmp 43) (.const (.int .u8 102)) 5) (some (40, true)),
            co (some 45) (.pick (.tmp 40) (.tmp 44) (.const (.bool false))) none] [0, 1, 7, 8, 45])
        (.cond (.tmp 45)
          (.reg [co (some 46) (.move (.tmp 0)) none,
            co (some 47) (.move (.tmp 8)) none,
            co (some 48) (.index 9 (.tmp 46) (.tmp 47)) none,
            co (some 49) (.binOp .sub 5 (.tmp 48) (.const (.int .u8 97)) 5) none,
            co (some 50) (.convert 5 3 (.tmp 49)) none,
            co (some 51) (.binOp .add 3 (.tmp 50) (.const (.int .i64 10)) 3) none,
            co (some 9) (.assign (.tmp 51)) none] [0, 1, 7, 8, 9])
          (.exit 0)))))
    (.keep [0, 1, 7, 8, 9] k1_centoref08_number)))))
def k2_centoref08_number : CC :=
  .seq (.reg [co (some 59) (.move (.tmp 7)) none,
      co (some 60) (.move (.tmp 8)) none,
      co (some 61) (.move (.tmp 8)) none,
      co (some 62) (.move (.tmp 1)) none,
      co (some 63) (.binOp .gtr 3 (.tmp 61) (.tmp 62) 3) none,
      co (some 64) (.move (.tmp 63)) none,
      co (some 65) (.move (.tmp 8)) (some (64, true)),
      co (some 66) (.move (.tmp 1)) (some (64, true)),
      co (some 67) (.binOp .sub 3 (.tmp 65) (.tmp 66) 3) (some (64, true)),
      co (some 68) (.binOp .lss 3 (.tmp 67) (.const (.int .i64 17)) 3) (some (64, true)),
      co (some 69) (.pick (.tmp 64) (.tmp 68) (.const (.bool false))) none,
      co (some 70) (.move (.tmp 69)) none,
      co (some 71) (.move (.tmp 8)) (some (70, true)),
      co (some 72) (.move (.tmp 1)) (some (70, true)),
      co (some 73) (.binOp .add 3 (.tmp 72) (.const (.int .i64 1)) 3) (some (70, true)),
      co (some 74) (.binOp .eql 3 (.tmp 71) (.tmp 73) 3) (some (70, true)),
      co (some 75) (.move (.tmp 74)) (some (70, true)),
      co (some 76) (.move (.tmp 0)) (some (75, false)),
      co (some 77) (.move (.tmp 1)) (some (75, false)),
      co (some 78) (.index 9 (.tmp 76) (.tmp 77)) (some (75, false)),
      co (some 79) (.binOp .neq 5 (.tmp 78) (.const (.int .u8 48)) 5) (some (75, false)),
      co (some 80) (.pick (.tmp 75) (.const (.bool true)) (.tmp 79)) (some (70, true)),
      co (some 81) (.pick (.tmp 70) (.tmp 80) (.const (.bool false))) none,
      co (some 4) (.assign (.tmp 59)) none,
      co (some 5) (.assign (.tmp 60)) none,
      co (some 6) (.assign (.tmp 81)) none] [4, 5, 6])
  (.ret)
/-- cento/centoref08.number -/
def c_centoref08_number : CC :=
  .seq (.reg [co (some 4) (.assign (.const (.int .u64 0))) none,
      co (some 5) (.assign (.const (.int .i64 0))) none,
      co (some 6) (.assign (.const (.bool false))) none] [0, 1])
  (.seq (.reg [co (some 7) (.assign (.const (.int .u64 0))) none] [0, 1, 7])
  (.seq (.reg [co (some 10) (.move (.tmp 1)) none,
      co (some 8) (.assign (.tmp 10)) none] [0, 1, 7, 8])
  (.seq (.block 0
      (.loop l1_centoref08_number))
  (.keep [0, 1, 7, 8] k2_centoref08_number))))
theorem t_centoref08_number : Txt Tryd.prog 46 82 [(.tmp 4), (.tmp 5), (.tmp 6)] c_centoref08_number := txt_of (code := Tryd.f46.body.getD .ret) mixed (by kernel_rfl) Tryd.func46 (by kernel_rfl) Tryd.ntmps46 (by kernel_rfl) (ls := [([0, 1], []), ([], []), ([0, 1, 7], []), ([], []), ([0, 1, 7, 8], []), ([], []), ([0, 1, 7, 8, 20], []), ([], []), ([999999, 0, 1, 7, 8], []), ([0, 1, 7, 8], []), ([], []), ([0, 1, 7, 8, 30], []), ([], []), ([0, 1, 7, 8, 9], []), ([0, 1, 7, 8, 45], []), ([], []), ([0, 1, 7, 8, 9], []), ([999999, 0, 1, 7, 8, 9], []), ([0, 1, 7, 8], []), ([], []), ([0, 1, 7, 8], []), ([999999, 0, 1, 7, 8], []), ([4, 5, 6], []), ([], [])]) (by kernel_rfl)
def l1_centoref08_letter : CC :=
  .seq (.seq (.reg [co (some 4) (.move (.tmp 3)) none,
        co (some 5) (.binOp .lss 3 (.tmp 4) (.const (.int .i64 10)) 3) none] [0, 3, 5])
    (.cond (.tmp 5)
      (.skip)
      (.exit 0)))
  (.keep [0, 3] (.seq (.block 1
      (.seq (.reg [co (some 8) (.move (.tmp 3)) none,
          co (some 9) (.index 9 (.const (.string { data := #[46, 46, 118, 98, 121, 116, 102, 101, 112, 99] })) (.tmp 8)) none,
          co (some 10) (.move (.tmp 0)) none,
          co (some 11) (.binOp .eql 5 (.tmp 9) (.tmp 10) 5) none] [0, 3, 11])
      (.cond (.tmp 11)
        (.seq (.reg [co (some 12) (.move (.tmp 3)) none,
            co (some 2) (.assign (.tmp 12)) none] [2])
        (.ret))
        (.skip))))
  (.keep [0, 3] (.reg [co (some 6) (.move (.tmp 3)) none,
    co (some 7) (.binOp .add 3 (.tmp 6) (.const (.int .i64 1)) 3) none,
    co (some 3) (.assign (.tmp 7)) none] [0, 3]))))
/-- cento/centoref08.letter -/
def c_centoref08_letter : CC :=
  .seq (.reg [co (some 2) (.assign (.const (.int .i64 0))) none] [0])
  (.seq (.seq (.reg [co (some 3) (.assign (.const (.int .i64 2))) none] [0, 3])
    (.block 0
      (.loop l1_centoref08_letter)))
  (.keep [] (.seq (.reg [co (some 2) (.assign (.const (.int .i64 0))) none] [2])
  (.ret))))
theorem t_centoref08_letter : Txt Tryd.prog 37 13 [(.tmp 2)] c_centoref08_letter := txt_of (code := Tryd.f37.body.getD .ret) mixed (by kernel_rfl) Tryd.func37 (by kernel_rfl) Tryd.ntmps37 (by kernel_rfl) (ls := [([0], []), ([], []), ([0, 3], []), ([], []), ([0, 3, 5], []), ([], []), ([999999, 0, 3], []), ([0, 3, 11], []), ([], []), ([2], []), ([], []), ([999999, 0, 3], []), ([0, 3], []), ([999999], []), ([2], []), ([], [])]) (by kernel_rfl)
def k1_centoref08_kids : CC :=
  .seq (.seq (.reg [co (some 64) (.move (.tmp 17)) none,
        co (some 65) (.unOp .not 4 (.tmp 64)) none,
        co (some 66) (.move (.tmp 65)) none,
        co (some 67) (.move (.tmp 16)) (some (66, false)),
        co (some 68) (.move (.tmp 0)) (some (66, false)),
        co (some 69) (.call { callee := (.builtin .len), args := #[(.tmp 68)], argTypes := #[9] }) (some (66, false)),
        co (some 70) (.binOp .geq 3 (.tmp 67) (.tmp 69) 3) (some (66, false)),
        co (some 71) (.pick (.tmp 66) (.const (.bool true)) (.tmp 70)) none] [0, 2, 3, 4, 13, 14, 15, 16, 71])
    (.cond (.tmp 71)
      (.seq (.reg [co (some 10) (.assign (.const (.slice none 0 0))) none,
          co (some 11) (.assign (.const (.int .i64 0))) none,
          co (some 12) (.assign (.const (.bool false))) none] [10, 11, 12])
      (.ret))
      (.skip)))
  (.keep [0, 2, 3, 4, 13, 14, 15, 16] (.seq (.reg [co (some 72) (.move (.tmp 13)) none,
      co (some 73) (.load 25 (.tmp 15)) none,
      co (some 74) (.buildSlice 23 1 #[(0, (.tmp 73))]) none,
      cn (some 75) (.call { callee := (.builtin .append), args := #[(.tmp 72), (.tmp 74)], argTypes := #[23, 23] }) none [1],
      co (some 13) (.assign (.tmp 75)) none] [0, 2, 3, 4, 13, 14, 16])
  (.seq (.reg [co (some 76) (.move (.tmp 16)) none,
      co (some 77) (.binOp .add 3 (.tmp 76) (.const (.int .i64 1)) 3) none,
      co (some 1) (.assign (.tmp 77)) none] [0, 1, 2, 3, 4, 13, 14, 16])
  (.seq (.seq (.reg [co (some 78) (.move (.tmp 0)) none,
        co (some 79) (.move (.tmp 16)) none,
        co (some 80) (.index 9 (.tmp 78) (.tmp 79)) none,
        co (some 81) (.move (.tmp 3)) none,
        co (some 82) (.binOp .eql 5 (.tmp 80) (.tmp 81) 5) none] [0, 1, 2, 3, 4, 13, 14, 16, 82])
    (.cond (.tmp 82)
      (.seq (.reg [co (some 83) (.move (.tmp 13)) none,
          co (some 84) (.move (.tmp 1)) none,
          co (some 10) (.assign (.tmp 83)) none,
          co (some 11) (.assign (.tmp 84)) none,
          co (some 12) (.assign (.const (.bool true))) none] [10, 11, 12])
      (.ret))
      (.skip)))
  (.keep [0, 1, 2, 3, 4, 13, 14, 16] (.seq (.reg [co (some 85) (.move (.tmp 0)) none,
      co (some 86) (.move (.tmp 16)) none,
      co (some 87) (.index 9 (.tmp 85) (.tmp 86)) none,
      co (some 88) (.binOp .neq 5 (.tmp 87) (.const (.int .u8 44)) 5) none] [0, 1, 2, 3, 4, 13, 14, 88])
  (.cond (.tmp 88)
    (.seq (.reg [co (some 10) (.assign (.const (.slice none 0 0))) none,
        co (some 11) (.assign (.const (.int .i64 0))) none,
        co (some 12) (.assign (.const (.bool false))) none] [10, 11, 12])
    (.ret))
    (.skip))))))))
def l1_centoref08_kids : CC :=
  .seq (.seq (.reg [co (some 35) (.move (.tmp 14)) none,
        co (some 36) (.move (.tmp 0)) none,
        co (some 37) (.call { callee := (.builtin .len), args := #[(.tmp 36)], argTypes := #[9] }) none,
        co (some 38) (.binOp .leq 3 (.tmp 35) (.tmp 37) 3) none] [0, 1, 2, 3, 4, 13, 14, 38])
    (.cond (.tmp 38)
      (.skip)
      (.exit 0)))
  (.keep [0, 1, 2, 3, 4, 13, 14] (.seq (.block 1
      (.seq (.reg [co (some 41) (.build 25 #[]) none,
          cn (some 15) (.alloc 25) none [0],
          co none (.store 25 (.tmp 15) (.tmp 41)) none] [0, 1, 2, 3, 4, 13, 14, 15])
      (.seq (.reg [co (some 42) (.move (.tmp 1)) none,
          co (some 16) (.assign (.tmp 42)) none,
          co (some 17) (.assign (.const (.bool false))) none] [0, 1, 2, 3, 4, 13, 14, 15])
      (.seq (.seq (.reg [co (some 43) (.move (.tmp 2)) none] [0, 1, 2, 3, 4, 13, 14, 15, 43])
        (.cond (.tmp 43)
          (.seq (.reg [co (some 45) (.move (.tmp 0)) none,
              co (some 46) (.move (.tmp 1)) none,
              co (some 47) (.call { callee := (.value (.func 46)), args := #[(.tmp 45), (.tmp 46)], argTypes := #[9, 3] }) none,
              co (some 44) (.move (.tmp 47)) none,
              co (some 48) (.extract (.tmp 44) 0) none,
              co (some 49) (.extract (.tmp 44) 1) none,
              co (some 50) (.extract (.tmp 44) 2) none,
              co (some 18) (.assign (.tmp 48)) none,
              co (some 19) (.assign (.tmp 49)) none,
              co (some 20) (.assign (.tmp 50)) none] [0, 2, 3, 4, 13, 14, 15, 18, 19, 20])
          (.seq (.reg [co (some 51) (.move (.tmp 18)) none,
              co (some 52) (.buildSlice 22 1 #[(0, (.tmp 51))]) none,
              co (some 53) (.build 25 #[(0, (.const (.int .i64 10))), (1, (.tmp 52))]) none,
              co none (.store 25 (.tmp 15) (.tmp 53)) none] [0, 2, 3, 4, 13, 14, 15, 19, 20])
          (.seq (.reg [co (some 54) (.move (.tmp 19)) none,
              co (some 16) (.assign (.tmp 54)) none] [0, 2, 3, 4, 13, 14, 15, 16, 20])
          (.reg [co (some 55) (.move (.tmp 20)) none,
            co (some 17) (.assign (.tmp 55)) none] [0, 2, 3, 4, 13, 14, 15, 16, 17]))))
          (.reg [co (some 57) (.move (.tmp 0)) none,
            co (some 58) (.move (.tmp 1)) none,
            co (some 59) (.move (.tmp 4)) none,
            co (some 60) (.call { callee := (.value (.func 23)), args := #[(.tmp 57), (.tmp 58), (.tmp 59)], argTypes := #[9, 3, 3] }) none,
            co (some 56) (.move (.tmp 60)) none,
            co (some 61) (.extract (.tmp 56) 0) none,
            co (some 62) (.extract (.tmp 56) 1) none,
            co (some 63) (.extract (.tmp 56) 2) none,
            co none (.store 25 (.tmp 15) (.tmp 61)) none,
            co (some 16) (.assign (.tmp 62)) none,
            co (some 17) (.assign (.tmp 63)) none] [0, 2, 3, 4, 13, 14, 15, 16, 17])))
      (.keep [0, 2, 3, 4, 13, 14, 15, 16, 17] k1_centoref08_kids)))))
  (.keep [0, 1, 2, 3, 4, 13, 14] (.reg [co (some 39) (.move (.tmp 14)) none,
    co (some 40) (.binOp .add 3 (.tmp 39) (.const (.int .i64 1)) 3) none,
    co (some 14) (.assign (.tmp 40)) none] [0, 1, 2, 3, 4, 13, 14]))))
/-- cento/centoref08.kids -/
def c_centoref08_kids : CC :=
  .seq (.reg [co (some 10) (.assign (.const (.slice none 0 0))) none,
      co (some 11) (.assign (.const (.int .i64 0))) none,
      co (some 12) (.assign (.const (.bool false))) none] [0, 1, 2, 3, 4])
  (.seq (.reg [co (some 13) (.assign (.const (.slice none 0 0))) none] [0, 1, 2, 3, 4, 13])
  (.seq (.seq (.reg [co (some 21) (.move (.tmp 1)) none,
        co (some 22) (.move (.tmp 0)) none,
        co (some 23) (.call { callee := (.builtin .len), args := #[(.tmp 22)], argTypes := #[9] }) none,
        co (some 24) (.binOp .lss 3 (.tmp 21) (.tmp 23) 3) none,
        co (some 25) (.move (.tmp 24)) none,
        co (some 26) (.move (.tmp 0)) (some (25, true)),
        co (some 27) (.move (.tmp 1)) (some (25, true)),
        co (some 28) (.index 9 (.tmp 26) (.tmp 27)) (some (25, true)),
        co (some 29) (.move (.tmp 3)) (some (25, true)),
        co (some 30) (.binOp .eql 5 (.tmp 28) (.tmp 29) 5) (some (25, true)),
        co (some 31) (.pick (.tmp 25) (.tmp 30) (.const (.bool false))) none] [0, 1, 2, 3, 4, 13, 31])
    (.cond (.tmp 31)
      (.seq (.reg [co (some 32) (.move (.tmp 13)) none,
          co (some 33) (.move (.tmp 1)) none,
          co (some 34) (.binOp .add 3 (.tmp 33) (.const (.int .i64 1)) 3) none,
          co (some 10) (.assign (.tmp 32)) none,
          co (some 11) (.assign (.tmp 34)) none,
          co (some 12) (.assign (.const (.bool true))) none] [10, 11, 12])
      (.ret))
      (.skip)))
  (.keep [0, 1, 2, 3, 4, 13] (.seq (.seq (.reg [co (some 14) (.assign (.const (.int .i64 0))) none] [0, 1, 2, 3, 4, 13, 14])
    (.block 0
      (.loop l1_centoref08_kids)))
  (.keep [] (.seq (.reg [co (some 10) (.assign (.const (.slice none 0 0))) none,
      co (some 11) (.assign (.const (.int .i64 0))) none,
      co (some 12) (.assign (.const (.bool false))) none] [10, 11, 12])
  (.ret)))))))
theorem t_centoref08_kids : Txt Tryd.prog 38 89 [(.tmp 10), (.tmp 11), (.tmp 12)] c_centoref08_kids := txt_of (code := Tryd.f38.body.getD .ret) mixed (by kernel_rfl) Tryd.func38 (by kernel_rfl) Tryd.ntmps38 (by kernel_rfl) (ls := [([0, 1, 2, 3, 4], []), ([], []), ([0, 1, 2, 3, 4, 13], []), ([], []), ([0, 1, 2, 3, 4, 13, 31], []), ([], []), ([10, 11, 12], []), ([], []), ([999999, 0, 1, 2, 3, 4, 13], []), ([0, 1, 2, 3, 4, 13, 14], []), ([], []), ([0, 1, 2, 3, 4, 13, 14, 38], []), ([], []), ([999999, 0, 1, 2, 3, 4, 13, 14], []), ([0, 1, 2, 3, 4, 13, 14, 15], [(1, [0])]), ([], []), ([0, 1, 2, 3, 4, 13, 14, 15], []), ([], []), ([0, 1, 2, 3, 4, 13, 14, 15, 43], []), ([], []), ([0, 2, 3, 4, 13, 14, 15, 18, 19, 20], []), ([], []), ([0, 2, 3, 4, 13, 14, 15, 19, 20], []), ([], []), ([0, 2, 3, 4, 13, 14, 15, 16, 20], []), ([], []), ([0, 2, 3, 4, 13, 14, 15, 16, 17], []), ([0, 2, 3, 4, 13, 14, 15, 16, 17], []), ([999999, 0, 2, 3, 4, 13, 14, 15, 16, 17], []), ([0, 2, 3, 4, 13, 14, 15, 16, 71], []), ([], []), ([10, 11, 12], []), ([], []), ([999999, 0, 2, 3, 4, 13, 14, 15, 16], []), ([0, 2, 3, 4, 13, 14, 16], [(3, [1])]), ([], []), ([0, 1, 2, 3, 4, 13, 14, 16], []), ([], []), ([0, 1, 2, 3, 4, 13, 14, 16, 82], []), ([], []), ([10, 11, 12], []), ([], []), ([999999, 0, 1, 2, 3, 4, 13, 14, 16], []), ([0, 1, 2, 3, 4, 13, 14, 88], []), ([], []), ([10, 11, 12], []), ([], []), ([999999, 0, 1, 2, 3, 4, 13, 14], []), ([0, 1, 2, 3, 4, 13, 14], []), ([999999], []), ([10, 11, 12], []), ([], [])]) (by kernel_rfl)
def l1_centoref08_structure : CC :=
  .seq (.seq (.reg [co (some 31) (.move (.tmp 10)) none,
        co (some 32) (.move (.tmp 0)) none,
        co (some 33) (.call { callee := (.builtin .len), args := #[(.tmp 32)], argTypes := #[9] }) none,
        co (some 34) (.binOp .leq 3 (.tmp 31) (.tmp 33) 3) none,
        co (some 35) (.move (.tmp 34)) none,
        co (some 36) (.move (.tmp 1)) (some (35, true)),
        co (some 37) (.move (.tmp 0)) (some (35, true)),
        co (some 38) (.call { callee := (.builtin .len), args := #[(.tmp 37)], argTypes := #[9] }) (some (35, true)),
        co (some 39) (.binOp .lss 3 (.tmp 36) (.tmp 38) 3) (some (35, true)),
        co (some 40) (.pick (.tmp 35) (.tmp 39) (.const (.bool false))) none,
        co (some 41) (.move (.tmp 40)) none,
        co (some 42) (.move (.tmp 0)) (some (41, true)),
        co (some 43) (.move (.tmp 1)) (some (41, true)),
        co (some 44) (.index 9 (.tmp 42) (.tmp 43)) (some (41, true)),
        co (some 45) (.binOp .neq 5 (.tmp 44) (.const (.int .u8 124)) 5) (some (41, true)),
        co (some 46) (.pick (.tmp 41) (.tmp 45) (.const (.bool false))) none] [0, 1, 2, 6, 9, 10, 46])
    (.cond (.tmp 46)
      (.skip)
      (.exit 0)))
  (.keep [0, 1, 2, 6, 9, 10] (.seq (.block 1
      (.seq (.reg [co (some 50) (.move (.tmp 0)) none,
          co (some 51) (.move (.tmp 1)) none,
          co (some 52) (.call { callee := (.value (.func 46)), args := #[(.tmp 50), (.tmp 51)], argTypes := #[9, 3] }) none,
          co (some 49) (.move (.tmp 52)) none,
          co (some 53) (.extract (.tmp 49) 0) none,
          co (some 54) (.extract (.tmp 49) 1) none,
          co (some 55) (.extract (.tmp 49) 2) none,
          co (some 11) (.assign (.tmp 53)) none,
          co (some 12) (.assign (.tmp 54)) none,
          co (some 13) (.assign (.tmp 55)) none] [0, 2, 6, 9, 10, 11, 12, 13])
      (.seq (.seq (.reg [co (some 56) (.move (.tmp 13)) none,
            co (some 57) (.unOp .not 4 (.tmp 56)) none,
            co (some 58) (.move (.tmp 57)) none,
            co (some 59) (.move (.tmp 12)) (some (58, false)),
            co (some 60) (.move (.tmp 0)) (some (58, false)),
            co (some 61) (.call { callee := (.builtin .len), args := #[(.tmp 60)], argTypes := #[9] }) (some (58, false)),
            co (some 62) (.binOp .geq 3 (.tmp 59) (.tmp 61) 3) (some (58, false)),
            co (some 63) (.pick (.tmp 58) (.const (.bool true)) (.tmp 62)) none] [0, 2, 6, 9, 10, 11, 12, 63])
        (.cond (.tmp 63)
          (.seq (.reg [co (some 64) (.load 25 (.tmp 9)) none,
              co none (.store 25 (.tmp 6) (.tmp 64)) none,
              co (some 7) (.assign (.const (.int .i64 0))) none,
              co (some 8) (.assign (.const (.bool false))) none] [6, 7, 8])
          (.ret))
          (.skip)))
      (.keep [0, 2, 6, 9, 10, 11, 12] (.seq (.reg [co (some 65) (.fieldAddr 25 (.tmp 9) 1) none,
          co (some 66) (.load 22 (.tmp 65)) none,
          co (some 67) (.move (.tmp 11)) none,
          co (some 68) (.buildSlice 22 1 #[(0, (.tmp 67))]) none,
          cn (some 69) (.call { callee := (.builtin .append), args := #[(.tmp 66), (.tmp 68)], argTypes := #[22, 22] }) none [2],
          co (some 70) (.fieldAddr 25 (.tmp 9) 1) none,
          co none (.store 22 (.tmp 70) (.tmp 69)) none] [0, 2, 6, 9, 10, 12])
      (.seq (.reg [co (some 71) (.move (.tmp 12)) none,
          co (some 1) (.assign (.tmp 71)) none] [0, 1, 2, 6, 9, 10])
      (.seq (.seq (.reg [co (some 72) (.move (.tmp 0)) none,
            co (some 73) (.move (.tmp 1)) none,
            co (some 74) (.index 9 (.tmp 72) (.tmp 73)) none,
            co (some 75) (.binOp .eql 5 (.tmp 74) (.const (.int .u8 125)) 5) none] [0, 1, 2, 6, 9, 10, 75])
        (.cond (.tmp 75)
          (.seq (.reg [co (some 76) (.load 25 (.tmp 9)) none,
              co (some 77) (.move (.tmp 1)) none,
              co (some 78) (.binOp .add 3 (.tmp 77) (.const (.int .i64 1)) 3) none,
              co none (.store 25 (.tmp 6) (.tmp 76)) none,
              co (some 7) (.assign (.tmp 78)) none,
              co (some 8) (.assign (.const (.bool true))) none] [6, 7, 8])
          (.ret))
          (.skip)))
      (.keep [0, 1, 2, 6, 9, 10] (.seq (.seq (.reg [co (some 79) (.move (.tmp 0)) none,
            co (some 80) (.move (.tmp 1)) none,
            co (some 81) (.index 9 (.tmp 79) (.tmp 80)) none,
            co (some 82) (.binOp .eql 5 (.tmp 81) (.const (.int .u8 124)) 5) none] [0, 1, 2, 6, 9, 10, 82])
        (.cond (.tmp 82)
          (.exit 0)
          (.skip)))
      (.keep [0, 1, 2, 6, 9, 10] (.seq (.seq (.reg [co (some 83) (.move (.tmp 0)) none,
            co (some 84) (.move (.tmp 1)) none,
            co (some 85) (.index 9 (.tmp 83) (.tmp 84)) none,
            co (some 86) (.binOp .neq 5 (.tmp 85) (.const (.int .u8 44)) 5) none,
            co (some 87) (.move (.tmp 86)) none,
            co (some 88) (.move (.tmp 1)) (some (87, false)),
            co (some 89) (.binOp .add 3 (.tmp 88) (.const (.int .i64 1)) 3) (some (87, false)),
            co (some 90) (.move (.tmp 0)) (some (87, false)),
            co (some 91) (.call { callee := (.builtin .len), args := #[(.tmp 90)], argTypes := #[9] }) (some (87, false)),
            co (some 92) (.binOp .geq 3 (.tmp 89) (.tmp 91) 3) (some (87, false)),
            co (some 93) (.pick (.tmp 87) (.const (.bool true)) (.tmp 92)) none,
            co (some 94) (.move (.tmp 93)) none,
            co (some 95) (.move (.tmp 0)) (some (94, false)),
            co (some 96) (.move (.tmp 1)) (some (94, false)),
            co (some 97) (.binOp .add 3 (.tmp 96) (.const (.int .i64 1)) 3) (some (94, false)),
            co (some 98) (.index 9 (.tmp 95) (.tmp 97)) (some (94, false)),
            co (some 99) (.binOp .eql 5 (.tmp 98) (.const (.int .u8 124)) 5) (some (94, false)),
            co (some 100) (.pick (.tmp 94) (.const (.bool true)) (.tmp 99)) none] [0, 1, 2, 6, 9, 10, 100])
        (.cond (.tmp 100)
          (.seq (.reg [co (some 101) (.load 25 (.tmp 9)) none,
              co none (.store 25 (.tmp 6) (.tmp 101)) none,
              co (some 7) (.assign (.const (.int .i64 0))) none,
              co (some 8) (.assign (.const (.bool false))) none] [6, 7, 8])
          (.ret))
          (.skip)))
      (.keep [0, 1, 2, 6, 9, 10] (.reg [co (some 102) (.move (.tmp 1)) none,
        co (some 103) (.binOp .add 3 (.tmp 102) (.const (.int .i64 1)) 3) none,
        co (some 1) (.assign (.tmp 103)) none] [0, 1, 2, 6, 9, 10])))))))))))))
  (.keep [0, 1, 2, 6, 9, 10] (.reg [co (some 47) (.move (.tmp 10)) none,
    co (some 48) (.binOp .add 3 (.tmp 47) (.const (.int .i64 1)) 3) none,
    co (some 10) (.assign (.tmp 48)) none] [0, 1, 2, 6, 9, 10]))))
def k1_centoref08_structure : CC :=
  .seq (.seq (.reg [co (some 104) (.move (.tmp 1)) none,
        co (some 105) (.move (.tmp 0)) none,
        co (some 106) (.call { callee := (.builtin .len), args := #[(.tmp 105)], argTypes := #[9] }) none,
        co (some 107) (.binOp .geq 3 (.tmp 104) (.tmp 106) 3) none,
        co (some 108) (.move (.tmp 107)) none,
        co (some 109) (.move (.tmp 0)) (some (108, false)),
        co (some 110) (.move (.tmp 1)) (some (108, false)),
        co (some 111) (.index 9 (.tmp 109) (.tmp 110)) (some (108, false)),
        co (some 112) (.binOp .neq 5 (.tmp 111) (.const (.int .u8 124)) 5) (some (108, false)),
        co (some 113) (.pick (.tmp 108) (.const (.bool true)) (.tmp 112)) none,
        co (some 114) (.move (.tmp 113)) none,
        co (some 115) (.move (.tmp 1)) (some (114, false)),
        co (some 116) (.binOp .add 3 (.tmp 115) (.const (.int .i64 1)) 3) (some (114, false)),
        co (some 117) (.move (.tmp 0)) (some (114, false)),
        co (some 118) (.call { callee := (.builtin .len), args := #[(.tmp 117)], argTypes := #[9] }) (some (114, false)),
        co (some 119) (.binOp .lss 3 (.tmp 116) (.tmp 118) 3) (some (114, false)),
        co (some 120) (.move (.tmp 119)) (some (114, false)),
        co (some 121) (.move (.tmp 0)) (some (120, true)),
        co (some 122) (.move (.tmp 1)) (some (120, true)),
        co (some 123) (.binOp .add 3 (.tmp 122) (.const (.int .i64 1)) 3) (some (120, true)),
        co (some 124) (.index 9 (.tmp 121) (.tmp 123)) (some (120, true)),
        co (some 125) (.binOp .eql 5 (.tmp 124) (.const (.int .u8 125)) 5) (some (120, true)),
        co (some 126) (.pick (.tmp 120) (.tmp 125) (.const (.bool false))) (some (114, false)),
        co (some 127) (.pick (.tmp 114) (.const (.bool true)) (.tmp 126)) none] [0, 1, 2, 6, 9, 127])
    (.cond (.tmp 127)
      (.seq (.reg [co (some 128) (.load 25 (.tmp 9)) none,
          co none (.store 25 (.tmp 6) (.tmp 128)) none,
          co (some 7) (.assign (.const (.int .i64 0))) none,
          co (some 8) (.assign (.const (.bool false))) none] [6, 7, 8])
      (.ret))
      (.skip)))
  (.keep [0, 1, 2, 6, 9] (.seq (.reg [co (some 130) (.move (.tmp 0)) none,
      co (some 131) (.move (.tmp 1)) none,
      co (some 132) (.binOp .add 3 (.tmp 131) (.const (.int .i64 1)) 3) none,
      co (some 133) (.move (.tmp 2)) none,
      co (some 134) (.binOp .sub 3 (.tmp 133) (.const (.int .i64 1)) 3) none,
      co (some 135) (.call { callee := (.value (.func 38)), args := #[(.tmp 130), (.tmp 132), (.const (.bool false)), (.const (.int .u8 125)), (.tmp 134)], argTypes := #[9, 3, 4, 5, 3] }) none,
      co (some 129) (.move (.tmp 135)) none,
      co (some 136) (.extract (.tmp 129) 0) none,
      co (some 137) (.extract (.tmp 129) 1) none,
      co (some 138) (.extract (.tmp 129) 2) none,
      co (some 14) (.assign (.tmp 136)) none,
      co (some 15) (.assign (.tmp 137)) none,
      co (some 16) (.assign (.tmp 138)) none] [6, 9, 14, 15, 16])
  (.seq (.reg [co (some 139) (.move (.tmp 14)) none,
      co (some 140) (.fieldAddr 25 (.tmp 9) 2) none,
      co none (.store 23 (.tmp 140) (.tmp 139)) none] [6, 9, 15, 16])
  (.seq (.reg [co (some 141) (.load 25 (.tmp 9)) none,
      co (some 142) (.move (.tmp 15)) none,
      co (some 143) (.move (.tmp 16)) none,
      co none (.store 25 (.tmp 6) (.tmp 141)) none,
      co (some 7) (.assign (.tmp 142)) none,
      co (some 8) (.assign (.tmp 143)) none] [6, 7, 8])
  (.ret)))))
/-- cento/centoref08.structure -/
def c_centoref08_structure : CC :=
  .seq (.reg [cn (some 6) (.alloc 25) none [0],
      co (some 7) (.assign (.const (.int .i64 0))) none,
      co (some 8) (.assign (.const (.bool false))) none] [0, 1, 2, 6])
  (.seq (.reg [co (some 17) (.build 25 #[(0, (.const (.int .i64 1)))]) none,
      cn (some 9) (.alloc 25) none [1],
      co none (.store 25 (.tmp 9) (.tmp 17)) none] [0, 1, 2, 6, 9])
  (.seq (.seq (.reg [co (some 18) (.move (.tmp 1)) none,
        co (some 19) (.move (.tmp 0)) none,
        co (some 20) (.call { callee := (.builtin .len), args := #[(.tmp 19)], argTypes := #[9] }) none,
        co (some 21) (.binOp .lss 3 (.tmp 18) (.tmp 20) 3) none,
        co (some 22) (.move (.tmp 21)) none,
        co (some 23) (.move (.tmp 0)) (some (22, true)),
        co (some 24) (.move (.tmp 1)) (some (22, true)),
        co (some 25) (.index 9 (.tmp 23) (.tmp 24)) (some (22, true)),
        co (some 26) (.binOp .eql 5 (.tmp 25) (.const (.int .u8 125)) 5) (some (22, true)),
        co (some 27) (.pick (.tmp 22) (.tmp 26) (.const (.bool false))) none] [0, 1, 2, 6, 9, 27])
    (.cond (.tmp 27)
      (.seq (.reg [co (some 28) (.load 25 (.tmp 9)) none,
          co (some 29) (.move (.tmp 1)) none,
          co (some 30) (.binOp .add 3 (.tmp 29) (.const (.int .i64 1)) 3) none,
          co none (.store 25 (.tmp 6) (.tmp 28)) none,
          co (some 7) (.assign (.tmp 30)) none,
          co (some 8) (.assign (.const (.bool true))) none] [6, 7, 8])
      (.ret))
      (.skip)))
  (.keep [0, 1, 2, 6, 9] (.seq (.seq (.reg [co (some 10) (.assign (.const (.int .i64 0))) none] [0, 1, 2, 6, 9, 10])
    (.block 0
      (.loop l1_centoref08_structure)))
  (.keep [0, 1, 2, 6, 9] k1_centoref08_structure)))))
theorem t_centoref08_structure : Txt Tryd.prog 36 144 [(.cell 6 25), (.tmp 7), (.tmp 8)] c_centoref08_structure := txt_of (code := Tryd.f36.body.getD .ret) mixed (by kernel_rfl) Tryd.func36 (by kernel_rfl) Tryd.ntmps36 (by kernel_rfl) (ls := [([0, 1, 2, 6], [(0, [0])]), ([], []), ([0, 1, 2, 6, 9], [(1, [1])]), ([], []), ([0, 1, 2, 6, 9, 27], []), ([], []), ([6, 7, 8], []), ([], []), ([999999, 0, 1, 2, 6, 9], []), ([0, 1, 2, 6, 9, 10], []), ([], []), ([0, 1, 2, 6, 9, 10, 46], []), ([], []), ([999999, 0, 1, 2, 6, 9, 10], []), ([0, 2, 6, 9, 10, 11, 12, 13], []), ([], []), ([0, 2, 6, 9, 10, 11, 12, 63], []), ([], []), ([6, 7, 8], []), ([], []), ([999999, 0, 2, 6, 9, 10, 11, 12], []), ([0, 2, 6, 9, 10, 12], [(4, [2])]), ([], []), ([0, 1, 2, 6, 9, 10], []), ([], []), ([0, 1, 2, 6, 9, 10, 75], []), ([], []), ([6, 7, 8], []), ([], []), ([999999, 0, 1, 2, 6, 9, 10], []), ([0, 1, 2, 6, 9, 10, 82], []), ([], []), ([999999, 0, 1, 2, 6, 9, 10], []), ([0, 1, 2, 6, 9, 10, 100], []), ([], []), ([6, 7, 8], []), ([], []), ([999999, 0, 1, 2, 6, 9, 10], []), ([0, 1, 2, 6, 9, 10], []), ([999999, 0, 1, 2, 6, 9, 10], []), ([0, 1, 2, 6, 9, 10], []), ([999999, 0, 1, 2, 6, 9], []), ([0, 1, 2, 6, 9, 127], []), ([], []), ([6, 7, 8], []), ([], []), ([999999, 0, 1, 2, 6, 9], []), ([6, 9, 14, 15, 16], []), ([], []), ([6, 9, 15, 16], []), ([], []), ([6, 7, 8], []), ([], [])]) (by kernel_rfl)
/-- cento/centoref08.read -/
def c_centoref08_read : CC :=
  .seq (.reg [cn (some 6) (.alloc 25) none [0],
      co (some 7) (.assign (.const (.int .i64 0))) none,
      co (some 8) (.assign (.const (.bool false))) none] [0, 1, 2, 6])
  (.seq (.seq (.reg [co (some 13) (.move (.tmp 1)) none,
        co (some 14) (.move (.tmp 0)) none,
        co (some 15) (.call { callee := (.builtin .len), args := #[(.tmp 14)], argTypes := #[9] }) none,
        co (some 16) (.binOp .geq 3 (.tmp 13) (.tmp 15) 3) none] [0, 1, 2, 6, 16])
    (.cond (.tmp 16)
      (.seq (.reg [co (some 17) (.build 25 #[]) none,
          co none (.store 25 (.tmp 6) (.tmp 17)) none,
          co (some 7) (.assign (.const (.int .i64 0))) none,
          co (some 8) (.assign (.const (.bool false))) none] [6, 7, 8])
      (.ret))
      (.skip)))
  (.keep [0, 1, 2, 6] (.seq (.seq (.reg [co (some 18) (.move (.tmp 0)) none,
        co (some 19) (.move (.tmp 1)) none,
        co (some 20) (.index 9 (.tmp 18) (.tmp 19)) none,
        co (some 21) (.binOp .eql 5 (.tmp 20) (.const (.int .u8 95)) 5) none] [0, 1, 2, 6, 21])
    (.cond (.tmp 21)
      (.seq (.reg [co (some 22) (.build 25 #[]) none,
          co (some 23) (.move (.tmp 1)) none,
          co (some 24) (.binOp .add 3 (.tmp 23) (.const (.int .i64 1)) 3) none,
          co none (.store 25 (.tmp 6) (.tmp 22)) none,
          co (some 7) (.assign (.tmp 24)) none,
          co (some 8) (.assign (.const (.bool true))) none] [6, 7, 8])
      (.ret))
      (.skip)))
  (.keep [0, 1, 2, 6] (.seq (.seq (.reg [co (some 25) (.move (.tmp 2)) none,
        co (some 26) (.binOp .eql 3 (.tmp 25) (.const (.int .i64 0)) 3) none] [0, 1, 2, 6, 26])
    (.cond (.tmp 26)
      (.seq (.reg [co (some 27) (.build 25 #[]) none,
          co none (.store 25 (.tmp 6) (.tmp 27)) none,
          co (some 7) (.assign (.const (.int .i64 0))) none,
          co (some 8) (.assign (.const (.bool false))) none] [6, 7, 8])
      (.ret))
      (.skip)))
  (.keep [0, 1, 2, 6] (.seq (.seq (.reg [co (some 28) (.move (.tmp 0)) none,
        co (some 29) (.move (.tmp 1)) none,
        co (some 30) (.index 9 (.tmp 28) (.tmp 29)) none,
        co (some 31) (.binOp .eql 5 (.tmp 30) (.const (.int .u8 123)) 5) none] [0, 1, 2, 6, 31])
    (.cond (.tmp 31)
      (.seq (.reg [co (some 32) (.move (.tmp 0)) none,
          co (some 33) (.move (.tmp 1)) none,
          co (some 34) (.binOp .add 3 (.tmp 33) (.const (.int .i64 1)) 3) none,
          co (some 35) (.move (.tmp 2)) none,
          co (some 36) (.call { callee := (.value (.func 36)), args := #[(.tmp 32), (.tmp 34), (.tmp 35)], argTypes := #[9, 3, 3] }) none,
          co (some 37) (.extract (.tmp 36) 0) none,
          co (some 38) (.extract (.tmp 36) 1) none,
          co (some 39) (.extract (.tmp 36) 2) none,
          co none (.store 25 (.tmp 6) (.tmp 37)) none,
          co (some 7) (.assign (.tmp 38)) none,
          co (some 8) (.assign (.tmp 39)) none] [6, 7, 8])
      (.ret))
      (.skip)))
  (.keep [0, 1, 2, 6] (.seq (.reg [co (some 40) (.move (.tmp 0)) none,
      co (some 41) (.move (.tmp 1)) none,
      co (some 42) (.index 9 (.tmp 40) (.tmp 41)) none,
      co (some 43) (.call { callee := (.value (.func 37)), args := #[(.tmp 42)], argTypes := #[5] }) none,
      co (some 9) (.assign (.tmp 43)) none] [0, 1, 2, 6, 9])
  (.seq (.seq (.reg [co (some 44) (.move (.tmp 9)) none,
        co (some 45) (.binOp .eql 3 (.tmp 44) (.const (.int .i64 0)) 3) none,
        co (some 46) (.move (.tmp 45)) none,
        co (some 47) (.move (.tmp 1)) (some (46, false)),
        co (some 48) (.binOp .add 3 (.tmp 47) (.const (.int .i64 1)) 3) (some (46, false)),
        co (some 49) (.move (.tmp 0)) (some (46, false)),
        co (some 50) (.call { callee := (.builtin .len), args := #[(.tmp 49)], argTypes := #[9] }) (some (46, false)),
        co (some 51) (.binOp .geq 3 (.tmp 48) (.tmp 50) 3) (some (46, false)),
        co (some 52) (.pick (.tmp 46) (.const (.bool true)) (.tmp 51)) none,
        co (some 53) (.move (.tmp 52)) none,
        co (some 54) (.move (.tmp 0)) (some (53, false)),
        co (some 55) (.move (.tmp 1)) (some (53, false)),
        co (some 56) (.binOp .add 3 (.tmp 55) (.const (.int .i64 1)) 3) (some (53, false)),
        co (some 57) (.index 9 (.tmp 54) (.tmp 56)) (some (53, false)),
        co (some 58) (.binOp .neq 5 (.tmp 57) (.const (.int .u8 91)) 5) (some (53, false)),
        co (some 59) (.pick (.tmp 53) (.const (.bool true)) (.tmp 58)) none] [0, 1, 2, 6, 9, 59])
    (.cond (.tmp 59)
      (.seq (.reg [co (some 60) (.build 25 #[]) none,
          co none (.store 25 (.tmp 6) (.tmp 60)) none,
          co (some 7) (.assign (.const (.int .i64 0))) none,
          co (some 8) (.assign (.const (.bool false))) none] [6, 7, 8])
      (.ret))
      (.skip)))
  (.keep [0, 1, 2, 6, 9] (.seq (.reg [co (some 62) (.move (.tmp 0)) none,
      co (some 63) (.move (.tmp 1)) none,
      co (some 64) (.binOp .add 3 (.tmp 63) (.const (.int .i64 2)) 3) none,
      co (some 65) (.move (.tmp 9)) none,
      co (some 66) (.binOp .leq 3 (.tmp 65) (.const (.int .i64 7)) 3) none,
      co (some 67) (.move (.tmp 2)) none,
      co (some 68) (.binOp .sub 3 (.tmp 67) (.const (.int .i64 1)) 3) none,
      co (some 69) (.call { callee := (.value (.func 38)), args := #[(.tmp 62), (.tmp 64), (.tmp 66), (.const (.int .u8 93)), (.tmp 68)], argTypes := #[9, 3, 4, 5, 3] }) none,
      co (some 61) (.move (.tmp 69)) none,
      co (some 70) (.extract (.tmp 61) 0) none,
      co (some 71) (.extract (.tmp 61) 1) none,
      co (some 72) (.extract (.tmp 61) 2) none,
      co (some 10) (.assign (.tmp 70)) none,
      co (some 11) (.assign (.tmp 71)) none,
      co (some 12) (.assign (.tmp 72)) none] [6, 9, 10, 11, 12])
  (.seq (.reg [co (some 73) (.move (.tmp 9)) none,
      co (some 74) (.move (.tmp 10)) none,
      co (some 75) (.build 25 #[(0, (.tmp 73)), (2, (.tmp 74))]) none,
      co (some 76) (.move (.tmp 11)) none,
      co (some 77) (.move (.tmp 12)) none,
      co none (.store 25 (.tmp 6) (.tmp 75)) none,
      co (some 7) (.assign (.tmp 76)) none,
      co (some 8) (.assign (.tmp 77)) none] [6, 7, 8])
  (.ret))))))))))))))
theorem t_centoref08_read : Txt Tryd.prog 23 78 [(.cell 6 25), (.tmp 7), (.tmp 8)] c_centoref08_read := txt_of (code := Tryd.f23.body.getD .ret) mixed (by kernel_rfl) Tryd.func23 (by kernel_rfl) Tryd.ntmps23 (by kernel_rfl) (ls := [([0, 1, 2, 6], [(0, [0])]), ([], []), ([0, 1, 2, 6, 16], []), ([], []), ([6, 7, 8], []), ([], []), ([999999, 0, 1, 2, 6], []), ([0, 1, 2, 6, 21], []), ([], []), ([6, 7, 8], []), ([], []), ([999999, 0, 1, 2, 6], []), ([0, 1, 2, 6, 26], []), ([], []), ([6, 7, 8], []), ([], []), ([999999, 0, 1, 2, 6], []), ([0, 1, 2, 6, 31], []), ([], []), ([6, 7, 8], []), ([], []), ([999999, 0, 1, 2, 6], []), ([0, 1, 2, 6, 9], []), ([], []), ([0, 1, 2, 6, 9, 59], []), ([], []), ([6, 7, 8], []), ([], []), ([999999, 0, 1, 2, 6, 9], []), ([6, 9, 10, 11, 12], []), ([], []), ([6, 7, 8], []), ([], [])]) (by kernel_rfl)
/-- cento/centoref08.Parse -/
def c_centoref08_Parse : CC :=
  .seq (.reg [cn (some 2) (.alloc 25) none [0],
      co (some 3) (.assign (.const (.bool false))) none] [0, 2])
  (.seq (.reg [co (some 8) (.move (.tmp 0)) none,
      co (some 9) (.call { callee := (.value (.func 23)), args := #[(.tmp 8), (.const (.int .i64 0)), (.const (.int .i64 64))], argTypes := #[9, 3, 3] }) none,
      co (some 7) (.move (.tmp 9)) none,
      co (some 10) (.extract (.tmp 7) 0) none,
      co (some 11) (.extract (.tmp 7) 1) none,
      co (some 12) (.extract (.tmp 7) 2) none,
      cn (some 4) (.alloc 25) none [1],
      co none (.store 25 (.tmp 4) (.tmp 10)) none,
      co (some 5) (.assign (.tmp 11)) none,
      co (some 6) (.assign (.tmp 12)) none] [0, 2, 4, 5, 6])
  (.seq (.seq (.reg [co (some 13) (.move (.tmp 6)) none,
        co (some 14) (.unOp .not 4 (.tmp 13)) none,
        co (some 15) (.move (.tmp 14)) none,
        co (some 16) (.move (.tmp 5)) (some (15, false)),
        co (some 17) (.move (.tmp 0)) (some (15, false)),
        co (some 18) (.call { callee := (.builtin .len), args := #[(.tmp 17)], argTypes := #[9] }) (some (15, false)),
        co (some 19) (.binOp .neq 3 (.tmp 16) (.tmp 18) 3) (some (15, false)),
        co (some 20) (.pick (.tmp 15) (.const (.bool true)) (.tmp 19)) none,
        co (some 21) (.move (.tmp 20)) none,
        co (some 22) (.load 25 (.tmp 4)) (some (21, false)),
        co (some 23) (.call { callee := (.value (.func 7)), args := #[(.tmp 22), (.const (.int .i64 64))], argTypes := #[25, 3] }) (some (21, false)),
        co (some 24) (.unOp .not 4 (.tmp 23)) (some (21, false)),
        co (some 25) (.pick (.tmp 21) (.const (.bool true)) (.tmp 24)) none] [2, 4, 25])
    (.cond (.tmp 25)
      (.seq (.reg [co (some 26) (.build 25 #[]) none,
          co none (.store 25 (.tmp 2) (.tmp 26)) none,
          co (some 3) (.assign (.const (.bool false))) none] [2, 3])
      (.ret))
      (.skip)))
  (.keep [2, 4] (.seq (.reg [co (some 27) (.load 25 (.tmp 4)) none,
      co none (.store 25 (.tmp 2) (.tmp 27)) none,
      co (some 3) (.assign (.const (.bool true))) none] [2, 3])
  (.ret)))))
theorem t_centoref08_Parse : Txt Tryd.prog 13 28 [(.cell 2 25), (.tmp 3)] c_centoref08_Parse := txt_of (code := Tryd.f13.body.getD .ret) mixed (by kernel_rfl) Tryd.func13 (by kernel_rfl) Tryd.ntmps13 (by kernel_rfl) (ls := [([0, 2], [(0, [0])]), ([], []), ([0, 2, 4, 5, 6], [(6, [1])]), ([], []), ([2, 4, 25], []), ([], []), ([2, 3], []), ([], []), ([999999, 2, 4], []), ([2, 3], []), ([], [])]) (by kernel_rfl)
/-- cento/centolaw08.awake -/
def c_centolaw08_awake : CC :=
  .seq (.reg [co (some 0) (.assign (.const (.bool false))) none] [])
  (.seq (.reg [co (some 4) (.call { callee := (.value (.func 11)), args := #[(.const (.string { data := #[123, 49, 44, 102, 102, 124, 95, 44, 121, 91, 50, 93, 125] }))], argTypes := #[9] }) none,
      co (some 3) (.move (.tmp 4)) none,
      co (some 5) (.extract (.tmp 3) 0) none,
      co (some 6) (.extract (.tmp 3) 1) none,
      cn (some 1) (.alloc 25) none [0],
      co none (.store 25 (.tmp 1) (.tmp 5)) none,
      co (some 2) (.assign (.tmp 6)) none] [1, 2])
  (.seq (.reg [co (some 7) (.move (.tmp 2)) none,
      co (some 8) (.binOp .eql 30 (.tmp 7) (.const (.int .i64 0)) 30) none,
      co (some 9) (.move (.tmp 8)) none,
      co (some 10) (.fieldAddr 25 (.tmp 1) 1) (some (9, true)),
      co (some 11) (.load 22 (.tmp 10)) (some (9, true)),
      co (some 12) (.call { callee := (.builtin .len), args := #[(.tmp 11)], argTypes := #[22] }) (some (9, true)),
      co (some 13) (.binOp .eql 3 (.tmp 12) (.const (.int .i64 2)) 3) (some (9, true)),
      co (some 14) (.pick (.tmp 9) (.tmp 13) (.const (.bool false))) none,
      co (some 15) (.move (.tmp 14)) none,
      co (some 16) (.fieldAddr 25 (.tmp 1) 2) (some (15, true)),
      co (some 17) (.load 23 (.tmp 16)) (some (15, true)),
      co (some 18) (.call { callee := (.builtin .len), args := #[(.tmp 17)], argTypes := #[23] }) (some (15, true)),
      co (some 19) (.binOp .eql 3 (.tmp 18) (.const (.int .i64 2)) 3) (some (15, true)),
      co (some 20) (.pick (.tmp 15) (.tmp 19) (.const (.bool false))) none,
      co (some 21) (.move (.tmp 20)) none,
      co (some 22) (.fieldAddr 25 (.tmp 1) 2) (some (21, true)),
      co (some 23) (.load 23 (.tmp 22)) (some (21, true)),
      co (some 24) (.indexAddr 23 (.tmp 23) (.const (.int .i64 1))) (some (21, true)),
      co (some 25) (.fieldAddr 25 (.tmp 24) 0) (some (21, true)),
      co (some 26) (.load 3 (.tmp 25)) (some (21, true)),
      co (some 27) (.binOp .eql 3 (.tmp 26) (.const (.int .i64 4)) 3) (some (21, true)),
      co (some 28) (.pick (.tmp 21) (.tmp 27) (.const (.bool false))) none,
      co (some 29) (.move (.tmp 28)) none,
      co (some 30) (.load 25 (.tmp 1)) (some (29, true)),
      co (some 31) (.call { callee := (.value (.func 9)), args := #[(.tmp 30)], argTypes := #[25] }) (some (29, true)),
      co (some 32) (.binOp .eql 9 (.tmp 31) (.const (.string { data := #[123, 49, 44, 102, 102, 124, 95, 44, 121, 91, 50, 93, 125] })) 9) (some (29, true)),
      co (some 33) (.pick (.tmp 29) (.tmp 32) (.const (.bool false))) none,
      co (some 0) (.assign (.tmp 33)) none] [0])
  (.ret)))
theorem t_centolaw08_awake : Txt Tryd.prog 8 34 [(.tmp 0)] c_centolaw08_awake := txt_of (code := Tryd.f8.body.getD .ret) mixed (by kernel_rfl) Tryd.func8 (by kernel_rfl) Tryd.ntmps8 (by kernel_rfl) (ls := [([], []), ([], []), ([1, 2], [(4, [0])]), ([], []), ([0], []), ([], [])]) (by kernel_rfl)
/-- cento/centolaw08.TextPrints -/
def c_centolaw08_TextPrints : CC :=
  .seq (.reg [cn (some 1) (.box 25 (.tmp 0)) none [0],
      co (some 2) (.assign (.const (.bool false))) none] [1])
  (.seq (.seq (.reg [co (some 6) (.load 25 (.tmp 1)) none,
        co (some 7) (.call { callee := (.value (.func 6)), args := #[(.tmp 6)], argTypes := #[25] }) none,
        co (some 8) (.unOp .not 4 (.tmp 7)) none,
        co (some 9) (.move (.tmp 8)) none,
        co (some 10) (.load 25 (.tmp 1)) (some (9, false)),
        co (some 11) (.call { callee := (.value (.func 7)), args := #[(.tmp 10), (.const (.int .i64 64))], argTypes := #[25, 3] }) (some (9, false)),
        co (some 12) (.unOp .not 4 (.tmp 11)) (some (9, false)),
        co (some 13) (.pick (.tmp 9) (.const (.bool true)) (.tmp 12)) none] [1, 13])
    (.cond (.tmp 13)
      (.seq (.reg [co (some 14) (.call { callee := (.value (.func 8)), args := #[], argTypes := #[] }) none,
          co (some 2) (.assign (.tmp 14)) none] [2])
      (.ret))
      (.skip)))
  (.keep [1] (.seq (.reg [co (some 15) (.load 25 (.tmp 1)) none,
      co (some 16) (.call { callee := (.value (.func 9)), args := #[(.tmp 15)], argTypes := #[25] }) none,
      co (some 3) (.assign (.tmp 16)) none] [1, 3])
  (.seq (.seq (.reg [co (some 17) (.move (.tmp 3)) none,
        co (some 18) (.load 25 (.tmp 1)) none,
        co (some 19) (.call { callee := (.value (.func 10)), args := #[(.tmp 18)], argTypes := #[25] }) none,
        co (some 20) (.binOp .neq 9 (.tmp 17) (.tmp 19) 9) none] [1, 3, 20])
    (.cond (.tmp 20)
      (.seq (.reg [co (some 2) (.assign (.const (.bool false))) none] [2])
      (.ret))
      (.skip)))
  (.keep [1, 3] (.seq (.reg [co (some 22) (.move (.tmp 3)) none,
      co (some 23) (.call { callee := (.value (.func 11)), args := #[(.tmp 22)], argTypes := #[9] }) none,
      co (some 21) (.move (.tmp 23)) none,
      co (some 24) (.extract (.tmp 21) 0) none,
      co (some 25) (.extract (.tmp 21) 1) none,
      cn (some 4) (.alloc 25) none [1],
      co none (.store 25 (.tmp 4) (.tmp 24)) none,
      co (some 5) (.assign (.tmp 25)) none] [1, 4, 5])
  (.seq (.seq (.reg [co (some 26) (.fieldAddr 25 (.tmp 1) 0) none,
        co (some 27) (.load 3 (.tmp 26)) none,
        co (some 28) (.binOp .eql 3 (.tmp 27) (.const (.int .i64 10)) 3) none] [1, 4, 5, 28])
    (.cond (.tmp 28)
      (.seq (.reg [co (some 29) (.move (.tmp 5)) none,
          co (some 30) (.binOp .eql 30 (.tmp 29) (.const (.int .i64 11)) 30) none,
          co (some 31) (.move (.tmp 30)) none,
          co (some 32) (.call { callee := (.value (.func 8)), args := #[], argTypes := #[] }) (some (31, true)),
          co (some 33) (.pick (.tmp 31) (.tmp 32) (.const (.bool false))) none,
          co (some 2) (.assign (.tmp 33)) none] [2])
      (.ret))
      (.skip)))
  (.keep [1, 4, 5] (.seq (.reg [co (some 34) (.move (.tmp 5)) none,
      co (some 35) (.binOp .eql 30 (.tmp 34) (.const (.int .i64 0)) 30) none,
      co (some 36) (.move (.tmp 35)) none,
      co (some 37) (.load 25 (.tmp 4)) (some (36, true)),
      co (some 38) (.load 25 (.tmp 1)) (some (36, true)),
      co (some 39) (.call { callee := (.value (.func 12)), args := #[(.tmp 37), (.tmp 38)], argTypes := #[25, 25] }) (some (36, true)),
      co (some 40) (.pick (.tmp 36) (.tmp 39) (.const (.bool false))) none,
      co (some 41) (.move (.tmp 40)) none,
      co (some 42) (.call { callee := (.value (.func 8)), args := #[], argTypes := #[] }) (some (41, true)),
      co (some 43) (.pick (.tmp 41) (.tmp 42) (.const (.bool false))) none,
      co (some 2) (.assign (.tmp 43)) none] [2])
  (.ret))))))))))
theorem t_centolaw08_TextPrints : Txt Tryd.prog 3 44 [(.tmp 2)] c_centolaw08_TextPrints := txt_of (code := Tryd.f3.body.getD .ret) mixed (by kernel_rfl) Tryd.func3 (by kernel_rfl) Tryd.ntmps3 (by kernel_rfl) (ls := [([1], [(0, [0])]), ([], []), ([1, 13], []), ([], []), ([2], []), ([], []), ([999999, 1], []), ([1, 3], []), ([], []), ([1, 3, 20], []), ([], []), ([2], []), ([], []), ([999999, 1, 3], []), ([1, 4, 5], [(5, [1])]), ([], []), ([1, 4, 5, 28], []), ([], []), ([2], []), ([], []), ([999999, 1, 4, 5], []), ([2], []), ([], [])]) (by kernel_rfl)
def k1_centolaw08_TextParses : CC :=
  .seq (.reg [co (some 13) (.move (.tmp 0)) none,
      co (some 14) (.call { callee := (.value (.func 11)), args := #[(.tmp 13)], argTypes := #[9] }) none,
      co (some 12) (.move (.tmp 14)) none,
      co (some 15) (.extract (.tmp 12) 0) none,
      co (some 16) (.extract (.tmp 12) 1) none,
      cn (some 3) (.alloc 25) none [0],
      co none (.store 25 (.tmp 3) (.tmp 15)) none,
      co (some 4) (.assign (.tmp 16)) none] [0, 3, 4])
  (.seq (.reg [co (some 18) (.move (.tmp 0)) none,
      co (some 19) (.call { callee := (.value (.func 13)), args := #[(.tmp 18)], argTypes := #[9] }) none,
      co (some 17) (.move (.tmp 19)) none,
      co (some 20) (.extract (.tmp 17) 0) none,
      co (some 21) (.extract (.tmp 17) 1) none,
      cn (some 5) (.alloc 25) none [1],
      co none (.store 25 (.tmp 5) (.tmp 20)) none,
      co (some 6) (.assign (.tmp 21)) none] [0, 3, 4, 5, 6])
  (.seq (.seq (.reg [co (some 22) (.load 25 (.tmp 3)) none,
        co (some 23) (.load 25 (.tmp 5)) none,
        co (some 24) (.call { callee := (.value (.func 12)), args := #[(.tmp 22), (.tmp 23)], argTypes := #[25, 25] }) none,
        co (some 25) (.unOp .not 4 (.tmp 24)) none,
        co (some 26) (.move (.tmp 25)) none,
        co (some 27) (.move (.tmp 6)) (some (26, false)),
        co (some 28) (.move (.tmp 4)) (some (26, false)),
        co (some 29) (.binOp .eql 30 (.tmp 28) (.const (.int .i64 0)) 30) (some (26, false)),
        co (some 30) (.binOp .neq 4 (.tmp 27) (.tmp 29) 4) (some (26, false)),
        co (some 31) (.pick (.tmp 26) (.const (.bool true)) (.tmp 30)) none,
        co (some 32) (.move (.tmp 31)) none,
        co (some 33) (.move (.tmp 6)) (some (32, false)),
        co (some 34) (.unOp .not 4 (.tmp 33)) (some (32, false)),
        co (some 35) (.move (.tmp 34)) (some (32, false)),
        co (some 36) (.move (.tmp 4)) (some (35, true)),
        co (some 37) (.binOp .neq 30 (.tmp 36) (.const (.int .i64 11)) 30) (some (35, true)),
        co (some 38) (.pick (.tmp 35) (.tmp 37) (.const (.bool false))) (some (32, false)),
        co (some 39) (.pick (.tmp 32) (.const (.bool true)) (.tmp 38)) none] [0, 3, 6, 39])
    (.cond (.tmp 39)
      (.seq (.reg [co (some 2) (.assign (.const (.bool false))) none] [2])
      (.ret))
      (.skip)))
  (.keep [0, 3, 6] (.seq (.reg [co (some 40) (.move (.tmp 6)) none,
      co (some 41) (.unOp .not 4 (.tmp 40)) none,
      co (some 42) (.move (.tmp 41)) none,
      co (some 43) (.load 25 (.tmp 3)) (some (42, false)),
      co (some 44) (.call { callee := (.value (.func 9)), args := #[(.tmp 43)], argTypes := #[25] }) (some (42, false)),
      co (some 45) (.move (.tmp 0)) (some (42, false)),
      co (some 46) (.binOp .eql 9 (.tmp 44) (.tmp 45) 9) (some (42, false)),
      co (some 47) (.pick (.tmp 42) (.const (.bool true)) (.tmp 46)) none,
      co (some 48) (.move (.tmp 47)) none,
      co (some 49) (.call { callee := (.value (.func 8)), args := #[], argTypes := #[] }) (some (48, true)),
      co (some 50) (.pick (.tmp 48) (.tmp 49) (.const (.bool false))) none,
      co (some 2) (.assign (.tmp 50)) none] [2])
  (.ret)))))
/-- cento/centolaw08.TextParses -/
def c_centolaw08_TextParses : CC :=
  .seq (.reg [co (some 2) (.assign (.const (.bool false))) none] [0])
  (.seq (.seq (.reg [co (some 7) (.move (.tmp 0)) none,
        co (some 8) (.call { callee := (.builtin .len), args := #[(.tmp 7)], argTypes := #[9] }) none,
        co (some 9) (.binOp .gtr 3 (.tmp 8) (.const (.int .i64 600)) 3) none] [0, 9])
    (.cond (.tmp 9)
      (.reg [co (some 10) (.move (.tmp 0)) none,
        co (some 11) (.slice 9 (.tmp 10) none (some (.const (.int .i64 600))) none) none,
        co (some 0) (.assign (.tmp 11)) none] [0])
      (.skip)))
  (.keep [0] k1_centolaw08_TextParses))
theorem t_centolaw08_TextParses : Txt Tryd.prog 4 51 [(.tmp 2)] c_centolaw08_TextParses := txt_of (code := Tryd.f4.body.getD .ret) mixed (by kernel_rfl) Tryd.func4 (by kernel_rfl) Tryd.ntmps4 (by kernel_rfl) (ls := [([0], []), ([], []), ([0, 9], []), ([], []), ([0], []), ([999999, 0], []), ([0, 3, 4], [(5, [0])]), ([], []), ([0, 3, 4, 5, 6], [(5, [1])]), ([], []), ([0, 3, 6, 39], []), ([], []), ([2], []), ([], []), ([999999, 0, 3, 6], []), ([2], []), ([], [])]) (by kernel_rfl)
def l1_centolaw08_TextDeep : CC :=
  .seq (.seq (.reg [co (some 9) (.move (.tmp 4)) none,
        co (some 10) (.move (.tmp 0)) none,
        co (some 11) (.binOp .lss 3 (.tmp 9) (.tmp 10) 3) none] [0, 3, 4, 11])
    (.cond (.tmp 11)
      (.skip)
      (.exit 0)))
  (.keep [0, 3, 4] (.seq (.block 1
      (.reg [co (some 14) (.move (.tmp 3)) none,
        co (some 15) (.binOp .add 9 (.const (.string { data := #[112, 91] })) (.tmp 14) 9) none,
        co (some 16) (.binOp .add 9 (.tmp 15) (.const (.string { data := #[93] })) 9) none,
        co (some 3) (.assign (.tmp 16)) none] [0, 3, 4]))
  (.reg [co (some 12) (.move (.tmp 4)) none,
    co (some 13) (.binOp .add 3 (.tmp 12) (.const (.int .i64 1)) 3) none,
    co (some 4) (.assign (.tmp 13)) none] [0, 3, 4])))
/-- cento/centolaw08.TextDeep -/
def c_centolaw08_TextDeep : CC :=
  .seq (.reg [co (some 2) (.assign (.const (.bool false))) none] [0])
  (.seq (.reg [co (some 7) (.move (.tmp 0)) none,
      co (some 8) (.binOp .and 3 (.tmp 7) (.const (.int .i64 127)) 3) none,
      co (some 0) (.assign (.tmp 8)) none] [0])
  (.seq (.reg [co (some 3) (.assign (.const (.string { data := #[95] }))) none] [0, 3])
  (.seq (.seq (.reg [co (some 4) (.assign (.const (.int .i64 0))) none] [0, 3, 4])
    (.block 0
      (.loop l1_centolaw08_TextDeep)))
  (.keep [0, 3] (.seq (.reg [co (some 18) (.move (.tmp 3)) none,
      co (some 19) (.call { callee := (.value (.func 11)), args := #[(.tmp 18)], argTypes := #[9] }) none,
      co (some 17) (.move (.tmp 19)) none,
      co (some 20) (.extract (.tmp 17) 0) none,
      co (some 21) (.extract (.tmp 17) 1) none,
      cn (some 5) (.alloc 25) none [0],
      co none (.store 25 (.tmp 5) (.tmp 20)) none,
      co (some 6) (.assign (.tmp 21)) none] [0, 6])
  (.seq (.reg [co (some 22) (.move (.tmp 6)) none,
      co (some 23) (.binOp .eql 30 (.tmp 22) (.const (.int .i64 0)) 30) none,
      co (some 24) (.move (.tmp 0)) none,
      co (some 25) (.binOp .leq 3 (.tmp 24) (.const (.int .i64 64)) 3) none,
      co (some 26) (.binOp .eql 4 (.tmp 23) (.tmp 25) 4) none,
      co (some 27) (.move (.tmp 26)) none,
      co (some 28) (.call { callee := (.value (.func 8)), args := #[], argTypes := #[] }) (some (27, true)),
      co (some 29) (.pick (.tmp 27) (.tmp 28) (.const (.bool false))) none,
      co (some 2) (.assign (.tmp 29)) none] [2])
  (.ret)))))))
theorem t_centolaw08_TextDeep : Txt Tryd.prog 5 30 [(.tmp 2)] c_centolaw08_TextDeep := txt_of (code := Tryd.f5.body.getD .ret) mixed (by kernel_rfl) Tryd.func5 (by kernel_rfl) Tryd.ntmps5 (by kernel_rfl) (ls := [([0], []), ([], []), ([0], []), ([], []), ([0, 3], []), ([], []), ([0, 3, 4], []), ([], []), ([0, 3, 4, 11], []), ([], []), ([999999, 0, 3, 4], []), ([0, 3, 4], []), ([], []), ([0, 3, 4], []), ([999999, 0, 3], []), ([0, 6], [(5, [0])]), ([], []), ([2], []), ([], [])]) (by kernel_rfl)
end Go.Proofs.YtgimfagpolbelaaDoor

/-
  Functions of Go's library that the texts' printer and reader call: met by the model's own run, as contracts.
-/
namespace Go.Proofs.YtgimfagpolbelaaDoor
set_option linter.unusedVariables false
set_option linter.unusedSimpArgs false
open Go Go.G Go.Proofs Go.RowKit Go.PL
/-- A function that turns nothing, met by the model's own run. -/
theorem spec_run {P : Program} {f : FuncId} {r : Value} (hk : okFn P f = true) (l : List Value) (h : ∀ (w : World) (I : Nat → Prop), Tabs P w I → Calls P f l.toArray w fun e w' => e = .returned r ∧ w' = w) : G.Spec P f (l.map A.v) (.v r) := by
  refine ⟨hk, fun w I vs hI ht hl hr => ?_⟩
  have e : vs = l.toArray := by
    apply Array.ext
    · simpa using hl
    · intro i h1 h2
      have h3 : i < l.length := by simpa using h2
      have := hr i (A.v l[i]) (by simp [h3])
      generalize hq : vs.getD i undef = x at this
      cases this
      have : vs.getD i undef = vs[i] := by simp [h1]
      rw [this] at hq
      simpa using hq
  subst e
  refine (h w I ht).mono fun e w' ⟨h1, h2⟩ => ⟨r, h1, ?_, ?_⟩
  · subst h2
    exact ⟨rfl, rfl, rfl, Nat.le_refl _, fun _ _ => rfl⟩
  · exact .v _ _
theorem idx_lib (l : List UInt8) (c : UInt8) : Lib.indexByte l c = idxB l c := by
  induction l with
  | nil => rfl
  | cons b l ih => simp [Lib.indexByte, idxB, ih]
set_option maxHeartbeats 1000000 in
set_option maxRecDepth 100000 in
theorem indexByte_run (l : List UInt8) (c : UInt8) (w : World) : Calls Tryd.prog 32 #[.string ⟨l.toArray⟩, .int .u8 c.toNat] w fun e w' => e = .returned (.int .i64 (idxB l c)) ∧ w' = w := by
  have h : (Extern.BytealgIndexByte.indexByte #[.string ⟨l.toArray⟩, .int .u8 c.toNat]).run Tryd.prog w = .ok (.int .i64 (idxB l c)) w := by
    rw [Lib.run_indexByteString, idx_lib]
    simp
  go_enter Tryd.func32, Tryd.ntmps32
  go_wp2
  rw [run_callFunc_extern Tryd.func52 (by kernel_rfl) (by kernel_rfl) (by kernel_rfl) (e := Extern.BytealgIndexByte.indexByte) (by kernel_rfl)]
  rw [h]
  simp only [Result.andThen]
  rw [Oper.upon_value]
  go_wp2
  go_ret
  exact ⟨rfl, rfl⟩
theorem idx_spec (l : List UInt8) (c : UInt8) : G.Spec Tryd.prog 32 [S l, u8v c] (.v (.int .i64 (idxB l c))) :=
  spec_run (by kernel_rfl) [.string ⟨l.toArray⟩, .int .u8 c.toNat] fun w I _ => indexByte_run l c w
set_option maxHeartbeats 1000000 in
set_option maxRecDepth 100000 in
theorem tz_run (w : World) (I : Nat → Prop) (ht : Tabs Tryd.prog w I) : Calls Tryd.prog 59 #[.int .u64 16] w fun e w' => e = .returned (.int .i64 4) ∧ w' = w := by
  have h0 : gtab Tryd.prog 3 = some (.u8, tab64) := by kernel_rfl
  have h1 := (ht 3 _ h0).2 15 4 (by decide)
  have e : IntKind.u64.wrap (bits BinOp.and IntKind.u64 16 (IntKind.u64.wrap (-16)) * 285870213051353865) / 288230376151711744 = 15 := by decide
  have hb : 0 ≤ IntKind.u64.wrap (bits BinOp.and IntKind.u64 16 (IntKind.u64.wrap (-16)) * 285870213051353865) / 288230376151711744 ∧ IntKind.u64.wrap (bits BinOp.and IntKind.u64 16 (IntKind.u64.wrap (-16)) * 285870213051353865) / 288230376151711744 < 64 := by rw [e]; decide
  have hc : w.cell? ⟨3, (IntKind.u64.wrap (bits BinOp.and IntKind.u64 16 (IntKind.u64.wrap (-16)) * 285870213051353865) / 288230376151711744).toNat, none⟩ = some (.int .u8 4) := by rw [e]; exact h1
  clear e
  go_enter Tryd.func59, Tryd.ntmps59
  go_wp2
  go_ret
  exact ⟨rfl, rfl⟩
set_option maxHeartbeats 1000000 in
set_option maxRecDepth 100000 in
theorem copyCheck_used (b : Nat) (w : World) (h0 : w.cell? ⟨b, 0, none⟩ = some (.pointer (some ⟨b, 0, none⟩))) :
    Calls Tryd.prog 39 #[.pointer (some ⟨b, 0, none⟩)] w fun e w' => e = .returned (.tuple #[]) ∧ w' = w := by
  obtain ⟨j, hj, hjs⟩ := Option.map_eq_some_iff.1 (show szT Tryd.prog 44 = some 2 by kernel_rfl)
  go_enter Tryd.func39, Tryd.ntmps39
  go_wp2
  rw [Lib.run_neq_ptr_same w _ Tryd.underlying41 hj]
  go_wp2
  go_end0
  exact ⟨rfl, rfl⟩
set_option maxHeartbeats 1000000 in
set_option maxRecDepth 100000 in
theorem copyCheck_fresh (b : Nat) (w : World) (h0 : w.cell? ⟨b, 0, none⟩ = some (.pointer none)) (hsh : w.shape? b = some (44, 2)) (hfz : w.frozen? ⟨b, 0, none⟩ = false) :
    Calls Tryd.prog 39 #[.pointer (some ⟨b, 0, none⟩)] w fun e w' => e = .returned (.tuple #[]) ∧ w' = w.setCell ⟨b, 0, none⟩ (.pointer (some ⟨b, 0, none⟩)) := by
  obtain ⟨j, hj, hjs⟩ := Option.map_eq_some_iff.1 (show szT Tryd.prog 44 = some 2 by kernel_rfl)
  go_enter Tryd.func39, Tryd.ntmps39
  go_wp2
  rw [Lib.run_to_unsafe w ⟨b, 0, none⟩ Tryd.underlying41 Tryd.underlying80 hj (by rw [hjs]; decide) hsh (Nat.zero_lt_succ 1)]
  simp only [Result.andThen]
  rw [Oper.upon_value]
  go_wp2
  rw [run_callFunc_extern Tryd.func47 (by kernel_rfl) (by kernel_rfl) (by kernel_rfl) (e := Extern.AbiNoEscape.same) (by kernel_rfl)]
  rw [Lib.run_noEscape]
  simp only [Result.andThen]
  rw [Oper.upon_value]
  go_wp2
  rw [Lib.run_from_unsafe w ⟨b, 0, none⟩ Tryd.underlying80 Tryd.underlying41 hj hsh (by kernel_rfl)]
  simp only [Result.andThen]
  rw [Oper.upon_value]
  go_wp2
  go_end0
  exact ⟨rfl, rfl⟩
set_option maxHeartbeats 1000000 in
set_option maxRecDepth 100000 in
theorem string_run (b g : Nat) (l : List UInt8) (cap : Nat) (w : World) (h0 : l ≠ []) (hb1 : w.cell? ⟨b, 1, none⟩ = some (.slice (some ⟨g, 0, none⟩) l.length cap)) (cells : Nat) (hsh : w.shape? g = some (5, cells)) (hn : l.length ≤ cells) (hc : l.length ≤ cap) (hcm : l.length ≤ 9223372036854775807)
    (hcell : ∀ j x, l[j]? = some x → w.cell? ⟨g, j, none⟩ = some (.int .u8 x.toNat)) :
    Calls Tryd.prog 17 #[.pointer (some ⟨b, 0, none⟩)] w fun e w' => e = .returned (.string ⟨l.toArray⟩) ∧ w' = w.drew.freeze ⟨g, 0, none⟩ l.length := by
  have hl0 : l.length ≠ 0 := by simpa using h0
  have c1 : w.drew.cell? ⟨b, 1, none⟩ = some (.slice (some ⟨g, 0, none⟩) l.length cap) := hb1
  have hSD : (Builtin.unsafeSliceData_ #[42] 64 #[.slice (some ⟨g, 0, none⟩) l.length cap]).run Tryd.prog w.drew = .ok (.pointer (some ⟨g, 0, none⟩)) w.drew :=
    Lib.run_unsafeSliceData_row _ _ _ _ _ _ (by omega)
  have hUS : (Builtin.unsafeString_ #[64, 3] 9 #[.pointer (some ⟨g, 0, none⟩), .int .i64 l.length]).run Tryd.prog w.drew = .ok (.string ⟨l.toArray⟩) (w.drew.freeze ⟨g, 0, none⟩ l.length) :=
    Lib.run_unsafeString_row w.drew 64 3 9 5 Tryd.underlying64 (by kernel_rfl) g cells hsh l h0 hn (by omega) (fun j x hx => by rw [Addr.add_lit, Nat.zero_add]; exact hcell j x hx)
  go_enter Tryd.func17, Tryd.ntmps17
  go_wp2
  go_region
  all_goals (go_wp2; go_ret; exact ⟨rfl, rfl⟩)
theorem tz_spec : G.Spec Tryd.prog 59 [.v (.int .u64 16)] (.v (.int .i64 4)) :=
  spec_run (by kernel_rfl) [.int .u64 16] fun w I ht => tz_run w I ht
end Go.Proofs.YtgimfagpolbelaaDoor

/-
  strings.Builder: a family of two objects; what its methods make of it.
-/
namespace Go.Proofs.YtgimfagpolbelaaDoor
set_option linter.unusedVariables false
set_option linter.unusedSimpArgs false
open Go Go.G Go.Proofs Go.RowKit Go.PL
/-- A builder: has it been written; its bytes; its row's version. -/
def bdF (a : Bool) (l : List UInt8) (v : Nat) : Fam := ⟨fun r p => if p = [777777, 44] then ⟨1, .cells [if a = true then .pob (r :: [777777, 44]) 1 0 else .v (.pointer none), .osl (r :: [777777, 44, 777777, 5]) v 1 0 l.length]⟩
    else if p = [777777, 44, 777777, 5] then ⟨v, .arr 1 (l.map u8v)⟩ else ⟨0, .none⟩, fun {g δ r r'} hg hd p => by
    by_cases h1 : p = [777777, 44]
    · rw [if_pos h1, if_pos h1]
      refine Fam.cells_ren ?_
      cases a <;> simp [A.renL, A.ren, hg, hd]
    · rw [if_neg h1, if_neg h1]
      by_cases h2 : p = [777777, 44, 777777, 5]
      · rw [if_pos h2]
        refine Fam.arr_ren ?_
        simp [renL_map, A.ren, Function.comp_def]
      · rw [if_neg h2]; rfl, fun {D r} hD p => by
    by_cases h1 : p = [777777, 44]
    · rw [if_pos h1]
      cases a <;> simp [Ob.refs, A.refsL, A.refs, hD]
    · rw [if_neg h1]
      by_cases h2 : p = [777777, 44, 777777, 5]
      · rw [if_pos h2]
        simp [Ob.refs, refsL_iff, A.refs]
      · rw [if_neg h2]; trivial⟩
@[simp] theorem bdF_F {a : Bool} {l : List UInt8} {v r : Nat} {p : Nm} : (bdF a l v).F r p = if p = [777777, 44] then ⟨1, .cells [if a = true then .pob (r :: [777777, 44]) 1 0 else .v (.pointer none), .osl (r :: [777777, 44, 777777, 5]) v 1 0 l.length]⟩
    else if p = [777777, 44, 777777, 5] then ⟨v, .arr 1 (l.map u8v)⟩ else ⟨0, .none⟩ := rfl
abbrev bp (r : Nat) : A := .pob (r :: [777777, 44]) 1 0
theorem copyCheck_spec (a : Bool) (l : List UInt8) (v : Nat) : SpecF Tryd.prog 39 (fun r => [bp r]) (bdF a l v) (fun _ => .tup []) (bdF true l v) := by
  refine ⟨famL_cons famA_pob famL_nil, famA_tup famL_nil, by kernel_rfl, fun w I M0 n μ vs hM hs hl hr => ?_⟩
  have hd : (ov 0 ((bdF a l v).F 0) (lkH []) : Hp) [0, 777777, 44] = ⟨1, .cells [if a = true then .pob [0, 777777, 44] 1 0 else .v (.pointer none), .osl [0, 777777, 44, 777777, 5] v 1 0 l.length]⟩ := by simp
  have hob := hs.ob [0, 777777, 44]
  have hver := hs.ver [0, 777777, 44]
  have hB : hasB (μ [0, 777777, 44]) ((ov 0 ((bdF a l v).F 0) (lkH []) : Hp) [0, 777777, 44]).ob = true := by rw [hd]; rfl
  have htag := hs.tag _ hB
  rw [hd] at hob hver
  obtain ⟨cs, k1, k2, k3⟩ := hob
  simp only [List.length_cons, List.length_nil] at k2
  simp only [tagOK_tag, beq_iff_eq] at htag
  replace htag := htag.symm
  generalize hμ : μ [0, 777777, 44] = L at k1 k2 k3 hver htag hB
  have harg := hr 0 _ rfl
  obtain ⟨b, hb⟩ : ∃ b, b = L.b := ⟨_, rfl⟩
  have hv0 : vs.getD 0 undef = .pointer (some ⟨b, 0, none⟩) := by
    generalize vs.getD 0 undef = x at harg
    cases harg with
    | pob _ _ _ _ b' k' g1 g2 g3 =>
      have := g3 (by rw [hμ, hver])
      rw [hμ] at this
      obtain ⟨rfl, rfl⟩ := this
      rw [hb]
  have hvs : vs = #[.pointer (some ⟨b, 0, none⟩)] := by
    apply Array.ext
    · simpa using hl
    · intro i h1 h2
      have : i = 0 := by simp at h2; omega
      subst this
      have e : vs.getD 0 undef = vs[0] := by simp [h1]
      rw [← e, hv0]; rfl
  subst hvs
  obtain ⟨x0, x1, hcs⟩ : ∃ x0 x1, cs = #[x0, x1] := ⟨cs[0]'(by omega), cs[1]'(by omega), by
    apply Array.ext
    · simpa using k2
    · intro i h1 h2
      match i, h2 with
      | 0, _ => rfl
      | 1, _ => rfl⟩
  subst hcs
  have hx0 := (k3 0 _ rfl).2
  have hx1 := (k3 1 _ rfl).2
  simp only [show (#[x0, x1] : Array Value).getD 0 undef = x0 from rfl] at hx0
  simp only [show (#[x0, x1] : Array Value).getD 1 undef = x1 from rfl] at hx1
  rw [← hb, htag] at k1
  have c0 : w.cell? ⟨b, 0, none⟩ = some x0 := by rw [cell_of_row w b 0 _ _ _ k1]; rfl
  cases a with
  | true =>
    simp only [if_true] at hx0
    have e0 : x0 = .pointer (some ⟨b, 0, none⟩) := by
      cases hx0 with
      | pob _ _ _ _ b' k' g1 g2 g3 =>
        have := g3 (by rw [hμ, hver])
        rw [hμ] at this
        obtain ⟨rfl, rfl⟩ := this
        rw [hb]
    rw [e0] at c0
    refine (copyCheck_used b w c0).mono fun e w' ⟨h1, h2⟩ => ⟨_, h1, _, I, μ, by rw [h2]; exact hs, .tup _ _ _ rfl (fun k y hk => by simp at hk), fun i p hi => rfl⟩
  | false =>
    simp only [Bool.false_eq_true, if_false] at hx0
    have e0 : x0 = .pointer none := by cases hx0; rfl
    rw [e0] at c0
    refine (copyCheck_fresh b w c0 (by simp [World.shape?, k1]) (by simp [World.frozen?, k1])).mono fun e w' ⟨h1, h2⟩ => ?_
    rw [setCell_eq_setRow w b 0 _ _ _ _ k1] at h2
    subst h2
    obtain ⟨hx, hs'⟩ := hs.upd (grownBy_setRow w b (#[x0, x1].setIfInBounds 0 (.pointer (some ⟨b, 0, none⟩)))) [0, 777777, 44] (μ [0, 777777, 44]) (.cells [.pob [0, 777777, 44] 1 0, .osl [0, 777777, 44, 777777, 5] v 1 0 l.length])
      (.inr ⟨by rw [hμ, hb], by rw [hμ]; exact hB⟩) (.inr rfl) (fun _ => .inr ⟨by rw [hμ]; exact hB, rfl⟩) (fun _ => by rw [hμ]; simp [htag]) (fun hx => by
        rw [updM_self] at hx ⊢
        rw [hμ]
        refine ⟨#[.pointer (some ⟨b, 0, none⟩), x1], ?_, rfl, fun k y hk => ?_⟩
        · rw [← hb, htag]
          exact setRow_heap w b _ _ _ _ k1
        · match k, hk with
          | 0, hk =>
            cases hk
            exact ⟨rfl, .pob _ _ _ _ _ _ (Nat.le_refl _) (by rw [hμ, hver]; exact Nat.le_refl _) (fun _ => by rw [hμ, hb]; exact ⟨rfl, rfl⟩)⟩
          | 1, hk =>
            cases hk
            exact ⟨rfl, hx.rel hx1⟩)
    rw [updM_self, hμ, hver] at hs'
    refine ⟨_, h1, _, I, μ, hs', .tup _ _ _ rfl (fun k y hk => by simp at hk), fun i p hi => ?_⟩
    have : i = 0 := by omega
    subst this
    by_cases hp : p = [777777, 44]
    · subst hp; simp
    · rw [updF_ne (by simpa using hp)]
      simp [hp]
/-- Given up. -/
def bdX (v : Nat) : Fam := ⟨fun r p => if p = [777777, 44] then ⟨1, .none⟩ else if p = [777777, 44, 777777, 5] then ⟨v, .none⟩ else ⟨0, .none⟩, fun {g δ r r'} hg hd p => by
    by_cases h1 : p = [777777, 44]
    · rw [if_pos h1]; rfl
    · rw [if_neg h1]
      by_cases h2 : p = [777777, 44, 777777, 5]
      · rw [if_pos h2]; rfl
      · rw [if_neg h2]; rfl, fun {D r} hD p => by
    by_cases h1 : p = [777777, 44]
    · rw [if_pos h1]; trivial
    · rw [if_neg h1]
      by_cases h2 : p = [777777, 44, 777777, 5]
      · rw [if_pos h2]; trivial
      · rw [if_neg h2]; trivial⟩
theorem grownBy_freeze (w : World) (g n : Nat) : w.grownBy (w.drew.freeze ⟨g, 0, none⟩ n) (some g) := by
  unfold World.freeze
  split
  · exact ⟨rfl, rfl, rfl, Nat.le_refl _, fun _ _ _ => rfl⟩
  · refine ⟨rfl, rfl, rfl, ?_, fun k _ hk => ?_⟩
    · show w.heap.size ≤ (w.heap.modify g _).size
      rw [Array.size_modify]
      exact Nat.le_refl _
    · have : g ≠ k := fun e => hk (by rw [e])
      show (w.heap.modify g _)[k]? = w.heap[k]?
      rw [Array.getElem?_modify, if_neg this]
theorem bString_spec (l : List UInt8) (v : Nat) (h0 : l ≠ []) (hl63 : l.length ≤ 9223372036854775807) : SpecF Tryd.prog 17 (fun r => [bp r]) (bdF true l v) (fun _ => S l) (bdX v) := by
  refine ⟨famL_cons famA_pob famL_nil, famA_v, by kernel_rfl, fun w I M0 n μ vs hM hs hl hr => ?_⟩
  have hl0 : l.length ≠ 0 := by simpa using h0
  have hd : (ov 0 ((bdF true l v).F 0) (lkH []) : Hp) [0, 777777, 44] = ⟨1, .cells [.pob [0, 777777, 44] 1 0, .osl [0, 777777, 44, 777777, 5] v 1 0 l.length]⟩ := by simp
  have hd2 : (ov 0 ((bdF true l v).F 0) (lkH []) : Hp) [0, 777777, 44, 777777, 5] = ⟨v, .arr 1 (l.map u8v)⟩ := by simp
  have hob := hs.ob [0, 777777, 44]
  have hver := hs.ver [0, 777777, 44]
  rw [hd] at hob hver
  obtain ⟨cs, k1, k2, k3⟩ := hob
  have hob2 := hs.ob [0, 777777, 44, 777777, 5]
  have hver2 := hs.ver [0, 777777, 44, 777777, 5]
  rw [hd2] at hob2 hver2
  obtain ⟨q0, ⟨_, q1⟩ | ⟨q1, cur, q3, q4, q5, q6, q7⟩⟩ := hob2
  · exact (h0 (by simpa using q1)).elim
  have hB : hasB (μ [0, 777777, 44, 777777, 5]) ((ov 0 ((bdF true l v).F 0) (lkH []) : Hp) [0, 777777, 44, 777777, 5]).ob = true := by rw [hd2]; exact q1
  have htag := hs.tag _ hB
  simp only [tagOK_tag2, beq_iff_eq] at htag
  replace htag := htag.symm
  simp only [List.length_cons, List.length_nil] at k2
  have harg := hr 0 _ rfl
  have hv0 : vs.getD 0 undef = .pointer (some ⟨(μ [0, 777777, 44]).b, 0, none⟩) := by
    generalize vs.getD 0 undef = x at harg
    cases harg with
    | pob _ _ _ _ b' k' g1 g2 g3 =>
      obtain ⟨rfl, rfl⟩ := g3 hver.symm
      rfl
  generalize hb : (μ [0, 777777, 44]).b = b at k1 hv0
  have hvs : vs = #[.pointer (some ⟨b, 0, none⟩)] := by
    apply Array.ext
    · simpa using hl
    · intro i h1 h2
      have : i = 0 := by simp at h2; omega
      subst this
      have e : vs.getD 0 undef = vs[0] := by simp [h1]
      rw [← e, hv0]; rfl
  subst hvs
  have hx1 := (k3 1 _ rfl).2
  have hc1 : w.cell? ⟨b, 1, none⟩ = some (cs.getD 1 undef) := by
    rw [cell_of_row w b 1 _ _ _ k1]
    have : 1 < cs.size := by omega
    simp [this]
  generalize cs.getD 1 undef = x1 at hx1 hc1
  cases hx1 with
  | osl _ _ _ _ _ _ a cap g1 g2 g4 g5 g3 =>
    obtain ⟨_, ⟨e1, _⟩ | ⟨_, rfl, e3⟩⟩ := g3 hver2.symm
    · exact (hl0 e1).elim
    · simp only [Nat.zero_mul] at hc1
      have hflat : (l.map u8v).flatMap A.cells = l.map u8v := bytes_flat l
      have hcell : ∀ j x, l[j]? = some x → w.cell? ⟨(μ [0, 777777, 44, 777777, 5]).b, j, none⟩ = some (.int .u8 x.toNat) := fun j x hx => by
        have hlt := (List.getElem?_eq_some_iff.1 hx).1
        have h1 := (q7 j (u8v x) (by rw [hflat]; simp [hx])).2
        rw [cell_of_row w _ j _ _ _ q3]
        have hj : j < cur.size := by simp at q5; rw [q4]; omega
        have e : cur.getD j undef = cur[j] := by simp [hj]
        rw [e] at h1
        generalize hq : cur[j] = y at h1
        cases h1
        simp [hj, hq]
      have hsh : w.shape? (μ [0, 777777, 44, 777777, 5]).b = some (5, cur.size) := by simp [World.shape?, q3, htag]
      simp only [List.length_map] at q5
      refine (string_run b (μ [0, 777777, 44, 777777, 5]).b l cap w h0 hc1 cur.size hsh (by omega) g4 hl63 hcell).mono fun e w' ⟨h1, h2⟩ => ?_
      subst h2
      obtain ⟨hx, hs'⟩ := hs.upd (grownBy_freeze w (μ [0, 777777, 44, 777777, 5]).b l.length) [0, 777777, 44, 777777, 5] (μ [0, 777777, 44, 777777, 5]) .none (.inr ⟨rfl, hB⟩) (.inr rfl) (fun h => nomatch h) (fun h => nomatch h) (fun _ => trivial)
      rw [updM_self, hver2] at hs'
      have hs2 := hs'.drop [0, 777777, 44]
      refine ⟨_, h1, _, I, μ, hs2, .v _ _, fun i p hi => ?_⟩
      have : i = 0 := by omega
      subst this
      by_cases hp : p = [777777, 44]
      · subst hp
        simp [bdX, updF]
      · rw [updF_ne (by simpa using hp)]
        by_cases hp2 : p = [777777, 44, 777777, 5]
        · subst hp2
          simp [bdX]
        · rw [updF_ne (by simpa using hp2)]
          simp [bdX, hp, hp2]
theorem take_all {α β : Type} (l : List α) (f : α → β) : (l.map f).take l.length = l.map f := by rw [List.take_of_length_le (by simp)]
theorem bd_done {n : Nat} {c : Cx} {l : List UInt8} {v : Nat} {H : Hp} {p : Nm} (hp : H [0, 777777, 44] = ⟨1, .cells [.pob [0, 777777, 44] 1 0, .osl [0, 777777, 44, 777777, 5] v 1 0 l.length]⟩) (h2 : H [0, 777777, 44, 777777, 5] = ⟨v, .arr 1 (l.map u8v)⟩)
    (h3 : ∀ p, p ≠ [777777, 44] → p ≠ [777777, 44, 777777, 5] → H (0 :: p) = ⟨0, .none⟩) : H (0 :: p) = (bdF true l v).F 0 p := by
  rw [bdF_F]
  by_cases h1 : p = [777777, 44]
  · rw [if_pos h1, h1]; exact hp
  · rw [if_neg h1]
    by_cases hq : p = [777777, 44, 777777, 5]
    · rw [if_pos hq, hq]; exact h2
    · rw [if_neg hq]; exact h3 p h1 hq
theorem bByte_spec (a : Bool) (l : List UInt8) (v : Nat) (c : UInt8) (hl : l.length + 1 ≤ 140737488355328) : SpecF Tryd.prog 27 (fun r => [bp r, u8v c]) (bdF a l v) (fun _ => .v .nilIface) (bdF true (l ++ [c]) (v + 1)) := by
  refine specF_of t_strings_Builder_WriteByte (by simp) (famL_cons famA_pob (famL_cons famA_v famL_nil)) famA_v fun w0 I0 M0 m0 => ?_
  unfold c_strings_Builder_WriteByte
  simp
  refine sc_fam 0 (copyCheck_spec a l v) (fun p => by simp) (by simp) (by simp) ?_
  simp [updF_app, take_all, splice]
  refine ⟨by omega, reth_fam rfl rfl fun p => bd_done (n := 0) (c := cxh Tryd.prog w0 I0 M0 17 m0) (by simp [updF_app]) (by simp [updF_app]) (fun p h1 h2 => by simp [updF_app, h1, h2])⟩
theorem bStr_spec (a : Bool) (l : List UInt8) (v : Nat) (m : List UInt8) (hl : l.length + m.length ≤ 140737488355328) : SpecF Tryd.prog 25 (fun r => [bp r, S m]) (bdF a l v) (fun _ => .tup [.v (.int .i64 m.length), .v .nilIface]) (bdF true (l ++ m) (v + 1)) := by
  refine specF_of t_strings_Builder_WriteString (by simp) (famL_cons famA_pob (famL_cons famA_v famL_nil)) (famA_tup (famL_cons famA_v (famL_cons famA_v famL_nil))) fun w0 I0 M0 m0 => ?_
  unfold c_strings_Builder_WriteString
  simp
  refine sc_fam 0 (copyCheck_spec a l v) (fun p => by simp) (by simp) (by simp) ?_
  simp [updF_app, take_all, splice]
  refine ⟨by omega, reth_fam rfl rfl fun p => bd_done (n := 0) (c := cxh Tryd.prog w0 I0 M0 19 m0) (by simp [updF_app]) (by simp [updF_app]) (fun p h1 h2 => by simp [updF_app, h1, h2])⟩
end Go.Proofs.YtgimfagpolbelaaDoor

/-
  Chapter 4's functions: what each answers.
-/
namespace Go.Proofs.YtgimfagpolbelaaDoor
set_option linter.unusedVariables false
set_option linter.unusedSimpArgs false
open Go Go.G Go.Proofs
abbrev iv (n : Int) : A := .v (.int .i64 n)
abbrev uv (n : Int) : A := .v (.int .u64 n)
abbrev bv (b : Bool) : A := .v (.bool b)
theorem pow_half (w : Int) (m : Nat) : w / 2 / 2 ^ m = w / 2 ^ (m + 1) := by
  rw [Int.ediv_ediv_of_nonneg (by decide), Int.pow_succ, Int.mul_comm]
theorem i64_same {n : Int} (h0 : -9223372036854775808 ≤ n) (h1 : n < 9223372036854775808) : IntKind.i64.wrap n = n := by rw [IntKind.wrap_i64]; omega
theorem u64_same {n : Int} (h0 : 0 ≤ n) (h1 : n < 18446744073709551616) : IntKind.u64.wrap n = n := by rw [IntKind.wrap_u64]; omega
/-- A pointer, as numbers. -/
structure Pt where
  (kind off data ptrs code count seg : Int)
  dbl : Bool
deriving DecidableEq
@[simp] def Pt.a (p : Pt) : A := .agg [iv p.kind, iv p.off, iv p.data, iv p.ptrs, iv p.code, iv p.count, iv p.seg, bv p.dbl]
/-- The offset in a word's lower half. -/
def offs (w : Int) : Int := if w / 4 % 1073741824 < 536870912 then w / 4 % 1073741824 else w / 4 % 1073741824 - 1073741824
/-- A word's pointer. -/
def dec (w : Int) : Pt :=
  if w = 0 then ⟨0, 0, 0, 0, 0, 0, 0, false⟩
  else if w % 4 = 0 then ⟨1, offs w, w / 4294967296 % 65536, w / 281474976710656, 0, 0, 0, false⟩
  else if w % 4 = 1 then ⟨2, offs w, 0, 0, w / 4294967296 % 8, w / 34359738368, 0, false⟩
  else if w % 4 = 2 then ⟨3, w / 8 % 536870912, 0, 0, 0, 0, w / 4294967296, decide (w / 4 % 2 = 1)⟩
  else ⟨4, 0, 0, 0, 0, 0, 0, false⟩
end Go.Proofs.YtgimfagpolbelaaDoor

/-
  Plain: edits, which ones are right, their trees, and how many words they take.
-/
namespace Go.PL
set_option linter.unusedVariables false
set_option linter.unusedSimpArgs false
structure WE where
  at_ : Int
  mask : Int
  old : Int
  new : Int
mutual
inductive E where
  | mk (kind : Int) (old new : T) (words : List WE) (kids : List KE) (list : Int) (ops : List OP)
inductive KE where
  | mk (at_ : Int) (e : E)
inductive OP where
  | mk (kind n : Int) (l : List T) (e : E)
end
namespace E
def kind : E → Int | mk k _ _ _ _ _ _ => k
def old : E → T | mk _ o _ _ _ _ _ => o
def new : E → T | mk _ _ n _ _ _ _ => n
def words : E → List WE | mk _ _ _ w _ _ _ => w
def kids : E → List KE | mk _ _ _ _ k _ _ => k
def list : E → Int | mk _ _ _ _ _ l _ => l
def ops : E → List OP | mk _ _ _ _ _ _ o => o
variable {k l : Int} {o n : T} {w : List WE} {ks : List KE} {os : List OP}
@[simp] theorem kind_mk : (mk k o n w ks l os).kind = k := rfl
@[simp] theorem old_mk : (mk k o n w ks l os).old = o := rfl
@[simp] theorem new_mk : (mk k o n w ks l os).new = n := rfl
@[simp] theorem words_mk : (mk k o n w ks l os).words = w := rfl
@[simp] theorem kids_mk : (mk k o n w ks l os).kids = ks := rfl
@[simp] theorem list_mk : (mk k o n w ks l os).list = l := rfl
@[simp] theorem ops_mk : (mk k o n w ks l os).ops = os := rfl
end E
namespace KE
def at_ : KE → Int | mk a _ => a
def e : KE → E | mk _ e => e
@[simp] theorem at_mk {a : Int} {e : E} : (mk a e).at_ = a := rfl
@[simp] theorem e_mk {a : Int} {e : E} : (mk a e).e = e := rfl
end KE
namespace OP
def kind : OP → Int | mk k _ _ _ => k
def n : OP → Int | mk _ n _ _ => n
def l : OP → List T | mk _ _ l _ => l
def e : OP → E | mk _ _ _ e => e
variable {k m : Int} {t : List T} {x : E}
@[simp] theorem kind_mk : (mk k m t x).kind = k := rfl
@[simp] theorem n_mk : (mk k m t x).n = m := rfl
@[simp] theorem l_mk : (mk k m t x).l = t := rfl
@[simp] theorem e_mk : (mk k m t x).e = x := rfl
end OP
mutual
theorem E.ind {P : E → Prop} (h : ∀ k o n w ks l os, (∀ x, x ∈ ks → P x.e) → (∀ x, x ∈ os → P x.e) → P (.mk k o n w ks l os)) : ∀ e, P e
  | .mk k o n w ks l os => h k o n w ks l os (E.indK h ks) (E.indO h os)
theorem E.indK {P : E → Prop} (h : ∀ k o n w ks l os, (∀ x, x ∈ ks → P x.e) → (∀ x, x ∈ os → P x.e) → P (.mk k o n w ks l os)) : ∀ (ks : List KE), ∀ x, x ∈ ks → P x.e
  | [], _, hx => nomatch hx
  | .mk a e :: ks, x, hx => by
    rcases List.mem_cons.1 hx with q | hx
    · rw [q]; exact E.ind h e
    · exact E.indK h ks x hx
theorem E.indO {P : E → Prop} (h : ∀ k o n w ks l os, (∀ x, x ∈ ks → P x.e) → (∀ x, x ∈ os → P x.e) → P (.mk k o n w ks l os)) : ∀ (os : List OP), ∀ x, x ∈ os → P x.e
  | [], _, hx => nomatch hx
  | .mk a n l e :: os, x, hx => by
    rcases List.mem_cons.1 hx with q | hx
    · rw [q]; exact E.ind h e
    · exact E.indO h os x hx
end
/-! ### which edits are right -/
/- How many parts are left behind an edit; below 0: it has more, or is deeper. -/
/-! ### the tree of an edit -/
/-! ### how many words an edit takes -/
end Go.PL

/-
  Plain: what counts at the end of words and kids; what trees that mean the same have.
-/
namespace Go.PL
set_option linter.unusedVariables false
set_option linter.unusedSimpArgs false
theorem T.ext' {t u : T} (h1 : t.kind = u.kind) (h2 : t.words = u.words) (h3 : t.kids = u.kids) : t = u := by
  cases t; cases u; simp at h1 h2 h3; rw [h1, h2, h3]
/-- They are the same. -/
noncomputable def sameB (t u : T) : Bool := by classical exact decide (t = u)
theorem sameB_iff {t u : T} : sameB t u = true ↔ t = u := by simp [sameB]
end Go.PL

/-
  Trees and edits as the program's values.
-/
namespace Go.Proofs.YtgimfagpolbelaaDoor
set_option linter.unusedVariables false
set_option linter.unusedSimpArgs false
open Go Go.G Go.Proofs Go.PL
/-- A call that is not made. -/
theorem sc_call_off {P : Program} {K : Sta → Prop} {rest : List CO} {s : Nat → A} {H : Hp} {dd : Option Nat} {k : Nat} {f : Bool} {nm : Nm} {ix : Nat} {un : List Nat} {l : Bool} {lg : Lg} {g : FuncId} {aa : Array Operand} {ts : Array TypeId}
    (hq : wantA (s k) f = some false) (h : SeqC P K rest (addL l ix ⟨[], []⟩ lg) (Sta.put ⟨s, H⟩ dd (.v undef) H)) :
    SeqC P K (⟨dd, .call { callee := .value (.func g), args := aa, argTypes := ts }, some (k, f), nm, ix, un, l⟩ :: rest) lg ⟨s, H⟩ :=
  sc_call_g (q := false) (x := .any) hq (fun e => by cases e) h
abbrev uws (l : List Int) : A := .sl false (l.map uv)
abbrev u8 (n : Int) : A := .v (.int .u8 n)
mutual
def tC : T → List A
  | .mk k w l => [iv k, uws w, .sl false (tCs l)]
def tCs : List T → List A
  | [] => []
  | t :: l => .agg (tC t) :: tCs l
end
def tA (t : T) : A := .agg (tC t)
abbrev tKs (l : List T) : A := .sl false (l.map tA)
abbrev tX (t : T) : A := .agg [iv t.kind, uws t.words, tKs t.kids]
theorem tCs_map : ∀ l, tCs l = l.map tA
  | [] => by rw [tCs]; rfl
  | t :: l => by rw [tCs, tCs_map l]; rfl
theorem tC_eq (t : T) : tC t = [iv t.kind, uws t.words, tKs t.kids] := by cases t; rw [tC, tCs_map]; rfl
@[simp] theorem tA_eq (t : T) : tA t = tX t := by rw [tA, tC_eq]
@[simp] theorem lens_uv (l : List Int) : lens 1 (l.map uv) = true := by simp [lens]
@[simp] theorem lens_iv (l : List Int) : lens 1 (l.map iv) = true := by simp [lens]
@[simp] theorem lens_tA (l : List T) : lens 3 (l.map tA) = true := by simp [lens]
theorem lens_all {n : Nat} {l : List A} : lens n l = true ↔ ∀ x, x ∈ l → x.cells.length = n := by simp [lens]
@[simp] theorem lens_take {n k : Nat} {l : List A} (h : lens n l = true) : lens n (l.take k) = true := by
  rw [lens_all] at h ⊢
  exact fun x hx => h x (List.mem_of_mem_take hx)
@[simp] theorem lens_drop {n k : Nat} {l : List A} (h : lens n l = true) : lens n (l.drop k) = true := by
  rw [lens_all] at h ⊢
  exact fun x hx => h x (List.mem_of_mem_drop hx)
/-- A row of the call's own, read. -/
theorem frz_row {α : Type} {H : Hp} {o : Nm} {u n sz : Nat} {l : List α} {f : α → A} (h : vr (H o) u = some (sz, l.map f)) (hn : n = l.length) (hf : ∀ x, ((f x).cells.length == sz && (f x).cells.all fun y => A.bare1 y && y.one) = true) : Frz H (.osl o u sz 0 n) (.sl false (l.map f)) := by
  subst hn
  have := frz_osl (H := H) (o := o) (u := u) (off := 0) (len := l.length) (sz := sz) (xs := l.map f) (by simpa using h) (by simp) (by
    simp only [List.drop_zero]
    rw [List.take_of_length_le (by simp), List.all_map, List.all_eq_true]
    exact fun x _ => hf x)
  simp [List.take_of_length_le] at this
  exact this
theorem frz_T0 {H : Hp} : Frz H (.agg [iv 0, .sl true [], .sl true []]) (tX T0) := frz_agg (by simp; exact ⟨frz_bare rfl, frz_sl, frz_sl⟩)
/-! ### sums, whatever is turned round -/
/-! ### sizes that memory has -/
def i64R (n : Int) : Prop := -9223372036854775808 ≤ n ∧ n < 9223372036854775808
def u64R (n : Int) : Prop := 0 ≤ n ∧ n < 18446744073709551616
mutual
def wfT : T → Prop
  | .mk k w l => i64R k ∧ (∀ x, x ∈ w → u64R x) ∧ w.length * 8 ≤ 140737488355328 ∧ l.length * 56 ≤ 140737488355328 ∧ wfTs l
def wfTs : List T → Prop
  | [] => True
  | t :: l => wfT t ∧ wfTs l
end
theorem wfTs_all : ∀ {l : List T}, wfTs l ↔ ∀ t, t ∈ l → wfT t
  | [] => by simp [wfTs]
  | t :: l => by simp [wfTs, wfTs_all (l := l)]
structure WfT (t : T) : Prop where
  k : i64R t.kind
  w : ∀ x, x ∈ t.words → u64R x
  wl : t.words.length * 8 ≤ 140737488355328
  kl : t.kids.length * 56 ≤ 140737488355328
  ks : ∀ x, x ∈ t.kids → wfT x
theorem wfT_iff {t : T} : wfT t ↔ WfT t := by
  cases t; rw [wfT, wfTs_all]
  exact ⟨fun ⟨a, b, c, d, e⟩ => ⟨a, b, c, d, e⟩, fun ⟨a, b, c, d, e⟩ => ⟨a, b, c, d, e⟩⟩
def WE.wf (w : WE) : Prop := i64R w.at_ ∧ (0 ≤ w.mask ∧ w.mask < 256) ∧ u64R w.old ∧ u64R w.new
end Go.Proofs.YtgimfagpolbelaaDoor
