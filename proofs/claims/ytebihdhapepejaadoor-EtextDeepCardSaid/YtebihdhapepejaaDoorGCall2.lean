/-
  The caller's rule for a call that turns its objects; families of objects below a root.
-/
import Derived.Test.YtebihdhapepejaaDoorGCall
import Derived.Test.YtebihdhapepejaaDoorGOpen
namespace Go.G
set_option linter.unusedVariables false
set_option linter.unusedSimpArgs false
open Go.RowKit

@[simp] theorem minmaxA_max {k k' : IntKind} {x y : Int} : minmaxA true [.v (.int k x), .v (.int k' y)] = some (.v (.int k (max x y))) := by
  simp only [minmaxA, if_true]
  congr 3
  split <;> omega
@[simp] theorem minmaxA_min {k k' : IntKind} {x y : Int} : minmaxA false [.v (.int k x), .v (.int k' y)] = some (.v (.int k (min x y))) := by
  simp only [minmaxA, Bool.false_eq_true, if_false]
  congr 3
  split <;> omega

/-! ### families -/
/-- Below a root stands a family of objects. -/
def ov (r : Nat) (F : Nm → VOb) (H : Hp) : Hp
  | j :: p => if j = r then F p else H (j :: p)
  | [] => H []
@[simp] theorem ov_cons {r j : Nat} {p : Nm} {F : Nm → VOb} {H : Hp} : ov r F H (j :: p) = if j = r then F p else H (j :: p) := rfl
@[simp] theorem ov_nil {r : Nat} {F : Nm → VOb} {H : Hp} : ov r F H [] = H [] := rfl
@[simp] theorem updF_ov {r j : Nat} {p : Nm} {F : Nm → VOb} {H : Hp} {x : VOb} : updF (ov r F H) (j :: p) x = if j = r then ov r (updF F p x) H else ov r F (updF H (j :: p) x) := by
  funext o
  cases o with
  | nil =>
    by_cases h : j = r
    · rw [if_pos h]; simp [updF]
    · rw [if_neg h]; simp [updF]
  | cons k q =>
    by_cases h : j = r
    · subst h
      rw [if_pos rfl]
      by_cases hk : k = j
      · subst hk; simp [updF]
      · have : ¬ k :: q = j :: p := fun e => hk (by injection e)
        simp [updF, hk, this]
    · rw [if_neg h]
      by_cases hk : k = r
      · subst hk
        have : ¬ k :: q = j :: p := fun e => h (by injection e with e _; exact e.symm)
        simp [updF, this]
      · simp [updF, hk]
theorem updF_app {α : Type} {F : Nm → α} {d o : Nm} {x : α} : updF F d x o = if o = d then x else F o := rfl
theorem updF_is {α : Type} {F G : Nm → α} {d p : Nm} {x : α} (h : x = G d) (k : p ≠ d → F p = G p) : updF F d x p = G p := by
  rw [updF_app]
  split
  · rename_i e; rw [e]; exact h
  · exact k (by assumption)
theorem ov_eq {r : Nat} {F F' : Nm → VOb} {H : Hp} (h : ∀ p, F p = F' p) : ov r F H = ov r F' H := by rw [funext h]

/-! ### in -/
def inHp (rs : List Nat) (m : Nat) (H : Hp) : Hp
  | i :: p => if i < m then (H (rs.getD i 0 :: p)).ren (dnN rs) (fun _ => 0) 0 else ⟨0, .none⟩
  | [] => ⟨0, .none⟩
def inL (rs : List Nat) (m : Nat) : List (Nm × VOb) → List (Nm × VOb)
  | [] => []
  | ([], _) :: l => inL rs m l
  | (j :: p, x) :: l => if rs.idxOf j < m then (rs.idxOf j :: p, x.ren (dnN rs) (fun _ => 0) 0) :: inL rs m l else inL rs m l
theorem ren_none {g : Nm → Nm} {δ : Nm → Nat} {d : Nat} : VOb.ren g δ d ⟨0, .none⟩ = ⟨d, .none⟩ := by simp [VOb.ren, Ob.ren]
theorem inHp_lkH {rs : List Nat} {m : Nat} (hnd : rs.Nodup) (hm : m ≤ rs.length) : ∀ l : List (Nm × VOb), inHp rs m (lkH l) = lkH (inL rs m l)
  | [] => by
    funext o
    cases o with
    | nil => rfl
    | cons i p => simp only [inHp, inL, lkH_nil, ren_none]; split <;> rfl
  | ([], x) :: l => by
    rw [inL, ← inHp_lkH hnd hm l]
    funext o
    cases o with
    | nil => rfl
    | cons i p => simp [inHp, lkH_cons]
  | (j :: q, x) :: l => by
    have ih := inHp_lkH hnd hm l
    funext o
    have ih := congrFun ih o
    cases o with
    | nil =>
      simp only [inHp] at ih ⊢
      rw [inL]
      split
      · simpa [lkH_cons] using ih
      · exact ih
    | cons i p =>
      simp only [inHp] at ih ⊢
      rw [inL]
      by_cases hi : i < m
      · rw [if_pos hi] at ih ⊢
        rw [lkH_cons]
        by_cases hj : j :: q = rs.getD i 0 :: p
        · have e1 : j = rs.getD i 0 := by injection hj
          have e2 : q = p := by injection hj
          subst e2
          rw [if_pos hj]
          have e3 : rs.idxOf j = i := by rw [e1, idx_getD hnd (by omega)]
          rw [if_pos (by omega), lkH_cons, e3, if_pos rfl]
        · rw [if_neg hj, ih]
          split
          · rename_i hlt
            rw [lkH_cons, if_neg]
            intro e
            have e1 : rs.idxOf j = i := by injection e
            have e2 : q = p := by injection e
            refine hj ?_
            rw [← e1, getD_idx (idx_mem.1 (by omega)), e2]
          · rfl
      · rw [if_neg hi] at ih ⊢
        split
        · rename_i hlt
          rw [lkH_cons, if_neg (fun e => hi (by injection e with e _; omega))]
          exact ih
        · exact ih
theorem inHp_ov {rs : List Nat} {m : Nat} (hnd : rs.Nodup) (hm : m ≤ rs.length) {r : Nat} {F : Nm → VOb} {H : Hp} :
    inHp rs m (ov r F H) = if rs.idxOf r < m then ov (rs.idxOf r) (fun p => (F p).ren (dnN rs) (fun _ => 0) 0) (inHp rs m H) else inHp rs m H := by
  funext o
  cases o with
  | nil => split <;> simp [inHp]
  | cons i p =>
    by_cases hr : rs.idxOf r < m
    · rw [if_pos hr]
      by_cases hi : i < m
      · simp only [inHp, if_pos hi, ov_cons]
        by_cases e : rs.getD i 0 = r
        · have : i = rs.idxOf r := by rw [← e, idx_getD hnd (by omega)]
          rw [if_pos e, if_pos this]
        · have : ¬ i = rs.idxOf r := fun h => e (by rw [h, getD_idx (idx_mem.1 (by omega))])
          rw [if_neg e, if_neg this]
      · have : ¬ i = rs.idxOf r := by omega
        simp [inHp, hi, this]
    · rw [if_neg hr]
      by_cases hi : i < m
      · have e : ¬ rs.getD i 0 = r := fun e => hr (by rw [← e, idx_getD hnd (by omega)]; exact hi)
        simp only [inHp, if_pos hi, ov_cons, if_neg e]
      · simp [inHp, hi]

/-! ### out -/
def outG (rs : List Nat) (δ : Nm → Nat) (B Hr : Hp) : Hp
  | j :: p => if rs.contains j = true then (Hr (rs.idxOf j :: p)).ren (upN rs) δ (δ (rs.idxOf j :: p)) else B (j :: p)
  | [] => B []
theorem app_outH {rs : List Nat} {m : Nat} {H Hr : Hp} : (Eff.fn rs (outH rs m H Hr)).app H = outG rs (dlt rs m H) H Hr := by
  funext o
  cases o <;> rfl
theorem outG_fam {rs : List Nat} (hnd : rs.Nodup) {δ : Nm → Nat} {B Hr : Hp} {i : Nat} {F : Nm → VOb} (hi : i < rs.length) :
    outG rs δ B (ov i F Hr) = ov (rs.getD i 0) (fun p => (F p).ren (upN rs) δ (δ (i :: p))) (outG rs δ B Hr) := by
  funext o
  cases o with
  | nil => rfl
  | cons j p =>
    by_cases hj : j ∈ rs
    · simp only [outG, List.contains_iff_mem, if_pos hj, ov_cons]
      by_cases e : rs.idxOf j = i
      · have : j = rs.getD i 0 := by rw [← e, getD_idx hj]
        rw [if_pos e, if_pos this, e]
      · have : ¬ j = rs.getD i 0 := fun h => e (by rw [h, idx_getD hnd hi])
        rw [if_neg e, if_neg this]
    · have : ¬ j = rs.getD i 0 := fun h => hj (by rw [h]; simp [List.getD, hi])
      rw [ov_cons, if_neg this]
      simp [outG, hj]
theorem outG_base {rs : List Nat} {δ : Nm → Nat} {B Hr : Hp} {r : Nat} {F : Nm → VOb} :
    outG rs δ (ov r F B) Hr = if rs.contains r = true then outG rs δ B Hr else ov r F (outG rs δ B Hr) := by
  funext o
  cases o with
  | nil => split <;> rfl
  | cons j p =>
    by_cases hr : r ∈ rs
    · rw [if_pos (by simpa using hr)]
      by_cases hj : j ∈ rs
      · simp [outG, hj]
      · have : ¬ j = r := fun e => hj (by rw [e]; exact hr)
        simp [outG, hj, this]
    · rw [if_neg (by simpa using hr)]
      by_cases hj : j ∈ rs
      · have : ¬ j = r := fun e => hr (by rw [← e]; exact hj)
        simp [outG, hj, this]
      · simp [outG, hj]
/-- Of lists: what the callee left, then the others; of a root for what is new the versions stay. -/
def outE (rs : List Nat) (δ : Nm → Nat) : List (Nm × VOb) → List (Nm × VOb)
  | [] => []
  | ([], _) :: l => outE rs δ l
  | (i :: p, x) :: l => (rs.getD i 0 :: p, x.ren (upN rs) δ (δ (i :: p))) :: outE rs δ l
def restL (rs : List Nat) (m : Nat) : List (Nm × VOb) → List (Nm × VOb)
  | [] => []
  | ([], x) :: l => ([], x) :: restL rs m l
  | (j :: p, x) :: l => if rs.contains j = true then (if rs.idxOf j < m then restL rs m l else (j :: p, ⟨x.u, .none⟩) :: restL rs m l) else (j :: p, x) :: restL rs m l
theorem restL_out {rs : List Nat} {m : Nat} : ∀ (l : List (Nm × VOb)) {j : Nat} {p : Nm}, j ∉ rs → lkH (restL rs m l) (j :: p) = lkH l (j :: p)
  | [], _, _, _ => rfl
  | ([], x) :: l, j, p, h => by simp [restL, lkH_cons, restL_out l h]
  | (k :: q, x) :: l, j, p, h => by
    have ih := restL_out (m := m) l (p := p) h
    rw [restL]
    by_cases hk : k ∈ rs
    · have hne : ¬ k :: q = j :: p := fun e => h (by injection e with e _; rw [← e]; exact hk)
      rw [if_pos (by simpa using hk)]
      split
      · rw [ih, lkH_cons, if_neg hne]
      · rw [lkH_cons, if_neg hne, ih, lkH_cons, if_neg hne]
    · rw [if_neg (by simpa using hk), lkH_cons, ih, lkH_cons]
theorem restL_nil {rs : List Nat} {m : Nat} : ∀ (l : List (Nm × VOb)), lkH (restL rs m l) [] = lkH l []
  | [] => rfl
  | ([], x) :: l => by simp [restL, lkH_cons]
  | (k :: q, x) :: l => by
    have ih := restL_nil (rs := rs) (m := m) l
    rw [restL]
    split
    · split
      · rw [ih]; simp
      · rw [lkH_cons, if_neg (by simp), ih]; simp
    · rw [lkH_cons, if_neg (by simp), ih]; simp
theorem restL_in {rs : List Nat} {m : Nat} : ∀ (l : List (Nm × VOb)) {j : Nat} {p : Nm}, j ∈ rs → lkH (restL rs m l) (j :: p) = ⟨if rs.idxOf j < m then 0 else (lkH l (j :: p)).u, .none⟩
  | [], _, _, _ => by simp [restL]
  | ([], x) :: l, j, p, h => by simp [restL, lkH_cons, restL_in l h]
  | (k :: q, x) :: l, j, p, h => by
    have ih := restL_in (m := m) l (p := p) h
    rw [restL]
    by_cases hk : k ∈ rs
    · rw [if_pos (by simpa using hk)]
      by_cases hm : rs.idxOf k < m
      · rw [if_pos hm, ih, lkH_cons]
        by_cases hj : rs.idxOf j < m
        · rw [if_pos hj, if_pos hj]
        · have hne : ¬ k :: q = j :: p := fun e => hj (by injection e with e _; rw [← e]; exact hm)
          rw [if_neg hj, if_neg hj, if_neg hne]
      · rw [if_neg hm, lkH_cons, lkH_cons]
        by_cases e : k :: q = j :: p
        · have e1 : k = j := by injection e
          rw [if_pos e, if_pos e, if_neg (by rw [← e1]; exact hm)]
        · rw [if_neg e, if_neg e, ih]
    · have hne : ¬ k :: q = j :: p := fun e => hk (by injection e with e _; rw [e]; exact h)
      rw [if_neg (by simpa using hk), lkH_cons, if_neg hne, ih, lkH_cons, if_neg hne]
theorem outE_in {rs : List Nat} {δ : Nm → Nat} (hnd : rs.Nodup) {j : Nat} {p : Nm} (hj : j ∈ rs) {R : List (Nm × VOb)} : ∀ (l : List (Nm × VOb)), (∀ e, e ∈ l → ∃ i q, e.1 = i :: q ∧ i < rs.length) →
    lkH (outE rs δ l ++ R) (j :: p) = if l.any (fun e => e.1 == rs.idxOf j :: p) = true then (lkH l (rs.idxOf j :: p)).ren (upN rs) δ (δ (rs.idxOf j :: p)) else lkH R (j :: p)
  | [], _ => by simp [outE]
  | ([], x) :: l, h => by obtain ⟨i, q, e, _⟩ := h _ List.mem_cons_self; cases e
  | (i :: q, x) :: l, h => by
    have ih := outE_in (δ := δ) hnd (p := p) hj (R := R) l (fun e he => h e (List.mem_cons_of_mem _ he))
    obtain ⟨i', q', e, hi⟩ := h _ List.mem_cons_self
    cases e
    rw [outE, List.cons_append, lkH_cons]
    by_cases e : i :: q = rs.idxOf j :: p
    · have e1 : i = rs.idxOf j := by injection e
      have e2 : q = p := by injection e
      subst e1 e2
      rw [if_pos (by rw [getD_idx hj])]
      simp
    · have e' : ¬ rs.getD i 0 :: q = j :: p := fun h => e (by
        have e1 : rs.getD i 0 = j := by injection h
        have e2 : q = p := by injection h
        rw [← e1, idx_getD hnd hi, e2])
      rw [if_neg e', ih]
      simp only [List.any_cons, beq_iff_eq, lkH_cons, if_neg e]
      have : ((i :: q == rs.idxOf j :: p) || l.any fun e => e.1 == rs.idxOf j :: p) = l.any fun e => e.1 == rs.idxOf j :: p := by
        rw [beq_eq_false_iff_ne.2 e, Bool.false_or]
      rw [this]
theorem outE_out {rs : List Nat} {δ : Nm → Nat} {R : List (Nm × VOb)} {o : Nm} (ho : ∀ j p, o = j :: p → j ∉ rs) : ∀ (l : List (Nm × VOb)), (∀ e, e ∈ l → ∃ i q, e.1 = i :: q ∧ i < rs.length) → lkH (outE rs δ l ++ R) o = lkH R o
  | [], _ => rfl
  | ([], x) :: l, h => by obtain ⟨i, q, e, _⟩ := h _ List.mem_cons_self; cases e
  | (i :: q, x) :: l, h => by
    obtain ⟨i', q', e, hi⟩ := h _ List.mem_cons_self
    cases e
    rw [outE, List.cons_append, lkH_cons, if_neg, outE_out ho l (fun e he => h e (List.mem_cons_of_mem _ he))]
    intro e
    refine ho _ _ e.symm ?_
    simp [List.getD, hi]
theorem lkH_notin : ∀ {l : List (Nm × VOb)} {o : Nm}, l.any (fun e => e.1 == o) = false → lkH l o = ⟨0, .none⟩
  | [], _, _ => by rfl
  | (k, x) :: l, o, h => by
    simp only [List.any_cons, Bool.or_eq_false_iff, beq_eq_false_iff_ne] at h
    rw [lkH_cons, if_neg h.1, lkH_notin h.2]
theorem outG_lkH {rs : List Nat} {m : Nat} (hnd : rs.Nodup) {H : Hp} {l lr : List (Nm × VOb)} (hl : ∀ e, e ∈ lr → ∃ i q, e.1 = i :: q ∧ i < rs.length) (hH : ∀ j p, j ∈ rs → m ≤ rs.idxOf j → (H (j :: p)).u = (lkH l (j :: p)).u) :
    outG rs (dlt rs m H) (lkH l) (lkH lr) = lkH (outE rs (dlt rs m H) lr ++ restL rs m l) := by
  funext o
  cases o with
  | nil => rw [outE_out (fun j p e => by cases e) lr hl, restL_nil]; rfl
  | cons j p =>
    by_cases hj : j ∈ rs
    · simp only [outG, List.contains_iff_mem, if_pos hj]
      rw [outE_in hnd hj lr hl]
      cases ha : lr.any (fun e => e.1 == rs.idxOf j :: p) with
      | true => simp
      | false =>
        rw [lkH_notin ha, ren_none, restL_in l hj]
        simp only [Bool.false_eq_true, if_false, dlt, getD_idx hj]
        by_cases hm : rs.idxOf j < m
        · simp [hm]
        · rw [if_neg hm, if_neg hm, if_pos (idx_mem.2 hj), hH j p hj (by omega)]
    · rw [outE_out (fun j' p' e => by cases e; exact hj) lr hl, restL_out l hj]
      simp [outG, hj]

/-! ### a nil slice in a row -/
theorem le_blankR {c : Cx} {s : Nat → A} {H : Hp} {d : Nm} {u : Nat} {xs : List A} (i : Nat) (d' : Nm) (sz : Nat) (hd : H d = ⟨u, .arr 1 xs⟩) (hi : xs[i]? = some (.sl true [])) (hne : d ≠ d') :
    Le c ⟨s, H⟩ ⟨s, updF (updF H d' ⟨(H d').u + 1, .arr sz []⟩) d ⟨u, .arr 1 (xs.set i (.osl d' ((H d').u + 1) sz 0 0))⟩⟩ := fun a w I μ hs => by
  obtain ⟨hx, hs'⟩ := hs.sim.upd (grownBy_refl w none) d' ⟨(H d').u + 1, false, 0, 0, sz, 0⟩ (.arr sz []) (.inl rfl) (.inl (by rw [hs.sim.ver]; exact Nat.lt_succ_self _)) (fun h => nomatch h) (fun h => nomatch h) (fun hx => ⟨rfl, .inl ⟨rfl, rfl⟩⟩)
  have hd1 : (updF H d' ⟨(H d').u + 1, .arr sz []⟩ : Hp) d = ⟨u, .arr 1 xs⟩ := by rw [updF_ne hne]; exact hd
  have hob := hs'.ob d
  rw [hd1] at hob
  obtain ⟨k0, ⟨_, k2⟩ | ⟨k1, vs, k2, k3, k4, k5, k6⟩⟩ := hob
  · subst k2; simp at hi
  have hB : hasB (updF μ d' ⟨(H d').u + 1, false, 0, 0, sz, 0⟩ d) ((updF H d' ⟨(H d').u + 1, .arr sz []⟩ : Hp) d).ob = true := by rw [hd1]; exact k1
  have hlt : i < xs.length := (List.getElem?_eq_some_iff.1 hi).1
  obtain ⟨hx2, hs2⟩ := hs'.upd (grownBy_refl w none) d (updF μ d' ⟨(H d').u + 1, false, 0, 0, sz, 0⟩ d) (.arr 1 (xs.set i (.osl d' ((H d').u + 1) sz 0 0))) (.inl rfl) (.inr rfl) (fun _ => .inr ⟨hB, rfl⟩) (fun _ => hs'.tag _ hB) (fun hx2 => by
    have hlen : ∀ x, x ∈ xs.set i (.osl d' ((H d').u + 1) sz 0 0) → x.cells.length = 1 := fun x hx => by
      rcases List.mem_or_eq_of_mem_set hx with h | rfl
      · exact k5 x h
      · rfl
    refine ⟨k0, .inr ⟨k1, vs, k2, k3, by simpa using k4, hlen, fun k y hk => ?_⟩⟩
    rw [updM_self]
    obtain ⟨x, hx, hy⟩ := flat_inv (sz := 1) (by decide) hlen hk
    simp only [Nat.div_one, Nat.mod_one] at hx hy
    by_cases hki : k = i
    · subst hki
      rw [List.getElem?_set_self hlt] at hx
      cases hx
      simp [A.cells] at hy
      subst hy
      have := k6 k (.sl true []) (by
        have := flat_get (sz := 1) (i := k) (j := 0) (x := .sl true []) (y := .sl true []) k5 hi rfl
        simpa using this)
      exact ⟨rfl, blank_rel this.2 (by simp) (by omega) (by simp)⟩
    · rw [List.getElem?_set_ne (Ne.symm hki)] at hx
      refine k6 k y ?_
      have := flat_get (sz := 1) (i := k) (j := 0) k5 hx hy
      simpa using this)
  have hu : (updF μ d' ⟨(H d').u + 1, false, 0, 0, sz, 0⟩ d).u = u := by rw [hs'.ver, hd1]
  rw [hu] at hs2
  exact ⟨I, _, hs2, hs.size, hs.defers, fun t => hx2.rel (hx.rel (hs.rel t))⟩

/-! ### borrowing -/
theorem Spec.toB {P : Program} {f : FuncId} {args : List A} {r : A} (h : Spec P f args r) (hr : r.flat = true) : SpecB P f args r :=
  ⟨h.1, fun w I J vs hI hJ ht hl ha => (h.2 w (fun b => I b ∨ J b) vs (fun b hb => hb.elim (hI b) (hJ b)) (ht.mono (fun _ h => .inl h) (fun _ _ => rfl)) hl ha).mono fun e w' ⟨v, he, hB, hr'⟩ => ⟨v, he, hB, hr'.of_flat hr⟩⟩
theorem sc_callb_g {P : Program} {K : Kont} {rest : List CO} {s : Nat → A} {H : Hp} {dd : Option Nat} {k : Nat} {f q : Bool} {nm : Nm} {ix : Nat} {un : List Nat} {l : Bool} {lg : Lg} {g : FuncId} {as : Array Operand} {ts : Array TypeId} {x : A} (as' : List A)
    (hq : wantA (s k) f = some q) (hs : q = true → SpecB P g as' x) (hf : q = true → FrzL H (as.toList.map (evs s)) as') (hc : Ck un lg (fg q ⟨[([], true)], []⟩))
    (h : SeqC P K rest (addL l ix (fg q ⟨[([], true)], []⟩) lg) (Sta.put ⟨s, H⟩ dd (gd q x) H)) :
    SeqC P K (⟨dd, .call { callee := .value (.func g), args := as, argTypes := ts }, some (k, f), nm, ix, un, l⟩ :: rest) lg ⟨s, H⟩ :=
  ⟨_, .nil, fg q ⟨[([], true)], []⟩, ⟨q, x, hq, fun e => ⟨g, [], [], rfl, .inl (.inr (.inl ⟨⟨as', by simpa using hf e, hs e⟩, rfl, by rw [e]; rfl, by rw [e]; rfl⟩))⟩, rfl, fun e => by rw [e]; exact ⟨rfl, rfl, rfl⟩⟩, hc, h⟩
theorem sc_callb_gt {P : Program} {K : Kont} {rest : List CO} {s : Nat → A} {H : Hp} {dd : Option Nat} {k : Nat} {q : Bool} {nm : Nm} {ix : Nat} {un : List Nat} {l : Bool} {lg : Lg} {g : FuncId} {as : Array Operand} {ts : Array TypeId} {x : A} (as' : List A)
    (hq : s k = .v (.bool q)) (hs : q = true → SpecB P g as' x) (hf : q = true → FrzL H (as.toList.map (evs s)) as') (hc : Ck un lg (fg q ⟨[([], true)], []⟩))
    (h : SeqC P K rest (addL l ix (fg q ⟨[([], true)], []⟩) lg) (Sta.put ⟨s, H⟩ dd (gd q x) H)) :
    SeqC P K (⟨dd, .call { callee := .value (.func g), args := as, argTypes := ts }, some (k, true), nm, ix, un, l⟩ :: rest) lg ⟨s, H⟩ :=
  sc_callb_g as' (by rw [hq]; cases q <;> rfl) hs hf hc h
theorem sc_callb_gf {P : Program} {K : Kont} {rest : List CO} {s : Nat → A} {H : Hp} {dd : Option Nat} {k : Nat} {q : Bool} {nm : Nm} {ix : Nat} {un : List Nat} {l : Bool} {lg : Lg} {g : FuncId} {as : Array Operand} {ts : Array TypeId} {x : A} (as' : List A)
    (hq : s k = .v (.bool q)) (hs : q = false → SpecB P g as' x) (hf : q = false → FrzL H (as.toList.map (evs s)) as') (hc : Ck un lg (fg (ng q) ⟨[([], true)], []⟩))
    (h : SeqC P K rest (addL l ix (fg (ng q) ⟨[([], true)], []⟩) lg) (Sta.put ⟨s, H⟩ dd (gd (ng q) x) H)) :
    SeqC P K (⟨dd, .call { callee := .value (.func g), args := as, argTypes := ts }, some (k, false), nm, ix, un, l⟩ :: rest) lg ⟨s, H⟩ :=
  sc_callb_g as' (q := ng q) (by rw [hq]; cases q <;> rfl) (fun e => hs (by simpa using e)) (fun e => hf (by simpa using e)) hc h

/-! ### the caller's rule -/
/-- What the objects of these roots point to lies there, too. -/
def ClosedH (rs : List Nat) (m : Nat) (H : Hp) : Prop := ∀ (j : Nat) (p : Nm), rs.idxOf j < m → (H (j :: p)).ob.refs (inS rs m)
theorem sc_callH {P : Program} {K : Kont} {rest : List CO} {s : Nat → A} {H : Hp} {dd : Option Nat} {nm : Nm} {ix : Nat} {un : List Nat} {l : Bool} {lg : Lg} {g : FuncId} {as : Array Operand} {ts : Array TypeId}
    (rs : List Nat) (m : Nat) {args : List A} {Hc Hr H' : Hp} {r x : A} (hS : SpecH P g rs.length args Hc r Hr) (hnd : rs.Nodup) (hm : m ≤ rs.length)
    (ha : A.renL (dnN rs) (fun _ => 0) (as.toList.map (evs s)) = args) (har : A.refsL (inS rs m) (as.toList.map (evs s))) (hH : inHp rs m H = Hc) (hcl : ClosedH rs m H)
    (hr : r.refs (outS rs.length)) (ho : ∀ (i : Nat) (p : Nm), i < rs.length → (Hr (i :: p)).ob.refs (outS rs.length)) (hv : ∀ (i : Nat) (p : Nm), m ≤ i → i < rs.length → (Hr (i :: p)).ob = .none ∨ 1 ≤ (Hr (i :: p)).u)
    (hx : r.ren (upN rs) (dlt rs m H) = x) (hH' : outG rs (dlt rs m H) H Hr = H') (hck : Ck un lg ⟨[], rs.map fun r => ([r], true)⟩)
    (h : SeqC P K rest (addL l ix ⟨[], rs.map fun r => ([r], true)⟩ lg) (Sta.put ⟨s, H⟩ dd x H')) :
    SeqC P K (⟨dd, .call { callee := .value (.func g), args := as, argTypes := ts }, none, nm, ix, un, l⟩ :: rest) lg ⟨s, H⟩ := by
  have hit_in : ∀ {j : Nat} {p : Nm}, j ∈ rs → hit (rs.map fun r => ([r], true)) (j :: p) = true := fun {j p} hj => by
    simp only [hit, List.any_map, List.any_eq_true]
    exact ⟨j, hj, by simp [hit1, List.isPrefixOf]⟩
  have hnil : (Eff.fn rs (outH rs m H Hr)).app H = H' := by rw [app_outH]; exact hH'
  subst hx
  rw [← hnil] at h
  refine sc_callh (Eff.fn rs (outH rs m H Hr)) [] (rs.map fun r => ([r], true)) (fun H2 hag => ?_) (fun o H2 ho' => ?_) hck h
  · have ag : ∀ {j : Nat} {p : Nm}, j ∈ rs → H2 (j :: p) = H (j :: p) := fun {j p} hj => hag _ (by simpa using hit_in hj)
    have agi : ∀ {i : Nat} {p : Nm}, i < rs.length → H2 (rs.getD i 0 :: p) = H (rs.getD i 0 :: p) := fun {i p} hi => ag (by simp [List.getD, hi])
    have hd : dlt rs m H2 = dlt rs m H := by
      funext o
      cases o with
      | nil => rfl
      | cons i p =>
        simp only [dlt]
        by_cases hi : i < rs.length
        · rw [agi hi]
        · rw [if_neg hi, if_neg hi]
    have hoH : outH rs m H2 Hr = outH rs m H Hr := by
      funext o
      cases o with
      | nil => rfl
      | cons j p => simp only [outH, hd]
    subst ha
    have := callOK_of (P := P) (f := g) (rs := rs) (m := m) (args := as.toList.map (evs s)) (Hc := Hc) (Hr := Hr) (r := r) (H := H2) hnd hm hS
      (fun i p hi => by rw [← hH, agi (by omega)]; simp only [inHp, if_pos hi]) (fun i p hi => by rw [← hH]; simp only [inHp]; rw [if_neg (by omega)]) (by rw [← hH]; rfl) har
      (fun i p hi => by rw [agi (by omega)]; exact hcl _ _ (by rw [idx_getD hnd (by omega)]; exact hi)) hr ho hv
    rwa [hd, hoH] at this
  · cases o with
    | nil => rfl
    | cons j p =>
      have : ¬ j ∈ rs := fun hj => by rw [hit_in hj] at ho'; cases ho'
      simp [Eff.app, this]
end Go.G
