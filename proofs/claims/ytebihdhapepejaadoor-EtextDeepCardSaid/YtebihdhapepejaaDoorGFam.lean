/-
  Families of objects below a root; calls that turn one family, or two.
-/
import Derived.Test.YtebihdhapepejaaDoorGCall3
namespace Go.G
set_option linter.unusedVariables false
set_option linter.unusedSimpArgs false
open Go.RowKit

/-- The objects below a root, whichever root it is. -/
structure Fam where
  F : Nat → Nm → VOb
  ren : ∀ {g : Nm → Nm} {δ : Nm → Nat} {r r' : Nat}, (∀ p, g (r :: p) = r' :: p) → (∀ p, δ (r :: p) = 0) → ∀ p, (F r p).ren g δ 0 = F r' p
  refs : ∀ {D : Nm → Prop} {r : Nat}, (∀ p, D (r :: p)) → ∀ p, (F r p).ob.refs D

def Fam.no : Fam := ⟨fun _ _ => ⟨0, .none⟩, fun _ _ _ => rfl, fun _ _ => trivial⟩
@[simp] theorem Fam.no_F {r : Nat} {p : Nm} : Fam.no.F r p = ⟨0, .none⟩ := rfl

/-- A value that points at its root's objects alone. -/
structure FamA (a : Nat → A) : Prop where
  ren : ∀ {g : Nm → Nm} {δ : Nm → Nat} {r r' : Nat}, (∀ p, g (r :: p) = r' :: p) → (∀ p, δ (r :: p) = 0) → (a r).ren g δ = a r'
  refs : ∀ {D : Nm → Prop} {r : Nat}, (∀ p, D (r :: p)) → (a r).refs D
structure FamL (a : Nat → List A) : Prop where
  ren : ∀ {g : Nm → Nm} {δ : Nm → Nat} {r r' : Nat}, (∀ p, g (r :: p) = r' :: p) → (∀ p, δ (r :: p) = 0) → A.renL g δ (a r) = a r'
  refs : ∀ {D : Nm → Prop} {r : Nat}, (∀ p, D (r :: p)) → A.refsL D (a r)
@[simp] theorem famL_nil : FamL (fun _ => []) := ⟨fun _ _ => by simp [A.renL], fun _ => by simp [A.refsL]⟩
theorem famL_cons {a : Nat → A} {l : Nat → List A} (h : FamA a) (k : FamL l) : FamL (fun r => a r :: l r) := ⟨fun h1 h2 => by simp [A.renL, h.ren h1 h2, k.ren h1 h2], fun h1 => by simp only [A.refsL]; exact ⟨h.refs h1, k.refs h1⟩⟩
@[simp] theorem famL_cons_iff {a : Nat → A} {l : Nat → List A} (h : FamA a) : FamL (fun r => a r :: l r) = FamL l := by
  refine propext ⟨fun k => ⟨fun h1 h2 => ?_, fun h1 => ?_⟩, famL_cons h⟩
  · have := k.ren h1 h2
    simp only [A.renL, List.cons.injEq] at this
    exact this.2
  · have := k.refs h1
    simp only [A.refsL] at this
    exact this.2
theorem FamL.all {l : List A} (h : ∀ x, x ∈ l → FamA (fun _ => x)) : FamL (fun _ => l) := by
  induction l with
  | nil => simp
  | cons x l ih => exact famL_cons (h x (by simp)) (ih fun y hy => h y (by simp [hy]))
@[simp] theorem famA_any : FamA (fun _ => .any) := ⟨fun _ _ => by simp [A.ren], fun _ => by simp [A.refs]⟩
@[simp] theorem famA_v {x : Value} : FamA (fun _ => .v x) := ⟨fun _ _ => by simp [A.ren], fun _ => by simp [A.refs]⟩
@[simp] theorem famA_sl {f : Bool} {xs : List A} : FamA (fun _ => .sl f xs) := ⟨fun _ _ => by simp [A.ren], fun _ => by simp [A.refs]⟩
@[simp] theorem famA_pim {xs : List A} : FamA (fun _ => .pim xs) := ⟨fun _ _ => by simp [A.ren], fun _ => by simp [A.refs]⟩
@[simp] theorem famA_pob {u off : Nat} {q : Nm} : FamA (fun r => .pob (r :: q) u off) := ⟨fun h1 h2 => by simp [A.ren, h1, h2], fun h => by simp [A.refs, h]⟩
@[simp] theorem famA_osl {u sz off len : Nat} {q : Nm} : FamA (fun r => .osl (r :: q) u sz off len) := ⟨fun h1 h2 => by simp [A.ren, h1, h2], fun h => by simp [A.refs, h]⟩
@[simp] theorem famA_pel {u i j : Nat} {q : Nm} : FamA (fun r => .pel (r :: q) u i j) := ⟨fun h1 h2 => by simp [A.ren, h1, h2], fun h => by simp [A.refs, h]⟩
@[simp] theorem famA_agg {l : Nat → List A} (h : FamL l) : FamA (fun r => .agg (l r)) := ⟨fun h1 h2 => by simp [A.ren, h.ren h1 h2], fun h1 => by simp only [A.refs]; exact h.refs h1⟩
@[simp] theorem famA_tup {l : Nat → List A} (h : FamL l) : FamA (fun r => .tup (l r)) := ⟨fun h1 h2 => by simp [A.ren, h.ren h1 h2], fun h1 => by simp only [A.refs]; exact h.refs h1⟩
@[simp] theorem famA_fnc {f : FuncId} {l m : Nat → List A} (h : FamL l) (k : FamL m) : FamA (fun r => .fnc f (l r) (m r)) := ⟨fun h1 h2 => by simp [A.ren, h.ren h1 h2, k.ren h1 h2], fun h1 => by simp only [A.refs]; exact ⟨h.refs h1, k.refs h1⟩⟩
@[simp] theorem famA_ifc {t : TypeId} {a : Nat → A} (h : FamA a) : FamA (fun r => .ifc t (a r)) := ⟨fun h1 h2 => by simp [A.ren, h.ren h1 h2], fun h1 => by simp only [A.refs]; exact h.refs h1⟩
theorem famA_bare1 {a : A} (h : a.bare1 = true) : FamA (fun _ => a) := by cases a <;> simp [A.bare1] at h ⊢
theorem famA_bare {a : A} {cs : List A} (ha : a = .agg cs) (h : ∀ x, x ∈ cs → x.bare1 = true) : FamA (fun _ => a) := by
  subst ha
  exact famA_agg (l := fun _ => cs) (FamL.all fun x hx => famA_bare1 (h x hx))

theorem Fam.cells_ren {g : Nm → Nm} {δ : Nm → Nat} {u : Nat} {l l' : List A} (h : A.renL g δ l = l') : VOb.ren g δ 0 ⟨u, .cells l⟩ = ⟨u, .cells l'⟩ := by simp [VOb.ren, Ob.ren, h]
theorem Fam.arr_ren {g : Nm → Nm} {δ : Nm → Nat} {u sz : Nat} {l l' : List A} (h : A.renL g δ l = l') : VOb.ren g δ 0 ⟨u, .arr sz l⟩ = ⟨u, .arr sz l'⟩ := by simp [VOb.ren, Ob.ren, h]

/-- With such objects below its root it tells this; then they are these. -/
structure SpecF (P : Program) (f : FuncId) (as : Nat → List A) (F : Fam) (x : Nat → A) (F' : Fam) : Prop where
  fa : FamL as
  fx : FamA x
  h : SpecH P f 1 (as 0) (ov 0 (F.F 0) (lkH [])) (x 0) (ov 0 (F'.F 0) (lkH []))

section
variable {P : Program} {K : Kont} {rest : List CO} {s : Nat → A} {H : Hp} {dd : Option Nat} {nm : Nm} {ix : Nat} {un : List Nat} {l : Bool} {lg : Lg} {g : FuncId} {aa : Array Operand} {ts : Array TypeId}
theorem fam_in {r : Nat} {F : Fam} (hF : ∀ p, H (r :: p) = F.F r p) : inHp [r] 1 H = ov 0 (F.F 0) (lkH []) := by
  funext o
  cases o with
  | nil => rfl
  | cons i p =>
    by_cases hi : i < 1
    · have : i = 0 := by omega
      subst this
      simp only [inHp, if_pos hi, ov_cons, if_true]
      show (H (r :: p)).ren _ _ 0 = _
      rw [hF]
      exact F.ren (fun q => by simp [dnN]) (fun _ => rfl) p
    · simp only [inHp, if_neg hi, ov_cons]
      rw [if_neg (by omega)]
      rfl
theorem fam_out {r : Nat} {F' : Fam} : outG [r] (dlt [r] 1 H) H (ov 0 (F'.F 0) (lkH [])) = ov r (F'.F r) H := by
  have hd : ∀ p, dlt [r] 1 H (0 :: p) = 0 := fun p => rfl
  funext o
  cases o with
  | nil => rfl
  | cons j p =>
    by_cases hj : j = r
    · subst hj
      simp only [outG, ov_cons, if_true]
      rw [if_pos (by simp)]
      have : [j].idxOf j = 0 := by simp
      rw [this, if_pos rfl, hd]
      exact F'.ren (fun q => by simp [upN]) hd p
    · have : ¬ [r].contains j = true := by simpa using hj
      simp only [outG, if_neg this, ov_cons, if_neg hj]
theorem fam_closed {r : Nat} {F : Fam} (hF : ∀ p, H (r :: p) = F.F r p) : ClosedH [r] 1 H := by
  intro j p hj
  have hjr : j = r := by
    have := (idx_mem (rs := [r])).1 (by simpa using hj)
    simpa using this
  rw [hjr, hF]
  exact F.refs (fun q => by simp [inS]) p
theorem fam_refs {F' : Fam} (i : Nat) (p : Nm) (hi : i < 1) : ((ov 0 (F'.F 0) (lkH [])) (i :: p)).ob.refs (outS 1) := by
  have : i = 0 := by omega
  subst this
  simp only [ov_cons, if_true]
  exact F'.refs (fun q => by simp [outS]) p
/-- A call that turns a root's family. -/
theorem sc_fam {as : Nat → List A} {F F' : Fam} {x : Nat → A} (r : Nat) (hS : SpecF P g as F x F') (hF : ∀ p, H (r :: p) = F.F r p) (ha : aa.toList.map (evs s) = as r) (hck : Ck un lg ⟨[], [([r], true)]⟩)
    (h : SeqC P K rest (addL l ix ⟨[], [([r], true)]⟩ lg) (Sta.put ⟨s, H⟩ dd (x r) (ov r (F'.F r) H))) :
    SeqC P K (⟨dd, .call { callee := .value (.func g), args := aa, argTypes := ts }, none, nm, ix, un, l⟩ :: rest) lg ⟨s, H⟩ := by
  have hd : ∀ p, dlt [r] 1 H (0 :: p) = 0 := fun p => rfl
  refine sc_callH [r] 1 hS.h (by simp) (by simp) ?_ ?_ (fam_in hF) (fam_closed hF) (hS.fx.refs (fun p => by simp [outS])) (fun i p hi => fam_refs i p hi) (fun i p h1 h2 => by simp at h2; omega) (hS.fx.ren (fun q => by simp [upN]) hd) fam_out hck h
  · rw [ha]; exact hS.fa.ren (fun q => by simp [dnN]) (fun _ => rfl)
  · rw [ha]; exact hS.fa.refs (fun q => by simp [inS])
/-- The same of a function's value. -/
theorem sc_famV {as : Nat → List A} {F F' : Fam} {x : Nat → A} {fo : Operand} {fs caps : List A} (r : Nat) (hv0 : evs s fo = .fnc g fs caps) (hS : SpecF P g as F x F') (hF : ∀ p, H (r :: p) = F.F r p) (ha : fs ++ (aa.toList.map (evs s) ++ caps) = as r) (hck : Ck un lg ⟨[], [([r], true)]⟩)
    (h : SeqC P K rest (addL l ix ⟨[], [([r], true)]⟩ lg) (Sta.put ⟨s, H⟩ dd (x r) (ov r (F'.F r) H))) :
    SeqC P K (⟨dd, .call { callee := .value fo, args := aa, argTypes := ts }, none, nm, ix, un, l⟩ :: rest) lg ⟨s, H⟩ := by
  have hd : ∀ p, dlt [r] 1 H (0 :: p) = 0 := fun p => rfl
  refine sc_callHv hv0 ha [r] 1 hS.h (by simp) (by simp) (hS.fa.ren (fun q => by simp [dnN]) (fun _ => rfl)) (hS.fa.refs (fun q => by simp [inS])) (fam_in hF) (fam_closed hF) (hS.fx.refs (fun p => by simp [outS])) (fun i p hi => fam_refs i p hi) (fun i p h1 h2 => by simp at h2; omega) (hS.fx.ren (fun q => by simp [upN]) hd) fam_out hck h
end

section
variable {P : Program} {K : Kont} {rest : List CO} {s : Nat → A} {H : Hp} {dd : Option Nat} {nm : Nm} {ix : Nat} {un : List Nat} {l : Bool} {lg : Lg} {g : FuncId} {aa : Array Operand} {ts : Array TypeId}
theorem callR_fam {as : Nat → List A} {F F' : Fam} {x : Nat → A} (r : Nat) (hS : SpecF P g as F x F') (hF : ∀ p, H (r :: p) = F.F r p) : ∃ E, CallR P H g (as r) (x r) E [] [([r], true)] ∧ E.app H = ov r (F'.F r) H := by
  have hd : ∀ p, dlt [r] 1 H (0 :: p) = 0 := fun p => rfl
  have := callR_H (H := H) (L := as r) [r] 1 hS.h (by simp) (by simp) (hS.fa.ren (fun q => by simp [dnN]) (fun _ => rfl)) (hS.fa.refs (fun q => by simp [inS])) (fam_in hF) (fam_closed hF) (hS.fx.refs (fun p => by simp [outS])) (fun i p hi => fam_refs i p hi) (fun i p h1 h2 => by simp at h2; omega) fam_out
  have e : A.ren (upN [r]) (dlt [r] 1 H) (x 0) = x r := hS.fx.ren (fun q => by simp [upN]) hd
  rw [e] at this
  exact this
/-- A method of an interface's value, that turns a root's family. -/
theorem sc_invF {as : Nat → List A} {F F' : Fam} {x : Nat → A} {ro : Operand} {name : String} {t : TypeId} {a a' : A} {d : Option TypeId} (r : Nat) (hS : SpecF P g as F x F') (hF : ∀ p, H (r :: p) = F.F r p) (hr : evs s ro = .ifc t a) (hm : methA P t name = some (g, d)) (ha : recvA P H d a = some a') (hL : a' :: aa.toList.map (evs s) = as r)
    (hck : Ck un lg ⟨refs a ++ [], [([r], true)]⟩) (h : SeqC P K rest (addL l ix ⟨refs a ++ [], [([r], true)]⟩ lg) (Sta.put ⟨s, H⟩ dd (x r) (ov r (F'.F r) H))) :
    SeqC P K (⟨dd, .call { callee := .invoke ro name, args := aa, argTypes := ts }, none, nm, ix, un, l⟩ :: rest) lg ⟨s, H⟩ :=
  sc_inv hr hm ha hL (callR_fam r hS hF) hck h
end

/-- A root's family is another one: the outer one hides the inner one. -/
theorem ov_ov {r : Nat} {F F' : Nm → VOb} {H : Hp} : ov r F (ov r F' H) = ov r F H := by
  funext o
  cases o with
  | nil => rfl
  | cons j p => by_cases hj : j = r <;> simp [hj]
@[simp] theorem ov_same {r : Nat} {F F' : Nm → VOb} {H : Hp} : ov r F (ov r F' H) = ov r F H := ov_ov
theorem ov_swap {r r' : Nat} {F F' : Nm → VOb} {H : Hp} (h : r ≠ r') : ov r F (ov r' F' H) = ov r' F' (ov r F H) := by
  funext o
  cases o with
  | nil => rfl
  | cons j p =>
    by_cases hj : j = r
    · subst hj; simp [h]
    · simp [hj]

/-- The end of a walk of a function with a family at its root. -/
theorem specF_of {P : Program} {f : FuncId} {n : Nat} {rs : List ResultVar} {cc : CC} {as : Nat → List A} {F F' : Fam} {x : Nat → A} (t : Txt P f n rs cc) (ha : (as 0).length ≤ n) (h0 : FamL as) (h1 : FamA x)
    (h : ∀ w0 I0 M0 m0, WPC (cxh P w0 I0 M0 n m0) cc (RetH (cxh P w0 I0 M0 n m0) rs 1 (x 0) (ov 0 (F'.F 0) (lkH []))) ⟨argS (as 0), ov 0 (F.F 0) (lkH [])⟩) : SpecF P f as F x F' :=
  ⟨h0, h1, specH_of t ha h⟩
theorem reth_fam {c : Cx} {rs : List ResultVar} {x : A} {F' : Nm → VOb} {r0 : A} {st : Sta} (h : resA c.P st rs = some r0) (he : r0 = x) (hh : ∀ p, st.H (0 :: p) = F' p) : RetH c rs 1 x (ov 0 F' (lkH [])) .ret st :=
  reth_ret h he fun i p hi => by
    have : i = 0 := by omega
    subst this
    rw [hh]
    simp
theorem reth_famN {c : Cx} {rs : List ResultVar} {x : A} {F' : Nm → VOb} {r0 : A} {st : Sta} (h : resA c.P st rs = some r0) (he : r0 = x) (hh : ∀ p, st.H (0 :: p) = F' p) : RetH c rs 1 x (ov 0 F' (lkH [])) .normal st :=
  reth_normal h he fun i p hi => by
    have : i = 0 := by omega
    subst this
    rw [hh]
    simp
/-! ### what is made lies below a root of its own -/
structure FamA2 (a : Nat → Nat → A) : Prop where
  ren : ∀ {g : Nm → Nm} {δ : Nm → Nat} {r r' q q' : Nat}, (∀ p, g (r :: p) = r' :: p) → (∀ p, δ (r :: p) = 0) → (∀ p, g (q :: p) = q' :: p) → (∀ p, δ (q :: p) = 0) → (a r q).ren g δ = a r' q'
  refs : ∀ {D : Nm → Prop} {r q : Nat}, (∀ p, D (r :: p)) → (∀ p, D (q :: p)) → (a r q).refs D
structure FamL2 (a : Nat → Nat → List A) : Prop where
  ren : ∀ {g : Nm → Nm} {δ : Nm → Nat} {r r' q q' : Nat}, (∀ p, g (r :: p) = r' :: p) → (∀ p, δ (r :: p) = 0) → (∀ p, g (q :: p) = q' :: p) → (∀ p, δ (q :: p) = 0) → A.renL g δ (a r q) = a r' q'
  refs : ∀ {D : Nm → Prop} {r q : Nat}, (∀ p, D (r :: p)) → (∀ p, D (q :: p)) → A.refsL D (a r q)
@[simp] theorem famL2_nil : FamL2 (fun _ _ => []) := ⟨fun _ _ _ _ => by simp [A.renL], fun _ _ => by simp [A.refsL]⟩
theorem famL2_cons {a : Nat → Nat → A} {l : Nat → Nat → List A} (h : FamA2 a) (k : FamL2 l) : FamL2 (fun r q => a r q :: l r q) := ⟨fun h1 h2 h3 h4 => by simp [A.renL, h.ren h1 h2 h3 h4, k.ren h1 h2 h3 h4], fun h1 h2 => by simp only [A.refsL]; exact ⟨h.refs h1 h2, k.refs h1 h2⟩⟩
theorem famA2_l {a : Nat → A} (h : FamA a) : FamA2 (fun r _ => a r) := ⟨fun h1 h2 _ _ => h.ren h1 h2, fun h1 _ => h.refs h1⟩
theorem famA2_r {a : Nat → A} (h : FamA a) : FamA2 (fun _ q => a q) := ⟨fun _ _ h1 h2 => h.ren h1 h2, fun _ h1 => h.refs h1⟩
theorem famA2_tup {l : Nat → Nat → List A} (h : FamL2 l) : FamA2 (fun r q => .tup (l r q)) := ⟨fun h1 h2 h3 h4 => by simp [A.ren, h.ren h1 h2 h3 h4], fun h1 h2 => by simp only [A.refs]; exact h.refs h1 h2⟩
theorem famA2_agg {l : Nat → Nat → List A} (h : FamL2 l) : FamA2 (fun r q => .agg (l r q)) := ⟨fun h1 h2 h3 h4 => by simp [A.ren, h.ren h1 h2 h3 h4], fun h1 h2 => by simp only [A.refs]; exact h.refs h1 h2⟩

/-- It turns the family at its root, and makes one at another root. -/
structure SpecN (P : Program) (f : FuncId) (as : Nat → List A) (F : Fam) (x : Nat → Nat → A) (F' N : Fam) : Prop where
  fa : FamL as
  fx : FamA2 x
  n : ∀ p, (N.F 1 p).ob = .none ∨ 1 ≤ (N.F 1 p).u
  h : SpecH P f 2 (as 0) (ov 0 (F.F 0) (lkH [])) (x 0 1) (ov 0 (F'.F 0) (ov 1 (N.F 1) (lkH [])))
section
variable {P : Program} {K : Kont} {rest : List CO} {s : Nat → A} {H : Hp} {dd : Option Nat} {nm : Nm} {ix : Nat} {un : List Nat} {l : Bool} {lg : Lg} {g : FuncId} {aa : Array Operand} {ts : Array TypeId}
theorem sc_famN {as : Nat → List A} {F F' N : Fam} {x : Nat → Nat → A} (r q : Nat) (hrq : r ≠ q) (hS : SpecN P g as F x F' N) (hF : ∀ p, H (r :: p) = F.F r p) (hq : ∀ p, (H (q :: p)).u = 0) (ha : aa.toList.map (evs s) = as r) (hck : Ck un lg ⟨[], [([r], true), ([q], true)]⟩)
    (h : SeqC P K rest (addL l ix ⟨[], [([r], true), ([q], true)]⟩ lg) (Sta.put ⟨s, H⟩ dd (x r q) (ov r (F'.F r) (ov q (N.F q) H)))) :
    SeqC P K (⟨dd, .call { callee := .value (.func g), args := aa, argTypes := ts }, none, nm, ix, un, l⟩ :: rest) lg ⟨s, H⟩ := by
  have hd : ∀ p, dlt [r, q] 1 H (0 :: p) = 0 := fun p => rfl
  have hd1 : ∀ p, dlt [r, q] 1 H (1 :: p) = 0 := fun p => by
    simp only [dlt]
    rw [if_neg (by omega), if_pos (by simp)]
    exact hq p
  have i0 : [r, q].idxOf r = 0 := by simp
  have i1 : [r, q].idxOf q = 1 := by simp [List.idxOf_cons, beq_eq_false_iff_ne.2 hrq]
  refine sc_callH [r, q] 1 hS.h (by simp [hrq]) (by simp) ?_ ?_ ?_ ?_ (hS.fx.refs (fun p => by simp [outS]) (fun p => by simp [outS])) ?_ ?_ (hS.fx.ren (fun p => by simp [upN]) hd (fun p => by simp [upN]) hd1) ?_ hck h
  · rw [ha]; exact hS.fa.ren (fun p => by simp [dnN]) (fun _ => rfl)
  · rw [ha]; exact hS.fa.refs (fun p => by simp [inS])
  · funext o
    cases o with
    | nil => rfl
    | cons i p =>
      by_cases hi : i < 1
      · have : i = 0 := by omega
        subst this
        simp only [inHp, if_pos hi, ov_cons, if_true]
        show (H (r :: p)).ren _ _ 0 = _
        rw [hF]
        exact F.ren (fun q => by simp [dnN]) (fun _ => rfl) p
      · simp only [inHp, if_neg hi, ov_cons]
        rw [if_neg (by omega)]
        rfl
  · intro j p hj
    have hjr : j = r := by
      by_cases e : r = j
      · exact e.symm
      · simp only [List.idxOf_cons, beq_eq_false_iff_ne.2 e] at hj
        simp at hj
    rw [hjr, hF]
    exact F.refs (fun q => by simp [inS]) p
  · intro i p hi
    have hi : i < 2 := hi
    by_cases h0 : i = 0
    · subst h0
      simp only [ov_cons, if_true]
      exact F'.refs (fun q => by simp [outS]) p
    · have : i = 1 := by omega
      subst this
      simp only [ov_cons, if_true]
      rw [if_neg (by omega)]
      exact N.refs (fun q => by simp [outS]) p
  · intro i p hi hi2
    have : i = 1 := by simp at hi2; omega
    subst this
    simp only [ov_cons, if_true]
    rw [if_neg (by omega)]
    exact hS.n p
  · funext o
    cases o with
    | nil => rfl
    | cons j p =>
      by_cases hj : j = r
      · subst hj
        simp only [outG, ov_cons, if_true]
        rw [if_pos (by simp), i0, if_pos rfl, hd]
        exact F'.ren (fun q => by simp [upN]) hd p
      · by_cases hj2 : j = q
        · subst hj2
          simp only [outG, ov_cons, if_true, if_neg hj]
          rw [if_pos (by simp), i1, if_neg (by omega), if_pos rfl, hd1]
          exact N.ren (fun q => by simp [upN]) hd1 p
        · have : ¬ [r, q].contains j = true := by simp [hj, hj2]
          simp only [outG, if_neg this, ov_cons, if_neg hj, if_neg hj2]
end
theorem specN_of {P : Program} {f : FuncId} {n : Nat} {rs : List ResultVar} {cc : CC} {as : Nat → List A} {F F' N : Fam} {x : Nat → Nat → A} (t : Txt P f n rs cc) (ha : (as 0).length ≤ n) (h0 : FamL as) (h1 : FamA2 x) (hn : ∀ p, (N.F 1 p).ob = .none ∨ 1 ≤ (N.F 1 p).u)
    (h : ∀ w0 I0 M0 m0, WPC (cxh P w0 I0 M0 n m0) cc (RetH (cxh P w0 I0 M0 n m0) rs 2 (x 0 1) (ov 0 (F'.F 0) (ov 1 (N.F 1) (lkH [])))) ⟨argS (as 0), ov 0 (F.F 0) (lkH [])⟩) : SpecN P f as F x F' N :=
  ⟨h0, h1, hn, specH_of t ha h⟩
theorem reth_fam2 {c : Cx} {rs : List ResultVar} {x : A} {F' N : Nm → VOb} {r0 : A} {st : Sta} (h : resA c.P st rs = some r0) (he : r0 = x) (hh : ∀ p, st.H (0 :: p) = F' p) (hn : ∀ p, st.H (1 :: p) = N p) : RetH c rs 2 x (ov 0 F' (ov 1 N (lkH []))) .ret st :=
  reth_ret h he fun i p hi => by
    by_cases h0 : i = 0
    · subst h0
      rw [hh]
      simp
    · have : i = 1 := by omega
      subst this
      rw [hn]
      simp
/-- A row of elements that point at nothing of the call's own. -/
def rowM (u sz : Nat) (xs : List A) (h : ∀ x, x ∈ xs → FamA (fun _ => x)) : Fam := ⟨fun _ p => if p = [] then ⟨u, .arr sz xs⟩ else ⟨0, .none⟩, fun {g δ r r'} hg hd p => by
    by_cases hp : p = []
    · rw [if_pos hp]
      exact Fam.arr_ren ((FamL.all h).ren hg hd)
    · rw [if_neg hp]; rfl, fun {D r} hD p => by
    by_cases hp : p = []
    · rw [if_pos hp]
      exact (FamL.all h).refs hD
    · rw [if_neg hp]; trivial⟩
@[simp] theorem rowM_F {u sz : Nat} {xs : List A} {h : ∀ x, x ∈ xs → FamA (fun _ => x)} {r : Nat} {p : Nm} : (rowM u sz xs h).F r p = if p = [] then ⟨u, .arr sz xs⟩ else ⟨0, .none⟩ := rfl

/-! ### two roots -/
structure Fam2 where
  B : Nat → Nat → Nm → VOb
  C : Nat → Nat → Nm → VOb
  ren : ∀ {g : Nm → Nm} {δ : Nm → Nat} {r r' q q' : Nat}, (∀ p, g (r :: p) = r' :: p) → (∀ p, δ (r :: p) = 0) → (∀ p, g (q :: p) = q' :: p) → (∀ p, δ (q :: p) = 0) → ∀ p, (B r q p).ren g δ 0 = B r' q' p ∧ (C r q p).ren g δ 0 = C r' q' p
  refs : ∀ {D : Nm → Prop} {r q : Nat}, (∀ p, D (r :: p)) → (∀ p, D (q :: p)) → ∀ p, (B r q p).ob.refs D ∧ (C r q p).ob.refs D
/-- Two families that know nothing of each other. -/
def Fam.two (F G : Fam) : Fam2 := ⟨fun r _ => F.F r, fun _ q => G.F q, fun h1 h2 h3 h4 p => ⟨F.ren h1 h2 p, G.ren h3 h4 p⟩, fun h1 h2 p => ⟨F.refs h1 p, G.refs h2 p⟩⟩
@[simp] theorem two_B {F G : Fam} {r q : Nat} : (F.two G).B r q = F.F r := rfl
@[simp] theorem two_C {F G : Fam} {r q : Nat} : (F.two G).C r q = G.F q := rfl
structure SpecF2 (P : Program) (f : FuncId) (as : Nat → Nat → List A) (F : Fam2) (x : Nat → Nat → A) (F' : Fam2) : Prop where
  fa : FamL2 as
  fx : FamA2 x
  h : SpecH P f 2 (as 0 1) (ov 0 (F.B 0 1) (ov 1 (F.C 0 1) (lkH []))) (x 0 1) (ov 0 (F'.B 0 1) (ov 1 (F'.C 0 1) (lkH [])))
section
variable {P : Program} {K : Kont} {rest : List CO} {s : Nat → A} {H : Hp} {dd : Option Nat} {nm : Nm} {ix : Nat} {un : List Nat} {l : Bool} {lg : Lg} {g : FuncId} {aa : Array Operand} {ts : Array TypeId}
theorem sc_fam2 {as : Nat → Nat → List A} {F F' : Fam2} {x : Nat → Nat → A} (r q : Nat) (hrq : r ≠ q) (hS : SpecF2 P g as F x F') (hF : ∀ p, H (r :: p) = F.B r q p) (hG : ∀ p, H (q :: p) = F.C r q p) (ha : aa.toList.map (evs s) = as r q) (hck : Ck un lg ⟨[], [([r], true), ([q], true)]⟩)
    (h : SeqC P K rest (addL l ix ⟨[], [([r], true), ([q], true)]⟩ lg) (Sta.put ⟨s, H⟩ dd (x r q) (ov r (F'.B r q) (ov q (F'.C r q) H)))) :
    SeqC P K (⟨dd, .call { callee := .value (.func g), args := aa, argTypes := ts }, none, nm, ix, un, l⟩ :: rest) lg ⟨s, H⟩ := by
  have hd : ∀ p, dlt [r, q] 2 H (0 :: p) = 0 := fun p => rfl
  have hd1 : ∀ p, dlt [r, q] 2 H (1 :: p) = 0 := fun p => rfl
  have i0 : [r, q].idxOf r = 0 := by simp
  have i1 : [r, q].idxOf q = 1 := by simp [List.idxOf_cons, beq_eq_false_iff_ne.2 hrq]
  have d0 : ∀ p, dnN [r, q] (r :: p) = 0 :: p := fun p => by simp [dnN]
  have d1 : ∀ p, dnN [r, q] (q :: p) = 1 :: p := fun p => by simp [dnN, i1]
  have jin : ∀ {j : Nat}, [r, q].idxOf j < 2 → j = r ∨ j = q := fun {j} hj => by
    have := (idx_mem (rs := [r, q])).1 (by simpa using hj)
    simpa using this
  refine sc_callH [r, q] 2 hS.h (by simp [hrq]) (by simp) ?_ ?_ ?_ ?_ (hS.fx.refs (fun p => by simp [outS]) (fun p => by simp [outS])) ?_ (fun i p h1 h2 => by simp at h2; omega) (hS.fx.ren (fun p => by simp [upN]) hd (fun p => by simp [upN]) hd1) ?_ hck h
  · rw [ha]; exact hS.fa.ren d0 (fun _ => rfl) d1 (fun _ => rfl)
  · rw [ha]; exact hS.fa.refs (fun p => by simp [inS]) (fun p => by simp [inS, i1])
  · funext o
    cases o with
    | nil => rfl
    | cons i p =>
      by_cases hi : i < 2
      · simp only [inHp, if_pos hi]
        have h01 : i = 0 ∨ i = 1 := by omega
        rcases h01 with rfl | rfl
        · show (H (r :: p)).ren _ _ 0 = _
          rw [hF]
          simp only [ov_cons, if_true]
          exact (F.ren d0 (fun _ => rfl) d1 (fun _ => rfl) p).1
        · show (H (q :: p)).ren _ _ 0 = _
          rw [hG]
          simp only [ov_cons, if_true]
          rw [if_neg (by omega)]
          exact (F.ren d0 (fun _ => rfl) d1 (fun _ => rfl) p).2
      · simp only [inHp, if_neg hi, ov_cons]
        rw [if_neg (by omega), if_neg (by omega)]
        rfl
  · intro j p hj
    rcases jin hj with rfl | rfl
    · rw [hF]
      exact (F.refs (fun p => by simp [inS]) (fun p => by simp [inS, i1]) p).1
    · rw [hG]
      exact (F.refs (fun p => by simp [inS]) (fun p => by simp [inS, i1]) p).2
  · intro i p hi
    have hi : i < 2 := hi
    by_cases h0 : i = 0
    · subst h0
      simp only [ov_cons, if_true]
      exact (F'.refs (fun q => by simp [outS]) (fun q => by simp [outS]) p).1
    · have : i = 1 := by omega
      subst this
      simp only [ov_cons, if_true]
      rw [if_neg (by omega)]
      exact (F'.refs (fun q => by simp [outS]) (fun q => by simp [outS]) p).2
  · have u0 : ∀ p, upN [r, q] (0 :: p) = r :: p := fun p => by simp [upN]
    have u1 : ∀ p, upN [r, q] (1 :: p) = q :: p := fun p => by simp [upN]
    funext o
    cases o with
    | nil => rfl
    | cons j p =>
      by_cases hj : j = r
      · subst hj
        simp only [outG, ov_cons, if_true]
        rw [if_pos (by simp), i0, if_pos rfl, hd]
        exact (F'.ren u0 hd u1 hd1 p).1
      · by_cases hj2 : j = q
        · subst hj2
          simp only [outG, ov_cons, if_true, if_neg hj]
          rw [if_pos (by simp), i1, if_neg (by omega), if_pos rfl, hd1]
          exact (F'.ren u0 hd u1 hd1 p).2
        · have : ¬ [r, q].contains j = true := by simp [hj, hj2]
          simp only [outG, if_neg this, ov_cons, if_neg hj, if_neg hj2]
/-- The same of a function's value. -/
theorem sc_fam2V {as : Nat → Nat → List A} {F F' : Fam2} {x : Nat → Nat → A} {fo : Operand} {fs caps : List A} (r q : Nat) (hv0 : evs s fo = .fnc g fs caps) (hrq : r ≠ q) (hS : SpecF2 P g as F x F') (hF : ∀ p, H (r :: p) = F.B r q p) (hG : ∀ p, H (q :: p) = F.C r q p) (ha : fs ++ (aa.toList.map (evs s) ++ caps) = as r q) (hck : Ck un lg ⟨[], [([r], true), ([q], true)]⟩)
    (h : SeqC P K rest (addL l ix ⟨[], [([r], true), ([q], true)]⟩ lg) (Sta.put ⟨s, H⟩ dd (x r q) (ov r (F'.B r q) (ov q (F'.C r q) H)))) :
    SeqC P K (⟨dd, .call { callee := .value fo, args := aa, argTypes := ts }, none, nm, ix, un, l⟩ :: rest) lg ⟨s, H⟩ := by
  have hd : ∀ p, dlt [r, q] 2 H (0 :: p) = 0 := fun p => rfl
  have hd1 : ∀ p, dlt [r, q] 2 H (1 :: p) = 0 := fun p => rfl
  have i0 : [r, q].idxOf r = 0 := by simp
  have i1 : [r, q].idxOf q = 1 := by simp [List.idxOf_cons, beq_eq_false_iff_ne.2 hrq]
  have d0 : ∀ p, dnN [r, q] (r :: p) = 0 :: p := fun p => by simp [dnN]
  have d1 : ∀ p, dnN [r, q] (q :: p) = 1 :: p := fun p => by simp [dnN, i1]
  have jin : ∀ {j : Nat}, [r, q].idxOf j < 2 → j = r ∨ j = q := fun {j} hj => by
    have := (idx_mem (rs := [r, q])).1 (by simpa using hj)
    simpa using this
  refine sc_callHv hv0 ha [r, q] 2 hS.h (by simp [hrq]) (by simp) ?_ ?_ ?_ ?_ (hS.fx.refs (fun p => by simp [outS]) (fun p => by simp [outS])) ?_ (fun i p h1 h2 => by simp at h2; omega) (hS.fx.ren (fun p => by simp [upN]) hd (fun p => by simp [upN]) hd1) ?_ hck h
  · exact hS.fa.ren d0 (fun _ => rfl) d1 (fun _ => rfl)
  · exact hS.fa.refs (fun p => by simp [inS]) (fun p => by simp [inS, i1])
  · funext o
    cases o with
    | nil => rfl
    | cons i p =>
      by_cases hi : i < 2
      · simp only [inHp, if_pos hi]
        have h01 : i = 0 ∨ i = 1 := by omega
        rcases h01 with rfl | rfl
        · show (H (r :: p)).ren _ _ 0 = _
          rw [hF]
          simp only [ov_cons, if_true]
          exact (F.ren d0 (fun _ => rfl) d1 (fun _ => rfl) p).1
        · show (H (q :: p)).ren _ _ 0 = _
          rw [hG]
          simp only [ov_cons, if_true]
          rw [if_neg (by omega)]
          exact (F.ren d0 (fun _ => rfl) d1 (fun _ => rfl) p).2
      · simp only [inHp, if_neg hi, ov_cons]
        rw [if_neg (by omega), if_neg (by omega)]
        rfl
  · intro j p hj
    rcases jin hj with rfl | rfl
    · rw [hF]
      exact (F.refs (fun p => by simp [inS]) (fun p => by simp [inS, i1]) p).1
    · rw [hG]
      exact (F.refs (fun p => by simp [inS]) (fun p => by simp [inS, i1]) p).2
  · intro i p hi
    have hi : i < 2 := hi
    by_cases h0 : i = 0
    · subst h0
      simp only [ov_cons, if_true]
      exact (F'.refs (fun q => by simp [outS]) (fun q => by simp [outS]) p).1
    · have : i = 1 := by omega
      subst this
      simp only [ov_cons, if_true]
      rw [if_neg (by omega)]
      exact (F'.refs (fun q => by simp [outS]) (fun q => by simp [outS]) p).2
  · have u0 : ∀ p, upN [r, q] (0 :: p) = r :: p := fun p => by simp [upN]
    have u1 : ∀ p, upN [r, q] (1 :: p) = q :: p := fun p => by simp [upN]
    funext o
    cases o with
    | nil => rfl
    | cons j p =>
      by_cases hj : j = r
      · subst hj
        simp only [outG, ov_cons, if_true]
        rw [if_pos (by simp), i0, if_pos rfl, hd]
        exact (F'.ren u0 hd u1 hd1 p).1
      · by_cases hj2 : j = q
        · subst hj2
          simp only [outG, ov_cons, if_true, if_neg hj]
          rw [if_pos (by simp), i1, if_neg (by omega), if_pos rfl, hd1]
          exact (F'.ren u0 hd u1 hd1 p).2
        · have : ¬ [r, q].contains j = true := by simp [hj, hj2]
          simp only [outG, if_neg this, ov_cons, if_neg hj, if_neg hj2]
end
theorem specF2_of {P : Program} {f : FuncId} {n : Nat} {rs : List ResultVar} {cc : CC} {as : Nat → Nat → List A} {F F' : Fam2} {x : Nat → Nat → A} (t : Txt P f n rs cc) (ha : (as 0 1).length ≤ n) (h0 : FamL2 as) (h1 : FamA2 x)
    (h : ∀ w0 I0 M0 m0, WPC (cxh P w0 I0 M0 n m0) cc (RetH (cxh P w0 I0 M0 n m0) rs 2 (x 0 1) (ov 0 (F'.B 0 1) (ov 1 (F'.C 0 1) (lkH [])))) ⟨argS (as 0 1), ov 0 (F.B 0 1) (ov 1 (F.C 0 1) (lkH []))⟩) : SpecF2 P f as F x F' :=
  ⟨h0, h1, specH_of t ha h⟩
/-- A call that leaves a root's family as it is: nothing is turned. -/
theorem sc_famS {P : Program} {K : Kont} {rest : List CO} {s : Nat → A} {H : Hp} {dd : Option Nat} {nm : Nm} {ix : Nat} {un : List Nat} {l : Bool} {lg : Lg} {g : FuncId} {aa : Array Operand} {ts : Array TypeId} {ars : Nat → List A} {F : Fam} {x : Nat → A} (r : Nat) (hS : SpecF P g ars F x F) (hF : ∀ p, H (r :: p) = F.F r p) (ha : aa.toList.map (evs s) = ars r) (hck : Ck un lg ⟨[([r], true)], []⟩)
    (h : SeqC P K rest (addL l ix ⟨[([r], true)], []⟩ lg) (Sta.put ⟨s, H⟩ dd (x r) H)) :
    SeqC P K (⟨dd, .call { callee := .value (.func g), args := aa, argTypes := ts }, none, nm, ix, un, l⟩ :: rest) lg ⟨s, H⟩ := by
  refine sc_callh .nil [([r], true)] [] (fun H2 hag => ?_) (fun o H2 ho => rfl) hck h
  rw [ha]
  have hF2 : ∀ p, H2 (r :: p) = F.F r p := fun p => by rw [hag (r :: p) (by simp [hit, hit1, List.isPrefixOf]), hF]
  obtain ⟨E, hc, hE⟩ := callR_fam r hS hF2
  have hc3 : CallOK P H2 g (ars r) (x r) E := by
    rcases hc with ⟨_, _, _, _, h5⟩ | ⟨_, _, _, h4⟩ | ⟨h1, _⟩
    · cases h5
    · cases h4
    · exact h1 H2 (fun o _ => rfl)
  have e2 : ov r (F.F r) H2 = H2 := by
    funext o
    cases o with
    | nil => rfl
    | cons j p =>
      by_cases hj : j = r
      · subst hj; simp [hF2]
      · simp [hj]
  rw [e2] at hE
  refine ⟨hc3.1, fun c w I μ vs a b d e => ?_⟩
  have := hc3.2 c w I μ vs a b d e
  rw [hE] at this
  exact this
end Go.G
