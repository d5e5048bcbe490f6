/-
  A region of operations in an abstract state: in the text's order, and in whatever order the model draws (one walk, in the text's order, serves all of them: of two operations that may change places neither turns what the other one looks at).
-/
import Derived.Test.YtebihdhapepejaaDoorGStep3
namespace Go.G
set_option linter.unusedVariables false
set_option linter.unusedSimpArgs false
open Go.RowKit

/-- The abstract state stands for a frame and a world. -/
structure SR (c : Cx) (st : Sta) (a : Act) (w : World) (I : Nat → Prop) (μ : Mu) : Prop where
  sim : Sim c w I μ st.H
  size : a.tmps.size = c.n
  defers : a.defers = c.ds
  rel : ∀ t, Rel w I μ (st.s t) (a.tmps.getD t undef)

theorem SR.evs {c : Cx} {st : Sta} {a : Act} {w : World} {I : Nat → Prop} {μ : Mu} (h : SR c st a w I μ) (x : Operand) : Rel w I μ (evs st.s x) (a.eval x) := by
  cases x with
  | tmp t => exact h.rel t
  | const x => exact rel_ofV x
  | global g => exact .v _ _
  | func f => exact .fnc _ _ _ _ _ _ rfl (fun k y hk => by simp at hk) rfl (fun k y hk => by simp at hk)

theorem SR.put {c : Cx} {st : Sta} {a : Act} {w w' : World} {I I' : Nat → Prop} {μ μ' : Mu} {H' : Hp} (h : SR c st a w I μ) (hx : Ext I μ w I' μ' w') (hs : Sim c w' I' μ' H') {dst : Option Tmp} (hd : ∀ d, dst = some d → d < c.n) {x : A} {v : Value} (hv : Rel w' I' μ' x v) :
    SR c (st.put dst x H') (a.put dst v) w' I' μ' := by
  cases dst with
  | none => exact ⟨hs, h.size, h.defers, fun t => hx.rel (h.rel t)⟩
  | some d =>
    have hlt := hd d rfl
    refine ⟨hs, by simp [Act.put, h.size], h.defers, fun t => ?_⟩
    simp only [Sta.put, upd, Act.put]
    by_cases ht : t = d
    · subst ht
      rw [if_pos rfl]
      have : t < a.tmps.size := by rw [h.size]; exact hlt
      simpa [Array.getD_eq_getD_getElem?, this] using hv
    · rw [if_neg ht]
      have e : (a.tmps.setIfInBounds d v).getD t undef = a.tmps.getD t undef := by
        simp only [Array.getD_eq_getD_getElem?]
        rw [Array.getElem?_setIfInBounds_ne (Ne.symm ht)]
      rw [e]
      exact hx.rel (h.rel t)

/-- Does a guard's slot let an operation be carried out? (One that was not carried out lets none.) -/
def wantA (a : A) (f : Bool) : Option Bool :=
  match a with
  | .v (.bool b) => some (b == f)
  | .v (.tuple _) => some false
  | _ => none

/-- Is the operation carried out? -/
def Guard (ops : Array Oper) (st : Sta) (o : Oper) (q : Bool) : Prop :=
  match o.guard with
  | none => q = true
  | some (j, f) => ∃ d, (ops[j]?).bind (·.dst) = some d ∧ wantA (st.s d) f = some q

/-- What an operation yields that is carried out in one case alone. -/
def gd (q : Bool) (x : A) : A := bif q then x else .v undef

structure Ft where
  R : Fp
  W : Fp

/-- Neither turns what the other one looks at. -/
def nc (f g : Ft) : Bool := dis f.W (g.R ++ g.W) && dis g.W (f.R ++ f.W)
theorem nc_symm {f g : Ft} (h : nc f g = true) : nc g f = true := by
  simp only [nc, Bool.and_eq_true] at h ⊢
  exact ⟨h.2, h.1⟩

/-- What is carried out, and how. -/
def YieldsA (P : Program) (D : TypeId → Prop) (nms : Nat → Nm) (ops : Array Oper) (i : Nat) (o : Oper) (st : Sta) (x : A) (E : Eff) (f : Ft) : Prop :=
  ∃ (q : Bool) (x0 : A), Guard ops st o q ∧ (q = true → OpR P D (nms i) o.op (evs st.s) st.H x0 E f.R f.W) ∧ x = gd q x0 ∧ (q = false → E = .nil ∧ f.R = [] ∧ f.W = [])

abbrev Lg := List (Nat × Ft)

/-- May two operations change places, and must be held against each other? -/
def Apart (need : Nat → Nat → Bool) (lg : Lg) (i : Nat) (f : Ft) : Prop := ∀ p, p ∈ lg → need p.1 i = true → nc p.2 f = true

/-- The operations, in the text's order. -/
def SeqA (P : Program) (D : TypeId → Prop) (nms : Nat → Nm) (need : Nat → Nat → Bool) (ops : Array Oper) (K : Sta → Prop) : List Oper → Nat → Lg → Sta → Prop
  | [], _, _, st => K st
  | o :: rest, i, lg, st => ∃ x E f, YieldsA P D nms ops i o st x E f ∧ Apart need lg i f ∧ SeqA P D nms need ops K rest (i + 1) ((i, f) :: lg) (st.put o.dst x (E.app st.H))

def dstsOK (n : Nat) (ops : Array Oper) : Bool := ops.all fun o => match o.dst with
  | some d => Nat.blt d n
  | none => true

theorem dstsOK_get {n : Nat} {ops : Array Oper} (h : dstsOK n ops = true) {i : Nat} {o : Oper} (ho : ops[i]? = some o) : ∀ d, o.dst = some d → d < n := by
  intro d hd
  simp only [dstsOK, Array.all_eq_true] at h
  obtain ⟨hi, he⟩ := Array.getElem?_eq_some_iff.1 ho
  have := h i hi
  rw [he, hd] at this
  simpa [Nat.blt_eq] using this

theorem wanted_guard {ops : Array Oper} {c : Cx} {st : Sta} {a : Act} {w : World} {I : Nat → Prop} {μ : Mu} (h : SR c st a w I μ) (hd : dstsOK c.n ops = true) {o : Oper} {q : Bool} (hg : Guard ops st o q) : Region.wanted o (yielded ops a.tmps) = q := by
  unfold Guard at hg
  unfold Region.wanted
  cases hgd : o.guard with
  | none => simp only [hgd] at hg ⊢; exact hg.symm
  | some p =>
    obtain ⟨j, f⟩ := p
    simp only [hgd] at hg ⊢
    obtain ⟨d, h1, h2⟩ := hg
    have hr := h.rel d
    have hlt : d < a.tmps.size := by
      rw [h.size]
      cases hj : ops[j]? with
      | none => simp [hj] at h1
      | some oj => simp [hj] at h1; exact dstsOK_get hd hj d h1
    unfold wantA at h2
    split at h2
    · rename_i b hb
      cases h2
      rw [hb] at hr
      generalize hu : a.tmps.getD d undef = u at hr
      cases hr
      have ht : a.tmps[d]? = some (.bool b) := by
        simp [Array.getD_eq_getD_getElem?, hlt] at hu
        simp [hlt, hu]
      have : yielded ops a.tmps j = some b := by
        unfold yielded
        simp only [h1, Option.bind_some, ht]
      rw [this]
      cases b <;> cases f <;> rfl
    · rename_i vs hb
      cases h2
      rw [hb] at hr
      generalize hu : a.tmps.getD d undef = u at hr
      cases hr
      have ht : a.tmps[d]? = some (.tuple vs) := by
        simp [Array.getD_eq_getD_getElem?, hlt] at hu
        simp [hlt, hu]
      have : yielded ops a.tmps j = none := by
        unfold yielded
        simp only [h1, Option.bind_some, ht]
      rw [this]
      rfl
    · cases h2

theorem oper_sound {c : Cx} {st : Sta} {a : Act} {w : World} {I : Nat → Prop} {μ : Mu} (h : SR c st a w I μ) {o : Oper} (hd : ∀ d, o.dst = some d → d < c.n) {nm : Nm} {x : A} {E : Eff} {R W : Fp} (ho : OpR c.P c.die nm o.op (evs st.s) st.H x E R W)
    {K : Act → World → Prop} {Q : Exit → Act → World → Prop} (hD : ∀ t w', c.die t → Kept c.Mb c.w0 w' → Q (.panic [dieE t]) a w') (hK : ∀ a' w' I' μ', SR c (st.put o.dst x (E.app st.H)) a' w' I' μ' → K a' w') : o.wp c.P a w K Q := by
  have hr := opR_sound h.sim (h.evs) (fun _ => rfl) ho
  unfold Oper.wp
  generalize (execOp a.eval o).run c.P w = r at hr
  cases r with
  | halt e w' => exact hr.elim
  | ok nx w' =>
    cases nx <;> simp only [ROK] at hr <;> first | exact hr.elim | skip
    case value v =>
      obtain ⟨I', μ', h1, h2, h3⟩ := hr
      exact hK _ _ I' μ' (h.put h1 h2 hd h3)
    case skip =>
      obtain ⟨I', μ', h1, h2, rfl⟩ := hr
      exact hK _ _ I' μ' (h.put h1 h2 hd (.any _ _))
    case enter f args =>
      obtain ⟨rfl, hc⟩ := hr
      exact hc.mono fun e w'' hh => by
        rcases hh with ⟨v, he, I', μ', h1, h2, h3⟩ | ⟨t, h1, he, h2⟩
        · subst he; exact hK _ _ I' μ' (h.put h1 h2 hd h3)
        · subst he; exact hD t w'' h1 h2

/-- One that is not carried out. -/
theorem idle_sound {c : Cx} {st : Sta} {a : Act} {w : World} {I : Nat → Prop} {μ : Mu} (h : SR c st a w I μ) {dst : Option Tmp} (hd : ∀ d, dst = some d → d < c.n) : SR c (st.put dst (.v undef) st.H) (a.put dst undef) w I μ :=
  h.put (Ext.refl _ _ _) h.sim hd (.v _ _)

/-- In the text's order. -/
theorem seq_sound {c : Cx} {nms : Nat → Nm} {need : Nat → Nat → Bool} {ops : Array Oper} {K : Sta → Prop} {Q : Exit → Act → World → Prop} (hd : dstsOK c.n ops = true) (hD : ∀ t a w', c.die t → a.defers = c.ds → Kept c.Mb c.w0 w' → Q (.panic [dieE t]) a w') (hQ : ∀ st a w I μ, SR c st a w I μ → K st → Q .normal a w) :
    ∀ (l : List Oper) (k : Nat) (lg : Lg) (st : Sta) (a : Act) (w : World) (I : Nat → Prop) (μ : Mu), (∀ j, l[j]? = ops[k + j]?) → SR c st a w I μ → SeqA c.P c.die nms need ops K l k lg st → wpOps c.P ops Q (List.range' k l.length) a w
  | [], k, lg, st, a, w, I, μ, _, h, hs => hQ st a w I μ h hs
  | o :: l, k, lg, st, a, w, I, μ, hl, h, hs => by
    obtain ⟨x, E, f, ⟨q, x0, hg, h1, rfl, h2⟩, _, hs⟩ := hs
    have h0 : ops[k]? = some o := by simpa using (hl 0).symm
    have hw := wanted_guard h hd hg
    have hdst := dstsOK_get hd h0
    have next : ∀ a' w' I' μ', SR c (st.put o.dst (gd q x0) (E.app st.H)) a' w' I' μ' → wpOps c.P ops Q (List.range' (k + 1) l.length) a' w' := fun a' w' I' μ' h' =>
      seq_sound hd hD hQ l (k + 1) _ _ a' w' I' μ' (fun j => by have := hl (j + 1); simpa [Nat.add_assoc, Nat.add_comm 1 j] using this) h' hs
    simp only [List.length_cons, List.range'_succ, wpOps, h0, hw]
    cases q with
    | true =>
      rw [if_pos rfl]
      exact .inl (oper_sound h hdst (h1 rfl) (fun t w' e k' => hD t a w' e h.defers k') next)
    | false =>
      rw [if_neg (by simp)]
      obtain ⟨rfl, _, _⟩ := h2 rfl
      exact next _ _ I μ (idle_sound h hdst)
end Go.G
