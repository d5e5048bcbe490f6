/-
  A region of operations in an abstract state: in the text's order, and in whatever order the model draws (one walk, in the text's order, serves all of them).
-/
import Derived.Test.YtfdlelcipnabpaaAbStep
namespace Go.Ab
set_option linter.unusedVariables false
set_option linter.unusedSimpArgs false
open Go.RowKit

/-- The abstract state stands for a frame and a world. -/
structure SR (c : Cx) (st : Sta) (a : Act) (w : World) (I : Nat → Prop) (μ : Mu) : Prop where
  sim : Sim c w I μ st.H
  size : a.tmps.size = c.n
  defers : a.defers = []
  rel : ∀ t, Rel w I μ (st.s t) (a.tmps.getD t undef)

theorem SR.evs {c : Cx} {st : Sta} {a : Act} {w : World} {I : Nat → Prop} {μ : Mu} (h : SR c st a w I μ) (x : Operand) : Rel w I μ (evs st.s x) (a.eval x) := by
  cases x with
  | tmp t => exact h.rel t
  | const x => exact rel_ofV x
  | global g => exact .v _ _
  | func f => exact .fnc _ _ _ _ rfl (fun k y hk => by simp at hk)

theorem SR.put {c : Cx} {st : Sta} {a : Act} {w w' : World} {I I' : Nat → Prop} {μ μ' : Mu} {H' : List Ob} (h : SR c st a w I μ) (hx : Ext I μ w I' μ' w') (hs : Sim c w' I' μ' H') {dst : Option Tmp} (hd : ∀ d, dst = some d → d < c.n) {x : A} {v : Value} (hv : Rel w' I' μ' x v) :
    SR c (st.put dst x H') (a.put dst v) w' I' μ' := by
  cases dst with
  | none => exact ⟨hs, h.size, h.defers, fun t => hx.rel (h.rel t)⟩
  | some d =>
    have hlt := hd d rfl
    refine ⟨hs, by simp [Act.put, h.size], h.defers, fun t => ?_⟩
    simp only [Sta.put, upd, Act.put]
    by_cases ht : t = d
    · subst ht
      rw [if_pos rfl]
      have : t < a.tmps.size := by rw [h.size]; exact hlt
      simpa [Array.getD_eq_getD_getElem?, this] using hv
    · rw [if_neg ht]
      have e : (a.tmps.setIfInBounds d v).getD t undef = a.tmps.getD t undef := by
        simp only [Array.getD_eq_getD_getElem?]
        rw [Array.getElem?_setIfInBounds_ne (Ne.symm ht)]
      rw [e]
      exact hx.rel (h.rel t)

/-- Does a guard's slot let an operation be carried out? (One that was not carried out lets none.) -/
def wantA (a : A) (f : Bool) : Option Bool :=
  match a with
  | .v (.bool b) => some (b == f)
  | .v (.tuple _) => some false
  | _ => none

/-- Is the operation carried out? -/
def Guard (ops : Array Oper) (st : Sta) (o : Oper) (q : Bool) : Prop :=
  match o.guard with
  | none => q = true
  | some (j, f) => ∃ d, (ops[j]?).bind (·.dst) = some d ∧ wantA (st.s d) f = some q

/-- What an operation yields that is carried out in one case alone. -/
def gd (q : Bool) (x : A) : A := bif q then x else .v undef

def YieldsA (P : Program) (fl : Bool) (ops : Array Oper) (o : Oper) (st : Sta) (x : A) (H' : List Ob) : Prop :=
  ∃ (q : Bool) (x0 : A), Guard ops st o q ∧ (q = true → OpR P fl o.op (evs st.s) st.H x0 H') ∧ x = gd q x0 ∧ (q = false → H' = st.H)

/-- The operations, in the text's order. -/
def SeqA (P : Program) (fl : Bool) (ops : Array Oper) (K : Sta → Prop) : List Oper → Sta → Prop
  | [], st => K st
  | o :: rest, st => ∃ x H', YieldsA P fl ops o st x H' ∧ SeqA P fl ops K rest (st.put o.dst x H')

def dstsOK (n : Nat) (ops : Array Oper) : Bool := ops.all fun o => match o.dst with
  | some d => Nat.blt d n
  | none => true

theorem dstsOK_get {n : Nat} {ops : Array Oper} (h : dstsOK n ops = true) {i : Nat} {o : Oper} (ho : ops[i]? = some o) : ∀ d, o.dst = some d → d < n := by
  intro d hd
  simp only [dstsOK, Array.all_eq_true] at h
  obtain ⟨hi, he⟩ := Array.getElem?_eq_some_iff.1 ho
  have := h i hi
  rw [he, hd] at this
  simpa [Nat.blt_eq] using this

theorem wanted_guard {ops : Array Oper} {c : Cx} {st : Sta} {a : Act} {w : World} {I : Nat → Prop} {μ : Mu} (h : SR c st a w I μ) (hd : dstsOK c.n ops = true) {o : Oper} {q : Bool} (hg : Guard ops st o q) : Region.wanted o (yielded ops a.tmps) = q := by
  unfold Guard at hg
  unfold Region.wanted
  cases hgd : o.guard with
  | none => simp only [hgd] at hg ⊢; exact hg.symm
  | some p =>
    obtain ⟨j, f⟩ := p
    simp only [hgd] at hg ⊢
    obtain ⟨d, h1, h2⟩ := hg
    have hr := h.rel d
    have hlt : d < a.tmps.size := by
      rw [h.size]
      cases hj : ops[j]? with
      | none => simp [hj] at h1
      | some oj => simp [hj] at h1; exact dstsOK_get hd hj d h1
    unfold wantA at h2
    split at h2
    · rename_i b hb
      cases h2
      rw [hb] at hr
      generalize hu : a.tmps.getD d undef = u at hr
      cases hr
      have ht : a.tmps[d]? = some (.bool b) := by
        simp [Array.getD_eq_getD_getElem?, hlt] at hu
        simp [hlt, hu]
      have : yielded ops a.tmps j = some b := by
        unfold yielded
        simp only [h1, Option.bind_some, ht]
      rw [this]
      cases b <;> cases f <;> rfl
    · rename_i vs hb
      cases h2
      rw [hb] at hr
      generalize hu : a.tmps.getD d undef = u at hr
      cases hr
      have ht : a.tmps[d]? = some (.tuple vs) := by
        simp [Array.getD_eq_getD_getElem?, hlt] at hu
        simp [hlt, hu]
      have : yielded ops a.tmps j = none := by
        unfold yielded
        simp only [h1, Option.bind_some, ht]
      rw [this]
      rfl
    · cases h2

theorem oper_sound {c : Cx} {st : Sta} {a : Act} {w : World} {I : Nat → Prop} {μ : Mu} {ops : Array Oper} (h : SR c st a w I μ) {o : Oper} (hd : ∀ d, o.dst = some d → d < c.n) {x : A} {H' : List Ob} {fl : Bool} (ho : OpR c.P fl o.op (evs st.s) st.H x H')
    {K : Act → World → Prop} {Q : Exit → Act → World → Prop} (hK : ∀ a' w' I' μ', SR c (st.put o.dst x H') a' w' I' μ' → K a' w') : o.wp c.P a w K Q := by
  have hr := opR_sound h.sim (h.evs) ho
  unfold Oper.wp
  generalize (execOp a.eval o).run c.P w = r at hr
  cases r with
  | halt e w' => exact hr.elim
  | ok nx w' =>
    cases nx <;> simp only [ROK] at hr <;> first | exact hr.elim | skip
    case value v =>
      obtain ⟨I', μ', h1, h2, h3⟩ := hr
      exact hK _ _ I' μ' (h.put h1 h2 hd h3)
    case skip =>
      obtain ⟨I', μ', h1, h2, rfl⟩ := hr
      exact hK _ _ I' μ' (h.put h1 h2 hd (.any _ _))
    case enter f args =>
      obtain ⟨rfl, hc⟩ := hr
      exact hc.mono fun e w'' ⟨v, he, I', μ', h1, h2, h3⟩ => by subst he; exact hK _ _ I' μ' (h.put h1 h2 hd h3)

/-- In the text's order. -/
theorem seq_sound {c : Cx} {fl : Bool} {ops : Array Oper} {K : Sta → Prop} {Q : Exit → Act → World → Prop} (hd : dstsOK c.n ops = true) (hQ : ∀ st a w I μ, SR c st a w I μ → K st → Q .normal a w) :
    ∀ (l : List Oper) (k : Nat) (st : Sta) (a : Act) (w : World) (I : Nat → Prop) (μ : Mu), (∀ j, l[j]? = ops[k + j]?) → SR c st a w I μ → SeqA c.P fl ops K l st → wpOps c.P ops Q (List.range' k l.length) a w
  | [], k, st, a, w, I, μ, _, h, hs => hQ st a w I μ h hs
  | o :: l, k, st, a, w, I, μ, hl, h, hs => by
    obtain ⟨x, H', ⟨q, x0, hg, h1, rfl, h2⟩, hs⟩ := hs
    have h0 : ops[k]? = some o := by simpa using (hl 0).symm
    have hw := wanted_guard h hd hg
    have hdst := dstsOK_get hd h0
    have next : ∀ a' w' I' μ', SR c (st.put o.dst (gd q x0) H') a' w' I' μ' → wpOps c.P ops Q (List.range' (k + 1) l.length) a' w' := fun a' w' I' μ' h' =>
      seq_sound hd hQ l (k + 1) _ a' w' I' μ' (fun j => by have := hl (j + 1); simpa [Nat.add_assoc, Nat.add_comm 1 j] using this) h' hs
    simp only [List.length_cons, List.range'_succ, wpOps, h0, hw]
    cases q with
    | true =>
      rw [if_pos rfl]
      exact .inl (oper_sound (ops := ops) h hdst (h1 rfl) next)
    | false =>
      rw [if_neg (by simp)]
      have e := h2 rfl
      subst e
      exact next _ _ I μ (h.put (Ext.refl _ _ _) h.sim hdst (.v _ _))

/-! ### whatever order is drawn -/
/-- 0: by its operands alone · 1: reads the call's own memory · 2: makes an object · 3: writes. -/
def clsOp (fl : Bool) : Op → Nat
  | .move _ | .assign _ | .pick .. | .build .. | .buildSlice .. | .nilCheck _ | .binOp .. | .unOp .. | .convert .. | .fieldAddr .. | .field .. | .index .. | .extract .. => 0
  | .call c => match c.callee with
    | .builtin .len | .builtin .min | .builtin .max => 0
    | .value _ => bif fl then 0 else 1
    | _ => 3
  | .load .. | .slice .. | .indexAddr .. => 1
  | .alloc _ | .box .. | .makeSlice .. => 2
  | _ => 3

theorem opR_cls1 {P : Program} {fl : Bool} {o : Oper} {ρ : Operand → A} {H H' : List Ob} {x : A} (hc : clsOp fl o.op ≤ 1) (h : OpR P fl o.op ρ H x H') : H' = H := by
  unfold OpR at h
  unfold clsOp at hc
  split at h <;> rename_i ho <;> simp only [ho] at hc <;> first
    | exact h.2
    | exact h.2.2
    | (obtain ⟨_, _, _, h⟩ := h; exact h)
    | (exact absurd hc (by decide))
    | skip
  · split at h <;> rename_i hq <;> simp only [hq] at hc <;> first
      | exact h.2
      | (obtain ⟨_, _, _, _, _, h⟩ := h; exact h)
      | (obtain ⟨_, _, _, _, h⟩ := h; exact h)
      | (exact absurd hc (by decide))
      | exact h.elim

theorem opR_cls0 {P : Program} {fl : Bool} {o : Oper} {ρ : Operand → A} {H H' : List Ob} {x : A} (hc : clsOp fl o.op = 0) (h : OpR P fl o.op ρ H x H') (H2 : List Ob) : OpR P fl o.op ρ H2 x H2 := by
  have hH : H' = H := opR_cls1 (by omega) h
  subst hH
  unfold OpR at h ⊢
  unfold clsOp at hc
  split at h <;> rename_i ho <;> simp only [ho] at hc ⊢ <;> first
    | exact ⟨h.1, trivial⟩
    | exact ⟨h.1, h.2.1, trivial⟩
    | (obtain ⟨q, h1, h2, _⟩ := h; exact ⟨q, h1, h2, trivial⟩)
    | (exact absurd hc (by decide))
    | skip
  · split at h <;> rename_i hq <;> simp only [hq] at hc ⊢ <;> first
      | exact ⟨h.1, trivial⟩
      | (obtain ⟨a, t, h1, h2, h3, _⟩ := h; exact ⟨a, t, h1, h2, h3, trivial⟩)
      | (cases fl
         · exact absurd hc (by decide)
         · obtain ⟨g, caps, h1, h2 | ⟨h2, _⟩, _⟩ := h
           · exact ⟨g, caps, h1, .inl h2, trivial⟩
           · cases h2)
      | (exact absurd hc (by decide))
      | exact h.elim

theorem opR_congr {P : Program} {fl : Bool} {o : Oper} {ρ ρ' : Operand → A} {H H' : List Ob} {x : A} (he : ∀ y ∈ o.op.operands, ρ y = ρ' y) (h : OpR P fl o.op ρ H x H') : OpR P fl o.op ρ' H x H' := by
  unfold OpR at h ⊢
  split at h <;> rename_i ho <;> simp only [ho, Op.operands] at he ⊢
  case h_6 _ t ps =>
    have e : (ps.toList.map fun p => (p.1, ρ' p.2)) = ps.toList.map fun p => (p.1, ρ p.2) := by
      apply List.map_congr_left
      intro p hp
      rw [he p.2 (by simp; exact ⟨p.1, by simpa using hp⟩)]
    rw [e]; exact h
  case h_7 _ t n ps =>
    have e : (ps.toList.map fun p => (p.1, ρ' p.2)) = ps.toList.map fun p => (p.1, ρ p.2) := by
      apply List.map_congr_left
      intro p hp
      rw [he p.2 (by simp; exact ⟨p.1, by simpa using hp⟩)]
    rw [e]; exact h
  case h_15 _ t a lo hi mx =>
    have ea : ρ' a = ρ a := (he a (by simp)).symm
    have e1 : lo.map ρ' = lo.map ρ := by cases lo with
      | none => rfl
      | some y => simp [he y (by simp)]
    have e2 : hi.map ρ' = hi.map ρ := by cases hi with
      | none => rfl
      | some y => simp [he y (by simp)]
    have e3 : mx.map ρ' = mx.map ρ := by cases mx with
      | none => rfl
      | some y => simp [he y (by simp)]
    rw [ea, e1, e2, e3]; exact h
  case h_21 _ q =>
    have emap : q.args.toList.map ρ' = q.args.toList.map ρ := by
      apply List.map_congr_left
      intro y hy
      exact (he y (by simp only [Call.operands]; exact Array.mem_append_right _ (by simpa using hy))).symm
    split at h <;> rename_i hq <;> try simp only [hq]
    · obtain ⟨a, t, h1, h2, h3, h4⟩ := h
      have ea : ρ a = ρ' a := he a (by simp [Call.operands, hq, h1])
      exact ⟨a, t, h1, h2, by rw [← ea]; exact h3, h4⟩
    · obtain ⟨a, b, t, u, h1, h2, h3⟩ := h
      have ea : ρ a = ρ' a := he a (by simp [Call.operands, hq, h1])
      have eb : ρ b = ρ' b := he b (by simp [Call.operands, hq, h1])
      exact ⟨a, b, t, u, h1, h2, by rw [← ea, ← eb]; exact h3⟩
    · rw [emap]; exact h
    · rw [emap]; exact h
    · rename_i f
      have ef : ρ f = ρ' f := he f (by simp [Call.operands, hq])
      rw [emap, ← ef]; exact h
    · exact h.elim
  case h_22 => exact h.elim
  all_goals first
    | exact h
    | (simp only [List.mem_toArray, Array.mem_def, List.mem_cons, List.not_mem_nil, or_false, forall_eq_or_imp, forall_eq] at he
       first
        | (rw [← he]; exact h)
        | (obtain ⟨e1, e2⟩ := he; rw [← e1, ← e2]; exact h)
        | (obtain ⟨e1, e2, e3⟩ := he; rw [← e1, ← e2, ← e3]; exact h))
end Go.Ab
