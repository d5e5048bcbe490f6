/-
  One operation, and a region of operations, in an abstract state: in the text's order, and in whatever order the model draws.
-/
import Derived.Test.YtfdlelcipnabpaaAbScalar
import Derived.Deep.Quiet
namespace Go.Ab
set_option linter.unusedVariables false
set_option linter.unusedSimpArgs false
open Go.RowKit

structure Sta where
  s : Nat → A
  H : List Ob

def upd (s : Nat → A) (d : Nat) (x : A) : Nat → A := fun t => if t = d then x else s t

def Sta.put (st : Sta) (dst : Option Tmp) (x : A) (H : List Ob) : Sta :=
  match dst with
  | some d => ⟨upd st.s d x, H⟩
  | none => ⟨st.s, H⟩

def evs (s : Nat → A) : Operand → A
  | .tmp t => s t
  | .const x => ofV x
  | .global g => .v (.pointer (some ⟨g, 0, none⟩))
  | .func f => .fnc f []

/-! ### contracts of functions: pure data in, pure data out -/
def okFn (P : Program) (f : FuncId) : Bool :=
  match P.funcs[f]? with
  | some fn => fn.body.isSome && !(fn.name == "runtime.NumGoroutine")
  | none => false

def Fresh (w : World) (I : Nat → Prop) (w' : World) : Nat → Prop := fun b => I b ∨ (w.heap.size ≤ b ∧ b < w'.heap.size)

def Spec (P : Program) (f : FuncId) (args : List A) (r : A) : Prop :=
  okFn P f = true ∧ ∀ (w : World) (I : Nat → Prop) (vs : Array Value), (∀ b, I b → b < w.heap.size) → vs.size = args.length → (∀ (k : Nat) (y : A), args[k]? = some y → Rel w I [] y (vs.getD k undef)) →
    Calls P f vs w fun e w' => ∃ v, e = .returned v ∧ Below w.heap.size w w' ∧ Rel w' (Fresh w I w') [] r v

/-- The blocks of the call's own. -/
def Owned (H : List Ob) (μ : Mu) (b : Nat) : Prop := ∃ (o : Nat) (ob : Ob) (L : Loc), H[o]? = some ob ∧ ob.live = true ∧ μ[o]? = some (some L) ∧ L.b = b

/-- A value of the call's own memory, seen as immutable while nothing is written. -/
def Frz (H : List Ob) (a a' : A) : Prop := ∀ (c : Cx) (w : World) (I : Nat → Prop) (μ : Mu) (v : Value), Sim c w I μ H → Rel w I μ a v → Rel w (fun b => I b ∨ Owned H μ b) [] a' v

def FrzL (H : List Ob) : List A → List A → Prop
  | [], [] => True
  | a :: l, a' :: l' => Frz H a a' ∧ FrzL H l l'
  | _, _ => False

def A.flat1 : A → Bool
  | .v _ | .any => true
  | _ => false
def A.flat : A → Bool
  | .agg cs => cs.all A.flat1
  | .tup xs => xs.all fun x => match x with
    | .agg cs => cs.all A.flat1
    | x => x.flat1
  | x => x.flat1

theorem Rel.of_flat1 {w w' : World} {I I' : Nat → Prop} {μ μ' : Mu} {a : A} {x : Value} (h : Rel w I μ a x) (hb : a.flat1 = true) : Rel w' I' μ' a x := by
  cases a <;> simp [A.flat1] at hb
  · exact .any _ _
  · cases h; exact .v _ _
theorem Rel.of_flat {w w' : World} {I I' : Nat → Prop} {μ μ' : Mu} {a : A} {x : Value} (h : Rel w I μ a x) (hb : a.flat = true) : Rel w' I' μ' a x := by
  cases a with
  | agg cs =>
    cases h with
    | agg _ _ vs hl hr =>
      refine .agg _ _ _ hl fun k y hk => (hr k y hk).of_flat1 ?_
      simp only [A.flat, List.all_eq_true] at hb
      exact hb _ (List.mem_of_getElem? hk)
  | tup xs =>
    cases h with
    | tup _ _ vs hl hr =>
      refine .tup _ _ _ hl fun k y hk => ?_
      simp only [A.flat, List.all_eq_true] at hb
      have h1 := hb _ (List.mem_of_getElem? hk)
      have h2 := hr k y hk
      generalize vs.getD k undef = u at h2 ⊢
      cases y with
      | agg cs =>
        cases h2 with
        | agg _ _ vs' hl' hr' =>
          refine .agg _ _ _ hl' fun k' y' hk' => (hr' k' y' hk').of_flat1 ?_
          simp only [List.all_eq_true] at h1
          exact h1 _ (List.mem_of_getElem? hk')
      | _ => exact h2.of_flat1 (by simpa using h1)
  | _ => exact h.of_flat1 (by simpa [A.flat] using hb)

/-- A call of a function by its contract: what is the call's own goes in as it reads; then what comes back bears no memory. (fl: nothing of the call's own goes in.) -/
def CallR (P : Program) (fl : Bool) (H : List Ob) (g : FuncId) (args : List A) (x : A) : Prop :=
  (args.all A.bare = true ∧ Spec P g args x) ∨ (fl = false ∧ ∃ args', FrzL H args args' ∧ Spec P g args' x ∧ x.flat = true)

/-! ### one operation -/
def OpR (P : Program) (fl : Bool) (op : Op) (ρ : Operand → A) (H : List Ob) (x : A) (H' : List Ob) : Prop :=
  match op with
  | .move a | .assign a => x = ρ a ∧ H' = H
  | .pick c a b => ∃ q, ρ c = .v (.bool q) ∧ x = (bif q then ρ a else ρ b) ∧ H' = H
  | .alloc e => allocA P H e = some (x, H')
  | .box _ a => boxA H (ρ a) = some (x, H')
  | .build t ps => buildA P t (ps.toList.map fun p => (p.1, ρ p.2)) = some x ∧ H' = H
  | .buildSlice t n ps => buildSliceA P t n (ps.toList.map fun p => (p.1, ρ p.2)) = some x ∧ H' = H
  | .load t a => loadA P H t (ρ a) = some x ∧ H' = H
  | .store t a v => storeA P H t (ρ a) (ρ v) = some H' ∧ x = .any
  | .nilCheck a => (ρ a).isPtr = true ∧ x = ρ a ∧ H' = H
  | .binOp op t a b _ => binA P op t (ρ a) (ρ b) = some x ∧ H' = H
  | .unOp op _ a => unA op (ρ a) = some x ∧ H' = H
  | .convert s d a => convA P s d (ρ a) = some x ∧ H' = H
  | .makeSlice t l c => makeSliceA P H t (ρ l) (ρ c) = some (x, H')
  | .slice t a lo hi mx => sliceA P H t (ρ a) (lo.map ρ) (hi.map ρ) (mx.map ρ) = some x ∧ H' = H
  | .fieldAddr s a f => fieldAddrA P s (ρ a) f = some x ∧ H' = H
  | .field s a f => fieldA P s (ρ a) f = some x ∧ H' = H
  | .indexAddr t a i => indexAddrA P H t (ρ a) (ρ i) = some x ∧ H' = H
  | .index t a i => indexA P t (ρ a) (ρ i) = some x ∧ H' = H
  | .extract a i => extractA (ρ a) i = some x ∧ H' = H
  | .call c => match c.callee with
    | .builtin .len => ∃ a t, c.args = #[a] ∧ c.argTypes = #[t] ∧ lenA P t (ρ a) = some x ∧ H' = H
    | .builtin .append => ∃ a b t u, c.args = #[a, b] ∧ c.argTypes = #[t, u] ∧ appendA P H t u (ρ a) (ρ b) = some (x, H')
    | .builtin .min => minmaxA false (c.args.toList.map ρ) = some x ∧ H' = H
    | .builtin .max => minmaxA true (c.args.toList.map ρ) = some x ∧ H' = H
    | .value f => ∃ g caps, ρ f = .fnc g caps ∧ CallR P fl H g (c.args.toList.map ρ ++ caps) x ∧ H' = H
    | _ => False
  | _ => False

/-- What is asked of the model's operation. -/
def ROK (c : Cx) (w : World) (I : Nat → Prop) (μ : Mu) (x : A) (H' : List Ob) : Result Next → Prop
  | .ok (.value v) w' => ∃ I' μ', Ext I μ w I' μ' w' ∧ Sim c w' I' μ' H' ∧ Rel w' I' μ' x v
  | .ok .skip w' => ∃ I' μ', Ext I μ w I' μ' w' ∧ Sim c w' I' μ' H' ∧ x = .any
  | .ok (.enter f args) w' => w' = w ∧ Calls c.P f args w fun e w'' => ∃ v, e = .returned v ∧ ∃ I' μ', Ext I μ w I' μ' w'' ∧ Sim c w'' I' μ' H' ∧ Rel w'' I' μ' x v
  | _ => False

theorem ROK.value {c : Cx} {w : World} {I : Nat → Prop} {μ : Mu} {x : A} {H : List Ob} (hs : Sim c w I μ H) {m : Sem Value} (h : ∃ v, m.run c.P w = .ok v w ∧ Rel w I μ x v) :
    ROK c w I μ x H ((do pure (.value (← m)) : Sem Next).run c.P w) := by
  obtain ⟨v, h1, h2⟩ := h
  simp only [Sem.run_bind, h1, Result.andThen_ok, Sem.run_pure]
  exact ⟨I, μ, Ext.refl _ _ _, hs, h2⟩

theorem ROK.value' {c : Cx} {w : World} {I : Nat → Prop} {μ : Mu} {x : A} {H' : List Ob} {m : Sem Value} (h : ∃ v w', m.run c.P w = .ok v w' ∧ ∃ I' μ', Ext I μ w I' μ' w' ∧ Sim c w' I' μ' H' ∧ Rel w' I' μ' x v) :
    ROK c w I μ x H' ((do pure (.value (← m)) : Sem Next).run c.P w) := by
  obtain ⟨v, w', h1, I', μ', h2, h3, h4⟩ := h
  simp only [Sem.run_bind, h1, Result.andThen_ok, Sem.run_pure]
  exact ⟨I', μ', h2, h3, h4⟩

theorem ROK.run {c : Cx} {w : World} {I : Nat → Prop} {μ : Mu} {x : A} {H : List Ob} (hs : Sim c w I μ H) {r : Result Value} (h : ∃ v, r = .ok v w ∧ Rel w I μ x v) :
    ROK c w I μ x H (r.andThen fun a w' => .ok (.value a) w') := by
  obtain ⟨v, rfl, h2⟩ := h
  exact ⟨I, μ, Ext.refl _ _ _, hs, h2⟩

theorem ROK.run' {c : Cx} {w : World} {I : Nat → Prop} {μ : Mu} {x : A} {H' : List Ob} {r : Result Value} (h : ∃ v w', r = .ok v w' ∧ ∃ I' μ', Ext I μ w I' μ' w' ∧ Sim c w' I' μ' H' ∧ Rel w' I' μ' x v) :
    ROK c w I μ x H' (r.andThen fun a w' => .ok (.value a) w') := by
  obtain ⟨v, w', rfl, h⟩ := h
  exact h

theorem relO {w : World} {I : Nat → Prop} {μ : Mu} {ρ : Operand → A} {σ : Operand → Value} (h : ∀ x, Rel w I μ (ρ x) (σ x)) (o : Option Operand) : RelO w I μ (o.map ρ) (o.map σ) := by
  cases o with
  | none => trivial
  | some x => exact h x

theorem below_same {c : Cx} {w w' : World} {I : Nat → Prop} {μ : Mu} {H : List Ob} (hs : Sim c w I μ H) (hb : Below w.heap.size w w') : Ext I μ w (Fresh w I w') μ w' ∧ Sim c w' (Fresh w I w') μ H :=
  hs.same (I' := Fresh w I w') ⟨hb.os, hb.tape, hb.output, hb.size, fun k hk _ => hb.block k hk⟩ (fun b hb => .inl hb) (fun b hb => hb)

theorem frzL_get {H : List Ob} : ∀ {l l' : List A}, FrzL H l l' → l'.length = l.length ∧ ∀ (k : Nat) (a' : A), l'[k]? = some a' → ∃ a, l[k]? = some a ∧ Frz H a a'
  | [], [], _ => ⟨rfl, fun k a' h => by simp at h⟩
  | a :: l, a' :: l', h => by
    obtain ⟨h1, h2⟩ := frzL_get h.2
    refine ⟨by simp [h1], fun k x hk => ?_⟩
    cases k with
    | zero => simp at hk; subst hk; exact ⟨a, rfl, h.1⟩
    | succ k => exact h2 k x (by simpa using hk)
  | [], _ :: _, h => h.elim
  | _ :: _, [], h => h.elim

theorem call_sound {c : Cx} {w : World} {I : Nat → Prop} {μ : Mu} {H : List Ob} (hs : Sim c w I μ H) {g : FuncId} {args : List A} {vs : Array Value} {x : A} (hl : vs.size = args.length)
    (hr : ∀ (k : Nat) (y : A), args[k]? = some y → Rel w I μ y (vs.getD k undef)) {fl : Bool} (h : CallR c.P fl H g args x) : ROK c w I μ x H ((callFunc g vs).run c.P w) := by
  have enter : okFn c.P g = true → (callFunc g vs).run c.P w = .ok (.enter g vs) w := fun hk => by
    unfold okFn at hk
    cases hf : c.P.funcs[g]? with
    | none => simp [hf] at hk
    | some fn =>
      simp only [hf, Bool.and_eq_true, Bool.not_eq_true'] at hk
      have hb : fn.body.isNone = false := by cases hq : fn.body <;> simp_all
      simp only [callFunc, Sem.run_bind, run_program, Result.andThen_ok, hf, hk.2, hb, Bool.false_eq_true, if_false, Sem.run_pure]
  rcases h with ⟨hb, hk, h⟩ | ⟨_, args', hf, ⟨hk, h⟩, hx⟩
  · rw [enter hk]
    refine ⟨rfl, (h w I vs hs.lt hl (fun k y hy => (hr k y hy).of_bare (by simp only [List.all_eq_true] at hb; exact hb _ (List.mem_of_getElem? hy)))).mono fun e w' ⟨v, he, hbl, hv⟩ => ⟨v, he, ?_⟩⟩
    obtain ⟨h1, h2⟩ := below_same hs hbl
    exact ⟨_, μ, h1, h2, hv.mu (by simp)⟩
  · rw [enter hk]
    obtain ⟨hl', hg⟩ := frzL_get hf
    refine ⟨rfl, (h w (fun b => I b ∨ Owned H μ b) vs (fun b hb => by
      rcases hb with hb | ⟨o, ob, L, h1, h2, h3, rfl⟩
      · exact hs.lt b hb
      · exact (hs.own o ob L h1 h2 h3).2.2) (by omega) (fun k y hy => ?_)).mono fun e w' ⟨v, he, hbl, hv⟩ => ⟨v, he, ?_⟩⟩
    · obtain ⟨a, ha, hfa⟩ := hg k y hy
      exact hfa c w I μ _ hs (hr k a ha)
    · obtain ⟨h1, h2⟩ := below_same hs hbl
      exact ⟨_, μ, h1, h2, hv.of_flat hx⟩

theorem opR_sound {c : Cx} {w : World} {I : Nat → Prop} {μ : Mu} {H H' : List Ob} (hs : Sim c w I μ H) {o : Oper} {ρ : Operand → A} {σ : Operand → Value} {x : A} (hρ : ∀ y, Rel w I μ (ρ y) (σ y)) {fl : Bool} (h : OpR c.P fl o.op ρ H x H') :
    ROK c w I μ x H' ((execOp σ o).run c.P w) := by
  unfold OpR at h
  unfold execOp
  split at h
  · rename_i a ho
    obtain ⟨rfl, rfl⟩ := h
    simp only [ho]
    exact ⟨I, μ, Ext.refl _ _ _, hs, hρ a⟩
  · rename_i a ho
    obtain ⟨rfl, rfl⟩ := h
    simp only [ho]
    exact ⟨I, μ, Ext.refl _ _ _, hs, hρ a⟩
  · rename_i d a b ho
    obtain ⟨q, h1, rfl, rfl⟩ := h
    have h2 := hρ d
    rw [h1] at h2
    generalize hd : σ d = u at h2
    cases h2
    simp only [ho, hd, asBool, Sem.run_bind, Sem.run_pure, Result.andThen_ok]
    refine ⟨I, μ, Ext.refl _ _ _, hs, ?_⟩
    cases q
    · exact hρ b
    · exact hρ a
  · rename_i e ho
    simp only [ho]
    exact ROK.value' (allocA_sound hs h)
  · rename_i e a ho
    simp only [ho]
    exact ROK.value' (boxA_sound hs (hρ a) h)
  · rename_i t ps ho
    obtain ⟨h, rfl⟩ := h
    simp only [ho]
    exact ROK.value hs (buildA_sound (P := c.P) (by simp [Function.comp_def]) (fun k p q hp hq => by
      simp only [Array.toList_map, List.getElem?_map, Option.map_eq_some_iff] at hp hq
      obtain ⟨u, hu, rfl⟩ := hp
      obtain ⟨u', hu', rfl⟩ := hq
      rw [hu] at hu'
      cases hu'
      exact hρ _) h)
  · rename_i t n ps ho
    obtain ⟨h, rfl⟩ := h
    simp only [ho]
    exact ROK.value' (buildSliceA_sound hs (by simp [Function.comp_def]) (fun k p q hp hq => by
      simp only [Array.toList_map, List.getElem?_map, Option.map_eq_some_iff] at hp hq
      obtain ⟨u, hu, rfl⟩ := hp
      obtain ⟨u', hu', rfl⟩ := hq
      rw [hu] at hu'
      cases hu'
      exact hρ _) h)
  · rename_i t a ho
    obtain ⟨h, rfl⟩ := h
    simp only [ho]
    exact ROK.value hs (loadA_sound hs (hρ a) h)
  · rename_i t a v ho
    obtain ⟨h, rfl⟩ := h
    simp only [ho]
    obtain ⟨w', h1, h2, h3⟩ := storeA_sound hs (hρ a) (hρ v) h
    simp only [Sem.run_bind, h1, Result.andThen_ok, Sem.run_pure]
    exact ⟨I, μ, h2, h3, rfl⟩
  · rename_i a ho
    obtain ⟨h1, rfl, rfl⟩ := h
    obtain ⟨q, hq⟩ := isPtr_some (hρ a) h1
    have h2 := hρ a
    rw [hq] at h2
    simp only [ho, hq, Sem.run_pure]
    exact ⟨I, μ, Ext.refl _ _ _, hs, h2⟩
  · rename_i op t a b yt ho
    obtain ⟨h, rfl⟩ := h
    simp only [ho]
    exact ROK.value hs (binA_sound (P := c.P) (hρ a) (hρ b) h)
  · rename_i op t a ho
    obtain ⟨h, rfl⟩ := h
    simp only [ho]
    exact ROK.value hs (unA_sound (P := c.P) (hρ a) h)
  · rename_i s d a ho
    obtain ⟨h, rfl⟩ := h
    simp only [ho]
    exact ROK.value hs (convA_sound (P := c.P) (hρ a) h)
  · rename_i t l k ho
    simp only [ho]
    exact ROK.value' (makeSliceA_sound hs (hρ l) (hρ k) h)
  · rename_i t a lo hi mx ho
    obtain ⟨h, rfl⟩ := h
    simp only [ho]
    exact ROK.value hs (sliceA_sound hs (hρ a) (relO hρ lo) (relO hρ hi) (relO hρ mx) h)
  · rename_i s a f ho
    obtain ⟨h, rfl⟩ := h
    simp only [ho]
    exact ROK.value hs (fieldAddrA_sound (P := c.P) (hρ a) h)
  · rename_i s a f ho
    obtain ⟨h, rfl⟩ := h
    simp only [ho]
    exact ROK.value hs (fieldA_sound (P := c.P) (hρ a) h)
  · rename_i t a i ho
    obtain ⟨h, rfl⟩ := h
    simp only [ho]
    exact ROK.value hs (indexAddrA_sound hs (hρ a) (hρ i) h)
  · rename_i t a i ho
    obtain ⟨h, rfl⟩ := h
    simp only [ho]
    exact ROK.value hs (indexA_sound (P := c.P) (hρ a) (hρ i) h)
  · rename_i a i ho
    obtain ⟨h, rfl⟩ := h
    simp only [ho]
    exact ROK.value hs (extractA_sound (P := c.P) (hρ a) h)
  · rename_i q ho
    split at h
    · rename_i hc
      obtain ⟨a, t, ha, ht, h, rfl⟩ := h
      simp only [ho, resolve, hc, ha, ht, Sem.run_bind, Sem.run_pure, Result.andThen_ok, invoke, builtin]
      exact ROK.run hs (by simpa using lenA_sound (P := c.P) (ty := o.type) (hρ a) h)
    · rename_i hc
      obtain ⟨a, b, t, u, ha, ht, h⟩ := h
      simp only [ho, resolve, hc, ha, ht, Sem.run_bind, Sem.run_pure, Result.andThen_ok, invoke, builtin]
      exact ROK.run' (by simpa using appendA_sound (ty := o.type) hs (hρ a) (hρ b) h)
    · rename_i hc
      obtain ⟨h, rfl⟩ := h
      simp only [ho, resolve, hc, Sem.run_bind, Sem.run_pure, Result.andThen_ok, invoke, builtin]
      exact ROK.run hs (by
        have := min_sound (P := c.P) (w := w) (I := I) (μ := μ) (as := q.args.toList.map ρ) (xs := q.args.toList.map σ) (ts := q.argTypes) (ty := o.type) (by simp) (fun k a x ha hx => by
          simp only [List.getElem?_map, Option.map_eq_some_iff] at ha hx
          obtain ⟨u, hu, rfl⟩ := ha
          obtain ⟨u', hu', rfl⟩ := hx
          rw [hu] at hu'
          cases hu'
          exact hρ _) h
        have e : (q.args.toList.map σ).toArray = q.args.map σ := by apply Array.ext'; simp
        rwa [e] at this)
    · rename_i hc
      obtain ⟨h, rfl⟩ := h
      simp only [ho, resolve, hc, Sem.run_bind, Sem.run_pure, Result.andThen_ok, invoke, builtin]
      exact ROK.run hs (by
        have := max_sound (P := c.P) (w := w) (I := I) (μ := μ) (as := q.args.toList.map ρ) (xs := q.args.toList.map σ) (ts := q.argTypes) (ty := o.type) (by simp) (fun k a x ha hx => by
          simp only [List.getElem?_map, Option.map_eq_some_iff] at ha hx
          obtain ⟨u, hu, rfl⟩ := ha
          obtain ⟨u', hu', rfl⟩ := hx
          rw [hu] at hu'
          cases hu'
          exact hρ _) h
        have e : (q.args.toList.map σ).toArray = q.args.map σ := by apply Array.ext'; simp
        rwa [e] at this)
    · rename_i f hc
      obtain ⟨g, caps, hf, h, rfl⟩ := h
      have h2 := hρ f
      rw [hf] at h2
      generalize hd : σ f = u at h2
      cases h2 with
      | fnc _ _ _ cv hcl hcr =>
        simp only [ho, resolve, hc, hd, Deferred.ofValue, Sem.run_bind, Sem.run_pure, Result.andThen_ok, invoke]
        refine call_sound hs ?_ ?_ h
        · simp [hcl]
        · intro k y hk
          rcases Nat.lt_or_ge k q.args.size with hlt | hge
          · rw [List.getElem?_append_left (by simpa using hlt)] at hk
            simp only [List.getElem?_map, Option.map_eq_some_iff] at hk
            obtain ⟨z, hz, rfl⟩ := hk
            have e : (#[] ++ q.args.map σ ++ cv).getD k undef = σ z := by
              have hz' : q.args[k]? = some z := by simpa using hz
              simp only [Array.getD_eq_getD_getElem?, Array.empty_append]
              rw [Array.getElem?_append_left (by simpa using hlt), Array.getElem?_map, hz']
              rfl
            rw [e]; exact hρ z
          · rw [List.getElem?_append_right (by simpa using hge)] at hk
            have e : (#[] ++ q.args.map σ ++ cv).getD k undef = cv.getD (k - q.args.size) undef := by
              simp only [Array.getD_eq_getD_getElem?, Array.empty_append]
              rw [Array.getElem?_append_right (by simpa using hge), Array.size_map]
            rw [e]
            exact hcr _ y (by simpa using hk)
    · exact h.elim
  · exact h.elim
end Go.Ab
