/-
  Abstract values, and how they stand to the model's values in a world: immutable slices and pointers by value, objects of the call's own by number.
-/
import Derived.WalkKit
namespace Go.Ab
set_option linter.unusedVariables false
set_option linter.unusedSimpArgs false
open Go.RowKit

inductive A where
  | any
  | v (x : Value)
  | sl (full : Bool) (xs : List A)
  | agg (cs : List A)
  | tup (xs : List A)
  | pim (cs : List A)
  | pob (o off : Nat)
  | osl (o off len : Nat)
  | pel (o i j : Nat)
  | fnc (f : FuncId) (caps : List A)
  | ifc (t : TypeId) (x : A)
  deriving Inhabited

def A.cells : A → List A
  | .agg cs => cs
  | x => [x]

/-- One cell of memory holds it. -/
def A.one : A → Bool
  | .any | .agg _ | .tup _ => false
  | .v x => x.oneCell'
  | _ => true

def A.ones (l : List A) : Bool := l.all A.one

/-- Where an object of the call's own lies: its block; of a row: how many elements there is room for, how many cells each has; the block's element type. -/
structure Loc where
  b : Nat
  cap : Nat
  sz : Nat
  e : TypeId

abbrev Mu := List (Option Loc)

inductive Rel (w : World) (I : Nat → Prop) : Mu → A → Value → Prop
  | any (μ x) : Rel w I μ .any x
  | v (μ x) : Rel w I μ (.v x) x
  | slN (μ f a cap) : (f = true → cap = 0) → Rel w I μ (.sl f []) (.slice a 0 cap)
  | sl (μ f b off n cap sz xs) (g : Nat → Value) : I b → n = xs.length → xs.length ≤ cap → (f = true → cap = xs.length) → (∀ x, x ∈ xs → x.cells.length = sz) →
      (∀ (k : Nat) (y : A), (xs.flatMap A.cells)[k]? = some y → y.one = true) →
      (∀ (k : Nat) (y : A), (xs.flatMap A.cells)[k]? = some y → w.cell? ⟨b, off + k, none⟩ = some (g k)) →
      (∀ (k : Nat) (y : A), (xs.flatMap A.cells)[k]? = some y → Rel w I [] y (g k)) → Rel w I μ (.sl f xs) (.slice (some ⟨b, off, none⟩) n cap)
  | agg (μ cs vs) : vs.size = cs.length → (∀ (k : Nat) (y : A), cs[k]? = some y → Rel w I μ y (vs.getD k undef)) → Rel w I μ (.agg cs) (.agg vs)
  | tup (μ xs vs) : vs.size = xs.length → (∀ (k : Nat) (y : A), xs[k]? = some y → Rel w I μ y (vs.getD k undef)) → Rel w I μ (.tup xs) (.tuple vs)
  | pim (μ b off cs) (g : Nat → Value) : I b → (∀ (k : Nat) (y : A), cs[k]? = some y → y.one = true) → (∀ (k : Nat) (y : A), cs[k]? = some y → w.cell? ⟨b, off + k, none⟩ = some (g k)) →
      (∀ (k : Nat) (y : A), cs[k]? = some y → Rel w I [] y (g k)) → Rel w I μ (.pim cs) (.pointer (some ⟨b, off, none⟩))
  | pob (μ o off L) : μ[o]? = some (some L) → Rel w I μ (.pob o off) (.pointer (some ⟨L.b, off, none⟩))
  | oslZ (μ o off a) : Rel w I μ (.osl o off 0) (.slice a 0 0)
  | osl (μ o off len cap L) : μ[o]? = some (some L) → off + cap ≤ L.cap → len ≤ cap → Rel w I μ (.osl o off len) (.slice (some ⟨L.b, off * L.sz, none⟩) len cap)
  | pel (μ o i j L) : μ[o]? = some (some L) → Rel w I μ (.pel o i j) (.pointer (some ⟨L.b, i * L.sz + j, none⟩))
  | fnc (μ f caps vs) : vs.size = caps.length → (∀ (k : Nat) (y : A), caps[k]? = some y → Rel w I μ y (vs.getD k undef)) → Rel w I μ (.fnc f caps) (.func (.func f) #[] vs)
  | ifc (μ t x y) : Rel w I μ x y → Rel w I μ (.ifc t x) (.iface t y)

section
variable {w w' : World} {I I' : Nat → Prop} {μ μ' : Mu} {a : A} {x : Value}

theorem cell_kept (hw : ∀ b, I b → w'.heap[b]? = w.heap[b]?) {b k : Nat} {u : Value} (hb : I b) (h : w.cell? ⟨b, k, none⟩ = some u) : w'.cell? ⟨b, k, none⟩ = some u := by
  rw [← h]; simp [World.cell?, hw b hb]

theorem Rel.mono0 (hI : ∀ b, I b → I' b) (hw : ∀ b, I b → w'.heap[b]? = w.heap[b]?) (h : Rel w I μ a x) : Rel w' I' μ a x := by
  induction h with
  | any => exact .any _ _
  | v => exact .v _ _
  | slN _ _ _ _ h => exact .slN _ _ _ _ h
  | sl μ f b off n cap sz xs g hb hn hc hf hs h1 hcell _ ih => exact .sl _ f b off n cap sz xs g (hI _ hb) hn hc hf hs h1 (fun k y hk => cell_kept hw hb (hcell k y hk)) ih
  | agg _ _ _ hl _ ih => exact .agg _ _ _ hl ih
  | tup _ _ _ hl _ ih => exact .tup _ _ _ hl ih
  | pim μ b off cs g hb h1 hcell _ ih => exact .pim _ b off cs g (hI _ hb) h1 (fun k y hk => cell_kept hw hb (hcell k y hk)) ih
  | pob _ _ _ _ h => exact .pob _ _ _ _ h
  | oslZ => exact .oslZ _ _ _ _
  | osl _ _ _ _ _ _ h h1 h2 => exact .osl _ _ _ _ _ _ h h1 h2
  | pel _ _ _ _ _ h => exact .pel _ _ _ _ _ h
  | fnc _ _ _ _ hl _ ih => exact .fnc _ _ _ _ hl ih
  | ifc _ _ _ _ _ ih => exact .ifc _ _ _ _ ih

theorem Rel.mu (h : Rel w I μ a x) : ∀ {μ' : Mu}, (∀ (o : Nat) (L : Loc), μ[o]? = some (some L) → μ'[o]? = some (some L)) → Rel w I μ' a x := by
  induction h with
  | any => exact fun _ => .any _ _
  | v => exact fun _ => .v _ _
  | slN _ _ _ _ h => exact fun _ => .slN _ _ _ _ h
  | sl μ f b off n cap sz xs g hb hn hc hf hs h1 hcell hr _ => exact fun _ => .sl _ f b off n cap sz xs g hb hn hc hf hs h1 hcell hr
  | agg _ _ _ hl _ ih => exact fun hm => .agg _ _ _ hl fun k y hk => ih k y hk hm
  | tup _ _ _ hl _ ih => exact fun hm => .tup _ _ _ hl fun k y hk => ih k y hk hm
  | pim μ b off cs g hb h1 hcell hr _ => exact fun _ => .pim _ b off cs g hb h1 hcell hr
  | pob _ _ _ _ h => exact fun hm => .pob _ _ _ _ (hm _ _ h)
  | oslZ => exact fun _ => .oslZ _ _ _ _
  | osl _ _ _ _ _ _ h h1 h2 => exact fun hm => .osl _ _ _ _ _ _ (hm _ _ h) h1 h2
  | pel _ _ _ _ _ h => exact fun hm => .pel _ _ _ _ _ (hm _ _ h)
  | fnc _ _ _ _ hl _ ih => exact fun hm => .fnc _ _ _ _ hl fun k y hk => ih k y hk hm
  | ifc _ _ _ _ _ ih => exact fun hm => .ifc _ _ _ _ (ih hm)

theorem Rel.mono (hI : ∀ b, I b → I' b) (hw : ∀ b, I b → w'.heap[b]? = w.heap[b]?) (hμ : ∀ (o : Nat) (L : Loc), μ[o]? = some (some L) → μ'[o]? = some (some L)) (h : Rel w I μ a x) : Rel w' I' μ' a x :=
  (h.mono0 hI hw).mu hμ

theorem Rel.one (h : Rel w I μ a x) (h1 : a.one = true) : x.oneCell' = true := by
  cases h <;> simp_all [A.one, Value.oneCell']

theorem Rel.cells_one (h : Rel w I μ a x) (h1 : a.one = true) : a.cells = [a] ∧ x.cells = #[x] := by
  cases h <;> simp_all [A.one, A.cells, Value.cells, Value.oneCell'] <;> split at h1 <;> simp_all
end

/-- Nothing of the call's own is in it (but behind immutable memory, where nothing of it can be). -/
def A.bare1 : A → Bool
  | .any | .v _ | .sl _ _ | .pim _ => true
  | _ => false
def A.bare : A → Bool
  | .agg cs => cs.all A.bare1
  | .tup xs => xs.all fun x => match x with
    | .agg cs => cs.all A.bare1
    | x => x.bare1
  | x => x.bare1

section
variable {w : World} {I : Nat → Prop} {μ μ' : Mu} {a : A} {x : Value}
theorem Rel.of_bare1 (h : Rel w I μ a x) (hb : a.bare1 = true) : Rel w I μ' a x := by
  cases h with
  | any => exact .any _ _
  | v => exact .v _ _
  | slN _ _ _ _ h => exact .slN _ _ _ _ h
  | sl _ f b off n cap sz xs g hI hn hc hf hs h1 hcell hr => exact .sl _ f b off n cap sz xs g hI hn hc hf hs h1 hcell hr
  | pim _ b off cs g hI h1 hcell hr => exact .pim _ b off cs g hI h1 hcell hr
  | _ => simp [A.bare1] at hb
theorem Rel.of_bare (h : Rel w I μ a x) (hb : a.bare = true) : Rel w I μ' a x := by
  cases a with
  | agg cs =>
    cases h with
    | agg _ _ vs hl hr =>
      refine .agg _ _ _ hl fun k y hk => (hr k y hk).of_bare1 ?_
      simp only [A.bare, List.all_eq_true] at hb
      exact hb _ (List.mem_of_getElem? hk)
  | tup xs =>
    cases h with
    | tup _ _ vs hl hr =>
      refine .tup _ _ _ hl fun k y hk => ?_
      simp only [A.bare, List.all_eq_true] at hb
      have h1 := hb _ (List.mem_of_getElem? hk)
      have h2 := hr k y hk
      generalize vs.getD k undef = u at h2 ⊢
      cases y with
      | agg cs =>
        cases h2 with
        | agg _ _ vs' hl' hr' =>
          refine .agg _ _ _ hl' fun k' y' hk' => (hr' k' y' hk').of_bare1 ?_
          simp only [List.all_eq_true] at h1
          exact h1 _ (List.mem_of_getElem? hk')
      | _ => exact h2.of_bare1 (by simpa using h1)
  | _ => exact h.of_bare1 (by simpa [A.bare] using hb)
end
end Go.Ab
