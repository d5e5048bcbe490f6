/-
  Abstract values, and how they stand to the model's values in a world: what is immutable by value; objects of the call's own by name and version.
-/
import Derived.WalkKit
namespace Go.G
set_option linter.unusedVariables false
set_option linter.unusedSimpArgs false
open Go.RowKit

/-- An object's name: a root, and a way below it. -/
abbrev Nm := List Nat

inductive A where
  | any
  | v (x : Value)
  | sl (full : Bool) (xs : List A)
  | agg (cs : List A)
  | tup (xs : List A)
  | pim (cs : List A)
  | pob (o : Nm) (u off : Nat)
  | osl (o : Nm) (u sz off len : Nat)
  | pel (o : Nm) (u i j : Nat)
  | mo (o : Nm) (u : Nat)
  | fnc (f : FuncId) (first caps : List A)
  | ifc (t : TypeId) (x : A)
  deriving Inhabited

def A.cells : A → List A
  | .agg cs => cs
  | x => [x]

/-- One cell of memory holds it. -/
def A.one : A → Bool
  | .any | .agg _ | .tup _ => false
  | .v x => x.oneCell'
  | _ => true

def A.ones (l : List A) : Bool := l.all A.one

/-- Where an object lies: its version, its block (if it has one); of a row: how many elements there is room for, how many cells each has; the block's element type. -/
structure Loc where
  u : Nat
  bk : Bool
  b : Nat
  cap : Nat
  sz : Nat
  e : TypeId

abbrev Mu := Nm → Loc
def mu0 : Mu := fun _ => ⟨0, false, 0, 0, 0, 0⟩

/-- Of an object that has gone on to another version nothing is said. -/
inductive Rel (w : World) (I : Nat → Prop) : Mu → A → Value → Prop
  | any (μ x) : Rel w I μ .any x
  | v (μ x) : Rel w I μ (.v x) x
  | slN (μ f a cap) : (f = true → cap = 0) → Rel w I μ (.sl f []) (.slice a 0 cap)
  | sl (μ f b off n cap sz xs) (g : Nat → Value) : I b → n = xs.length → xs.length ≤ cap → (f = true → cap = xs.length) → (∀ x, x ∈ xs → x.cells.length = sz) →
      (∀ (k : Nat) (y : A), (xs.flatMap A.cells)[k]? = some y → y.one = true) →
      (∀ (k : Nat) (y : A), (xs.flatMap A.cells)[k]? = some y → w.cell? ⟨b, off + k, none⟩ = some (g k)) →
      (∀ (k : Nat) (y : A), (xs.flatMap A.cells)[k]? = some y → Rel w I mu0 y (g k)) → Rel w I μ (.sl f xs) (.slice (some ⟨b, off, none⟩) n cap)
  | agg (μ cs vs) : vs.size = cs.length → (∀ (k : Nat) (y : A), cs[k]? = some y → Rel w I μ y (vs.getD k undef)) → Rel w I μ (.agg cs) (.agg vs)
  | tup (μ xs vs) : vs.size = xs.length → (∀ (k : Nat) (y : A), xs[k]? = some y → Rel w I μ y (vs.getD k undef)) → Rel w I μ (.tup xs) (.tuple vs)
  | pim (μ b off cs) (g : Nat → Value) : I b → (∀ (k : Nat) (y : A), cs[k]? = some y → y.one = true) → (∀ (k : Nat) (y : A), cs[k]? = some y → w.cell? ⟨b, off + k, none⟩ = some (g k)) →
      (∀ (k : Nat) (y : A), cs[k]? = some y → Rel w I mu0 y (g k)) → Rel w I μ (.pim cs) (.pointer (some ⟨b, off, none⟩))
  | pob (μ : Mu) (o u off b k) : 1 ≤ u → u ≤ (μ o).u → (u = (μ o).u → b = (μ o).b ∧ off = k) → Rel w I μ (.pob o u off) (.pointer (some ⟨b, k, none⟩))
  | osl (μ : Mu) (o u sz off len a cap) : 1 ≤ u → u ≤ (μ o).u → len ≤ cap → (0 < cap → ∃ b k, a = some ⟨b, k, none⟩) → (u = (μ o).u → (μ o).sz = sz ∧ ((len = 0 ∧ cap = 0) ∨ ((μ o).bk = true ∧ a = some ⟨(μ o).b, off * sz, none⟩ ∧ off + cap ≤ (μ o).cap))) →
      Rel w I μ (.osl o u sz off len) (.slice a len cap)
  | pel (μ : Mu) (o u i j b k) : 1 ≤ u → u ≤ (μ o).u → (u = (μ o).u → b = (μ o).b ∧ i * (μ o).sz + j = k) → Rel w I μ (.pel o u i j) (.pointer (some ⟨b, k, none⟩))
  | mo (μ : Mu) (o u b) : 1 ≤ u → u ≤ (μ o).u → (u = (μ o).u → b = (μ o).b) → Rel w I μ (.mo o u) (.map (some b))
  | fnc (μ f fs caps us vs) : us.size = fs.length → (∀ (k : Nat) (y : A), fs[k]? = some y → Rel w I μ y (us.getD k undef)) → vs.size = caps.length → (∀ (k : Nat) (y : A), caps[k]? = some y → Rel w I μ y (vs.getD k undef)) →
      Rel w I μ (.fnc f fs caps) (.func (.func f) us vs)
  | ifc (μ t x y) : Rel w I μ x y → Rel w I μ (.ifc t x) (.iface t y)

/-- Objects have gone on, or stayed. -/
def MuLe (μ μ' : Mu) : Prop := ∀ o, (μ o).u ≤ (μ' o).u ∧ ((μ' o).u = (μ o).u → μ' o = μ o)
theorem MuLe.refl (μ : Mu) : MuLe μ μ := fun _ => ⟨Nat.le_refl _, fun _ => rfl⟩
theorem MuLe.trans {μ μ' μ'' : Mu} (h : MuLe μ μ') (k : MuLe μ' μ'') : MuLe μ μ'' := fun o => by
  have h1 := h o
  have h2 := k o
  exact ⟨Nat.le_trans h1.1 h2.1, fun e => by
    have e1 : (μ' o).u = (μ o).u := by omega
    rw [h2.2 (by omega), h1.2 e1]⟩

section
variable {w w' : World} {I I' : Nat → Prop} {μ μ' : Mu} {a : A} {x : Value}

theorem cell_kept (hw : ∀ b, I b → w'.heap[b]? = w.heap[b]?) {b k : Nat} {u : Value} (hb : I b) (h : w.cell? ⟨b, k, none⟩ = some u) : w'.cell? ⟨b, k, none⟩ = some u := by
  rw [← h]; simp [World.cell?, hw b hb]

theorem Rel.mono0 (hI : ∀ b, I b → I' b) (hw : ∀ b, I b → w'.heap[b]? = w.heap[b]?) (h : Rel w I μ a x) : Rel w' I' μ a x := by
  induction h with
  | any => exact .any _ _
  | v => exact .v _ _
  | slN _ _ _ _ h => exact .slN _ _ _ _ h
  | sl μ f b off n cap sz xs g hb hn hc hf hs h1 hcell _ ih => exact .sl _ f b off n cap sz xs g (hI _ hb) hn hc hf hs h1 (fun k y hk => cell_kept hw hb (hcell k y hk)) ih
  | agg _ _ _ hl _ ih => exact .agg _ _ _ hl ih
  | tup _ _ _ hl _ ih => exact .tup _ _ _ hl ih
  | pim μ b off cs g hb h1 hcell _ ih => exact .pim _ b off cs g (hI _ hb) h1 (fun k y hk => cell_kept hw hb (hcell k y hk)) ih
  | pob _ _ _ _ _ _ h1 h2 h3 => exact .pob _ _ _ _ _ _ h1 h2 h3
  | osl _ _ _ _ _ _ _ _ h1 h2 h4 h5 h3 => exact .osl _ _ _ _ _ _ _ _ h1 h2 h4 h5 h3
  | pel _ _ _ _ _ _ _ h1 h2 h3 => exact .pel _ _ _ _ _ _ _ h1 h2 h3
  | mo _ _ _ _ h1 h2 h3 => exact .mo _ _ _ _ h1 h2 h3
  | fnc _ _ _ _ _ _ hl0 _ hl _ ih0 ih => exact .fnc _ _ _ _ _ _ hl0 ih0 hl ih
  | ifc _ _ _ _ _ ih => exact .ifc _ _ _ _ ih

theorem Rel.mu (h : Rel w I μ a x) : ∀ {μ' : Mu}, MuLe μ μ' → Rel w I μ' a x := by
  induction h with
  | any => exact fun _ => .any _ _
  | v => exact fun _ => .v _ _
  | slN _ _ _ _ h => exact fun _ => .slN _ _ _ _ h
  | sl μ f b off n cap sz xs g hb hn hc hf hs h1 hcell hr _ => exact fun _ => .sl _ f b off n cap sz xs g hb hn hc hf hs h1 hcell hr
  | agg _ _ _ hl _ ih => exact fun hm => .agg _ _ _ hl fun k y hk => ih k y hk hm
  | tup _ _ _ hl _ ih => exact fun hm => .tup _ _ _ hl fun k y hk => ih k y hk hm
  | pim μ b off cs g hb h1 hcell hr _ => exact fun _ => .pim _ b off cs g hb h1 hcell hr
  | pob μ o u off b k h1 h2 h3 =>
    intro μ' hm
    obtain ⟨k1, k2⟩ := hm o
    exact .pob _ _ _ _ _ _ h1 (by omega) fun e => by rw [k2 (by omega)]; exact h3 (by omega)
  | osl μ o u sz off len a cap h1 h2 h4 h5 h3 =>
    intro μ' hm
    obtain ⟨k1, k2⟩ := hm o
    exact .osl _ _ _ _ _ _ _ _ h1 (by omega) h4 h5 fun e => by rw [k2 (by omega)]; exact h3 (by omega)
  | pel μ o u i j b k h1 h2 h3 =>
    intro μ' hm
    obtain ⟨k1, k2⟩ := hm o
    exact .pel _ _ _ _ _ _ _ h1 (by omega) fun e => by rw [k2 (by omega)]; exact h3 (by omega)
  | mo μ o u b h1 h2 h3 =>
    intro μ' hm
    obtain ⟨k1, k2⟩ := hm o
    exact .mo _ _ _ _ h1 (by omega) fun e => by rw [k2 (by omega)]; exact h3 (by omega)
  | fnc _ _ _ _ _ _ hl0 _ hl _ ih0 ih => exact fun hm => .fnc _ _ _ _ _ _ hl0 (fun k y hk => ih0 k y hk hm) hl fun k y hk => ih k y hk hm
  | ifc _ _ _ _ _ ih => exact fun hm => .ifc _ _ _ _ (ih hm)

theorem Rel.mono (hI : ∀ b, I b → I' b) (hw : ∀ b, I b → w'.heap[b]? = w.heap[b]?) (hμ : MuLe μ μ') (h : Rel w I μ a x) : Rel w' I' μ' a x :=
  (h.mono0 hI hw).mu hμ

theorem Rel.one (h : Rel w I μ a x) (h1 : a.one = true) : x.oneCell' = true := by
  cases h <;> simp_all [A.one, Value.oneCell']

theorem Rel.cells_one (h : Rel w I μ a x) (h1 : a.one = true) : a.cells = [a] ∧ x.cells = #[x] := by
  cases h <;> simp_all [A.one, A.cells, Value.cells, Value.oneCell'] <;> split at h1 <;> simp_all

theorem mu0_le (μ : Mu) (h : ∀ o, 1 ≤ (μ o).u ∨ μ o = mu0 o) : MuLe mu0 μ := fun o => ⟨Nat.zero_le _, fun e => by
  rcases h o with h | h
  · simp [mu0] at e; omega
  · exact h⟩
end

/-- Nothing of the call's own is in it (but behind immutable memory, where nothing of it can be). -/
def A.bare1 : A → Bool
  | .any | .v _ | .sl _ _ | .pim _ => true
  | _ => false
def A.bare2 : A → Bool
  | .fnc _ fs caps => fs.all A.bare1 && caps.all A.bare1
  | x => x.bare1
def A.bare : A → Bool
  | .agg cs => cs.all A.bare2
  | .tup xs => xs.all fun x => match x with
    | .agg cs => cs.all A.bare2
    | x => x.bare2
  | x => x.bare2

section
variable {w : World} {I : Nat → Prop} {μ μ' : Mu} {a : A} {x : Value}
theorem Rel.of_bare1 (h : Rel w I μ a x) (hb : a.bare1 = true) : Rel w I μ' a x := by
  cases h with
  | any => exact .any _ _
  | v => exact .v _ _
  | slN _ _ _ _ h => exact .slN _ _ _ _ h
  | sl _ f b off n cap sz xs g hI hn hc hf hs h1 hcell hr => exact .sl _ f b off n cap sz xs g hI hn hc hf hs h1 hcell hr
  | pim _ b off cs g hI h1 hcell hr => exact .pim _ b off cs g hI h1 hcell hr
  | _ => simp [A.bare1] at hb
theorem Rel.of_bare2 (h : Rel w I μ a x) (hb : a.bare2 = true) : Rel w I μ' a x := by
  cases a with
  | fnc f fs caps =>
    simp only [A.bare2, Bool.and_eq_true, List.all_eq_true] at hb
    cases h with
    | fnc _ _ _ _ us vs hl0 hr0 hl hr =>
      exact .fnc _ _ _ _ _ _ hl0 (fun k y hk => (hr0 k y hk).of_bare1 (hb.1 _ (List.mem_of_getElem? hk))) hl fun k y hk => (hr k y hk).of_bare1 (hb.2 _ (List.mem_of_getElem? hk))
  | _ => exact h.of_bare1 (by simpa [A.bare2] using hb)
theorem Rel.of_bare (h : Rel w I μ a x) (hb : a.bare = true) : Rel w I μ' a x := by
  cases a with
  | agg cs =>
    cases h with
    | agg _ _ vs hl hr =>
      refine .agg _ _ _ hl fun k y hk => (hr k y hk).of_bare2 ?_
      simp only [A.bare, List.all_eq_true] at hb
      exact hb _ (List.mem_of_getElem? hk)
  | tup xs =>
    cases h with
    | tup _ _ vs hl hr =>
      refine .tup _ _ _ hl fun k y hk => ?_
      simp only [A.bare, List.all_eq_true] at hb
      have h1 := hb _ (List.mem_of_getElem? hk)
      have h2 := hr k y hk
      generalize vs.getD k undef = u at h2 ⊢
      cases y with
      | agg cs =>
        cases h2 with
        | agg _ _ vs' hl' hr' =>
          refine .agg _ _ _ hl' fun k' y' hk' => (hr' k' y' hk').of_bare2 ?_
          simp only [List.all_eq_true] at h1
          exact h1 _ (List.mem_of_getElem? hk')
      | _ => exact h2.of_bare2 (by simpa using h1)
  | _ => exact h.of_bare2 (by simpa [A.bare] using hb)
end
end Go.G
