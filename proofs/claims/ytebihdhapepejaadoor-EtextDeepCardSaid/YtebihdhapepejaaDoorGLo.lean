/-
  Slices whose room is known, told as slices of any room, however deep.
-/
import Derived.Test.YtebihdhapepejaaDoorGLe
namespace Go.G
set_option linter.unusedVariables false
set_option linter.unusedSimpArgs false
open Go.RowKit

mutual
def A.soft : A → A
  | .sl _ xs => .sl false (A.softL xs)
  | .agg cs => .agg (A.softL cs)
  | .tup cs => .tup (A.softL cs)
  | .pim cs => .pim (A.softL cs)
  | .ifc t x => .ifc t (A.soft x)
  | .any => .any
  | .v x => .v x
  | .pob o u off => .pob o u off
  | .osl o u sz off len => .osl o u sz off len
  | .pel o u i j => .pel o u i j
  | .mo o u => .mo o u
  | .fnc f fs cs => .fnc f fs cs
def A.softL : List A → List A
  | [] => []
  | x :: xs => A.soft x :: A.softL xs
end
theorem softL_map : ∀ l : List A, A.softL l = l.map A.soft
  | [] => by simp [A.softL]
  | x :: l => by simp [A.softL, softL_map l]
theorem soft_cells (a : A) : a.soft.cells = a.cells.map A.soft := by cases a <;> simp [A.soft, A.cells, softL_map]
theorem soft_flat : ∀ l : List A, (l.map A.soft).flatMap A.cells = (l.flatMap A.cells).map A.soft
  | [] => rfl
  | x :: l => by simp [soft_cells, soft_flat l]
theorem soft_one (a : A) : a.soft.one = a.one := by cases a <;> simp [A.soft, A.one]
theorem Rel.soft {w : World} {I : Nat → Prop} {μ : Mu} {a : A} {x : Value} (h : Rel w I μ a x) : Rel w I μ a.soft x := by
  induction h with
  | any => simpa [A.soft] using Rel.any _ _
  | v => simpa [A.soft] using Rel.v _ _
  | slN μ f a cap h =>
    simp only [A.soft, A.softL]
    exact .slN _ _ _ _ (fun h => nomatch h)
  | sl μ f b off n cap sz xs g hb hn hc hf hs h1 hcell hr ih =>
    simp only [A.soft, softL_map]
    refine .sl _ _ b off n cap sz _ g hb (by simpa using hn) (by simpa using hc) (fun h => nomatch h) (fun x hx => ?_) (fun k y hk => ?_) (fun k y hk => ?_) (fun k y hk => ?_)
    · obtain ⟨x', hx', rfl⟩ := List.mem_map.1 hx
      simpa [soft_cells] using hs x' hx'
    all_goals
      rw [soft_flat, List.getElem?_map, Option.map_eq_some_iff] at hk
      obtain ⟨y', hy, rfl⟩ := hk
    · rw [soft_one]; exact h1 k y' hy
    · exact hcell k y' hy
    · exact ih k y' hy
  | agg μ cs vs hl _ ih =>
    simp only [A.soft, softL_map]
    refine .agg _ _ _ (by simpa using hl) fun k y hk => ?_
    rw [List.getElem?_map, Option.map_eq_some_iff] at hk
    obtain ⟨y', hy, rfl⟩ := hk
    exact ih k y' hy
  | tup μ cs vs hl _ ih =>
    simp only [A.soft, softL_map]
    refine .tup _ _ _ (by simpa using hl) fun k y hk => ?_
    rw [List.getElem?_map, Option.map_eq_some_iff] at hk
    obtain ⟨y', hy, rfl⟩ := hk
    exact ih k y' hy
  | pim μ b off cs g hb h1 hcell hr ih =>
    simp only [A.soft, softL_map]
    refine .pim _ b off _ g hb (fun k y hk => ?_) (fun k y hk => ?_) (fun k y hk => ?_)
    all_goals
      rw [List.getElem?_map, Option.map_eq_some_iff] at hk
      obtain ⟨y', hy, rfl⟩ := hk
    · rw [soft_one]; exact h1 k y' hy
    · exact hcell k y' hy
    · exact ih k y' hy
  | pob _ _ _ _ _ _ h1 h2 h3 => simpa [A.soft] using Rel.pob _ _ _ _ _ _ h1 h2 h3
  | osl _ _ _ _ _ _ _ _ h1 h2 h4 h5 h3 => simpa [A.soft] using Rel.osl _ _ _ _ _ _ _ _ h1 h2 h4 h5 h3
  | pel _ _ _ _ _ _ _ h1 h2 h3 => simpa [A.soft] using Rel.pel _ _ _ _ _ _ _ h1 h2 h3
  | mo _ _ _ _ h1 h2 h3 => simpa [A.soft] using Rel.mo _ _ _ _ h1 h2 h3
  | fnc _ _ _ _ _ _ hl0 h0 hl h _ _ => simpa [A.soft] using Rel.fnc _ _ _ _ _ _ hl0 h0 hl h
  | ifc _ _ _ _ _ ih => simpa [A.soft] using Rel.ifc _ _ _ _ ih

theorem Spec.soft {P : Program} {f : FuncId} {as as' : List A} {r : A} (h : Spec P f as' r) (e : A.softL as = as') : Spec P f as r := by
  subst e
  refine ⟨h.1, fun w I vs hI ht hn ha => h.2 w I vs hI ht (by simpa [softL_map] using hn) fun k y hk => ?_⟩
  rw [softL_map, List.getElem?_map, Option.map_eq_some_iff] at hk
  obtain ⟨y', hy, rfl⟩ := hk
  exact (ha k y' hy).soft
theorem SpecB.soft {P : Program} {f : FuncId} {as as' : List A} {r : A} (h : SpecB P f as' r) (e : A.softL as = as') : SpecB P f as r := by
  subst e
  refine ⟨h.1, fun w I J vs hI hJ ht hn ha => h.2 w I J vs hI hJ ht (by simpa [softL_map] using hn) fun k y hk => ?_⟩
  rw [softL_map, List.getElem?_map, Option.map_eq_some_iff] at hk
  obtain ⟨y', hy, rfl⟩ := hk
  exact (ha k y' hy).soft
/-- A slice without elements is one of elements of any kind. -/
theorem frz_soft {H : Hp} {a : A} (h : a.bare = true) : Frz H a a.soft := fun c w I μ v hs hr => (frz_bare h c w I μ v hs hr).soft
end Go.G
