/-
  Package tables that the framework knows, out of what a row lists.
-/
import Derived.Test.YtgimfagpolbelaaDoorGLaw
import Derived.Lib.LaidTab
import Derived.Stop.LaidErr
import Derived.MakeChecks
namespace Go.G
open Go

theorem old_of_cell {W : World} {p : Addr} {v : Value} (h : W.cell? p = some v) : Old W p.block := by
  unfold Old
  unfold World.cell? at h
  cases hb : W.heap[p.block]? with
  | none => rw [hb] at h; cases h
  | some b => exact (Array.getElem?_eq_some_iff.1 hb).1
theorem tabs_of {P : Program} {W : World} (l : List (String × Nat × IntKind × List Int))
    (h1 : ((List.range P.globals.size).all fun g => match gtab P g with | none => true | some q => l.any fun x => x.2.1 == g && (x.2.2.1 == q.1 && x.2.2.2 == q.2)) = true)
    (h2 : ∀ x, x ∈ l → P.globalNamed x.1 = some x.2.1 ∧ 0 < x.2.2.2.length ∧ Lib.TabIs P W x.1 x.2.2.1 x.2.2.2) : Tabs P W (Old W) := fun g q hq => by
  have hg : g < P.globals.size := by
    unfold gtab at hq
    cases hx : P.globals[g]? with
    | none => rw [hx] at hq; cases hq
    | some x => exact (Array.getElem?_eq_some_iff.1 hx).1
  have := List.all_eq_true.1 h1 g (List.mem_range.2 hg)
  rw [hq] at this
  obtain ⟨x, hx, hx2⟩ := List.any_eq_true.1 this
  obtain ⟨nm, g', k, zs⟩ := x
  simp only [Bool.and_eq_true, beq_iff_eq] at hx2
  obtain ⟨rfl, rfl, rfl⟩ := hx2
  obtain ⟨g1, g2, g3⟩ := h2 _ hx
  have cell : ∀ i, i < q.2.length → W.cell? ⟨g', i, none⟩ = some (.int q.1 (q.2.getD i 0)) := fun i hi => g3.cell g1 i hi
  refine ⟨old_of_cell (cell 0 g2), fun i n hi => ?_⟩
  obtain ⟨hl, he⟩ := List.getElem?_eq_some_iff.1 hi
  rw [cell i hl, List.getD, hi]; rfl
end Go.G
