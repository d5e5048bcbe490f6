/-
  Package tables that the framework knows, out of what a row lists.
-/
import Derived.Test.YtebihdhapepejaaDoorGLaw
import Derived.Lib.LaidTab
import Derived.Stop.LaidErr
import Derived.MakeChecks
namespace Go.G
open Go

theorem old_of_cell {W : World} {p : Addr} {v : Value} (h : W.cell? p = some v) : Old W p.block := by
  unfold Old
  unfold World.cell? at h
  cases hb : W.heap[p.block]? with
  | none => rw [hb] at h; cases h
  | some b => exact (Array.getElem?_eq_some_iff.1 hb).1
theorem tabs_of {P : Program} {W : World} (l : List (String × Nat × IntKind × List Int)) (es : List (String × Nat))
    (h1 : ((List.range P.globals.size).all fun g => match gtab P g with | none => true | some q => l.any fun x => x.2.1 == g && (x.2.2.1 == q.1 && x.2.2.2 == q.2)) = true)
    (e1 : ((List.range P.globals.size).all fun g => !gerr P g || es.any fun x => x.2 == g) = true)
    (h2 : ∀ x, x ∈ l → P.globalNamed x.1 = some x.2.1 ∧ 0 < x.2.2.2.length ∧ Lib.TabIs P W x.1 x.2.2.1 x.2.2.2)
    (e2 : ∀ x, x ∈ es → ∃ te pe, W.cell? ⟨x.2, 0, none⟩ = some (.iface te pe)) : Tabs P W (Old W) where
  row g q hq := by
    have hg : g < P.globals.size := by
      unfold gtab at hq
      cases hx : P.globals[g]? with
      | none => rw [hx] at hq; cases hq
      | some x => exact (Array.getElem?_eq_some_iff.1 hx).1
    have := List.all_eq_true.1 h1 g (List.mem_range.2 hg)
    rw [hq] at this
    obtain ⟨x, hx, hx2⟩ := List.any_eq_true.1 this
    obtain ⟨nm, g', k, zs⟩ := x
    simp only [Bool.and_eq_true, beq_iff_eq] at hx2
    obtain ⟨rfl, rfl, rfl⟩ := hx2
    obtain ⟨g1, g2, g3⟩ := h2 _ hx
    refine ⟨old_of_cell (g3.cell g1 0 g2), ?_⟩
    unfold Lib.TabIs World.var? at g3
    rw [g1] at g3
    simp only [Option.bind_some] at g3
    split at g3
    · rename_i cs e z hh
      cases g3
      exact ⟨e, z, hh⟩
    · cases g3
  err g hg := by
    have hlt : g < P.globals.size := by
      unfold gerr at hg
      cases hx : P.globals[g]? with
      | none => rw [hx] at hg; cases hg
      | some x => exact (Array.getElem?_eq_some_iff.1 hx).1
    have := List.all_eq_true.1 e1 g (List.mem_range.2 hlt)
    rw [hg] at this
    simp only [Bool.not_true, Bool.false_or] at this
    obtain ⟨x, hx, hx2⟩ := List.any_eq_true.1 this
    have hx2 : x.2 = g := eq_of_beq hx2
    obtain ⟨te, pe, h⟩ := e2 x hx
    rw [hx2] at h
    exact ⟨old_of_cell h, te, pe, h⟩
theorem tab_is {P : Program} {w : World} {I : Nat → Prop} (ht : Tabs P w I) {n : String} {g : Nat} {k : IntKind} {zs zs' : List Int} (hg : P.globalNamed n = some g) (hq : gtab P g = some (k, zs)) (hz : zs = zs') : Lib.TabIs P w n k zs' := by
  obtain ⟨_, e, z, h⟩ := ht.row g _ hq
  subst hz
  unfold Lib.TabIs World.var?
  rw [hg]
  simp only [Option.bind_some, h]
theorem iface_of_var {P : Program} {W : World} {n : String} {g : Nat} {te : TypeId} {pe : Value} (hg : P.globalNamed n = some g) (h : W.var? P n = some #[.iface te pe]) : ∃ te pe, W.cell? ⟨g, 0, none⟩ = some (.iface te pe) :=
  ⟨te, pe, by simpa using World.var?_cell hg h 0⟩
end Go.G
