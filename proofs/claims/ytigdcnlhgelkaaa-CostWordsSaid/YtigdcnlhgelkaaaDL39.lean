/-
  Chapter 39: each law, whatever its arguments hold.
-/
import Derived.Test.YtigdcnlhgelkaaaD39
import Derived.Test.YtigdcnlhgelkaaaDHasE
namespace Go.Proofs.Ytigdcnlhgelkaaa
set_option linter.unusedVariables false
set_option linter.unusedSimpArgs false
open Go Go.G Go.Proofs Go.PL Go.RowKit

set_option maxRecDepth 100000 in
theorem said_costWords (xs : List A) (h : ArgsHas Try.prog Try.f3.params.toList xs) : G.Spec Try.prog 3 xs (.v (.bool true)) := by
  have h : ArgsHas Try.prog [30] xs := h
  match xs, h with
  | [a], ⟨⟨n, b, h1, h2⟩, _⟩ =>
    obtain ⟨e, he, ee⟩ := hasEdit _ _ h1
    rw [h2, mk_e]
    exact (CostWords_spec he).soft (by simp only [A.softL, A.soft, ee])
end Go.Proofs.Ytigdcnlhgelkaaa
