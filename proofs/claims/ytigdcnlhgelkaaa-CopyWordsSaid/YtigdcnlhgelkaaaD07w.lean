/-
  Trees and edits as arguments, whatever the room of their slices; operations under a guard.
-/
import Derived.Test.YtigdcnlhgelkaaaD07v
namespace Go.Proofs.Ytigdcnlhgelkaaa
set_option linter.unusedVariables false
set_option linter.unusedSimpArgs false
open Go Go.G Go.Proofs Go.PL

@[simp] theorem GtG_shift {q : Bool} {n : Nat} {y : A} {K : A → Prop} : GtG q (A.shift n (gd q y)) K = GtG q (A.shift n y) K := GtG_same fun h => by rw [h]; rfl
/-! ### slices of any room -/
theorem soft_uv (l : List Int) : A.softL (l.map uv) = l.map uv := by
  rw [softL_map, List.map_map]; rfl
theorem soft_iv (l : List Int) : A.softL (l.map iv) = l.map iv := by
  rw [softL_map, List.map_map]; rfl
theorem soft_tA : ∀ t : T, (tA t).soft = tA t := by
  refine T.ind fun k w l ih => ?_
  rw [tA_eq]
  simp only [A.soft, A.softL, T.kind_mk, T.words_mk, T.kids_mk, soft_uv]
  have e : l.map (A.soft ∘ tA) = l.map tA := List.map_congr_left fun t ht => ih t ht
  rw [softL_map, List.map_map, e]
  rfl
theorem soft_tKs (l : List T) : A.softL (l.map tA) = l.map tA := by
  rw [softL_map, List.map_map]
  exact List.map_congr_left fun t _ => soft_tA t
theorem soft_tX (t : T) : (tX t).soft = tX t := by rw [← tA_eq]; exact soft_tA t
theorem soft_wKs (l : List WE) : A.softL (l.map wA) = l.map wA := by
  rw [softL_map, List.map_map]; rfl
theorem soft_eL : ∀ e : E, A.softL (eL e) = eL e := by
  refine E.ind fun k o n w ks l os ihk iho => ?_
  have h1 : A.softL (ks.map kA) = ks.map kA := by
    rw [softL_map, List.map_map]
    refine List.map_congr_left fun x hx => ?_
    have := ihk x hx
    simp only [Function.comp, kA_eq]
    simp only [A.soft, A.softL] at this ⊢
    simp_all
  have h2 : A.softL (os.map oA) = os.map oA := by
    rw [softL_map, List.map_map]
    refine List.map_congr_left fun x hx => ?_
    have := iho x hx
    simp only [Function.comp, oA_eq]
    simp only [A.soft, A.softL, soft_tKs] at this ⊢
    simp_all
  simp only [A.soft, A.softL, E.kind_mk, E.old_mk, E.new_mk, E.words_mk, E.kids_mk, E.list_mk, E.ops_mk, soft_uv, soft_tKs, soft_wKs, h1, h2]
  rfl
theorem soft_kKs (l : List KE) : A.softL (l.map kA) = l.map kA := by
  rw [softL_map, List.map_map]
  refine List.map_congr_left fun x _ => ?_
  have := soft_eL x.e
  simp only [Function.comp, kA_eq]
  simp only [A.soft, A.softL] at this ⊢
  simp_all
theorem soft_oKs (l : List OP) : A.softL (l.map oA) = l.map oA := by
  rw [softL_map, List.map_map]
  refine List.map_congr_left fun x _ => ?_
  have := soft_eL x.e
  simp only [Function.comp, oA_eq]
  simp only [A.soft, A.softL, soft_tKs] at this ⊢
  simp_all

end Go.Proofs.Ytigdcnlhgelkaaa
