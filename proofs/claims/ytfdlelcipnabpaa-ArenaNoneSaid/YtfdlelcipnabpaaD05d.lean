/-
  Chapter 5: new arenas; words are put.
-/
import Derived.Test.YtfdlelcipnabpaaD05c
namespace Go.Proofs.Ytfdlelcipnabpaa
set_option linter.unusedVariables false
set_option linter.unusedSimpArgs false
open Go Go.G Go.Proofs

def newAr (z m : Int) : Ar := ⟨[], 1, 1, max z 1, min (max m 0) 131072, 0⟩

theorem New_spec (z m : Int) : SpecH Try.prog 18 1 [iv z, iv m] (lkH []) (.pob [0] 1 0) (ov 0 (arF 0 (newAr z m)) (lkH [])) := by
  refine specH_of t_arena_New (by simp) fun w0 I0 M0 m0 => ?_
  unfold c_arena_New
  simp
  refine reth_le (le_blankC (d := [0]) 0 [0, 0] 1 rfl rfl (by simp)) ?_
  simp
  refine reth_ret rfl rfl (fun i p hi => ?_)
  have hi0 : i = 0 := by omega
  subst hi0
  simp only [lkH_cons, lkH_nil, ov_cons, if_true]
  match p with
  | [] => rfl
  | [0] => rfl
  | [0, i] => rfl
  | (a + 1) :: q => rfl
  | 0 :: a :: b :: q => rfl

theorem sc_new {P : Program} {K : Sta → Prop} {rest : List CO} {s : Nat → A} {H : Hp} {dd : Option Nat} {nm : Nm} {ix : Nat} {un : List Nat} {l : Bool} {lg : Lg} {g : FuncId} {aa : Array Operand} {ts : Array TypeId}
    (r : Nat) {S' : Ar} {as0 : List A} (hu : S'.u = 1) (hS : SpecH P g 1 as0 (lkH []) (.pob [0] 1 0) (ov 0 (arF 0 S') (lkH []))) (hF : ∀ p, (H (r :: p)).u = 0)
    (ha : aa.toList.map (evs s) = as0) (h0 : ∀ g δ, A.renL g δ as0 = as0) (h1 : ∀ D, A.refsL D as0) (hv : ∀ p, (arF 0 S' p).ob = .none ∨ 1 ≤ (arF 0 S' p).u) (hck : Ck un lg ⟨[], [([r], true)]⟩)
    (h : SeqC P K rest (addL l ix ⟨[], [([r], true)]⟩ lg) (Sta.put ⟨s, H⟩ dd (.pob [r] 1 0) (stR r (arF r S') H))) :
    SeqC P K (⟨dd, .call { callee := .value (.func g), args := aa, argTypes := ts }, none, nm, ix, un, l⟩ :: rest) lg ⟨s, H⟩ := by
  have hd : ∀ p, dlt [r] 0 H (0 :: p) = 0 := fun p => by
    simp only [dlt]
    rw [if_neg (by omega), if_pos (by simp)]
    exact hF p
  refine sc_callH [r] 0 hS (by simp) (by simp) ?_ ?_ ?_ ?_ (by simp [A.refs, outS]) ?_ ?_ ?_ ?_ hck h
  · rw [ha]; exact h0 _ _
  · rw [ha]; exact h1 _
  · funext o
    cases o with
    | nil => rfl
    | cons i p => simp [inHp]
  · intro j p hj
    omega
  · intro i p hi
    have : i = 0 := by simp at hi; omega
    subst this
    simp only [ov_cons, if_true]
    exact arF_refs (fun q => by simp [outS]) S' p
  · intro i p _ hi
    have : i = 0 := by simp at hi; omega
    subst this
    simp only [ov_cons, if_true]
    exact hv p
  · simp [A.ren, upN, hd]
  · funext o
    cases o with
    | nil => rfl
    | cons j p =>
      by_cases hj : j = r
      · subst hj
        simp only [outG, stR, ov_cons, if_true]
        rw [if_pos (by simp)]
        have : [j].idxOf j = 0 := by simp
        rw [this, if_pos rfl, hd]
        exact arF_ren (fun q => by simp [upN]) hd S' p
      · have : ¬ [r].contains j = true := by simpa using hj
        simp only [outG, if_neg this, stR, ov_cons, if_neg hj]

def putS (S : Ar) (s a : Int) (w : Int) : Ar := if hasW S.w s a 1 = true then { S with l := S.l.modify s.toNat fun e => (e.1, e.2.set a.toNat w) } else S

theorem Put_spec (S : Ar) (hb : ∀ x, x ∈ S.w → x.length * 8 ≤ 140737488355328) (s a w : Int) : SpecH Try.prog 33 1 [.pob [0] S.u 0, iv s, iv a, uv w] (ov 0 (arF 0 S) (lkH [])) (bv (hasW S.w s a 1)) (ov 0 (arF 0 (putS S s a w)) (lkH [])) := by
  refine specH_of t_arena_Arena_Put (by simp) fun w0 I0 M0 m0 => ?_
  unfold c_arena_Arena_Put
  simp
  refine sc_callb [S.a, iv s, iv a, iv 1] ((has_spec S.w hb s a 1).toB rfl) (by simp; exact ⟨frz_ar, frz_bare rfl, frz_bare rfl, frz_bare rfl⟩) (by simp) ?_
  cases hh : hasW S.w s a 1 with
  | false =>
    simp
    refine reth_ret rfl rfl (fun i p hi => ?_)
    simp [putS, hh]
  | true =>
    obtain ⟨h1, h2, h3, h4, h5, e1, h6⟩ := hasW_in hh
    obtain ⟨k, rfl⟩ := Int.eq_ofNat_of_zero_le h1
    obtain ⟨b, rfl⟩ := Int.eq_ofNat_of_zero_le h3
    have hk : k < S.l.length := by simpa [Ar.w] using h2
    have hb' : b < S.l[k].2.length := by simp [Ar.w] at h6; omega
    have hb2 : (b : Int) < S.l[k].2.length := by omega
    simp [hk, hb', hb2]
    refine reth_ret rfl rfl (fun i p hi => ?_)
    have hi0 : i = 0 := by omega
    subst hi0
    simp only [ov_cons, if_true]
    have hput : putS S k b w = { S with l := S.l.modify k fun e => (e.1, e.2.set b w) } := by simp [putS, hh]
    rw [hput]
    refine updF_is ?_ (fun h1 => ?_)
    · simp [List.getElem?_modify, hk]
    · match p, h1 with
      | [], _ => simp
      | [0], _ =>
        have e : rowS 0 (S.l.modify k fun e => (e.1, e.2.set b w)) = rowS 0 S.l := by
          apply List.ext_getElem
          · simp
          · intro i g1 g2
            simp only [rowS_get, List.getElem_modify]
            by_cases e : k = i
            · subst e; simp
            · simp [e]
        simp [e]
      | [0, i], h1 =>
        have : k ≠ i := fun e => h1 (by rw [e])
        simp [List.getElem?_modify, this]
      | (a + 1) :: q, _ => rfl
      | 0 :: a :: b :: q, _ => rfl
end Go.Proofs.Ytfdlelcipnabpaa
