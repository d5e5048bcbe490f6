/-
  Chapter 5: calls that turn an arena.
-/
import Derived.Test.YtfdlelcipnabpaaD05a
namespace Go.Proofs.Ytfdlelcipnabpaa
set_option linter.unusedVariables false
set_option linter.unusedSimpArgs false
open Go Go.G Go.Proofs

theorem rowS_ren {g : Nm → Nm} {δ : Nm → Nat} {r r' : Nat} (hg : ∀ p, g (r :: p) = r' :: p) (hd : ∀ p, δ (r :: p) = 0) (l : List (Nat × List Int)) : A.renL g δ (rowS r l) = rowS r' l := by
  rw [renL_map]
  apply List.ext_getElem
  · simp
  · intro i h1 h2
    simp [A.ren, hg, hd]
theorem arF_ren {g : Nm → Nm} {δ : Nm → Nat} {r r' : Nat} (hg : ∀ p, g (r :: p) = r' :: p) (hd : ∀ p, δ (r :: p) = 0) (S : Ar) (p : Nm) : (arF r S p).ren g δ 0 = arF r' S p := by
  match p with
  | [] => simp [VOb.ren, Ob.ren, A.renL, A.ren, hg, hd]
  | [0] => simp [VOb.ren, Ob.ren, rowS_ren hg hd]
  | [0, i] =>
    simp only [arF_seg]
    cases S.l[i]? with
    | none => rfl
    | some e =>
      simp only [VOb.ren, Ob.ren, renL_map, List.map_map, Nat.add_zero]
      rfl
  | (a + 1) :: q => rfl
  | 0 :: a :: b :: q => rfl
theorem arF_refs {D : Nm → Prop} {r : Nat} (hD : ∀ p, D (r :: p)) (S : Ar) (p : Nm) : (arF r S p).ob.refs D := by
  match p with
  | [] => simp [Ob.refs, A.refsL, A.refs, hD]
  | [0] =>
    refine refsL_iff.2 fun x hx => ?_
    obtain ⟨i, hi, rfl⟩ := List.mem_mapIdx.1 hx
    simp [A.refs, hD]
  | [0, i] =>
    simp only [arF_seg]
    cases S.l[i]? with
    | none => trivial
    | some e =>
      refine refsL_iff.2 fun x hx => ?_
      obtain ⟨y, _, rfl⟩ := List.mem_map.1 hx
      trivial
  | (a + 1) :: q => trivial
  | 0 :: a :: b :: q => trivial

/-- A root's family is another one. -/
def stR (r : Nat) (F : Nm → VOb) (H : Hp) : Hp := ov r F H
@[simp] theorem stR_ov {r r' : Nat} {F F' : Nm → VOb} {H : Hp} : stR r F (ov r' F' H) = if r' = r then ov r F H else ov r' F' (stR r F H) := by
  unfold stR
  funext o
  cases o with
  | nil => split <;> rfl
  | cons j p =>
    by_cases h : r' = r
    · subst h
      rw [if_pos rfl]
      by_cases hj : j = r' <;> simp [hj]
    · rw [if_neg h]
      by_cases hj : j = r
      · subst hj; simp [Ne.symm h]
      · simp [hj]
@[simp] theorem stR_lkH {r : Nat} {F : Nm → VOb} {l : List (Nm × VOb)} : stR r F (lkH l) = ov r F (lkH l) := rfl

theorem sc_ar {P : Program} {K : Sta → Prop} {rest : List CO} {s : Nat → A} {H : Hp} {dd : Option Nat} {nm : Nm} {ix : Nat} {un : List Nat} {l : Bool} {lg : Lg} {g : FuncId} {aa : Array Operand} {ts : Array TypeId}
    {r : Nat} {S S' : Ar} {as0 : List A} {x : A} (hS : SpecH P g 1 (.pob [0] S.u 0 :: as0) (ov 0 (arF 0 S) (lkH [])) x (ov 0 (arF 0 S') (lkH []))) (hF : ∀ p, H (r :: p) = arF r S p)
    (ha : aa.toList.map (evs s) = .pob [r] S.u 0 :: as0) (h0 : ∀ g δ, A.renL g δ as0 = as0) (h1 : ∀ D, A.refsL D as0) (hx : ∀ g δ, x.ren g δ = x) (hx1 : ∀ D, x.refs D) (hck : Ck un lg ⟨[], [([r], true)]⟩)
    (h : SeqC P K rest (addL l ix ⟨[], [([r], true)]⟩ lg) (Sta.put ⟨s, H⟩ dd x (stR r (arF r S') H))) :
    SeqC P K (⟨dd, .call { callee := .value (.func g), args := aa, argTypes := ts }, none, nm, ix, un, l⟩ :: rest) lg ⟨s, H⟩ := by
  have hd : ∀ p, dlt [r] 1 H (0 :: p) = 0 := fun p => rfl
  refine sc_callH [r] 1 hS (by simp) (by simp) ?_ ?_ ?_ ?_ (hx1 _) ?_ (fun i p h1 h2 => by simp at h2; omega) (hx _ _) ?_ hck h
  · rw [ha]
    simp [A.renL, A.ren, dnN, h0]
  · rw [ha]
    exact ⟨by simp [A.refs, inS], h1 _⟩
  · funext o
    cases o with
    | nil => rfl
    | cons i p =>
      by_cases hi : i < 1
      · have : i = 0 := by omega
        subst this
        simp only [inHp, if_pos hi, ov_cons, if_true]
        show (H (r :: p)).ren _ _ 0 = _
        rw [hF]
        exact arF_ren (fun q => by simp [dnN]) (fun _ => rfl) S p
      · simp only [inHp, if_neg hi, ov_cons]
        rw [if_neg (by omega)]
        rfl
  · intro j p hj
    have hjr : j = r := by
      have := (idx_mem (rs := [r])).1 (by simpa using hj)
      simpa using this
    rw [hjr, hF]
    exact arF_refs (fun q => by simp [inS]) S p
  · intro i p hi
    have : i = 0 := by simp at hi; omega
    subst this
    simp only [ov_cons, if_true]
    exact arF_refs (fun q => by simp [outS]) S' p
  · funext o
    cases o with
    | nil => rfl
    | cons j p =>
      by_cases hj : j = r
      · subst hj
        simp only [outG, stR, ov_cons, if_true]
        rw [if_pos (by simp)]
        have : [j].idxOf j = 0 := by simp
        rw [this, if_pos rfl, hd]
        exact arF_ren (fun q => by simp [upN]) hd S' p
      · have : ¬ [r].contains j = true := by simpa using hj
        simp only [outG, if_neg this, stR, ov_cons, if_neg hj]

/-- It is as arenas are. -/
structure Ar.Ok (S : Ar) : Prop where
  used0 : 0 ≤ S.used
  used1 : S.used ≤ S.most
  most1 : S.most ≤ 131072
  size0 : 1 ≤ S.size
  size1 : S.size < 9223372036854775808
  len : S.l.length ≤ 16
  seg : ∀ e, e ∈ S.l → (e.2.length : Int) ≤ S.used

theorem Ar.Ok.szAt {S : Ar} (h : S.Ok) (s : Int) : 0 ≤ (Go.Proofs.Ytfdlelcipnabpaa.szAt S.w s : Int) ∧ (Go.Proofs.Ytfdlelcipnabpaa.szAt S.w s : Int) ≤ S.used := by
  refine ⟨by omega, ?_⟩
  unfold Go.Proofs.Ytfdlelcipnabpaa.szAt
  cases e : Go.Proofs.Ytfdlelcipnabpaa.seg S.w s with
  | none => exact h.used0
  | some g =>
    obtain ⟨_, _, h2, rfl⟩ := seg_some e
    simp only [Option.map_some, Option.getD_some]
    simp only [Ar.w, List.getElem_map]
    exact h.seg _ (List.getElem_mem _)
theorem szAt_get {S : Ar} {k : Nat} (h : k < S.l.length) : (Go.Proofs.Ytfdlelcipnabpaa.szAt S.w k : Int) = S.l[k].2.length := by
  simp [Go.Proofs.Ytfdlelcipnabpaa.szAt, Go.Proofs.Ytfdlelcipnabpaa.seg, Ar.w, h]
/-- Is so much given out of a segment? -/
def okIn (S : Ar) (s n : Int) : Bool := decide (0 ≤ s ∧ s < S.l.length ∧ 0 ≤ n ∧ n ≤ S.most - S.used ∧ n ≤ S.size - szAt S.w s)
def inS' (S : Ar) (s n : Int) : Ar := if okIn S s n = true then growS S s.toNat n.toNat else S

theorem In_spec (S : Ar) (h : S.Ok) (s n : Int) : SpecH Try.prog 26 1 [.pob [0] S.u 0, iv s, iv n] (ov 0 (arF 0 S) (lkH [])) (.tup [iv (if okIn S s n = true then szAt S.w s else 0), bv (okIn S s n)]) (ov 0 (arF 0 (inS' S s n)) (lkH [])) := by
  refine specH_of t_arena_Arena_In (by simp) fun w0 I0 M0 m0 => ?_
  unfold c_arena_Arena_In
  simp
  refine sc_callb_gf [S.a] rfl (fun _ => (len_spec S.w).toB rfl) (fun e => by simp [e]; exact frz_ar) (by simp) ?_
  simp
  have o1 := h.used0
  have o2 := h.used1
  have o3 := h.most1
  refine sc_callb_gf [S.a] rfl (fun _ => (left_spec S.w S.size S.most S.used (by omega) (by omega)).toB rfl) (fun e => by simp [e]; exact frz_ar) (by simp) ?_
  simp
  have oz := h.szAt s
  have oz0 := h.size0
  have oz1 := h.size1
  refine sc_callb_gf [S.a, iv s, iv n] rfl (fun _ => (room_spec S.w S.size S.most S.used s n (by omega) (by omega)).toB rfl) (fun e => by simp only [Bool.or_eq_false_iff] at e; simp [e]; exact ⟨frz_ar, frz_bare rfl, frz_bare rfl⟩) (by simp) ?_
  simp
  refine ⟨fun hc => ?_, fun a1 a2 a3 a4 a5 => ?_⟩
  · have hk : okIn S s n = false := by
      simp only [okIn, decide_eq_false_iff_not]
      simp [Ar.w] at hc ⊢
      omega
    refine reth_ret rfl ?_ (fun i p hi => ?_)
    · simp [hk]
    · simp [inS', hk]
  · have hk : okIn S s n = true := by
      simp only [okIn, decide_eq_true_eq]
      simp [Ar.w] at a2
      exact ⟨a1, a2, a3, a4, a5⟩
    obtain ⟨k, rfl⟩ := Int.eq_ofNat_of_zero_le a1
    obtain ⟨m, rfl⟩ := Int.eq_ofNat_of_zero_le a3
    have hlt : k < S.l.length := by simp [Ar.w] at a2; exact a2
    have hz : (Go.Proofs.Ytfdlelcipnabpaa.szAt S.w k : Int) = S.l[k].2.length := szAt_get hlt
    refine sc_ar (r := 0) (grow_spec S k m S.l[k] (List.getElem?_eq_getElem hlt) (by omega) o1 (by omega)) (fun p => rfl) rfl (fun _ _ => rfl) (fun _ => ⟨trivial, trivial, trivial⟩) (fun _ _ => rfl) (fun _ => trivial) (by simp) ?_
    simp
    refine reth_ret rfl ?_ (fun i p hi => ?_)
    · simp [hk, hz]
    · simp [inS', hk]
end Go.Proofs.Ytfdlelcipnabpaa
