/-
  Chapter 5's functions: arenas out of which words are given.
-/
import Derived.Test.YtfdlelcipnabpaaD06b
import Derived.Test.YtfdlelcipnabpaaGFnsC
import Derived.Test.YtfdlelcipnabpaaGCall2
namespace Go.Proofs.Ytfdlelcipnabpaa
set_option linter.unusedVariables false
set_option linter.unusedSimpArgs false
open Go Go.G Go.Proofs

/-- An arena: its segments, each with its row's version; the versions of its cells and of the row of segments; its numbers. -/
structure Ar where
  l : List (Nat × List Int)
  u : Nat
  ur : Nat
  size : Int
  most : Int
  used : Int
def rowS (r : Nat) (l : List (Nat × List Int)) : List A := l.mapIdx fun i e => .osl [r, 0, i] e.1 1 0 e.2.length
/-- Its objects. -/
def arF (r : Nat) (S : Ar) : Nm → VOb
  | [] => ⟨S.u, .cells [.osl [r, 0] S.ur 1 0 S.l.length, iv S.size, iv S.most, iv S.used]⟩
  | [0] => ⟨S.ur, .arr 1 (rowS r S.l)⟩
  | [0, i] => match S.l[i]? with
    | some e => ⟨e.1, .arr 1 (e.2.map uv)⟩
    | none => ⟨0, .none⟩
  | _ => ⟨0, .none⟩
@[simp] theorem arF_nil {r : Nat} {S : Ar} : arF r S [] = ⟨S.u, .cells [.osl [r, 0] S.ur 1 0 S.l.length, iv S.size, iv S.most, iv S.used]⟩ := rfl
@[simp] theorem arF_row {r : Nat} {S : Ar} : arF r S [0] = ⟨S.ur, .arr 1 (rowS r S.l)⟩ := rfl
@[simp] theorem arF_seg {r i : Nat} {S : Ar} : arF r S [0, i] = match S.l[i]? with
    | some e => ⟨e.1, .arr 1 (e.2.map uv)⟩
    | none => ⟨0, .none⟩ := rfl
@[simp] theorem rowS_length {r : Nat} {l : List (Nat × List Int)} : (rowS r l).length = l.length := by simp [rowS]
@[simp] theorem rowS_get? {r i : Nat} {l : List (Nat × List Int)} : (rowS r l)[i]? = (l[i]?).map fun e => .osl [r, 0, i] e.1 1 0 e.2.length := by simp [rowS]

@[simp] theorem rowS_get {r i : Nat} {l : List (Nat × List Int)} (h : i < (rowS r l).length) : (rowS r l)[i] = .osl [r, 0, i] (l[i]'(by simpa using h)).1 1 0 (l[i]'(by simpa using h)).2.length := by simp [rowS]

theorem rowS_modify {r k : Nat} {l : List (Nat × List Int)} {f : Nat × List Int → Nat × List Int} (h : k < l.length) : rowS r (l.modify k f) = (rowS r l).set k (.osl [r, 0, k] (f l[k]).1 1 0 (f l[k]).2.length) := by
  apply List.ext_getElem
  · simp
  · intro i h1 h2
    simp only [rowS_get, List.getElem_set, List.getElem_modify]
    by_cases e : k = i
    · subst e; simp
    · simp [e]
/-- But for cells and row, segment by segment. -/
theorem arF_but {r : Nat} {S S' : Ar} {p : Nm} (h1 : p ≠ []) (h2 : p ≠ [0]) (h : ∀ j, p = [0, j] → S.l[j]? = S'.l[j]?) : arF r S p = arF r S' p := by
  match p, h1, h2, h with
  | [], h1, _, _ => exact absurd rfl h1
  | [0], _, h2, _ => exact absurd rfl h2
  | [0, j], _, _, h => simp [h j rfl]
  | (a + 1) :: q, _, _, _ => rfl
  | 0 :: a :: b :: q, _, _, _ => rfl

def growS (S : Ar) (k n : Nat) : Ar := { S with l := S.l.modify k fun e => (e.1 + 1, e.2 ++ List.replicate n 0), used := S.used + n }

theorem grow_spec (S : Ar) (k n : Nat) (e : Nat × List Int) (hk : S.l[k]? = some e) (hn : (e.2.length + n) * 8 ≤ 140737488355328) (h0 : 0 ≤ S.used) (h1 : S.used + n < 9223372036854775808) :
    SpecH Try.prog 46 1 [.pob [0] S.u 0, iv k, iv n] (ov 0 (arF 0 S) (lkH [])) (iv e.2.length) (ov 0 (arF 0 (growS S k n)) (lkH [])) := by
  refine specH_of t_arena_Arena_grow (by simp) fun w0 I0 M0 m0 => ?_
  unfold c_arena_Arena_grow
  have hlt : k < S.l.length := (List.getElem?_eq_some_iff.1 hk).1
  have he : S.l[k] = e := (List.getElem?_eq_some_iff.1 hk).2
  have hn1 : (n : Int) * 8 ≤ 140737488355328 := by omega
  simp [hk, hlt, he, hn1, hn, updF_app]
  refine reth_ret rfl rfl (fun i p hi => ?_)
  have hi0 : i = 0 := by omega
  subst hi0
  simp only [ov_cons, if_true]
  refine updF_is ?_ (fun h1 => updF_is ?_ (fun h2 => updF_is ?_ (fun h3 => ?_)))
  · simp [growS, i64_same (n := S.used + n) (by omega) h1]
  · simp [growS, rowS_modify hlt, he]
  · simp [growS, List.getElem?_modify, hk, List.take_of_length_le]
  · refine arF_but h1 h2 fun j hj => ?_
    have : j ≠ k := fun e => h3 (by rw [hj, e])
    simp [growS, List.getElem?_modify, Ne.symm this]

theorem flat_ones : ∀ {l : List A}, (∀ x, x ∈ l → x.cells = [x]) → l.flatMap A.cells = l
  | [], _ => rfl
  | x :: l, h => by rw [List.flatMap_cons, h x (by simp), flat_ones fun y hy => h y (by simp [hy])]; rfl
theorem frzL_intro {H : Hp} : ∀ {l l' : List A}, l.length = l'.length → (∀ (k : Nat) (a a' : A), l[k]? = some a → l'[k]? = some a' → Frz H a a') → FrzL H l l'
  | [], [], _, _ => trivial
  | a :: l, a' :: l', h, k => ⟨k 0 a a' rfl rfl, frzL_intro (by simpa using h) fun i x x' hx hx' => k (i + 1) x x' (by simpa using hx) (by simpa using hx')⟩
/-- As it is read. -/
def Ar.w (S : Ar) : List (List Int) := S.l.map Prod.snd
abbrev Ar.a (S : Ar) : A := arX S.w S.size S.most S.used
theorem frz_ar {r : Nat} {S : Ar} {H : Hp} : Frz (ov r (arF r S) H) (.pob [r] S.u 0) S.a := by
  refine frz_pob (cs := [.osl [r, 0] S.ur 1 0 S.l.length, iv S.size, iv S.most, iv S.used]) (by simp) ?_ (by simp)
  simp
  refine ⟨?_, frz_bare rfl, frz_bare rfl, frz_bare rfl⟩
  have := frz_osl' (H := ov r (arF r S) H) (o := [r, 0]) (u := S.ur) (off := 0) (len := S.l.length) (sz := 1) (xs := rowS r S.l) (ys := S.w.map ws) (by simp) (by simp) (by simp [Ar.w]) (by simp) (by simp [A.ones]) ?_
  · exact this
  · have e1 : List.flatMap A.cells (List.take S.l.length (List.drop 0 (rowS r S.l))) = rowS r S.l := by
      rw [List.drop_zero, List.take_of_length_le (by simp)]
      exact flat_ones fun x hx => by
        obtain ⟨i, hi, rfl⟩ := List.mem_mapIdx.1 hx
        rfl
    have e2 : List.flatMap A.cells (List.map ws S.w) = List.map ws S.w := flat_ones fun x hx => by
      obtain ⟨i, hi, rfl⟩ := List.mem_map.1 hx
      rfl
    rw [e1, e2]
    refine frzL_intro (by simp [Ar.w]) fun k a a' ha ha' => ?_
    simp at ha ha'
    obtain ⟨p, q, hk, rfl⟩ := ha
    obtain ⟨g, hg, rfl⟩ := ha'
    simp [Ar.w, hk] at hg
    subst hg
    have := frz_osl (H := ov r (arF r S) H) (o := [r, 0, k]) (u := p) (off := 0) (len := q.length) (sz := 1) (xs := q.map uv) (by simp [hk]) (by simp) (by simp [List.take_of_length_le])
    simpa [List.take_of_length_le] using this

theorem left_spec (l : List (List Int)) (z m u : Int) (h0 : -9223372036854775808 ≤ m - u) (h1 : m - u < 9223372036854775808) : G.Spec Try.prog 27 [arX l z m u] (iv (m - u)) := by
  refine spec_of t_arena_Arena_Left (by simp) fun w0 I0 => ?_
  unfold c_arena_Arena_Left
  simp
  rw [i64_same h0 h1]
  exact frz_bare rfl

theorem room_spec (l : List (List Int)) (z m u s n : Int) (h0 : -9223372036854775808 ≤ z - szAt l s) (h1 : z - szAt l s < 9223372036854775808) : G.Spec Try.prog 45 [arX l z m u, iv s, iv n] (bv (decide (n ≤ z - szAt l s))) := by
  refine spec_of t_arena_Arena_room (by simp) fun w0 I0 => ?_
  unfold c_arena_Arena_room
  simp
  refine sc_call (size_spec l s) rfl ?_
  simp
  rw [i64_same h0 h1]
  exact frz_bare rfl
end Go.Proofs.Ytfdlelcipnabpaa
