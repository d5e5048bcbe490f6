/-
  Chapter 6's functions: arenas that are only read.
-/
import Derived.Test.YtigdcnlhgelkaaaD04b
import Derived.Test.YtigdcnlhgelkaaaGFnsB
import Derived.Test.YtigdcnlhgelkaaaGLe
namespace Go.Proofs.Ytigdcnlhgelkaaa
set_option linter.unusedVariables false
set_option linter.unusedSimpArgs false
open Go Go.G Go.Proofs

/-- A word; words; segments. -/
def isW (n : Int) : Prop := 0 ≤ n ∧ n < 18446744073709551616
abbrev ws (l : List Int) : A := .sl false (l.map uv)
abbrev sgs (l : List (List Int)) : A := .sl false (l.map ws)

@[simp] theorem lens_uv (l : List Int) : lens 1 (l.map uv) = true := by simp [lens]
@[simp] theorem lens_ws (l : List (List Int)) : lens 1 (l.map ws) = true := by simp [lens]

theorem clone_spec (f : Bool) (l : List Int) (h : l.length * 8 ≤ 140737488355328) : SpecB Try.prog 73 [.sl f (l.map uv)] (ws l) := by
  cases l with
  | nil =>
    refine specB_nil (fun cap => ?_) (fun a cap => ?_)
    · refine specB_of t_slices_Clone_uint64_uint64 (by simp) fun w0 I0 => ?_
      unfold c_slices_Clone_uint64_uint64
      simp
      exact frzN_nil
    · refine specB_of t_slices_Clone_uint64_uint64 (by simp) fun w0 I0 => ?_
      unfold c_slices_Clone_uint64_uint64
      simp
      exact frzN_osl (sz := 1) (xs := []) (by simp) (by simp) (by simp)
  | cons x l =>
    refine specB_of t_slices_Clone_uint64_uint64 (by simp) fun w0 I0 => ?_
    unfold c_slices_Clone_uint64_uint64
    simp at h ⊢
    refine ⟨h, ?_⟩
    have := frzN_osl (H := lkH [([0], { u := 1, ob := Ob.arr 1 (uv x :: l.map uv) })]) (o := [0]) (u := 1) (off := 0) (len := l.length + 1) (sz := 1) (xs := uv x :: l.map uv) (by simp) (by simp) (by simp [A.flat1, List.take_of_length_le])
    simp [List.take_of_length_le] at this
    exact this

theorem of_loop {n : Nat} {w0 : World} {I0 : Nat → Prop} {Q : Exit → Sta → Prop} {l : List (List Int)} (hl : l.length * 24 ≤ 140737488355328) (hb : ∀ x, x ∈ l → x.length * 8 ≤ 140737488355328) : ∀ (k i u : Nat), i + k = l.length →
    (∀ u', Q (.exit 0) ⟨lk [(3, .pob [0] 1 0), (8, sgs l), (9, iv l.length), (10, iv l.length), (11, bv false)], lkH [([0], ⟨1, .cells [.osl [1] u' 1 0 l.length, iv 0, iv 0, iv 0]⟩), ([1], ⟨u', .arr 1 (l.map ws)⟩)]⟩) →
    LoopC (cx Try.prog w0 I0 n) l1_arena_Of Q ⟨lk [(3, .pob [0] 1 0), (8, sgs l), (9, iv l.length), (10, iv i)], lkH [([0], ⟨1, .cells [.osl [1] u 1 0 i, iv 0, iv 0, iv 0]⟩), ([1], ⟨u, .arr 1 ((l.map ws).take i)⟩)]⟩ := by
  intro k
  induction k with
  | zero =>
    intro i u hi hq
    have : i = l.length := by omega
    subst this
    refine loopC_once mixed l1_arena_Of.eq_1 ?_
    simp
    simpa [List.take_of_length_le] using hq u
  | succ k ih =>
    intro i u hi hq
    have hlt : i < l.length := by omega
    refine loopC_once mixed l1_arena_Of.eq_1 ?_
    simp [hlt]
    refine sc_call (clone_spec false _ (hb _ (List.getElem_mem _))).spec rfl ?_
    simp
    have h24 : (i + 1) * 24 ≤ 140737488355328 := by omega
    refine ⟨⟨by omega, h24⟩, ?_⟩
    rw [i64_same (by omega) (by omega)]
    have := ih (i + 1) (u + 1) (by omega) hq
    rw [List.take_succ_eq_append_getElem (by simpa using hlt)] at this
    simpa [List.take_take] using this

/-- An arena that is only read. -/
abbrev arX (l : List (List Int)) (z m u : Int) : A := .pim [sgs l, iv z, iv m, iv u]
abbrev arn (l : List (List Int)) : A := arX l 0 0 0

theorem frz_sgs {H : Hp} {o : Nm} {u n : Nat} {l : List (List Int)} (h : vr (H o) u = some (1, l.map ws)) (hn : n = l.length) : Frz H (.osl o u 1 0 n) (sgs l) := by
  subst hn
  have := frz_osl (H := H) (o := o) (u := u) (off := 0) (len := l.length) (sz := 1) (xs := l.map ws) (by simpa using h) (by simp) (by simp [List.take_of_length_le])
  simp [List.take_of_length_le] at this
  exact this

theorem of_spec (l : List (List Int)) (hl : l.length * 24 ≤ 140737488355328) (hb : ∀ x, x ∈ l → x.length * 8 ≤ 140737488355328) : G.Spec Try.prog 39 [sgs l] (arn l) := by
  refine spec_of t_arena_Of (by simp) fun w0 I0 => ?_
  unfold c_arena_Of
  simp
  refine LoopC.le (le_blankC (d := [0]) 0 [1] 1 rfl rfl (by simp)) ?_
  simp
  refine of_loop hl hb l.length 0 1 (by omega) (fun u' => ?_)
  simp
  refine frz_pob (by simp; rfl) ?_ (by simp)
  simp
  exact ⟨frz_sgs (by simp) rfl, frz_bare rfl⟩

theorem len_spec {z m u : Int} (l : List (List Int)) : G.Spec Try.prog 145 [arX l z m u] (iv l.length) := by
  refine spec_of t_arena_Arena_Len (by simp) fun w0 I0 => ?_
  unfold c_arena_Arena_Len
  simp
  exact frz_bare rfl

/-- A segment; its length. -/
def seg (l : List (List Int)) (s : Int) : Option (List Int) := if 0 ≤ s then l[s.toNat]? else none
def szAt (l : List (List Int)) (s : Int) : Nat := ((seg l s).map List.length).getD 0
theorem seg_in {l : List (List Int)} {s : Int} (h0 : 0 ≤ s) (h1 : s < l.length) : ∃ h : s.toNat < l.length, seg l s = some l[s.toNat] := by
  have : s.toNat < l.length := by omega
  exact ⟨this, by simp [seg, h0, this]⟩
theorem seg_out {l : List (List Int)} {s : Int} (h : s < 0 ∨ l.length ≤ s) : seg l s = none := by
  unfold seg
  split
  · rw [List.getElem?_eq_none_iff]; omega
  · rfl
theorem seg_some {l : List (List Int)} {s : Int} {g : List Int} (h : seg l s = some g) : 0 ≤ s ∧ s < l.length ∧ ∃ h : s.toNat < l.length, g = l[s.toNat] := by
  unfold seg at h
  split at h
  · obtain ⟨h1, h2⟩ := List.getElem?_eq_some_iff.1 h
    exact ⟨by assumption, by omega, h1, h2.symm⟩
  · cases h

theorem size_spec {z m u : Int} (l : List (List Int)) (s : Int) : G.Spec Try.prog 144 [arX l z m u, iv s] (iv (szAt l s)) := by
  refine spec_of t_arena_Arena_Size (by simp) fun w0 I0 => ?_
  unfold c_arena_Arena_Size
  simp
  refine sc_call_gf rfl (fun _ => len_spec (z := z) (m := m) (u := u) l) (fun e => by simp [e]) rfl ?_
  simp
  refine ⟨fun h => ?_, fun h0 h1 => ?_⟩
  · rw [szAt, seg_out h]
    exact frz_bare rfl
  · obtain ⟨h2, e1⟩ := seg_in h0 h1
    simp [h0, h1, h2]
    rw [szAt, e1]
    exact frz_int rfl

/-- Are so many words, from one on, in a segment? -/
def hasW (l : List (List Int)) (s a n : Int) : Bool := decide (0 ≤ s ∧ s < l.length ∧ 0 ≤ a ∧ 0 ≤ n ∧ a + n ≤ szAt l s)

theorem has_spec {z m u : Int} (l : List (List Int)) (hb : ∀ x, x ∈ l → x.length * 8 ≤ 140737488355328) (s a n : Int) : G.Spec Try.prog 124 [arX l z m u, iv s, iv a, iv n] (bv (hasW l s a n)) := by
  have hz : szAt l s * 8 ≤ 140737488355328 := by
    unfold szAt
    cases h : seg l s with
    | none => simp
    | some g =>
      obtain ⟨_, _, h2, rfl⟩ := seg_some h
      simpa using hb _ (List.getElem_mem h2)
  refine spec_of t_arena_Arena_Has (by simp) fun w0 I0 => ?_
  unfold c_arena_Arena_Has
  simp
  refine sc_call (size_spec l s) rfl ?_
  simp
  refine sc_call_gt rfl (fun _ => len_spec (z := z) (m := m) (u := u) l) (fun e => by simp [e]) rfl ?_
  simp
  refine frz_bool ?_
  rw [Bool.eq_iff_iff]
  simp only [Bool.and_eq_true, decide_eq_true_eq, hasW]
  constructor
  · rintro ⟨⟨⟨⟨⟨h1, h2⟩, h3⟩, h4⟩, h5⟩, h6⟩
    rw [i64_same (by omega) (by omega)] at h6
    omega
  · rintro ⟨h1, h2, h3, h4, h5⟩
    rw [i64_same (by omega) (by omega)]
    omega

/-- A word. -/
def word (l : List (List Int)) (s a : Int) : Option Int := if 0 ≤ a then (seg l s).bind fun g => g[a.toNat]? else none
theorem hasW_one {l : List (List Int)} {s a : Int} : hasW l s a 1 = (word l s a).isSome := by
  rw [Bool.eq_iff_iff]
  simp only [hasW, decide_eq_true_eq]
  simp only [word, szAt]
  constructor
  · rintro ⟨h1, h2, h3, h4, h5⟩
    obtain ⟨h6, e1⟩ := seg_in h1 h2
    rw [e1] at h5
    simp at h5
    simp [h3, e1]
    omega
  · intro h
    split at h
    · rename_i h3
      cases e : seg l s with
      | none => simp [e] at h
      | some g =>
        obtain ⟨k1, k2, _⟩ := seg_some e
        simp [e] at h
        simp
        omega
    · simp at h
theorem word_some {l : List (List Int)} {s a x : Int} (h : word l s a = some x) : 0 ≤ s ∧ s < l.length ∧ 0 ≤ a ∧ ∃ (h1 : s.toNat < l.length) (h2 : a.toNat < l[s.toNat].length), x = l[s.toNat][a.toNat] := by
  unfold word at h
  split at h
  · rename_i h3
    cases e : seg l s with
    | none => simp [e] at h
    | some g =>
      obtain ⟨k1, k2, k3, rfl⟩ := seg_some e
      simp only [e, Option.bind_some] at h
      obtain ⟨h1, h2⟩ := List.getElem?_eq_some_iff.1 h
      exact ⟨k1, k2, h3, k3, h1, h2.symm⟩
  · cases h

theorem get_spec {z m u : Int} (l : List (List Int)) (hb : ∀ x, x ∈ l → x.length * 8 ≤ 140737488355328) (s a : Int) : G.Spec Try.prog 95 [arX l z m u, iv s, iv a] (.tup [uv ((word l s a).getD 0), bv (word l s a).isSome]) := by
  refine spec_of t_arena_Arena_Get (by simp) fun w0 I0 => ?_
  unfold c_arena_Arena_Get
  simp
  refine sc_call (has_spec l hb s a 1) rfl ?_
  simp [hasW_one]
  cases h : word l s a with
  | none =>
    simp
    exact frz_bare rfl
  | some x =>
    obtain ⟨k1, k2, k3, k4, k5, rfl⟩ := word_some h
    have k6 : a < l[s.toNat].length := by omega
    simp [k1, k2, k3, k4, k5, k6]
    exact frz_bare rfl

/-- Words. -/
def part (l : List (List Int)) (s a n : Int) : List Int := (((seg l s).getD []).drop a.toNat).take n.toNat
theorem hasW_in {l : List (List Int)} {s a n : Int} (h : hasW l s a n = true) : 0 ≤ s ∧ s < l.length ∧ 0 ≤ a ∧ 0 ≤ n ∧ ∃ h : s.toNat < l.length, seg l s = some l[s.toNat] ∧ a + n ≤ l[s.toNat].length := by
  simp only [hasW, decide_eq_true_eq] at h
  obtain ⟨h1, h2, h3, h4, h5⟩ := h
  obtain ⟨h6, e1⟩ := seg_in h1 h2
  rw [szAt, e1] at h5
  exact ⟨h1, h2, h3, h4, h6, e1, h5⟩
theorem part_spec {z m u : Int} (l : List (List Int)) (hb : ∀ x, x ∈ l → x.length * 8 ≤ 140737488355328) (s a n : Int) : G.Spec Try.prog 147 [arX l z m u, iv s, iv a, iv n] (if hasW l s a n = true then .tup [ws (part l s a n), bv true] else .tup [ws [], bv false]) := by
  refine spec_of t_arena_Arena_Part (by simp) fun w0 I0 => ?_
  unfold c_arena_Arena_Part
  simp
  refine sc_call (has_spec l hb s a n) rfl ?_
  cases h : hasW l s a n with
  | false =>
    simp
    refine frz_tup ?_
    simp
    exact ⟨frz_sl, frz_bare rfl⟩
  | true =>
    obtain ⟨h1, h2, h3, h4, h5, e1, h6⟩ := hasW_in h
    have hg := hb _ (List.getElem_mem h5)
    simp [h1, h2, h5]
    rw [i64_same (by omega) (by omega)]
    have h7 : 0 ≤ a + n := by omega
    have h8 : a ≤ max (a + n) 0 := by omega
    simp [h3, h6, h7, h4, h8]
    have e : List.take ((a + n).toNat - a.toNat) (List.drop a.toNat (List.map uv l[s.toNat])) = (part l s a n).map uv := by
      rw [part, e1, show (a + n).toNat - a.toNat = n.toNat from by omega]
      simp
    rw [e]
    have hl : (part l s a n).length * 8 ≤ 140737488355328 := by
      rw [part, e1]
      simp
      omega
    refine sc_call (clone_spec _ _ hl).spec rfl ?_
    simp
    exact frz_bare rfl
end Go.Proofs.Ytigdcnlhgelkaaa
