/-
  Making: struct and array literals, slices, append, copy.
-/
import Derived.Test.YtebihdhapepejaaDoorGSlice
namespace Go.G
set_option linter.unusedVariables false
set_option linter.unusedSimpArgs false
open Go.RowKit

/-! ### filling cells -/
def fillA (place : Nat → Option (Nat × Nat)) (cells : List A) : List (Nat × A) → Option (List A)
  | [] => some cells
  | (i, x) :: rest => match place i with
    | none => none
    | some (off, size) => if x.cells.length = size ∧ off + size ≤ cells.length ∧ A.ones x.cells = true then fillA place (splice cells off x.cells) rest else none

theorem fold_set : ∀ (l : List Value) (n off : Nat) (cs : Array Value), off + n + l.length ≤ cs.size →
    ((l.zipIdx n).foldl (fun cs (q : Value × Nat) => cs.setIfInBounds (off + q.2) q.1) cs).toList = cs.toList.take (off + n) ++ l ++ cs.toList.drop (off + n + l.length)
  | [], n, off, cs, _ => by simp
  | v :: l, n, off, cs, h => by
    simp only [List.zipIdx_cons, List.foldl_cons]
    rw [fold_set l (n + 1) off _ (by simp at h ⊢; omega)]
    have e := list_seg_step cs.toList (off + n) v l (by simp at h ⊢; omega)
    simpa [Array.toList_setIfInBounds, Nat.add_assoc] using e

def RelC (w : World) (I : Nat → Prop) (μ : Mu) (cs : List A) (vs : Array Value) : Prop :=
  vs.size = cs.length ∧ ∀ (k : Nat) (y : A), cs[k]? = some y → y.one = true ∧ Rel w I μ y (vs.getD k undef)

theorem RelC.splice {w : World} {I : Nat → Prop} {μ : Mu} {cs news : List A} {vs nv : Array Value} {off : Nat} (h : RelC w I μ cs vs) (hn : RelC w I μ news nv) (hfit : off + news.length ≤ cs.length) :
    RelC w I μ (splice cs off news) (vs.toList.take off ++ nv.toList ++ vs.toList.drop (off + nv.toList.length)).toArray := by
  refine ⟨?_, splice_rel (Q := fun y v => y.one = true ∧ Rel w I μ y v) h.2 (by rw [h.1]; exact Nat.le_refl _) hn.2 hn.1 hfit⟩
  rw [splice_length hfit]
  have := h.1; have := hn.1
  simp; omega

theorem fillA_sound {w : World} {I : Nat → Prop} {μ : Mu} {place : Nat → Option (Nat × Nat)} : ∀ {ps : List (Nat × A)} {qs : List (Nat × Value)} {cs r : List A} {vs : Array Value}, RelC w I μ cs vs →
    ps.map (·.1) = qs.map (·.1) → (∀ (k : Nat) (p : Nat × A) (q : Nat × Value), ps[k]? = some p → qs[k]? = some q → Rel w I μ p.2 q.2) → fillA place cs ps = some r →
    ∃ vs', Instr.fill place vs qs = some vs' ∧ RelC w I μ r vs'
  | [], qs, cs, r, vs, hc, he, _, h => by
    cases qs with
    | nil => cases h; exact ⟨vs, rfl, hc⟩
    | cons => cases he
  | (i, x) :: ps, qs, cs, r, vs, hc, he, hr, h => by
    cases qs with
    | nil => cases he
    | cons q qs =>
      obtain ⟨j, y⟩ := q
      simp only [List.map_cons, List.cons.injEq] at he
      obtain ⟨hij, he⟩ := he
      subst hij
      unfold fillA at h
      split at h
      · cases h
      · rename_i off size hp
        split at h
        · rename_i hcond
          obtain ⟨h1, h2, h3⟩ := hcond
          have hxy : Rel w I μ x y := hr 0 _ _ rfl rfl
          have hn := hxy.cellsRel h3
          have hfit : off + y.cells.size ≤ vs.size := by rw [hc.1, hn.1]; omega
          have hfold := fold_set y.cells.toList 0 off vs (by simpa using hfit)
          have hc' := hc.splice (off := off) hn (by omega)
          simp only [Nat.add_zero] at hfold
          have hz : (y.cells.zipIdx.foldl (fun cs (q : Value × Nat) => cs.setIfInBounds (off + q.2) q.1) vs) = (vs.toList.take off ++ y.cells.toList ++ vs.toList.drop (off + y.cells.toList.length)).toArray := by
            apply Array.ext'
            rw [← hfold]
            rw [← Array.toList_zipIdx, Array.foldl_toList]
          obtain ⟨vs', e1, e2⟩ := fillA_sound (ps := ps) (qs := qs) hc' he (fun k p q hp hq => hr (k + 1) p q (by simpa using hp) (by simpa using hq)) h
          refine ⟨vs', ?_, e2⟩
          unfold Instr.fill
          simp only [hp]
          rw [if_neg (by simp only [Bool.or_eq_true, decide_eq_true_eq, not_or]; have := hn.1; exact ⟨by simp; omega, by omega⟩)]
          have : (Array.foldl (fun cs (x : Value × Nat) => match x with | (c, j) => cs.setIfInBounds (off + j) c) vs y.cells.zipIdx) = (vs.toList.take off ++ y.cells.toList ++ vs.toList.drop (off + y.cells.toList.length)).toArray := hz
          rw [this]
          exact e1
        · cases h

/-- The places of a struct's fields. -/
def placesT (P : Program) : List Field → Option (List (Nat × Nat))
  | [] => some []
  | f :: fs => match szT P f.type, placesT P fs with
    | some n, some r => some ((f.offset, n) :: r)
    | _, _ => none

theorem placesT_run {P : Program} {w : World} : ∀ {fs : List Field} {r : List (Nat × Nat)}, placesT P fs = some r → (fs.mapM (m := Sem) fun f => do pure (f.offset, ← sizeOf f.type)).run P w = .ok r w
  | [], r, h => by cases h; rfl
  | f :: fs, r, h => by
    unfold placesT at h
    split at h
    · rename_i n q hn hq
      cases h
      have ih := placesT_run (P := P) (w := w) hq
      rw [List.mapM_cons]
      simp only [Sem.run_bind, run_szT hn, Result.andThen_ok, Sem.run_pure, ih]
    · cases h

def buildA (P : Program) (t : TypeId) (parts : List (Nat × A)) : Option A :=
  match zeroT P t with
  | some z => if A.ones (ofV z).cells = true then
      match P.underlying t with
      | some (.struct fs) => match placesT P fs.toList with
        | some pl => (fillA (fun i => pl[i]?) (ofV z).cells parts).map .agg
        | none => none
      | some (.array _ e) => match szT P e with
        | some size => (fillA (fun i => some (i * size, size)) (ofV z).cells parts).map .agg
        | none => none
      | _ => none
    else none
  | none => none

theorem buildA_sound {P : Program} {w : World} {I : Nat → Prop} {μ : Mu} {t : TypeId} {ps : List (Nat × A)} {qs : Array (Nat × Value)} {r : A} (he : ps.map (·.1) = qs.toList.map (·.1))
    (hr : ∀ (k : Nat) (p : Nat × A) (q : Nat × Value), ps[k]? = some p → qs.toList[k]? = some q → Rel w I μ p.2 q.2) (h : buildA P t ps = some r) : ∃ v, (Instr.build t qs).run P w = .ok v w ∧ Rel w I μ r v := by
  unfold buildA at h
  split at h
  · rename_i z hz
    split at h
    · rename_i h1
      have hzc := (rel_ofV (w := w) (I := I) (μ := μ) z).cellsRel h1
      split at h
      · rename_i fs hu
        split at h
        · rename_i pl hpl
          simp only [Option.map_eq_some_iff] at h
          obtain ⟨cs, hcs, rfl⟩ := h
          obtain ⟨vs', e1, e2⟩ := fillA_sound (ps := ps) (qs := qs.toList) hzc he hr hcs
          have hm : (Array.mapM (m := Sem) (fun f => do pure (f.offset, ← sizeOf f.type)) fs).run P w = .ok pl.toArray w := by
            have := placesT_run (P := P) (w := w) hpl
            rw [Array.mapM_eq_mapM_toList]
            simp only [Sem.run_map, this, Result.andThen_ok]
          refine ⟨.agg vs', ?_, .agg _ _ _ e2.1 fun k y hk => (e2.2 k y hk).2⟩
          have e1' : Instr.fill (fun x => pl.toArray[x]?) z.cells qs.toList = some vs' := by
            rw [← e1]; congr 1; funext i; simp
          simp only [Instr.build, Sem.run_bind, run_zeroT hz, Result.andThen_ok, run_underlying hu, hm, e1', Sem.run_pure]
        · cases h
      · rename_i n e hu
        split at h
        · rename_i size hsz
          simp only [Option.map_eq_some_iff] at h
          obtain ⟨cs, hcs, rfl⟩ := h
          obtain ⟨vs', e1, e2⟩ := fillA_sound (ps := ps) (qs := qs.toList) hzc he hr hcs
          refine ⟨.agg vs', ?_, .agg _ _ _ e2.1 fun k y hk => (e2.2 k y hk).2⟩
          simp only [Instr.build, Sem.run_bind, run_zeroT hz, Result.andThen_ok, run_underlying hu, run_szT hsz, e1, Sem.run_pure]
        · cases h
      · cases h
    · cases h
  · cases h
end Go.G
