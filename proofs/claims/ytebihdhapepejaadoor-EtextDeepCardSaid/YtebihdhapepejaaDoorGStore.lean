/-
  Writing, and structs: what an operation yields in an abstract state.
-/
import Derived.Test.YtebihdhapepejaaDoorGOp
namespace Go.G
set_option linter.unusedVariables false
set_option linter.unusedSimpArgs false
open Go.RowKit

def splice (cs : List A) (off : Nat) (news : List A) : List A := cs.take off ++ news ++ cs.drop (off + news.length)

theorem splice_length {cs news : List A} {p : Nat} (h : p + news.length ≤ cs.length) : (splice cs p news).length = cs.length := by
  simp [splice]; omega

theorem splice_rel {Q : A → Value → Prop} {cs news : List A} {vs nv : Array Value} {p : Nat} (hc : ∀ (k : Nat) (y : A), cs[k]? = some y → Q y (vs.getD k undef)) (hl : cs.length ≤ vs.size)
    (hn : ∀ (k : Nat) (y : A), news[k]? = some y → Q y (nv.getD k undef)) (hnl : nv.size = news.length) (hp : p + news.length ≤ cs.length) :
    ∀ (k : Nat) (y : A), (splice cs p news)[k]? = some y → Q y ((vs.toList.take p ++ nv.toList ++ vs.toList.drop (p + nv.toList.length)).toArray.getD k undef) := by
  intro k y hk
  unfold splice at hk
  have hget : ∀ (l : List Value), l.toArray.getD k undef = (l[k]?).getD undef := fun l => by simp [Array.getD_eq_getD_getElem?]
  rw [hget]
  have hvs : ∀ (j : Nat), vs.getD j undef = (vs.toList[j]?).getD undef := fun j => by simp [Array.getD_eq_getD_getElem?]
  have hnv : ∀ (j : Nat), nv.getD j undef = (nv.toList[j]?).getD undef := fun j => by simp [Array.getD_eq_getD_getElem?]
  have hnl' : nv.toList.length = news.length := by simpa using hnl
  have hvl : vs.toList.length = vs.size := by simp
  by_cases h1 : k < p
  · rw [List.append_assoc, List.getElem?_append_left (by simp; omega), List.getElem?_take, if_pos h1] at hk
    rw [List.append_assoc, List.getElem?_append_left (by simp; omega), List.getElem?_take, if_pos h1, ← hvs]
    exact hc k y hk
  · by_cases h2 : k < p + news.length
    · rw [List.append_assoc, List.getElem?_append_right (by simp; omega), List.getElem?_append_left (by simp; omega)] at hk
      rw [List.append_assoc, List.getElem?_append_right (by simp; omega), List.getElem?_append_left (by simp; omega)]
      have e1 : (cs.take p).length = p := by simp; omega
      have e2 : (vs.toList.take p).length = p := by simp; omega
      rw [e1] at hk; rw [e2, ← hnv]
      exact hn _ y hk
    · rw [List.getElem?_append_right (by simp; omega)] at hk
      rw [List.getElem?_append_right (by simp; omega)]
      have e1 : (cs.take p ++ news).length = p + news.length := by simp; omega
      have e2 : (vs.toList.take p ++ nv.toList).length = p + news.length := by simp; omega
      rw [e1, List.getElem?_drop] at hk
      rw [e2, List.getElem?_drop, hnl', ← hvs]
      have e3 : p + news.length + (k - (p + news.length)) = k := by omega
      rw [e3] at hk ⊢
      exact hc k y hk

def A.remake (x : A) (cs : List A) : A :=
  match x with
  | .agg _ => .agg cs
  | _ => cs.headD .any

theorem flat_set {s : Nat} : ∀ {xs : List A} {i : Nat} {x x' : A}, (∀ x, x ∈ xs → x.cells.length = s) → xs[i]? = some x → ∀ (j : Nat) (news : List A), j + news.length ≤ s → x'.cells = splice x.cells j news →
    (xs.set i x').flatMap A.cells = splice (xs.flatMap A.cells) (i * s + j) news
  | [], i, x, x', _, hi, _, _, _, _ => by simp at hi
  | z :: xs, 0, x, x', h, hi, j, news, hj, hx => by
    simp only [List.getElem?_cons_zero, Option.some.injEq] at hi
    subst hi
    have hz := h z (by simp)
    simp only [List.set_cons_zero, List.flatMap_cons, hx, splice, Nat.zero_mul, Nat.zero_add]
    rw [List.take_append_of_le_length (by omega), List.drop_append_of_le_length (by omega)]
    simp [List.append_assoc]
  | z :: xs, i + 1, x, x', h, hi, j, news, hj, hx => by
    simp only [List.getElem?_cons_succ] at hi
    have hz := h z (by simp)
    have ih := flat_set (xs := xs) (fun x hx => h x (by simp [hx])) hi j news hj hx
    simp only [List.set_cons_succ, List.flatMap_cons, ih, splice]
    have e : (i + 1) * s + j = z.cells.length + (i * s + j) := by rw [hz, Nat.add_mul]; omega
    have e' : (i + 1) * s + j + news.length = z.cells.length + (i * s + j + news.length) := by omega
    rw [e', e, List.take_length_add_append, List.drop_length_add_append]
    simp [List.append_assoc]

def A.isAgg : A → Bool
  | .agg _ => true
  | _ => false

theorem remake_cells {x : A} (h : x.isAgg = true) (cs : List A) : (x.remake cs).cells = cs := by
  cases x <;> simp_all [A.isAgg, A.remake, A.cells]

def storeA (P : Program) (H : Hp) (t : TypeId) (a val : A) : Option Eff :=
  match szT P t with
  | some sz =>
    if val.cells.length = sz ∧ A.ones val.cells = true then
      match a with
      | .pob o u off => match getC H o u with
        | some cs => if off + sz ≤ cs.length then some (.one o ⟨u, .cells (splice cs off val.cells)⟩) else none
        | none => none
      | .pel o u i j => match getR H o u with
        | some (s, xs) => match xs[i]? with
          | some x =>
            if j = 0 ∧ sz = s then some (.one o ⟨u, .arr s (xs.set i val)⟩)
            else if j + sz ≤ s ∧ x.isAgg = true then some (.one o ⟨u, .arr s (xs.set i (x.remake (splice x.cells j val.cells)))⟩) else none
          | none => none
        | none => none
      | _ => none
    else none
  | none => none

theorem grownBy_setRow (w : World) (b : Nat) (cs : Array Value) : w.grownBy (w.setRow b cs) (some b) :=
  ⟨rfl, rfl, rfl, by simp, fun k _ hk => setRow_other w b k cs (fun e => hk (by rw [e]))⟩

theorem run_storeAt {P : Program} {w : World} {t : TypeId} {sz : Nat} (hsz : szT P t = some sz) {b off : Nat} {x : Value} {vs : Array Value} {e : TypeId} (hc : x.cells.size = sz) (hb : w.heap[b]? = some (.cells vs e (0, 0)))
    (hfit : off + sz ≤ vs.size) (h1 : ∀ v, v ∈ x.cells.toList → v.oneCell' = true) :
    (Instr.storeAt t (.pointer (some ⟨b, off, none⟩)) x).run P w = .ok () (w.setRow b (vs.toList.take off ++ x.cells.toList ++ vs.toList.drop (off + x.cells.toList.length)).toArray) := by
  have h := run_storeCells_at P b off e x.cells.toList 0 vs w hb (by simp [hc]; omega) h1
  simp only [Nat.add_zero] at h
  simp [Instr.storeAt, Instr.sureAddr, storeVar, run_szT hsz, hc, h]

theorem updM_self (μ : Mu) (d : Nm) : updF μ d (μ d) = μ := by funext o; unfold updF; split <;> simp_all

theorem storeA_sound {c : Cx} {w : World} {I : Nat → Prop} {μ : Mu} {H : Hp} (hs : Sim c w I μ H) {t : TypeId} {a val : A} {x y : Value} {E : Eff} (ha : Rel w I μ a x) (hv : Rel w I μ val y) (h : storeA c.P H t a val = some E) :
    ∃ w', (Instr.storeAt t x y).run c.P w = .ok () w' ∧ Ext I μ w I μ w' ∧ Sim c w' I μ (E.app H) := by
  unfold storeA at h
  split at h
  · rename_i sz hsz
    split at h
    · rename_i hval
      obtain ⟨hvl, hv1⟩ := hval
      obtain ⟨c1, c2⟩ := hv.cellsRel hv1
      have hone := ones_oneCell c1 c2
      split at h
      · rename_i o u off
        split at h
        · rename_i cs ho
          split at h
          · rename_i hfit
            cases h
            cases ha with
            | pob _ _ _ _ b' k' g1 g2 g3 =>
              obtain ⟨hu, vs, k2, k3, k4⟩ := hs.cells ho
              obtain ⟨rfl, rfl⟩ := g3 hu.symm
              have hB : hasB (μ o) (H o).ob = true := by rw [(getC_some ho).2]; rfl
              have hrun := run_storeAt (P := c.P) hsz (by omega : y.cells.size = sz) k2 (by omega : off + sz ≤ vs.size) hone
              obtain ⟨hx, hs'⟩ := hs.upd (grownBy_setRow w (μ o).b (vs.toList.take off ++ y.cells.toList ++ vs.toList.drop (off + y.cells.toList.length)).toArray) o (μ o) (.cells (splice cs off val.cells)) (.inr ⟨rfl, hB⟩) (.inr rfl) (fun _ => .inr ⟨hB, rfl⟩) (fun _ => hs.tag _ hB) (fun hx => by
                refine ⟨_, setRow_heap w (μ o).b vs _ (μ o).e (0, 0) k2, ?_, ?_⟩
                · rw [splice_length (by omega)]; simp; omega
                · have := splice_rel (Q := fun y v => y.one = true ∧ Rel w I μ y v) k4 (by omega) c2 c1 (p := off) (by omega)
                  exact fun k y hk => ⟨(this k y hk).1, hx.rel (this k y hk).2⟩)
              rw [updM_self, hu] at hs'
              rw [updM_self] at hx
              exact ⟨_, hrun, hx, hs'⟩
          · cases h
        · cases h
      · rename_i o u i j
        split at h
        · rename_i s xs ho
          split at h
          · rename_i x hx
            cases ha with
            | pel _ _ _ _ _ b' k' g1 g2 g3 =>
              obtain ⟨hu, k2, ⟨k1, rfl⟩ | ⟨k1, vs, k3, k4, k5, k6, k7⟩⟩ := hs.row ho
              · simp at hx
              · obtain ⟨rfl, rfl⟩ := g3 hu.symm
                subst k2
                have hB : hasB (μ o) (H o).ob = true := by rw [(getR_some ho).2]; exact k1
                have hi := (List.getElem?_eq_some_iff.1 hx).1
                have hflat := flat_len k6
                have hcap : xs.length * (μ o).sz ≤ (μ o).cap * (μ o).sz := Nat.mul_le_mul_right _ k5
                have hin : i * (μ o).sz + (μ o).sz ≤ xs.length * (μ o).sz := by rw [← Nat.succ_mul]; exact Nat.mul_le_mul_right _ hi
                have main : ∀ (x' : A), j + sz ≤ (μ o).sz → x'.cells = splice x.cells j val.cells → ∃ w', (Instr.storeAt t (.pointer (some ⟨(μ o).b, i * (μ o).sz + j, none⟩)) y).run c.P w = .ok () w' ∧ Ext I μ w I μ w' ∧
                    Sim c w' I μ (updF H o ⟨u, .arr (μ o).sz (xs.set i x')⟩) := fun x' hj hx' => by
                  have hrun := run_storeAt (P := c.P) hsz (by omega : y.cells.size = sz) k3 (by omega : (i * (μ o).sz + j) + sz ≤ vs.size) hone
                  obtain ⟨hx0, hs'⟩ := hs.upd (grownBy_setRow w (μ o).b (vs.toList.take (i * (μ o).sz + j) ++ y.cells.toList ++ vs.toList.drop (i * (μ o).sz + j + y.cells.toList.length)).toArray) o (μ o) (.arr (μ o).sz (xs.set i x')) (.inr ⟨rfl, hB⟩) (.inr rfl) (fun _ => .inr ⟨hB, rfl⟩) (fun _ => hs.tag _ hB) (fun hx0 => by
                    refine ⟨rfl, .inr ⟨k1, _, setRow_heap w (μ o).b vs _ (μ o).e (0, 0) k3, ?_, by simpa using k5, ?_, ?_⟩⟩
                    · simp; omega
                    · intro z hz
                      rcases List.mem_or_eq_of_mem_set hz with hz | rfl
                      · exact k6 z hz
                      · rw [hx', splice_length (by rw [k6 x (List.mem_of_getElem? hx)]; omega)]; exact k6 x (List.mem_of_getElem? hx)
                    · rw [flat_set k6 hx j val.cells (by omega) hx']
                      have := splice_rel (Q := fun y v => y.one = true ∧ Rel w I μ y v) k7 (by omega) c2 c1 (p := i * (μ o).sz + j) (by omega)
                      exact fun k y hk => ⟨(this k y hk).1, hx0.rel (this k y hk).2⟩)
                  rw [updM_self, hu] at hs'
                  rw [updM_self] at hx0
                  exact ⟨_, hrun, hx0, hs'⟩
                split at h
                · rename_i hj
                  obtain ⟨rfl, rfl⟩ := hj
                  cases h
                  refine main val (by omega) ?_
                  simp [splice]
                  rw [hvl, k6 x (List.mem_of_getElem? hx)]
                  exact Nat.le_refl _
                · split at h
                  · rename_i hj
                    obtain ⟨hj, hag⟩ := hj
                    cases h
                    exact main _ hj (remake_cells hag _)
                  · cases h
          · cases h
        · cases h
      · cases h
    · cases h
  · cases h

/-! ### structs -/
def fieldOffT (P : Program) (s : TypeId) (f : Nat) : Option Nat :=
  match P.underlying s with
  | some (.struct fs) => match fs[f]? with
    | some fd => match szT P fd.type with
      | some n => if n = 0 then none else some fd.offset
      | none => none
    | none => none
  | _ => none

def A.shift (n : Nat) : A → Option A
  | .pim cs => some (.pim (cs.drop n))
  | .pob o u off => some (.pob o u (off + n))
  | .pel o u i j => some (.pel o u i (j + n))
  | _ => none

theorem shift_sound {w : World} {I : Nat → Prop} {μ : Mu} {a r : A} {x : Value} {n : Nat} (ha : Rel w I μ a x) (h : a.shift n = some r) : ∃ b off, x = .pointer (some ⟨b, off, none⟩) ∧ Rel w I μ r (.pointer (some ⟨b, off + n, none⟩)) := by
  cases a with
  | pim cs =>
    cases h
    cases ha with
    | pim _ b off _ g hI h1 hc hr =>
      refine ⟨b, off, rfl, .pim _ _ _ _ (fun k => g (n + k)) hI (fun k y hk => ?_) (fun k y hk => ?_) (fun k y hk => ?_)⟩
      · rw [List.getElem?_drop] at hk; exact h1 _ y hk
      · rw [List.getElem?_drop] at hk; have := hc _ y hk; rwa [← Nat.add_assoc] at this
      · rw [List.getElem?_drop] at hk; exact hr _ y hk
  | pob o u off =>
    cases h
    cases ha with
    | pob _ _ _ _ b' k' g1 g2 g3 => exact ⟨_, _, rfl, .pob _ _ _ _ _ _ g1 g2 fun e => by obtain ⟨h1, h2⟩ := g3 e; exact ⟨h1, by omega⟩⟩
  | pel o u i j =>
    cases h
    cases ha with
    | pel _ _ _ _ _ b' k' g1 g2 g3 => exact ⟨_, _, rfl, .pel _ _ _ _ _ _ _ g1 g2 fun e => by obtain ⟨h1, h2⟩ := g3 e; exact ⟨h1, by omega⟩⟩
  | _ => cases h

def fieldAddrA (P : Program) (s : TypeId) (a : A) (f : Nat) : Option A := (fieldOffT P s f).bind a.shift

theorem fieldAddrA_sound {P : Program} {w : World} {I : Nat → Prop} {μ : Mu} {s : TypeId} {a r : A} {x : Value} {f : Nat} (ha : Rel w I μ a x) (h : fieldAddrA P s a f = some r) :
    ∃ v, (Instr.fieldAt s x f).run P w = .ok v w ∧ Rel w I μ r v := by
  unfold fieldAddrA at h
  rw [Option.bind_eq_some_iff] at h
  obtain ⟨n, hn, h⟩ := h
  unfold fieldOffT at hn
  split at hn
  · rename_i fs hu
    split at hn
    · rename_i fd hf
      split at hn
      · rename_i m hm
        split at hn
        · cases hn
        · rename_i h0
          cases hn
          obtain ⟨b, off, rfl, hr⟩ := shift_sound ha h
          refine ⟨_, ?_, hr⟩
          simp [Instr.fieldAt, run_underlying hu, hf, Instr.sureAddr, fieldPlace, run_szT hm, h0, Addr.add_lit]
      · cases hn
    · cases hn
  · cases hn

/-- A part of an aggregate by value. -/
def partA (P : Program) (t : TypeId) (cs : List A) (off : Nat) : Option A :=
  match aggT P t, szT P t with
  | some g, some sz => pickA g sz (cs.drop off)
  | _, _ => none

theorem partA_sound {P : Program} {w : World} {I : Nat → Prop} {μ : Mu} {t : TypeId} {cs : List A} {vs : Array Value} {off : Nat} {r : A} (hl : vs.size = cs.length) (hr : ∀ (k : Nat) (y : A), cs[k]? = some y → Rel w I μ y (vs.getD k undef))
    (h : partA P t cs off = some r) : ∃ v, (part t vs off).run P w = .ok v w ∧ Rel w I μ r v := by
  unfold partA at h
  split at h
  · rename_i g sz hg hsz
    unfold pickA at h
    cases g with
    | true =>
      simp only [if_true] at h
      split at h
      · rename_i hle
        cases h
        rw [List.length_drop] at hle
        refine ⟨_, by simp [part, run_aggT hg, run_szT hsz]; rfl, .agg _ _ _ ?_ fun k y hk => ?_⟩
        · simp; omega
        · rw [List.getElem?_take] at hk
          split at hk
          · rename_i hlt
            rw [List.getElem?_drop] at hk
            have h1 := hr _ y hk
            have h2 : (vs.extract off (off + sz)).getD k undef = vs.getD (off + k) undef := by
              have : off + k < vs.size := by rw [hl]; exact (List.getElem?_eq_some_iff.1 hk).1
              simp [Array.getD_eq_getD_getElem?, Array.getElem?_extract]
              rw [if_pos (by omega)]
            rw [h2]; exact h1
          · cases hk
      · cases h
    | false =>
      simp only [Bool.false_eq_true, if_false, List.getElem?_drop, Nat.add_zero] at h
      have h1 := hr _ r h
      have : off < vs.size := by rw [hl]; exact (List.getElem?_eq_some_iff.1 h).1
      refine ⟨vs.getD off undef, ?_, h1⟩
      simp [part, run_aggT hg, this]
  · cases h

def fieldA (P : Program) (s : TypeId) (a : A) (f : Nat) : Option A :=
  match P.underlying s, a with
  | some (.struct fs), .agg cs => match fs[f]? with
    | some fd => partA P fd.type cs fd.offset
    | none => none
  | _, _ => none

theorem fieldA_sound {P : Program} {w : World} {I : Nat → Prop} {μ : Mu} {s : TypeId} {a r : A} {x : Value} {f : Nat} (ha : Rel w I μ a x) (h : fieldA P s a f = some r) :
    ∃ v, (Instr.field s x f).run P w = .ok v w ∧ Rel w I μ r v := by
  unfold fieldA at h
  split at h
  · rename_i fs cs hu
    split at h
    · rename_i fd hf
      cases ha with
      | agg _ _ vs hl hr =>
        obtain ⟨v, h1, h2⟩ := partA_sound (P := P) hl hr h
        exact ⟨v, by simp [Instr.field, run_underlying hu, hf, asAgg, h1], h2⟩
    · cases h
  · cases h

def extractA (a : A) (i : Nat) : Option A :=
  match a with
  | .tup xs => xs[i]?
  | _ => none

theorem extractA_sound {P : Program} {w : World} {I : Nat → Prop} {μ : Mu} {a r : A} {x : Value} {i : Nat} (ha : Rel w I μ a x) (h : extractA a i = some r) :
    ∃ v, (Instr.extract x i).run P w = .ok v w ∧ Rel w I μ r v := by
  unfold extractA at h
  split at h
  · cases ha with
    | tup _ _ vs hl hr =>
      have : i < vs.size := by rw [hl]; exact (List.getElem?_eq_some_iff.1 h).1
      refine ⟨vs.getD i undef, ?_, hr i r h⟩
      simp [Instr.extract, this]
  · cases h
end Go.G
