/-
  What an operation yields in an abstract state, and that the model's operation yields just that: scalars, memory of the call's own, structs.
-/
import Derived.Test.YtebihdhapepejaaDoorGSim
namespace Go.G
set_option linter.unusedVariables false
set_option linter.unusedSimpArgs false
open Go.RowKit

/-- What becomes of the objects: nothing; one is turned; all below some roots are. -/
inductive Eff where
  | nil
  | one (o : Nm) (x : VOb)
  | fn (rs : List Nat) (F : Hp)

def Eff.app : Eff → Hp → Hp
  | .nil, H => H
  | .one o x, H => updF H o x
  | .fn rs F, H => fun o => match o with
    | r :: p => if rs.contains r = true then F (r :: p) else H (r :: p)
    | [] => H []
@[simp] theorem app_nil {H : Hp} : Eff.nil.app H = H := rfl
@[simp] theorem app_one {H : Hp} {o : Nm} {x : VOb} : (Eff.one o x).app H = updF H o x := rfl

/-- The object of a name, at a version: its cells; its row. -/
def getC (H : Hp) (o : Nm) (u : Nat) : Option (List A) :=
  match H o with
  | ⟨u', .cells cs⟩ => if u' = u then some cs else none
  | _ => none
def getR (H : Hp) (o : Nm) (u : Nat) : Option (Nat × List A) :=
  match H o with
  | ⟨u', .arr s xs⟩ => if u' = u then some (s, xs) else none
  | _ => none
theorem getC_some {H : Hp} {o : Nm} {u : Nat} {cs : List A} (h : getC H o u = some cs) : (H o).u = u ∧ (H o).ob = .cells cs := by
  unfold getC at h
  split at h
  · rename_i hq
    split at h
    · cases h; rw [hq]; exact ⟨‹_›, rfl⟩
    · cases h
  · cases h
theorem getR_some {H : Hp} {o : Nm} {u s : Nat} {xs : List A} (h : getR H o u = some (s, xs)) : (H o).u = u ∧ (H o).ob = .arr s xs := by
  unfold getR at h
  split at h
  · rename_i hq
    split at h
    · cases h; rw [hq]; exact ⟨‹_›, rfl⟩
    · cases h
  · cases h
theorem Sim.cells {c : Cx} {w : World} {I : Nat → Prop} {μ : Mu} {H : Hp} (hs : Sim c w I μ H) {o : Nm} {u : Nat} {cs : List A} (h : getC H o u = some cs) : (μ o).u = u ∧ ∃ vs : Array Value, w.heap[(μ o).b]? = some (.cells vs (μ o).e (0, 0)) ∧ vs.size = cs.length ∧ ∀ (k : Nat) (y : A), cs[k]? = some y → y.one = true ∧ Rel w I μ y (vs.getD k undef) := by
  obtain ⟨h1, h2⟩ := getC_some h
  have := hs.ob o
  rw [h2] at this
  exact ⟨by rw [hs.ver, h1], this⟩
theorem Sim.row {c : Cx} {w : World} {I : Nat → Prop} {μ : Mu} {H : Hp} (hs : Sim c w I μ H) {o : Nm} {u sz : Nat} {xs : List A} (h : getR H o u = some (sz, xs)) : (μ o).u = u ∧ (μ o).sz = sz ∧ (((μ o).bk = false ∧ xs = []) ∨ ((μ o).bk = true ∧ ∃ vs : Array Value, w.heap[(μ o).b]? = some (.cells vs (μ o).e (0, 0)) ∧ vs.size = (μ o).cap * sz ∧
      xs.length ≤ (μ o).cap ∧ (∀ x, x ∈ xs → x.cells.length = sz) ∧ ∀ (k : Nat) (y : A), (xs.flatMap A.cells)[k]? = some y → y.one = true ∧ Rel w I μ y (vs.getD k undef))) := by
  obtain ⟨h1, h2⟩ := getR_some h
  have := hs.ob o
  rw [h2] at this
  exact ⟨by rw [hs.ver, h1], this⟩

def lk : List (Nat × A) → Nat → A
  | [], _ => .any
  | (k, x) :: r, t => if k = t then x else lk r t

def ofV1 : Value → A
  | .slice none 0 0 => .sl true []
  | x => .v x
def ofV : Value → A
  | .agg cs => .agg (cs.toList.map ofV1)
  | x => ofV1 x

def ev (s : List (Nat × A)) : Operand → A
  | .tmp t => lk s t
  | .const x => ofV x
  | .global g => .v (.pointer (some ⟨g, 0, none⟩))
  | .func f => .fnc f [] []

section
variable {w : World} {I : Nat → Prop} {μ : Mu}
theorem rel_ofV1 (x : Value) : Rel w I μ (ofV1 x) x := by
  unfold ofV1; split
  · exact .slN _ _ _ _ (fun _ => rfl)
  · exact .v _ _
theorem rel_ofV (x : Value) : Rel w I μ (ofV x) x := by
  unfold ofV; split
  · rename_i cs
    refine .agg _ _ _ (by simp) fun k y hk => ?_
    simp only [List.getElem?_map, Option.map_eq_some_iff] at hk
    obtain ⟨u, hu, rfl⟩ := hk
    have : cs.getD k undef = u := by
      have h1 : cs[k]? = some u := by simpa using hu
      simp [h1]
    rw [this]; exact rel_ofV1 u
  · exact rel_ofV1 _
theorem rel_ev {s : List (Nat × A)} {a : Act} (h : ∀ t, Rel w I μ (lk s t) (a.tmps.getD t undef)) (x : Operand) : Rel w I μ (ev s x) (a.eval x) := by
  cases x with
  | tmp t => exact h t
  | const x => exact rel_ofV x
  | global g => exact .v _ _
  | func f => exact .fnc _ _ _ _ _ _ rfl (fun k y hk => by simp at hk) rfl (fun k y hk => by simp at hk)
end

/-! ### the program's tables -/
def aggT (P : Program) (t : TypeId) : Option Bool :=
  match P.underlying t with
  | some (.struct _) | some (.array _ _) => some true
  | some _ => some false
  | none => none
def szT (P : Program) (t : TypeId) : Option Nat := (P.info? t).map (·.size)
def zeroT (P : Program) (t : TypeId) : Option Value := (P.info? t).bind (·.zero)

section
variable {P : Program} {w : World} {t : TypeId}
theorem run_aggT {b : Bool} (h : aggT P t = some b) : (isAgg t).run P w = .ok b w := by
  unfold aggT at h
  cases hu : P.underlying t with
  | none => simp [hu] at h
  | some d => cases d <;> simp_all [isAgg, run_underlying hu]
theorem run_szT {n : Nat} (h : szT P t = some n) : (sizeOf t).run P w = .ok n w := by
  unfold szT at h
  cases hi : P.info? t with
  | none => simp [hi] at h
  | some i => simp [hi] at h; simp [sizeOf, typeInfo, hi, h]
theorem run_zeroT {z : Value} (h : zeroT P t = some z) : (zeroValue t).run P w = .ok z w := by
  unfold zeroT at h
  cases hi : P.info? t with
  | none => simp [hi] at h
  | some i => simp [hi] at h; simp [zeroValue, typeInfo, hi, h]
end

/-! ### reading -/
/-- The value of a type's size and kind that stands first in cells. -/
def pickA (g : Bool) (sz : Nat) (cs : List A) : Option A :=
  if g = true then (if sz ≤ cs.length then some (.agg (cs.take sz)) else none) else cs[0]?

theorem pick_load {P : Program} {w : World} {I : Nat → Prop} {μ : Mu} {t : TypeId} {g : Bool} {sz : Nat} (hg : aggT P t = some g) (hsz : szT P t = some sz) (b off : Nat) (cs : List A) (f : Nat → Value)
    (hc : ∀ (k : Nat) (y : A), cs[k]? = some y → w.cell? ⟨b, off + k, none⟩ = some (f k)) (hr : ∀ (k : Nat) (y : A), cs[k]? = some y → Rel w I μ y (f k)) {r : A} (h : pickA g sz cs = some r) :
    ∃ x, (loadVar t ⟨b, off, none⟩).run P w = .ok x w ∧ Rel w I μ r x := by
  unfold pickA at h
  cases g with
  | true =>
    simp only [if_true] at h
    split at h
    · cases h
      rename_i hle
      have hl := run_loadCells (P := P) w ⟨b, off, none⟩ sz f (fun j hj => by
        rw [Addr.add_lit]
        exact hc j _ (List.getElem?_eq_getElem (by omega)))
      refine ⟨_, by simp [loadVar, run_aggT hg, run_szT hsz, hl]; rfl, .agg _ _ _ (by simp; omega) fun k y hk => ?_⟩
      rw [List.getElem?_take] at hk
      split at hk
      · rename_i hlt
        simp [hlt]
        exact hr k y hk
      · cases hk
    · cases h
  | false =>
    simp only [Bool.false_eq_true, if_false] at h
    refine ⟨f 0, ?_, hr 0 r h⟩
    have := hc 0 r h
    simp only [Nat.add_zero] at this
    simp [loadVar, run_aggT hg, this]

def loadA (P : Program) (H : Hp) (t : TypeId) (a : A) : Option A :=
  match aggT P t, szT P t with
  | some g, some sz =>
    match a with
    | .pim cs => pickA g sz cs
    | .pob o u off => match getC H o u with
      | some cs => pickA g sz (cs.drop off)
      | none => none
    | .pel o u i j => match getR H o u with
      | some (_, xs) => match xs[i]? with
        | some x => pickA g sz (x.cells.drop j)
        | none => none
      | none => none
    | _ => none
  | _, _ => none

theorem flat_get {sz : Nat} : ∀ {xs : List A} {i j : Nat} {x y : A}, (∀ x, x ∈ xs → x.cells.length = sz) → xs[i]? = some x → x.cells[j]? = some y → (xs.flatMap A.cells)[i * sz + j]? = some y
  | [], i, j, x, y, _, hi, _ => by simp at hi
  | z :: xs, 0, j, x, y, h, hi, hj => by
    simp only [List.getElem?_cons_zero, Option.some.injEq] at hi
    subst hi
    simp only [List.flatMap_cons, Nat.zero_mul, Nat.zero_add]
    rw [List.getElem?_append_left (List.getElem?_eq_some_iff.1 hj).1]
    exact hj
  | z :: xs, i + 1, j, x, y, h, hi, hj => by
    simp only [List.getElem?_cons_succ] at hi
    have hz := h z (by simp)
    simp only [List.flatMap_cons]
    rw [List.getElem?_append_right (by rw [hz, Nat.add_mul]; omega)]
    have e : (i + 1) * sz + j - z.cells.length = i * sz + j := by rw [hz, Nat.add_mul]; omega
    rw [e]
    exact flat_get (fun x hx => h x (by simp [hx])) hi hj

theorem flat_len {sz : Nat} : ∀ {xs : List A}, (∀ x, x ∈ xs → x.cells.length = sz) → (xs.flatMap A.cells).length = xs.length * sz
  | [], _ => by simp
  | z :: zs, h => by
    simp only [List.flatMap_cons, List.length_append, List.length_cons, Nat.add_mul, Nat.one_mul]
    rw [flat_len (xs := zs) (fun x hx => h x (by simp [hx])), h z (by simp)]
    omega

theorem loadA_sound {c : Cx} {w : World} {I : Nat → Prop} {μ : Mu} {H : Hp} (hs : Sim c w I μ H) {t : TypeId} {a : A} {x : Value} {r : A} (ha : Rel w I μ a x) (h : loadA c.P H t a = some r) :
    ∃ v, (Instr.loadAt t x).run c.P w = .ok v w ∧ Rel w I μ r v := by
  unfold loadA at h
  split at h
  · rename_i g sz hg hsz
    split at h
    · rename_i cs
      cases ha with
      | pim _ b off _ f hI h1 hc hr =>
        obtain ⟨v, h2, h3⟩ := pick_load hg hsz b off cs f hc hr h
        refine ⟨v, by simpa [Instr.loadAt, Instr.sureAddr] using h2, h3.ofI⟩
    · rename_i o u off
      split at h
      · rename_i cs ho
        cases ha with
        | pob _ _ _ _ b' k' g1 g2 g3 =>
          obtain ⟨hu, vs, k2, k3, k4⟩ := hs.cells ho
          obtain ⟨rfl, rfl⟩ := g3 hu.symm
          obtain ⟨v, h2, h3⟩ := pick_load (w := w) (I := I) (μ := μ) hg hsz (μ o).b off (cs.drop off) (fun k => vs.getD (off + k) undef) (fun k y hk => by
            rw [cell_of_row w (μ o).b (off + k) vs (μ o).e (0, 0) k2]
            rw [List.getElem?_drop] at hk
            have : off + k < vs.size := by rw [k3]; exact (List.getElem?_eq_some_iff.1 hk).1
            simp [this]) (fun k y hk => by rw [List.getElem?_drop] at hk; exact (k4 _ y hk).2) h
          exact ⟨v, by simpa [Instr.loadAt, Instr.sureAddr] using h2, h3⟩
      · cases h
    · rename_i o u i j
      split at h
      · rename_i s xs ho
        split at h
        · rename_i x hx
          cases ha with
          | pel _ _ _ _ _ b' k' g1 g2 g3 =>
            obtain ⟨hu, k2, ⟨k1, rfl⟩ | ⟨k1, vs, k3, k4, k5, k6, k7⟩⟩ := hs.row ho
            · simp at hx
            · obtain ⟨rfl, rfl⟩ := g3 hu.symm
              subst k2
              obtain ⟨v, h2, h3⟩ := pick_load (w := w) (I := I) (μ := μ) hg hsz (μ o).b (i * (μ o).sz + j) (x.cells.drop j) (fun k => vs.getD (i * (μ o).sz + j + k) undef) (fun k y hk => by
                rw [cell_of_row w (μ o).b _ vs (μ o).e (0, 0) k3]
                rw [List.getElem?_drop] at hk
                have h1 := flat_get k6 hx hk
                have h2 := (List.getElem?_eq_some_iff.1 h1).1
                have h3 := flat_len k6
                have h4 : xs.length * (μ o).sz ≤ (μ o).cap * (μ o).sz := Nat.mul_le_mul_right _ k5
                have : i * (μ o).sz + j + k < vs.size := by rw [k4]; omega
                simp [this]) (fun k y hk => by
                  rw [List.getElem?_drop] at hk
                  have := (k7 _ y (flat_get k6 hx hk)).2
                  rwa [← Nat.add_assoc] at this) h
              exact ⟨v, by simpa [Instr.loadAt, Instr.sureAddr] using h2, h3⟩
        · cases h
      · cases h
    · cases h
  · cases h

/-! ### what cells a value has -/
theorem Rel.cellsRel {w : World} {I : Nat → Prop} {μ : Mu} {a : A} {x : Value} (h : Rel w I μ a x) (h1 : A.ones a.cells = true) :
    x.cells.size = a.cells.length ∧ ∀ (k : Nat) (y : A), a.cells[k]? = some y → y.one = true ∧ Rel w I μ y (x.cells.getD k undef) := by
  have hone : a.one = true → x.cells.size = a.cells.length ∧ ∀ (k : Nat) (y : A), a.cells[k]? = some y → y.one = true ∧ Rel w I μ y (x.cells.getD k undef) := fun ho => by
    obtain ⟨e1, e2⟩ := h.cells_one ho
    rw [e1, e2]
    refine ⟨rfl, fun k y hk => ?_⟩
    cases k with
    | zero => simp at hk; subst hk; exact ⟨ho, by simpa using h⟩
    | succ k => simp at hk
  cases a with
  | agg cs =>
    cases h with
    | agg _ _ vs hl hr =>
      refine ⟨hl, fun k y hk => ⟨?_, hr k y hk⟩⟩
      simp only [A.ones, A.cells, List.all_eq_true] at h1
      exact h1 y (List.mem_of_getElem? hk)
  | _ => exact hone (by simpa [A.ones, A.cells] using h1)

theorem ones_oneCell {w : World} {I : Nat → Prop} {μ : Mu} {cs : List A} {vs : Array Value} (hl : vs.size = cs.length) (h : ∀ (k : Nat) (y : A), cs[k]? = some y → y.one = true ∧ Rel w I μ y (vs.getD k undef)) :
    ∀ v, v ∈ vs.toList → v.oneCell' = true := fun v hv => by
  obtain ⟨k, hk⟩ := List.mem_iff_getElem?.1 hv
  have hlt : k < cs.length := by have := (List.getElem?_eq_some_iff.1 hk).1; simp at this; omega
  obtain ⟨h1, h2⟩ := h k _ (List.getElem?_eq_getElem hlt)
  have e : vs.getD k undef = v := by
    have : vs[k]? = some v := by simpa using hk
    simp [this]
  rw [e] at h2
  exact h2.one h1

/-! ### new memory of the call's own -/
theorem grownBy_refl (w : World) (B : Option Nat) : w.grownBy w B := ⟨rfl, rfl, rfl, Nat.le_refl _, fun _ _ _ => rfl⟩

theorem new_cells {c : Cx} {w : World} {I : Nat → Prop} {μ : Mu} {H : Hp} (hs : Sim c w I μ H) (d : Nm) (e : TypeId) (a : A) (x : Value) (ha : Rel w I μ a x) (h1 : A.ones a.cells = true) (ht : tagOK d e = true) :
    ∃ I' μ', Ext I μ w I' μ' (w.alloc (.cells x.cells e)) ∧ Sim c (w.alloc (.cells x.cells e)) I' μ' (updF H d ⟨(H d).u + 1, .cells a.cells⟩) ∧
      Rel (w.alloc (.cells x.cells e)) I' μ' (.pob d ((H d).u + 1) 0) (.pointer (some ⟨w.heap.size, 0, none⟩)) := by
  obtain ⟨k1, k2⟩ := ha.cellsRel h1
  obtain ⟨hx, hs'⟩ := hs.upd (World.grownBy_alloc w (.cells x.cells e) none) d ⟨(H d).u + 1, true, w.heap.size, 0, 0, e⟩ (.cells a.cells) (.inl rfl) (.inl (by rw [hs.ver]; exact Nat.lt_succ_self _)) (fun _ => .inl (by simp)) (fun _ => ht) (fun hx =>
    ⟨x.cells, heap_alloc_new w _, k1, fun k y hk => ⟨(k2 k y hk).1, hx.rel (k2 k y hk).2⟩⟩)
  exact ⟨_, _, hx, hs', .pob _ _ _ _ _ _ (by omega) (by simp) (fun _ => by simp)⟩

def allocA (P : Program) (H : Hp) (d : Nm) (e : TypeId) : Option (A × Eff) :=
  match zeroT P e with
  | some z => if A.ones (ofV z).cells = true ∧ tagOK d e = true then some (.pob d ((H d).u + 1) 0, .one d ⟨(H d).u + 1, .cells (ofV z).cells⟩) else none
  | none => none

theorem allocA_sound {c : Cx} {w : World} {I : Nat → Prop} {μ : Mu} {H : Hp} (hs : Sim c w I μ H) {d : Nm} {e : TypeId} {r : A} {E : Eff} (h : allocA c.P H d e = some (r, E)) :
    ∃ v w', (Instr.alloc e true (.tuple #[])).run c.P w = .ok v w' ∧ ∃ I' μ', Ext I μ w I' μ' w' ∧ Sim c w' I' μ' (E.app H) ∧ Rel w' I' μ' r v := by
  unfold allocA at h
  split at h
  · rename_i z hz
    split at h
    · rename_i h1
      cases h
      obtain ⟨I', μ', k⟩ := new_cells hs d e (ofV z) z (rel_ofV z) h1.1 h1.2
      exact ⟨_, _, by simp [Instr.alloc, run_zeroT hz, newVar, newRow], I', μ', k⟩
    · cases h
  · cases h

def boxA (H : Hp) (d : Nm) (e : TypeId) (a : A) : Option (A × Eff) := if A.ones a.cells = true ∧ tagOK d e = true then some (.pob d ((H d).u + 1) 0, .one d ⟨(H d).u + 1, .cells a.cells⟩) else none

theorem boxA_sound {c : Cx} {w : World} {I : Nat → Prop} {μ : Mu} {H : Hp} (hs : Sim c w I μ H) {d : Nm} {e : TypeId} {a r : A} {x : Value} {E : Eff} (ha : Rel w I μ a x) (h : boxA H d e a = some (r, E)) :
    ∃ v w', (Instr.box e x).run c.P w = .ok v w' ∧ ∃ I' μ', Ext I μ w I' μ' w' ∧ Sim c w' I' μ' (E.app H) ∧ Rel w' I' μ' r v := by
  unfold boxA at h
  split at h
  · rename_i h1
    cases h
    obtain ⟨I', μ', k⟩ := new_cells hs d e a x ha h1.1 h1.2
    exact ⟨_, _, by simp [Instr.box, newVar, newRow], I', μ', k⟩
  · cases h
end Go.G
