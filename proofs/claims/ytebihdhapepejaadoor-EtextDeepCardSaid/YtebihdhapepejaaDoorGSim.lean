/-
  How an abstract state of a call stands to the model's state: its objects lie in blocks of their own; what is immutable lies in other blocks; of what was there before the call nothing turns (but what it was handed to write).
-/
import Derived.Test.YtebihdhapepejaaDoorGRel
namespace Go.G
set_option linter.unusedVariables false
set_option linter.unusedSimpArgs false
open Go.RowKit

theorem Rel.of0 {w : World} {I : Nat → Prop} {μ : Mu} {a : A} {x : Value} (h : Rel w I μ a x) : (∀ o, (μ o).u = 0) → ∀ (μ' : Mu), Rel w I μ' a x := by
  induction h with
  | any => exact fun _ _ => .any _ _
  | v => exact fun _ _ => .v _ _
  | slN _ _ _ _ h => exact fun _ _ => .slN _ _ _ _ h
  | sl μ f b off n cap sz xs g hb hn hc hf hs h1 hcell hr _ => exact fun _ _ => .sl _ f b off n cap sz xs g hb hn hc hf hs h1 hcell hr
  | agg _ _ _ hl _ ih => exact fun h0 μ' => .agg _ _ _ hl fun k y hk => ih k y hk h0 μ'
  | tup _ _ _ hl _ ih => exact fun h0 μ' => .tup _ _ _ hl fun k y hk => ih k y hk h0 μ'
  | pim μ b off cs g hb h1 hcell hr _ => exact fun _ _ => .pim _ b off cs g hb h1 hcell hr
  | pob μ o u off b k h1 h2 h3 => exact fun h0 => by have := h0 o; omega
  | osl μ o u sz off len a cap h1 h2 h4 h5 h3 => exact fun h0 => by have := h0 o; omega
  | pel μ o u i j b k h1 h2 h3 => exact fun h0 => by have := h0 o; omega
  | mo μ o u b h1 h2 h3 => exact fun h0 => by have := h0 o; omega
  | fnc _ _ _ _ _ _ hl0 _ hl _ ih0 ih => exact fun h0 μ' => .fnc _ _ _ _ _ _ hl0 (fun k y hk => ih0 k y hk h0 μ') hl fun k y hk => ih k y hk h0 μ'
  | ifc _ _ _ _ _ ih => exact fun h0 μ' => .ifc _ _ _ _ (ih h0 μ')
theorem Rel.ofI {w : World} {I : Nat → Prop} {μ : Mu} {a : A} {x : Value} (h : Rel w I mu0 a x) : Rel w I μ a x := h.of0 (fun _ => rfl) μ

/-- What stays fixed in one activation: the program, the world and the immutable blocks at its beginning, the blocks that it was handed to write, the size of its frame. -/
structure Cx where
  P : Program
  w0 : World
  I0 : Nat → Prop
  M0 : Nm → Nat → Prop
  n : Nat
  m0 : Mu
  die : TypeId → Prop
  ds : List Deferred

/-- A block that it was handed to write, under some name. -/
def Cx.Mb (c : Cx) (b : Nat) : Prop := ∃ o, c.M0 o b

inductive Ob where
  | none
  | cells (cs : List A)
  | arr (sz : Nat) (xs : List A)
  | mp (es : List (Value × Value))
  deriving Inhabited

/-- An object at its version. -/
structure VOb where
  u : Nat
  ob : Ob
  deriving Inhabited

abbrev Hp := Nm → VOb

def updF {α : Type} (f : Nm → α) (d : Nm) (x : α) : Nm → α := fun o => if o = d then x else f o
@[simp] theorem updF_self {α : Type} {f : Nm → α} {d : Nm} {x : α} : updF f d x d = x := by simp [updF]
theorem updF_ne {α : Type} {f : Nm → α} {d o : Nm} {x : α} (h : o ≠ d) : updF f d x o = f o := by simp [updF, h]
theorem updF_comm {α : Type} {f : Nm → α} {d e : Nm} {x y : α} (h : d ≠ e) : updF (updF f d x) e y = updF (updF f e y) d x := by
  funext o
  unfold updF
  by_cases h1 : o = e <;> by_cases h2 : o = d <;> simp_all
@[simp] theorem updF_updF {α : Type} {f : Nm → α} {d : Nm} {x y : α} : updF (updF f d x) d y = updF f d y := by
  funext o; unfold updF; split <;> rfl

structure Kept (M0 : Nat → Prop) (w w' : World) : Prop where
  os : w'.os = w.os
  tape : w'.tape = w.tape
  output : w'.output = w.output
  size : w.heap.size ≤ w'.heap.size
  block : ∀ b, b < w.heap.size → ¬ M0 b → w'.heap[b]? = w.heap[b]?

/-- Has it a block? -/
def hasB (L : Loc) : Ob → Bool
  | .none => false
  | .cells _ => true
  | .arr _ _ => L.bk
  | .mp _ => true

def OSim (w : World) (I : Nat → Prop) (μ : Mu) (L : Loc) : Ob → Prop
  | .none => True
  | .mp es => ∃ (l : Array MapEntry) (clock : Nat), w.heap[L.b]? = some (.map l clock) ∧ l.toList.map (fun e => (e.key, e.val)) = es
  | .cells cs => ∃ vs : Array Value, w.heap[L.b]? = some (.cells vs L.e (0, 0)) ∧ vs.size = cs.length ∧ ∀ (k : Nat) (y : A), cs[k]? = some y → y.one = true ∧ Rel w I μ y (vs.getD k undef)
  | .arr sz xs => L.sz = sz ∧ ((L.bk = false ∧ xs = []) ∨ (L.bk = true ∧ ∃ vs : Array Value, w.heap[L.b]? = some (.cells vs L.e (0, 0)) ∧ vs.size = L.cap * sz ∧
      xs.length ≤ L.cap ∧ (∀ x, x ∈ xs → x.cells.length = sz) ∧ ∀ (k : Nat) (y : A), (xs.flatMap A.cells)[k]? = some y → y.one = true ∧ Rel w I μ y (vs.getD k undef)))

/-! ### names that say their block's element type; tables that the program's text lays -/
def tagP : List Nat → Option Nat
  | [] => none
  | [_] => none
  | [a, b] => if a = 777777 then some b else none
  | _ :: b :: c :: l => tagP (b :: c :: l)
/-- A name whose last but one number (behind the root) is 777777 says the element type of its block. -/
def tagOf : Nm → Option Nat
  | [] => none
  | _ :: p => tagP p
def tagOK (o : Nm) (e : Nat) : Bool := match tagOf o with
  | none => true
  | some k => k == e
@[simp] theorem tagP_nil : tagP [] = none := rfl
@[simp] theorem tagP_one {a : Nat} : tagP [a] = none := rfl
@[simp] theorem tagP_two {a b : Nat} : tagP [a, b] = if a = 777777 then some b else none := rfl
@[simp] theorem tagP_more {a b c : Nat} {l : List Nat} : tagP (a :: b :: c :: l) = tagP (b :: c :: l) := rfl
@[simp] theorem tagOf_nil : tagOf [] = none := rfl
@[simp] theorem tagOf_cons {r : Nat} {p : Nm} : tagOf (r :: p) = tagP p := rfl
@[simp] theorem tagOK_nil {e : Nat} : tagOK [] e = true := rfl
@[simp] theorem tagOK_root {r e : Nat} : tagOK [r] e = true := rfl
@[simp] theorem tagOK_kid {r i e : Nat} : tagOK [r, i] e = true := rfl
@[simp] theorem tagOK_tag {r k e : Nat} : tagOK [r, 777777, k] e = (k == e) := rfl
@[simp] theorem tagOK_tag2 {r k k' e : Nat} : tagOK [r, 777777, k, 777777, k'] e = (k' == e) := rfl
theorem tagOK_two {r a b e : Nat} (h : a ≠ 777777) : tagOK [r, a, b] e = true := by simp [tagOK, h]
@[simp] theorem tagOK_0 {r b e : Nat} : tagOK [r, 0, b] e = true := tagOK_two (by omega)
@[simp] theorem tagOK_1 {r b e : Nat} : tagOK [r, 1, b] e = true := tagOK_two (by omega)
@[simp] theorem tagOK_2 {r b e : Nat} : tagOK [r, 2, b] e = true := tagOK_two (by omega)
theorem tagOK_move {r r' e : Nat} {p : Nm} : tagOK (r :: p) e = tagOK (r' :: p) e := rfl

def tab32 : List Int := [0, 1, 28, 2, 29, 14, 24, 3, 30, 22, 20, 15, 25, 17, 4, 8, 31, 27, 13, 23, 21, 19, 16, 7, 26, 12, 18, 6, 11, 5, 10, 9]
def tab64 : List Int := [0, 1, 56, 2, 57, 49, 28, 3, 61, 58, 42, 50, 38, 29, 17, 4, 62, 47, 59, 36, 45, 43, 51, 22, 53, 39, 33, 30, 24, 18, 12, 5, 63, 55, 48, 27, 60, 41, 37, 16, 46, 35, 44, 21, 52, 32, 23, 11, 54, 26, 40, 15, 34, 20, 31, 10, 25, 14, 19, 9, 13, 8, 7, 6]
def tab10 : List Int := [1, 10, 100, 1000, 10000, 100000, 1000000, 10000000, 100000000, 1000000000, 10000000000, 100000000000, 1000000000000, 10000000000000, 100000000000000, 1000000000000000, 10000000000000000, 100000000000000000, 1000000000000000000, 10000000000000000000]
def tabSp : List Int := List.replicate 9 0 ++ List.replicate 5 1 ++ List.replicate 18 0 ++ 1 :: List.replicate 223 0
/-- What the tables of Go's library hold that a program may have (a card ties them to its text). -/
def knownTab (n : String) : Option (IntKind × List Int) :=
  if n = "math/bits.deBruijn32tab" then some (.u8, tab32) else if n = "math/bits.deBruijn64tab" then some (.u8, tab64) else if n = "internal/strconv.uint64pow10" then some (.u64, tab10) else if n = "strings.asciiSpace" then some (.u8, tabSp) else none
def gtab (P : Program) (g : Nat) : Option (IntKind × List Int) := (P.globals[g]?).bind fun x => knownTab x.name
/-- The library's errors that a program may tell apart: variables that hold some error. -/
def knownErr (n : String) : Bool := n == "strconv.ErrSyntax" || n == "strconv.ErrRange"
def gerr (P : Program) (g : Nat) : Bool := (P.globals[g]?).any fun x => knownErr x.name
/-- The tables lie where the program's text lays them, and nothing writes them. -/
structure Tabs (P : Program) (w : World) (I : Nat → Prop) : Prop where
  row : ∀ g q, gtab P g = some q → I g ∧ ∃ e z, w.heap[g]? = some (.cells (q.2.map fun n => Value.int q.1 n).toArray e z)
  err : ∀ g, gerr P g = true → I g ∧ ∃ te pe, w.cell? ⟨g, 0, none⟩ = some (.iface te pe)
theorem Tabs.tab {P : Program} {w : World} {I : Nat → Prop} (h : Tabs P w I) : ∀ g q, gtab P g = some q → I g ∧ ∀ (k : Nat) (n : Int), q.2[k]? = some n → w.cell? ⟨g, k, none⟩ = some (.int q.1 n) := fun g q hq => by
  obtain ⟨h1, e, z, h2⟩ := h.row g q hq
  refine ⟨h1, fun k n hk => ?_⟩
  simp [World.cell?, h2, hk]
theorem Tabs.mono {P : Program} {w w' : World} {I I' : Nat → Prop} (h : Tabs P w I) (hI : ∀ b, I b → I' b) (hw : ∀ b, I b → w'.heap[b]? = w.heap[b]?) : Tabs P w' I' where
  row g q hq := by
    obtain ⟨h1, h2⟩ := h.row g q hq
    exact ⟨hI g h1, by rw [hw g h1]; exact h2⟩
  err g hg := by
    obtain ⟨h1, te, pe, h2⟩ := h.err g hg
    exact ⟨hI g h1, te, pe, by rw [← h2]; simp [World.cell?, hw g h1]⟩
def noTabs (P : Program) : Bool := P.globals.all fun x => (knownTab x.name).isNone && !knownErr x.name
theorem tabs_none {P : Program} (h : noTabs P = true) (w : World) (I : Nat → Prop) : Tabs P w I where
  row g q hq := by
    unfold gtab at hq
    simp only [Option.bind_eq_some_iff] at hq
    obtain ⟨x, h1, h2⟩ := hq
    unfold noTabs at h
    rw [Array.all_eq_true_iff_forall_mem] at h
    have := h x (Array.mem_of_getElem? h1)
    rw [h2] at this
    cases this
  err g hg := by
    unfold gerr at hg
    rw [Option.any_eq_true] at hg
    obtain ⟨x, h1, h2⟩ := hg
    unfold noTabs at h
    rw [Array.all_eq_true_iff_forall_mem] at h
    have := h x (Array.mem_of_getElem? h1)
    rw [h2] at this
    simp at this

structure Sim (c : Cx) (w : World) (I : Nat → Prop) (μ : Mu) (H : Hp) : Prop where
  kept : Kept c.Mb c.w0 w
  lt : ∀ b, I b → b < w.heap.size
  old : ∀ b, c.I0 b → I b
  new : ∀ b, I b → c.I0 b ∨ c.w0.heap.size ≤ b
  ver : ∀ o, (μ o).u = (H o).u
  ob : ∀ o, OSim w I μ (μ o) (H o).ob
  apart : ∀ o o', hasB (μ o) (H o).ob = true → hasB (μ o') (H o').ob = true → o ≠ o' → (μ o).b ≠ (μ o').b
  own : ∀ o, hasB (μ o) (H o).ob = true → ¬ I (μ o).b ∧ (c.M0 o (μ o).b ∨ c.w0.heap.size ≤ (μ o).b) ∧ (μ o).b < w.heap.size
  mle : MuLe c.m0 μ
  tag : ∀ o, hasB (μ o) (H o).ob = true → tagOK o (μ o).e = true
  tab : Tabs c.P w I

structure Ext (I : Nat → Prop) (μ : Mu) (w : World) (I' : Nat → Prop) (μ' : Mu) (w' : World) : Prop where
  sub : ∀ b, I b → I' b
  heap : ∀ b, I b → w'.heap[b]? = w.heap[b]?
  mu : MuLe μ μ'

theorem Ext.refl (I : Nat → Prop) (μ : Mu) (w : World) : Ext I μ w I μ w := ⟨fun _ h => h, fun _ _ => rfl, MuLe.refl _⟩
theorem Ext.trans {I I' I'' : Nat → Prop} {μ μ' μ'' : Mu} {w w' w'' : World} (h : Ext I μ w I' μ' w') (k : Ext I' μ' w' I'' μ'' w'') : Ext I μ w I'' μ'' w'' :=
  ⟨fun b hb => k.sub b (h.sub b hb), fun b hb => (k.heap b (h.sub b hb)).trans (h.heap b hb), h.mu.trans k.mu⟩
theorem Ext.rel {I I' : Nat → Prop} {μ μ' : Mu} {w w' : World} (h : Ext I μ w I' μ' w') {a : A} {x : Value} (hr : Rel w I μ a x) : Rel w' I' μ' a x := hr.mono h.sub h.heap h.mu

section
variable {c : Cx} {w w' : World} {I I' : Nat → Prop} {μ μ' : Mu} {H : Hp} {B : Option Nat}

theorem OSim.keep (h : Ext I μ w I' μ' w') {L : Loc} {ob : Ob} (hk : hasB L ob = true → w'.heap[L.b]? = w.heap[L.b]?) (hs : OSim w I μ L ob) : OSim w' I' μ' L ob := by
  cases ob with
  | none => trivial
  | mp es =>
    obtain ⟨l, k, h1, h2⟩ := hs
    exact ⟨l, k, (hk rfl).trans h1, h2⟩
  | cells cs =>
    obtain ⟨vs, h2, h3, h4⟩ := hs
    exact ⟨vs, (hk rfl).trans h2, h3, fun k y hy => ⟨(h4 k y hy).1, h.rel (h4 k y hy).2⟩⟩
  | arr sz xs =>
    obtain ⟨h0, ⟨h1, h2⟩ | ⟨h1, vs, h3, h4, h5, h6, h7⟩⟩ := hs
    · exact ⟨h0, .inl ⟨h1, h2⟩⟩
    · exact ⟨h0, .inr ⟨h1, vs, (hk h1).trans h3, h4, h5, h6, fun k y hy => ⟨(h7 k y hy).1, h.rel (h7 k y hy).2⟩⟩⟩

theorem Kept.trans' {M0 : Nat → Prop} {w0 : World} (h : Kept M0 w0 w) (hg : w.grownBy w' B) (hB : ∀ b, B = some b → M0 b ∨ w0.heap.size ≤ b) : Kept M0 w0 w' :=
  ⟨hg.os.trans h.os, hg.tape.trans h.tape, hg.output.trans h.output, Nat.le_trans h.size hg.size, fun b hb hm => by
    have := h.size
    refine (hg.block b (by omega) (fun e => ?_)).trans (h.block b hb hm)
    rcases hB b e.symm with h | h
    · exact hm h
    · omega⟩

/-- An entry is turned: the object is made anew, or written, or given up. -/
theorem Sim.upd (hs : Sim c w I μ H) (hg : w.grownBy w' B) (d : Nm) (L : Loc) (ob : Ob) (hB : B = none ∨ (B = some (μ d).b ∧ hasB (μ d) (H d).ob = true)) (hL : (μ d).u < L.u ∨ L = μ d)
    (hb : hasB L ob = true → (w.heap.size ≤ L.b ∧ L.b < w'.heap.size) ∨ (hasB (μ d) (H d).ob = true ∧ L.b = (μ d).b)) (ht : hasB L ob = true → tagOK d L.e = true)
    (hob : Ext I μ w I (updF μ d L) w' → OSim w' I (updF μ d L) L ob) : Ext I μ w I (updF μ d L) w' ∧ Sim c w' I (updF μ d L) (updF H d ⟨L.u, ob⟩) := by
  have hsz := hg.size
  have h0 := hs.kept.size
  have hx : Ext I μ w I (updF μ d L) w' := ⟨fun b h => h, fun b h => hg.block b (hs.lt b h) (fun e => by
    rcases hB with hB | ⟨hB, hh⟩
    · rw [hB] at e; cases e
    · rw [hB] at e; cases e
      exact (hs.own d hh).1 h), fun o => by
    by_cases e : o = d
    · subst e
      rw [updF_self]
      rcases hL with h | rfl
      · exact ⟨by omega, fun e => by omega⟩
      · exact ⟨Nat.le_refl _, fun _ => rfl⟩
    · rw [updF_ne e]; exact ⟨Nat.le_refl _, fun _ => rfl⟩⟩
  have other : ∀ o, o ≠ d → hasB (μ o) (H o).ob = true → w'.heap[(μ o).b]? = w.heap[(μ o).b]? := fun o ho hh => hg.block _ (hs.own o hh).2.2 (fun e => by
    rcases hB with hB | ⟨hB, hd⟩
    · rw [hB] at e; cases e
    · rw [hB] at e
      exact hs.apart o d hh hd ho (Option.some.inj e))
  have fresh : ∀ o, o ≠ d → hasB (μ o) (H o).ob = true → hasB L ob = true → (μ o).b ≠ L.b := fun o ho hh hl e => by
    have h1 := (hs.own o hh).2.2
    rcases hb hl with ⟨h2, _⟩ | ⟨h2, h3⟩
    · omega
    · exact hs.apart o d hh h2 ho (by rw [e, h3])
  refine ⟨hx, hs.kept.trans' hg (fun b e => ?_), fun b hb => by have := hs.lt b hb; omega, hs.old, hs.new, fun o => ?_, fun o => ?_, fun o o' h1 h2 hne => ?_, fun o h1 => ?_, hs.mle.trans hx.mu, fun o h1 => ?_, hs.tab.mono (fun _ h => h) hx.heap⟩
  · rcases hB with hB | ⟨hB, hd⟩
    · rw [hB] at e; cases e
    · rw [hB] at e; cases e
      exact (hs.own d hd).2.1.imp (fun h => ⟨d, h⟩) id
  · by_cases e : o = d
    · subst e; simp
    · rw [updF_ne e, updF_ne e]; exact hs.ver o
  · by_cases e : o = d
    · subst e; simp only [updF_self]; exact hob hx
    · rw [updF_ne e, updF_ne e]; exact OSim.keep hx (other o e) (hs.ob o)
  · by_cases e : o = d
    · subst e
      have e' : o' ≠ o := Ne.symm hne
      rw [updF_ne e', updF_ne e'] at h2
      simp only [updF_self] at h1
      rw [updF_self, updF_ne e']
      exact Ne.symm (fresh o' e' h2 h1)
    · rw [updF_ne e, updF_ne e] at h1
      rw [updF_ne e]
      by_cases e' : o' = d
      · subst e'
        simp only [updF_self] at h2 ⊢
        exact fresh o e h1 h2
      · rw [updF_ne e', updF_ne e'] at h2
        rw [updF_ne e']
        exact hs.apart o o' h1 h2 hne
  · by_cases e : o = d
    · subst e
      simp only [updF_self] at h1 ⊢
      rcases hb h1 with ⟨h2, h3⟩ | ⟨h2, h3⟩
      · exact ⟨fun hb => by have := hs.lt _ hb; omega, .inr (by omega), h3⟩
      · obtain ⟨k1, k2, k3⟩ := hs.own o h2
        rw [h3]; exact ⟨k1, k2, by omega⟩
    · rw [updF_ne e, updF_ne e] at h1
      rw [updF_ne e]
      obtain ⟨k1, k2, k3⟩ := hs.own o h1
      exact ⟨k1, k2, by omega⟩
  · by_cases e : o = d
    · subst e
      simp only [updF_self] at h1 ⊢
      exact ht h1
    · rw [updF_ne e, updF_ne e] at h1
      rw [updF_ne e]
      exact hs.tag o h1

/-- Nothing of the call's own has turned; immutable blocks may have come. -/
theorem Sim.same (hs : Sim c w I μ H) (hg : w.grownBy w' none) (hI : ∀ b, I b → I' b) (hI' : ∀ b, I' b → I b ∨ (w.heap.size ≤ b ∧ b < w'.heap.size)) : Ext I μ w I' μ w' ∧ Sim c w' I' μ H := by
  have hsz := hg.size
  have h0 := hs.kept.size
  have hx : Ext I μ w I' μ w' := ⟨hI, fun b h => hg.block b (hs.lt b h) (by simp), MuLe.refl _⟩
  refine ⟨hx, hs.kept.trans' hg (fun b e => nomatch e), fun b hb => ?_, fun b hb => hI b (hs.old b hb), fun b hb => ?_, hs.ver, fun o => ?_, hs.apart, fun o h1 => ?_, hs.mle, hs.tag, hs.tab.mono hI hx.heap⟩
  · rcases hI' b hb with h | h
    · have := hs.lt b h; omega
    · exact h.2
  · rcases hI' b hb with h | h
    · exact hs.new b h
    · right; omega
  · exact OSim.keep hx (fun hl => hg.block _ (hs.own o hl).2.2 (by simp)) (hs.ob o)
  · obtain ⟨k1, k2, k3⟩ := hs.own o h1
    refine ⟨fun hb => ?_, k2, by omega⟩
    rcases hI' _ hb with h | h
    · exact k1 h
    · omega

/-- An object is given up. -/
theorem Sim.drop (hs : Sim c w I μ H) (d : Nm) : Sim c w I μ (updF H d ⟨(H d).u, .none⟩) := by
  obtain ⟨_, h⟩ := hs.upd (w' := w) (B := none) ⟨rfl, rfl, rfl, Nat.le_refl _, fun _ _ _ => rfl⟩ d (μ d) .none (.inl rfl) (.inr rfl) (fun h => nomatch h) (fun h => nomatch h) (fun _ => trivial)
  have e : updF μ d (μ d) = μ := by funext o; unfold updF; split <;> simp_all
  rw [e, hs.ver d] at h
  exact h

/-- An object is written no more: its block is immutable now. -/
theorem Sim.freeze (hs : Sim c w I μ H) (d : Nm) (hb : hasB (μ d) (H d).ob = true) (hM : ∀ b, ¬ c.M0 d b) : Ext I μ w (fun b => I b ∨ b = (μ d).b) μ w ∧ Sim c w (fun b => I b ∨ b = (μ d).b) μ (updF H d ⟨(H d).u, .none⟩) := by
  have hx : Ext I μ w (fun b => I b ∨ b = (μ d).b) μ w := ⟨fun b h => .inl h, fun b h => rfl, MuLe.refl _⟩
  obtain ⟨d1, d2, d3⟩ := hs.own d hb
  have hne : ∀ o, hasB (μ o) ((updF H d ⟨(H d).u, .none⟩ : Hp) o).ob = true → o ≠ d ∧ hasB (μ o) (H o).ob = true := fun o h => by
    by_cases e : o = d
    · subst e; simp [hasB] at h
    · rw [updF_ne e] at h; exact ⟨e, h⟩
  refine ⟨hx, hs.kept, fun b h => ?_, fun b h => .inl (hs.old b h), fun b h => ?_, fun o => ?_, fun o => ?_, fun o o' h1 h2 hn => ?_, fun o h => ?_, hs.mle, fun o h => hs.tag o (hne o h).2, hs.tab.mono (fun _ h => .inl h) hx.heap⟩
  · rcases h with h | rfl
    · exact hs.lt b h
    · exact d3
  · rcases h with h | rfl
    · exact hs.new b h
    · rcases d2 with h | h
      · exact (hM _ h).elim
      · exact .inr h
  · by_cases e : o = d
    · subst e; simp [hs.ver]
    · rw [updF_ne e]; exact hs.ver o
  · by_cases e : o = d
    · subst e; simp only [updF_self]; trivial
    · rw [updF_ne e]; exact OSim.keep hx (fun _ => rfl) (hs.ob o)
  · exact hs.apart o o' (hne o h1).2 (hne o' h2).2 hn
  · obtain ⟨e, h⟩ := hne o h
    obtain ⟨k1, k2, k3⟩ := hs.own o h
    refine ⟨fun hh => ?_, k2, k3⟩
    rcases hh with hh | hh
    · exact k1 hh
    · exact hs.apart o d h hb e hh
end
end Go.G
