/-
  Arguments out of their readings: what a value of a type holds, as abstract cells.
-/
import Derived.Test.YtebihdhapepejaaDoorGOp
import Derived.ProofKit
import Derived.SizedLaws
namespace Go.G
set_option linter.unusedVariables false
set_option linter.unusedSimpArgs false
open Go.RowKit

/-- An element as one thing. -/
def mk (P : Program) (t : TypeId) (as : List A) : A := match P.underlying t with
  | some (.struct _) => .agg as
  | _ => as.headD .any

def HasL (R : TypeId → List A → Prop) : List Field → List A → Prop
  | [], as => as = []
  | f :: fs, as => ∃ a b, as = a ++ b ∧ R f.type a ∧ HasL R fs b

/-- The cells of a value of a type: numbers, bools, texts; of slices and structs of such. -/
def Has (P : Program) : Nat → TypeId → List A → Prop
  | 0, _, _ => False
  | n + 1, t, as => match P.underlying t with
    | some .bool => ∃ b, as = [.v (.bool b)]
    | some (.int k) => ∃ m, (Lit.int k m).wf = true ∧ as = [.v (.int k m)]
    | some .string => ∃ s, s.size ≤ maxLen ∧ s.size ≤ reachBytes ∧ as = [.v (.string s)]
    | some (.slice e) => ∃ f xs, as = [.sl f xs] ∧ xs.length ≤ maxLen ∧ xs.length * P.bytesOf e ≤ reachBytes ∧ (f = true → xs = []) ∧ ∀ x, x ∈ xs → ∃ b, Has P n e b ∧ x = mk P e b
    | some (.struct fs) => HasL (Has P n) fs.toList as
    | _ => False

/-- The fields by their types alone. -/
def HasT (R : TypeId → List A → Prop) : List TypeId → List A → Prop
  | [], as => as = []
  | t :: ts, as => ∃ a b, as = a ++ b ∧ R t a ∧ HasT R ts b
theorem hasL_types {R : TypeId → List A → Prop} : ∀ {fs : List Field} {as : List A}, HasL R fs as ↔ HasT R (fs.map Field.type) as
  | [], as => Iff.rfl
  | f :: fs, as => by simp only [HasL, HasT, List.map_cons, hasL_types (fs := fs)]

/-- The fields lie one behind the other. -/
def tiles (P : Program) : Nat → List Field → Option Nat
  | off, [] => some off
  | off, f :: fs => if f.offset = off then tiles P (off + P.cellsOf f.type) fs else none
/-- Closed: such types alone. -/
def plainT (P : Program) (S : List TypeId) : Bool := S.all fun t => match P.underlying t with
  | some .bool | some (.int _) | some .string => P.cellsOf t == 1
  | some (.slice e) => P.cellsOf t == 1 && (decide (0 < P.cellsOf e) && S.contains e)
  | some (.struct fs) => tiles P 0 fs.toList == some (P.cellsOf t) && fs.toList.all fun f => S.contains f.type
  | _ => false

theorem list_of {β : Type} {R : Nat → β → Prop} : ∀ {n : Nat}, (∀ i, i < n → ∃ b, R i b) → ∃ l : List β, l.length = n ∧ ∀ (i : Nat) (b : β), l[i]? = some b → R i b
  | 0, _ => ⟨[], rfl, fun i b h => by simp at h⟩
  | n + 1, h => by
    obtain ⟨l, h1, h2⟩ := list_of (n := n) (fun i hi => h i (by omega))
    obtain ⟨b, hb⟩ := h n (by omega)
    refine ⟨l ++ [b], by simp [h1], fun i c hc => ?_⟩
    rw [List.getElem?_append] at hc
    split at hc
    · exact h2 i c hc
    · rename_i hi
      have : i = n := by
        have := (List.getElem?_eq_some_iff.1 hc).1
        simp at this
        omega
      subst this
      simp [h1] at hc
      subst hc
      exact hb

theorem mapM_get {α β : Type} {f : α → Option β} : ∀ {l : List α} {r : List β}, l.mapM f = some r → r.length = l.length ∧ ∀ (i : Nat) (a : α), l[i]? = some a → ∃ b, f a = some b ∧ r[i]? = some b
  | [], r, h => by
    simp at h
    subst h
    exact ⟨rfl, fun i a h => by simp at h⟩
  | a :: l, r, h => by
    rw [List.mapM_cons] at h
    simp only [Option.bind_eq_bind, Option.bind_eq_some_iff] at h
    obtain ⟨b, hb, r', hr, h⟩ := h
    cases h
    obtain ⟨h1, h2⟩ := mapM_get hr
    refine ⟨by simp [h1], fun i c hc => ?_⟩
    cases i with
    | zero => simp at hc; subst hc; exact ⟨b, hb, rfl⟩
    | succ i => simpa using h2 i c (by simpa using hc)

theorem cells?_get {w : World} {base : Nat} {a : Addr} {n : Nat} {cs : List Value} (h : w.cells? base a n = some cs) : cs.length = n ∧ ∀ i, i < n → w.cell? (a.add i) = some (cs.getD i undef) := by
  unfold World.cells? at h
  split at h
  · obtain ⟨h1, h2⟩ := mapM_get h
    refine ⟨by simpa using h1, fun i hi => ?_⟩
    obtain ⟨b, hb, hr⟩ := h2 i i (by simp [hi])
    rw [hb]
    simp [List.getD, hr]
  · cases h

theorem mk_cells {P : Program} {n : Nat} {t : TypeId} {as : List A} (h : Has P n t as) : (mk P t as).cells = as := by
  cases n with
  | zero => exact h.elim
  | succ n =>
    unfold Has at h
    unfold mk
    split at h
    · rename_i hu; obtain ⟨b, rfl⟩ := h; rw [hu]; rfl
    · rename_i hu; obtain ⟨m, _, rfl⟩ := h; rw [hu]; rfl
    · rename_i hu; obtain ⟨m, _, _, rfl⟩ := h; rw [hu]; rfl
    · rename_i hu; obtain ⟨f, xs, rfl, _⟩ := h; rw [hu]; rfl
    · rename_i hu; rw [hu]; rfl
    · exact h.elim

theorem getD_get {α : Type} {l : List α} {k : Nat} {d : α} (h : k < l.length) : l[k]? = some (l.getD k d) := by
  simp [List.getD, List.getElem?_eq_getElem h]

theorem flat_inv {sz : Nat} (hp : 0 < sz) {xs : List A} {k : Nat} {y : A} (h : ∀ x, x ∈ xs → x.cells.length = sz) (hk : (xs.flatMap A.cells)[k]? = some y) : ∃ x, xs[k / sz]? = some x ∧ x.cells[k % sz]? = some y := by
  have hl := (List.getElem?_eq_some_iff.1 hk).1
  rw [flat_len h] at hl
  have hi : k / sz < xs.length := by rw [Nat.div_lt_iff_lt_mul hp]; exact hl
  have hj : k % sz < sz := Nat.mod_lt _ hp
  have hx : xs[k / sz]? = some xs[k / sz] := List.getElem?_eq_getElem hi
  have hcl := h _ (List.mem_of_getElem? hx)
  have hz : xs[k / sz].cells[k % sz]? = some (xs[k / sz].cells[k % sz]'(by omega)) := List.getElem?_eq_getElem (by omega)
  have := flat_get h hx hz
  have e : k / sz * sz + k % sz = k := by rw [Nat.mul_comm]; exact Nat.div_add_mod k sz
  rw [e, hk] at this
  exact ⟨_, hx, by rw [hz]; exact this.symm⟩

theorem getD_left {α : Type} {l l' : List α} {k : Nat} {d : α} (h : k < l.length) : (l ++ l').getD k d = l.getD k d := by
  simp [List.getD, List.getElem?_append_left h]
theorem getD_right {α : Type} {l l' : List α} {k : Nat} {d : α} (h : l.length ≤ k) : (l ++ l').getD k d = l'.getD (k - l.length) d := by
  simp [List.getD, List.getElem?_append_right h]

section
variable {H : Type} {enc : TypeId × Value → H} {P : Program} {w : World} {base : Nat} {sp : Nat → Bool} {held : Bool}

abbrev Old (w : World) (b : Nat) : Prop := b < w.heap.size

/-- The cells stand for the values. -/
def Fits (w : World) (as : List A) (cs : List Value) : Prop := as.length = cs.length ∧ ∀ (k : Nat) (y : A), as[k]? = some y → y.one = true ∧ Rel w (Old w) mu0 y (cs.getD k undef)

theorem Fits.one {x : A} {v : Value} (h : x.one = true) (hr : Rel w (Old w) mu0 x v) : Fits w [x] [v] := ⟨rfl, fun k y hk => by
  cases k with
  | zero => cases hk; exact ⟨h, hr⟩
  | succ k => simp at hk⟩

theorem Fits.append {as bs : List A} {cs ds : List Value} (h : Fits w as cs) (h' : Fits w bs ds) : Fits w (as ++ bs) (cs ++ ds) := ⟨by simp [h.1, h'.1], fun k y hk => by
  rw [List.getElem?_append] at hk
  split at hk
  · rename_i hl
    have := h.2 k y hk
    rwa [getD_left (by rw [← h.1]; exact hl)]
  · rename_i hl
    have := h'.2 _ y hk
    rw [getD_right (by rw [← h.1]; omega), ← h.1]
    exact this⟩

theorem fields_fit {n : Nat} {cs : List Value} (ih : ∀ (t : TypeId) (cs : List Value) x, DataW.trod enc P w base sp held n t cs = some x → P.cellsOf t = cs.length → (∀ m, m ∈ DataW.weights P t x.1 → m ≤ reachBytes) → ∀ S, plainT P S = true → t ∈ S → ∃ as, Has P n t as ∧ Fits w as cs) {S : List TypeId} (hS : plainT P S = true) :
    ∀ (fs : List Field) (off tot : Nat) xs, (∀ m, m ∈ DataW.weightsEach P (fs.map Field.type) (xs.map (·.1)) → m ≤ reachBytes) → (∀ f, f ∈ fs → f.type ∈ S) → tiles P off fs = some tot → tot = cs.length → (fs.mapM fun f => DataW.trod enc P w base sp held n f.type ((cs.drop f.offset).take (P.cellsOf f.type))) = some xs →
      ∃ as, HasL (Has P n) fs as ∧ Fits w as (cs.drop off) ∧ off ≤ tot
  | [], off, tot, xs, _, _, ht, hn, _ => by
    cases ht
    refine ⟨[], rfl, ⟨?_, fun k y hk => by simp at hk⟩, Nat.le_refl _⟩
    simp [hn]
  | f :: fs, off, tot, xs, hw, hf, ht, hn, hm => by
    unfold tiles at ht
    split at ht
    · rename_i ho
      rw [List.mapM_cons] at hm
      simp only [Option.bind_eq_bind, Option.bind_eq_some_iff] at hm
      obtain ⟨x, hx, xs', hxs, hq⟩ := hm
      cases hq
      simp only [List.map_cons, DataW.weightsEach, List.mem_append] at hw
      obtain ⟨bs, hb1, hb2, hb3⟩ := fields_fit ih hS fs (off + P.cellsOf f.type) tot xs' (fun m hm => hw m (.inr hm)) (fun g hg => hf g (by simp [hg])) ht hn hxs
      rw [ho] at hx
      obtain ⟨as, ha1, ha2⟩ := ih f.type _ x hx (by simp; omega) (fun m hm => hw m (.inl hm)) S hS (hf f (by simp))
      refine ⟨as ++ bs, ⟨as, bs, rfl, ha1, hb1⟩, ?_, by omega⟩
      have e : cs.drop off = (cs.drop off).take (P.cellsOf f.type) ++ cs.drop (off + P.cellsOf f.type) := by
        rw [← List.drop_drop, List.take_append_drop]
      rw [e]
      exact ha2.append hb2
    · cases ht

theorem weightsAll_of {e : TypeId} {d : DataW H} {m : Nat} (h : m ∈ DataW.weights P e d) : ∀ {l : List (DataW H)}, d ∈ l → m ∈ DataW.weightsAll P e l
  | x :: l, hd => by
    simp only [DataW.weightsAll, List.mem_append]
    rcases List.mem_cons.1 hd with rfl | hd
    · exact .inl h
    · exact .inr (weightsAll_of h hd)

theorem fits_of_trod : ∀ (n : Nat) (t : TypeId) (cs : List Value) (x : DataW H × List MemPlace), DataW.trod enc P w base sp held n t cs = some x → P.cellsOf t = cs.length → (∀ m, m ∈ DataW.weights P t x.1 → m ≤ reachBytes) → ∀ S, plainT P S = true → t ∈ S → ∃ as, Has P n t as ∧ Fits w as cs
  | 0, t, cs, x, h, _, _, _, _, _ => by simp [DataW.trod] at h
  | n + 1, t, cs, x, h, hlen, hwt, S, hS, ht => by
    have hT := hS
    unfold plainT at hT
    rw [List.all_eq_true] at hT
    have hT := hT t ht
    have ih := fits_of_trod n
    unfold DataW.trod at h
    split at h
    · rename_i b hu
      exact ⟨[.v (.bool b)], by unfold Has; rw [hu]; exact ⟨b, rfl⟩, Fits.one rfl (.v _ _)⟩
    · rename_i k k' m hu
      split at h
      · rename_i hk
        obtain ⟨rfl, hw⟩ := hk
        exact ⟨[.v (.int k' m)], by unfold Has; rw [hu]; exact ⟨m, hw, rfl⟩, Fits.one rfl (.v _ _)⟩
      · cases h
    · rename_i hu; rw [hu] at hT; cases hT
    · rename_i s hu
      split at h
      · rename_i hs
        cases h
        have hz : s.size ≤ reachBytes := by
          have := hwt s.data.toList.length (by simp [DataW.weights])
          simpa using this
        exact ⟨[.v (.string s)], by unfold Has; rw [hu]; exact ⟨s, hs, hz, rfl⟩, Fits.one rfl (.v _ _)⟩
      · cases h
    · rename_i hu; rw [hu] at hT; cases hT
    · rename_i hu; rw [hu] at hT; cases hT
    · rename_i e hu
      exact ⟨[.sl true []], by unfold Has; rw [hu]; exact ⟨true, [], rfl, by simp, by simp, fun _ => rfl, fun x hx => by simp at hx⟩, Fits.one rfl (.slN _ _ _ _ (fun _ => rfl))⟩
    · rename_i e a len cap hu
      rw [hu] at hT
      simp only [Bool.and_eq_true, decide_eq_true_eq, beq_iff_eq] at hT
      obtain ⟨_, hpos, heS⟩ := hT
      have heS : e ∈ S := by simpa using heS
      split at h
      · rename_i hb
        obtain ⟨hb0, hb1, hb2⟩ := hb
        simp only [Option.bind_eq_some_iff] at h
        obtain ⟨elems, he, h⟩ := h
        simp only [Option.map_eq_some_iff] at h
        obtain ⟨rest, _, rfl⟩ := h
        simp only [DataW.weights, hu] at hwt
        obtain ⟨he1, he2⟩ := mapM_get he
        have each : ∀ i, i < len → ∃ as : List A, Has P n e as ∧ ∃ cs, w.cells? base (a.add (i * P.cellsOf e)) (P.cellsOf e) = some cs ∧ Fits w as cs := fun i hi => by
          obtain ⟨y, hy, hg⟩ := he2 i i (by simp [hi])
          simp only [Option.bind_eq_some_iff] at hy
          obtain ⟨cs, hc1, hc2⟩ := hy
          obtain ⟨as, h1, h2⟩ := ih e cs y hc2 (cells?_get hc1).1.symm (fun m hm => hwt m (List.mem_cons_of_mem _ (List.mem_append_left _ (weightsAll_of hm (List.mem_map.2 ⟨y, List.mem_of_getElem? hg, rfl⟩))))) S hS heS
          exact ⟨as, h1, cs, hc1, h2⟩
        obtain ⟨l, hl1, hl2⟩ := list_of each
        have hxs : (l.map (mk P e)).length = len := by simpa using hl1
        refine ⟨[.sl false (l.map (mk P e))], by
          unfold Has; rw [hu]
          refine ⟨false, _, rfl, by rw [hxs]; omega, by
            have := hwt _ List.mem_cons_self
            rw [hxs]
            refine Nat.le_trans (Nat.mul_le_mul_right _ ?_) this
            simp at he1 ⊢
            omega, (fun h => nomatch h), fun x hx => ?_⟩
          obtain ⟨b, hb, rfl⟩ := List.mem_map.1 hx
          obtain ⟨i, hi⟩ := List.getElem?_of_mem hb
          exact ⟨b, (hl2 i b hi).1, rfl⟩, Fits.one rfl ?_⟩
        by_cases h0 : len = 0
        · subst h0
          have : l = [] := List.length_eq_zero_iff.1 hl1
          subst this
          exact .slN _ _ _ _ (fun h => by cases h)
        · have hlen2 : ∀ x, x ∈ l.map (mk P e) → x.cells.length = P.cellsOf e := fun x hx => by
            obtain ⟨b, hb, rfl⟩ := List.mem_map.1 hx
            obtain ⟨i, hi⟩ := List.getElem?_of_mem hb
            obtain ⟨k1, cs, k2, k3⟩ := hl2 i b hi
            rw [mk_cells k1, k3.1, (cells?_get k2).1]
          have hspot : a.spot = none ∧ a.block < w.heap.size := by
            obtain ⟨b, hb⟩ : ∃ b, l[0]? = some b := ⟨_, List.getElem?_eq_getElem (by omega)⟩
            obtain ⟨_, cs, k2, _⟩ := hl2 0 b hb
            have := (cells?_get k2).2 0 hpos
            simp only [Nat.zero_mul, Addr.add, if_true, World.cell?] at this
            split at this
            · rename_i hh
              split at this
              · cases this
              · rename_i hsp
                exact ⟨by simpa using hsp, (Array.getElem?_eq_some_iff.1 hh).1⟩
            · cases this
          obtain ⟨b, off, sp'⟩ := a
          obtain ⟨hsp, hbl⟩ := hspot
          simp only at hsp hbl
          subst hsp
          have main : ∀ (k : Nat) (y : A), ((l.map (mk P e)).flatMap A.cells)[k]? = some y → y.one = true ∧ w.cell? ⟨b, off + k, none⟩ = some ((w.cell? ⟨b, off + k, none⟩).getD undef) ∧ Rel w (Old w) mu0 y ((w.cell? ⟨b, off + k, none⟩).getD undef) := fun k y hk => by
            obtain ⟨x, hx, hy⟩ := flat_inv hpos hlen2 hk
            rw [List.getElem?_map] at hx
            simp only [Option.map_eq_some_iff] at hx
            obtain ⟨as, ha, rfl⟩ := hx
            obtain ⟨k1, cs, k2, k3⟩ := hl2 _ as ha
            rw [mk_cells k1] at hy
            have hj : k % P.cellsOf e < P.cellsOf e := Nat.mod_lt _ hpos
            have hc := (cells?_get k2).2 _ hj
            have ea : ((⟨b, off, none⟩ : Addr).add (k / P.cellsOf e * P.cellsOf e)).add (k % P.cellsOf e) = ⟨b, off + k, none⟩ := by
              have := Nat.div_add_mod k (P.cellsOf e)
              rw [Nat.mul_comm] at this
              unfold Addr.add
              split <;> split <;> simp <;> omega
            rw [ea] at hc
            obtain ⟨k4, k5⟩ := k3.2 _ y hy
            exact ⟨k4, by rw [hc]; rfl, by rw [hc]; exact k5⟩
          exact .sl _ false b off len cap (P.cellsOf e) _ (fun k => (w.cell? ⟨b, off + k, none⟩).getD undef) hbl hxs.symm (by omega) (fun h => by cases h) hlen2 (fun k y hk => (main k y hk).1) (fun k y hk => (main k y hk).2.1) (fun k y hk => (main k y hk).2.2)
      · cases h
    · rename_i fs hu
      rw [hu] at hT
      simp only [Bool.and_eq_true, beq_iff_eq, List.all_eq_true] at hT
      split at h
      · simp only [Option.map_eq_some_iff] at h
        obtain ⟨xs, hx, rfl⟩ := h
        simp only [DataW.weights, hu] at hwt
        obtain ⟨as, h1, h2, _⟩ := fields_fit (fun t cs x h hl hw S hS ht => ih t cs x h hl hw S hS ht) hS fs.toList 0 _ xs hwt (fun f hf => by simpa using hT.2 f hf) hT.1 hlen hx
        exact ⟨as, by unfold Has; rw [hu]; exact h1, by simpa using h2⟩
      · cases h
    all_goals first | (rename_i hu; rw [hu] at hT; cases hT; done) | cases h
end
/-- Each argument as one thing, and what it holds. -/
def ArgsHas (P : Program) : List TypeId → List A → Prop
  | [], [] => True
  | t :: ts, a :: as => (∃ n b, Has P n t b ∧ a = mk P t b) ∧ ArgsHas P ts as
  | _, _ => False

section
open Go.ChangeShapes Go.WideShapes
variable {H : Type} {enc : TypeId × Value → H} {P : Program} {w : World} {base : Nat} {sp : Nat → Bool} {held : Bool}

theorem arg_of_trod {S : List TypeId} (hS : plainT P S = true) {t : TypeId} (ht : t ∈ S) {v : Value} {d : DataW H} {p : List MemPlace} {base' : Nat} (hwt : ∀ m, m ∈ DataW.weights P t d → m ≤ reachBytes) (h : DataW.Trod enc P w base sp held t v d p) (hv : Value.okWide P w .any base' t v) :
    ∃ n b, Has P n t b ∧ Rel w (Old w) mu0 (mk P t b) v := by
  obtain ⟨n, hn⟩ := h
  have hT := hS
  unfold plainT at hT
  rw [List.all_eq_true] at hT
  have hT := hT t ht
  have one : ∀ {b : List A}, Has P n t b → (mk P t b).cells = [mk P t b] → v.cells.toList = [v] → Fits w b v.cells.toList → Rel w (Old w) mu0 (mk P t b) v := fun {b} hb h1 h2 h3 => by
    have h4 := mk_cells hb
    rw [h1] at h4
    have e : b[0]? = some (mk P t b) := by
      have : [mk P t b][0]? = some (mk P t b) := rfl
      rwa [h4] at this
    have := (h3.2 0 (mk P t b) e).2
    rw [h2] at this
    exact this
  cases hu : P.underlying t with
  | none => rw [hu] at hT; cases hT
  | some ty =>
    rw [hu] at hT
    cases ty with
    | struct fs =>
      simp only [Bool.and_eq_true, beq_iff_eq] at hT
      obtain ⟨cs, rfl, hsz⟩ := okWide_struct hu hv
      obtain ⟨b, hb, hf⟩ := fits_of_trod n t _ _ hn (by show P.cellsOf t = cs.toList.length; simp [hsz]) hwt S hS ht
      refine ⟨n, b, hb, ?_⟩
      have : mk P t b = .agg b := by unfold mk; rw [hu]
      rw [this]
      refine .agg _ _ _ ?_ fun k y hk => ?_
      · have := hf.1; simpa [Value.cells] using this.symm
      · have := (hf.2 k y hk).2
        simpa [Value.cells, List.getD, Array.getD_eq_getD_getElem?] using this
    | bool =>
      obtain ⟨q, rfl⟩ := okWide_bool hu hv
      simp only [beq_iff_eq] at hT
      obtain ⟨b, hb, hf⟩ := fits_of_trod n t _ _ hn (by rw [hT]; rfl) hwt S hS ht
      refine ⟨n, b, hb, one hb ?_ rfl hf⟩
      obtain ⟨y, rfl⟩ : ∃ y, b = [y] := List.length_eq_one_iff.1 (by have := hf.1; simpa [Value.cells] using this)
      unfold mk; rw [hu]
      have := mk_cells hb
      unfold mk at this; rw [hu] at this
      exact this
    | int k =>
      obtain ⟨q, rfl⟩ := okWide_int hu hv
      simp only [beq_iff_eq] at hT
      obtain ⟨b, hb, hf⟩ := fits_of_trod n t _ _ hn (by rw [hT]; rfl) hwt S hS ht
      refine ⟨n, b, hb, one hb ?_ rfl hf⟩
      obtain ⟨y, rfl⟩ : ∃ y, b = [y] := List.length_eq_one_iff.1 (by have := hf.1; simpa [Value.cells] using this)
      unfold mk; rw [hu]
      have := mk_cells hb
      unfold mk at this; rw [hu] at this
      exact this
    | string =>
      obtain ⟨q, rfl⟩ := okWide_string hu hv
      simp only [beq_iff_eq] at hT
      obtain ⟨b, hb, hf⟩ := fits_of_trod n t _ _ hn (by rw [hT]; rfl) hwt S hS ht
      refine ⟨n, b, hb, one hb ?_ rfl hf⟩
      obtain ⟨y, rfl⟩ : ∃ y, b = [y] := List.length_eq_one_iff.1 (by have := hf.1; simpa [Value.cells] using this)
      unfold mk; rw [hu]
      have := mk_cells hb
      unfold mk at this; rw [hu] at this
      exact this
    | slice e =>
      obtain ⟨a, l, c, rfl⟩ := okWide_slice hu hv
      simp only [Bool.and_eq_true, beq_iff_eq] at hT
      obtain ⟨b, hb, hf⟩ := fits_of_trod n t _ _ hn (by rw [hT.1]; rfl) hwt S hS ht
      refine ⟨n, b, hb, one hb ?_ rfl hf⟩
      obtain ⟨y, rfl⟩ : ∃ y, b = [y] := List.length_eq_one_iff.1 (by have := hf.1; simpa [Value.cells] using this)
      unfold mk; rw [hu]
      have := mk_cells hb
      unfold mk at this; rw [hu] at this
      exact this
    | _ => simp at hT

theorem args_of_trod {S : List TypeId} (hS : plainT P S = true) {base' : Nat} : ∀ {ts : List TypeId} {vs : List Value} {ds : List (DataW H)} {ps : List MemPlace}, (∀ t, t ∈ ts → t ∈ S) → (∀ m, m ∈ DataW.weightsEach P ts ds → m ≤ reachBytes) → DataW.TrodAll enc P w base sp held ts vs ds ps →
    (∀ (j : Nat) t v, ts[j]? = some t → vs[j]? = some v → Value.okWide P w .any base' t v) → ∃ as, as.length = vs.length ∧ ArgsHas P ts as ∧ ∀ (k : Nat) (y : A), as[k]? = some y → Rel w (Old w) mu0 y (vs.getD k undef)
  | [], _, _, _, _, _, h, _ => by
    obtain ⟨rfl, rfl, rfl⟩ := trodAll_nil h
    exact ⟨[], rfl, trivial, fun k y hk => by simp at hk⟩
  | t :: ts, _, _, _, hts, hwt, h, hv => by
    obtain ⟨v, vs, d, ds, p, q, rfl, rfl, rfl, h1, h2⟩ := trodAll_cons h
    simp only [DataW.weightsEach, List.mem_append] at hwt
    obtain ⟨n, b, hb, hr⟩ := arg_of_trod hS (hts t (by simp)) (fun m hm => hwt m (.inl hm)) h1 (hv 0 t v rfl rfl)
    obtain ⟨as, k1, k2, k3⟩ := args_of_trod hS (fun u hu => hts u (by simp [hu])) (fun m hm => hwt m (.inr hm)) h2 (fun j u x hj hx => hv (j + 1) u x (by simpa using hj) (by simpa using hx))
    refine ⟨mk P t b :: as, by simp [k1], ⟨⟨n, b, hb, rfl⟩, k2⟩, fun k y hk => ?_⟩
    cases k with
    | zero => cases hk; exact hr
    | succ k => exact k3 k y (by simpa using hk)
end
end Go.G
