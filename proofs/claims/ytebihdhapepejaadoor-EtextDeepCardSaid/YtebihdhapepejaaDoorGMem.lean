/-
  Rows: make, literals, append, copy.
-/
import Derived.Test.YtebihdhapepejaaDoorGMake
namespace Go.G
set_option linter.unusedVariables false
set_option linter.unusedSimpArgs false
open Go.RowKit

def bytesT (P : Program) (t : TypeId) : Option Nat := (P.info? t).map (·.bytes)

/-! ### rows of zeros -/
theorem flat_replicate {s : Nat} {x : A} (hx : x.cells.length = s) : ∀ {n k : Nat} {y : A}, ((List.replicate n x).flatMap A.cells)[k]? = some y → k < n * s ∧ x.cells[k % s]? = some y
  | 0, k, y, h => by simp at h
  | n + 1, k, y, h => by
    simp only [List.replicate_succ, List.flatMap_cons] at h
    by_cases hk : k < s
    · rw [List.getElem?_append_left (by omega)] at h
      exact ⟨by rw [Nat.add_mul]; omega, by rw [Nat.mod_eq_of_lt hk]; exact h⟩
    · rw [List.getElem?_append_right (by omega), hx] at h
      obtain ⟨h1, h2⟩ := flat_replicate hx h
      have hs : 0 < s := by
        rcases Nat.eq_zero_or_pos s with h0 | h0
        · subst h0; simp at h1
        · exact h0
      refine ⟨by rw [Nat.add_mul]; omega, ?_⟩
      rw [Nat.mod_eq_sub_mod (by omega)]
      exact h2

theorem rel_zero_row {w : World} {I : Nat → Prop} {μ : Mu} {z : Value} {s n N : Nat} (h1 : A.ones (ofV z).cells = true) (hz : (ofV z).cells.length = s) (hn : n * s ≤ N) {f : Nat → Value}
    (hf : ∀ k, k < N → f k = z.cells[k % z.cells.size]!) : ∀ (k : Nat) (y : A), ((List.replicate n (ofV z)).flatMap A.cells)[k]? = some y → y.one = true ∧ Rel w I μ y (f k) := by
  intro k y hk
  obtain ⟨hlt, hy⟩ := flat_replicate hz hk
  obtain ⟨e1, e2⟩ := (rel_ofV (w := w) (I := I) (μ := μ) z).cellsRel h1
  obtain ⟨h3, h4⟩ := e2 _ y hy
  refine ⟨h3, ?_⟩
  rw [hf k (by omega), e1, hz]
  have hs : 0 < s := by
    rcases Nat.eq_zero_or_pos s with h0 | h0
    · subst h0; simp at hlt
    · exact h0
  have : k % s < z.cells.size := by rw [e1, hz]; exact Nat.mod_lt _ hs
  have e : z.cells[k % s]! = z.cells.getD (k % s) undef := by simp [this]
  rw [e]; exact h4

def makeSliceA (P : Program) (H : Hp) (d : Nm) (t : TypeId) (len cap : A) : Option (A × Eff) :=
  match P.underlying t, len, cap with
  | some (.slice e), .v (.int _ n), .v (.int _ c) =>
    match szT P e, zeroT P e, bytesT P e with
    | some s, some z, some b =>
      if 0 ≤ n ∧ n ≤ c ∧ b * c ≤ 140737488355328 ∧ 0 < b ∧ (ofV z).cells.length = s ∧ A.ones (ofV z).cells = true ∧ tagOK d e = true then some (.osl d ((H d).u + 1) s 0 n.toNat, .one d ⟨(H d).u + 1, .arr s (List.replicate n.toNat (ofV z))⟩) else none
    | _, _, _ => none
  | _, _, _ => none

theorem range0_map {α : Type} (f : Nat → α) : (Array.range 0).map f = #[] := by apply Array.ext'; simp

theorem run_makeSlice {P : Program} {w : World} {t e : TypeId} {s b : Nat} {z : Value} {k k' : IntKind} {n c : Int} (hu : P.underlying t = some (.slice e)) (hsz : szT P e = some s) (hz : zeroT P e = some z) (hb : bytesT P e = some b)
    (h0 : 0 ≤ n) (h1 : n ≤ c) (h2 : b * c ≤ 140737488355328) (h3 : 0 < b) :
    ∃ row : Array Value, (Instr.makeSlice t (.int k n) (.int k' c)).run P w = .ok (.slice (some ⟨w.heap.size, 0, none⟩) n.toNat c.toNat) (w.alloc (.cells row e)) ∧ row.size = c.toNat * s ∧ ∀ j, j < c.toNat * s → row.getD j undef = z.cells[j % z.cells.size]! := by
  have hc : c ≤ b * c := by
    have : (1 : Int) * c ≤ b * c := Int.mul_le_mul_of_nonneg_right (by omega) (by omega)
    omega
  have e1 : IntKind.i64.wrap n = n := by rw [IntKind.wrap_i64]; omega
  have e2 : IntKind.i64.wrap c = c := by rw [IntKind.wrap_i64]; omega
  unfold bytesT at hb
  cases hi : P.info? e with
  | none => simp [hi] at hb
  | some i =>
    simp [hi] at hb
    subst hb
    by_cases hN : c.toNat * s = 0
    · refine ⟨#[], ?_, by simp [hN], fun j hj => by omega⟩
      have : ¬ (i.bytes : Int) * c > 281474976710656 := by omega
      simp [Instr.makeSlice, run_underlying hu, asInt, asIntOf, typeInfo, hi, e1, e2, run_szT hsz, hN, newRow]
      have h4 : ¬ c < 0 := by omega
      have h5 : ¬ n < 0 := by omega
      have h6 : ¬ c < n := by omega
      simp [h4, h5, h6]
      rw [if_neg (by omega), range0_map]
    · refine ⟨(Array.range (c.toNat * s)).map (z.cells[· % z.cells.size]!), ?_, by simp, fun j hj => by simp [hj]⟩
      simp [Instr.makeSlice, run_underlying hu, asInt, asIntOf, typeInfo, hi, e1, e2, run_szT hsz, hN, newRow, run_zeroT hz]
      have h4 : ¬ c < 0 := by omega
      have h5 : ¬ n < 0 := by omega
      have h6 : ¬ c < n := by omega
      simp [h4, h5, h6]
      omega

/-- A new row. -/
theorem new_row {c : Cx} {w w' : World} {I : Nat → Prop} {μ : Mu} {H : Hp} (hs : Sim c w I μ H) (d : Nm) (e : TypeId) (cap s : Nat) (row : Array Value) (xs : List A) (hg : w.grownBy w' none) (hh : w'.heap[w.heap.size]? = some (.cells row e)) (hsz : w'.heap.size = w.heap.size + 1) (hrs : row.size = cap * s) (hc : xs.length ≤ cap)
    (hl : ∀ x, x ∈ xs → x.cells.length = s) (hr : ∀ {I' μ'}, Ext I μ w I' μ' w' → ∀ (k : Nat) (y : A), (xs.flatMap A.cells)[k]? = some y → y.one = true ∧ Rel w' I' μ' y (row.getD k undef)) {n : Nat} (hn : n ≤ cap) (ht : tagOK d e = true) :
    ∃ I' μ', Ext I μ w I' μ' w' ∧ Sim c w' I' μ' (updF H d ⟨(H d).u + 1, .arr s xs⟩) ∧ Rel w' I' μ' (.osl d ((H d).u + 1) s 0 n) (.slice (some ⟨w.heap.size, 0, none⟩) n cap) := by
  obtain ⟨hx, hs'⟩ := hs.upd hg d ⟨(H d).u + 1, true, w.heap.size, cap, s, e⟩ (.arr s xs) (.inl rfl) (.inl (by rw [hs.ver]; exact Nat.lt_succ_self _)) (fun _ => .inl ⟨Nat.le_refl _, by rw [hsz]; exact Nat.lt_succ_self _⟩) (fun _ => ht) (fun hx =>
    ⟨rfl, .inr ⟨rfl, row, hh, hrs, hc, hl, hr hx⟩⟩)
  exact ⟨_, _, hx, hs', .osl _ _ _ _ _ _ _ _ (by omega) (by simp) hn (fun _ => ⟨_, _, rfl⟩) (fun _ => by simp)⟩

theorem makeSliceA_sound {c : Cx} {w : World} {I : Nat → Prop} {μ : Mu} {H : Hp} (hs : Sim c w I μ H) {d : Nm} {t : TypeId} {a b r : A} {x y : Value} {E : Eff} (ha : Rel w I μ a x) (hb : Rel w I μ b y) (h : makeSliceA c.P H d t a b = some (r, E)) :
    ∃ v w', (Instr.makeSlice t x y).run c.P w = .ok v w' ∧ ∃ I' μ', Ext I μ w I' μ' w' ∧ Sim c w' I' μ' (E.app H) ∧ Rel w' I' μ' r v := by
  unfold makeSliceA at h
  split at h
  · rename_i e k n k' m hu
    cases ha; cases hb
    split at h
    · rename_i s z by' hsz hz hby
      split at h
      · rename_i hcond
        obtain ⟨h0, h1, h2, h3, h4, h5, htg⟩ := hcond
        cases h
        obtain ⟨row, hrun, hrs, hrow⟩ := run_makeSlice (P := c.P) (w := w) (k := k) (k' := k') hu hsz hz hby h0 h1 h2 h3
        have hnm : n.toNat ≤ m.toNat := by omega
        obtain ⟨I', μ', q1, q2, q3⟩ := new_row hs d e m.toNat s row (List.replicate n.toNat (ofV z)) (World.grownBy_alloc w (.cells row e) none) (heap_alloc_new w _) (by simp) hrs (by simpa using hnm) (fun q hq => by rw [List.eq_of_mem_replicate hq]; exact h4)
          (fun _ => rel_zero_row h5 h4 (Nat.mul_le_mul_right _ hnm) hrow) hnm htg
        exact ⟨_, _, hrun, _, _, q1, q2, q3⟩
      · cases h
    · cases h
  · cases h

/-! ### a slice's literal: immutable -/
def buildSliceA (P : Program) (t : TypeId) (len : Nat) (parts : List (Nat × A)) : Option A :=
  match P.underlying t with
  | some (.slice e) => match szT P e, zeroT P e with
    | some s, some z =>
      if parts.map (·.1) = List.range len ∧ len * s ≤ 16777216 ∧ (ofV z).cells.length = s ∧ A.ones (ofV z).cells = true ∧ (parts.all fun p => p.2.cells.length == s && A.ones p.2.cells && p.2.cells.all A.bare1) = true then
        some (.sl true (parts.map (·.2))) else none
    | _, _ => none
  | _ => none

theorem splice_mid {p q r n : List A} (h : q.length = n.length) : splice (p ++ (q ++ r)) p.length n = p ++ (n ++ r) := by
  unfold splice
  rw [List.take_append_of_le_length (Nat.le_refl _), List.take_length, List.drop_length_add_append, ← h, List.drop_left, List.append_assoc]

theorem fillA_full {s : Nat} {z : A} (hz : z.cells.length = s) : ∀ (ps : List (Nat × A)) (done : List A) (n : Nat), done.length = n * s → ps.map (·.1) = List.range' n ps.length → (∀ p, p ∈ ps → p.2.cells.length = s ∧ A.ones p.2.cells = true) →
    fillA (fun i => some (i * s, s)) (done ++ (List.replicate ps.length z).flatMap A.cells) ps = some (done ++ (ps.map (·.2)).flatMap A.cells)
  | [], done, n, hd, _, _ => by simp [fillA]
  | (i, x) :: ps, done, n, hd, hi, hp => by
    simp only [List.map_cons, List.length_cons, List.range'_succ, List.cons.injEq] at hi
    obtain ⟨rfl, hi⟩ := hi
    obtain ⟨hx1, hx2⟩ := hp (i, x) (by simp)
    simp only at hx1 hx2
    unfold fillA
    simp only
    rw [if_pos ⟨hx1, by simp only [List.length_cons, List.replicate_succ, List.flatMap_cons, List.length_append]; omega, hx2⟩]
    simp only [List.length_cons, List.replicate_succ, List.flatMap_cons]
    rw [← hd, splice_mid (by omega)]
    have := fillA_full hz ps (done ++ x.cells) (i + 1) (by simp [hd, hx1, Nat.add_mul]) hi (fun p hp' => hp p (by simp [hp']))
    rw [List.append_assoc] at this
    rw [this]
    simp [List.append_assoc]

theorem buildSliceA_sound {c : Cx} {w : World} {I : Nat → Prop} {μ : Mu} {H : Hp} (hs : Sim c w I μ H) {t : TypeId} {len : Nat} {ps : List (Nat × A)} {qs : Array (Nat × Value)} {r : A} (he : ps.map (·.1) = qs.toList.map (·.1))
    (hr : ∀ (k : Nat) (p : Nat × A) (q : Nat × Value), ps[k]? = some p → qs.toList[k]? = some q → Rel w I μ p.2 q.2) (h : buildSliceA c.P t len ps = some r) :
    ∃ v w', (Instr.buildSlice t len qs).run c.P w = .ok v w' ∧ ∃ I' μ', Ext I μ w I' μ' w' ∧ Sim c w' I' μ' H ∧ Rel w' I' μ' r v := by
  unfold buildSliceA at h
  split at h
  · rename_i e hu
    split at h
    · rename_i s z hsz hz
      split at h
      · rename_i hcond
        obtain ⟨h1, h2, h3, h4, h5⟩ := hcond
        cases h
        have hpl : ps.length = len := by have := congrArg List.length h1; simpa using this
        have hp : ∀ p, p ∈ ps → p.2.cells.length = s ∧ A.ones p.2.cells = true ∧ p.2.cells.all A.bare1 = true := by simpa [and_assoc] using h5
        have hfill := fillA_full h3 ps [] 0 (by simp) (by rw [h1, hpl, List.range_eq_range']) (fun p h => ⟨(hp p h).1, (hp p h).2.1⟩)
        simp only [List.nil_append, hpl] at hfill
        have hz0 : (z.cells).size = s := by rw [← h3]; exact ((rel_ofV (w := w) (I := I) (μ := μ) z).cellsRel h4).1
        have hrow0 : RelC w I μ ((List.replicate len (ofV z)).flatMap A.cells) ((Array.range (len * s)).map (z.cells[· % z.cells.size]!)) := by
          refine ⟨?_, rel_zero_row h4 h3 (Nat.le_refl _) (N := len * s) (fun k hk => by simp [hk])⟩
          rw [flat_len (sz := s) (fun q hq => by rw [List.eq_of_mem_replicate hq]; exact h3)]
          simp
        obtain ⟨vs', e1, e2⟩ := fillA_sound (ps := ps) (qs := qs.toList) hrow0 he hr hfill
        have hlen : ((ps.map (·.2)).flatMap A.cells).length = len * s := by
          rw [flat_len (sz := s) (fun q hq => by
            obtain ⟨p, hp', rfl⟩ := List.mem_map.1 hq
            exact (hp p hp').1)]
          simp [hpl]
        obtain ⟨hx, hs'⟩ := hs.same (I' := fun b => I b ∨ b = w.heap.size) (World.grownBy_alloc w (.cells vs' e) none) (fun b hb => .inl hb) (fun b hb => hb.imp id fun e => ⟨by omega, by simp; omega⟩)
        refine ⟨.slice (some ⟨w.heap.size, 0, none⟩) len len, w.alloc (.cells vs' e), ?_, (fun b => I b ∨ b = w.heap.size), μ, hx, hs', ?_⟩
        · have h2' : ¬ len * s > 2 ^ 24 := by omega
          by_cases h0 : len * s = 0
          · have e1' : Instr.fill (fun i => some (i * s, s)) #[] qs.toList = some vs' := by
              rw [← e1]; congr 1; rw [h0, range0_map]
            simp only [Instr.buildSlice, Sem.run_bind, run_underlying hu, Result.andThen_ok, run_szT hsz]
            simp [h0, Sem.run_bind, e1', newRow, range0_map]
          · simp only [Instr.buildSlice, Sem.run_bind, run_underlying hu, Result.andThen_ok, run_szT hsz]
            rw [if_neg h2', if_neg h0]
            simp [run_zeroT hz, e1, newRow]
        · by_cases hnil : ps = []
          · subst hnil
            simp at hpl
            subst hpl
            exact .slN _ _ _ _ (fun _ => rfl)
          · refine Rel.sl (I := fun b => I b ∨ b = w.heap.size) _ _ w.heap.size 0 len len s (ps.map (·.2)) (fun k => vs'.getD k undef) (Or.inr rfl) (by simp [hpl]) (by simp [hpl]) (fun _ => by simp [hpl]) (fun q hq => by
              obtain ⟨p, hp', rfl⟩ := List.mem_map.1 hq
              exact (hp p hp').1) (fun k y hk => (e2.2 k y hk).1) (fun k y hk => ?_) (fun k y hk => ?_)
            · rw [Nat.zero_add, cell_of_row (w.alloc (.cells vs' e)) w.heap.size k vs' e (0, 0) (heap_alloc_new w _)]
              have : k < vs'.size := by rw [e2.1]; exact (List.getElem?_eq_some_iff.1 hk).1
              simp [this]
            · have hb1 : y.bare1 = true := by
                obtain ⟨q, hq, hy⟩ := List.mem_flatMap.1 (List.mem_of_getElem? hk)
                obtain ⟨p, hp', rfl⟩ := List.mem_map.1 hq
                exact List.all_eq_true.1 (hp p hp').2.2 y hy
              exact (hx.rel (e2.2 k y hk).2).of_bare1 hb1
      · cases h
    · cases h
  · cases h

/-! ### a slice's literal: a row of the call's own -/
def buildSliceO (P : Program) (H : Hp) (d : Nm) (t : TypeId) (len : Nat) (parts : List (Nat × A)) : Option (A × Eff) :=
  match P.underlying t with
  | some (.slice e) => match szT P e, zeroT P e with
    | some s, some z =>
      if parts.map (·.1) = List.range len ∧ len * s ≤ 16777216 ∧ (ofV z).cells.length = s ∧ A.ones (ofV z).cells = true ∧ (parts.all fun p => p.2.cells.length == s && A.ones p.2.cells) = true ∧ tagOK d e = true then
        some (.osl d ((H d).u + 1) s 0 len, .one d ⟨(H d).u + 1, .arr s (parts.map (·.2))⟩) else none
    | _, _ => none
  | _ => none
theorem buildSliceO_sound {c : Cx} {w : World} {I : Nat → Prop} {μ : Mu} {H : Hp} (hs : Sim c w I μ H) {d : Nm} {t : TypeId} {len : Nat} {ps : List (Nat × A)} {qs : Array (Nat × Value)} {r : A} {E : Eff} (he : ps.map (·.1) = qs.toList.map (·.1))
    (hr : ∀ (k : Nat) (p : Nat × A) (q : Nat × Value), ps[k]? = some p → qs.toList[k]? = some q → Rel w I μ p.2 q.2) (h : buildSliceO c.P H d t len ps = some (r, E)) :
    ∃ v w', (Instr.buildSlice t len qs).run c.P w = .ok v w' ∧ ∃ I' μ', Ext I μ w I' μ' w' ∧ Sim c w' I' μ' (E.app H) ∧ Rel w' I' μ' r v := by
  unfold buildSliceO at h
  split at h
  · rename_i e hu
    split at h
    · rename_i s z hsz hz
      split at h
      · rename_i hcond
        obtain ⟨h1, h2, h3, h4, h5, htg⟩ := hcond
        cases h
        have hpl : ps.length = len := by have := congrArg List.length h1; simpa using this
        have hp : ∀ p, p ∈ ps → p.2.cells.length = s ∧ A.ones p.2.cells = true := by simpa [and_assoc] using h5
        have hfill := fillA_full h3 ps [] 0 (by simp) (by rw [h1, hpl, List.range_eq_range']) hp
        simp only [List.nil_append, hpl] at hfill
        have hz0 : (z.cells).size = s := by rw [← h3]; exact ((rel_ofV (w := w) (I := I) (μ := μ) z).cellsRel h4).1
        have hrow0 : RelC w I μ ((List.replicate len (ofV z)).flatMap A.cells) ((Array.range (len * s)).map (z.cells[· % z.cells.size]!)) := by
          refine ⟨?_, rel_zero_row h4 h3 (Nat.le_refl _) (N := len * s) (fun k hk => by simp [hk])⟩
          rw [flat_len (sz := s) (fun q hq => by rw [List.eq_of_mem_replicate hq]; exact h3)]
          simp
        obtain ⟨vs', e1, e2⟩ := fillA_sound (ps := ps) (qs := qs.toList) hrow0 he hr hfill
        have hlen : ((ps.map (·.2)).flatMap A.cells).length = len * s := by
          rw [flat_len (sz := s) (fun q hq => by
            obtain ⟨p, hp', rfl⟩ := List.mem_map.1 hq
            exact (hp p hp').1)]
          simp [hpl]
        obtain ⟨I', μ', q1, q2, q3⟩ := new_row hs d e len s vs' (ps.map (·.2)) (World.grownBy_alloc w (.cells vs' e) none) (heap_alloc_new w _) (by simp) (by rw [e2.1, hlen]) (by simp [hpl]) (fun q hq => by
            obtain ⟨p, hp', rfl⟩ := List.mem_map.1 hq
            exact (hp p hp').1) (fun hx k y hk => ⟨(e2.2 k y hk).1, hx.rel (e2.2 k y hk).2⟩) (Nat.le_refl len) htg
        refine ⟨.slice (some ⟨w.heap.size, 0, none⟩) len len, w.alloc (.cells vs' e), ?_, I', μ', q1, q2, q3⟩
        have h2' : ¬ len * s > 2 ^ 24 := by omega
        by_cases h0 : len * s = 0
        · have e1' : Instr.fill (fun i => some (i * s, s)) #[] qs.toList = some vs' := by
            rw [← e1]; congr 1; rw [h0, range0_map]
          simp only [Instr.buildSlice, Sem.run_bind, run_underlying hu, Result.andThen_ok, run_szT hsz]
          simp [h0, Sem.run_bind, e1', newRow, range0_map]
        · simp only [Instr.buildSlice, Sem.run_bind, run_underlying hu, Result.andThen_ok, run_szT hsz]
          rw [if_neg h2', if_neg h0]
          simp [run_zeroT hz, e1, newRow]
      · cases h
    · cases h
  · cases h
end Go.G
