/-
  append and copy: the rules.
-/
import Derived.Test.YtfdlelcipnabpaaAbAppend
namespace Go.Ab
set_option linter.unusedVariables false
set_option linter.unusedSimpArgs false
open Go.RowKit

def appendA (P : Program) (H : List Ob) (t u : TypeId) (base x : A) : Option (A × List Ob) :=
  match P.underlying t with
  | some (.slice e) => match szT P e, zeroT P e, bytesT P e with
    | some s, some z, some b => match srcA P H s e u x with
      | some zs =>
        if 0 < b ∧ (ofV z).cells.length = s ∧ A.ones (ofV z).cells = true then
          match base with
          | .sl true xs => if lens s xs = true ∧ (xs.length = 0 ∨ 0 < zs.length) ∧ (xs.length + zs.length) * b ≤ 140737488355328 then some (.osl H.length 0 (xs.length + zs.length), H ++ [.arr s (xs ++ zs)]) else none
          | .osl o off len => match H[o]? with
            | some (.arr s' ys) => if off = 0 ∧ s' = s ∧ len ≤ ys.length ∧ (len + zs.length) * b ≤ 140737488355328 then some (.osl H.length 0 (len + zs.length), H.set o .dead ++ [.arr s (ys.take len ++ zs)]) else none
            | _ => none
          | _ => none
        else none
      | none => none
    | _, _, _ => none
  | _ => none

/-- The row that append makes anew. -/
theorem grow_row {w w' : World} {I I' : Nat → Prop} {μ μ' : Mu} {s cap : Nat} {xs zs : List A} {old news : Array Value} {z : Value} (hx : Ext I μ w I' μ' w') (hz : z.cells.size = s) (ho : old.size = xs.length * s) (hn : news.size = zs.length * s) (hcap : xs.length + zs.length ≤ cap)
    (hxl : ∀ x, x ∈ xs → x.cells.length = s) (h1 : ∀ (k : Nat) (y : A), (xs.flatMap A.cells)[k]? = some y → y.one = true ∧ Rel w I μ y (old.getD k undef))
    (h2 : ∀ (k : Nat) (y : A), (zs.flatMap A.cells)[k]? = some y → y.one = true ∧ Rel w I μ y (news.getD k undef)) :
    (old ++ news ++ Builtin.zeroCells z.cells (cap - (xs.length + zs.length))).size = cap * s ∧
    ∀ (k : Nat) (y : A), ((xs ++ zs).flatMap A.cells)[k]? = some y → y.one = true ∧ Rel w' I' μ' y ((old ++ news ++ Builtin.zeroCells z.cells (cap - (xs.length + zs.length))).getD k undef) := by
  constructor
  · simp only [Array.size_append, size_zeroCells, hz, ho, hn, ← Nat.add_mul]
    congr 1
    omega
  · intro k y hk
    rw [List.flatMap_append] at hk
    have hfl := flat_len hxl
    by_cases hlt : k < xs.length * s
    · rw [List.getElem?_append_left (by omega)] at hk
      refine ⟨(h1 k y hk).1, hx.rel ?_⟩
      have := (h1 k y hk).2
      have e : (old ++ news ++ Builtin.zeroCells z.cells (cap - (xs.length + zs.length))).getD k undef = old.getD k undef := by
        have h3 : k < old.size := by omega
        rw [Array.append_assoc]
        simp [Array.getD_eq_getD_getElem?, Array.getElem?_append_left h3]
      rw [e]; exact this
    · rw [List.getElem?_append_right (by omega), hfl] at hk
      refine ⟨(h2 _ y hk).1, hx.rel ?_⟩
      have := (h2 _ y hk).2
      have hk2 := (List.getElem?_eq_some_iff.1 hk).1
      by_cases hin : k < (old ++ news).size
      · have e : (old ++ news ++ Builtin.zeroCells z.cells (cap - (xs.length + zs.length))).getD k undef = news.getD (k - xs.length * s) undef := by
          simp only [Array.getD_eq_getD_getElem?]
          rw [Array.getElem?_append_left hin, Array.getElem?_append_right (by omega), ho]
        rw [e]; exact this
      · have h5 : news.getD (k - xs.length * s) undef = undef := by
          simp only [Array.size_append] at hin
          rw [Array.getD_eq_getD_getElem?, Array.getElem?_eq_none (by omega)]
          rfl
        -- the source's cells are as many as its row has
        exfalso
        exact absurd hk2 (by
          simp only [Array.size_append] at hin
          have : (zs.flatMap A.cells).length ≤ news.size := by
            apply Nat.le_of_not_lt
            intro hgt
            have hb := h2 news.size _ (List.getElem?_eq_getElem hgt)
            have : (zs.flatMap A.cells)[news.size].one = true := hb.1
            have h6 := hb.2
            rw [Array.getD_eq_getD_getElem?, Array.getElem?_eq_none (Nat.le_refl _)] at h6
            have h7 := h6.one this
            simp [undef, Value.oneCell'] at h7
          omega)

theorem appendA_sound {c : Cx} {w : World} {I : Nat → Prop} {μ : Mu} {H H' : List Ob} (hs : Sim c w I μ H) {t u ty : TypeId} {a b r : A} {x y : Value} (ha : Rel w I μ a x) (hb : Rel w I μ b y) (h : appendA c.P H t u a b = some (r, H')) :
    ∃ v w', (Builtin.append_ #[t, u] ty #[x, y]).run c.P w = .ok v w' ∧ ∃ I' μ', Ext I μ w I' μ' w' ∧ Sim c w' I' μ' H' ∧ Rel w' I' μ' r v := by
  unfold appendA at h
  split at h
  · rename_i e hu
    split at h
    · rename_i s z by' hsz hz hby
      split at h
      · rename_i zs hzs
        obtain ⟨news, hsrc, hnl, hzl, hnr⟩ := srcA_sound hs hb hzs
        split at h
        · rename_i hcond
          obtain ⟨hb0, h3, h4⟩ := hcond
          have hz0 : z.cells.size = s := by rw [← h3]; exact ((rel_ofV (w := w) (I := I) (μ := μ) z).cellsRel h4).1
          -- the row made anew
          have grow : ∀ (xs : List A) (base : Option Addr) (sCap : Nat), Reads w I μ (.slice base xs.length sCap) s xs → sCap < xs.length + zs.length → (xs.length + zs.length) * by' ≤ 140737488355328 →
              ∃ v w', (Builtin.append_ #[t, u] ty #[.slice base xs.length sCap, y]).run c.P w = .ok v w' ∧ ∃ I' μ', Ext I μ w I' μ' w' ∧ Sim c w' I' μ' (H ++ [.arr s (xs ++ zs)]) ∧ Rel w' I' μ' (.osl H.length 0 (xs.length + zs.length)) v := by
            intro xs base sCap hR hg h47
            obtain ⟨_, old, hold, hol, hor⟩ := hR.first (P := c.P) xs.length (Nat.le_refl _)
            rw [List.take_length] at hor
            obtain ⟨_, _, _, hxe, hxl, _⟩ := hR
            have hrun := run_append_grow' (P := c.P) (ty := ty) (base := base) hu hsz hz hby hb0 hsrc hg h47 hold
            have hge := grownCap_ge w (xs.length + zs.length) sCap e
            generalize hcap : grownCap w (xs.length + zs.length) sCap e = cap at hrun hge
            have hm : (μ ++ [some (⟨w.heap.size, cap, s, e⟩ : Loc)])[H.length]? = some (some ⟨w.heap.size, cap, s, e⟩) := by rw [← hs.len]; simp
            generalize hrow : (old ++ news ++ Builtin.zeroCells z.cells (cap - (xs.length + zs.length))) = row at hrun
            have hgr : w.grownBy (w.drew.alloc (.cells row e)) none := ⟨rfl, rfl, rfl, by simp, fun k hk _ => by rw [_root_.Go.heap_alloc_old w.drew _ hk]; rfl⟩
            obtain ⟨hx, hs'⟩ := hs.push hgr (some ⟨w.heap.size, cap, s, e⟩) (.arr s (xs ++ zs)) (fun L hL => by cases hL; simp) (fun hx => by
              have hrr := grow_row (z := z) (cap := cap) hx hz0 hol hnl hge hxl hor hnr
              rw [hrow] at hrr
              refine .inr ⟨_, row, hm, rfl, _root_.Go.heap_alloc_new w.drew _, hrr.1, by simpa using hge, fun q hq => ?_, hrr.2⟩
              rcases List.mem_append.1 hq with hq | hq
              · exact hxl q hq
              · exact hzl q hq)
            refine ⟨_, _, hrun, _, _, hx, hs', ?_⟩
            have := Rel.osl (w := w.drew.alloc (.cells row e)) (I := I) (μ ++ [some (⟨w.heap.size, cap, s, e⟩ : Loc)]) H.length 0 (xs.length + zs.length) cap _ hm (by simp) hge
            simpa using this
          -- nothing to nothing
          have nothing : ∀ (base : Option Addr), zs.length = 0 → ∃ v w', (Builtin.append_ #[t, u] ty #[.slice base 0 0, y]).run c.P w = .ok v w' ∧ ∃ I' μ', Ext I μ w I' μ' w' ∧ Sim c w' I' μ' (H ++ [.arr s zs]) ∧ Rel w' I' μ' (.osl H.length 0 (0 + zs.length)) v := by
            intro base h0
            have hz' : zs = [] := List.eq_nil_of_length_eq_zero h0
            have hn0 : news = #[] := Array.eq_empty_of_size_eq_zero (by rw [hnl, h0]; simp)
            subst hz' hn0
            have hrun := run_append_room' (P := c.P) (ty := ty) (base := base) (sLen := 0) (sCap := 0) hu hsz hsrc (by simp) (w1 := w) (fun a _ => rfl) (fun _ => rfl)
            obtain ⟨hx, hs'⟩ := hs.push (w' := w) ⟨rfl, rfl, rfl, Nat.le_refl _, fun _ _ _ => rfl⟩ none (.arr s []) (fun L hL => by cases hL) (fun hx => .inl ⟨by rw [← hs.len]; simp, rfl⟩)
            exact ⟨_, _, hrun, _, _, hx, hs', .oslZ _ _ _ _⟩
          split at h
          · rename_i xs
            split at h
            · rename_i hc
              obtain ⟨hl, hne, h47⟩ := hc
              cases h
              have hR := elemsA_sound hs (s := s) (xs := xs) ha (by simp [elemsA, hl])
              cases ha with
              | slN _ _ base cap hf =>
                have hc0 := hf rfl
                subst hc0
                simp only [List.length_nil, List.nil_append]
                by_cases h0 : zs.length = 0
                · exact nothing base h0
                · exact grow [] base 0 hR (by simp; omega) h47
              | sl _ _ b off n cap sz _ g hI hn hc hf hsz' h1 hcell hr =>
                subst hn
                have hcap := hf rfl
                by_cases h0 : xs.length = 0
                · have hx0 : xs = [] := List.eq_nil_of_length_eq_zero h0
                  subst hx0
                  simp only [List.length_nil] at hcap
                  subst hcap
                  simp only [List.length_nil, List.nil_append]
                  by_cases h0 : zs.length = 0
                  · exact nothing _ h0
                  · exact grow [] _ 0 hR (by simp; omega) h47
                · exact grow xs _ cap hR (by omega) h47
            · cases h
          · rename_i o off len
            split at h
            · rename_i s' ys ho
              split at h
              · rename_i hc
                obtain ⟨rfl, rfl, hle, h47⟩ := hc
                cases h
                have hR := elemsA_sound hs (s := s') (xs := ys.take len) ha (by simp [elemsA, ho, hle])
                have htl : (ys.take len).length = len := by simp; omega
                have kill : ∀ {r : A} {zs' : List A}, (∃ v w', (Builtin.append_ #[t, u] ty #[x, y]).run c.P w = .ok v w' ∧ ∃ I' μ', Ext I μ w I' μ' w' ∧ Sim c w' I' μ' (H ++ [.arr s' zs']) ∧ Rel w' I' μ' r v) →
                    ∃ v w', (Builtin.append_ #[t, u] ty #[x, y]).run c.P w = .ok v w' ∧ ∃ I' μ', Ext I μ w I' μ' w' ∧ Sim c w' I' μ' (H.set o .dead ++ [.arr s' zs']) ∧ Rel w' I' μ' r v := by
                  intro r zs' ⟨v, w', q1, I', μ', q2, q3, q4⟩
                  refine ⟨v, w', q1, I', μ', q2, ?_, q4⟩
                  have := q3.kill o
                  rwa [List.set_append_left _ _ (List.getElem?_eq_some_iff.1 ho).1] at this
                cases ha with
                | oslZ _ _ _ base =>
                  apply kill
                  simp only [List.take_zero, List.nil_append]
                  by_cases h0 : zs.length = 0
                  · exact nothing base h0
                  · exact grow [] base 0 (by simpa using hR) (by simp; omega) (by simpa using h47)
                | osl _ _ _ _ cap L hL k1 k2 =>
                  by_cases hg : cap < len + zs.length
                  · apply kill
                    have := grow (ys.take len) (some ⟨L.b, 0 * L.sz, none⟩) cap (by rw [htl]; exact hR) (by rw [htl]; exact hg) (by rw [htl]; exact h47)
                    rw [htl] at this
                    exact this
                  · rcases hs.ob o _ ho with ⟨q1, q2⟩ | ⟨L', vs, q1, q2, q3, q4, q5, q6, q7⟩
                    · rw [hL] at q1; cases q1
                    · rw [hL] at q1
                      cases q1
                      subst q2
                      have hcapL : (len + zs.length) * L.sz ≤ L.cap * L.sz := Nat.mul_le_mul_right _ (by omega)
                      rw [Nat.add_mul] at hcapL
                      have hone : ∀ v, v ∈ news.toList → v.oneCell' = true := fun v hv => by
                        obtain ⟨k, hk⟩ := List.mem_iff_getElem?.1 hv
                        have hlt := (List.getElem?_eq_some_iff.1 hk).1
                        have hfz := flat_len hzl
                        have hlt' : k < (zs.flatMap A.cells).length := by simp at hlt; omega
                        obtain ⟨p1, p2⟩ := hnr k _ (List.getElem?_eq_getElem hlt')
                        have e : news.getD k undef = v := by
                          have : news[k]? = some v := by simpa using hk
                          simp [this]
                        rw [e] at p2
                        exact p2.one p1
                      have hst := run_storeCells_at c.P L.b (len * L.sz) L.e news.toList 0 vs w q3 (by simp; omega) hone
                      simp only [Nat.add_zero] at hst
                      have hrun := run_append_room' (P := c.P) (ty := ty) (base := some ⟨L.b, 0 * L.sz, none⟩) (sLen := len) (sCap := cap) hu hsz hsrc (by omega) (fun a ha' => by
                        cases ha'
                        rw [Addr.add_lit, Nat.zero_mul, Nat.zero_add]
                        exact hst) (fun hn => by cases hn)
                      have hm : (μ ++ [some L])[H.length]? = some (some L) := by rw [← hs.len]; simp
                      obtain ⟨hx, hs'⟩ := hs.moved (grownBy_setRow w L.b (vs.toList.take (len * L.sz) ++ news.toList ++ vs.toList.drop (len * L.sz + news.toList.length)).toArray) o _ (.arr L.sz (ys.take len ++ zs)) L L ho rfl hL rfl rfl (fun hx => by
                        refine .inr ⟨L, _, hm, rfl, setRow_heap w L.b vs _ L.e (0, 0) q3, ?_, by simp; omega, fun q hq => ?_, fun k yy hk => ?_⟩
                        · simp; omega
                        · rcases List.mem_append.1 hq with hq | hq
                          · exact q6 q (List.mem_of_mem_take hq)
                          · exact hzl q hq
                        · rw [List.flatMap_append] at hk
                          have hft : ((ys.take len).flatMap A.cells).length = len * L.sz := by rw [flat_len (sz := L.sz) (fun q hq => q6 q (List.mem_of_mem_take hq)), htl]
                          have hget : ∀ (l : List Value), l.toArray.getD k undef = (l[k]?).getD undef := fun l => by simp [Array.getD_eq_getD_getElem?]
                          rw [hget]
                          by_cases hlt : k < len * L.sz
                          · rw [List.getElem?_append_left (by omega)] at hk
                            have h1 := flat_take_drop (l := 0) (n := len) q6 (by simpa using hk)
                            simp only [Nat.zero_mul, Nat.zero_add] at h1
                            refine ⟨(q7 k yy h1).1, ?_⟩
                            rw [List.append_assoc, List.getElem?_append_left (by simp; omega), List.getElem?_take, if_pos hlt]
                            have := hx.rel (q7 k yy h1).2
                            simpa [Array.getD_eq_getD_getElem?] using this
                          · rw [List.getElem?_append_right (by omega), hft] at hk
                            refine ⟨(hnr _ yy hk).1, ?_⟩
                            have hk2 := (List.getElem?_eq_some_iff.1 hk).1
                            have hfz := flat_len hzl
                            rw [List.append_assoc, List.getElem?_append_right (by simp; omega), List.getElem?_append_left (by simp; omega)]
                            have e2 : (vs.toList.take (len * L.sz)).length = len * L.sz := by simp; omega
                            rw [e2]
                            have := hx.rel (hnr _ yy hk).2
                            simpa [Array.getD_eq_getD_getElem?] using this)
                      exact ⟨_, _, hrun, _, _, hx, hs', .osl _ _ _ _ _ L hm (by omega) (by omega)⟩
              · cases h
            · cases h
          · cases h
        · cases h
      · cases h
    · cases h
  · cases h
end Go.Ab
