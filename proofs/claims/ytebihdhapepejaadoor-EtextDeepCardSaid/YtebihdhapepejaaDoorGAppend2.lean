/-
  append and copy: the rules.
-/
import Derived.Test.YtebihdhapepejaaDoorGAppend
namespace Go.G
set_option linter.unusedVariables false
set_option linter.unusedSimpArgs false
open Go.RowKit

def appendA (P : Program) (H : Hp) (d : Nm) (t u : TypeId) (base x : A) : Option (A × Eff) :=
  match P.underlying t with
  | some (.slice e) => match szT P e, zeroT P e, bytesT P e with
    | some s, some z, some b => match srcA P H s e u x with
      | some zs =>
        if 0 < b ∧ (ofV z).cells.length = s ∧ A.ones (ofV z).cells = true then
          match base with
          | .sl true xs => if lens s xs = true ∧ (xs.length = 0 ∨ 0 < zs.length) ∧ (xs.length + zs.length) * b ≤ 140737488355328 ∧ tagOK d e = true then some (.osl d ((H d).u + 1) s 0 (xs.length + zs.length), .one d ⟨(H d).u + 1, .arr s (xs ++ zs)⟩) else none
          | .osl o u' sz off len => match getR H o u' with
            | some (s', ys) => if off = 0 ∧ s' = s ∧ sz = s ∧ len ≤ ys.length ∧ (len + zs.length) * b ≤ 140737488355328 ∧ tagOK o e = true then some (.osl o (u' + 1) s 0 (len + zs.length), .one o ⟨u' + 1, .arr s (ys.take len ++ zs)⟩) else none
            | none => none
          | .sl false xs => if zs.length = 0 then some (.sl false xs, .nil) else none
          | _ => none
        else none
      | none => none
    | _, _, _ => none
  | _ => none

/-- The row that append makes anew. -/
theorem grow_row {w w' : World} {I I' : Nat → Prop} {μ μ' : Mu} {s cap : Nat} {xs zs : List A} {old news : Array Value} {z : Value} (hx : Ext I μ w I' μ' w') (hz : z.cells.size = s) (ho : old.size = xs.length * s) (hn : news.size = zs.length * s) (hcap : xs.length + zs.length ≤ cap)
    (hxl : ∀ x, x ∈ xs → x.cells.length = s) (h1 : ∀ (k : Nat) (y : A), (xs.flatMap A.cells)[k]? = some y → y.one = true ∧ Rel w I μ y (old.getD k undef))
    (h2 : ∀ (k : Nat) (y : A), (zs.flatMap A.cells)[k]? = some y → y.one = true ∧ Rel w I μ y (news.getD k undef)) :
    (old ++ news ++ Builtin.zeroCells z.cells (cap - (xs.length + zs.length))).size = cap * s ∧
    ∀ (k : Nat) (y : A), ((xs ++ zs).flatMap A.cells)[k]? = some y → y.one = true ∧ Rel w' I' μ' y ((old ++ news ++ Builtin.zeroCells z.cells (cap - (xs.length + zs.length))).getD k undef) := by
  constructor
  · simp only [Array.size_append, size_zeroCells, hz, ho, hn, ← Nat.add_mul]
    congr 1
    omega
  · intro k y hk
    rw [List.flatMap_append] at hk
    have hfl := flat_len hxl
    by_cases hlt : k < xs.length * s
    · rw [List.getElem?_append_left (by omega)] at hk
      refine ⟨(h1 k y hk).1, hx.rel ?_⟩
      have := (h1 k y hk).2
      have e : (old ++ news ++ Builtin.zeroCells z.cells (cap - (xs.length + zs.length))).getD k undef = old.getD k undef := by
        have h3 : k < old.size := by omega
        rw [Array.append_assoc]
        simp [Array.getD_eq_getD_getElem?, Array.getElem?_append_left h3]
      rw [e]; exact this
    · rw [List.getElem?_append_right (by omega), hfl] at hk
      refine ⟨(h2 _ y hk).1, hx.rel ?_⟩
      have := (h2 _ y hk).2
      have hk2 := (List.getElem?_eq_some_iff.1 hk).1
      by_cases hin : k < (old ++ news).size
      · have e : (old ++ news ++ Builtin.zeroCells z.cells (cap - (xs.length + zs.length))).getD k undef = news.getD (k - xs.length * s) undef := by
          simp only [Array.getD_eq_getD_getElem?]
          rw [Array.getElem?_append_left hin, Array.getElem?_append_right (by omega), ho]
        rw [e]; exact this
      · have h5 : news.getD (k - xs.length * s) undef = undef := by
          simp only [Array.size_append] at hin
          rw [Array.getD_eq_getD_getElem?, Array.getElem?_eq_none (by omega)]
          rfl
        -- the source's cells are as many as its row has
        exfalso
        exact absurd hk2 (by
          simp only [Array.size_append] at hin
          have : (zs.flatMap A.cells).length ≤ news.size := by
            apply Nat.le_of_not_lt
            intro hgt
            have hb := h2 news.size _ (List.getElem?_eq_getElem hgt)
            have : (zs.flatMap A.cells)[news.size].one = true := hb.1
            have h6 := hb.2
            rw [Array.getD_eq_getD_getElem?, Array.getElem?_eq_none (Nat.le_refl _)] at h6
            have h7 := h6.one this
            simp [undef, Value.oneCell'] at h7
          omega)

theorem appendA_sound {c : Cx} {w : World} {I : Nat → Prop} {μ : Mu} {H : Hp} (hs : Sim c w I μ H) {d : Nm} {t u ty : TypeId} {a b r : A} {x y : Value} {E : Eff} (ha : Rel w I μ a x) (hb : Rel w I μ b y) (h : appendA c.P H d t u a b = some (r, E)) :
    ∃ v w', (Builtin.append_ #[t, u] ty #[x, y]).run c.P w = .ok v w' ∧ ∃ I' μ', Ext I μ w I' μ' w' ∧ Sim c w' I' μ' (E.app H) ∧ Rel w' I' μ' r v := by
  unfold appendA at h
  split at h
  · rename_i e hu
    split at h
    · rename_i s z by' hsz hz hby
      split at h
      · rename_i zs hzs
        obtain ⟨news, hsrc, hnl, hzl, hnr⟩ := srcA_sound hs hb hzs
        split at h
        · rename_i hcond
          obtain ⟨hb0, h3, h4⟩ := hcond
          have hz0 : z.cells.size = s := by rw [← h3]; exact ((rel_ofV (w := w) (I := I) (μ := μ) z).cellsRel h4).1
          -- the row made anew
          have grow : ∀ (d : Nm) (xs : List A) (base : Option Addr) (sCap : Nat), Reads w I μ (.slice base xs.length sCap) s xs → sCap < xs.length + zs.length → (xs.length + zs.length) * by' ≤ 140737488355328 → tagOK d e = true →
              ∃ v w', (Builtin.append_ #[t, u] ty #[.slice base xs.length sCap, y]).run c.P w = .ok v w' ∧ ∃ I' μ', Ext I μ w I' μ' w' ∧ Sim c w' I' μ' (updF H d ⟨(H d).u + 1, .arr s (xs ++ zs)⟩) ∧ Rel w' I' μ' (.osl d ((H d).u + 1) s 0 (xs.length + zs.length)) v := by
            intro d xs base sCap hR hg h47 htg
            obtain ⟨_, old, hold, hol, hor⟩ := hR.first (P := c.P) xs.length (Nat.le_refl _)
            rw [List.take_length] at hor
            obtain ⟨_, _, _, hxe, hxl, _⟩ := hR
            have hrun := run_append_grow' (P := c.P) (ty := ty) (base := base) hu hsz hz hby hb0 hsrc hg h47 hold
            have hge := grownCap_ge w (xs.length + zs.length) sCap e
            generalize hcap : grownCap w (xs.length + zs.length) sCap e = cap at hrun hge
            generalize hrow : (old ++ news ++ Builtin.zeroCells z.cells (cap - (xs.length + zs.length))) = row at hrun
            have hgr : w.grownBy (w.drew.alloc (.cells row e)) none := ⟨rfl, rfl, rfl, by simp, fun k hk _ => by rw [_root_.Go.heap_alloc_old w.drew _ hk]; rfl⟩
            have hrs : row.size = cap * s := by
              rw [← hrow]
              simp only [Array.size_append, size_zeroCells, hz0, hol, hnl, ← Nat.add_mul]
              congr 1
              omega
            obtain ⟨I', μ', q1, q2, q3⟩ := new_row hs d e cap s row (xs ++ zs) hgr (_root_.Go.heap_alloc_new w.drew _) (by simp) hrs (by simpa using hge) (fun q hq => by
              rcases List.mem_append.1 hq with hq | hq
              · exact hxl q hq
              · exact hzl q hq) (fun hx => by
              have hrr := grow_row (z := z) (cap := cap) hx hz0 hol hnl hge hxl hor hnr
              rw [hrow] at hrr
              exact hrr.2) hge htg
            exact ⟨_, _, hrun, I', μ', q1, q2, q3⟩
          -- nothing to nothing
          have nothing : ∀ (d : Nm) (base : Option Addr), zs.length = 0 → ∃ v w', (Builtin.append_ #[t, u] ty #[.slice base 0 0, y]).run c.P w = .ok v w' ∧ ∃ I' μ', Ext I μ w I' μ' w' ∧ Sim c w' I' μ' (updF H d ⟨(H d).u + 1, .arr s zs⟩) ∧ Rel w' I' μ' (.osl d ((H d).u + 1) s 0 (0 + zs.length)) v := by
            intro d base h0
            have hz' : zs = [] := List.eq_nil_of_length_eq_zero h0
            have hn0 : news = #[] := Array.eq_empty_of_size_eq_zero (by rw [hnl, h0]; simp)
            subst hz' hn0
            have hrun := run_append_room' (P := c.P) (ty := ty) (base := base) (sLen := 0) (sCap := 0) hu hsz hsrc (by simp) (w1 := w) (fun a _ => rfl) (fun _ => rfl)
            obtain ⟨hx, hs'⟩ := hs.upd (grownBy_refl w none) d ⟨(H d).u + 1, false, 0, 0, s, e⟩ (.arr s []) (.inl rfl) (.inl (by rw [hs.ver]; exact Nat.lt_succ_self _)) (fun h => nomatch h) (fun h => nomatch h) (fun hx => ⟨rfl, .inl ⟨rfl, rfl⟩⟩)
            exact ⟨_, _, hrun, _, _, hx, hs', .osl _ _ _ _ _ _ _ _ (by omega) (by simp) (Nat.le_refl _) (fun h => by omega) (fun _ => by simp)⟩
          split at h
          · rename_i xs
            split at h
            · rename_i hc
              obtain ⟨hl, hne, h47, htg⟩ := hc
              cases h
              have hR := elemsA_sound hs (s := s) (xs := xs) ha (by simp [elemsA, hl])
              cases ha with
              | slN _ _ base cap hf =>
                have hc0 := hf rfl
                subst hc0
                simp only [List.length_nil, List.nil_append, app_one]
                by_cases h0 : zs.length = 0
                · exact nothing d base h0
                · exact grow d [] base 0 hR (by simp; omega) h47 htg
              | sl _ _ b off n cap sz _ g hI hn hc hf hsz' h1 hcell hr =>
                subst hn
                have hcap := hf rfl
                by_cases h0 : xs.length = 0
                · have hx0 : xs = [] := List.eq_nil_of_length_eq_zero h0
                  subst hx0
                  simp only [List.length_nil] at hcap
                  subst hcap
                  simp only [List.length_nil, List.nil_append, app_one]
                  by_cases h0 : zs.length = 0
                  · exact nothing d _ h0
                  · exact grow d [] _ 0 hR (by simp; omega) h47 htg
                · exact grow d xs _ cap hR (by omega) h47 htg
            · cases h
          · rename_i o u' sz off len
            split at h
            · rename_i s' ys ho
              split at h
              · rename_i hc
                obtain ⟨rfl, rfl, rfl, hle, h47, htg⟩ := hc
                cases h
                have hR := elemsA_sound hs (s := sz) (xs := ys.take len) ha (by simp [elemsA, ho, hle])
                have htl : (ys.take len).length = len := by simp; omega
                obtain ⟨hu', k2, hrow⟩ := hs.row ho
                have hver := (getR_some ho).1
                cases ha with
                | osl _ _ _ _ _ _ base cap g1 g2 g4 g5 g3 =>
                  obtain ⟨_, hcur⟩ := g3 hu'.symm
                  by_cases hg : cap < len + zs.length
                  · have := grow o (ys.take len) base cap (by rw [htl]; exact hR) (by rw [htl]; exact hg) (by rw [htl]; exact h47) htg
                    rw [htl, hver] at this
                    exact this
                  · rcases hcur with ⟨rfl, rfl⟩ | ⟨p1, rfl, p3⟩
                    · have := nothing o base (by omega)
                      rw [hver] at this
                      simpa using this
                    · rcases hrow with ⟨q1, q2⟩ | ⟨q1, vs, q3, q4, q5, q6, q7⟩
                      · rw [p1] at q1; cases q1
                      · subst k2
                        have hB : hasB (μ o) (H o).ob = true := by rw [(getR_some ho).2]; exact q1
                        have hcapL : (len + zs.length) * (μ o).sz ≤ (μ o).cap * (μ o).sz := Nat.mul_le_mul_right _ (by omega)
                        rw [Nat.add_mul] at hcapL
                        have hone : ∀ v, v ∈ news.toList → v.oneCell' = true := fun v hv => by
                          obtain ⟨k, hk⟩ := List.mem_iff_getElem?.1 hv
                          have hlt := (List.getElem?_eq_some_iff.1 hk).1
                          have hfz := flat_len hzl
                          have hlt' : k < (zs.flatMap A.cells).length := by simp at hlt; omega
                          obtain ⟨p1, p2⟩ := hnr k _ (List.getElem?_eq_getElem hlt')
                          have e : news.getD k undef = v := by
                            have : news[k]? = some v := by simpa using hk
                            simp [this]
                          rw [e] at p2
                          exact p2.one p1
                        have hst := run_storeCells_at c.P (μ o).b (len * (μ o).sz) (μ o).e news.toList 0 vs w q3 (by simp; omega) hone
                        simp only [Nat.add_zero] at hst
                        have hrun := run_append_room' (P := c.P) (ty := ty) (base := some ⟨(μ o).b, 0 * (μ o).sz, none⟩) (sLen := len) (sCap := cap) hu hsz hsrc (by omega) (fun a ha' => by
                          cases ha'
                          rw [Addr.add_lit, Nat.zero_mul, Nat.zero_add]
                          exact hst) (fun hn => by cases hn)
                        obtain ⟨hx, hs'⟩ := hs.upd (grownBy_setRow w (μ o).b (vs.toList.take (len * (μ o).sz) ++ news.toList ++ vs.toList.drop (len * (μ o).sz + news.toList.length)).toArray) o { μ o with u := u' + 1 } (.arr (μ o).sz (ys.take len ++ zs)) (.inr ⟨rfl, hB⟩) (.inl (by rw [hu']; exact Nat.lt_succ_self _)) (fun _ => .inr ⟨hB, rfl⟩) (fun _ => hs.tag _ hB) (fun hx => by
                          refine ⟨rfl, .inr ⟨p1, _, setRow_heap w (μ o).b vs _ (μ o).e (0, 0) q3, ?_, by simp; omega, fun q hq => ?_, fun k yy hk => ?_⟩⟩
                          · simp; omega
                          · rcases List.mem_append.1 hq with hq | hq
                            · exact q6 q (List.mem_of_mem_take hq)
                            · exact hzl q hq
                          · rw [List.flatMap_append] at hk
                            have hft : ((ys.take len).flatMap A.cells).length = len * (μ o).sz := by rw [flat_len (sz := (μ o).sz) (fun q hq => q6 q (List.mem_of_mem_take hq)), htl]
                            have hget : ∀ (l : List Value), l.toArray.getD k undef = (l[k]?).getD undef := fun l => by simp [Array.getD_eq_getD_getElem?]
                            rw [hget]
                            by_cases hlt : k < len * (μ o).sz
                            · rw [List.getElem?_append_left (by omega)] at hk
                              have h1 := flat_take_drop (l := 0) (n := len) q6 (by simpa using hk)
                              simp only [Nat.zero_mul, Nat.zero_add] at h1
                              refine ⟨(q7 k yy h1).1, ?_⟩
                              rw [List.append_assoc, List.getElem?_append_left (by simp; omega), List.getElem?_take, if_pos hlt]
                              have := hx.rel (q7 k yy h1).2
                              simpa [Array.getD_eq_getD_getElem?] using this
                            · rw [List.getElem?_append_right (by omega), hft] at hk
                              refine ⟨(hnr _ yy hk).1, ?_⟩
                              have hk2 := (List.getElem?_eq_some_iff.1 hk).1
                              have hfz := flat_len hzl
                              rw [List.append_assoc, List.getElem?_append_right (by simp; omega), List.getElem?_append_left (by simp; omega)]
                              have e2 : (vs.toList.take (len * (μ o).sz)).length = len * (μ o).sz := by simp; omega
                              rw [e2]
                              have := hx.rel (hnr _ yy hk).2
                              simpa [Array.getD_eq_getD_getElem?] using this)
                        exact ⟨_, _, hrun, _, _, hx, hs', .osl _ _ _ _ _ _ _ _ (by omega) (by simp) (by omega) g5 (fun _ => by simp; exact .inr ⟨p1, by omega⟩)⟩
              · cases h
            · cases h
          · rename_i xs
            split at h
            · rename_i h0
              cases h
              have hz' : zs = [] := List.eq_nil_of_length_eq_zero h0
              have hn0 : news = #[] := Array.eq_empty_of_size_eq_zero (by rw [hnl, h0]; simp)
              subst hz' hn0
              cases ha with
              | slN _ _ base cap hf =>
                have hrun := run_append_room' (P := c.P) (ty := ty) (base := base) (sLen := 0) (sCap := cap) hu hsz hsrc (by simp) (w1 := w) (fun a _ => rfl) (fun _ => rfl)
                exact ⟨_, _, hrun, I, μ, Ext.refl I μ w, hs, .slN _ _ base cap hf⟩
              | sl _ _ b off n cap sz _ g hI hn hc hf hsz' h1 hcell hr =>
                have hrun := run_append_room' (P := c.P) (ty := ty) (base := some ⟨b, off, none⟩) (sLen := xs.length) (sCap := cap) hu hsz hsrc (by simp; omega) (w1 := w) (fun a _ => rfl) (fun _ => rfl)
                subst hn
                exact ⟨_, _, hrun, I, μ, Ext.refl I μ w, hs, .sl _ _ b off _ cap sz _ g hI rfl hc hf hsz' h1 hcell hr⟩
            · cases h
          · cases h
        · cases h
      · cases h
    · cases h
  · cases h
end Go.G
