/-
  copy, into a row of the call's own.
-/
import Derived.Test.YtebihdhapepejaaDoorGAppend2
import Derived.Laws.CopyRow
namespace Go.G
set_option linter.unusedVariables false
set_option linter.unusedSimpArgs false
open Go.RowKit

def copyA (P : Program) (H : Hp) (t : TypeId) (a b : A) : Option (A × Eff) :=
  match P.underlying t with
  | some (.slice e) => match szT P e with
    | some s => match elemsA H s b with
      | some zs => match a with
        | .osl o v sz off len => match getR H o v with
          | some (s', ys) => if s' = s ∧ sz = s ∧ off + len ≤ ys.length then
              some (.v (.int .i64 (min zs.length len : Nat)), .one o ⟨v, .arr s (ys.take off ++ zs.take (min zs.length len) ++ ys.drop (off + min zs.length len))⟩) else none
          | none => none
        | _ => none
      | none => none
    | none => none
  | _ => none

theorem flat_copy {s off n : Nat} {ys zs : List A} (hy : ∀ x, x ∈ ys → x.cells.length = s) (hz : ∀ x, x ∈ zs → x.cells.length = s) (hzl : zs.length = n) (hle : off + n ≤ ys.length) :
    (ys.take off ++ zs ++ ys.drop (off + n)).flatMap A.cells = splice (ys.flatMap A.cells) (off * s) (zs.flatMap A.cells) := by
  have e1 : ((ys.take off).flatMap A.cells).length = off * s := by
    rw [flat_len (sz := s) (fun x hx => hy x (List.mem_of_mem_take hx)), List.length_take, Nat.min_eq_left (by omega)]
  have e2 : ((ys.take (off + n)).flatMap A.cells).length = off * s + n * s := by
    rw [flat_len (sz := s) (fun x hx => hy x (List.mem_of_mem_take hx)), List.length_take, Nat.min_eq_left (by omega), Nat.add_mul]
  have e3 : (zs.flatMap A.cells).length = n * s := by rw [flat_len (sz := s) hz, hzl]
  have h1 : ys.flatMap A.cells = (ys.take off).flatMap A.cells ++ (ys.drop off).flatMap A.cells := by rw [← List.flatMap_append, List.take_append_drop]
  have h2 : ys.flatMap A.cells = (ys.take (off + n)).flatMap A.cells ++ (ys.drop (off + n)).flatMap A.cells := by rw [← List.flatMap_append, List.take_append_drop]
  unfold splice
  rw [e3, List.flatMap_append, List.flatMap_append]
  congr 1
  · congr 1
    conv => rhs; rw [h1]
    rw [List.take_append_of_le_length (by omega), ← e1, List.take_length]
  · conv => rhs; rw [h2]
    rw [List.drop_append_of_le_length (by omega), ← e2, List.drop_length, List.nil_append]

theorem copyA_sound {c : Cx} {w : World} {I : Nat → Prop} {μ : Mu} {H : Hp} (hs : Sim c w I μ H) {t u ty : TypeId} {a b r : A} {x y : Value} {E : Eff} (ha : Rel w I μ a x) (hb : Rel w I μ b y) (h : copyA c.P H t a b = some (r, E)) :
    ∃ v w', (Builtin.copy_ #[t, u] ty #[x, y]).run c.P w = .ok v w' ∧ ∃ I' μ', Ext I μ w I' μ' w' ∧ Sim c w' I' μ' (E.app H) ∧ Rel w' I' μ' r v := by
  unfold copyA at h
  split at h
  · rename_i e hu
    split at h
    · rename_i s hsz
      split at h
      · rename_i zs hzs
        have hR := elemsA_sound hs (s := s) (xs := zs) hb hzs
        split at h
        · rename_i o v sz off len
          split at h
          · rename_i s' ys ho
            split at h
            · rename_i hc
              obtain ⟨rfl, rfl, hle⟩ := hc
              generalize hn : min zs.length len = n at h
              have hn1 : n ≤ zs.length := by omega
              have hn2 : n ≤ len := by omega
              cases h
              obtain ⟨hlen, news, hfirst, hnl, hnr⟩ := hR.first (P := c.P) n hn1
              have hzl : ∀ z, z ∈ zs.take n → z.cells.length = sz := fun z hz => by
                obtain ⟨_, _, _, _, hl, _⟩ := hR
                exact hl z (List.mem_of_mem_take hz)
              obtain ⟨hu', k2, hrow⟩ := hs.row ho
              have hoo : H o = ⟨v, .arr sz ys⟩ := by
                obtain ⟨q1, q2⟩ := getR_some ho
                revert q1 q2
                generalize H o = z
                intro q1 q2
                cases z
                cases q1; cases q2; rfl
              have hpre : ∀ (base : Option Addr) (cap : Nat) (w1 : World), (∀ a, base = some a → (storeCells a news.toList).run c.P w = .ok () w1) → (base = none → w1 = w) → (Builtin.copy_ #[t, u] ty #[.slice base len cap, y]).run c.P w = .ok (.int .i64 (n : Nat)) w1 := fun base cap w1 hst hno => by
                have hf := hfirst w rfl
                cases base with
                | none =>
                  have := hno rfl
                  subst this
                  have hm : Nat.min zs.length len = n := hn
                  simp [Builtin.copy_, run_underlying hu, hlen, run_szT hsz, hm, hf, goInt]
                | some a =>
                  have hm : Nat.min zs.length len = n := hn
                  simp [Builtin.copy_, run_underlying hu, hlen, run_szT hsz, hm, hf, hst a rfl, goInt]
              cases ha with
              | osl _ _ _ _ _ _ base cap g1 g2 g4 g5 g3 =>
                by_cases h0 : n = 0
                · subst h0
                  have hn0 : news = #[] := Array.eq_empty_of_size_eq_zero (by rw [hnl]; simp)
                  subst hn0
                  have e : (Eff.one o ⟨v, .arr sz (ys.take off ++ zs.take 0 ++ ys.drop (off + 0))⟩).app H = H := by
                    rw [app_one]
                    simp only [List.take_zero, List.append_nil, Nat.add_zero, List.take_append_drop]
                    rw [← hoo]
                    funext o'
                    unfold updF
                    split <;> simp_all
                  rw [e]
                  exact ⟨_, w, hpre base cap w (fun a _ => rfl) (fun _ => rfl), I, μ, Ext.refl I μ w, hs, .v _ _⟩
                · obtain ⟨hszo, ⟨hl0, _⟩ | ⟨p1, rfl, p3⟩⟩ := g3 hu'.symm
                  · omega
                  · subst hszo
                    rcases hrow with ⟨q1, q2⟩ | ⟨q1, vs, q3, q4, q5, q6, q7⟩
                    · rw [p1] at q1; cases q1
                    · have hB : hasB (μ o) (H o).ob = true := by rw [(getR_some ho).2]; exact q1
                      have hcapL : (off + n) * (μ o).sz ≤ (μ o).cap * (μ o).sz := Nat.mul_le_mul_right _ (by omega)
                      rw [Nat.add_mul] at hcapL
                      have hfz := flat_len hzl
                      have htl : (zs.take n).length = n := by simp; omega
                      rw [htl] at hfz
                      have hfy := flat_len q6
                      have hyc : ys.length * (μ o).sz ≤ (μ o).cap * (μ o).sz := Nat.mul_le_mul_right _ q5
                      have hoy : (off + n) * (μ o).sz ≤ ys.length * (μ o).sz := Nat.mul_le_mul_right _ (by omega)
                      rw [Nat.add_mul] at hoy
                      have hone : ∀ v, v ∈ news.toList → v.oneCell' = true := fun v hv => by
                        obtain ⟨k, hk⟩ := List.mem_iff_getElem?.1 hv
                        have hlt := (List.getElem?_eq_some_iff.1 hk).1
                        have hlt' : k < ((zs.take n).flatMap A.cells).length := by simp at hlt; omega
                        obtain ⟨p1, p2⟩ := hnr k _ (List.getElem?_eq_getElem hlt')
                        have e : news.getD k undef = v := by
                          have : news[k]? = some v := by simpa using hk
                          simp [this]
                        rw [e] at p2
                        exact p2.one p1
                      have hst := run_storeCells_at c.P (μ o).b (off * (μ o).sz) (μ o).e news.toList 0 vs w q3 (by simp; omega) hone
                      simp only [Nat.add_zero] at hst
                      obtain ⟨hx, hs'⟩ := hs.upd (grownBy_setRow w (μ o).b (vs.toList.take (off * (μ o).sz) ++ news.toList ++ vs.toList.drop (off * (μ o).sz + news.toList.length)).toArray) o (μ o) (.arr (μ o).sz (ys.take off ++ zs.take n ++ ys.drop (off + n))) (.inr ⟨rfl, hB⟩) (.inr rfl) (fun _ => .inr ⟨hB, rfl⟩) (fun _ => hs.tag _ hB) (fun hx => by
                        refine ⟨rfl, .inr ⟨q1, _, setRow_heap w (μ o).b vs _ (μ o).e (0, 0) q3, ?_, ?_, ?_, ?_⟩⟩
                        · simp; omega
                        · simp; omega
                        · intro z hz
                          rcases List.mem_append.1 hz with hz | hz
                          · rcases List.mem_append.1 hz with hz | hz
                            · exact q6 z (List.mem_of_mem_take hz)
                            · exact hzl z hz
                          · exact q6 z (List.mem_of_mem_drop hz)
                        · rw [flat_copy q6 hzl htl (by omega)]
                          have := splice_rel (Q := fun y v => y.one = true ∧ Rel w I μ y v) q7 (by omega) hnr (by omega) (p := off * (μ o).sz) (by omega)
                          exact fun k y hk => ⟨(this k y hk).1, hx.rel (this k y hk).2⟩)
                      rw [updM_self, hu'] at hs'
                      rw [updM_self] at hx
                      exact ⟨_, _, hpre _ cap _ (fun a ha' => by cases ha'; exact hst) (fun hn => by cases hn), _, _, hx, by rw [app_one]; exact hs', .v _ _⟩
            · cases h
          · cases h
        · cases h
      · cases h
    · cases h
  · cases h

/-! ### clear, of a row of the call's own -/
def clearA (P : Program) (H : Hp) (t : TypeId) (a : A) : Option (A × Eff) :=
  match P.underlying t with
  | some (.slice e) => match szT P e, zeroT P e with
    | some s, some z => match a with
      | .osl o v sz off len => match getR H o v with
        | some (s', ys) => if s' = s ∧ sz = s ∧ off + len ≤ ys.length ∧ (ofV z).cells.length = s ∧ A.ones (ofV z).cells = true then
            some (.any, .one o ⟨v, .arr s (ys.take off ++ List.replicate len (ofV z) ++ ys.drop (off + len))⟩) else none
        | none => none
      | _ => none
    | _, _ => none
  | _ => none

theorem clearA_sound {c : Cx} {w : World} {I : Nat → Prop} {μ : Mu} {H : Hp} (hs : Sim c w I μ H) {t ty : TypeId} {a r : A} {x : Value} {E : Eff} (ha : Rel w I μ a x) (h : clearA c.P H t a = some (r, E)) :
    ∃ v w', (Builtin.clear_ #[t] ty #[x]).run c.P w = .ok v w' ∧ ∃ I' μ', Ext I μ w I' μ' w' ∧ Sim c w' I' μ' (E.app H) ∧ Rel w' I' μ' r v := by
  unfold clearA at h
  split at h
  · rename_i e hu
    split at h
    · rename_i s z hsz hz
      split at h
      · rename_i o v sz off len
        split at h
        · rename_i s' ys ho
          split at h
          · rename_i hc
            obtain ⟨rfl, rfl, hle, hzc, hz1⟩ := hc
            cases h
            generalize hnews : Builtin.zeroCells z.cells len = news
            have hzz : z.cells.size = sz := ((rel_ofV (w := w) (I := I) (μ := μ) z).cellsRel hz1).1.trans hzc
            have hnl : news.size = len * sz := by rw [← hnews]; simp [Builtin.zeroCells, hzz]
            have hnr := rel_zero_row (w := w) (I := I) (μ := μ) hz1 hzc (Nat.le_refl _) (N := len * sz) (f := fun k => news.getD k undef) (fun k hk => by rw [← hnews]; simp [Builtin.zeroCells, hzz, hk])
            have hzl : ∀ q, q ∈ List.replicate len (ofV z) → q.cells.length = sz := fun q hq => by rw [List.eq_of_mem_replicate hq]; exact hzc
            obtain ⟨hu', k2, hrow⟩ := hs.row ho
            have hoo : H o = ⟨v, .arr sz ys⟩ := by
              obtain ⟨q1, q2⟩ := getR_some ho
              revert q1 q2
              generalize H o = z
              intro q1 q2
              cases z
              cases q1; cases q2; rfl
            cases ha with
            | osl _ _ _ _ _ _ base cap g1 g2 g4 g5 g3 =>
              by_cases h0 : len = 0
              · subst h0
                have e : (Eff.one o ⟨v, .arr sz (ys.take off ++ List.replicate 0 (ofV z) ++ ys.drop (off + 0))⟩).app H = H := by
                  rw [app_one]
                  simp only [List.replicate_zero, List.append_nil, Nat.add_zero, List.take_append_drop]
                  rw [← hoo]
                  funext o'
                  unfold updF
                  split <;> simp_all
                rw [e]
                refine ⟨.tuple #[], w, ?_, I, μ, Ext.refl I μ w, hs, .any _ _⟩
                cases base <;> simp [Builtin.clear_, run_underlying hu]
              · obtain ⟨hszo, ⟨hl0, _⟩ | ⟨p1, rfl, p3⟩⟩ := g3 hu'.symm
                · omega
                · subst hszo
                  rcases hrow with ⟨q1, q2⟩ | ⟨q1, vs, q3, q4, q5, q6, q7⟩
                  · rw [p1] at q1; cases q1
                  · have hB : hasB (μ o) (H o).ob = true := by rw [(getR_some ho).2]; exact q1
                    have hcapL : (off + len) * (μ o).sz ≤ (μ o).cap * (μ o).sz := Nat.mul_le_mul_right _ (by omega)
                    rw [Nat.add_mul] at hcapL
                    have hfz := flat_len hzl
                    have htl : (List.replicate len (ofV z)).length = len := by simp
                    rw [htl] at hfz
                    have hfy := flat_len q6
                    have hyc : ys.length * (μ o).sz ≤ (μ o).cap * (μ o).sz := Nat.mul_le_mul_right _ q5
                    have hoy : (off + len) * (μ o).sz ≤ ys.length * (μ o).sz := Nat.mul_le_mul_right _ (by omega)
                    rw [Nat.add_mul] at hoy
                    have hone : ∀ v, v ∈ news.toList → v.oneCell' = true := fun v hv => by
                      obtain ⟨k, hk⟩ := List.mem_iff_getElem?.1 hv
                      have hlt := (List.getElem?_eq_some_iff.1 hk).1
                      have hlt' : k < ((List.replicate len (ofV z)).flatMap A.cells).length := by simp at hlt; omega
                      obtain ⟨p1, p2⟩ := hnr k _ (List.getElem?_eq_getElem hlt')
                      have e : news.getD k undef = v := by
                        have : news[k]? = some v := by simpa using hk
                        simp [this]
                      rw [e] at p2
                      exact p2.one p1
                    have hst := run_storeCells_at c.P (μ o).b (off * (μ o).sz) (μ o).e news.toList 0 vs w q3 (by simp; omega) hone
                    simp only [Nat.add_zero] at hst
                    obtain ⟨hx, hs'⟩ := hs.upd (grownBy_setRow w (μ o).b (vs.toList.take (off * (μ o).sz) ++ news.toList ++ vs.toList.drop (off * (μ o).sz + news.toList.length)).toArray) o (μ o) (.arr (μ o).sz (ys.take off ++ List.replicate len (ofV z) ++ ys.drop (off + len))) (.inr ⟨rfl, hB⟩) (.inr rfl) (fun _ => .inr ⟨hB, rfl⟩) (fun _ => hs.tag _ hB) (fun hx => by
                      refine ⟨rfl, .inr ⟨q1, _, setRow_heap w (μ o).b vs _ (μ o).e (0, 0) q3, ?_, ?_, ?_, ?_⟩⟩
                      · simp; omega
                      · simp; omega
                      · intro z hz
                        rcases List.mem_append.1 hz with hz | hz
                        · rcases List.mem_append.1 hz with hz | hz
                          · exact q6 z (List.mem_of_mem_take hz)
                          · exact hzl z hz
                        · exact q6 z (List.mem_of_mem_drop hz)
                      · rw [flat_copy q6 hzl htl (by omega)]
                        have := splice_rel (Q := fun y v => y.one = true ∧ Rel w I μ y v) q7 (by omega) hnr (by omega) (p := off * (μ o).sz) (by omega)
                        exact fun k y hk => ⟨(this k y hk).1, hx.rel (this k y hk).2⟩)
                    rw [updM_self, hu'] at hs'
                    rw [updM_self] at hx
                    refine ⟨.tuple #[], _, ?_, _, _, hx, by rw [app_one]; exact hs', .any _ _⟩
                    simp [Builtin.clear_, run_underlying hu, h0, run_zeroT hz, hnews, hst]
          · cases h
        · cases h
      · cases h
    · cases h
  · cases h

end Go.G
