/-
  The document's trees: what they have at the most, whether they are the same, the Norm.
-/
import Derived.Test.YtigdcnlhgelkaaaD07a
namespace Go.Proofs.Ytigdcnlhgelkaaa
set_option linter.unusedVariables false
set_option linter.unusedSimpArgs false
open Go Go.G Go.Proofs Go.PL

abbrev tL (t : T) : List A := [iv t.kind, uws t.words, tKs t.kids]
section
variable {n0 : Nat} {w0 : World} {I0 : Nat → Prop} {Q : Exit → Sta → Prop}
theorem frame_l1 {t : T} (hl : t.kids.length * 56 ≤ 140737488355328) {H : Hp} (hH : H [0] = ⟨1, .cells (tL t)⟩) : ∀ (m i a b : Nat), i + m = t.kids.length →
    (∀ i' q (x y : Nat), x = max a (frameW (t.kids.drop i)) → y = max b (frameK (t.kids.drop i)) → Q (.exit 0) ⟨lk [(1, .pob [0] 1 0), (4, iv x), (5, iv y), (6, iv i'), (11, bv q)], H⟩) →
    LoopC (cx Try.prog w0 I0 n0) l1_centoref07_Frame Q ⟨lk [(1, .pob [0] 1 0), (4, iv a), (5, iv b), (6, iv i)], H⟩ := by
  intro m
  induction m with
  | zero =>
    intro i a b hi hq
    have : i = t.kids.length := by omega
    subst this
    refine loopC_once mixed l1_centoref07_Frame.eq_1 ?_
    simp [hH]
    exact hq _ false _ _ (by simp [frameW]) (by simp [frameK])
  | succ m ih =>
    intro i a b hi hq
    have hlt : i < t.kids.length := by omega
    have e : t.kids.drop i = t.kids[i] :: t.kids.drop (i + 1) := List.drop_eq_getElem_cons hlt
    have ei : IntKind.i64.wrap ((i : Int) + 1) = ((i + 1 : Nat) : Int) := i64_same (by omega) (by omega)
    refine loopC_once mixed l1_centoref07_Frame.eq_1 ?_
    simp [hH, hlt]
    refine ⟨fun h1 => ?_, fun h1 => ?_⟩
    all_goals
      rw [k1_centoref07_Frame.eq_1]
      simp [hH, hlt, ei]
      refine ⟨fun h2 => ?_, fun h2 => ?_⟩
    · exact ih (i + 1) _ _ (by omega) fun i' q x y hx hy => hq i' q x y (by rw [hx, e, frameW]; omega) (by rw [hy, e, frameK]; omega)
    · exact ih (i + 1) _ _ (by omega) fun i' q x y hx hy => hq i' q x y (by rw [hx, e, frameW]; omega) (by rw [hy, e, frameK]; omega)
    · exact ih (i + 1) _ _ (by omega) fun i' q x y hx hy => hq i' q x y (by rw [hx, e, frameW]; omega) (by rw [hy, e, frameK]; omega)
    · exact ih (i + 1) _ _ (by omega) fun i' q x y hx hy => hq i' q x y (by rw [hx, e, frameW]; omega) (by rw [hy, e, frameK]; omega)
end
theorem rFrame_spec (t : T) (hl : t.kids.length * 56 ≤ 140737488355328) : G.Spec Try.prog 53 [tX t] (.tup [iv (frameW t.kids), iv (frameK t.kids)]) := by
  refine spec_of t_centoref07_Frame (by simp) fun w0 I0 => ?_
  unfold c_centoref07_Frame
  simp
  refine frame_l1 (t := t) hl (by simp) t.kids.length 0 0 0 (by omega) fun i' q x y hx hy => ?_
  simp
  refine frz_is rfl ?_
  simp [hx, hy]

/-! ### the same -/
section
variable {n0 : Nat} {w0 : World} {I0 : Nat → Prop} {Q : Exit → Sta → Prop}
theorem same_l1 {a b : T} (hl : a.kids.length * 56 ≤ 140737488355328) (hn : a.kids.length = b.kids.length) (ih : ∀ c, c ∈ a.kids → ∀ u, G.Spec Try.prog 64 [tX c, tX u] (bv (sameB c u)))
    {H : Hp} (hA : H [0] = ⟨1, .cells (tL a)⟩) (hB : H [1] = ⟨1, .cells (tL b)⟩) : ∀ (m i : Nat), i + m = a.kids.length → a.kids.take i = b.kids.take i → (a.kids = b.kids → ∀ i' q, Q (.exit 0) ⟨lk [(2, .pob [0] 1 0), (3, .pob [1] 1 0), (5, iv i'), (32, bv q)], H⟩) → (a.kids ≠ b.kids → Q .ret ⟨lk [(4, bv false)], H⟩) →
    LoopC (cx Try.prog w0 I0 n0) l1_centoref07_Same Q ⟨lk [(2, .pob [0] 1 0), (3, .pob [1] 1 0), (5, iv i)], H⟩ := by
  intro m
  induction m with
  | zero =>
    intro i hi ht h1 h2
    have : i = a.kids.length := by omega
    subst this
    refine loopC_once mixed l1_centoref07_Same.eq_1 ?_
    simp [hA, hB]
    refine h1 ?_ _ _
    rw [List.take_of_length_le (Nat.le_refl _), List.take_of_length_le (by omega)] at ht
    exact ht
  | succ m ihm =>
    intro i hi ht h1 h2
    have hlt : i < a.kids.length := by omega
    have hlt' : i < b.kids.length := by omega
    refine loopC_once mixed l1_centoref07_Same.eq_1 ?_
    simp [hA, hB, hlt, hlt']
    refine sc_call (ih _ (List.getElem_mem hlt) b.kids[i]) rfl ?_
    simp
    cases hs : sameB a.kids[i] b.kids[i] with
    | false =>
      simp
      refine h2 fun e => ?_
      have : a.kids[i] = b.kids[i] := by simp [e]
      rw [← sameB_iff, hs] at this
      cases this
    | true =>
      simp
      rw [i64_same (by omega) (by omega)]
      refine ihm (i + 1) (by omega) ?_ h1 h2
      rw [List.take_succ_eq_append_getElem hlt, List.take_succ_eq_append_getElem hlt', ht, sameB_iff.1 hs]
end
set_option maxRecDepth 8000 in
theorem rTSame_spec : ∀ (a : T), wfT a → ∀ b : T, G.Spec Try.prog 64 [tX a, tX b] (bv (sameB a b)) := by
  refine T.ind fun k w l ih hw b => ?_
  have hw' := wfT_iff.1 hw
  have hwl := hw'.wl
  have hkl := hw'.kl
  simp at hwl hkl
  refine spec_of t_centoref07_Same (by simp) fun w0 I0 => ?_
  unfold c_centoref07_Same
  have no : (k ≠ b.kind ∨ w ≠ b.words ∨ l ≠ b.kids) → sameB (.mk k w l) b = false := fun h => by
    rw [Bool.eq_false_iff]
    intro e
    have := sameB_iff.1 e
    subst this
    simp at h
  by_cases h1 : k = b.kind
  · by_cases h2 : w = b.words
    · by_cases h3 : l.length = b.kids.length
      · simp [h1]
        refine sc_call_gf rfl (fun _ => rSame_spec w b.words hwl) (fun _ => rfl) rfl ?_
        simp [h2, h3]
        refine same_l1 (a := .mk k w l) (b := b) hkl h3 (fun c hc u => ih c hc (hw'.ks c hc) u) (by simp [h1, h2]) (by simp) l.length 0 (by simp) rfl (fun e i' q => ?_) (fun e => ?_)
        · simp
          have : sameB (.mk k w l) b = true := sameB_iff.2 (T.ext' h1 h2 e)
          rw [← h1, ← h2, this]
          exact frz_bare rfl
        · simp
          rw [← h1, ← h2, no (.inr (.inr e))]
          exact frz_bare rfl
      · simp [h1]
        refine sc_call_gf rfl (fun _ => rSame_spec w b.words hwl) (fun _ => rfl) rfl ?_
        simp [h2, h3]
        refine ⟨fun h => absurd (by omega) h3, fun _ => ?_⟩
        rw [← h1, ← h2, no (.inr (.inr fun e => h3 (by rw [e])))]
        exact frz_bare rfl
    · simp [h1]
      refine sc_call_gf rfl (fun _ => rSame_spec w b.words hwl) (fun _ => rfl) rfl ?_
      simp [h2]
      rw [← h1, no (.inr (.inl h2))]
      exact frz_bare rfl
  · simp [h1]
    refine sc_call_off rfl ?_
    simp
    rw [no (.inl h1)]
    exact frz_bare rfl

/-! ### the Norm -/
theorem tA_ok (t : T) : ((tA t).cells.length == 3 && (tA t).cells.all fun y => A.bare1 y && y.one) = true := by simp
section
variable {n0 : Nat} {w0 : World} {I0 : Nat → Prop} {Q : Exit → Sta → Prop}
theorem norm_l1 {t : T} (hl : t.kids.length * 56 ≤ 140737488355328) (ih : ∀ c, c ∈ t.kids → G.Spec Try.prog 18 [tX c] (tX (norm c))) {v : VOb} : ∀ (m i : Nat) (u : Nat) (H : Hp), i + m = t.kids.length → H [0] = ⟨1, .cells (tL t)⟩ → H [1] = v → H [3] = ⟨u, .arr 3 (((t.kids.take i).map norm).map tA)⟩ →
    (∀ i' q (u' : Nat) (H' : Hp), H' [0] = ⟨1, .cells (tL t)⟩ → H' [1] = v → H' [3] = ⟨u', .arr 3 ((t.kids.map norm).map tA)⟩ → Q (.exit 0) ⟨lk [(1, .pob [0] 1 0), (2, .pob [1] 1 0), (3, .osl [3] u' 3 0 t.kids.length), (4, iv (trimK t.kids).length), (5, iv i'), (16, bv q)], H'⟩) →
    LoopC (cx Try.prog w0 I0 n0) l1_centoref07_Norm Q ⟨lk [(1, .pob [0] 1 0), (2, .pob [1] 1 0), (3, .osl [3] u 3 0 i), (4, iv (trimK (t.kids.take i)).length), (5, iv i)], H⟩ := by
  intro m
  induction m with
  | zero =>
    intro i u H hi hA hR hB hq
    have : i = t.kids.length := by omega
    subst this
    refine loopC_once mixed l1_centoref07_Norm.eq_1 ?_
    simp [hA]
    have := hq t.kids.length false u H hA hR (by rw [hB]; simp)
    simpa using this
  | succ m ihm =>
    intro i u H hi hA hR hB hq
    have hlt : i < t.kids.length := by omega
    refine loopC_once mixed l1_centoref07_Norm.eq_1 ?_
    simp [hA, hlt]
    refine sc_call (ih _ (List.getElem_mem hlt)) rfl ?_
    simp [updF_app, hB]
    have ei : IntKind.i64.wrap ((i : Int) + 1) = ((i + 1 : Nat) : Int) := i64_same (by omega) (by omega)
    have hrow := row_succ (f := tA ∘ norm) hlt (x := A.agg [iv t.kids[i].kind, uws (norm t.kids[i]).words, tKs (norm t.kids[i]).kids]) (by simp)
    rw [hrow]
    refine ⟨⟨by omega, by omega⟩, fun h => ?_, fun h => ?_⟩
    · rw [ei, ← trimK_zero hlt h]
      exact ihm (i + 1) (u + 1) _ (by omega) (by simp [updF_app, hA]) (by simp [updF_app, hR]) (by simp [updF_app]) hq
    · have ek : (trimK (t.kids.take (i + 1))).length = i + 1 := by rw [trimK_stop hlt h]; simp; omega
      rw [ei]
      have := fun H h1 h2 h3 => ihm (i + 1) (u + 1) H (by omega) h1 h2 h3 hq
      rw [ek] at this
      exact this _ (by simp [updF_app, hA]) (by simp [updF_app, hR]) (by simp [updF_app])
end
theorem rNorm_spec : ∀ (t : T), wfT t → G.Spec Try.prog 18 [tX t] (tX (norm t)) := by
  refine T.ind fun k w l ih hw => ?_
  have hw' := wfT_iff.1 hw
  have hwl := hw'.wl
  have hkl := hw'.kl
  simp at hwl hkl
  refine spec_of t_centoref07_Norm (by simp) fun w0 I0 => ?_
  unfold c_centoref07_Norm
  rw [norm_mk]
  by_cases h0 : k = 0
  · simp [h0]
    exact frz_T0
  · simp [h0]
    refine LoopC.le (le_blank 3 [3] 3 (by simp)) ?_
    simp
    refine LoopC.le (le_list [(1, .pob [0] 1 0), (2, .pob [1] 1 0), (3, .osl [3] 1 3 0 0), (4, iv 0), (5, iv 0)] (by simp [upd])) ?_
    refine norm_l1 (t := .mk k w l) (by simpa using hkl) (fun c hc => ih c hc (hw'.ks c hc)) l.length 0 1 _ (by simp) (by simp) rfl (by simp) fun i' q u' H' hA hR hB => ?_
    have hle := trimK_le l
    by_cases h1 : k = 1
    · subst h1
      simp at hA hR hB
      simp [hA, hR, hB, hle, updF_app]
      refine sc_call (rTrim_spec w hwl) rfl ?_
      simp [hA, hR, hB, hle, updF_app]
      refine frz_agg ?_
      simp
      rw [trimK_map]
      refine ⟨frz_bare rfl, frz_bare rfl, ?_⟩
      have := frz_rowT (H := updF H' [1] ⟨1, .cells [A.v (Value.int IntKind.i64 1), A.sl false (List.map uv (trimW w)), A.osl [3] u' 3 0 (trimK l).length]⟩) (o := [3]) (u := u') (sz := 3) (l := l) (f := tA ∘ norm) (by simp [updF_app, hB]) hle (by simp)
      rw [← List.map_take]
      show Frz _ _ (A.sl false (((l.take (trimK l).length).map norm).map tA))
      rw [List.map_map]
      exact this
    · simp at hA hR hB
      simp [hA, hR, hB, h1, updF_app]
      refine ⟨hwl, frz_agg ?_⟩
      simp
      refine ⟨frz_bare rfl, frz_row (by simp [updF_app]) rfl (by simp), ?_⟩
      have := frz_row (H := updF (updF H' [4] { u := (H' [4]).u + 1, ob := Ob.arr 1 (List.map uv w) }) [1] ⟨1, .cells [A.v (Value.int IntKind.i64 k), A.osl [4] ((H' [4]).u + 1) 1 0 w.length, A.osl [3] u' 3 0 l.length]⟩) (o := [3]) (u := u') (sz := 3) (l := l) (f := tA ∘ norm) (by simp [updF_app, hB]) rfl (by simp)
      show Frz _ _ (A.sl false ((l.map norm).map tA))
      rw [List.map_map]
      exact this
theorem rEqual_spec {a b : T} (ha : wfT a) (hb : wfT b) (hn : wfT (norm a)) : G.Spec Try.prog 25 [tX a, tX b] (bv (eqT a b)) := by
  refine spec_of t_centoref07_Equal (by simp) fun w0 I0 => ?_
  unfold c_centoref07_Equal
  simp
  refine sc_call (rNorm_spec a ha) rfl ?_
  simp
  refine sc_call (rNorm_spec b hb) rfl ?_
  simp
  refine sc_call (rTSame_spec (norm a) hn (norm b)) rfl ?_
  simp
  exact frz_bare rfl
end Go.Proofs.Ytigdcnlhgelkaaa
