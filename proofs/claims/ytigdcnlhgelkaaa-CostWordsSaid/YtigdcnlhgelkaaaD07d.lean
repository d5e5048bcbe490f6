/-
  The program's trees: the Norm, and how many words they take.
-/
import Derived.Test.YtigdcnlhgelkaaaD07c
namespace Go.Proofs.Ytigdcnlhgelkaaa
set_option linter.unusedVariables false
set_option linter.unusedSimpArgs false
open Go Go.G Go.Proofs Go.PL

section
variable {n0 : Nat} {w0 : World} {I0 : Nat → Prop} {Q : Exit → Sta → Prop}
theorem tframe_l1 {l : List T} (hl : l.length * 56 ≤ 140737488355328) : ∀ (m i a b : Nat) (H : Hp), i + m = l.length →
    (∀ i' q (x y : Nat) H', x = max a (frameW (l.drop i)) → y = max b (frameK (l.drop i)) → Q (.exit 0) ⟨lk [(4, iv x), (5, iv y), (9, tKs l), (10, iv l.length), (11, iv i'), (12, bv q)], H'⟩) →
    LoopC (cx Try.prog w0 I0 n0) l1_tree_Frame Q ⟨lk [(4, iv a), (5, iv b), (9, tKs l), (10, iv l.length), (11, iv i)], H⟩ := by
  intro m
  induction m with
  | zero =>
    intro i a b H hi hq
    have : i = l.length := by omega
    subst this
    refine loopC_once mixed l1_tree_Frame.eq_1 ?_
    simp
    exact hq _ false _ _ _ (by simp [frameW]) (by simp [frameK])
  | succ m ih =>
    intro i a b H hi hq
    have hlt : i < l.length := by omega
    have e : l.drop i = l[i] :: l.drop (i + 1) := List.drop_eq_getElem_cons hlt
    have ei : IntKind.i64.wrap ((i : Int) + 1) = ((i + 1 : Nat) : Int) := i64_same (by omega) (by omega)
    refine loopC_once mixed l1_tree_Frame.eq_1 ?_
    simp [hlt, ei]
    have em : ∀ (x y : Nat), max (x : Int) (y : Int) = ((max x y : Nat) : Int) := fun x y => by omega
    rw [em, em]
    exact ih (i + 1) _ _ _ (by omega) fun i' q x y H' hx hy => hq i' q x y H' (by rw [hx, e, frameW]; omega) (by rw [hy, e, frameK]; omega)
end
theorem tFrame_spec (t : T) (hl : t.kids.length * 56 ≤ 140737488355328) : G.Spec Try.prog 152 [tX t] (.tup [iv (frameW t.kids), iv (frameK t.kids)]) := by
  refine spec_of t_tree_Frame (by simp) fun w0 I0 => ?_
  unfold c_tree_Frame
  simp
  refine tframe_l1 hl t.kids.length 0 0 0 _ (by omega) fun i' q x y H' hx hy => ?_
  simp
  refine frz_is rfl ?_
  simp [hx, hy]

/-! ### the Norm -/
section
variable {n0 : Nat} {w0 : World} {I0 : Nat → Prop} {Q : Exit → Sta → Prop}
theorem tnorm_l1 {t : T} (hl : t.kids.length * 56 ≤ 140737488355328) (ih : ∀ c, c ∈ t.kids → G.Spec Try.prog 141 [tX c] (tX (norm c))) {v v0 : VOb} {k w : A} : ∀ (m i : Nat) (u : Nat) (H : Hp), i + m = t.kids.length → H [0] = v0 → H [1] = v → H [2] = ⟨1, .cells [k, w, .osl [4] u 3 0 i]⟩ → H [4] = ⟨u, .arr 3 ((t.kids.take i).map (tA ∘ norm))⟩ →
    (∀ i' q (u' : Nat) (H' : Hp), H' [0] = v0 → H' [1] = v → H' [2] = ⟨1, .cells [k, w, .osl [4] u' 3 0 t.kids.length]⟩ → H' [4] = ⟨u', .arr 3 (t.kids.map (tA ∘ norm))⟩ → Q (.exit 0) ⟨lk [(1, .pob [0] 1 0), (2, .pob [1] 1 0), (3, .pob [2] 1 0), (17, tKs t.kids), (18, iv t.kids.length), (19, iv i'), (20, bv q)], H'⟩) →
    LoopC (cx Try.prog w0 I0 n0) l1_tree_Norm Q ⟨lk [(1, .pob [0] 1 0), (2, .pob [1] 1 0), (3, .pob [2] 1 0), (17, tKs t.kids), (18, iv t.kids.length), (19, iv i)], H⟩ := by
  intro m
  induction m with
  | zero =>
    intro i u H hi hA hR hO hB hq
    have : i = t.kids.length := by omega
    subst this
    refine loopC_once mixed l1_tree_Norm.eq_1 ?_
    simp
    exact hq _ _ u H hA hR hO (by rw [hB]; simp)
  | succ m ihm =>
    intro i u H hi hA hR hO hB hq
    have hlt : i < t.kids.length := by omega
    have ei : IntKind.i64.wrap ((i : Int) + 1) = ((i + 1 : Nat) : Int) := i64_same (by omega) (by omega)
    refine loopC_once mixed l1_tree_Norm.eq_1 ?_
    simp [hlt, updF_app, hO]
    refine sc_call (ih _ (List.getElem_mem hlt)) rfl ?_
    simp [updF_app, hO, hB]
    have hrow := row_succ (f := tA ∘ norm) hlt (x := tX (norm t.kids[i])) (by simp)
    rw [hrow, ei]
    refine ⟨⟨by omega, by omega⟩, ?_⟩
    exact ihm (i + 1) (u + 1) _ (by omega) (by simp [updF_app, hA]) (by simp [updF_app, hR]) (by simp [updF_app]) (by simp [updF_app]) hq
theorem tnorm_l2 {w : List Int} (hl : w.length * 8 ≤ 140737488355328) {v v4 : VOb} {K : A} : ∀ (n : Nat) (H : Hp), n ≤ w.length → trimW (w.take n) = trimW w → H [1] = v → H [2] = ⟨1, .cells [iv 1, uws (w.take n), K]⟩ → H [4] = v4 →
    (∀ q (H' : Hp), H' [1] = v → H' [2] = ⟨1, .cells [iv 1, uws (trimW w), K]⟩ → H' [4] = v4 → Q (.exit 2) ⟨lk [(2, .pob [1] 1 0), (3, .pob [2] 1 0), (48, bv q)], H'⟩) →
    LoopC (cx Try.prog w0 I0 n0) l2_tree_Norm Q ⟨lk [(2, .pob [1] 1 0), (3, .pob [2] 1 0)], H⟩ := by
  intro n
  induction n with
  | zero =>
    intro H hn ht hR hO hB hq
    refine loopC_once mixed l2_tree_Norm.eq_1 ?_
    simp [hO]
    refine hq _ H hR ?_ hB
    rw [← ht]
    simpa using hO
  | succ n ihn =>
    intro H hn ht hR hO hB hq
    have hlt : n < w.length := by omega
    have en : IntKind.i64.wrap (n : Int) = n := i64_same (by omega) (by omega)
    have emin : min (n + 1) w.length = n + 1 := by omega
    refine loopC_once mixed l2_tree_Norm.eq_1 ?_
    by_cases h0 : w[n] = 0
    · have hnn : (n : Int) < n + 1 := by omega
      have hnn' : (n : Int) ≤ n + 1 := by omega
      have hs : List.take n (List.take (n + 1) (List.map uv w)) = (w.take n).map uv := by rw [List.take_take, Nat.min_eq_left (by omega), List.map_take]
      simp [hO, emin, en, hlt, h0, hnn, hnn', hs]
      exact ihn _ (by omega) (by rw [← trimW_zero hlt h0]; exact ht) (by simp [updF_app, hR]) (by simp [updF_app]) (by simp [updF_app, hB]) hq
    · have hnn : (n : Int) < n + 1 := by omega
      simp [hO, emin, en, hlt, h0, hnn]
      refine hq _ H hR ?_ hB
      rw [hO, ← ht, trimW_stop hlt h0]
theorem tnorm_l3 {l : List T} (hl : l.length * 56 ≤ 140737488355328) {v : VOb} {W : A} {u : Nat} : ∀ (n : Nat) (H : Hp), n ≤ l.length → trimK (l.take n) = trimK l → H [1] = v → H [2] = ⟨1, .cells [iv 1, W, .osl [4] u 3 0 n]⟩ → H [4] = ⟨u, .arr 3 (l.map (tA ∘ norm))⟩ →
    (∀ q (H' : Hp), H' [1] = v → H' [2] = ⟨1, .cells [iv 1, W, .osl [4] u 3 0 (trimK l).length]⟩ → H' [4] = ⟨u, .arr 3 (l.map (tA ∘ norm))⟩ → Q (.exit 4) ⟨lk [(2, .pob [1] 1 0), (3, .pob [2] 1 0), (72, bv q)], H'⟩) →
    LoopC (cx Try.prog w0 I0 n0) l3_tree_Norm Q ⟨lk [(2, .pob [1] 1 0), (3, .pob [2] 1 0)], H⟩ := by
  intro n
  induction n with
  | zero =>
    intro H hn ht hR hO hB hq
    refine loopC_once mixed l3_tree_Norm.eq_1 ?_
    simp [hO]
    refine hq _ H hR ?_ hB
    rw [← ht]
    simpa using hO
  | succ n ihn =>
    intro H hn ht hR hO hB hq
    have hlt : n < l.length := by omega
    have en : IntKind.i64.wrap (n : Int) = n := i64_same (by omega) (by omega)
    have hnn : (n : Int) < n + 1 := by omega
    have hnn' : (n : Int) ≤ n + 1 := by omega
    refine loopC_once mixed l3_tree_Norm.eq_1 ?_
    by_cases h0 : l[n].kind = 0
    · simp [hO, hB, en, hlt, h0, hnn, hnn']
      exact ihn _ (by omega) (by rw [← trimK_zero hlt h0]; exact ht) (by simp [updF_app, hR]) (by simp [updF_app]) (by simp [updF_app, hB]) hq
    · simp [hO, hB, en, hlt, h0, hnn]
      refine hq _ H hR ?_ hB
      rw [hO, ← ht, trimK_stop hlt h0]
      simp; omega
end
theorem tNorm_spec : ∀ (t : T), wfT t → G.Spec Try.prog 141 [tX t] (tX (norm t)) := by
  refine T.ind fun k w l ih hw => ?_
  have hw' := wfT_iff.1 hw
  have hwl := hw'.wl
  have hkl := hw'.kl
  simp at hwl hkl
  refine spec_of t_tree_Norm (by simp) fun w0 I0 => ?_
  unfold c_tree_Norm
  rw [norm_mk]
  by_cases h0 : k = 0
  · simp [h0]
    exact frz_T0
  · simp [h0]
    refine sc_call (clone_spec false w hwl).spec rfl ?_
    simp
    refine LoopC.le (le_blankC (d := [2]) 2 [4] 3 rfl rfl (by simp)) ?_
    simp
    refine tnorm_l1 (t := .mk k w l) (k := iv k) (w := uws w) (by simpa using hkl) (fun c hc => ih c hc (hw'.ks c hc)) l.length 0 1 _ (by simp) rfl rfl (by simp) (by simp) fun i' q u' H' hA hR hO hB => ?_
    by_cases h1 : k = 1
    · subst h1
      simp at hA hR hO hB
      simp [hA, hR, hO, hB]
      refine LoopC.le (le_list [(2, .pob [1] 1 0), (3, .pob [2] 1 0)] (by simp)) ?_
      refine tnorm_l2 hwl w.length _ (Nat.le_refl _) (by rw [List.take_of_length_le (Nat.le_refl _)]) hR (by rw [hO, List.take_of_length_le (Nat.le_refl _)]) hB fun q H2 hR2 hO2 hB2 => ?_
      simp
      refine tnorm_l3 hkl l.length _ (Nat.le_refl _) (by rw [List.take_of_length_le (Nat.le_refl _)]) hR2 hO2 hB2 fun q H3 hR3 hO3 hB3 => ?_
      simp [hO3, hR3, updF_app]
      refine frz_agg ?_
      simp
      rw [trimK_map]
      refine ⟨frz_bare rfl, frz_bare rfl, ?_⟩
      have := frz_rowT (H := updF H3 [1] ⟨1, .cells [iv 1, uws (trimW w), A.osl [4] u' 3 0 (trimK l).length]⟩) (o := [4]) (u := u') (sz := 3) (l := l) (f := tA ∘ norm) (by simp [updF_app, hB3]) (trimK_le l) (by simp)
      rw [← List.map_take]
      show Frz _ _ (A.sl false (((l.take (trimK l).length).map norm).map tA))
      rw [List.map_map]
      exact this
    · simp at hA hR hO hB
      simp [hA, hR, hO, hB, h1, updF_app]
      refine frz_agg ?_
      simp
      refine ⟨frz_bare rfl, frz_bare rfl, ?_⟩
      have := frz_row (H := updF H' [1] ⟨1, .cells [iv k, uws w, A.osl [4] u' 3 0 l.length]⟩) (o := [4]) (u := u') (sz := 3) (l := l) (f := tA ∘ norm) (by simp [updF_app, hB]) rfl (by simp)
      show Frz _ _ (A.sl false ((l.map norm).map tA))
      rw [List.map_map]
      exact this

/-! ### how many words -/
section
variable {n0 : Nat} {w0 : World} {I0 : Nat → Prop} {Q : Exit → Sta → Prop}
theorem tsize_l1 {l : List T} (hl : l.length * 56 ≤ 140737488355328) (ih : ∀ c, c ∈ l → G.Spec Try.prog 140 [tX c] (iv (i64w (sizeP c)))) : ∀ (m i : Nat) (x y : Int) (H : Hp), i + m = l.length → y = i64w x →
    (∀ i' q H', Q (.exit 1) ⟨lk [(3, iv (i64w (x + sizePC (l.drop i)))), (57, tKs l), (58, iv l.length), (59, iv i'), (60, bv q)], H'⟩) →
    LoopC (cx Try.prog w0 I0 n0) l1_tree_size Q ⟨lk [(3, iv y), (57, tKs l), (58, iv l.length), (59, iv i)], H⟩ := by
  intro m
  induction m with
  | zero =>
    intro i x y H hi hy hq
    have : i = l.length := by omega
    subst this hy
    refine loopC_once mixed l1_tree_size.eq_1 ?_
    simp
    simpa using hq l.length false H
  | succ m ihm =>
    intro i x y H hi hy hq
    subst hy
    have hlt : i < l.length := by omega
    have e : l.drop i = l[i] :: l.drop (i + 1) := List.drop_eq_getElem_cons hlt
    have ei : IntKind.i64.wrap ((i : Int) + 1) = ((i + 1 : Nat) : Int) := i64_same (by omega) (by omega)
    refine loopC_once mixed l1_tree_size.eq_1 ?_
    simp [hlt, updF_app]
    refine sc_call (ih _ (List.getElem_mem hlt)) rfl ?_
    simp [ei, updF_app, i64_add_l, i64_add_r, i64_sub_l]
    refine ihm (i + 1) (x + (sizeP l[i] - l[i].words.length - l[i].kids.length)) _ _ (by omega) rfl fun i' q H' => ?_
    have := hq i' q H'
    rw [e, sizePC_cons, ← Int.add_assoc] at this
    exact this
theorem tsize_l2 {l : List T} (hl : l.length * 56 ≤ 140737488355328) (ih : ∀ c, c ∈ l → G.Spec Try.prog 140 [tX c] (iv (i64w (sizeP c)))) : ∀ (m i : Nat) (x y : Int) (H : Hp), i + m = l.length → y = i64w x →
    (∀ i' q H', Q (.exit 3) ⟨lk [(3, iv (i64w (x + sizePL (l.drop i)))), (78, tKs l), (79, iv l.length), (80, iv i'), (81, bv q)], H'⟩) →
    LoopC (cx Try.prog w0 I0 n0) l2_tree_size Q ⟨lk [(3, iv y), (78, tKs l), (79, iv l.length), (80, iv i)], H⟩ := by
  intro m
  induction m with
  | zero =>
    intro i x y H hi hy hq
    have : i = l.length := by omega
    subst this hy
    refine loopC_once mixed l2_tree_size.eq_1 ?_
    simp
    simpa using hq l.length false H
  | succ m ihm =>
    intro i x y H hi hy hq
    subst hy
    have hlt : i < l.length := by omega
    have e : l.drop i = l[i] :: l.drop (i + 1) := List.drop_eq_getElem_cons hlt
    have ei : IntKind.i64.wrap ((i : Int) + 1) = ((i + 1 : Nat) : Int) := i64_same (by omega) (by omega)
    refine loopC_once mixed l2_tree_size.eq_1 ?_
    simp [hlt, updF_app]
    refine sc_call (ih _ (List.getElem_mem hlt)) rfl ?_
    simp [ei, i64_add_l, i64_add_r]
    refine ihm (i + 1) (x + sizeP l[i]) _ _ (by omega) rfl fun i' q H' => ?_
    have := hq i' q H'
    rw [e, sizePL_cons, ← Int.add_assoc] at this
    exact this
end
set_option maxRecDepth 8000 in
theorem tsize_spec : ∀ (t : T), wfT t → G.Spec Try.prog 140 [tX t] (iv (i64w (sizeP t))) := by
  refine T.ind fun k w l ih hw => ?_
  have hw' := wfT_iff.1 hw
  have hwl := hw'.wl
  have hkl := hw'.kl
  simp at hwl hkl
  have ih1 : ∀ c, c ∈ l → G.Spec Try.prog 140 [tX c] (iv (i64w (sizeP c))) := fun c hc => ih c hc (hw'.ks c hc)
  refine spec_of t_tree_size (by simp) fun w0 I0 => ?_
  unfold c_tree_size
  rw [sizeP_mk]
  have fin : ∀ (x y : Int) (H : Hp) (r : Int), y = i64w x → H [0] = ⟨1, .cells [iv k, uws w, tKs l]⟩ → r = x + sizePL l → WPC (cx Try.prog w0 I0 90) k1_tree_size (RetC Try.prog [.tmp 2] (iv (i64w r))) ⟨lk [(1, .pob [0] 1 0), (3, iv y)], H⟩ := fun x y H r hy hH hr => by
    subst hy
    rw [k1_tree_size.eq_1]
    simp [hH]
    refine tsize_l2 hkl ih1 l.length 0 x _ _ (by simp) rfl fun i' q H' => ?_
    simp [hr]
    exact frz_bare rfl
  have room : 2 ≤ k ∧ k ≤ 7 → i64w (roomZ (k - 2) l.length) = roomZ (k - 2) l.length := fun hk => by
    have : 0 ≤ roomZ (k - 2) l.length ∧ roomZ (k - 2) l.length ≤ 1099511627776 := by
      unfold roomZ bitsZ
      repeat' split
      all_goals omega
    exact i64_same (by omega) (by omega)
  by_cases h1 : k = 1
  · simp [h1]
    exact fin _ _ _ _ rfl (by simp [h1]) rfl
  by_cases h8 : k = 8
  · simp [h8]
    exact fin _ _ _ _ (i64_same (by omega) (by omega)).symm (by simp [h8]) rfl
  rw [if_neg h1, if_neg h8]
  by_cases h27 : 2 ≤ k ∧ k ≤ 7
  · have hd : isData k = true := by simp [isData, h27]
    have e2 : IntKind.i64.wrap (k - 2) = k - 2 := i64_same (by omega) (by omega)
    simp [h1, h8]
    refine sc_call (data_spec k) rfl ?_
    simp [hd, e2]
    refine sc_call (room_spec' _ _) rfl ?_
    simp
    rw [if_pos h27, room h27]
    exact frz_bare rfl
  · have hd : isData k = false := by simp [isData]; omega
    simp [h1, h8]
    refine sc_call (data_spec k) rfl ?_
    rw [if_neg h27]
    by_cases h9 : k = 9
    · subst h9
      simp [hd]
      refine sc_call (tFrame_spec (.mk 9 w l) (by simpa using hkl)) rfl ?_
      simp [i64_add_r, i64_mul_r]
      refine tsize_l1 hkl ih1 l.length 0 _ _ _ (by simp) rfl fun i' q H' => ?_
      simp
      exact frz_bare rfl
    · simp [hd, h9]
      exact fin 0 _ _ _ (by decide) (by simp) (by simp)
theorem tSize_spec (t : T) (h : wfT t) : G.Spec Try.prog 117 [tX t] (iv (i64w (sizeP (norm t)))) := by
  refine spec_of t_tree_Size (by simp) fun w0 I0 => ?_
  unfold c_tree_Size
  simp
  refine sc_call (tNorm_spec t h) rfl ?_
  simp
  refine sc_call (tsize_spec (norm t) (wf_norm t h)) rfl ?_
  simp
  exact frz_bare rfl
end Go.Proofs.Ytigdcnlhgelkaaa
