/-
  Chapter 39: how many words a patch takes.
-/
import Derived.Test.YtigdcnlhgelkaaaD27
namespace Go.Proofs.Ytigdcnlhgelkaaa
set_option linter.unusedVariables false
set_option linter.unusedSimpArgs false
open Go Go.G Go.Proofs Go.PL

section
variable {n0 : Nat} {w0 : World} {I0 : Nat → Prop} {Q : Exit → Sta → Prop}
theorem pointers_l1 {l : List T} {H : Hp} (hl : l.length * 56 ≤ 140737488355328) : ∀ (n : Nat), n ≤ l.length → trimK (l.take n) = trimK l → ((trimK l).length = 0 → ∀ q, Q (.exit 0) ⟨lk [(0, tKs l), (3, iv 0), (7, bv q)], H⟩) → ((trimK l).length ≠ 0 → Q .ret ⟨lk [(2, iv (trimK l).length)], H⟩) →
    LoopC (cx Try.prog w0 I0 n0) l1_cost_pointers Q ⟨lk [(0, tKs l), (3, iv n)], H⟩ := by
  intro n
  induction n with
  | zero =>
    intro hn ht h1 h2
    refine loopC_once mixed l1_cost_pointers.eq_1 ?_
    simp
    exact h1 (by rw [← ht]; rfl) _
  | succ n ih =>
    intro hn ht h1 h2
    have hlt : n < l.length := by omega
    have e : IntKind.i64.wrap (n : Int) = n := i64_same (by omega) (by omega)
    have hp : (0 : Int) < (n : Int) + 1 := by omega
    refine loopC_once mixed l1_cost_pointers.eq_1 ?_
    by_cases h0 : l[n].kind = 0
    · simp [hp, e, hlt, h0]
      exact ih (by omega) (by rw [← trimK_zero hlt h0]; exact ht) h1 h2
    · have e2 : (trimK l).length = n + 1 := by rw [← ht, trimK_stop hlt h0]; simp; omega
      simp [hp, e, hlt, h0]
      have := h2 (by omega)
      rw [e2] at this
      exact this
end
theorem pointers_spec (l : List T) (hl : l.length * 56 ≤ 140737488355328) : G.Spec Try.prog 118 [tKs l] (iv (trimK l).length) := by
  refine spec_of t_cost_pointers (by simp) fun w0 I0 => ?_
  unfold c_cost_pointers
  simp
  refine pointers_l1 hl l.length (Nat.le_refl _) (by rw [List.take_of_length_le (Nat.le_refl _)]) (fun h q => ?_) (fun h => ?_)
  · simp
    exact frz_int (by omega)
  · simp
    exact frz_bare rfl
theorem kids_spec {a b : T} (ha : wfT a) (hb : wfT b) : G.Spec Try.prog 85 [tKs [a, b]] (iv (i64w (kids2 a b))) := by
  have p0 : G.Spec Try.prog 118 [.sl false []] (iv 0) := pointers_spec [] (by simp)
  have p1 : G.Spec Try.prog 118 [.sl false [tX a]] (iv (if a.kind = 0 then 0 else 1)) := by
    have := pointers_spec [a] (by simp)
    have e : tKs [a] = .sl false [tX a] := by simp
    rw [e, trimK_1] at this
    split at this <;> rename_i h <;> simp [h] <;> simpa using this
  refine spec_of t_cost_kids (by simp) fun w0 I0 => ?_
  unfold c_cost_kids
  simp
  refine loopC_once mixed l1_cost_kids.eq_1 ?_
  simp
  refine sc_call (tSize_spec a ha) rfl ?_
  have two : ∀ (x y r : Int) (H : Hp), y = i64w x → r = x + sizeP (norm b) + (if b.kind ≠ 0 then 2 - (if a.kind ≠ 0 then 1 else 0) else 0) → LoopC (cx Try.prog w0 I0 31) l1_cost_kids (InBlock 0 (ThenC (WPC (cx Try.prog w0 I0 31) (.keep [3] (.seq (.reg [co (some 30) (.move (.tmp 3)) none, co (some 2) (.assign (.tmp 30)) none] [2]) .ret)) (RetC Try.prog [.tmp 2] (iv (i64w r)))) (RetC Try.prog [.tmp 2] (iv (i64w r))))) ⟨lk [(0, tKs [a, b]), (3, iv y), (6, tKs [a, b]), (7, iv 2), (8, iv 1)], H⟩ := fun x y r H hy hr => by
    subst hy
    have fin : ∀ (y : Int) (H : Hp), y = i64w r → LoopC (cx Try.prog w0 I0 31) l1_cost_kids (InBlock 0 (ThenC (WPC (cx Try.prog w0 I0 31) (.keep [3] (.seq (.reg [co (some 30) (.move (.tmp 3)) none, co (some 2) (.assign (.tmp 30)) none] [2]) .ret)) (RetC Try.prog [.tmp 2] (iv (i64w r)))) (RetC Try.prog [.tmp 2] (iv (i64w r))))) ⟨lk [(0, tKs [a, b]), (3, iv y), (6, tKs [a, b]), (7, iv 2), (8, iv 2)], H⟩ := fun y H hy => by
      refine loopC_once mixed l1_cost_kids.eq_1 ?_
      simp [hy]
      exact frz_bare rfl
    have e2 : IntKind.i64.wrap 2 = 2 := by decide
    refine loopC_once mixed l1_cost_kids.eq_1 ?_
    simp [updF_app]
    refine sc_call (tSize_spec b hb) rfl ?_
    by_cases h0 : b.kind = 0
    · simp [h0, updF_app, i64_add_l, i64_add_r, e2]
      exact fin _ _ (by rw [hr]; simp [h0])
    · simp [h0, updF_app]
      refine sc_call p1 rfl ?_
      simp [i64_add_l, i64_add_r, i64_sub_l, e2]
      refine fin _ _ ?_
      rw [hr]
      by_cases ha0 : a.kind = 0 <;> simp [h0, ha0]
  have e1 : IntKind.i64.wrap 1 = 1 := by decide
  by_cases h0 : a.kind = 0
  · simp [h0, e1]
    exact two (sizeP (norm a)) _ _ _ (by unfold i64w; rw [i64_i64]) (by unfold kids2; simp [h0])
  · simp [h0]
    refine sc_call p0 rfl ?_
    simp [e1, i64_add_l, i64_add_r]
    exact two (sizeP (norm a) + 1) _ _ _ rfl (by unfold kids2; simp [h0])

abbrev NodeS (e : E) : Prop := G.Spec Try.prog 51 [eX e] (iv (i64w (nodeE e)))
def structZ (e : E) : Int := (if e.words = [] then 0 else 2 + e.words.length * wideW 1 e.words) + (if e.kids.isEmpty = true then 0 else 2 + e.kids.length * (if lastAt e.kids = 0 then 1 else 2) + (if e.words = [] then 1 else 0) + nodeKs e.kids)
def listZ (e : E) : Int := if e.ops.isEmpty = true then 0 else 2 + e.ops.length * wideO 1 e.ops + nodeOs e.list e.ops
section
variable {n0 : Nat} {w0 : World} {I0 : Nat → Prop} {Q : Exit → Sta → Prop}
theorem struct_l1 {l : List WE} (hl : l.length * 32 ≤ 140737488355328) {a1 a3 : A} {n : Int} {v : VOb} : ∀ (m i : Nat) (x : Int) (H : Hp), i + m = l.length → H [0] = v →
    (∀ i' q H', H' [0] = v → Q (.exit 0) ⟨lk [(1, a1), (3, a3), (4, iv n), (5, iv (wideW x (l.drop i))), (18, wKs l), (19, iv l.length), (20, iv i'), (21, bv q)], H'⟩) →
    LoopC (cx Try.prog w0 I0 n0) l1_cost_structure Q ⟨lk [(1, a1), (3, a3), (4, iv n), (5, iv x), (18, wKs l), (19, iv l.length), (20, iv i)], H⟩ := by
  intro m
  induction m with
  | zero =>
    intro i x H hi h0 hq
    have : i = l.length := by omega
    subst this
    refine loopC_once mixed l1_cost_structure.eq_1 ?_
    simp
    simpa [wideW] using hq l.length false H h0
  | succ m ihm =>
    intro i x H hi h0 hq
    have hlt : i < l.length := by omega
    have ed : l.drop i = l[i] :: l.drop (i + 1) := List.drop_eq_getElem_cons hlt
    have ei : IntKind.i64.wrap ((i : Int) + 1) = ((i + 1 : Nat) : Int) := i64_same (by omega) (by omega)
    rw [ed, wideW] at hq
    refine loopC_once mixed l1_cost_structure.eq_1 ?_
    by_cases h1 : l[i].new = 0
    · by_cases h2 : l[i].old = 0
      · simp [hlt, h1, h2, updF_app, ei]
        simp [h1, h2] at hq
        exact ihm (i + 1) _ _ (by omega) (by simp [updF_app, h0]) (fun i' q H' hh => by cases q; exact (hq i').1 H' hh; exact (hq i').2 H' hh)
      · simp [hlt, h1, h2, updF_app, ei]
        simp [h1, h2] at hq
        exact ihm (i + 1) _ _ (by omega) (by simp [updF_app, h0]) (fun i' q H' hh => by cases q; exact (hq i').1 H' hh; exact (hq i').2 H' hh)
    · simp [hlt, h1, updF_app, ei]
      simp [h1] at hq
      exact ihm (i + 1) _ _ (by omega) (by simp [updF_app, h0]) (fun i' q H' hh => by cases q; exact (hq i').1 H' hh; exact (hq i').2 H' hh)
theorem struct_l2 {l : List KE} (hl : l.length * 208 ≤ 140737488355328) (ih : ∀ x, x ∈ l → NodeS x.e) : ∀ (m i : Nat) (x y : Int) (H : Hp), i + m = l.length → y = i64w x →
    (∀ i' q H', Q (.exit 3) ⟨lk [(3, iv (i64w (x + nodeKs (l.drop i)))), (67, kKs l), (68, iv l.length), (69, iv i'), (70, bv q)], H'⟩) →
    LoopC (cx Try.prog w0 I0 n0) l2_cost_structure Q ⟨lk [(3, iv y), (67, kKs l), (68, iv l.length), (69, iv i)], H⟩ := by
  intro m
  induction m with
  | zero =>
    intro i x y H hi hy hq
    have : i = l.length := by omega
    subst this hy
    refine loopC_once mixed l2_cost_structure.eq_1 ?_
    simp
    simpa using hq l.length false H
  | succ m ihm =>
    intro i x y H hi hy hq
    subst hy
    have hlt : i < l.length := by omega
    have ed : l.drop i = l[i] :: l.drop (i + 1) := List.drop_eq_getElem_cons hlt
    have ei : IntKind.i64.wrap ((i : Int) + 1) = ((i + 1 : Nat) : Int) := i64_same (by omega) (by omega)
    rw [ed, nodeKs_cons] at hq
    refine loopC_once mixed l2_cost_structure.eq_1 ?_
    simp [hlt, updF_app]
    refine sc_call (ih _ (List.getElem_mem hlt)) rfl ?_
    simp [ei, i64_add_l, i64_add_r]
    refine ihm (i + 1) (x + nodeE l[i].e) _ _ (by omega) rfl fun i' q H' => ?_
    have := hq i' q H'
    rw [← Int.add_assoc] at this
    exact this
theorem list_l1 {e : E} (hl : e.ops.length * 240 ≤ 140737488355328) (hw : WfE e) (ih : ∀ x, x ∈ e.ops → x.kind = 3 → NodeS x.e) : ∀ (m i : Nat) (x z y : Int) (H : Hp), i + m = e.ops.length → H [0] = ⟨1, .cells (eL e)⟩ → y = i64w z →
    (∀ i' q H', H' [0] = ⟨1, .cells (eL e)⟩ → Q (.exit 0) ⟨lk [(1, .pob [0] 1 0), (3, iv (wideO x (e.ops.drop i))), (4, iv (i64w (z + nodeOs e.list (e.ops.drop i)))), (12, oKs e.ops), (13, iv e.ops.length), (14, iv i'), (15, bv q)], H'⟩) →
    LoopC (cx Try.prog w0 I0 n0) l1_cost_list Q ⟨lk [(1, .pob [0] 1 0), (3, iv x), (4, iv y), (12, oKs e.ops), (13, iv e.ops.length), (14, iv i)], H⟩ := by
  intro m
  induction m with
  | zero =>
    intro i x z y H hi h0 hy hq
    have : i = e.ops.length := by omega
    subst this hy
    refine loopC_once mixed l1_cost_list.eq_1 ?_
    simp
    simpa [wideO] using hq e.ops.length false H h0
  | succ m ihm =>
    intro i x z y H hi h0 hy hq
    subst hy
    have hlt : i < e.ops.length := by omega
    have ed : e.ops.drop i = e.ops[i] :: e.ops.drop (i + 1) := List.drop_eq_getElem_cons hlt
    have ei : IntKind.i64.wrap ((i : Int) + 1) = ((i + 1 : Nat) : Int) := i64_same (by omega) (by omega)
    rw [ed, nodeOs_cons, wideO] at hq
    have ihx := ih _ (List.getElem_mem hlt)
    have hwo := hw.os _ (List.getElem_mem hlt)
    generalize ho : e.ops[i] = o at *
    have next : ∀ (x' z' y' : Int) H', H' [0] = ⟨1, .cells (eL e)⟩ → x' = (if o.kind = 1 ∨ o.kind = 2 ∨ o.kind = 3 then 2 else x) → y' = i64w z' → z' = z + (if o.kind = 1 ∨ o.kind = 2 then sizeP (norm (.mk e.list [] o.l)) else if o.kind = 3 then nodeE o.e else 0) →
        LoopC (cx Try.prog w0 I0 n0) l1_cost_list Q ⟨lk [(1, .pob [0] 1 0), (3, iv x'), (4, iv y'), (12, oKs e.ops), (13, iv e.ops.length), (14, iv ((i + 1 : Nat) : Int))], H'⟩ := fun x' z' y' H' hH hx hy hz =>
      ihm (i + 1) x' z' y' H' (by omega) hH hy fun i' q H2 hh => by
        have := hq i' q H2 hh
        rw [← hx, ← Int.add_assoc, ← hz] at this
        exact this
    have hwt : wfT (.mk e.list [] o.l) := wfT_iff.2 ⟨hw.l, by simp, by simp, hwo.ll, hwo.l⟩
    have tS : G.Spec Try.prog 117 [.agg [iv e.list, .sl true [], tKs o.l]] (iv (i64w (sizeP (norm (.mk e.list [] o.l))))) := (tSize_spec (.mk e.list [] o.l) hwt).soft (by simp [A.softL, A.soft, soft_tKs])
    refine loopC_once mixed l1_cost_list.eq_1 ?_
    by_cases k1 : o.kind = 1
    · simp [hlt, ho, updF_app, k1]
      rw [k1_cost_list.eq_1]
      simp [h0, updF_app]
      refine sc_call tS rfl ?_
      simp [ei, i64_add_l, i64_add_r]
      exact next _ _ _ _ (by simp [updF_app, h0]) (by simp [k1]) rfl (by simp [k1])
    · by_cases k2 : o.kind = 2
      · simp [hlt, ho, updF_app, k2]
        rw [k1_cost_list.eq_1]
        simp [h0, updF_app]
        refine sc_call tS rfl ?_
        simp [ei, i64_add_l, i64_add_r]
        exact next _ _ _ _ (by simp [updF_app, h0]) (by simp [k2]) rfl (by simp [k2])
      · by_cases k3 : o.kind = 3
        · simp [hlt, ho, updF_app, k3]
          rw [k1_cost_list.eq_1]
          simp [h0, updF_app]
          refine sc_call (ihx k3) rfl ?_
          simp [ei, i64_add_l, i64_add_r]
          exact next _ _ _ _ (by simp [updF_app, h0]) (by simp [k3]) rfl (by simp [k3])
        · simp [hlt, ho, updF_app, k1, k2]
          rw [k1_cost_list.eq_1]
          simp [k3, ei]
          exact next x z _ _ (by simp [updF_app, h0]) (by simp [k1, k2, k3]) rfl (by simp [k1, k2, k3])
end
theorem list_spec {e : E} (hw : WfE e) (ih : ∀ x, x ∈ e.ops → x.kind = 3 → NodeS x.e) : G.Spec Try.prog 87 [eX e] (iv (i64w (listZ e))) := by
  have hol := hw.ol
  refine spec_of t_cost_list (by simp) fun w0 I0 => ?_
  unfold c_cost_list
  by_cases h0 : e.ops = []
  · have hz : listZ e = 0 := by simp [listZ, h0]
    simp [h0, hz]
    exact frz_int (by decide)
  · have hz : listZ e = 2 + e.ops.length * wideO 1 e.ops + nodeOs e.list e.ops := by simp [listZ, h0]
    simp [h0]
    refine list_l1 hol hw ih e.ops.length 0 1 0 _ _ (by omega) (by simp) (by decide) fun i' q H' hA => ?_
    simp [hA, i64_add_l, i64_add_r, i64_mul_r, hz]
    exact frz_bare rfl
theorem lastAt_get : ∀ {l : List KE} (h : 0 < l.length), lastAt l = (l[l.length - 1]'(by omega)).at_
  | [x], _ => rfl
  | x :: y :: l, _ => by
    have := lastAt_get (l := y :: l) (by simp)
    simp only [lastAt]
    rw [this]
    simp
section
variable {n0 : Nat} {w0 : World} {I0 : Nat → Prop}
theorem struct_k1 {Q' : Exit → Sta → Prop} {e : E} (hl : e.kids.length * 208 ≤ 140737488355328) (ih : ∀ x, x ∈ e.kids → NodeS x.e) {H : Hp} (hH : H [0] = ⟨1, .cells (eL e)⟩) {x y : Int} (hy : y = i64w x)
    (h : ∀ l H', Q' .normal ⟨lk ((3, iv (i64w (x + nodeKs e.kids))) :: l), H'⟩) : WPC (cx Try.prog w0 I0 n0) k1_cost_structure Q' ⟨lk [(1, .pob [0] 1 0), (3, iv y)], H⟩ := by
  rw [k1_cost_structure.eq_1]
  simp [hH]
  refine struct_l2 hl ih e.kids.length 0 x _ _ (by omega) hy fun i' q H' => ?_
  simp
  exact h _ _
theorem struct_k2 {Q' : Exit → Sta → Prop} {e : E} (hl : e.kids.length * 208 ≤ 140737488355328) (ih : ∀ x, x ∈ e.kids → NodeS x.e) {H : Hp} (hH : H [0] = ⟨1, .cells (eL e)⟩) {x w : Int}
    (h : ∀ l H', Q' .normal ⟨lk ((3, iv (i64w (x + (2 + e.kids.length * w) + (if e.words = [] then 1 else 0) + nodeKs e.kids))) :: l), H'⟩) : WPC (cx Try.prog w0 I0 n0) k2_cost_structure Q' ⟨lk [(1, .pob [0] 1 0), (3, iv (i64w x)), (8, iv e.kids.length), (9, iv w)], H⟩ := by
  rw [k2_cost_structure.eq_1]
  by_cases hw : e.words = []
  · simp [hH, hw, i64_add_l, i64_add_r, i64_mul_r]
    refine struct_k1 hl ih hH rfl fun l H' => ?_
    simpa [hw] using h l H'
  · simp [hH, hw, i64_add_l, i64_add_r, i64_mul_r]
    refine struct_k1 hl ih hH rfl fun l H' => ?_
    simpa [hw] using h l H'
end
theorem struct_spec {e : E} (hw : WfE e) (ih : ∀ x, x ∈ e.kids → NodeS x.e) : G.Spec Try.prog 86 [eX e] (iv (i64w (structZ e))) := by
  have hwl := hw.wl
  have hkl := hw.kl
  refine spec_of t_cost_structure (by simp) fun w0 I0 => ?_
  unfold c_cost_structure
  have k3 : ∀ (x y : Int) (H : Hp), H [0] = ⟨1, .cells (eL e)⟩ → y = i64w x → x = (if e.words = [] then 0 else 2 + e.words.length * wideW 1 e.words) → WPC (cx Try.prog w0 I0 80) k3_cost_structure (RetC Try.prog [.tmp 2] (iv (i64w (structZ e)))) ⟨lk [(1, .pob [0] 1 0), (3, iv y)], H⟩ := fun x y H hH hy hx => by
    subst hy
    rw [k3_cost_structure.eq_1]
    by_cases h0 : e.kids = []
    · simp [hH, h0]
      refine frz_is rfl ?_
      simp [structZ, h0, hx]
    · have hpos : 0 < e.kids.length := List.length_pos_iff.2 h0
      have hlt : e.kids.length - 1 < e.kids.length := by omega
      have em : IntKind.i64.wrap ((e.kids.length : Int) - 1) = ((e.kids.length - 1 : Nat) : Int) := by rw [i64_same (by omega) (by omega)]; omega
      have hlast := lastAt_get hpos
      have hz : structZ e = x + (2 + e.kids.length * (if lastAt e.kids = 0 then 1 else 2)) + (if e.words = [] then 1 else 0) + nodeKs e.kids := by
        rw [hx]; simp [structZ, h0]; omega
      by_cases h1 : lastAt e.kids = 0
      · have h1' := h1
        rw [hlast] at h1'
        simp [hH, hpos, em, hlt, h1']
        refine struct_k2 hkl ih hH fun l H' => ?_
        simp [hz, h1]
        exact frz_bare rfl
      · have h1' := h1
        rw [hlast] at h1'
        simp [hH, hpos, em, hlt, h1']
        refine struct_k2 hkl ih hH fun l H' => ?_
        simp [hz, h1]
        exact frz_bare rfl
  by_cases h0 : e.words = []
  · simp [h0]
    exact k3 0 _ _ (by simp [h0]) (by decide) (by simp [h0])
  · have hpos : 0 < e.words.length := List.length_pos_iff.2 h0
    simp [hpos]
    refine struct_l1 hwl e.words.length 0 1 _ (by omega) rfl fun i' q H' hA => ?_
    simp [i64_add_r, i64_mul_r]
    exact k3 (2 + e.words.length * wideW 1 e.words) _ _ (by rw [hA]; simp) (by unfold i64w; rw [i64_i64]) (by simp [h0])
theorem node_spec : ∀ (e : E), wfE e → NodeS e := by
  refine E.ind fun k o n ws ks l os ihk iho hw => ?_
  have h := wfE_iff.1 hw
  have ihk' : ∀ x, x ∈ (E.mk k o n ws ks l os).kids → NodeS x.e := fun x hx => ihk x hx (h.ks x hx).2
  have iho' : ∀ x, x ∈ (E.mk k o n ws ks l os).ops → x.kind = 3 → NodeS x.e := fun x hx _ => iho x hx (h.os x hx).e
  refine spec_of t_cost_node (by simp) fun w0 I0 => ?_
  unfold c_cost_node
  rw [nodeE_mk]
  by_cases h1 : k = 1
  · simp [h1]
    refine sc_call ((kids_spec h.o h.n).soft (by simp [A.softL, A.soft, soft_uv, soft_tKs])) rfl ?_
    simp [i64_add_r]
    exact frz_bare rfl
  by_cases h2 : k = 2
  · subst h2
    simp
    refine sc_call (struct_spec h ihk') rfl ?_
    simp [i64_add_r]
    exact frz_int (by by_cases hks : ks = [] <;> by_cases hws : ws = [] <;> by_cases hla : lastAt ks = 0 <;> simp [structZ, i64w, hks, hws, hla])
  by_cases h3 : k = 3
  · subst h3
    simp
    refine sc_call (list_spec h iho') rfl ?_
    simp [i64_add_r]
    exact frz_int (by simp [listZ, i64w])
  · simp [h1, h2, h3]
    exact frz_int (by decide)
theorem words39_spec {e : E} (h : wfE e) : G.Spec Try.prog 16 [eX e] (iv (i64w (1 + nodeE e))) := by
  refine spec_of t_cost_Words (by simp) fun w0 I0 => ?_
  unfold c_cost_Words
  simp
  refine sc_call (node_spec e h) rfl ?_
  simp [i64_add_r]
  exact frz_bare rfl
theorem wf_T0 : wfT T0 := wfT_iff.2 ⟨by simp [i64R], by simp, by simp, by simp, by simp⟩
theorem wf_E (k : Int) (h : i64R k) : wfE (.mk k T0 T0 [] [] 0 []) := wfE_iff.2 ⟨h, by simp [i64R], wf_T0, wf_T0, by simp, by simp, by simp, by simp, by simp, by simp⟩
theorem awake39_spec : G.Spec Try.prog 13 [] (bv true) := by
  have e0 : i64w (1 + nodeE (.mk 0 T0 T0 [] [] 0 [])) = 1 := by rw [nodeE_mk]; decide
  have e1 : i64w (1 + nodeE (.mk 1 T0 T0 [] [] 0 [])) = 2 := by rw [nodeE_mk]; simp [kids2, norm_mk, sizeP_mk]; decide
  refine spec_of t_centolaw39_awake (by simp) fun w0 I0 => ?_
  unfold c_centolaw39_awake
  simp
  refine sc_call ((words39_spec (wf_E 0 (by simp [i64R]))).soft (by simp [A.softL, A.soft])) rfl ?_
  rw [e0]
  simp
  refine sc_call_gt rfl (fun _ => (words39_spec (wf_E 1 (by simp [i64R]))).soft (by simp [A.softL, A.soft])) (fun _ => rfl) rfl ?_
  rw [e1]
  simp
  exact frz_bare rfl
theorem wf_tree : ∀ (e : E), wfE e → smE 3000 e → rightE 64 e = true ∨ True → wfT (treeE e) := by
  refine E.ind fun k o n ws ks l os ihk iho hw hs _ => ?_
  have h := wfE_iff.1 hw
  rw [smE, smKs_all, smOs_all] at hs
  obtain ⟨s1, s2, s3, s4, s5⟩ := hs
  have u : ∀ x, u64R (u64m x) := fun x => by unfold u64R u64m; omega
  have row : ∀ (m : List T), m.length ≤ 3000 → (∀ t, t ∈ m → wfT t) → wfT (rowT' m) := fun m hm hmt => by
    cases m with
    | nil => rw [rowT'_nil]; exact wf_T0
    | cons t m => rw [rowT'_cons]; exact wfT_iff.2 ⟨by simp [i64R], by simp, by simp, by simp at hm ⊢; omega, hmt⟩
  have tk : ∀ w : OP, (treeO l w).kids.length * 56 ≤ 140737488355328 := fun w => by
    simp only [treeO, T.kids_mk]
    repeat' split
    all_goals simp
  rw [treeE_mk]
  split
  · exact wf_T0
  · split
    · refine wfT_iff.2 ⟨by simp [i64R], ?_, by simp, by simp, ?_⟩
      · intro x hx; simp at hx; rw [hx]; exact u _
      · intro x hx; simp at hx; rcases hx with rfl | rfl; exact h.o; exact h.n
    · split
      · refine wfT_iff.2 ⟨by simp [i64R], ?_, by simp, by simp, ?_⟩
        · intro x hx; simp at hx; rw [hx]; exact u _
        · intro x hx
          simp at hx
          rcases hx with rfl | rfl
          · refine row _ (by simp; omega) fun t ht => ?_
            obtain ⟨w, hw', rfl⟩ := List.mem_map.1 ht
            obtain ⟨w1, w2, w3, w4⟩ := h.w w hw'
            exact wfT_iff.2 ⟨by simp [treeW, i64R], by intro x hx; simp [treeW] at hx; rcases hx with rfl | rfl | rfl; exact u _; exact w3; exact w4, by simp [treeW], by simp [treeW], by simp [treeW]⟩
          · rw [treeKs_map]
            refine row _ (by simp; omega) fun t ht => ?_
            obtain ⟨w, hw', rfl⟩ := List.mem_map.1 ht
            exact wfT_iff.2 ⟨by simp [treeK, i64R], by intro x hx; simp [treeK] at hx; rw [hx]; exact u _, by simp [treeK], by simp [treeK], by intro x hx; simp [treeK] at hx; rw [hx]; exact ihk w hw' (h.ks w hw').2 (s4 w hw') (.inr trivial)⟩
      · refine wfT_iff.2 ⟨by simp [i64R], ?_, by simp, by simp, ?_⟩
        · intro x hx; simp at hx; rw [hx]; exact u _
        · intro x hx
          simp at hx
          subst hx
          rw [treeOs_map]
          refine row _ (by simp; omega) fun t ht => ?_
          obtain ⟨w, hw', rfl⟩ := List.mem_map.1 ht
          have hwo := h.os w hw'
          refine wfT_iff.2 ⟨by simp [treeO, i64R], by intro x hx; simp [treeO] at hx; rw [hx]; exact u _, by simp [treeO], tk w, ?_⟩
          intro x hx
          simp only [treeO, T.kids_mk] at hx
          split at hx
          · simp at hx; rw [hx]; exact iho w hw' hwo.e (s5 w hw') (.inr trivial)
          · split at hx
            · simp at hx; rw [hx]; exact wfT_iff.2 ⟨h.l, by simp, by simp, hwo.ll, hwo.l⟩
            · simp at hx
theorem masks_wf : ∀ (e : E), wfE e → masksE e := by
  refine E.ind fun k o n ws ks l os ihk iho hw => ?_
  have h := wfE_iff.1 hw
  have hk : ∀ (m : List KE), (∀ x, x ∈ m → masksE x.e) → masksK m := by
    intro m
    induction m with
    | nil => intro _; simp [masksK]
    | cons x m ih => intro hm; obtain ⟨a, e⟩ := x; rw [masksK]; exact ⟨hm (.mk a e) (by simp), ih fun y hy => hm y (by simp [hy])⟩
  have ho : ∀ (m : List OP), (∀ x, x ∈ m → masksE x.e) → masksO m := by
    intro m
    induction m with
    | nil => intro _; simp [masksO]
    | cons x m ih => intro hm; obtain ⟨a, b, c, e⟩ := x; rw [masksO]; exact ⟨hm (.mk a b c e) (by simp), ih fun y hy => hm y (by simp [hy])⟩
  rw [masksE]
  exact ⟨fun w hw' => (h.w w hw').2.1, hk ks fun x hx => ihk x hx (h.ks x hx).2, ho os fun x hx => iho x hx (h.os x hx).e⟩
theorem CostWords_spec {e : E} (h : wfE e) : G.Spec Try.prog 3 [eX e] (bv true) := by
  refine spec_of t_centolaw39_CostWords (by simp) fun w0 I0 => ?_
  unfold c_centolaw39_CostWords
  simp
  refine sc_call (good_spec h) rfl ?_
  cases hg : goodE e with
  | false =>
    simp
    refine sc_call awake39_spec rfl ?_
    simp
    exact frz_bare rfl
  | true =>
    simp [goodE] at hg
    obtain ⟨⟨hf, hr⟩, _⟩ := hg
    have hs := few_sm hf
    have hwt := wf_tree e h hs (.inr trivial)
    simp
    refine sc_call (tree_spec e hs) rfl ?_
    simp
    refine sc_call (rRight_spec (treeE e) hwt 64 (by omega)) rfl ?_
    cases ht : rightT 64 (treeE e) with
    | false =>
      simp
      refine sc_call awake39_spec rfl ?_
      simp
      exact frz_bare rfl
    | true =>
      have key := node_size e 64 hr (masks_wf e h)
      simp [updF_app]
      refine sc_call (words39_spec h) rfl ?_
      simp [updF_app]
      refine sc_call (rNorm_spec (treeE e) hwt) rfl ?_
      simp
      refine sc_call (rSize_spec (norm (treeE e)) (wf_norm _ hwt)) rfl ?_
      simp [i64_add_l]
      have ek : IntKind.i64.wrap (1 + nodeE e) = IntKind.i64.wrap (sizeT (norm (treeE e)) + 1) := by rw [key, Int.add_comm]
      simp [ek]
      refine sc_call_gt rfl (fun _ => awake39_spec) (fun _ => rfl) rfl ?_
      simp
      exact frz_bare rfl
end Go.Proofs.Ytigdcnlhgelkaaa
