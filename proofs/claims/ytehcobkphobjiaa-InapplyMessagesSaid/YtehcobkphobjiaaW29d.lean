/-
  Texts, merged, without what is not reached.
-/
import Derived.Test.YtehcobkphobjiaaW29c
/-
  The document's edits: parts, lengths.
-/
namespace Go.Proofs.Ytehcobkphobjiaa
set_option linter.unusedVariables false
set_option linter.unusedSimpArgs false
open Go Go.G Go.Proofs Go.PL
theorem none_spec (t : T) (hw : t.words.length * 8 ≤ 140737488355328) (hk : t.kids.length * 56 ≤ 140737488355328) : G.Spec Try.prog 138 [tX t] (bv (noneT t)) := by
  refine spec_of t_centoref20_none (by simp) fun w0 I0 => ?_
  unfold c_centoref20_none
  simp
  have e : IntKind.i64.wrap ((t.words.length : Int) + t.kids.length) = (t.words.length : Int) + t.kids.length := i64_same (by omega) (by omega)
  simp [e]
  refine frz_bool ?_
  rw [Bool.eq_iff_iff]
  simp [noneT, List.isEmpty_iff, ← List.length_eq_zero_iff]
  omega
theorem none_spec' {t : T} (h : wfT t) : G.Spec Try.prog 138 [tX t] (bv (noneT t)) := none_spec t (wfT_iff.1 h).wl (wfT_iff.1 h).kl
theorem bytesN_get : ∀ (m : Nat) (x : Int) (i : Nat), i < m → (bytesN m x).getD i 0 = x / 256 ^ i % 256
  | m + 1, x, 0, _ => by simp [bytesN]
  | m + 1, x, i + 1, h => by
    have := bytesN_get m (x / 256) i (by omega)
    simp only [bytesN, List.getD_cons_succ, this]
    rw [Int.ediv_ediv_of_nonneg (by decide), ← Int.pow_succ']
theorem ofZ_zero : ∀ (l : List Int), (∀ b, b ∈ l → 0 ≤ b ∧ b < 256) → (ofZ l = 0 ↔ ∀ b, b ∈ l → b = 0)
  | [], _ => by simp [ofZ]
  | b :: l, h => by
    have h1 := h b (by simp)
    have h2 := ofZ_range l fun x hx => h x (by simp [hx])
    have ih := ofZ_zero l fun x hx => h x (by simp [hx])
    simp only [ofZ, List.mem_cons, forall_eq_or_imp, ← ih]
    omega
theorem mix_zero (w mask : Int) : decide (mixZ w 0 mask = 0) = withinZ w mask := by
  rw [Bool.eq_iff_iff]
  unfold mixZ
  rw [decide_eq_true_eq, ofZ_zero _ mixL_range]
  have e : mixL (bytesZ w) (bytesZ 0) mask 8 = (List.range 8).map fun i => if namedZ mask i = true then (bytesZ 0).getD i 0 else (bytesZ w).getD i 0 := by
    unfold mixL
    rw [List.drop_of_length_le (by rw [bytesZ_length]; omega), List.append_nil]
  rw [e]
  simp only [withinZ, List.all_eq_true, List.mem_map, List.mem_range, Bool.or_eq_true, decide_eq_true_eq]
  have hz : ∀ i, i < 8 → (bytesZ 0).getD i 0 = 0 := fun i hi => by
    unfold bytesZ
    rw [bytesN_get 8 0 i hi]; simp
  constructor
  · intro h i hi
    by_cases hn : namedZ mask i = true
    · left; simpa [namedZ] using hn
    · right
      have := h _ ⟨i, hi, rfl⟩
      rw [if_neg hn] at this
      unfold bytesZ at this
      rwa [bytesN_get 8 w i hi] at this
  · rintro h b ⟨i, hi, rfl⟩
    by_cases hn : namedZ mask i = true
    · rw [if_pos hn]; exact hz i hi
    · rw [if_neg hn]
      rcases h i hi with h | h
      · exact absurd (by simpa [namedZ] using h) hn
      · unfold bytesZ
        rw [bytesN_get 8 w i hi]; exact h
theorem within_spec' {w mask : Int} (h : u64R w) (h0 : 0 ≤ mask) (h1 : mask < 256) : G.Spec Try.prog 139 [uv w, u8 mask] (bv (withinZ w mask)) := by
  refine spec_of t_centoref20_within (by simp) fun w0 I0 => ?_
  unfold c_centoref20_within
  simp
  refine sc_call (rMix_spec h ⟨by omega, by omega⟩ h0 h1) rfl ?_
  simp
  exact frz_bool (mix_zero w mask)
set_option maxRecDepth 8000 in
theorem same_spec {e : E} (h : WfE e) : G.Spec Try.prog 180 [eX e] (bv (sameE e)) := by
  have hwl := h.wl
  have hkl := h.kl
  have hol := h.ol
  refine spec_of t_centoref20_same (by simp) fun w0 I0 => ?_
  unfold c_centoref20_same
  simp
  refine sc_call_gt rfl (fun _ => none_spec' h.o) (fun e => by simp [e]) rfl ?_
  simp
  refine sc_call_gt rfl (fun _ => none_spec' h.n) (fun e => by simp at e; simp [e]) rfl ?_
  have e1 : IntKind.i64.wrap ((e.words.length : Int) + e.kids.length) = (e.words.length : Int) + e.kids.length := i64_same (by omega) (by omega)
  have e2 : IntKind.i64.wrap ((e.words.length : Int) + e.kids.length + e.ops.length) = (e.words.length : Int) + e.kids.length + e.ops.length := i64_same (by omega) (by omega)
  simp [e1, e2]
  refine frz_bool ?_
  rw [Bool.eq_iff_iff]
  simp [sameE, List.isEmpty_iff, ← List.length_eq_zero_iff]
  omega
/-! ### lengths -/
theorem sat_range {n : Int} (h : 0 ≤ n) : 0 ≤ sat n ∧ sat n ≤ 1048576 := by unfold sat; split <;> omega
section
variable {n0 : Nat} {w0 : World} {I0 : Nat → Prop} {Q : Exit → Sta → Prop}
theorem len_k1 {Q' : Exit → Sta → Prop} {p i : A} {x y : Int} {H : Hp} (h : ∀ l, Q' .normal ⟨lk ((1, p) :: (4, iv (sat x)) :: (5, iv (sat y)) :: (6, i) :: l), H⟩) : WPC (cx Try.prog w0 I0 n0) k1_centoref20_Lengths Q' ⟨lk [(1, p), (4, iv x), (5, iv y), (6, i)], H⟩ := by
  rw [k1_centoref20_Lengths.eq_1]
  have h0 := h []
  have h1 := h [(45, bv false)]
  by_cases hx : 1048576 < x <;> by_cases hy : 1048576 < y <;> simp [hx, hy] <;> first
    | (simpa [sat, hx, hy] using h0)
    | (simpa [sat, hx, hy] using h1)
theorem len_k3 {Q' : Exit → Sta → Prop} {p i : A} {a b z : Int} {H : Hp} {o : OP} {u : Nat} (hz : z = opLen o) (a0 : 0 ≤ a) (a1 : a ≤ 1048576) (b0 : 0 ≤ b) (b1 : b ≤ 1048576) (z0 : 0 ≤ z) (z1 : z < 100000000000000) (hO : H [1] = ⟨u, .cells (iv o.kind :: iv o.n :: tKs o.l :: eL o.e)⟩)
    (h : ∀ l, Q' .normal ⟨lk ((1, p) :: (4, iv (sat (if o.kind ≠ 2 then a + opLen o else a))) :: (5, iv (sat (if o.kind ≠ 1 then b + opLen o else b))) :: (6, i) :: l), H⟩) : WPC (cx Try.prog w0 I0 n0) k3_centoref20_Lengths Q' ⟨lk [(1, p), (4, iv a), (5, iv b), (6, i), (7, .pob [1] u 0), (8, iv z)], H⟩ := by
  subst hz
  rw [k3_centoref20_Lengths.eq_1]
  have ea : IntKind.i64.wrap (a + opLen o) = a + opLen o := i64_same (by omega) (by omega)
  have eb : IntKind.i64.wrap (b + opLen o) = b + opLen o := i64_same (by omega) (by omega)
  by_cases h2 : o.kind = 2
  · simp [hO, h2]
    rw [k2_centoref20_Lengths.eq_1]
    simp [hO, h2, eb]
    refine len_k1 fun l => ?_
    simpa [h2] using h l
  · by_cases h1 : o.kind = 1
    · simp [hO, h1, ea]
      rw [k2_centoref20_Lengths.eq_1]
      simp [hO, h1]
      refine len_k1 fun l => ?_
      simpa [h1] using h l
    · simp [hO, h2, ea]
      rw [k2_centoref20_Lengths.eq_1]
      simp [hO, h1, eb]
      refine len_k1 fun l => ?_
      simpa [h1, h2] using h l
theorem lengths_l1 {e : E} (hl : e.ops.length * 240 ≤ 140737488355328) (ho : ∀ x, x ∈ e.ops → 0 ≤ x.n ∧ x.n ≤ 1048576 ∧ x.l.length * 56 ≤ 140737488355328) : ∀ (m i : Nat) (a b : Int) (H : Hp), i + m = e.ops.length → H [0] = ⟨1, .cells (eL e)⟩ → 0 ≤ a → a ≤ 1048576 → 0 ≤ b → b ≤ 1048576 →
    (∀ i' q H', Q (.exit 0) ⟨lk [(1, .pob [0] 1 0), (4, iv (lengths a b (e.ops.drop i)).1), (5, iv (lengths a b (e.ops.drop i)).2), (6, iv i'), (13, bv q)], H'⟩) →
    LoopC (cx Try.prog w0 I0 n0) l1_centoref20_Lengths Q ⟨lk [(1, .pob [0] 1 0), (4, iv a), (5, iv b), (6, iv i)], H⟩ := by
  intro m
  induction m with
  | zero =>
    intro i a b H hi hA a0 a1 b0 b1 hq
    have : i = e.ops.length := by omega
    subst this
    refine loopC_once mixed l1_centoref20_Lengths.eq_1 ?_
    simp [hA]
    simpa [lengths] using hq e.ops.length false H
  | succ m ih =>
    intro i a b H hi hA a0 a1 b0 b1 hq
    have hlt : i < e.ops.length := by omega
    have ed : e.ops.drop i = e.ops[i] :: e.ops.drop (i + 1) := List.drop_eq_getElem_cons hlt
    have ei : IntKind.i64.wrap ((i : Int) + 1) = ((i + 1 : Nat) : Int) := i64_same (by omega) (by omega)
    obtain ⟨n1, n2, n3⟩ := ho _ (List.getElem_mem hlt)
    rw [ed] at hq
    generalize ho' : e.ops[i] = o at *
    have h0 : 0 ≤ opLen o ∧ opLen o < 100000000000000 := by unfold opLen; split <;> omega
    have next : ∀ (a' b' : Int) H', H' [0] = ⟨1, .cells (eL e)⟩ → a' = sat (if o.kind ≠ 2 then a + opLen o else a) → b' = sat (if o.kind ≠ 1 then b + opLen o else b) → LoopC (cx Try.prog w0 I0 n0) l1_centoref20_Lengths Q ⟨lk [(1, .pob [0] 1 0), (4, iv a'), (5, iv b'), (6, iv ((i + 1 : Nat) : Int))], H'⟩ := fun a' b' H' hA' ha hb => by
      have s1 := sat_range (n := if o.kind ≠ 2 then a + opLen o else a) (by split <;> omega)
      have s2 := sat_range (n := if o.kind ≠ 1 then b + opLen o else b) (by split <;> omega)
      refine ih (i + 1) a' b' H' (by omega) hA' (by omega) (by omega) (by omega) (by omega) fun i' q H2 => ?_
      have := hq i' q H2
      rw [lengths, ← ha, ← hb] at this
      exact this
    refine loopC_once mixed l1_centoref20_Lengths.eq_1 ?_
    have e1 : IntKind.i64.wrap (o.n + (o.l.length : Int)) = o.n + o.l.length := i64_same (by omega) (by omega)
    simp [hlt, hA, ho', updF_app, e1]
    refine ⟨fun h3 => ?_, fun h3 => ?_⟩
    · refine len_k3 (o := o) (u := (H [1]).u + 1) (z := 1) (by simp [opLen, h3]) (by omega) (by omega) (by omega) (by omega) (by omega) (by omega) (by simp [updF_app]) fun l => ?_
      simp [ei]
      exact next _ _ _ (by simp [updF_app, hA]) (by simp) (by simp)
    · refine len_k3 (o := o) (u := (H [1]).u + 1) (z := o.n + o.l.length) (by simp [opLen, h3]) (by omega) (by omega) (by omega) (by omega) (by omega) (by omega) (by simp [updF_app]) fun l => ?_
      simp [ei]
      exact next _ _ _ (by simp [updF_app, hA]) (by simp) (by simp)
end
theorem rLengths_spec {e : E} (hl : e.ops.length * 240 ≤ 140737488355328) (ho : ∀ x, x ∈ e.ops → 0 ≤ x.n ∧ x.n ≤ 1048576 ∧ x.l.length * 56 ≤ 140737488355328) : G.Spec Try.prog 141 [eX e] (.tup [iv (lengths 0 0 e.ops).1, iv (lengths 0 0 e.ops).2]) := by
  refine spec_of t_centoref20_Lengths (by simp) fun w0 I0 => ?_
  unfold c_centoref20_Lengths
  simp
  refine lengths_l1 hl ho e.ops.length 0 0 0 _ (by omega) (by simp) (by omega) (by omega) (by omega) (by omega) fun i' q H' => ?_
  simp
  exact frz_bare rfl
/-! ### how many parts -/
section
variable {n0 : Nat} {w0 : World} {I0 : Nat → Prop} {Q : Exit → Sta → Prop}
abbrev LeftS (e : E) : Prop := ∀ (d : Nat) (n : Int), d ≤ 1000 → 0 ≤ n → n ≤ 1000000 → G.Spec Try.prog 137 [eX e, iv d, iv n] (iv (leftE d n e))
mutual
theorem leftE_range : ∀ (e : E) (d : Nat) (n : Int), -1 ≤ leftE d n e ∧ (-1 ≤ n → leftE d n e ≤ n)
  | .mk k o nn ws ks l os, d, n => by
    rw [leftE_mk]
    split
    · omega
    · rw [left2_eq]
      have h1 := shallow_range o 80 (n - 1 - ws.length - os.length)
      have h2 := shallow_range nn 80 (shallow 80 (n - 1 - ws.length - os.length) o)
      have h3 : -1 ≤ (if shallow 80 (n - 1 - ws.length - os.length) o < 0 then shallow 80 (n - 1 - ws.length - os.length) o else shallow 80 (shallow 80 (n - 1 - ws.length - os.length) o) nn) ∧ (if shallow 80 (n - 1 - ws.length - os.length) o < 0 then shallow 80 (n - 1 - ws.length - os.length) o else shallow 80 (shallow 80 (n - 1 - ws.length - os.length) o) nn) ≤ n := by split <;> omega
      generalize (if shallow 80 (n - 1 - ws.length - os.length) o < 0 then shallow 80 (n - 1 - ws.length - os.length) o else shallow 80 (shallow 80 (n - 1 - ws.length - os.length) o) nn) = x at h3
      have h4 := leftKs_range ks (d - 1) x h3.1
      have h5 := leftOs_range os (d - 1) (leftKs (d - 1) x ks) h4.1
      omega
theorem leftKs_range : ∀ (l : List KE) (d : Nat) (n : Int), -1 ≤ n → -1 ≤ leftKs d n l ∧ leftKs d n l ≤ n
  | [], d, n, h => by simp; omega
  | .mk a e :: l, d, n, h => by
    rw [leftKs_cons]
    split
    · omega
    · have h1 := leftE_range e d n
      have h2 := leftKs_range l d (leftE d n e) h1.1
      simp only [KE.e_mk]
      omega
theorem leftOs_range : ∀ (l : List OP) (d : Nat) (n : Int), -1 ≤ n → -1 ≤ leftOs d n l ∧ leftOs d n l ≤ n
  | [], d, n, h => by simp; omega
  | .mk k m t e :: l, d, n, h => by
    rw [leftOs_cons]
    split
    · omega
    · simp only [OP.e_mk, OP.l_mk]
      have h0 := shallowL_range t 80 n h
      have h1 := leftE_range e d (shallowL 80 n t)
      have h3 : -1 ≤ (if shallowL 80 n t < 0 then shallowL 80 n t else leftE d (shallowL 80 n t) e) ∧ (if shallowL 80 n t < 0 then shallowL 80 n t else leftE d (shallowL 80 n t) e) ≤ n := by split <;> omega
      have h2 := leftOs_range l d _ h3.1
      exact ⟨h2.1, Int.le_trans h2.2 h3.2⟩
end
theorem leftKs_neg (l : List KE) (d : Nat) {n : Int} (h : n < 0) : leftKs d n l = n := by cases l <;> simp [h]
theorem leftOs_neg (l : List OP) (d : Nat) {n : Int} (h : n < 0) : leftOs d n l = n := by cases l <;> simp [h]
theorem left_l1 {e : E} {d : Nat} (hd : 1 ≤ d) (hd1 : d ≤ 1000) (hl : e.kids.length * 208 ≤ 140737488355328) (ih : ∀ c, c ∈ e.kids → LeftS c.e)
    {H : Hp} (hH : H [0] = ⟨1, .cells (eL e)⟩) : ∀ (m i : Nat) (n : Int), i + m = e.kids.length → -1 ≤ n → n ≤ 1000000 →
    (∀ i' q, Q (.exit 0) ⟨lk [(1, iv d), (2, iv (leftKs (d - 1) n (e.kids.drop i))), (3, .pob [0] 1 0), (7, iv i'), (44, bv q)], H⟩) →
    LoopC (cx Try.prog w0 I0 n0) l1_centoref20_left Q ⟨lk [(1, iv d), (2, iv n), (3, .pob [0] 1 0), (7, iv i)], H⟩ := by
  intro m
  induction m with
  | zero =>
    intro i n hi h1 h2 hq
    have : i = e.kids.length := by omega
    subst this
    refine loopC_once mixed l1_centoref20_left.eq_1 ?_
    simp [hH]
    simpa using hq _ false
  | succ m ihm =>
    intro i n hi h1 h2 hq
    have hlt : i < e.kids.length := by omega
    refine loopC_once mixed l1_centoref20_left.eq_1 ?_
    have ed : e.kids.drop i = e.kids[i] :: e.kids.drop (i + 1) := List.drop_eq_getElem_cons hlt
    by_cases hn : n < 0
    · simp [hH, hlt, show ¬ (0 : Int) ≤ n by omega]
      have := hq i false
      rwa [leftKs_neg _ _ hn] at this
    · have hn' : 0 ≤ n := by omega
      simp [hH, hlt, hn']
      have edd : IntKind.i64.wrap ((d : Int) - 1) = ((d - 1 : Nat) : Int) := by rw [i64_same (by omega) (by omega)]; omega
      rw [edd]
      refine sc_call (ih _ (List.getElem_mem hlt) (d - 1) n (by omega) hn' h2) rfl ?_
      simp
      have hr := leftE_range e.kids[i].e (d - 1) n
      rw [i64_same (by omega) (by omega)]
      refine ihm (i + 1) _ (by omega) hr.1 (by omega) fun i' q => ?_
      have := hq i' q
      rw [ed, leftKs_cons, if_neg (by omega)] at this
      exact this
theorem left_l2 {e : E} {d : Nat} {i : Nat} (hi : i < e.ops.length) (hl : e.ops[i].l.length * 56 ≤ 140737488355328) (hw : ∀ t, t ∈ e.ops[i].l → wfT t)
    {H : Hp} (hH : H [0] = ⟨1, .cells (eL e)⟩) : ∀ (m j : Nat) (n : Int), j + m = e.ops[i].l.length → -1 ≤ n → n ≤ 1000000 →
    (∀ i' q, Q (.exit 4) ⟨lk [(1, iv d), (2, iv (shallowL 80 n (e.ops[i].l.drop j))), (3, .pob [0] 1 0), (8, iv i), (9, iv i'), (80, bv q)], H⟩) →
    LoopC (cx Try.prog w0 I0 n0) l2_centoref20_left Q ⟨lk [(1, iv d), (2, iv n), (3, .pob [0] 1 0), (8, iv i), (9, iv j)], H⟩ := by
  intro m
  induction m with
  | zero =>
    intro j n hj h1 h2 hq
    have : j = e.ops[i].l.length := by omega
    subst this
    refine loopC_once mixed l2_centoref20_left.eq_1 ?_
    simp [hH, hi]
    simpa using hq _ false
  | succ m ihm =>
    intro j n hj h1 h2 hq
    have hlt : j < e.ops[i].l.length := by omega
    refine loopC_once mixed l2_centoref20_left.eq_1 ?_
    have ed : e.ops[i].l.drop j = e.ops[i].l[j] :: e.ops[i].l.drop (j + 1) := List.drop_eq_getElem_cons hlt
    by_cases hn : n < 0
    · simp [hH, hi, hlt, show ¬ (0 : Int) ≤ n by omega]
      have := hq j false
      rwa [shallowL_neg _ _ hn] at this
    · have hn' : 0 ≤ n := by omega
      simp [hH, hi, hlt, hn']
      refine sc_call (shallow_spec _ (hw _ (List.getElem_mem hlt)) 80 n (by omega) hn' h2) rfl ?_
      simp
      have hr := shallow_range e.ops[i].l[j] 80 n
      rw [i64_same (by omega) (by omega)]
      refine ihm (j + 1) _ (by omega) hr.1 (by omega) fun i' q => ?_
      have := hq i' q
      rw [ed, shallowL_cons, if_neg (by omega)] at this
      exact this
theorem left_l3 {e : E} {d : Nat} (hd : 1 ≤ d) (hd1 : d ≤ 1000) (hl : e.ops.length * 240 ≤ 140737488355328) (hw : ∀ x, x ∈ e.ops → WfO x) (ih : ∀ c, c ∈ e.ops → LeftS c.e)
    {H : Hp} (hH : H [0] = ⟨1, .cells (eL e)⟩) : ∀ (m i : Nat) (n : Int), i + m = e.ops.length → -1 ≤ n → n ≤ 1000000 →
    (∀ i' q, Q (.exit 2) ⟨lk [(1, iv d), (2, iv (leftOs (d - 1) n (e.ops.drop i))), (3, .pob [0] 1 0), (8, iv i'), (65, bv q)], H⟩) →
    LoopC (cx Try.prog w0 I0 n0) l3_centoref20_left Q ⟨lk [(1, iv d), (2, iv n), (3, .pob [0] 1 0), (8, iv i)], H⟩ := by
  intro m
  induction m with
  | zero =>
    intro i n hi h1 h2 hq
    have : i = e.ops.length := by omega
    subst this
    refine loopC_once mixed l3_centoref20_left.eq_1 ?_
    simp [hH]
    simpa using hq _ false
  | succ m ihm =>
    intro i n hi h1 h2 hq
    have hlt : i < e.ops.length := by omega
    refine loopC_once mixed l3_centoref20_left.eq_1 ?_
    have ed : e.ops.drop i = e.ops[i] :: e.ops.drop (i + 1) := List.drop_eq_getElem_cons hlt
    have hwo := hw _ (List.getElem_mem hlt)
    by_cases hn : n < 0
    · simp [hH, hlt, show ¬ (0 : Int) ≤ n by omega]
      have := hq i false
      rwa [leftOs_neg _ _ hn] at this
    · have hn' : 0 ≤ n := by omega
      have hs := shallowL_range e.ops[i].l 80 n h1
      have ei : IntKind.i64.wrap ((i : Int) + 1) = ((i + 1 : Nat) : Int) := i64_same (by omega) (by omega)
      simp [hH, hlt, hn']
      refine left_l2 hlt hwo.ll hwo.l hH e.ops[i].l.length 0 n (by omega) h1 h2 fun i' q => ?_
      by_cases hsn : shallowL 80 n e.ops[i].l < 0
      · simp [show ¬ (0 : Int) ≤ shallowL 80 n e.ops[i].l by omega, ei]
        refine ihm (i + 1) _ (by omega) hs.1 (by omega) fun i' q => ?_
        have := hq i' q
        rw [ed, leftOs_cons, if_neg (by omega), if_pos hsn] at this
        exact this
      · have hsn' : 0 ≤ shallowL 80 n e.ops[i].l := by omega
        simp [hsn', hH, hlt]
        have edd : IntKind.i64.wrap ((d : Int) - 1) = ((d - 1 : Nat) : Int) := by rw [i64_same (by omega) (by omega)]; omega
        rw [edd]
        refine sc_call (ih _ (List.getElem_mem hlt) (d - 1) _ (by omega) hsn' (by omega)) rfl ?_
        have hr := leftE_range e.ops[i].e (d - 1) (shallowL 80 n e.ops[i].l)
        simp [ei]
        refine ihm (i + 1) _ (by omega) hr.1 (by omega) fun i' q => ?_
        have := hq i' q
        rw [ed, leftOs_cons, if_neg (by omega), if_neg hsn] at this
        exact this
end
theorem left_spec : ∀ (e : E), wfE e → LeftS e := by
  refine E.ind fun k o nn ws ks l os ihk iho hw d n hd hn hn1 => ?_
  have h := wfE_iff.1 hw
  have hwl := h.wl
  have hkl := h.kl
  have hol := h.ol
  simp at hwl hkl hol
  refine spec_of t_centoref20_left (by simp) fun w0 I0 => ?_
  unfold c_centoref20_left
  have e1 : IntKind.i64.wrap (IntKind.i64.wrap (IntKind.i64.wrap (n - 1) - (ws.length : Int)) - (os.length : Int)) = n - 1 - ws.length - os.length := by
    rw [i64_same (n := n - 1) (by omega) (by omega), i64_same (n := n - 1 - ws.length) (by omega) (by omega), i64_same (by omega) (by omega)]
  rw [leftE_mk]
  by_cases hc : d = 0 ∨ n - 1 - (ws.length : Int) - (os.length : Int) < 0
  · have hd : (decide (d = 0) || decide (n - 1 - (ws.length : Int) - (os.length : Int) < 0)) = true := by simp; omega
    simp [e1, hd, hc]
    exact frz_bare rfl
  · have hd : (decide (d = 0) || decide (n - 1 - (ws.length : Int) - (os.length : Int) < 0)) = false := by simp; omega
    simp [e1, hd, hc]
    refine sc_call (shallow_spec o h.o 80 _ (by omega) (by omega) (by omega)) rfl ?_
    have hr := shallow_range o 80 (n - 1 - ws.length - os.length)
    have go : ∀ (x : Int), x = left2 n ws.length os.length o nn → -1 ≤ x → x ≤ 1000000 → WPC (cx Try.prog w0 I0 107) k1_centoref20_left (RetC Try.prog [.tmp 6] (iv (leftOs (d - 1) (leftKs (d - 1) (left2 n ws.length os.length o nn) ks) os))) ⟨lk [(1, iv d), (2, iv x), (3, .pob [0] 1 0)], lkH [([0], ⟨1, .cells (eL (.mk k o nn ws ks l os))⟩)]⟩ := fun x hx h1 h2 => by
      rw [k1_centoref20_left.eq_1, ← hx]
      simp
      refine left_l1 (e := .mk k o nn ws ks l os) (by omega) (by omega) (by simpa using hkl) (fun c hc => ihk c hc (h.ks c hc).2) (by simp) ks.length 0 x (by simp) h1 h2 fun i' q => ?_
      have hr2 := leftKs_range ks (d - 1) x h1
      simp
      refine left_l3 (e := .mk k o nn ws ks l os) (by omega) (by omega) (by simpa using hol) (fun c hc => h.os c hc) (fun c hc => iho c hc (h.os c hc).e) (by simp) os.length 0 _ (by simp) hr2.1 (by omega) fun i' q => ?_
      simp
      exact frz_bare rfl
    by_cases hs : shallow 80 (n - 1 - ws.length - os.length) o < 0
    · simp [show ¬ (0 : Int) ≤ shallow 80 (n - 1 - ws.length - os.length) o by omega]
      exact go _ (by rw [left2_eq, if_pos hs]) hr.1 (by omega)
    · simp [show (0 : Int) ≤ shallow 80 (n - 1 - ws.length - os.length) o by omega]
      refine sc_call (shallow_spec nn h.n 80 _ (by omega) (by omega) (by omega)) rfl ?_
      have hr2 := shallow_range nn 80 (shallow 80 (n - 1 - ws.length - os.length) o)
      simp
      exact go _ (by rw [left2_eq, if_neg hs]) hr2.1 (by omega)
def fewE (e : E) : Bool := decide (0 ≤ leftE 80 3000 e)
theorem fewE_spec {e : E} (h : wfE e) : G.Spec Try.prog 88 [eX e] (bv (fewE e)) := by
  refine spec_of t_centoref20_Few (by simp) fun w0 I0 => ?_
  unfold c_centoref20_Few
  simp
  refine sc_call (left_spec e h 80 3000 (by omega) (by omega) (by omega)) rfl ?_
  simp
  exact frz_bare rfl
end Go.Proofs.Ytehcobkphobjiaa

/-
  Plain: a right edit takes as many words as the Norm of its tree, and one.
-/
namespace Go.PL
set_option linter.unusedVariables false
set_option linter.unusedSimpArgs false
theorem kids_at {d : Nat} : ∀ {ks : List KE} {last : Int}, rightKs d last ks = true → ∀ x, x ∈ ks → last < x.at_ ∧ x.at_ ≤ 65534 ∧ x.e.kind ≠ 0 ∧ rightE d x.e = true
  | y :: ks, last, h, x, hx => by
    simp at h
    obtain ⟨⟨⟨⟨h1, h2⟩, h3⟩, h4⟩, h5⟩ := h
    rcases List.mem_cons.1 hx with rfl | hx
    · exact ⟨h1, h2, h3, h4⟩
    · obtain ⟨a, b, c⟩ := kids_at h5 x hx
      exact ⟨by omega, b, c⟩
theorem noneT_eq {t : T} (h : noneT t = true) : t = T0 := by
  obtain ⟨k, w, l⟩ := t
  simp [noneT] at h
  obtain ⟨⟨h1, rfl⟩, rfl⟩ := h
  rw [of_decide_eq_true h1]
theorem headOk_spec {d : Nat} {k : Int} {o n : T} {nw nk : Nat} {l : Int} {no : Nat} (h : ¬ headOk d k o n nw nk l no = false) : d ≠ 0 ∧ 0 ≤ k ∧ k ≤ 3 ∧ (k ≠ 1 → o = T0 ∧ n = T0) ∧ (k ≠ 2 → nw = 0 ∧ nk = 0) ∧ (k ≠ 3 → l = 0 ∧ no = 0) := by
  have h : headOk d k o n nw nk l no = true := by simpa using h
  unfold headOk at h
  simp only [Bool.and_eq_true, Bool.not_eq_true', Bool.or_eq_false_iff, Bool.and_eq_false_iff, decide_eq_false_iff_not, decide_eq_true_eq, Bool.not_eq_false'] at h
  obtain ⟨⟨⟨a, b⟩, c⟩, ⟨d1, e⟩, f⟩ := h
  refine ⟨a, by omega, by omega, fun h1 => ?_, fun h2 => ?_, fun h3 => ?_⟩
  · rcases d1 with d1 | d1
    · exact absurd d1 h1
    · exact ⟨noneT_eq d1.1, noneT_eq d1.2⟩
  · rcases e with e | e
    · exact absurd e h2
    · omega
  · rcases f with f | f
    · exact absurd f h3
    · exact ⟨f.1, by omega⟩
/-! ### lists -/
end Go.PL

/-
  The document's edits: which ones are right, and light.
-/
namespace Go.Proofs.Ytehcobkphobjiaa
set_option linter.unusedVariables false
set_option linter.unusedSimpArgs false
open Go Go.G Go.Proofs Go.PL
abbrev RightS (e : E) : Prop := ∀ d : Nat, d ≤ 1000 → G.Spec Try.prog 89 [eX e, iv d] (bv (rightE d e))
section
variable {n0 : Nat} {w0 : World} {I0 : Nat → Prop} {Q : Exit → Sta → Prop}
theorem op_l1 {o : OP} {list : Int} (hk : i64R list) (hl : o.l.length * 56 ≤ 140737488355328) (hw : ∀ t, t ∈ o.l → wfT t) {H : Hp} (hO : H [0] = ⟨1, .cells (iv o.kind :: iv o.n :: tKs o.l :: eL o.e)⟩) : ∀ (m i : Nat), i + m = o.l.length →
    (((o.l.drop i).all fun t => rightT 64 (.mk list [] [t])) = true → ∀ i' q, Q (.exit 0) ⟨lk [(0, iv list), (4, .pob [0] 1 0), (7, iv i'), (50, bv q)], H⟩) → (((o.l.drop i).all fun t => rightT 64 (.mk list [] [t])) = false → Q .ret ⟨lk [(6, bv false)], H⟩) →
    LoopC (cx Try.prog w0 I0 n0) l1_centoref20_op Q ⟨lk [(0, iv list), (4, .pob [0] 1 0), (7, iv i)], H⟩ := by
  intro m
  induction m with
  | zero =>
    intro i hi h1 h2
    have : i = o.l.length := by omega
    subst this
    refine loopC_once mixed l1_centoref20_op.eq_1 ?_
    simp [hO]
    exact h1 (by simp) _ _
  | succ m ihm =>
    intro i hi h1 h2
    have hlt : i < o.l.length := by omega
    have ed : o.l.drop i = o.l[i] :: o.l.drop (i + 1) := List.drop_eq_getElem_cons hlt
    have ei : IntKind.i64.wrap ((i : Int) + 1) = ((i + 1 : Nat) : Int) := i64_same (by omega) (by omega)
    have et : List.take 1 (List.drop i (o.l.map tA)) = [tX o.l[i]] := by rw [← List.map_drop, ed, List.map_cons, List.take_succ_cons, List.take_zero, tA_eq]
    have hwt : wfT (.mk list [] [o.l[i]]) := wfT_iff.2 ⟨hk, by simp, by simp, by simp, fun x hx => by simp at hx; rw [hx]; exact hw _ (List.getElem_mem hlt)⟩
    have h01 : (i : Int) ≤ (i : Int) + 1 := by omega
    have h02 : (i : Int) + 1 ≤ o.l.length := by omega
    rw [ed] at h1 h2
    refine loopC_once mixed l1_centoref20_op.eq_1 ?_
    have h03 : (0 : Int) ≤ (i : Int) + 1 := by omega
    simp [hO, hlt, ei, h01, h02, h03, et]
    refine sc_calle rfl ((rRight_spec (.mk list [] [o.l[i]]) hwt 64 (by omega)).soft (by simp [A.softL, A.soft, soft_uv, soft_tKs])) rfl ?_
    cases hr : rightT 64 (.mk list [] [o.l[i]]) with
    | false =>
      simp
      exact h2 (by simp only [List.all_cons, hr, Bool.false_and])
    | true =>
      simp [ei]
      exact ihm (i + 1) (by omega) (fun hh => h1 (by simp only [List.all_cons, hr, Bool.true_and]; exact hh)) (fun hh => h2 (by simp only [List.all_cons, hr, Bool.true_and]; exact hh))
end
set_option maxRecDepth 8000 in
theorem op_spec {list : Int} (hk : i64R list) {o : OP} (h : WfO o) (ih : RightS o.e) {d : Nat} (hd : d ≤ 1000) : G.Spec Try.prog 140 [iv list, oX o, iv d] (bv (rightO d list o)) := by
  have he := wfE_iff.1 h.e
  have hll := h.ll
  refine spec_of t_centoref20_op (by simp) fun w0 I0 => ?_
  unfold c_centoref20_op
  rw [rightO_eq]
  by_cases h0 : o.kind = 0
  · have h3 : ¬ o.kind = 3 := by omega
    simp [h0]
    refine sc_call_gt rfl (fun _ => same_spec he) (fun e => by simp at e; simp [e]) rfl ?_
    simp
    refine frz_bool ?_
    cases hl : o.l <;> simp [opFlat, h0, hl]
  · have h3n : (o.kind < 3 → ¬ o.kind = 3) := fun h => by omega
    simp [h0]
    refine ⟨fun hc => ?_, fun n0 k0 k3 => ⟨fun hlt => ?_, fun hge => ?_⟩⟩
    · have : opFlat list o = false := by
        unfold opFlat
        rw [if_neg h0, if_pos (by omega)]
      exact frz_bool (by simp [this])
    · have hk3 : ¬ o.kind = 3 := by omega
      have hf : opFlat list o = ((o.l.all fun t => rightT 64 (.mk list [] [t])) && !o.l.isEmpty && sameE o.e) := by
        unfold opFlat
        rw [if_neg h0, if_neg (by omega), if_pos hlt]
      refine op_l1 (o := o) hk hll h.l (by simp) o.l.length 0 (by omega) (fun hr i' q => ?_) (fun hr => ?_)
      · simp at hr
        simp
        refine sc_call_gt rfl (fun _ => same_spec he) (fun e => by simp at e; simp [e]) rfl ?_
        simp
        refine frz_bool ?_
        have hr' : (o.l.all fun t => rightT 64 (.mk list [] [t])) = true := by simpa using hr
        rw [hf, hr']
        cases hl : o.l <;> simp [hk3]
      · simp
        refine frz_bool ?_
        simp only [List.drop_zero] at hr
        rw [hf, hr]
        simp
    · have hk3 : o.kind = 3 := by omega
      have hf : opFlat list o = true := by
        unfold opFlat
        rw [if_neg h0, if_neg (by omega), if_neg (by omega)]
      refine sc_call_gf rfl (fun _ => ih d hd) (fun e => by simp at e; have := Int.not_le.2 e.2; simp [this, e.1.1, e.1.2]) rfl ?_
      have hop : opDeep list o = (!decide (0 < o.l.length) && !decide (o.e.kind = 0) && !decide (list ≤ 7)) := by
        cases hl : o.l <;> simp [opDeep, hl]
      simp
      refine ⟨fun hc => ?_, fun a b c hr => ?_⟩
      · refine frz_bool ?_
        rw [hop, hf]
        cases hr : rightE d o.e
        · simp [hk3]
        · simp only [hr, Bool.true_eq_false, or_false] at hc
          rcases hc with (hc | hc) | hc <;> simp [hk3, hc]
      · have hl0 : ¬ 0 < o.l.length := by simp [a]
        have hfit : Frz (lkH [([0], { u := 1, ob := Ob.cells (iv o.kind :: iv o.n :: tKs o.l :: eL o.e) })]) (bv (opFit list o)) (bv (opFlat list o && (!decide (o.kind = 3) || opDeep list o && rightE d o.e && opFit list o))) := by
          refine frz_bool ?_
          rw [hop, hf, hr]
          have c' := Int.not_le.2 c
          simp [hk3, hl0, b, c']
        by_cases l8 : list = 8
        · simp [l8]
          simpa [l8, opFit] using hfit
        · by_cases k2 : o.e.kind = 2
          · simp [l8, k2]
            simpa [l8, k2, opFit] using hfit
          · by_cases k1 : o.e.kind = 1
            · by_cases x1 : o.e.old.kind = 1
              · simp [l8, k2, k1, x1]
                simpa [l8, k2, k1, x1, opFit] using hfit
              · simp [l8, k2, k1, x1]
                simpa [l8, k2, k1, x1, opFit] using hfit
            · simp [l8, k2, k1]
              simpa [l8, k2, k1, opFit] using hfit
/-! ### an edit -/
section
variable {n0 : Nat} {w0 : World} {I0 : Nat → Prop} {Q : Exit → Sta → Prop}
theorem eright_l1 {e : E} {d : Nat} (hl : e.words.length * 32 ≤ 140737488355328) (hw : ∀ x, x ∈ e.words → WE.wf x) : ∀ (m i : Nat) (last : Int) (H : Hp), i + m = e.words.length → H [0] = ⟨1, .cells (eL e)⟩ →
    (wordsOk last (e.words.drop i) = true → ∀ i' z q H', H' [0] = ⟨1, .cells (eL e)⟩ → Q (.exit 0) ⟨lk [(1, iv d), (2, .pob [0] 1 0), (5, iv z), (6, iv i'), (97, bv q)], H'⟩) → (wordsOk last (e.words.drop i) = false → ∀ H', Q .ret ⟨lk [(4, bv false)], H'⟩) →
    LoopC (cx Try.prog w0 I0 n0) l1_centoref20_Right Q ⟨lk [(1, iv d), (2, .pob [0] 1 0), (5, iv last), (6, iv i)], H⟩ := by
  intro m
  induction m with
  | zero =>
    intro i last H hi hA h1 h2
    have : i = e.words.length := by omega
    subst this
    refine loopC_once mixed l1_centoref20_Right.eq_1 ?_
    simp [hA]
    exact h1 (by simp [wordsOk]) _ _ _ _ hA
  | succ m ihm =>
    intro i last H hi hA h1 h2
    have hlt : i < e.words.length := by omega
    have ed : e.words.drop i = e.words[i] :: e.words.drop (i + 1) := List.drop_eq_getElem_cons hlt
    have ei : IntKind.i64.wrap ((i : Int) + 1) = ((i + 1 : Nat) : Int) := i64_same (by omega) (by omega)
    obtain ⟨w1, w2, w3, w4⟩ := hw _ (List.getElem_mem hlt)
    rw [ed, wordsOk] at h1 h2
    generalize hx : e.words[i] = x at *
    refine loopC_once mixed l1_centoref20_Right.eq_1 ?_
    simp [hA, hlt, hx, updF_app]
    refine sc_call_gf rfl (fun _ => within_spec' w3 w2.1 w2.2) (fun e => by simp only [Bool.or_eq_false_iff] at e; simp [e]) rfl ?_
    simp
    refine sc_call_gf rfl (fun _ => within_spec' w4 w2.1 w2.2) (fun e => by simp only [Bool.or_eq_false_iff] at e; simp [e]) rfl ?_
    simp
    have hok : wordOk last x = !(decide (x.at_ ≤ last) || decide (65534 < x.at_) || decide (x.mask = 0) || !withinZ x.old x.mask || !withinZ x.new x.mask) := rfl
    refine ⟨fun hc => h2 ?_ _, fun a b c d e => ?_⟩
    · have : wordOk last x = false := by
        rw [hok]
        rcases hc with (((hc | hc) | hc) | hc) | hc <;> simp [hc]
      simp [this]
    · have : wordOk last x = true := by
        rw [hok]
        simp [c, d, e]
        omega
      simp [this] at h1 h2
      simp [ei, updF_app]
      exact ihm (i + 1) x.at_ _ (by omega) (by simp [updF_app, hA]) (fun hh i' z q H' hh' => by have := h1 hh i' z; cases q; exact this.1 H' hh'; exact this.2 H' hh') (fun hh => h2 hh)
theorem eright_l2 {e : E} {d : Nat} (hd : 1 ≤ d) (hd1 : d ≤ 1000) (hl : e.kids.length * 208 ≤ 140737488355328) (ih : ∀ x, x ∈ e.kids → RightS x.e) : ∀ (m i : Nat) (last : Int) (H : Hp), i + m = e.kids.length → H [0] = ⟨1, .cells (eL e)⟩ →
    (rightKs (d - 1) last (e.kids.drop i) = true → ∀ i' z q H', H' [0] = ⟨1, .cells (eL e)⟩ → Q (.exit 2) ⟨lk [(1, iv d), (2, .pob [0] 1 0), (5, iv z), (8, iv i'), (141, bv q)], H'⟩) → (rightKs (d - 1) last (e.kids.drop i) = false → ∀ H', Q .ret ⟨lk [(4, bv false)], H'⟩) →
    LoopC (cx Try.prog w0 I0 n0) l2_centoref20_Right Q ⟨lk [(1, iv d), (2, .pob [0] 1 0), (5, iv last), (8, iv i)], H⟩ := by
  intro m
  induction m with
  | zero =>
    intro i last H hi hA h1 h2
    have : i = e.kids.length := by omega
    subst this
    refine loopC_once mixed l2_centoref20_Right.eq_1 ?_
    simp [hA]
    exact h1 (by simp) _ _ _ _ hA
  | succ m ihm =>
    intro i last H hi hA h1 h2
    have hlt : i < e.kids.length := by omega
    have ed : e.kids.drop i = e.kids[i] :: e.kids.drop (i + 1) := List.drop_eq_getElem_cons hlt
    have ei : IntKind.i64.wrap ((i : Int) + 1) = ((i + 1 : Nat) : Int) := i64_same (by omega) (by omega)
    have edd : IntKind.i64.wrap ((d : Int) - 1) = ((d - 1 : Nat) : Int) := by rw [i64_same (by omega) (by omega)]; omega
    have ihx := ih _ (List.getElem_mem hlt) (d - 1) (by omega)
    rw [ed, rightKs_cons] at h1 h2
    generalize hx : e.kids[i] = x at *
    refine loopC_once mixed l2_centoref20_Right.eq_1 ?_
    simp [hA, hlt, hx, updF_app, edd]
    refine sc_call_gf rfl (fun _ => ihx) (fun e => by simp only [Bool.or_eq_false_iff] at e; simp [e]) rfl ?_
    simp
    refine ⟨fun hc => h2 ?_ _, fun a b c hr => ?_⟩
    · rcases hc with ((hc | hc) | hc) | hc <;> simp [hc]
    · have c' : ¬ x.e.kind = 0 := c
      have a' : ¬ x.at_ ≤ last := by omega
      have b' : ¬ 65534 < x.at_ := by omega
      simp [a', b', c', hr] at h1 h2
      simp [ei, updF_app]
      exact ihm (i + 1) x.at_ _ (by omega) (by simp [updF_app, hA]) (fun hh i' z q H' hh' => by have := h1 hh i' z; cases q; exact this.1 H' hh'; exact this.2 H' hh') (fun hh => h2 hh)
theorem eright_l3 {e : E} {d : Nat} (hd : 1 ≤ d) (hd1 : d ≤ 1000) (hl : e.ops.length * 240 ≤ 140737488355328) (hk : i64R e.list) (hw : ∀ x, x ∈ e.ops → WfO x) (ih : ∀ x, x ∈ e.ops → RightS x.e) {H : Hp} (hA : H [0] = ⟨1, .cells (eL e)⟩) : ∀ (m i : Nat), i + m = e.ops.length →
    (rightOs (d - 1) e.list (e.ops.drop i) = true → ∀ i' q, Q (.exit 4) ⟨lk [(1, iv d), (2, .pob [0] 1 0), (10, iv i'), (191, bv q)], H⟩) → (rightOs (d - 1) e.list (e.ops.drop i) = false → Q .ret ⟨lk [(4, bv false)], H⟩) →
    LoopC (cx Try.prog w0 I0 n0) l3_centoref20_Right Q ⟨lk [(1, iv d), (2, .pob [0] 1 0), (10, iv i)], H⟩ := by
  intro m
  induction m with
  | zero =>
    intro i hi h1 h2
    have : i = e.ops.length := by omega
    subst this
    refine loopC_once mixed l3_centoref20_Right.eq_1 ?_
    simp [hA]
    exact h1 (by simp) _ _
  | succ m ihm =>
    intro i hi h1 h2
    have hlt : i < e.ops.length := by omega
    have ed : e.ops.drop i = e.ops[i] :: e.ops.drop (i + 1) := List.drop_eq_getElem_cons hlt
    have ei : IntKind.i64.wrap ((i : Int) + 1) = ((i + 1 : Nat) : Int) := i64_same (by omega) (by omega)
    have edd : IntKind.i64.wrap ((d : Int) - 1) = ((d - 1 : Nat) : Int) := by rw [i64_same (by omega) (by omega)]; omega
    have hop := op_spec hk (hw _ (List.getElem_mem hlt)) (ih _ (List.getElem_mem hlt)) (d := d - 1) (by omega)
    rw [ed, rightOs_cons] at h1 h2
    refine loopC_once mixed l3_centoref20_Right.eq_1 ?_
    simp [hA, hlt, edd]
    refine sc_call hop rfl ?_
    cases hr : rightO (d - 1) e.list e.ops[i] with
    | false =>
      simp
      exact h2 (by simp [hr])
    | true =>
      simp [ei]
      exact ihm (i + 1) (by omega) (fun hh => h1 (by simp [hr, hh])) (fun hh => h2 (by simp [hh]))
end
theorem op_n {d : Nat} {list : Int} {o : OP} (h : rightO d list o = true) : 0 ≤ o.n ∧ o.n ≤ 1048576 := by
  rw [rightO_eq, Bool.and_eq_true] at h
  have h1 := h.1
  unfold opFlat at h1
  split at h1
  · simp at h1; omega
  · split at h1
    · cases h1
    · omega
theorem headOk_of {d : Nat} {k : Int} {o n : T} {nw nk : Nat} {l : Int} {no : Nat} (hd : ¬ d = 0) (k0 : 0 ≤ k) (k3 : k ≤ 3) (c1 : k ≠ 1 → noneT o = true ∧ noneT n = true) (c2 : k ≠ 2 → nw + nk = 0) (c3 : k ≠ 3 → l = 0 ∧ no = 0) : headOk d k o n nw nk l no = true := by
  unfold headOk
  have h1 : decide (d = 0) = false := by simpa using hd
  have h2 : decide (k < 0) = false := by simp; omega
  have h3 : decide (k > 3) = false := by simp; omega
  rw [h1, h2, h3]
  have a1 : (!decide (k = 1) && !(noneT o && noneT n)) = false := by
    by_cases e : k = 1
    · simp [e]
    · simp [c1 e]
  have a2 : (!decide (k = 2) && decide (nw + nk > 0)) = false := by
    by_cases e : k = 2
    · simp [e]
    · simp [c2 e]
  have a3 : (!decide (k = 3) && (!decide (l = 0) || decide (no > 0))) = false := by
    by_cases e : k = 3
    · simp [e]
    · simp [c3 e]
  rw [a1, a2, a3]; rfl
set_option maxRecDepth 10000 in
theorem eright_spec : ∀ (e : E), wfE e → RightS e := by
  refine E.ind fun k o nn ws ks l os ihk iho hw d hd => ?_
  have h := wfE_iff.1 hw
  have hwl := h.wl
  have hkl := h.kl
  have hol := h.ol
  simp at hwl hkl hol
  refine spec_of t_centoref20_Right (by simp) fun w0 I0 => ?_
  unfold c_centoref20_Right
  rw [rightE_mk]
  by_cases hd0 : d = 0 ∨ k < 0 ∨ 3 < k
  · have hb : (decide (d = 0) || decide (k < 0) || decide (3 < k)) = true := by simp; omega
    simp [hb]
    refine frz_bool ?_
    have : headOk d k o nn ws.length ks.length l os.length = false := by simp only [headOk, hb, gt_iff_lt, Bool.not_true, Bool.false_and]
    simp [this]
  have hb : (decide (d = 0) || decide (k < 0) || decide (3 < k)) = false := by simp; omega
  have e1 : IntKind.i64.wrap ((ws.length : Int) + ks.length) = (ws.length : Int) + ks.length := i64_same (by omega) (by omega)
  have hd00 : ¬ d = 0 := by omega
  have wz : IntKind.i64.wrap 0 = 0 := by decide
  have ihk' : ∀ x, x ∈ (E.mk k o nn ws ks l os).kids → RightS x.e := fun x hx => ihk x hx (h.ks x hx).2
  have iho' : ∀ x, x ∈ (E.mk k o nn ws ks l os).ops → RightS x.e := fun x hx => iho x hx (h.os x hx).e
  have fz : ∀ (b : Bool) (H : Hp), b = false → Frz H (.v (.bool false)) (bv b) := fun b H hb => frz_bool hb.symm
  cases hh : headOk d k o nn ws.length ks.length l os.length with
  | false =>
    rw [if_pos rfl]
    by_cases h1 : k = 1
    · subst h1
      simp [e1, hd00]
      refine sc_call_off rfl ?_
      simp
      refine sc_call_off rfl ?_
      by_cases a1 : (0 : Int) < (ws.length : Int) + ks.length
      · simp [e1, a1]; exact fz _ _ rfl
      · by_cases a2 : l = 0
        · by_cases a3 : 0 < os.length
          · simp [e1, a1, a2, a3]; exact fz _ _ rfl
          · have : headOk d 1 o nn ws.length ks.length l os.length = true := headOk_of hd00 (by omega) (by omega) (fun h => absurd rfl h) (fun _ => by omega) (fun _ => ⟨a2, by omega⟩)
            rw [hh] at this; cases this
        · simp [e1, a1, a2]; exact fz _ _ rfl
    · simp [hb, h1, e1]
      refine sc_call_gt rfl (fun _ => none_spec' h.o) (fun _ => rfl) rfl ?_
      simp [h1, e1]
      refine sc_call_gt rfl (fun _ => none_spec' h.n) (fun e => by simp [e]) rfl ?_
      cases n1 : noneT o with
      | false => cases n2 : noneT nn <;> (simp [n1, n2, e1]; exact fz _ _ rfl)
      | true =>
        cases n2 : noneT nn with
        | false => simp [n1, n2, e1]; exact fz _ _ rfl
        | true =>
          by_cases k2 : k = 2
          · subst k2
            by_cases a2 : l = 0
            · by_cases a3 : 0 < os.length
              · simp [e1, a2, a3]; exact fz _ _ rfl
              · have : headOk d 2 o nn ws.length ks.length l os.length = true := headOk_of hd00 (by omega) (by omega) (fun _ => ⟨n1, n2⟩) (fun h => absurd rfl h) (fun _ => ⟨a2, by omega⟩)
                rw [hh] at this; cases this
            · simp [e1, a2]; exact fz _ _ rfl
          · by_cases a1 : (0 : Int) < (ws.length : Int) + ks.length
            · simp [e1, k2, a1]; exact fz _ _ rfl
            · by_cases k3 : k = 3
              · have : headOk d k o nn ws.length ks.length l os.length = true := headOk_of hd00 (by omega) (by omega) (fun _ => ⟨n1, n2⟩) (fun _ => by omega) (fun h => absurd k3 h)
                rw [hh] at this; cases this
              · by_cases a2 : l = 0
                · by_cases a3 : 0 < os.length
                  · simp [e1, k2, k3, a1, a2, a3]; exact fz _ _ rfl
                  · have : headOk d k o nn ws.length ks.length l os.length = true := headOk_of hd00 (by omega) (by omega) (fun _ => ⟨n1, n2⟩) (fun _ => by omega) (fun _ => ⟨a2, by omega⟩)
                    rw [hh] at this; cases this
                · simp [e1, k2, k3, a1, a2]; exact fz _ _ rfl
  | true =>
    rw [if_neg (by simp)]
    obtain ⟨_, k0, k3, c1, c2, c3⟩ := headOk_spec (by rw [hh]; simp)
    by_cases h1 : k = 1
    · subst h1
      obtain ⟨w0', s0⟩ := c2 (by omega)
      obtain ⟨l0, o0⟩ := c3 (by omega)
      have hws : ws = [] := List.eq_nil_of_length_eq_zero w0'
      have hks : ks = [] := List.eq_nil_of_length_eq_zero s0
      have hos : os = [] := List.eq_nil_of_length_eq_zero o0
      subst hws hks hos l0
      simp [e1, hd00]
      refine sc_call_off rfl ?_
      simp
      refine sc_call_off rfl ?_
      simp [wz]
      refine sc_call (rRight_spec o h.o 64 (by omega)) rfl ?_
      simp
      refine sc_call_gt rfl (fun _ => rRight_spec nn h.n 64 (by omega)) (fun e => by simp [e]) rfl ?_
      simp
      exact frz_bool (by simp [Bool.and_assoc])
    · obtain ⟨rfl, rfl⟩ := c1 h1
      have nT : noneT T0 = true := rfl
      have cases3 : k = 2 ∧ l = 0 ∧ os = [] ∨ k = 3 ∧ ws = [] ∧ ks = [] ∨ k = 0 ∧ ws = [] ∧ ks = [] ∧ l = 0 ∧ os = [] := by
        by_cases k2 : k = 2
        · obtain ⟨l0, o0⟩ := c3 (by omega)
          exact .inl ⟨k2, l0, List.eq_nil_of_length_eq_zero o0⟩
        · obtain ⟨w0', s0⟩ := c2 k2
          by_cases k3 : k = 3
          · exact .inr (.inl ⟨k3, List.eq_nil_of_length_eq_zero w0', List.eq_nil_of_length_eq_zero s0⟩)
          · obtain ⟨l0, o0⟩ := c3 k3
            exact .inr (.inr ⟨by omega, List.eq_nil_of_length_eq_zero w0', List.eq_nil_of_length_eq_zero s0, l0, List.eq_nil_of_length_eq_zero o0⟩)
      rw [if_neg h1]
      clear c1 c2 c3 hh h1 k0 k3 ihk iho
      rcases cases3 with ⟨rfl, rfl, rfl⟩ | ⟨rfl, rfl, rfl⟩ | ⟨rfl, rfl, rfl, rfl, rfl⟩
      all_goals
        simp [hd00, e1]
        refine sc_call_gt rfl (fun _ => none_spec' h.o) (fun _ => rfl) rfl ?_
        simp [nT, e1]
        refine sc_call_gt rfl (fun _ => none_spec' h.n) (fun e => by simp [e]) rfl ?_
        simp [nT, e1, wz]
        refine eright_l1 (hl := h.wl) (hw := h.w) _ 0 (-1) _ (by simp; rfl) (by simp) (fun hr i' z q H' hA => ?_) (fun hr H' => ?_)
        rotate_left
        · first
            | (simp [wordsOk] at hr; done)
            | (simp at hr; simp; exact fz _ _ (by simp [hr]))
        simp at hr
        simp
        refine eright_l2 (by omega) hd (hl := h.kl) (ih := ihk') _ 0 (-1) _ (by simp; rfl) hA (fun hr2 i' z q H' hA => ?_) (fun hr2 H' => ?_)
        rotate_left
        · first
            | (simp at hr2; done)
            | (simp at hr2; simp; exact fz _ _ (by simp [hr2]))
        try simp at hr2
      · simp [hA]
        refine eright_l3 (by omega) hd (hl := h.ol) h.l h.os iho' hA _ 0 (by simp; rfl) (fun hr3 i' q => ?_) (fun hr3 => ?_)
        rotate_left
        · simp at hr3
        simp [hA]
        refine sc_call (rLengths_spec (e := .mk 2 T0 T0 ws ks 0 []) h.ol (fun x hx => by simp at hx)) rfl ?_
        simp
        refine frz_bool ?_
        simp [hr, hr2, lengths]
      · by_cases hl : l < 2 ∨ 9 < l
        · have hl' : (decide (l < 2) || decide (9 < l)) = true := by simpa using hl
          simp [hA, hl']
          exact fz _ _ (by simp [hr]; intro a b; omega)
        · have hl' : (decide (l < 2) || decide (9 < l)) = false := by simpa using hl
          simp [hA, hl']
          refine eright_l3 (by omega) hd (hl := h.ol) h.l h.os iho' hA _ 0 (by simp; rfl) (fun hr3 i' q => ?_) (fun hr3 => ?_)
          rotate_left
          · simp at hr3
            simp
            exact fz _ _ (by simp [hr3])
          simp at hr3
          simp [hA]
          refine sc_call (rLengths_spec (e := .mk 3 T0 T0 [] [] l os) h.ol (fun x hx => ⟨(op_n (rightOs_all.1 hr3 x hx)).1, (op_n (rightOs_all.1 hr3 x hx)).2, (h.os x hx).ll⟩)) rfl ?_
          simp
          refine frz_bool ?_
          have hl2 : ¬ (l < 2 ∨ l > 9) := hl
          simp [hr, hr3, hl2]
          intro _ _
          omega
      · simp [hA]
        refine eright_l3 (by omega) hd (hl := h.ol) h.l h.os iho' hA _ 0 (by simp; rfl) (fun hr3 i' q => ?_) (fun hr3 => ?_)
        rotate_left
        · simp at hr3
        simp [hA]
        refine sc_call (rLengths_spec (e := .mk 0 T0 T0 [] [] 0 []) h.ol (fun x hx => by simp at hx)) rfl ?_
        simp
        refine frz_bool ?_
        simp [wordsOk, lengths]
end Go.Proofs.Ytehcobkphobjiaa

/-
  The document's edits: those of which statements ask.
-/
namespace Go.Proofs.Ytehcobkphobjiaa
set_option linter.unusedVariables false
set_option linter.unusedSimpArgs false
open Go Go.G Go.Proofs Go.PL
mutual
def niceE : E → Prop
  | .mk _ _ _ _ ks _ os => (∀ x, x ∈ os → 0 ≤ x.n ∧ x.n ≤ 1048576) ∧ niceKs ks ∧ niceOs os
def niceKs : List KE → Prop
  | [] => True
  | .mk _ e :: l => niceE e ∧ niceKs l
def niceOs : List OP → Prop
  | [] => True
  | .mk _ _ _ e :: l => niceE e ∧ niceOs l
end
theorem niceKs_all : ∀ {l : List KE}, niceKs l ↔ ∀ x, x ∈ l → niceE x.e
  | [] => by simp [niceKs]
  | .mk a e :: l => by simp [niceKs, niceKs_all (l := l)]
theorem niceOs_all : ∀ {l : List OP}, niceOs l ↔ ∀ x, x ∈ l → niceE x.e
  | [] => by simp [niceOs]
  | .mk k n t e :: l => by simp [niceOs, niceOs_all (l := l)]
theorem nice_E0 {e : E} (h : sameE e = true) : niceE e := by
  obtain ⟨k, o, n, ws, ks, l, os⟩ := e
  simp [sameE, List.isEmpty_iff] at h
  obtain ⟨⟨_, ⟨_, h1⟩, h2⟩, _⟩ := h
  subst h1 h2
  simp [niceE, niceKs, niceOs]
theorem nice_right : ∀ (e : E) (d : Nat), rightE d e = true → niceE e := by
  refine E.ind fun k o n ws ks l os ihk iho d h => ?_
  rw [rightE_mk] at h
  split at h
  · cases h
  rename_i hh
  obtain ⟨d0, k0, k3, c1, c2, c3⟩ := headOk_spec hh
  have e0 : ∀ {l : List KE}, l.length = 0 → niceKs l := fun h => by rw [List.eq_nil_of_length_eq_zero h]; simp [niceKs]
  have e1 : ∀ {l : List OP}, l.length = 0 → niceOs l ∧ ∀ x, x ∈ l → 0 ≤ x.n ∧ x.n ≤ 1048576 := fun h => by rw [List.eq_nil_of_length_eq_zero h]; simp [niceOs]
  rw [niceE]
  by_cases h1 : k = 1
  · have a := e1 (c3 (by omega)).2
    exact ⟨a.2, e0 (c2 (by omega)).2, a.1⟩
  · rw [if_neg h1] at h
    split at h
    · cases h
    split at h
    · cases h
    rename_i hk
    split at h
    · cases h
    split at h
    · cases h
    rename_i ho
    simp only [Bool.not_eq_false] at hk ho
    have hk1 := kids_at hk
    have ho1 := rightOs_all.1 ho
    refine ⟨fun x hx => op_n (ho1 x hx), niceKs_all.2 fun x hx => ihk x hx _ (hk1 x hx).2.2.2, niceOs_all.2 fun x hx => ?_⟩
    have := ho1 x hx
    rw [rightO_eq, Bool.and_eq_true] at this
    obtain ⟨f1, f2⟩ := this
    by_cases k3 : x.kind = 3
    · rw [if_pos k3] at f2
      simp at f2
      exact iho x hx _ f2.1.2
    · unfold opFlat at f1
      split at f1
      · simp at f1; exact nice_E0 f1.2
      · split at f1
        · cases f1
        · rw [if_pos (by omega)] at f1
          simp at f1; exact nice_E0 f1.2
abbrev LightS (e : E) : Prop := G.Spec Try.prog 90 [eX e] (bv (lightE e))
section
variable {n0 : Nat} {w0 : World} {I0 : Nat → Prop} {Q : Exit → Sta → Prop}
theorem elight_l1 {e : E} (hl : e.kids.length * 208 ≤ 140737488355328) (ih : ∀ x, x ∈ e.kids → LightS x.e) {H : Hp} (hA : H [0] = ⟨1, .cells (eL e)⟩) : ∀ (m i : Nat), i + m = e.kids.length →
    (lightKs (e.kids.drop i) = true → ∀ i' q, Q (.exit 0) ⟨lk [(1, .pob [0] 1 0), (5, iv i'), (22, bv q)], H⟩) → (lightKs (e.kids.drop i) = false → Q .ret ⟨lk [(2, bv false)], H⟩) →
    LoopC (cx Try.prog w0 I0 n0) l1_centoref20_Light Q ⟨lk [(1, .pob [0] 1 0), (5, iv i)], H⟩ := by
  intro m
  induction m with
  | zero =>
    intro i hi h1 h2
    have : i = e.kids.length := by omega
    subst this
    refine loopC_once mixed l1_centoref20_Light.eq_1 ?_
    simp [hA]
    exact h1 (by simp) _ _
  | succ m ihm =>
    intro i hi h1 h2
    have hlt : i < e.kids.length := by omega
    have ed : e.kids.drop i = e.kids[i] :: e.kids.drop (i + 1) := List.drop_eq_getElem_cons hlt
    have ei : IntKind.i64.wrap ((i : Int) + 1) = ((i + 1 : Nat) : Int) := i64_same (by omega) (by omega)
    rw [ed, lightKs_cons] at h1 h2
    refine loopC_once mixed l1_centoref20_Light.eq_1 ?_
    simp [hA, hlt]
    refine sc_call (ih _ (List.getElem_mem hlt)) rfl ?_
    cases hr : lightE e.kids[i].e with
    | false =>
      simp
      exact h2 (by simp [hr])
    | true =>
      simp [ei]
      exact ihm (i + 1) (by omega) (fun hh => h1 (by simp [hr, hh])) (fun hh => h2 (by simp [hh]))
theorem elight_l2 {e : E} (hl : e.ops.length * 240 ≤ 140737488355328) (ih : ∀ x, x ∈ e.ops → LightS x.e) {H : Hp} (hA : H [0] = ⟨1, .cells (eL e)⟩) : ∀ (m i : Nat), i + m = e.ops.length →
    (lightOs (e.ops.drop i) = true → ∀ i' q, Q (.exit 2) ⟨lk [(1, .pob [0] 1 0), (6, iv i'), (37, bv q)], H⟩) → (lightOs (e.ops.drop i) = false → Q .ret ⟨lk [(2, bv false)], H⟩) →
    LoopC (cx Try.prog w0 I0 n0) l2_centoref20_Light Q ⟨lk [(1, .pob [0] 1 0), (6, iv i)], H⟩ := by
  intro m
  induction m with
  | zero =>
    intro i hi h1 h2
    have : i = e.ops.length := by omega
    subst this
    refine loopC_once mixed l2_centoref20_Light.eq_1 ?_
    simp [hA]
    exact h1 (by simp) _ _
  | succ m ihm =>
    intro i hi h1 h2
    have hlt : i < e.ops.length := by omega
    have ed : e.ops.drop i = e.ops[i] :: e.ops.drop (i + 1) := List.drop_eq_getElem_cons hlt
    have ei : IntKind.i64.wrap ((i : Int) + 1) = ((i + 1 : Nat) : Int) := i64_same (by omega) (by omega)
    rw [ed, lightOs_cons] at h1 h2
    refine loopC_once mixed l2_centoref20_Light.eq_1 ?_
    simp [hA, hlt]
    refine sc_call (ih _ (List.getElem_mem hlt)) rfl ?_
    cases hr : lightE e.ops[i].e with
    | false =>
      simp
      exact h2 (by simp [hr])
    | true =>
      simp [ei]
      exact ihm (i + 1) (by omega) (fun hh => h1 (by simp [hr, hh])) (fun hh => h2 (by simp [hh]))
end
theorem elight_spec : ∀ (e : E), wfE e → niceE e → LightS e := by
  refine E.ind fun k o nn ws ks l os ihk iho hw hn => ?_
  have h := wfE_iff.1 hw
  rw [niceE, niceKs_all, niceOs_all] at hn
  obtain ⟨n1, n2, n3⟩ := hn
  refine spec_of t_centoref20_Light (by simp) fun w0 I0 => ?_
  unfold c_centoref20_Light
  rw [lightE_mk]
  simp
  refine sc_call (rLengths_spec (e := .mk k o nn ws ks l os) h.ol (fun x hx => ⟨(n1 x hx).1, (n1 x hx).2, (h.os x hx).ll⟩)) rfl ?_
  simp
  refine ⟨fun hc => ?_, fun a b => ?_⟩
  · refine frz_bool ?_
    rcases hc with hc | hc <;> simp [hc]
  · have a' : ¬ 2000 < (lengths 0 0 os).1 := by omega
    have b' : ¬ 2000 < (lengths 0 0 os).2 := by omega
    refine elight_l1 (e := .mk k o nn ws ks l os) h.kl (fun x hx => ihk x hx (h.ks x hx).2 (n2 x hx)) (by simp) ks.length 0 (by simp) (fun hr i' q => ?_) (fun hr => ?_)
    · simp at hr
      simp
      refine elight_l2 (e := .mk k o nn ws ks l os) h.ol (fun x hx => iho x hx (h.os x hx).e (n3 x hx)) (by simp) os.length 0 (by simp) (fun hr2 i' q => ?_) (fun hr2 => ?_)
      · simp at hr2
        simp
        exact frz_bool (by simp [a', b', hr, hr2])
      · simp at hr2
        simp
        exact frz_bool (by simp [hr2])
    · simp at hr
      simp
      exact frz_bool (by simp [hr])
def goodE (e : E) : Bool := fewE e && rightE 64 e && lightE e
theorem good_spec {e : E} (h : wfE e) : G.Spec Try.prog 48 [eX e] (bv (goodE e)) := by
  refine spec_of t_centoref20_Good (by simp) fun w0 I0 => ?_
  unfold c_centoref20_Good
  simp
  refine sc_call (fewE_spec h) rfl ?_
  simp
  refine sc_call_gt rfl (fun _ => eright_spec e h 64 (by omega)) (fun e => by simp [e]) rfl ?_
  simp
  by_cases hr : rightE 64 e = true
  · refine sc_call_gt rfl (fun _ => elight_spec e h (nice_right e 64 hr)) (fun e => by simp at e; simp [e]) rfl ?_
    simp
    exact frz_bool rfl
  · simp at hr
    simp [hr]
    refine sc_call_off rfl ?_
    simp
    exact frz_bool (by simp [goodE, hr])
end Go.Proofs.Ytehcobkphobjiaa

/-
  Chapter 21's definition: what becomes of a tree by an edit.
-/
namespace Go.Proofs.Ytehcobkphobjiaa
set_option linter.unusedVariables false
set_option linter.unusedSimpArgs false
open Go Go.G Go.Proofs Go.PL
/-- Words, from a place on, as steps change them; none: a step does not fit. -/
def wds (tw : List Int) : Nat → Nat → List WE → Option (List Int)
  | 0, _, _ => some []
  | m + 1, i, [] => (wds tw m (i + 1) []).map (tw.getD i 0 :: ·)
  | m + 1, i, x :: xs => if x.at_ = (i : Int) then (if mixZ 0 (tw.getD i 0) x.mask = x.old then (wds tw m (i + 1) xs).map (mixZ (tw.getD i 0) x.new x.mask :: ·) else none) else (wds tw m (i + 1) (x :: xs)).map (tw.getD i 0 :: ·)
/-- Kids likewise. -/
def kds (tk : List T) : Nat → Nat → List (Int × (T → Option T)) → Option (List T)
  | 0, _, _ => some []
  | m + 1, i, [] => (kds tk m (i + 1) []).map (tk.getD i T0 :: ·)
  | m + 1, i, x :: xs => if x.1 = (i : Int) then (match x.2 (tk.getD i T0) with | none => none | some u => (kds tk m (i + 1) xs).map (u :: ·)) else (kds tk m (i + 1) (x :: xs)).map (tk.getD i T0 :: ·)
/-- A list's steps, from a kid on. -/
noncomputable def opsR (tk : List T) : Nat → List (Int × Int × List T × (T → Option T)) → Option (List T × Nat)
  | a, [] => some ([], a)
  | a, (k, n, l, f) :: os =>
    if k = 0 then (if a + n.toNat ≤ tk.length then (opsR tk (a + n.toNat) os).map (fun r => ((tk.drop a).take n.toNat ++ r.1, r.2)) else none)
    else if k = 1 then (if a + l.length ≤ tk.length ∧ (((tk.drop a).take l.length).zip l).all (fun p => eqT p.1 p.2) = true then opsR tk (a + l.length) os else none)
    else if k = 2 then (opsR tk a os).map (fun r => (l ++ r.1, r.2))
    else match tk[a]? with
      | none => none
      | some x => match f x with
        | none => none
        | some u => (opsR tk (a + 1) os).map (fun r => (u :: r.1, r.2))
theorem wds_skip {tw : List Int} {m i : Nat} {rem : List WE} (h : ∀ x xs, rem = x :: xs → x.at_ ≠ (i : Int)) : wds tw (m + 1) i rem = (wds tw m (i + 1) rem).map (tw.getD i 0 :: ·) := by
  cases rem with
  | nil => rw [wds]
  | cons x xs => rw [wds, if_neg (h x xs rfl)]
theorem wds_bad {tw : List Int} {m i : Nat} {x : WE} {xs : List WE} (h : x.at_ = (i : Int)) (hb : ¬ mixZ 0 (tw.getD i 0) x.mask = x.old) : wds tw (m + 1) i (x :: xs) = none := by rw [wds, if_pos h, if_neg hb]
theorem wds_hit {tw : List Int} {m i : Nat} {x : WE} {xs : List WE} (h : x.at_ = (i : Int)) (hb : mixZ 0 (tw.getD i 0) x.mask = x.old) : wds tw (m + 1) i (x :: xs) = (wds tw m (i + 1) xs).map (mixZ (tw.getD i 0) x.new x.mask :: ·) := by rw [wds, if_pos h, if_pos hb]
theorem kds_skip {tk : List T} {m i : Nat} {rem : List (Int × (T → Option T))} (h : ∀ x xs, rem = x :: xs → x.1 ≠ (i : Int)) : kds tk (m + 1) i rem = (kds tk m (i + 1) rem).map (tk.getD i T0 :: ·) := by
  cases rem with
  | nil => rw [kds]
  | cons x xs => rw [kds, if_neg (h x xs rfl)]
theorem kds_bad {tk : List T} {m i : Nat} {x : Int × (T → Option T)} {xs : List (Int × (T → Option T))} (h : x.1 = (i : Int)) (hb : x.2 (tk.getD i T0) = none) : kds tk (m + 1) i (x :: xs) = none := by rw [kds, if_pos h, hb]
theorem kds_hit {tk : List T} {m i : Nat} {x : Int × (T → Option T)} {xs : List (Int × (T → Option T))} {u : T} (h : x.1 = (i : Int)) (hb : x.2 (tk.getD i T0) = some u) : kds tk (m + 1) i (x :: xs) = (kds tk m (i + 1) xs).map (u :: ·) := by rw [kds, if_pos h, hb]
theorem getD_in {tw : List Int} (h : ∀ x, x ∈ tw → u64R x) (i : Nat) : u64R (tw.getD i 0) := by
  by_cases hi : i < tw.length
  · rw [List.getD_eq_getElem?_getD, List.getElem?_eq_getElem hi]
    exact h _ (List.getElem_mem hi)
  · rw [List.getD_eq_getElem?_getD, List.getElem?_eq_none (by omega)]
    exact ⟨by decide, by decide⟩
def lastW (ws : List WE) (n : Nat) : Nat := match ws.getLast? with | none => n | some x => max n (x.at_ + 1).toNat
def lastK {β : Type} (ks : List (Int × β)) (n : Nat) : Nat := match ks.getLast? with | none => n | some x => max n (x.1 + 1).toNat
/-- What becomes of a tree, by an edit of such parts. -/
noncomputable def stepE (k : Int) (o n : T) (ws : List WE) (ks : List (Int × (T → Option T))) (list : Int) (os : List (Int × Int × List T × (T → Option T))) (t : T) : Option T :=
  if k = 0 then some (norm t)
  else if k = 1 then (if eqT o t = true then some (norm n) else none)
  else if k = 2 then (if t.kind = 1 then (match wds t.words (lastW ws t.words.length) 0 ws, kds t.kids (lastK ks t.kids.length) 0 ks with
    | some w, some l => some (norm (.mk 1 w l))
    | _, _ => none) else none)
  else if k = 3 then (if t.kind = list then (match opsR t.kids 0 os with
    | some (l, a) => if a = t.kids.length then some (norm (.mk t.kind [] l)) else none
    | none => none) else none)
  else none
mutual
noncomputable def apE : E → T → Option T
  | .mk k o n ws ks l os, t => stepE k o n ws (apKs ks) l (apOs os) t
noncomputable def apKs : List KE → List (Int × (T → Option T))
  | [] => []
  | .mk a e :: r => (a, apE e) :: apKs r
noncomputable def apOs : List OP → List (Int × Int × List T × (T → Option T))
  | [] => []
  | .mk k n t e :: r => (k, n, t, apE e) :: apOs r
end
theorem apE_mk (k : Int) (o n : T) (ws : List WE) (ks : List KE) (l : Int) (os : List OP) (t : T) : apE (.mk k o n ws ks l os) t = stepE k o n ws (apKs ks) l (apOs os) t := by rw [apE]
theorem apKs_map : ∀ ks : List KE, apKs ks = ks.map fun x => (x.at_, apE x.e)
  | [] => by rw [apKs]; rfl
  | .mk a e :: r => by rw [apKs, apKs_map r]; rfl
theorem apOs_map : ∀ os : List OP, apOs os = os.map fun x => (x.kind, x.n, x.l, apE x.e)
  | [] => by rw [apOs]; rfl
  | .mk k n t e :: r => by rw [apOs, apOs_map r]; rfl
/-! ### the definition's walk: structs -/
theorem rKid21_spec (t : T) (i : Nat) : G.Spec Try.prog 149 [tX t, iv i] (tX (t.kids.getD i T0)) := by
  refine spec_of t_centoref21_kid (by simp) fun w0 I0 => ?_
  unfold c_centoref21_kid
  by_cases h : i < t.kids.length
  · simp [h]
    exact frz_bare (by simp)
  · simp [h]
    exact frz_agg (by simp; exact ⟨frz_bare rfl, frz_sl, frz_sl⟩)
section
variable {n0 : Nat} {w0 : World} {I0 : Nat → Prop} {Q : Exit → Sta → Prop}
theorem rstr_l1 {e : E} {t : T} (hwt : wfT t) (hwe : ∀ x, x ∈ e.words → WE.wf x) (hwl : e.words.length * 32 ≤ 140737488355328) {n m : Nat} (hn : n * 8 ≤ 140737488355328) {K : A}
    (hf : wds t.words n 0 e.words = none → ∀ H : Hp, H [2] = ⟨1, .cells z0⟩ → Q .ret ⟨lk [(4, .pob [2] 1 0), (5, bv false)], H⟩) :
    ∀ (j i a : Nat) (acc : List Int) (H : Hp), i + j = n → acc.length = i → (∀ R, wds t.words j i (e.words.drop a) = some R → wds t.words n 0 e.words = some (acc ++ R)) → (wds t.words j i (e.words.drop a) = none → wds t.words n 0 e.words = none) →
      (∀ (q : Bool) (a' : Int) (W : List Int) (H' : Hp), wds t.words n 0 e.words = some W → W.length = n → H' [0] = ⟨1, .cells (eL e)⟩ → H' [1] = ⟨1, .cells (tL t)⟩ → H' [2] = ⟨1, .cells z0⟩ → H' [3] = ⟨1, .cells [iv 1, .osl [5] (n + 1) 1 0 n, K]⟩ → H' [5] = ⟨n + 1, .arr 1 (W.map uv)⟩ → H' [8] = H [8] →
        Q (.exit 0) ⟨lk [(2, .pob [0] 1 0), (3, .pob [1] 1 0), (4, .pob [2] 1 0), (6, .pob [3] 1 0), (7, iv n), (8, iv m), (11, iv a'), (12, iv n), (80, bv q)], H'⟩) →
      H [0] = ⟨1, .cells (eL e)⟩ → H [1] = ⟨1, .cells (tL t)⟩ → H [2] = ⟨1, .cells z0⟩ → H [3] = ⟨1, .cells [iv 1, .osl [5] (i + 1) 1 0 i, K]⟩ → H [5] = ⟨i + 1, .arr 1 (acc.map uv)⟩ →
    LoopC (cx Try.prog w0 I0 n0) l1_centoref21_structure Q ⟨lk [(2, .pob [0] 1 0), (3, .pob [1] 1 0), (4, .pob [2] 1 0), (6, .pob [3] 1 0), (7, iv n), (8, iv m), (11, iv a), (12, iv i)], H⟩ := by
  intro j
  induction j with
  | zero =>
    intro i a acc H hi hacc hs hn' hq g0 g1 g2 g3 g5
    have : i = n := by omega
    subst this
    refine loopC_once mixed l1_centoref21_structure.eq_1 ?_
    simp
    have hW := hs [] rfl
    rw [List.append_nil] at hW
    exact hq _ _ acc H hW hacc g0 g1 g2 g3 g5 rfl
  | succ j ih =>
    intro i a acc H hi hacc hs hn' hq g0 g1 g2 g3 g5
    have hlt : i < n := by omega
    have ei : IntKind.i64.wrap ((i : Int) + 1) = ((i + 1 : Nat) : Int) := i64_same (by omega) (by omega)
    refine loopC_once mixed l1_centoref21_structure.eq_1 ?_
    simp [hlt, g1]
    refine sc_call (rWord21_spec t i) (by simp) ?_
    have hwu := getD_in (wfT_iff.1 hwt).w i
    have htk : ∀ x : Int, (acc ++ [x]).map uv = acc.map uv ++ [uv x] := fun x => by simp
    have htake : List.take i (acc.map uv) = acc.map uv := List.take_of_length_le (by simp; omega)
    have skip : (∀ x xs, e.words.drop a = x :: xs → x.at_ ≠ (i : Int)) → ∀ H', H' [0] = ⟨1, .cells (eL e)⟩ → H' [1] = ⟨1, .cells (tL t)⟩ → H' [2] = ⟨1, .cells z0⟩ → H' [3] = ⟨1, .cells [iv 1, .osl [5] (i + 1 + 1) 1 0 (i + 1), K]⟩ → H' [5] = ⟨i + 1 + 1, .arr 1 ((acc ++ [t.words.getD i 0]).map uv)⟩ → H' [8] = H [8] →
        LoopC (cx Try.prog w0 I0 n0) l1_centoref21_structure Q ⟨lk [(2, .pob [0] 1 0), (3, .pob [1] 1 0), (4, .pob [2] 1 0), (6, .pob [3] 1 0), (7, iv n), (8, iv m), (11, iv a), (12, iv ((i + 1 : Nat) : Int))], H'⟩ := fun hsk H' q0 q1 q2 q3 q5 q8 => by
      have hw := wds_skip (tw := t.words) (m := j) hsk
      refine ih (i + 1) a (acc ++ [t.words.getD i 0]) H' (by omega) (by simp [hacc]) (fun R hR => ?_) (fun hR => ?_) (fun q a' W H2 r1 r2 r3 r4 r5 r6 r7 r8 => hq q a' W H2 r1 r2 r3 r4 r5 r6 r7 (by rw [r8, q8])) q0 q1 q2 q3 q5
      · have := hs (t.words.getD i 0 :: R) (by rw [hw, hR]; rfl)
        simpa using this
      · exact hn' (by rw [hw, hR]; rfl)
    generalize hw0 : t.words.getD i 0 = w at skip hwu
    simp [g0, g1]
    by_cases ha : a < e.words.length
    rotate_left
    · simp [ha, g3, g5, updF_app, ei]
      refine ⟨⟨by omega, by omega⟩, ?_⟩
      refine skip (fun x xs hx => ?_) _ (by simp [updF_app, g0]) (by simp [updF_app, g1]) (by simp [updF_app, g2]) (by simp [updF_app]) ?_ (by simp [updF_app])
      · rw [List.drop_eq_nil_of_le (by omega)] at hx; cases hx
      · rw [htk, htake]; simp [updF_app]
    have hdr : e.words.drop a = e.words[a] :: e.words.drop (a + 1) := List.drop_eq_getElem_cons ha
    obtain ⟨wf1, wf2, wf3, wf4⟩ := hwe _ (List.getElem_mem ha)
    by_cases hat : e.words[a].at_ = (i : Int)
    rotate_left
    · simp [ha, hat, g3, g5, updF_app, ei]
      refine ⟨⟨by omega, by omega⟩, ?_⟩
      refine skip (fun x xs hx => ?_) _ (by simp [updF_app, g0]) (by simp [updF_app, g1]) (by simp [updF_app, g2]) (by simp [updF_app]) ?_ (by simp [updF_app])
      · rw [hdr] at hx
        cases hx
        exact hat
      · rw [htk, htake]; simp [updF_app]
    simp [ha, hat, g0, g1, updF_app]
    refine sc_call (rMix_spec (a := 0) (b := w) ⟨by decide, by decide⟩ hwu wf2.1 wf2.2) (by simp) ?_
    by_cases hmx : mixZ 0 w e.words[a].mask = e.words[a].old
    rotate_left
    · simp [hmx, g2, updF_app]
      refine hf (hn' ?_) _ (by simp [updF_app])
      rw [hdr]
      exact wds_bad hat (by rw [hw0]; exact hmx)
    have ea : IntKind.i64.wrap ((a : Int) + 1) = ((a + 1 : Nat) : Int) := i64_same (by omega) (by omega)
    have hw := wds_hit (tw := t.words) (m := j) (xs := e.words.drop (a + 1)) hat (by rw [hw0]; exact hmx)
    rw [hw0] at hw
    simp [hmx, updF_app]
    refine sc_call (rMix_spec (a := w) (b := e.words[a].new) hwu wf4 wf2.1 wf2.2) (by simp) ?_
    generalize hx : mixZ w e.words[a].new e.words[a].mask = x at hw
    simp [g3, g5, updF_app, ei, ea]
    refine ⟨⟨by omega, by omega⟩, ?_⟩
    refine ih (i + 1) (a + 1) (acc ++ [x]) _ (by omega) (by simp [hacc]) (fun R hR => ?_) (fun hR => ?_) (fun q a' W H2 r1 r2 r3 r4 r5 r6 r7 r8 => hq q a' W H2 r1 r2 r3 r4 r5 r6 r7 (by rw [r8]; simp [updF_app])) (by simp [updF_app, g0]) (by simp [updF_app, g1]) (by simp [updF_app, g2]) (by simp [updF_app]) ?_
    · have := hs (x :: R) (by rw [hdr, hw, hR]; rfl)
      simpa using this
    · exact hn' (by rw [hdr, hw, hR]; rfl)
    · rw [htk, htake]; simp [updF_app]
end
abbrev resX (o : Option T) : A := match o with
  | some u => .tup [tX u, bv true]
  | none => .tup [tX T0, bv false]
/-- The definition's answer for an edit. -/
def RefS (e : E) : Prop := ∀ t, wfT t → G.Spec Try.prog 52 [eX e, tX t] (resX (apE e t)) ∧ ∀ v, apE e t = some v → wfT v
theorem wf_T0 : wfT T0 := wfT_iff.2 ⟨by simp [i64R], by simp, by simp, by simp, by simp⟩
theorem wf_getD {t : T} (h : wfT t) (i : Nat) : wfT (t.kids.getD i T0) := by
  by_cases hi : i < t.kids.length
  · rw [List.getD_eq_getElem?_getD, List.getElem?_eq_getElem hi]
    exact (wfT_iff.1 h).ks _ (List.getElem_mem hi)
  · rw [List.getD_eq_getElem?_getD, List.getElem?_eq_none (by omega)]
    exact wf_T0
section
variable {n0 : Nat} {w0 : World} {I0 : Nat → Prop} {Q : Exit → Sta → Prop}
theorem rstr_l2 {e : E} {t : T} (hwt : wfT t) (hwl : e.kids.length * 208 ≤ 140737488355328) (hk : ∀ x, x ∈ e.kids → RefS x.e) {m : Nat} (hn : m * 56 ≤ 140737488355328) {W1 : A} {X : VOb}
    (hf : kds t.kids m 0 (apKs e.kids) = none → ∀ H : Hp, H [2] = ⟨1, .cells z0⟩ → Q .ret ⟨lk [(4, .pob [2] 1 0), (5, bv false)], H⟩)
    (hq : ∀ (q : Bool) (a' : Int) (K : List T) (H' : Hp), kds t.kids m 0 (apKs e.kids) = some K → K.length = m → (∀ x, x ∈ K → wfT x) → H' [2] = ⟨1, .cells z0⟩ → H' [3] = ⟨1, .cells [iv 1, W1, .osl [8] (m + 1) 3 0 m]⟩ → H' [8] = ⟨m + 1, .arr 3 (K.map tA)⟩ → H' [5] = X →
        Q (.exit 2) ⟨lk [(2, .pob [0] 1 0), (3, .pob [1] 1 0), (4, .pob [2] 1 0), (6, .pob [3] 1 0), (8, iv m), (11, iv a'), (15, iv m), (130, bv q)], H'⟩) :
    ∀ (j i a : Nat) (acc : List T) (H : Hp), i + j = m → acc.length = i → (∀ x, x ∈ acc → wfT x) → (∀ R, kds t.kids j i (apKs (e.kids.drop a)) = some R → kds t.kids m 0 (apKs e.kids) = some (acc ++ R)) → (kds t.kids j i (apKs (e.kids.drop a)) = none → kds t.kids m 0 (apKs e.kids) = none) →
      H [0] = ⟨1, .cells (eL e)⟩ → H [1] = ⟨1, .cells (tL t)⟩ → H [2] = ⟨1, .cells z0⟩ → H [3] = ⟨1, .cells [iv 1, W1, .osl [8] (i + 1) 3 0 i]⟩ → H [8] = ⟨i + 1, .arr 3 (acc.map tA)⟩ → H [5] = X →
    LoopC (cx Try.prog w0 I0 n0) l2_centoref21_structure Q ⟨lk [(2, .pob [0] 1 0), (3, .pob [1] 1 0), (4, .pob [2] 1 0), (6, .pob [3] 1 0), (8, iv m), (11, iv a), (15, iv i)], H⟩ := by
  intro j
  induction j with
  | zero =>
    intro i a acc H hi hacc hwf hs hn' g0 g1 g2 g3 g8 g5
    have : i = m := by omega
    subst this
    refine loopC_once mixed l2_centoref21_structure.eq_1 ?_
    simp
    have hW := hs [] rfl
    rw [List.append_nil] at hW
    exact hq _ _ acc H hW hacc hwf g2 g3 g8 g5
  | succ j ih =>
    intro i a acc H hi hacc hwf hs hn' g0 g1 g2 g3 g8 g5
    have hlt : i < m := by omega
    have ei : IntKind.i64.wrap ((i : Int) + 1) = ((i + 1 : Nat) : Int) := i64_same (by omega) (by omega)
    have htk : ∀ x : T, (acc ++ [x]).map tA = acc.map tA ++ [tA x] := fun x => by simp
    have htake : List.take i (acc.map tA) = acc.map tA := List.take_of_length_le (by simp; omega)
    have hwk := wf_getD hwt i
    refine loopC_once mixed l2_centoref21_structure.eq_1 ?_
    simp [hlt, g1]
    refine sc_call (rKid21_spec t i) (by simp) ?_
    have skip : (∀ x xs, apKs (e.kids.drop a) = x :: xs → x.1 ≠ (i : Int)) → ∀ H', H' [0] = ⟨1, .cells (eL e)⟩ → H' [1] = ⟨1, .cells (tL t)⟩ → H' [2] = ⟨1, .cells z0⟩ → H' [3] = ⟨1, .cells [iv 1, W1, .osl [8] (i + 1 + 1) 3 0 (i + 1)]⟩ → H' [8] = ⟨i + 1 + 1, .arr 3 ((acc ++ [t.kids.getD i T0]).map tA)⟩ → H' [5] = X →
        LoopC (cx Try.prog w0 I0 n0) l2_centoref21_structure Q ⟨lk [(2, .pob [0] 1 0), (3, .pob [1] 1 0), (4, .pob [2] 1 0), (6, .pob [3] 1 0), (8, iv m), (11, iv a), (15, iv ((i + 1 : Nat) : Int))], H'⟩ := fun hsk H' q0 q1 q2 q3 q8 q5 => by
      have hw := kds_skip (tk := t.kids) (m := j) hsk
      refine ih (i + 1) a (acc ++ [t.kids.getD i T0]) H' (by omega) (by simp [hacc]) (fun x hx => ?_) (fun R hR => ?_) (fun hR => ?_) q0 q1 q2 q3 q8 q5
      · rcases List.mem_append.1 hx with h | h
        · exact hwf x h
        · rw [List.mem_singleton.1 h]; exact hwk
      · have := hs (t.kids.getD i T0 :: R) (by rw [hw, hR]; rfl)
        simpa using this
      · exact hn' (by rw [hw, hR]; rfl)
    generalize hw0 : t.kids.getD i T0 = c at skip hwk
    simp [g0, g1, updF_app]
    by_cases ha : a < e.kids.length
    rotate_left
    · simp [ha, g3, g8, updF_app, ei]
      refine ⟨⟨by omega, by omega⟩, ?_⟩
      refine skip (fun x xs hx => ?_) _ (by simp [updF_app, g0]) (by simp [updF_app, g1]) (by simp [updF_app, g2]) (by simp [updF_app]) ?_ (by simp [updF_app, g5])
      · rw [List.drop_eq_nil_of_le (by omega)] at hx; rw [apKs] at hx; cases hx
      · rw [htk, htake]; simp [updF_app]
    have hdr : e.kids.drop a = e.kids[a] :: e.kids.drop (a + 1) := List.drop_eq_getElem_cons ha
    have hap : apKs (e.kids.drop a) = (e.kids[a].at_, apE e.kids[a].e) :: apKs (e.kids.drop (a + 1)) := by rw [hdr, apKs_map, List.map_cons, ← apKs_map]
    by_cases hat : e.kids[a].at_ = (i : Int)
    rotate_left
    · simp [ha, hat, g3, g8, updF_app, ei]
      refine ⟨⟨by omega, by omega⟩, ?_⟩
      refine skip (fun x xs hx => ?_) _ (by simp [updF_app, g0]) (by simp [updF_app, g1]) (by simp [updF_app, g2]) (by simp [updF_app]) ?_ (by simp [updF_app, g5])
      · rw [hap] at hx
        cases hx
        exact hat
      · rw [htk, htake]; simp [updF_app]
    obtain ⟨hsp, hwv⟩ := hk _ (List.getElem_mem ha) c hwk
    have ea : IntKind.i64.wrap ((a : Int) + 1) = ((a + 1 : Nat) : Int) := i64_same (by omega) (by omega)
    simp [ha, hat, g0, g1, updF_app]
    refine sc_call hsp (by simp) ?_
    cases hv : apE e.kids[a].e c with
    | none =>
      simp [updF_app, g2]
      refine hf (hn' ?_) _ (by simp [updF_app, g2])
      rw [hap]
      exact kds_bad hat (by rw [hw0]; exact hv)
    | some v =>
      have hw := kds_hit (tk := t.kids) (m := j) (x := (e.kids[a].at_, apE e.kids[a].e)) (xs := apKs (e.kids.drop (a + 1))) hat (by rw [hw0]; exact hv)
      simp [updF_app, g3, g8, ei, ea]
      refine ⟨⟨by omega, by omega⟩, ?_⟩
      refine ih (i + 1) (a + 1) (acc ++ [v]) _ (by omega) (by simp [hacc]) (fun x hx => ?_) (fun R hR => ?_) (fun hR => ?_) (by simp [updF_app, g0]) (by simp [updF_app, g1]) (by simp [updF_app, g2]) (by simp [updF_app]) ?_ (by simp [updF_app, g5])
      · rcases List.mem_append.1 hx with h | h
        · exact hwf x h
        · rw [List.mem_singleton.1 h]; exact hwv v hv
      · have := hs (v :: R) (by rw [hap, hw, hR]; rfl)
        simpa using this
      · exact hn' (by rw [hap, hw, hR]; rfl)
      · rw [htk, htake]; simp [updF_app]
end
theorem mixZ_in (a b mask : Int) : u64R (mixZ a b mask) := by
  have h := ofZ_range (mixL (bytesZ a) (bytesZ b) mask 8) mixL_range
  rw [mixL_length (by rw [bytesZ_length]; exact Nat.le_refl _), bytesZ_length] at h
  have e : (256 : Int) ^ 8 = 18446744073709551616 := by decide
  rw [e] at h
  exact ⟨h.1, h.2⟩
theorem wds_facts {tw : List Int} (ht : ∀ x, x ∈ tw → u64R x) : ∀ (m i : Nat) (rem : List WE) (R : List Int), wds tw m i rem = some R → R.length = m ∧ ∀ x, x ∈ R → u64R x
  | 0, i, rem, R, h => by
    rw [wds] at h
    cases h
    exact ⟨rfl, fun x hx => by cases hx⟩
  | m + 1, i, rem, R, h => by
    have key : ∀ (y : Int) (o : Option (List Int)), u64R y → o.map (y :: ·) = some R → (∀ R', o = some R' → R'.length = m ∧ ∀ x, x ∈ R' → u64R x) → R.length = m + 1 ∧ ∀ x, x ∈ R → u64R x := fun y o hy ho hr => by
      cases o with
      | none => cases ho
      | some R' =>
        cases ho
        obtain ⟨q1, q2⟩ := hr R' rfl
        exact ⟨by simp [q1], fun x hx => by
          rcases List.mem_cons.1 hx with rfl | hx
          · exact hy
          · exact q2 x hx⟩
    cases rem with
    | nil =>
      rw [wds] at h
      exact key _ _ (getD_in ht i) h fun R' hR' => wds_facts ht m (i + 1) [] R' hR'
    | cons x xs =>
      rw [wds] at h
      split at h
      · split at h
        · exact key _ _ (mixZ_in _ _ _) h fun R' hR' => wds_facts ht m (i + 1) xs R' hR'
        · cases h
      · exact key _ _ (getD_in ht i) h fun R' hR' => wds_facts ht m (i + 1) (x :: xs) R' hR'
section
variable {n0 : Nat} {w0 : World} {I0 : Nat → Prop}
noncomputable def strO (e : E) (t : T) (n m : Nat) : Option T := match wds t.words n 0 e.words, kds t.kids m 0 (apKs e.kids) with
  | some w, some l => some (.mk 1 w l)
  | _, _ => none
theorem rstr_k1 {e : E} (hwe : wfE e) (hk : ∀ x, x ∈ e.kids → RefS x.e) {t : T} (hwt : wfT t) {n m : Nat} (hn : n * 8 ≤ 140737488355328) (hm : m * 56 ≤ 140737488355328) {H : Hp} (g0 : H [0] = ⟨1, .cells (eL e)⟩) (g1 : H [1] = ⟨1, .cells (tL t)⟩) (g2 : H [2] = ⟨1, .cells z0⟩) (g3 : H [3] = ⟨1, .cells [iv 1, .osl [5] 1 1 0 0, .osl [8] 1 3 0 0]⟩) (g5 : H [5] = ⟨1, .arr 1 []⟩) (g8 : H [8] = ⟨1, .arr 3 []⟩) :
    WPC (cx Try.prog w0 I0 n0) k1_centoref21_structure (RetC Try.prog [.cell 4 53, .tmp 5] (resX (strO e t n m))) ⟨lk [(2, .pob [0] 1 0), (3, .pob [1] 1 0), (4, .pob [2] 1 0), (6, .pob [3] 1 0), (7, iv n), (8, iv m)], H⟩ := by
  have he := wfE_iff.1 hwe
  have bad : strO e t n m = none → ∀ H : Hp, H [2] = ⟨1, .cells z0⟩ → Frz H (.tup [.agg z0, bv false]) (resX (strO e t n m)) := fun h H hH => by
    rw [h]
    exact frz_tup ⟨frz_agg ⟨frz_bare rfl, frz_sl, frz_sl, trivial⟩, frz_bare rfl, trivial⟩
  unfold k1_centoref21_structure
  simp
  refine rstr_l1 (e := e) hwt he.w he.wl hn (m := m) (K := .osl [8] 1 3 0 0) (fun hnone H' h2 => ?_) n 0 0 [] H (by omega) rfl (fun R hR => by simpa using hR) (fun hR => by simpa using hR) (fun q a' W H' hW hWl r0 r1 r2 r3 r5 r8 => ?_) g0 g1 g2 (by simpa using g3) (by simpa using g5)
  · simp [h2]
    exact bad (by simp [strO, hnone]) _ h2
  · simp
    refine rstr_l2 (e := e) hwt he.kl hk hm (W1 := .osl [5] (n + 1) 1 0 n) (X := ⟨n + 1, .arr 1 (W.map uv)⟩) (fun hnone H2 h2 => ?_) (fun q2 a2 K H2 hK hKl hKw s2 s3 s8 s5 => ?_) m 0 0 [] H' (by omega) rfl (fun x hx => by cases hx) (fun R hR => by simpa using hR) (fun hR => by simpa using hR) r0 r1 r2 (by simpa using r3) (by rw [r8, g8]; rfl) r5
    · simp [h2]
      exact bad (by simp [strO, hW, hnone]) _ h2
    · simp [s3, s2, updF_app]
      have : strO e t n m = some (.mk 1 W K) := by simp [strO, hW, hK]
      rw [this]
      exact frz_tup ⟨frz_agg ⟨frz_bare rfl, frz_row (f := uv) (l := W) (by simp [updF_app, s5]) hWl.symm (fun x => by simp), frz_row (f := tA) (l := K) (by simp [updF_app, s8]) hKl.symm (fun x => by simp), trivial⟩, frz_bare rfl, trivial⟩
theorem last_get {α : Type} (l : List α) : l.getLast? = l[l.length - 1]? := List.getLast?_eq_getElem?
theorem rstr_k2 {e : E} (hwe : wfE e) (hk : ∀ x, x ∈ e.kids → RefS x.e) {t : T} (hwt : wfT t) (hp2 : ∀ x, x ∈ e.kids → 0 ≤ x.at_ ∧ x.at_ ≤ 65534) {n : Nat} (hn : n * 8 ≤ 140737488355328) {H : Hp} (g0 : H [0] = ⟨1, .cells (eL e)⟩) (g1 : H [1] = ⟨1, .cells (tL t)⟩) (g2 : H [2] = ⟨1, .cells z0⟩) (g3 : H [3] = ⟨1, .cells [iv 1, .osl [5] 1 1 0 0, .osl [8] 1 3 0 0]⟩) (g5 : H [5] = ⟨1, .arr 1 []⟩) (g8 : H [8] = ⟨1, .arr 3 []⟩) :
    WPC (cx Try.prog w0 I0 n0) k2_centoref21_structure (RetC Try.prog [.cell 4 53, .tmp 5] (resX (strO e t n (lastK (apKs e.kids) t.kids.length)))) ⟨lk [(2, .pob [0] 1 0), (3, .pob [1] 1 0), (4, .pob [2] 1 0), (6, .pob [3] 1 0), (7, iv n), (8, iv t.kids.length)], H⟩ := by
  have he := wfE_iff.1 hwe
  have hkl := he.kl
  have htl := (wfT_iff.1 hwt).kl
  have fin : ∀ m : Nat, m * 56 ≤ 140737488355328 → m = lastK (apKs e.kids) t.kids.length → WPC (cx Try.prog w0 I0 n0) k1_centoref21_structure (RetC Try.prog [.cell 4 53, .tmp 5] (resX (strO e t n (lastK (apKs e.kids) t.kids.length)))) ⟨lk [(2, .pob [0] 1 0), (3, .pob [1] 1 0), (4, .pob [2] 1 0), (6, .pob [3] 1 0), (7, iv n), (8, iv m)], H⟩ := fun m hm e1 => by
    rw [← e1]
    exact rstr_k1 hwe hk hwt hn hm g0 g1 g2 g3 g5 g8
  generalize resX (strO e t n (lastK (apKs e.kids) t.kids.length)) = Y at fin ⊢
  unfold k2_centoref21_structure
  by_cases h0 : e.kids.length = 0
  · have hl0 : t.kids.length = lastK (apKs e.kids) t.kids.length := by
      rw [List.eq_nil_of_length_eq_zero h0, apKs]; rfl
    have fin0 := fin _ (by omega) hl0
    simp [g0, h0]
    exact fin0
  have hlt : e.kids.length - 1 < e.kids.length := by omega
  have e9 : IntKind.i64.wrap ((e.kids.length : Int) - 1) = ((e.kids.length - 1 : Nat) : Int) := (i64_same (n := (e.kids.length : Int) - 1) (by omega) (by omega)).trans (by omega)
  have hpos : 0 < e.kids.length := by omega
  have hlast : lastK (apKs e.kids) t.kids.length = max t.kids.length (e.kids[e.kids.length - 1].at_ + 1).toNat := by
    have : (apKs e.kids).getLast? = some (e.kids[e.kids.length - 1].at_, apE e.kids[e.kids.length - 1].e) := by
      rw [apKs_map, last_get]
      simp [hlt]
    simp [lastK, this]
  obtain ⟨p1, p2⟩ := hp2 _ (List.getElem_mem hlt)
  generalize hz : e.kids[e.kids.length - 1].at_ = z at hlast p1 p2
  have ez : IntKind.i64.wrap (z + 1) = z + 1 := i64_same (by omega) (by omega)
  by_cases hc : (t.kids.length : Int) ≤ z
  · simp [g0, hpos, e9, hlt, hz, hc, ez]
    have := fin (z + 1).toNat (by omega) (by omega)
    rwa [show (((z + 1).toNat : Nat) : Int) = z + 1 by omega] at this
  · simp [g0, hpos, e9, hlt, hz, hc]
    exact fin t.kids.length (by omega) (by omega)
end
theorem kds_facts {tk : List T} (ht : ∀ i, wfT (tk.getD i T0)) : ∀ (m i : Nat) (rem : List (Int × (T → Option T))) (R : List T), (∀ x, x ∈ rem → ∀ u v, wfT u → x.2 u = some v → wfT v) → kds tk m i rem = some R → R.length = m ∧ ∀ x, x ∈ R → wfT x
  | 0, i, rem, R, _, h => by
    rw [kds] at h
    cases h
    exact ⟨rfl, fun x hx => by cases hx⟩
  | m + 1, i, rem, R, hr, h => by
    have key : ∀ (y : T) (o : Option (List T)), wfT y → o.map (y :: ·) = some R → (∀ R', o = some R' → R'.length = m ∧ ∀ x, x ∈ R' → wfT x) → R.length = m + 1 ∧ ∀ x, x ∈ R → wfT x := fun y o hy ho hr => by
      cases o with
      | none => cases ho
      | some R' =>
        cases ho
        obtain ⟨q1, q2⟩ := hr R' rfl
        exact ⟨by simp [q1], fun x hx => by
          rcases List.mem_cons.1 hx with rfl | hx
          · exact hy
          · exact q2 x hx⟩
    cases rem with
    | nil =>
      rw [kds] at h
      exact key _ _ (ht i) h fun R' hR' => kds_facts ht m (i + 1) [] R' (fun x hx => by cases hx) hR'
    | cons x xs =>
      rw [kds] at h
      split at h
      · split at h
        · cases h
        · rename_i u hu
          exact key _ _ (hr x (by simp) _ _ (ht i) hu) h fun R' hR' => kds_facts ht m (i + 1) xs R' (fun y hy => hr y (by simp [hy])) hR'
      · exact key _ _ (ht i) h fun R' hR' => kds_facts ht m (i + 1) (x :: xs) R' hr hR'
theorem lastW_le {ws : List WE} (hp : ∀ x, x ∈ ws → 0 ≤ x.at_ ∧ x.at_ ≤ 65534) (n : Nat) : n ≤ lastW ws n ∧ lastW ws n ≤ max n 65535 := by
  unfold lastW
  cases h : ws.getLast? with
  | none => simp; omega
  | some x =>
    have := hp x (List.mem_of_getLast? h)
    simp
    omega
theorem lastK_le {ks : List KE} (hp : ∀ x, x ∈ ks → 0 ≤ x.at_ ∧ x.at_ ≤ 65534) (n : Nat) : n ≤ lastK (apKs ks) n ∧ lastK (apKs ks) n ≤ max n 65535 := by
  unfold lastK
  cases h : (apKs ks).getLast? with
  | none => simp; omega
  | some x =>
    have hx := List.mem_of_getLast? h
    rw [apKs_map] at hx
    obtain ⟨y, hy, rfl⟩ := List.mem_map.1 hx
    have := hp y hy
    simp
    omega
/-- What a struct becomes. -/
noncomputable def strA (e : E) (t : T) : Option T := if t.kind = 1 then strO e t (lastW e.words t.words.length) (lastK (apKs e.kids) t.kids.length) else none
theorem strA_wf {e : E} (hk : ∀ x, x ∈ e.kids → RefS x.e) {t : T} (hwt : wfT t) (hp : ∀ x, x ∈ e.words → 0 ≤ x.at_ ∧ x.at_ ≤ 65534) (hp2 : ∀ x, x ∈ e.kids → 0 ≤ x.at_ ∧ x.at_ ≤ 65534) : ∀ v, strA e t = some v → wfT v := fun v h => by
  unfold strA at h
  split at h
  · unfold strO at h
    have ht := wfT_iff.1 hwt
    have hw := wds_facts ht.w (lastW e.words t.words.length) 0 e.words
    have hk := kds_facts (wf_getD hwt) (lastK (apKs e.kids) t.kids.length) 0 (apKs e.kids)
    have l1 := lastW_le hp t.words.length
    have l2 := lastK_le hp2 t.kids.length
    split at h
    · rename_i w l hw' hl'
      cases h
      obtain ⟨a1, a2⟩ := hw w hw'
      obtain ⟨b1, b2⟩ := hk l (fun x hx u v hu hv => by
        rw [apKs_map] at hx
        obtain ⟨y, hy, rfl⟩ := List.mem_map.1 hx
        rename_i hkk _ _ _
        exact (hkk y hy u hu).2 v hv) hl'
      have := ht.wl
      have := ht.kl
      exact wfT_iff.2 ⟨by simp [i64R], a2, by simp; omega, by simp; omega, b2⟩
    · cases h
  · cases h
theorem rStr_spec {e : E} (hwe : wfE e) (hk : ∀ x, x ∈ e.kids → RefS x.e) {t : T} (hwt : wfT t) (hp : ∀ x, x ∈ e.words → 0 ≤ x.at_ ∧ x.at_ ≤ 65534) (hp2 : ∀ x, x ∈ e.kids → 0 ≤ x.at_ ∧ x.at_ ≤ 65534) :
    G.Spec Try.prog 94 [eX e, tX t] (resX (strA e t)) := by
  have he := wfE_iff.1 hwe
  have hwl := he.wl
  have htl := (wfT_iff.1 hwt).wl
  refine spec_of t_centoref21_structure (by simp) fun w0 I0 => ?_
  by_cases h1 : t.kind = 1
  rotate_left
  · have : strA e t = none := if_neg h1
    rw [this]
    unfold c_centoref21_structure
    simp [h1]
    exact frz_tup ⟨frz_agg ⟨frz_bare rfl, frz_sl, frz_sl, trivial⟩, frz_bare rfl, trivial⟩
  have hA : strA e t = strO e t (lastW e.words t.words.length) (lastK (apKs e.kids) t.kids.length) := if_pos h1
  have fin : ∀ n : Nat, n * 8 ≤ 140737488355328 → n = lastW e.words t.words.length → ∀ H : Hp, H [0] = ⟨1, .cells (eL e)⟩ → H [1] = ⟨1, .cells (tL t)⟩ → H [2] = ⟨1, .cells z0⟩ → H [3] = ⟨1, .cells [iv 1, .osl [5] 1 1 0 0, .osl [8] 1 3 0 0]⟩ → H [5] = ⟨1, .arr 1 []⟩ → H [8] = ⟨1, .arr 3 []⟩ →
      WPC (cx Try.prog w0 I0 175) k2_centoref21_structure (RetC Try.prog [.cell 4 53, .tmp 5] (resX (strA e t))) ⟨lk [(2, .pob [0] 1 0), (3, .pob [1] 1 0), (4, .pob [2] 1 0), (6, .pob [3] 1 0), (7, iv n), (8, iv t.kids.length)], H⟩ := fun n hn e1 H g0 g1 g2 g3 g5 g8 => by
    rw [hA, ← e1]
    exact rstr_k2 hwe hk hwt hp2 hn g0 g1 g2 g3 g5 g8
  generalize resX (strA e t) = Y at fin ⊢
  unfold c_centoref21_structure
  simp [h1]
  refine stop_le (le_blankC (d := [3]) (u := 1) (cs := [iv 1, .sl true [], .sl true []]) 1 [5] 1 (by simp) rfl (by simp)) ?_
  refine stop_le (le_blankC (d := [3]) (u := 1) (cs := [iv 1, .osl [5] 1 1 0 0, .sl true []]) 2 [8] 3 (by simp [updF_app]) rfl (by simp)) (stop_go ?_)
  by_cases h0 : e.words.length = 0
  · have hl0 : t.words.length = lastW e.words t.words.length := by
      rw [List.eq_nil_of_length_eq_zero h0]; rfl
    simp [h0, updF_app]
    exact fin _ htl hl0 _ (by simp [updF_app]) (by simp [updF_app, h1]) (by simp [updF_app]) (by simp [updF_app]) (by simp [updF_app]) (by simp [updF_app])
  have hlt : e.words.length - 1 < e.words.length := by omega
  have e9 : IntKind.i64.wrap ((e.words.length : Int) - 1) = ((e.words.length - 1 : Nat) : Int) := (i64_same (n := (e.words.length : Int) - 1) (by omega) (by omega)).trans (by omega)
  have hpos : 0 < e.words.length := by omega
  have hlast : lastW e.words t.words.length = max t.words.length (e.words[e.words.length - 1].at_ + 1).toNat := by
    have : e.words.getLast? = some e.words[e.words.length - 1] := by
      rw [last_get]
      simp [hlt]
    simp [lastW, this]
  obtain ⟨p1, p2⟩ := hp _ (List.getElem_mem hlt)
  generalize hz : e.words[e.words.length - 1].at_ = z at hlast p1 p2
  have ez : IntKind.i64.wrap (z + 1) = z + 1 := i64_same (by omega) (by omega)
  by_cases hc : (t.words.length : Int) ≤ z
  · simp [hpos, e9, hlt, hz, hc, ez, updF_app]
    have := fin (z + 1).toNat (by omega) (by omega)
    rw [show (((z + 1).toNat : Nat) : Int) = z + 1 by omega] at this
    exact this _ (by simp [updF_app]) (by simp [updF_app, h1]) (by simp [updF_app]) (by simp [updF_app]) (by simp [updF_app]) (by simp [updF_app])
  · simp [hpos, e9, hlt, hz, hc, updF_app]
    exact fin t.words.length htl (by omega) _ (by simp [updF_app]) (by simp [updF_app, h1]) (by simp [updF_app]) (by simp [updF_app]) (by simp [updF_app]) (by simp [updF_app])
end Go.Proofs.Ytehcobkphobjiaa

/-
  Chapter 21's definition: what becomes of a list.
-/
namespace Go.Proofs.Ytehcobkphobjiaa
set_option linter.unusedVariables false
set_option linter.unusedSimpArgs false
open Go Go.G Go.Proofs Go.PL
/-- A step as right edits have it. -/
def OpOk (x : OP) : Prop := (x.kind = 0 ∧ 1 ≤ x.n ∧ x.n ≤ 1048576 ∧ x.l = []) ∨ (x.kind = 1 ∧ x.n = 0) ∨ (x.kind = 2 ∧ x.n = 0) ∨ (x.kind = 3 ∧ x.n = 0 ∧ x.l = [])
section
variable {n0 : Nat} {w0 : World} {I0 : Nat → Prop} {Q : Exit → Sta → Prop}
/-- What stays, between a list's steps. -/
structure LsH (e : E) (t : T) (k : Int) (acc : List T) (H : Hp) : Prop where
  g0 : H [0] = ⟨1, .cells (eL e)⟩
  g1 : H [1] = ⟨1, .cells (tL t)⟩
  g2 : H [2] = ⟨1, .cells z0⟩
  g3 : H [3] = ⟨1, .cells [iv k, .sl true [], .osl [5] (acc.length + 1) 3 0 acc.length]⟩
  g5 : H [5] = ⟨acc.length + 1, .arr 3 (acc.map tA)⟩
theorem LsH.snoc {e : E} {t : T} {k : Int} {acc : List T} {H : Hp} (h : LsH e t k acc H) (x : T) : LsH e t k (acc ++ [x]) (updF (updF H [5] ⟨acc.length + 1 + 1, .arr 3 (List.take acc.length (acc.map tA) ++ [tX x])⟩) [3] ⟨1, .cells [iv k, .sl true [], .osl [5] (acc.length + 1 + 1) 3 0 (acc.length + 1)]⟩) :=
  ⟨by simp [updF_app, h.g0], by simp [updF_app, h.g1], by simp [updF_app, h.g2], by simp [updF_app], by simp [updF_app, List.take_of_length_le]⟩
theorem LsH.put {e : E} {t : T} {k : Int} {acc : List T} {H : Hp} (h : LsH e t k acc H) {d : Nm} (x : VOb) (hd : d ≠ [0] ∧ d ≠ [1] ∧ d ≠ [2] ∧ d ≠ [3] ∧ d ≠ [5]) : LsH e t k acc (updF H d x) :=
  ⟨by rw [updF_ne (Ne.symm hd.1)]; exact h.g0, by rw [updF_ne (Ne.symm hd.2.1)]; exact h.g1, by rw [updF_ne (Ne.symm hd.2.2.1)]; exact h.g2, by rw [updF_ne (Ne.symm hd.2.2.2.1)]; exact h.g3, by rw [updF_ne (Ne.symm hd.2.2.2.2)]; exact h.g5⟩
abbrev oL (x : OP) : List A := [iv x.kind, iv x.n, tKs x.l] ++ eL x.e
theorem rls_l1 {e : E} {t : T} {k : Int} {x : OP} {i v : Nat} (hx : x.kind = 0) {N : Nat} (hN : x.n = N) (hb : N ≤ 1048576) (htk : t.kids.length * 56 ≤ 140737488355328) :
    ∀ (j m a : Nat) (acc : List T) (H : Hp), m + j = N → acc.length ≤ 1000000000000 + m → LsH e t k acc H → H [4] = ⟨v, .cells (oL x)⟩ →
      (a + j ≤ t.kids.length → ∀ (H' : Hp) (q : Bool), LsH e t k (acc ++ (t.kids.drop a).take j) H' → H' [4] = ⟨v, .cells (oL x)⟩ → Q (.exit 2) ⟨lk [(2, .pob [0] 1 0), (3, .pob [1] 1 0), (4, .pob [2] 1 0), (6, .pob [3] 1 0), (7, iv ((a + j : Nat) : Int)), (8, iv i), (9, .pob [4] v 0), (10, iv N), (43, bv q)], H'⟩) →
      (¬ a + j ≤ t.kids.length → ∀ H' : Hp, H' [2] = ⟨1, .cells z0⟩ → Q .ret ⟨lk [(4, .pob [2] 1 0), (5, bv false)], H'⟩) →
      a ≤ t.kids.length →
    LoopC (cx Try.prog w0 I0 n0) l1_centoref21_list Q ⟨lk [(2, .pob [0] 1 0), (3, .pob [1] 1 0), (4, .pob [2] 1 0), (6, .pob [3] 1 0), (7, iv a), (8, iv i), (9, .pob [4] v 0), (10, iv m)], H⟩ := by
  intro j
  induction j with
  | zero =>
    intro m a acc H hm hacc hH h4 hq hf ha
    have : m = N := by omega
    subst this
    refine loopC_once mixed l1_centoref21_list.eq_1 ?_
    simp [h4, hN]
    exact hq (by omega) H _ (by simpa using hH) h4
  | succ j ih =>
    intro m a acc H hm hacc hH h4 hq hf ha
    have hlt : m < N := by omega
    refine loopC_once mixed l1_centoref21_list.eq_1 ?_
    by_cases hla : a < t.kids.length
    rotate_left
    · have hla' : t.kids.length ≤ a := by omega
      simp [h4, hN, hx, hlt, hH.g1, hH.g2, updF_app, hla, hla']
      exact hf (by omega) _ (by simp [updF_app])
    have hla' : ¬ t.kids.length ≤ a := by omega
    have ei : IntKind.i64.wrap ((a : Int) + 1) = ((a + 1 : Nat) : Int) := i64_same (by omega) (by omega)
    have em : IntKind.i64.wrap ((m : Int) + 1) = ((m + 1 : Nat) : Int) := i64_same (by omega) (by omega)
    have hs := hH.snoc t.kids[a]
    have hd : (t.kids.drop a).take (j + 1) = t.kids[a] :: (t.kids.drop (a + 1)).take j := by
      rw [List.drop_eq_getElem_cons hla, List.take_succ_cons]
    have hs4 : ∀ X Y : VOb, (updF (updF H [5] X) [3] Y) [4] = ⟨v, .cells (oL x)⟩ := fun X Y => by simp [updF_app, h4]
    simp [h4, hN, hx, hlt, hH.g1, hla, hla', hH.g3, hH.g5, updF_app]
    refine ⟨by omega, stop_go ?_⟩
    simp [ei, em]
    refine ih (m + 1) (a + 1) (acc ++ [t.kids[a]]) _ (by omega) (by simp; omega) hs (hs4 _ _) (fun hle H' q hL' q4 => ?_) (fun hle H' h2 => hf (by omega) H' h2) (by omega)
    have := hq (by omega) H' q (by rw [hd]; simpa using hL') q4
    rwa [show a + (j + 1) = a + 1 + j by omega] at this
/-- What steps add. -/
def addO (x : OP) : Nat := if x.kind = 0 then x.n.toNat else if x.kind = 1 then 0 else if x.kind = 2 then x.l.length else 1
def addOs : List OP → Nat
  | [] => 0
  | x :: xs => addO x + addOs xs
theorem rls_l2a {e : E} {t : T} {k : Int} {x : OP} {i v : Nat} {a : Int} (hx : x.kind = 2) (hl : x.l.length ≤ 1048576) :
    ∀ (j m : Nat) (acc : List T) (H : Hp), m + j = x.l.length → acc.length ≤ 1048576 + m → LsH e t k acc H → H [4] = ⟨v, .cells (oL x)⟩ →
      (∀ (H' : Hp) (q : Bool), LsH e t k (acc ++ x.l.drop m) H' → H' [4] = ⟨v, .cells (oL x)⟩ → Q (.exit 4) ⟨lk [(2, .pob [0] 1 0), (3, .pob [1] 1 0), (4, .pob [2] 1 0), (6, .pob [3] 1 0), (7, iv a), (8, iv i), (9, .pob [4] v 0), (11, iv x.l.length), (68, bv q)], H'⟩) →
    LoopC (cx Try.prog w0 I0 n0) l2_centoref21_list Q ⟨lk [(2, .pob [0] 1 0), (3, .pob [1] 1 0), (4, .pob [2] 1 0), (6, .pob [3] 1 0), (7, iv a), (8, iv i), (9, .pob [4] v 0), (11, iv m)], H⟩ := by
  intro j
  induction j with
  | zero =>
    intro m acc H hm hacc hH h4 hq
    have : m = x.l.length := by omega
    subst this
    refine loopC_once mixed l2_centoref21_list.eq_1 ?_
    simp [h4]
    exact hq H _ (by simpa using hH) h4
  | succ j ih =>
    intro m acc H hm hacc hH h4 hq
    have hlt : m < x.l.length := by omega
    refine loopC_once mixed l2_centoref21_list.eq_1 ?_
    have em : IntKind.i64.wrap ((m : Int) + 1) = ((m + 1 : Nat) : Int) := i64_same (by omega) (by omega)
    have hs := hH.snoc x.l[m]
    have hd : x.l.drop m = x.l[m] :: x.l.drop (m + 1) := List.drop_eq_getElem_cons hlt
    have hs4 : ∀ X Y : VOb, (updF (updF H [5] X) [3] Y) [4] = ⟨v, .cells (oL x)⟩ := fun X Y => by simp [updF_app, h4]
    simp [h4, hx, hlt, hH.g3, hH.g5, updF_app]
    refine ⟨by omega, ?_⟩
    simp [em]
    refine ih (m + 1) (acc ++ [x.l[m]]) _ (by omega) (by simp; omega) hs (hs4 _ _) (fun H' q hL' q4 => ?_)
    exact hq H' q (by rw [hd]; simpa using hL') q4
theorem rls_l2b {e : E} {t : T} {k : Int} {x : OP} {i v : Nat} {acc : List T} (hx : x.kind = 1) (hl : x.l.length ≤ 1048576) (hwt : wfT t) (hwx : ∀ y, y ∈ x.l → wfT y) (a0 : Nat) :
    ∀ (j m a : Nat) (H : Hp), m + j = x.l.length → a = a0 + m → LsH e t k acc H → H [4] = ⟨v, .cells (oL x)⟩ →
      (a + j ≤ t.kids.length → ((t.kids.drop a).zip (x.l.drop m)).all (fun p => eqT p.1 p.2) = true → ∀ (H' : Hp) (q : Bool), LsH e t k acc H' → H' [4] = ⟨v, .cells (oL x)⟩ → Q (.exit 4) ⟨lk [(2, .pob [0] 1 0), (3, .pob [1] 1 0), (4, .pob [2] 1 0), (6, .pob [3] 1 0), (7, iv ((a + j : Nat) : Int)), (8, iv i), (9, .pob [4] v 0), (11, iv x.l.length), (68, bv q)], H'⟩) →
      (¬ (a + j ≤ t.kids.length ∧ ((t.kids.drop a).zip (x.l.drop m)).all (fun p => eqT p.1 p.2) = true) → ∀ H' : Hp, H' [2] = ⟨1, .cells z0⟩ → Q .ret ⟨lk [(4, .pob [2] 1 0), (5, bv false)], H'⟩) →
      a ≤ t.kids.length →
    LoopC (cx Try.prog w0 I0 n0) l2_centoref21_list Q ⟨lk [(2, .pob [0] 1 0), (3, .pob [1] 1 0), (4, .pob [2] 1 0), (6, .pob [3] 1 0), (7, iv a), (8, iv i), (9, .pob [4] v 0), (11, iv m)], H⟩ := by
  have htk := (wfT_iff.1 hwt).kl
  intro j
  induction j with
  | zero =>
    intro m a H hm hma hH h4 hq hf ha
    have : m = x.l.length := by omega
    subst this
    refine loopC_once mixed l2_centoref21_list.eq_1 ?_
    simp [h4]
    exact hq (by omega) (by simp) H _ hH h4
  | succ j ih =>
    intro m a H hm hma hH h4 hq hf ha
    have hlt : m < x.l.length := by omega
    refine loopC_once mixed l2_centoref21_list.eq_1 ?_
    have em : IntKind.i64.wrap ((m : Int) + 1) = ((m + 1 : Nat) : Int) := i64_same (by omega) (by omega)
    have ea : IntKind.i64.wrap ((a : Int) + 1) = ((a + 1 : Nat) : Int) := i64_same (by omega) (by omega)
    have hd : x.l.drop m = x.l[m] :: x.l.drop (m + 1) := List.drop_eq_getElem_cons hlt
    by_cases hla : a < t.kids.length
    rotate_left
    · have hla' : t.kids.length ≤ a := by omega
      simp [h4, hx, hlt, hH.g1, hH.g2, updF_app, hla']
      refine sc_call_off rfl ?_
      simp [hH.g2, updF_app]
      exact hf (fun h => by omega) _ (by simp [updF_app])
    have hla' : ¬ t.kids.length ≤ a := by omega
    have hd2 : t.kids.drop a = t.kids[a] :: t.kids.drop (a + 1) := List.drop_eq_getElem_cons hla
    simp [h4, hx, hlt, hH.g1, hla', hla]
    refine sc_call_gf rfl (fun _ => rEqual_spec ((wfT_iff.1 hwt).ks _ (List.getElem_mem hla)) (hwx _ (List.getElem_mem hlt)) (wf_norm _ ((wfT_iff.1 hwt).ks _ (List.getElem_mem hla)))) (fun _ => by simp) (by simp) ?_
    have hz : ((t.kids.drop a).zip (x.l.drop m)).all (fun p => eqT p.1 p.2) = (eqT t.kids[a] x.l[m] && ((t.kids.drop (a + 1)).zip (x.l.drop (m + 1))).all (fun p => eqT p.1 p.2)) := by rw [hd, hd2]; rfl
    rw [hz] at hq hf
    simp only [Bool.and_eq_true] at hq hf
    by_cases he : eqT t.kids[a] x.l[m] = true
    · simp [he]
      refine stop_go ?_
      simp [ea, em]
      refine ih (m + 1) (a + 1) H (by omega) (by omega) hH h4 (fun hle hal H' q hL' q4 => ?_) (fun hle H' h2 => hf (fun h => hle ⟨by omega, h.2.2⟩) H' h2) (by omega)
      have := hq (by omega) ⟨he, hal⟩ H' q hL' q4
      rwa [show a + (j + 1) = a + 1 + j by omega] at this
    · simp [he, hH.g2, updF_app]
      exact hf (fun h => he h.2.1) _ (by simp [updF_app])
theorem rls_l1z {x : OP} {i v : Nat} {a : Int} (hx : x.n = 0) {H : Hp} (h4 : H [4] = ⟨v, .cells (oL x)⟩)
    (hq : ∀ q : Bool, Q (.exit 2) ⟨lk [(2, .pob [0] 1 0), (3, .pob [1] 1 0), (4, .pob [2] 1 0), (6, .pob [3] 1 0), (7, iv a), (8, iv i), (9, .pob [4] v 0), (10, iv 0), (43, bv q)], H⟩) :
    LoopC (cx Try.prog w0 I0 n0) l1_centoref21_list Q ⟨lk [(2, .pob [0] 1 0), (3, .pob [1] 1 0), (4, .pob [2] 1 0), (6, .pob [3] 1 0), (7, iv a), (8, iv i), (9, .pob [4] v 0), (10, iv 0)], H⟩ := by
  refine loopC_once mixed l1_centoref21_list.eq_1 ?_
  simp [h4, hx]
  exact hq _
theorem rls_l2z {x : OP} {i v : Nat} {a : Int} (hx : x.l = []) {H : Hp} (h4 : H [4] = ⟨v, .cells (oL x)⟩)
    (hq : ∀ q : Bool, Q (.exit 4) ⟨lk [(2, .pob [0] 1 0), (3, .pob [1] 1 0), (4, .pob [2] 1 0), (6, .pob [3] 1 0), (7, iv a), (8, iv i), (9, .pob [4] v 0), (11, iv 0), (68, bv q)], H⟩) :
    LoopC (cx Try.prog w0 I0 n0) l2_centoref21_list Q ⟨lk [(2, .pob [0] 1 0), (3, .pob [1] 1 0), (4, .pob [2] 1 0), (6, .pob [3] 1 0), (7, iv a), (8, iv i), (9, .pob [4] v 0), (11, iv 0)], H⟩ := by
  refine loopC_once mixed l2_centoref21_list.eq_1 ?_
  simp [h4, hx]
  exact hq _
theorem zip_take (f : T × T → Bool) : ∀ (l m : List T), ((l.take m.length).zip m).all f = (l.zip m).all f
  | l, [] => by simp
  | [], m => by simp
  | x :: l, y :: m => by
    have := zip_take f l m
    simp only [List.length_cons, List.take_succ_cons, List.zip_cons_cons, List.all_cons, this]
theorem apOs_drop {os : List OP} {i : Nat} (h : i < os.length) : apOs (os.drop i) = (os[i].kind, os[i].n, os[i].l, apE os[i].e) :: apOs (os.drop (i + 1)) := by
  rw [List.drop_eq_getElem_cons h, apOs_map, List.map_cons, ← apOs_map]
theorem rls_l3 {e : E} {t : T} {k : Int} (hwt : wfT t) (hol : e.ops.length * 240 ≤ 140737488355328) (hok : ∀ x, x ∈ e.ops → OpOk x ∧ x.l.length ≤ 1048576 ∧ (∀ y, y ∈ x.l → wfT y)) (hk : ∀ x, x ∈ e.ops → x.kind = 3 → RefS x.e)
    (hf : opsR t.kids 0 (apOs e.ops) = none → ∀ H' : Hp, H' [2] = ⟨1, .cells z0⟩ → Q .ret ⟨lk [(4, .pob [2] 1 0), (5, bv false)], H'⟩)
    (hq : ∀ (q : Bool) (a : Nat) (acc : List T) (H' : Hp), opsR t.kids 0 (apOs e.ops) = some (acc, a) → a ≤ t.kids.length → LsH e t k acc H' → Q (.exit 0) ⟨lk [(2, .pob [0] 1 0), (3, .pob [1] 1 0), (4, .pob [2] 1 0), (6, .pob [3] 1 0), (7, iv a), (8, iv e.ops.length), (27, bv q)], H'⟩) :
    ∀ (j i a : Nat) (acc : List T) (H : Hp), i + j = e.ops.length → acc.length + addOs (e.ops.drop i) ≤ 1048576 → LsH e t k acc H →
      (∀ r, opsR t.kids a (apOs (e.ops.drop i)) = some r → opsR t.kids 0 (apOs e.ops) = some (acc ++ r.1, r.2)) → (opsR t.kids a (apOs (e.ops.drop i)) = none → opsR t.kids 0 (apOs e.ops) = none) →
      a ≤ t.kids.length →
    LoopC (cx Try.prog w0 I0 n0) l3_centoref21_list Q ⟨lk [(2, .pob [0] 1 0), (3, .pob [1] 1 0), (4, .pob [2] 1 0), (6, .pob [3] 1 0), (7, iv a), (8, iv i)], H⟩ := by
  have htk := (wfT_iff.1 hwt).kl
  intro j
  induction j with
  | zero =>
    intro i a acc H hi hacc hH hs hn ha
    have : i = e.ops.length := by omega
    subst this
    refine loopC_once mixed l3_centoref21_list.eq_1 ?_
    simp [hH.g0]
    rw [List.drop_length, apOs] at hs
    have := hs ([], a) (by rw [opsR])
    rw [List.append_nil] at this
    exact hq _ a acc H this ha hH
  | succ j ih =>
    intro i a acc H hi hacc hH hs hn ha
    have hlt : i < e.ops.length := by omega
    obtain ⟨hop, hxl, hxw⟩ := hok _ (List.getElem_mem hlt)
    have hkx := hk _ (List.getElem_mem hlt)
    rw [apOs_drop hlt] at hs hn
    have hadd : addOs (e.ops.drop i) = addO e.ops[i] + addOs (e.ops.drop (i + 1)) := by rw [List.drop_eq_getElem_cons hlt]; rfl
    rw [hadd] at hacc
    have ei : IntKind.i64.wrap ((i : Int) + 1) = ((i + 1 : Nat) : Int) := i64_same (by omega) (by omega)
    refine loopC_once mixed l3_centoref21_list.eq_1 ?_
    simp [hlt, hH.g0, updF_app]
    have hH4 := hH.put (d := [4]) ⟨(H [4]).u + 1, .cells (oL e.ops[i])⟩ (by simp)
    have h4 : (updF H [4] ⟨(H [4]).u + 1, .cells (oL e.ops[i])⟩) [4] = ⟨(H [4]).u + 1, .cells (oL e.ops[i])⟩ := by simp [updF_app]
    change LsH e t k acc (updF H [4] { u := (H [4]).u + 1, ob := .cells [iv e.ops[i].kind, iv e.ops[i].n, tKs e.ops[i].l, iv e.ops[i].e.kind, iv e.ops[i].e.old.kind, uws e.ops[i].e.old.words, tKs e.ops[i].e.old.kids, iv e.ops[i].e.new.kind, uws e.ops[i].e.new.words, tKs e.ops[i].e.new.kids, wKs e.ops[i].e.words, kKs e.ops[i].e.kids, iv e.ops[i].e.list, oKs e.ops[i].e.ops] }) at hH4
    change (updF H [4] { u := (H [4]).u + 1, ob := .cells [iv e.ops[i].kind, iv e.ops[i].n, tKs e.ops[i].l, iv e.ops[i].e.kind, iv e.ops[i].e.old.kind, uws e.ops[i].e.old.words, tKs e.ops[i].e.old.kids, iv e.ops[i].e.new.kind, uws e.ops[i].e.new.words, tKs e.ops[i].e.new.kids, wKs e.ops[i].e.words, kKs e.ops[i].e.kids, iv e.ops[i].e.list, oKs e.ops[i].e.ops] }) [4] = ⟨(H [4]).u + 1, .cells (oL e.ops[i])⟩ at h4
    generalize updF H [4] { u := (H [4]).u + 1, ob := .cells [iv e.ops[i].kind, iv e.ops[i].n, tKs e.ops[i].l, iv e.ops[i].e.kind, iv e.ops[i].e.old.kind, uws e.ops[i].e.old.words, tKs e.ops[i].e.old.kids, iv e.ops[i].e.new.kind, uws e.ops[i].e.new.words, tKs e.ops[i].e.new.kids, wKs e.ops[i].e.words, kKs e.ops[i].e.kids, iv e.ops[i].e.list, oKs e.ops[i].e.ops] } = H1 at hH4 h4 ⊢
    generalize (H [4]).u + 1 = v at h4 ⊢
    generalize hx : e.ops[i] = x at *
    clear hH
    rcases hop with ⟨k0, n1, n2, l0⟩ | ⟨k1, nz⟩ | ⟨k2, nz⟩ | ⟨k3, nz, l0⟩
    · obtain ⟨N, hN⟩ : ∃ N : Nat, x.n = N := ⟨x.n.toNat, by omega⟩
      have hN2 : x.n.toNat = N := by omega
      have hao : addO x = N := by rw [addO, if_pos k0, hN2]
      rw [opsR, if_pos k0, hN2] at hs hn
      refine rls_l1 k0 hN (by omega) htk N 0 a acc H1 (by omega) (by omega) hH4 h4 (fun hle H2 q hL2 q4 => ?_) (fun hle H2 h2 => ?_) ha
      · simp
        refine rls_l2z l0 q4 (fun q2 => ?_)
        rw [if_pos hle] at hs hn
        simp [q4, k0, ei]
        refine ih (i + 1) (a + N) _ H2 (by omega) (by simp; omega) hL2 (fun r hr => ?_) (fun hr => hn (by rw [hr]; rfl)) hle
        have := hs (((t.kids.drop a).take N) ++ r.1, r.2) (by rw [hr]; rfl)
        simpa using this
      · simp
        rw [if_neg hle] at hn
        exact hf (hn rfl) H2 h2
    · have hao : addO x = 0 := by rw [addO, if_neg (by omega), if_pos k1]
      rw [opsR, if_neg (by omega), if_pos k1] at hs hn
      refine rls_l1z nz h4 (fun q => ?_)
      simp
      refine rls_l2b k1 hxl hwt hxw a x.l.length 0 a H1 (by omega) (by omega) hH4 h4 (fun hle hal H2 q hL2 q4 => ?_) (fun hbad H2 h2 => ?_) ha
      · rw [List.drop_zero] at hal
        rw [if_pos ⟨hle, by rw [zip_take]; exact hal⟩] at hs hn
        simp [q4, k1, ei]
        exact ih (i + 1) (a + x.l.length) acc H2 (by omega) (by omega) hL2 hs hn hle
      · simp
        rw [if_neg (fun h => hbad ⟨h.1, by rw [List.drop_zero, ← zip_take]; exact h.2⟩)] at hn
        exact hf (hn rfl) H2 h2
    · have hao : addO x = x.l.length := by rw [addO, if_neg (by omega), if_neg (by omega), if_pos k2]
      rw [opsR, if_neg (by omega), if_neg (by omega), if_pos k2] at hs hn
      refine rls_l1z nz h4 (fun q => ?_)
      simp
      refine rls_l2a k2 hxl x.l.length 0 acc H1 (by omega) (by omega) hH4 h4 (fun H2 q hL2 q4 => ?_)
      simp [q4, k2, ei]
      refine ih (i + 1) a _ H2 (by omega) (by simp; omega) hL2 (fun r hr => ?_) (fun hr => hn (by rw [hr]; rfl)) ha
      have := hs (x.l ++ r.1, r.2) (by rw [hr]; rfl)
      simpa using this
    · have hao : addO x = 1 := by rw [addO, if_neg (by omega), if_neg (by omega), if_neg (by omega)]
      rw [opsR, if_neg (by omega), if_neg (by omega), if_neg (by omega)] at hs hn
      refine rls_l1z nz h4 (fun q => ?_)
      simp
      refine rls_l2z l0 h4 (fun q2 => ?_)
      by_cases hla : a < t.kids.length
      rotate_left
      · have hla' : t.kids.length ≤ a := by omega
        rw [List.getElem?_eq_none hla'] at hn
        simp [h4, k3, hH4.g1, hla', hH4.g2, updF_app]
        exact hf (hn rfl) _ (by simp [updF_app])
      have hla' : ¬ t.kids.length ≤ a := by omega
      rw [List.getElem?_eq_getElem hla] at hs hn
      dsimp only at hs hn
      have ea : IntKind.i64.wrap ((a : Int) + 1) = ((a + 1 : Nat) : Int) := i64_same (by omega) (by omega)
      obtain ⟨hsp, hwv⟩ := hkx k3 _ ((wfT_iff.1 hwt).ks _ (List.getElem_mem hla))
      simp [h4, k3, hH4.g1, hla', hla]
      refine sc_call hsp (by simp) ?_
      cases hu : apE x.e t.kids[a] with
      | none =>
        rw [hu] at hn
        simp [updF_app, hH4.g2]
        exact hf (hn rfl) _ (by simp [updF_app])
      | some u =>
        rw [hu] at hs hn
        have hH7 := hH4.put (d := [7]) ⟨(H1 [7]).u + 1, .cells (tL u)⟩ (by simp)
        have hS := hH7.snoc u
        simp [updF_app, hH4.g3, hH4.g5]
        refine ⟨by omega, stop_go ?_⟩
        simp [ea, ei]
        refine ih (i + 1) (a + 1) (acc ++ [u]) _ (by omega) (by simp; omega) hS (fun r hr => ?_) (fun hr => hn (by rw [hr]; rfl)) (by omega)
        have := hs (u :: r.1, r.2) (by rw [hr]; rfl)
        simpa using this
end
/-- What a list becomes, as its function says. -/
noncomputable def lisX (e : E) (t : T) : A := if t.kind = e.list then (match opsR t.kids 0 (apOs e.ops) with
  | some r => .tup [tX (.mk t.kind [] r.1), bv (decide (r.2 = t.kids.length))]
  | none => .tup [tX T0, bv false]) else .tup [tX T0, bv false]
theorem rList_spec {e : E} (hwe : wfE e) (hok : ∀ x, x ∈ e.ops → OpOk x ∧ x.l.length ≤ 1048576) (hk : ∀ x, x ∈ e.ops → x.kind = 3 → RefS x.e) (hadd : addOs e.ops ≤ 1048576) {t : T} (hwt : wfT t) :
    G.Spec Try.prog 95 [eX e, tX t] (lisX e t) := by
  have he := wfE_iff.1 hwe
  refine spec_of t_centoref21_list (by simp) fun w0 I0 => ?_
  have bad : ∀ H : Hp, H [2] = ⟨1, .cells z0⟩ → Frz H (.tup [.agg z0, bv false]) (.tup [tX T0, bv false]) := fun H h =>
    frz_tup ⟨frz_agg ⟨frz_bare rfl, frz_sl, frz_sl, trivial⟩, frz_bare rfl, trivial⟩
  by_cases h1 : t.kind = e.list
  rotate_left
  · have : lisX e t = .tup [tX T0, bv false] := if_neg h1
    rw [this]
    unfold c_centoref21_list
    simp [h1]
    exact bad _ (by simp)
  have hX : lisX e t = (match opsR t.kids 0 (apOs e.ops) with
    | some r => .tup [tX (.mk t.kind [] r.1), bv (decide (r.2 = t.kids.length))]
    | none => .tup [tX T0, bv false]) := if_pos h1
  generalize lisX e t = X at hX ⊢
  unfold c_centoref21_list
  simp [h1]
  refine stop_le (le_blankC (d := [3]) (u := 1) (cs := [iv t.kind, .sl true [], .sl true []]) 2 [5] 3 (by simp [h1]) rfl (by simp)) (stop_go ?_)
  simp
  refine rls_l3 (e := e) (k := t.kind) hwt he.ol (fun x hx => ⟨(hok x hx).1, (hok x hx).2, ?_⟩) hk (fun hnone H' h2 => ?_) (fun q a acc H' hsome hle hL => ?_) e.ops.length 0 0 [] _ (by omega) (by simpa using hadd) ?_ (fun r hr => by simpa using hr) (fun hr => by simpa using hr) (by omega)
  · exact (he.os x hx).l
  · simp [h2]
    rw [hX, hnone]
    exact bad _ h2
  · simp [hL.g1, hL.g2, hL.g3, updF_app]
    rw [hX, hsome]
    exact frz_tup ⟨frz_agg ⟨frz_bare rfl, frz_sl, frz_row (f := tA) (l := acc) (by simp [updF_app, hL.g5]) rfl (fun x => by simp), trivial⟩, frz_bool (by simp; omega), trivial⟩
  · exact ⟨by simp, by simp [h1], by simp, by simp, by simp⟩
end Go.Proofs.Ytehcobkphobjiaa

/-
  Chapter 21's definition: what becomes of a tree by a right edit.
-/
namespace Go.Proofs.Ytehcobkphobjiaa
set_option linter.unusedVariables false
set_option linter.unusedSimpArgs false
open Go Go.G Go.Proofs Go.PL
theorem opOk_of {list : Int} {x : OP} (h : opFlat list x = true) (h3 : x.kind = 3 → opDeep list x = true) : OpOk x := by
  unfold opFlat at h
  split at h
  · rename_i h0
    simp at h
    exact .inl ⟨h0, h.1.1.1, h.1.1.2, h.1.2⟩
  · split at h
    · cases h
    · rename_i h0 h1
      by_cases k1 : x.kind = 1
      · exact .inr (.inl ⟨k1, by omega⟩)
      · by_cases k2 : x.kind = 2
        · exact .inr (.inr (.inl ⟨k2, by omega⟩))
        · have k3 : x.kind = 3 := by omega
          have := h3 k3
          simp [opDeep] at this
          exact .inr (.inr (.inr ⟨k3, by omega, this.1.1⟩))
def subO (x : OP) : Nat := if x.kind = 2 then 0 else (opLen x).toNat
def subOs : List OP → Nat
  | [] => 0
  | x :: xs => subO x + subOs xs
theorem opLen_nn {x : OP} (h : OpOk x) : 0 ≤ opLen x := by
  unfold opLen
  rcases h with h | h | h | h <;> (split <;> omega)
theorem sat_le {a b : Int} (h : a ≤ b) (ha : a ≤ 1048576) : a ≤ sat b := by unfold sat; split <;> omega
theorem sat_top (b : Int) : sat b ≤ 1048576 := by unfold sat; split <;> omega
theorem sat_lt {a b : Int} (h : sat b < 1048576) : sat b = b := by unfold sat at h ⊢; split <;> first | omega | rfl
theorem lengths_mono : ∀ (os : List OP) (n m : Int), (∀ x, x ∈ os → OpOk x) → n ≤ 1048576 → m ≤ 1048576 → n ≤ (lengths n m os).1 ∧ m ≤ (lengths n m os).2
  | [], n, m, _, _, _ => ⟨by simp [lengths], by simp [lengths]⟩
  | x :: os, n, m, h, hn, hm => by
    rw [lengths]
    have hx := opLen_nn (h x (by simp))
    obtain ⟨a, b⟩ := lengths_mono os (sat (if x.kind ≠ 2 then n + opLen x else n)) (sat (if x.kind ≠ 1 then m + opLen x else m)) (fun y hy => h y (by simp [hy])) (sat_top _) (sat_top _)
    exact ⟨Int.le_trans (sat_le (by split <;> omega) hn) a, Int.le_trans (sat_le (by split <;> omega) hm) b⟩
theorem addO_eq {x : OP} (h : OpOk x) : (addO x : Int) = if x.kind ≠ 1 then opLen x else 0 := by
  unfold addO opLen
  rcases h with ⟨a, b, c, d⟩ | ⟨a, b⟩ | ⟨a, b⟩ | ⟨a, b, d⟩
  · simp [a, d]; omega
  · simp [a]
  · simp [a, b]
  · simp [a]
theorem lengths_add : ∀ (os : List OP) (n m : Int), (∀ x, x ∈ os → OpOk x) → 0 ≤ n → 0 ≤ m → n ≤ 1048576 → m ≤ 1048576 → (lengths n m os).1 < 1048576 → (lengths n m os).2 < 1048576 → n + subOs os < 1048576 ∧ m + addOs os < 1048576
  | [], n, m, _, _, _, _, _, h1, h2 => by
    simp [lengths] at h1 h2
    exact ⟨by simp [subOs]; omega, by simp [addOs]; omega⟩
  | x :: os, n, m, h, hn, hm, tn, tm, h1, h2 => by
    rw [lengths] at h1 h2
    have hok := h x (by simp)
    have hx := opLen_nn hok
    have hr : ∀ y, y ∈ os → OpOk y := fun y hy => h y (by simp [hy])
    obtain ⟨a, b⟩ := lengths_mono os (sat (if x.kind ≠ 2 then n + opLen x else n)) (sat (if x.kind ≠ 1 then m + opLen x else m)) hr (sat_top _) (sat_top _)
    have e1 := sat_lt (a := 0) (Int.lt_of_le_of_lt a h1)
    have e2 := sat_lt (a := 0) (Int.lt_of_le_of_lt b h2)
    obtain ⟨c, d⟩ := lengths_add os _ _ hr (by rw [e1]; split <;> omega) (by rw [e2]; split <;> omega) (sat_top _) (sat_top _) h1 h2
    rw [e1] at c
    rw [e2] at d
    have q := addO_eq hok
    constructor
    · simp only [subOs, subO]
      by_cases k2 : x.kind = 2
      · simp [k2] at c ⊢; omega
      · simp [k2] at c ⊢; omega
    · simp only [addOs]
      by_cases k1 : x.kind = 1
      · simp [k1] at d q; omega
      · simp [k1] at d q; omega
theorem sub_mem : ∀ {os : List OP} {x : OP}, x ∈ os → subO x ≤ subOs os ∧ addO x ≤ addOs os
  | [], x, h => nomatch h
  | y :: os, x, h => by
    simp only [subOs, addOs]
    rcases List.mem_cons.1 h with rfl | h
    · exact ⟨by omega, by omega⟩
    · have := sub_mem h
      exact ⟨by omega, by omega⟩
/-- What a right edit's steps are. -/
theorem ops_facts {os : List OP} (h : ∀ x, x ∈ os → OpOk x) (h1 : (lengths 0 0 os).1 < 1048576) (h2 : (lengths 0 0 os).2 < 1048576) : addOs os ≤ 1048576 ∧ ∀ x, x ∈ os → OpOk x ∧ x.l.length ≤ 1048576 := by
  obtain ⟨a, b⟩ := lengths_add os 0 0 h (by omega) (by omega) (by omega) (by omega) h1 h2
  refine ⟨by omega, fun x hx => ⟨h x hx, ?_⟩⟩
  obtain ⟨c, d⟩ := sub_mem hx
  rcases h x hx with ⟨k, _, _, e⟩ | ⟨k, e⟩ | ⟨k, e⟩ | ⟨k, _, e⟩
  · rw [e]; simp
  · simp [subO, opLen, k] at c; omega
  · simp [addO, k] at d; omega
  · rw [e]; simp
theorem wordsOk_at : ∀ {ws : List WE} {last : Int}, -1 ≤ last → wordsOk last ws = true → ∀ x, x ∈ ws → 0 ≤ x.at_ ∧ x.at_ ≤ 65534
  | [], _, _, _, x, hx => nomatch hx
  | w :: ws, last, hl, h, x, hx => by
    simp [wordsOk, wordOk] at h
    obtain ⟨⟨⟨⟨⟨h1, h2⟩, _⟩, _⟩, _⟩, h3⟩ := h
    rcases List.mem_cons.1 hx with rfl | hx
    · exact ⟨by omega, by omega⟩
    · exact wordsOk_at (by omega) h3 x hx
theorem kidsOk_at {d : Nat} : ∀ {ks : List KE} {last : Int}, -1 ≤ last → rightKs d last ks = true → ∀ x, x ∈ ks → (0 ≤ x.at_ ∧ x.at_ ≤ 65534) ∧ rightE d x.e = true
  | [], _, _, _, x, hx => nomatch hx
  | w :: ws, last, hl, h, x, hx => by
    simp at h
    obtain ⟨⟨⟨⟨h1, h2⟩, _⟩, h4⟩, h3⟩ := h
    rcases List.mem_cons.1 hx with rfl | hx
    · exact ⟨⟨by omega, by omega⟩, h4⟩
    · exact kidsOk_at (by omega) h3 x hx
theorem opsR_facts {tk : List T} (ht : ∀ x, x ∈ tk → wfT x) : ∀ (os : List OP) (a : Nat) (r : List T × Nat), (∀ x, x ∈ os → OpOk x ∧ (∀ y, y ∈ x.l → wfT y) ∧ (x.kind = 3 → ∀ u v, wfT u → apE x.e u = some v → wfT v)) → opsR tk a (apOs os) = some r → (∀ x, x ∈ r.1 → wfT x) ∧ r.1.length ≤ addOs os
  | [], a, r, _, h => by
    rw [apOs, opsR] at h
    cases h
    exact ⟨fun x hx => (nomatch hx), by simp⟩
  | x :: os, a, r, ho, h => by
    obtain ⟨hok, hl, he⟩ := ho x (by simp)
    have ih := fun a' r' => opsR_facts ht os a' r' (fun y hy => ho y (by simp [hy]))
    rw [apOs_map, List.map_cons, ← apOs_map] at h
    have key : ∀ (ys : List T) (a' : Nat), (∀ y, y ∈ ys → wfT y) → ys.length ≤ addO x → (opsR tk a' (apOs os)).map (fun r => (ys ++ r.1, r.2)) = some r → (∀ x, x ∈ r.1 → wfT x) ∧ r.1.length ≤ addOs (x :: os) := fun ys a' hy hn h => by
      cases h' : opsR tk a' (apOs os) with
      | none => rw [h'] at h; cases h
      | some r' =>
        rw [h'] at h
        cases h
        obtain ⟨p, q⟩ := ih a' r' h'
        refine ⟨fun z hz => ?_, by simp [addOs]; omega⟩
        rcases List.mem_append.1 hz with hz | hz
        · exact hy z hz
        · exact p z hz
    rcases hok with ⟨k, n1, n2, l0⟩ | ⟨k, n⟩ | ⟨k, n⟩ | ⟨k, n, l0⟩
    · rw [opsR, if_pos k] at h
      split at h
      · exact key _ _ (fun y hy => ht y (List.mem_of_mem_drop (List.mem_of_mem_take hy))) (by rw [addO, if_pos k]; simp; omega) h
      · cases h
    · rw [opsR, if_neg (by omega), if_pos k] at h
      split at h
      · obtain ⟨p, q⟩ := ih _ _ h
        exact ⟨p, by simp only [addOs]; omega⟩
      · cases h
    · rw [opsR, if_neg (by omega), if_neg (by omega), if_pos k] at h
      exact key _ _ hl (by rw [addO, if_neg (by omega), if_neg (by omega), if_pos k]; omega) h
    · rw [opsR, if_neg (by omega), if_neg (by omega), if_neg (by omega)] at h
      cases hg : tk[a]? with
      | none => rw [hg] at h; cases h
      | some u =>
        rw [hg] at h
        dsimp only at h
        cases hu : apE x.e u with
        | none => rw [hu] at h; cases h
        | some v =>
          rw [hu] at h
          exact key [v] _ (fun y hy => by
            rw [List.mem_singleton.1 hy]
            exact he k u v (ht u (List.mem_of_getElem? hg)) hu) (by rw [addO, if_neg (by omega), if_neg (by omega), if_neg (by omega)]; simp) h
section
variable {n0 : Nat} {w0 : World} {I0 : Nat → Prop}
theorem redit_k1 {o : Option T} {u : T} {b : Bool} (hu : b = true → wfT u) (ho : o = if b then some (norm u) else none) {H : Hp} (h2 : H [2] = ⟨1, .cells z0⟩) (h3 : H [3] = ⟨1, .cells (tL u)⟩) :
    WPC (cx Try.prog w0 I0 n0) k1_centoref21_Edit (RetC Try.prog [.cell 4 53, .tmp 5] (resX o)) ⟨lk [(4, .pob [2] 1 0), (6, .pob [3] 1 0), (7, bv b)], H⟩ := by
  subst ho
  rw [k1_centoref21_Edit.eq_1]
  cases b with
  | false =>
    simp [h2, updF_app]
    exact frz_tup ⟨frz_agg ⟨frz_bare rfl, frz_sl, frz_sl, trivial⟩, frz_bare rfl, trivial⟩
  | true =>
    simp [h3, h2, updF_app]
    refine sc_call (rNorm_spec u (hu rfl)) rfl ?_
    simp [h3, h2, updF_app]
    have e1 : tX (norm u) = .agg [iv u.kind, uws (norm u).words, tKs (norm u).kids] := by simp
    show Frz _ _ (.tup [tX (norm u), bv true])
    rw [e1]
    exact frz_tup ⟨frz_agg ⟨frz_bare rfl, frz_sl, frz_sl, trivial⟩, frz_bare rfl, trivial⟩
end
theorem refS_right : ∀ (e : E), wfE e → ∀ d : Nat, rightE d e = true → RefS e := by
  refine E.ind fun k o n ws ks l os ihK ihO hwe d hd t hwt => ?_
  have he := wfE_iff.1 hwe
  have heo := he.o
  have hen := he.n
  have heks := he.ks
  have heos := he.os
  simp only [E.old_mk, E.new_mk, E.kids_mk, E.ops_mk] at heo hen heks heos
  rw [rightE_mk] at hd
  split at hd
  · cases hd
  rename_i hhead
  have hht := wfT_iff.1 hwt
  rw [apE_mk]
  by_cases k0 : k = 0
  · subst k0
    have hst : stepE 0 o n ws (apKs ks) l (apOs os) t = some (norm t) := if_pos rfl
    rw [hst]
    refine ⟨?_, fun v hv => by cases hv; exact wf_norm t hwt⟩
    refine spec_of t_centoref21_Edit (by simp) fun w0 I0 => ?_
    unfold c_centoref21_Edit
    simp
    exact redit_k1 (u := t) (b := true) (fun _ => hwt) rfl (by simp) (by simp)
  by_cases k1 : k = 1
  · subst k1
    have hst : stepE 1 o n ws (apKs ks) l (apOs os) t = if eqT o t = true then some (norm n) else none := by
      rw [stepE, if_neg (by decide), if_pos rfl]
    rw [hst]
    refine ⟨?_, fun v hv => by
      split at hv
      · cases hv; exact wf_norm n hen
      · cases hv⟩
    refine spec_of t_centoref21_Edit (by simp) fun w0 I0 => ?_
    unfold c_centoref21_Edit
    simp [updF_app]
    refine sc_call (rEqual_spec heo hwt (wf_norm o heo)) (by simp) ?_
    simp [updF_app]
    exact redit_k1 (u := n) (b := eqT o t) (fun _ => hen) rfl (by simp) (by simp)
  rw [if_neg k1] at hd
  split at hd
  · cases hd
  rename_i hw
  split at hd
  · cases hd
  rename_i hk
  split at hd
  · cases hd
  rename_i hl
  split at hd
  · cases hd
  rename_i ho
  simp at hd hw hk ho
  have hp := wordsOk_at (by omega) hw
  have hp2 := kidsOk_at (by omega) hk
  have hro := rightOs_all.1 ho
  have hRK : ∀ x, x ∈ ks → RefS x.e := fun x hx => ihK x hx (heks x hx).2 (d - 1) (hp2 x hx).2
  have hop : ∀ x, x ∈ os → OpOk x := fun x hx => by
    have := hro x hx
    rw [rightO_eq] at this
    simp at this
    exact opOk_of this.1 (fun h3 => by
      rcases this.2 with h | h
      · exact absurd h3 h
      · exact h.1.1)
  have hRO : ∀ x, x ∈ os → x.kind = 3 → RefS x.e := fun x hx h3 => by
    have := hro x hx
    rw [rightO_eq, if_pos h3] at this
    simp at this
    exact ihO x hx (heos x hx).e (d - 1) this.2.1.2
  obtain ⟨hadd, hox⟩ := ops_facts hop hd.1 hd.2
  by_cases k2 : k = 2
  · subst k2
    have hst : stepE 2 o n ws (apKs ks) l (apOs os) t = (strA (.mk 2 o n ws ks l os) t).map norm := by
      rw [stepE, if_neg (by decide), if_neg (by decide), if_pos rfl, strA, strO]
      simp only [E.words_mk, E.kids_mk]
      split
      · split <;> rfl
      · rfl
    have hs := rStr_spec hwe hRK hwt hp (fun x hx => (hp2 x hx).1)
    have hsw := strA_wf (e := .mk 2 o n ws ks l os) hRK hwt hp (fun x hx => (hp2 x hx).1)
    rw [hst]
    generalize strA (.mk 2 o n ws ks l os) t = s at hs hsw ⊢
    refine ⟨?_, fun v hv => by
      cases s with
      | none => cases hv
      | some s => cases hv; exact wf_norm s (hsw s rfl)⟩
    refine spec_of t_centoref21_Edit (by simp) fun w0 I0 => ?_
    unfold c_centoref21_Edit
    simp [updF_app]
    refine sc_call hs (by simp) ?_
    cases s with
    | none =>
      simp [updF_app]
      exact redit_k1 (u := T0) (b := false) (fun h => nomatch h) rfl (by simp) (by simp)
    | some s =>
      simp [updF_app]
      exact redit_k1 (u := s) (b := true) (fun h => hsw s rfl) rfl (by simp) (by simp)
  by_cases k3 : k = 3
  · subst k3
    have hs := rList_spec hwe (fun x hx => hox x hx) hRO hadd hwt
    have hst : stepE 3 o n ws (apKs ks) l (apOs os) t = if t.kind = l then (match opsR t.kids 0 (apOs os) with
      | some (l, a) => if a = t.kids.length then some (norm (.mk t.kind [] l)) else none
      | none => none) else none := by
      rw [stepE, if_neg (by decide), if_neg (by decide), if_neg (by decide), if_pos rfl]
      first | done | rfl
    have hof := fun r => opsR_facts hht.ks os 0 r (fun x hx => ⟨hop x hx, (heos x hx).l, fun h3 u v hu hv => (hRO x hx h3 u hu).2 v hv⟩)
    have hout : ∀ r, opsR t.kids 0 (apOs os) = some r → wfT (.mk t.kind [] r.1) := fun r hr => by
      obtain ⟨p, q⟩ := hof r hr
      exact wfT_iff.2 ⟨hht.k, by simp, by simp, by simp; omega, p⟩
    rw [hst]
    have hX : lisX (.mk 3 o n ws ks l os) t = if t.kind = l then (match opsR t.kids 0 (apOs os) with
      | some r => .tup [tX (.mk t.kind [] r.1), bv (decide (r.2 = t.kids.length))]
      | none => .tup [tX T0, bv false]) else .tup [tX T0, bv false] := rfl
    rw [hX] at hs
    by_cases hkl : t.kind = l
    rotate_left
    · rw [if_neg hkl] at hs ⊢
      refine ⟨?_, fun v hv => nomatch hv⟩
      refine spec_of t_centoref21_Edit (by simp) fun w0 I0 => ?_
      unfold c_centoref21_Edit
      simp [updF_app]
      refine sc_call hs (by simp) ?_
      simp [updF_app]
      exact redit_k1 (u := T0) (b := false) (fun h => nomatch h) rfl (by simp) (by simp)
    rw [if_pos hkl] at hs ⊢
    cases hr : opsR t.kids 0 (apOs os) with
    | none =>
      rw [hr] at hs
      refine ⟨?_, fun v hv => nomatch hv⟩
      refine spec_of t_centoref21_Edit (by simp) fun w0 I0 => ?_
      unfold c_centoref21_Edit
      simp [updF_app]
      refine sc_call hs (by simp) ?_
      simp [updF_app]
      exact redit_k1 (u := T0) (b := false) (fun h => nomatch h) rfl (by simp) (by simp)
    | some r =>
      rw [hr] at hs
      have hu := hout r hr
      generalize hU : T.mk t.kind [] r.1 = U at hs hu
      obtain ⟨r1, r2⟩ := r
      dsimp only at hs hU ⊢
      rw [hU]
      refine ⟨?_, fun v hv => by
        split at hv
        · cases hv; exact wf_norm U hu
        · cases hv⟩
      refine spec_of t_centoref21_Edit (by simp) fun w0 I0 => ?_
      unfold c_centoref21_Edit
      simp [updF_app]
      refine sc_call hs (by simp) ?_
      simp [updF_app]
      exact redit_k1 (u := U) (b := decide (r2 = t.kids.length)) (fun _ => hu) (by simp) (by simp) (by simp [← hU])
  have hst : stepE k o n ws (apKs ks) l (apOs os) t = none := by
    rw [stepE, if_neg k0, if_neg k1, if_neg k2, if_neg k3]
  rw [hst]
  refine ⟨?_, fun v hv => nomatch hv⟩
  refine spec_of t_centoref21_Edit (by simp) fun w0 I0 => ?_
  unfold c_centoref21_Edit
  simp [updF_app, k0, k1, k2, k3]
  exact redit_k1 (u := t) (b := false) (fun h => nomatch h) rfl (by simp) (by simp)
end Go.Proofs.Ytehcobkphobjiaa

/-
  Chapter 29: what the maker makes of an edit.
-/
namespace Go.Proofs.Ytehcobkphobjiaa
set_option linter.unusedVariables false
set_option linter.unusedSimpArgs false
open Go Go.G Go.Proofs Go.PL
/-- A maker's answer for an edit of what a value means. -/
def InE (l : List (List Int)) (e : E) : Prop := ∀ (r : Rf) (t : T), Means l r t → ∀ (u : Nat) (ok : Bool), ∃ T' : T, wfT T' ∧
  SpecF Try.prog 91 (fun q => [.pob [q] u 0, eX e, paX l r]) (mkM u ok) (fun _ => tX T') (mkM u (ok && (apE e t).isSome)) ∧ (ok = true → ∀ v, apE e t = some v → norm T' = v)
def InS (l : List (List Int)) (e : E) : Prop := ∀ (r : Rf) (t : T), Means l r t → t.kind = 1 → ∀ (u : Nat), ∃ T' : T, wfT T' ∧
  SpecF Try.prog 144 (fun q => [.pob [q] u 0, eX e, paX l r]) (mkM u true) (fun _ => tX T') (mkM u (apE e t).isSome) ∧ ∀ v, apE e t = some v → norm T' = v
def InL (l : List (List Int)) (e : E) : Prop := ∀ (r : Rf) (t : T), Means l r t → t.kind = e.list → ∀ (u : Nat), ∃ T' : T, wfT T' ∧
  SpecF Try.prog 145 (fun q => [.pob [q] u 0, eX e, paX l r]) (mkM u true) (fun _ => tX T') (mkM u (apE e t).isSome) ∧ ∀ v, apE e t = some v → norm T' = v
theorem famA_ee (e : E) : FamA (fun _ => eX e) := famA_bare (cs := eL e) rfl fun x hx => by simp at hx; rcases hx with rfl | rfl | rfl | rfl | rfl | rfl | rfl | rfl | rfl | rfl | rfl <;> rfl
theorem eqT_comm (a b : T) : eqT a b = eqT b a := by
  cases h : eqT a b with
  | true => exact (eqT_iff.2 (eqT_iff.1 h).symm).symm
  | false =>
    cases h' : eqT b a with
    | true => rw [eqT_iff.2 (eqT_iff.1 h').symm] at h; cases h
    | false => rfl
theorem inE_of {l : List (List Int)} (hs : Sg l) {e : E} (hwe : wfE e) (h1 : e.kind = 1 → ∃ d, rightT d e.old = true) (hS : e.kind = 2 → InS l e) (hL : e.kind = 3 → InL l e) : InE l e := by
  intro r t hm u ok
  have he := wfE_iff.1 hwe
  have hwt : wfT t := means_wf hs _ _ hm
  have hk : r.kind = t.kind := means_kind hm
  have hapE : apE e t = stepE e.kind e.old e.new e.words (apKs e.kids) e.list (apOs e.ops) t := by cases e; rw [apE_mk]; rfl
  cases ok with
  | false =>
    refine ⟨T0, wf_T0, ?_, fun h => nomatch h⟩
    refine specF_of t_inapply_maker_edit (by simp) (famL_cons famA_pob (famL_cons (famA_ee e) (famL_cons (famA_pa l r) famL_nil))) (famA_tt T0) fun w0 I0 M0 m0 => ?_
    unfold c_inapply_maker_edit
    simp [mkE]
    refine sc_fam 0 (mFail_spec u false) (fun p => by simp) (by simp) (by simp) ?_
    simp
    exact reth_fam (r0 := tX T0) (by simp) rfl (fun p => by simp)
  | true =>
    by_cases k0 : e.kind = 0
    · have : apE e t = some (norm t) := by rw [hapE, stepE, if_pos k0]
      refine ⟨t, hwt, ?_, fun _ v hv => by rw [this] at hv; cases hv; rfl⟩
      rw [this]
      refine specF_of t_inapply_maker_edit (by simp) (famL_cons famA_pob (famL_cons (famA_ee e) (famL_cons (famA_pa l r) famL_nil))) (famA_tt t) fun w0 I0 M0 m0 => ?_
      unfold c_inapply_maker_edit
      simp [mkE, k0]
      refine sc_fam 0 (mWhole_spec hs hm u true) (fun p => by simp [mkE]) (by simp) (by simp) ?_
      simp
      exact reth_fam (r0 := tX t) (by simp) rfl (fun p => by simp)
    by_cases k1 : e.kind = 1
    · have : apE e t = if eqT e.old t = true then some (norm e.new) else none := by rw [hapE, stepE, if_neg k0, if_pos k1]
      have hsome : (apE e t).isSome = eqT t e.old := by
        rw [this, eqT_comm]
        cases eqT t e.old <;> rfl
      refine ⟨e.new, he.n, ?_, fun _ v hv => by
        rw [this] at hv
        split at hv
        · cases hv; rfl
        · cases hv⟩
      rw [hsome]
      refine specF_of t_inapply_maker_edit (by simp) (famL_cons famA_pob (famL_cons (famA_ee e) (famL_cons (famA_pa l r) famL_nil))) (famA_tt e.new) fun w0 I0 M0 m0 => ?_
      unfold c_inapply_maker_edit
      simp [mkE, k0, k1]
      refine sc_fam 0 (mMeans_spec (means_spec29 hs t r e.old hm he.o (h1 k1)) u true) (fun p => by simp [mkE]) (by simp) (by simp) ?_
      simp
      exact reth_fam (r0 := tX e.new) (by simp) rfl (fun p => by simp)
    by_cases k2 : e.kind = 2
    · by_cases hk1 : t.kind = 1
      rotate_left
      · have : apE e t = none := by rw [hapE, stepE, if_neg k0, if_neg k1, if_pos k2, if_neg hk1]
        refine ⟨T0, wf_T0, ?_, fun _ v hv => by rw [this] at hv; cases hv⟩
        rw [this]
        refine specF_of t_inapply_maker_edit (by simp) (famL_cons famA_pob (famL_cons (famA_ee e) (famL_cons (famA_pa l r) famL_nil))) (famA_tt T0) fun w0 I0 M0 m0 => ?_
        unfold c_inapply_maker_edit
        simp [mkE, k2]
        refine sc_call_gt rfl (fun _ => refKind_spec l r) (fun _ => by simp) (by simp) ?_
        simp [hk, hk1, k2]
        refine sc_call_off rfl ?_
        simp
        refine sc_fam 0 (mFail_spec u true) (fun p => by simp [mkE]) (by simp) (by simp) ?_
        simp
        exact reth_fam (r0 := tX T0) (by simp) rfl (fun p => by simp)
      obtain ⟨T', hT, hsp, hv⟩ := hS k2 r t hm hk1 u
      refine ⟨T', hT, ?_, fun _ => hv⟩
      refine specF_of t_inapply_maker_edit (by simp) (famL_cons famA_pob (famL_cons (famA_ee e) (famL_cons (famA_pa l r) famL_nil))) (famA_tt T') fun w0 I0 M0 m0 => ?_
      unfold c_inapply_maker_edit
      simp [mkE, k2]
      refine sc_call_gt rfl (fun _ => refKind_spec l r) (fun _ => by simp) (by simp) ?_
      simp [hk, hk1]
      refine sc_fam 0 hsp (fun p => by simp [mkE]) (by simp [hk, hk1]) (by simp) ?_
      simp
      exact reth_fam (r0 := tX T') (by simp) rfl (fun p => by simp)
    by_cases k3 : e.kind = 3
    · by_cases hk1 : t.kind = e.list
      rotate_left
      · have : apE e t = none := by rw [hapE, stepE, if_neg k0, if_neg k1, if_neg k2, if_pos k3, if_neg hk1]
        refine ⟨T0, wf_T0, ?_, fun _ v hv => by rw [this] at hv; cases hv⟩
        rw [this]
        refine specF_of t_inapply_maker_edit (by simp) (famL_cons famA_pob (famL_cons (famA_ee e) (famL_cons (famA_pa l r) famL_nil))) (famA_tt T0) fun w0 I0 M0 m0 => ?_
        unfold c_inapply_maker_edit
        simp [mkE, k3]
        refine sc_call_off rfl ?_
        simp [k3]
        refine sc_call_gt rfl (fun _ => refKind_spec l r) (fun _ => by simp) (by simp) ?_
        simp [hk, hk1]
        refine sc_fam 0 (mFail_spec u true) (fun p => by simp [mkE]) (by simp) (by simp) ?_
        simp
        exact reth_fam (r0 := tX T0) (by simp) rfl (fun p => by simp)
      obtain ⟨T', hT, hsp, hv⟩ := hL k3 r t hm hk1 u
      refine ⟨T', hT, ?_, fun _ => hv⟩
      refine specF_of t_inapply_maker_edit (by simp) (famL_cons famA_pob (famL_cons (famA_ee e) (famL_cons (famA_pa l r) famL_nil))) (famA_tt T') fun w0 I0 M0 m0 => ?_
      unfold c_inapply_maker_edit
      simp [mkE, k3]
      refine sc_call_off rfl ?_
      simp [k3]
      refine sc_call_gt rfl (fun _ => refKind_spec l r) (fun _ => by simp) (by simp) ?_
      simp [hk, hk1]
      refine sc_fam 0 hsp (fun p => by simp [mkE]) (by simp [hk, hk1]) (by simp) ?_
      simp
      exact reth_fam (r0 := tX T') (by simp) rfl (fun p => by simp)
    have : apE e t = none := by rw [hapE, stepE, if_neg k0, if_neg k1, if_neg k2, if_neg k3]
    refine ⟨T0, wf_T0, ?_, fun _ v hv => by rw [this] at hv; cases hv⟩
    rw [this]
    refine specF_of t_inapply_maker_edit (by simp) (famL_cons famA_pob (famL_cons (famA_ee e) (famL_cons (famA_pa l r) famL_nil))) (famA_tt T0) fun w0 I0 M0 m0 => ?_
    unfold c_inapply_maker_edit
    simp [mkE, k0, k1, k2, k3]
    refine sc_call_off rfl ?_
    simp [k3]
    refine sc_call_off rfl ?_
    simp
    refine sc_fam 0 (mFail_spec u true) (fun p => by simp [mkE]) (by simp) (by simp) ?_
    simp
    exact reth_fam (r0 := tX T0) (by simp) rfl (fun p => by simp)
/-- What becomes of a value, with its error. -/
abbrev edX (o : Option T) : A := match o with
  | some u => .tup [tX u, iv 0]
  | none => .tup [tX T0, iv 13]
theorem inEdit_spec {l : List (List Int)} {e : E} (hE : InE l e) {r : Rf} {t : T} (hm : Means l r t) : G.Spec Try.prog 50 [eX e, paX l r] (edX (apE e t)) := by
  obtain ⟨T', hT, hsp, hv⟩ := hE r t hm 1 true
  refine spec_of t_inapply_Edit (by simp) fun w0 I0 => ?_
  unfold c_inapply_Edit
  simp
  refine sc_fam 3 hsp (fun p => ?_) (by simp) (by simp) ?_
  · by_cases hp : p = []
    · subst hp; simp [mkE]
    · simp [hp, lkH]
  cases hv' : apE e t with
  | none =>
    simp [mkE]
    exact frz_tup ⟨frz_agg ⟨frz_bare rfl, frz_sl, frz_sl, trivial⟩, frz_bare rfl, trivial⟩
  | some v =>
    have hvv := hv rfl v hv'
    simp [mkE]
    refine sc_call (tNorm_spec T' hT) (by simp) ?_
    rw [hvv]
    simp
    exact frz_tup ⟨frz_agg ⟨frz_bare rfl, frz_sl, frz_sl, trivial⟩, frz_bare rfl, trivial⟩
end Go.Proofs.Ytehcobkphobjiaa

/-
  Chapter 29: the maker's struct.
-/
namespace Go.Proofs.Ytehcobkphobjiaa
set_option linter.unusedVariables false
set_option linter.unusedSimpArgs false
open Go Go.G Go.Proofs Go.PL
section
variable {n0 : Nat} {w0 : World} {I0 : Nat → Prop} {M0 : Nm → Nat → Prop} {m0 : Mu} {Q : Exit → Sta → Prop}
/-- What stays, while a struct is made. -/
structure MsH (u : Nat) (ok : Bool) (e : E) (l : List (List Int)) (r : Rf) (H : Hp) : Prop where
  f : ∀ p, H (0 :: p) = (mkM u ok).F 0 p
  g1 : H [1] = ⟨1, .cells (eL e)⟩
  g2 : H [2] = ⟨1, .cells (paL l r)⟩
  g3 : H [3] = ⟨1, .cells z0⟩
theorem mst_l1 {u : Nat} {e : E} {l : List (List Int)} (hs : Sg l) {r : Rf} {t : T} (hm : Means l r t) (hwt : wfT t) {n m : Nat} (hn : n * 8 ≤ 140737488355328) {K : A}
    (hf : wds t.words n 0 e.words = none → ∀ H : Hp, (∀ p, H (0 :: p) = (mkM u false).F 0 p) → H [3] = ⟨1, .cells (tL T0)⟩ → Q .ret ⟨lk [(6, .pob [3] 1 0)], H⟩) :
    ∀ (j i : Nat) (rem : List WE) (acc : List Int) (H : Hp), i + j = n → acc.length = i → (∀ x, x ∈ rem → WE.wf x) → rem.length * 32 ≤ 140737488355328 → (∀ R, wds t.words j i rem = some R → wds t.words n 0 e.words = some (acc ++ R)) → (wds t.words j i rem = none → wds t.words n 0 e.words = none) →
      (∀ (q : Bool) (x : A) (W : List Int) (H' : Hp), wds t.words n 0 e.words = some W → W.length = n → MsH u true e l r H' → H' [4] = ⟨1, .cells [iv 1, .osl [5] (n + 1) 1 0 n, K]⟩ → H' [5] = ⟨n + 1, .arr 1 (W.map uv)⟩ → H' [7] = H [7] →
        Q (.exit 0) ⟨lk [(0, .pob [0] u 0), (4, .pob [1] 1 0), (5, .pob [2] 1 0), (6, .pob [3] 1 0), (7, .pob [4] 1 0), (9, iv m), (12, x), (55, iv n), (56, iv n), (57, bv q)], H'⟩) →
      MsH u true e l r H → H [4] = ⟨1, .cells [iv 1, .osl [5] (i + 1) 1 0 i, K]⟩ → H [5] = ⟨i + 1, .arr 1 (acc.map uv)⟩ →
    LoopC (cxh Try.prog w0 I0 M0 n0 m0) l1_inapply_maker_structure Q ⟨lk [(0, .pob [0] u 0), (4, .pob [1] 1 0), (5, .pob [2] 1 0), (6, .pob [3] 1 0), (7, .pob [4] 1 0), (9, iv m), (12, wKs rem), (55, iv n), (56, iv i)], H⟩ := by
  intro j
  induction j with
  | zero =>
    intro i rem acc H hi hacc hwr hrl hsm hn' hq hH g4 g5
    have : i = n := by omega
    subst this
    refine loopC_once mixed l1_inapply_maker_structure.eq_1 ?_
    simp
    have hW := hsm [] rfl
    rw [List.append_nil] at hW
    exact hq _ _ acc H hW hacc hH g4 g5 rfl
  | succ j ih =>
    intro i rem acc H hi hacc hwr hrl hsm hn' hq hH g4 g5
    have hlt : i < n := by omega
    have ei : IntKind.i64.wrap ((i : Int) + 1) = ((i + 1 : Nat) : Int) := i64_same (by omega) (by omega)
    refine loopC_once mixed l1_inapply_maker_structure.eq_1 ?_
    simp [hlt, hH.g2]
    refine sc_call (word_spec' hs (means_ok hm) i) (by simp) ?_
    rw [means_wordD hm i]
    have hwu := getD_in (wfT_iff.1 hwt).w i
    have htk : ∀ x : Int, (acc ++ [x]).map uv = acc.map uv ++ [uv x] := fun x => by simp
    have htake : List.take i (acc.map uv) = acc.map uv := List.take_of_length_le (by simp; omega)
    have next : ∀ (w : Int) (rem' : List WE), (∀ x, x ∈ rem' → WE.wf x) → rem'.length * 32 ≤ 140737488355328 → wds t.words (j + 1) i rem = (wds t.words j (i + 1) rem').map (w :: ·) → ∀ H', MsH u true e l r H' → H' [4] = ⟨1, .cells [iv 1, .osl [5] (i + 1 + 1) 1 0 (i + 1), K]⟩ → H' [5] = ⟨i + 1 + 1, .arr 1 ((acc ++ [w]).map uv)⟩ → H' [7] = H [7] →
        LoopC (cxh Try.prog w0 I0 M0 n0 m0) l1_inapply_maker_structure Q ⟨lk [(0, .pob [0] u 0), (4, .pob [1] 1 0), (5, .pob [2] 1 0), (6, .pob [3] 1 0), (7, .pob [4] 1 0), (9, iv m), (12, wKs rem'), (55, iv n), (56, iv ((i + 1 : Nat) : Int))], H'⟩ := fun w rem' hwr' hrl' hw H' q0 q4 q5 q7 => by
      refine ih (i + 1) rem' (acc ++ [w]) H' (by omega) (by simp [hacc]) hwr' hrl' (fun R hR => ?_) (fun hR => ?_) (fun q x W H2 r1 r2 r3 r4 r5 r7 => hq q x W H2 r1 r2 r3 r4 r5 (by rw [r7, q7])) q0 q4 q5
      · have := hsm (w :: R) (by rw [hw, hR]; rfl)
        simpa using this
      · exact hn' (by rw [hw, hR]; rfl)
    generalize hw0 : t.words.getD i 0 = w at hwu
    have put : ∀ X Y : VOb, MsH u true e l r (updF (updF H [5] X) [4] Y) := fun X Y => ⟨fun p => by simp [updF_app, hH.f], by simp [updF_app, hH.g1], by simp [updF_app, hH.g2], by simp [updF_app, hH.g3]⟩
    cases rem with
    | nil =>
      simp [g4, g5, updF_app, ei]
      refine ⟨by omega, ?_⟩
      refine next w [] (fun x hx => nomatch hx) (by simp) (by rw [wds_skip (fun x xs h => by cases h), hw0]) _ (put _ _) (by simp [updF_app]) ?_ (by simp [updF_app])
      rw [htk, htake]; simp [updF_app]
    | cons x xs =>
      obtain ⟨wf1, wf2, wf3, wf4⟩ := hwr x (by simp)
      simp at hrl
      by_cases hat : x.at_ = (i : Int)
      rotate_left
      · simp [hat, g4, g5, updF_app, ei]
        refine ⟨⟨by omega, by omega⟩, ?_⟩
        refine next w (x :: xs) hwr (by simp; omega) (by rw [wds_skip (fun y ys h => by cases h; exact hat), hw0]) _ (put _ _) (by simp [updF_app]) ?_ (by simp [updF_app])
        rw [htk, htake]; simp [updF_app]
      simp [hat]
      refine sc_call (pMix_spec (a := 0) (b := w) ⟨by decide, by decide⟩ hwu wf2.1 wf2.2) (by simp) ?_
      by_cases hmx : mixZ 0 w x.mask = x.old
      rotate_left
      · simp [hmx]
        refine sc_fam 0 (mFail_spec u true) (fun p => by simp [hH.f]) (by simp) (by simp) ?_
        simp [hH.g3, updF_app]
        refine hf (hn' ?_) _ (fun p => by simp [updF_app]) (by simp [updF_app])
        exact wds_bad hat (by rw [hw0]; exact hmx)
      simp [hmx]
      refine sc_call (pMix_spec (a := w) (b := x.new) hwu wf4 wf2.1 wf2.2) (by simp) ?_
      have hl1 : (1 : Int) ≤ (xs.length : Int) + 1 := by omega
      have hl2 : List.take xs.length (xs.map wA) = xs.map wA := List.take_of_length_le (by simp)
      simp [g4, g5, updF_app, ei, hl1, slS, hl2]
      refine ⟨⟨by omega, by omega⟩, ?_⟩
      refine next (mixZ w x.new x.mask) xs (fun y hy => hwr y (by simp [hy])) (by omega) (by rw [wds_hit hat (by rw [hw0]; exact hmx), hw0]) _ (put _ _) (by simp [updF_app]) ?_ (by simp [updF_app])
      rw [htk, htake]; simp [updF_app]
/-- The zero edit, in an object's cells. -/
abbrev e0L : List A := [iv 0, iv 0, .sl true [], .sl true [], iv 0, .sl true [], .sl true [], .sl true [], .sl true [], iv 0, .sl true []]
theorem le_zeroE {c : Cx} {s : Nat → A} {H : Hp} {r0 : Nat} {p0 : Nm} {u : Nat} (hd : H (r0 :: p0) = ⟨u, .cells e0L⟩) : ∃ H2 : Hp, Le c ⟨s, H⟩ ⟨s, H2⟩ ∧ H2 (r0 :: p0) = ⟨u, .cells (eL E0)⟩ ∧ ∀ r p, r :: p ≠ r0 :: p0 → H2 (r :: p) = H (r :: p) := by
  have hE : eL E0 = [iv 0, iv 0, .sl false [], .sl false [], iv 0, .sl false [], .sl false [], .sl false [], .sl false [], iv 0, .sl false []] := by simp [E0]
  obtain ⟨H2, g1, g2⟩ := le_freezeC (c := c) (s := s) (H := H) (fun _ => False) (fun _ _ _ h => h.elim) (r0 := r0) (p0 := p0) (by simp) hd (cs' := eL E0) (by rw [hE]; simp [A.ones]) (fun H1 _ => by rw [hE]; exact ⟨frz_bare rfl, frz_bare rfl, frz_sl, frz_sl, frz_bare rfl, frz_sl, frz_sl, frz_sl, frz_sl, frz_bare rfl, frz_sl, trivial⟩)
  exact ⟨_, g1, updF_self, fun r p h => by rw [updF_ne h]; exact g2 r p (fun h => h)⟩
theorem inE_same {l : List (List Int)} (hs : Sg l) : InE l E0 := inE_of hs (wfE_iff.2 ⟨by simp [i64R], by simp [i64R], wf_T0, wf_T0, by simp, by simp, by simp, by simp, by simp, by simp⟩) (fun h => by simp at h) (fun h => by simp at h) (fun h => by simp at h)
theorem mst_k1 {u : Nat} {ok : Bool} {e c : E} {l : List (List Int)} (hs : Sg l) {r : Rf} {t : T} (hm : Means l r t) {T' : T} {i : Nat} (hT : wfT T') (hsp : SpecF Try.prog 91 (fun q => [.pob [q] u 0, eX c, paX l (kidP l r i).1]) (mkM u ok) (fun _ => tX T') (mkM u (ok && (apE c (t.kids.getD i T0)).isSome))) {m v : Nat} (hi : i < m) (hmm : m * 56 ≤ 140737488355328) {W1 x : A} {X : VOb} {acc : List T} (hacc : acc.length = i) {H : Hp} (hH : MsH u ok e l r H) (g4 : H [4] = ⟨1, .cells [iv 1, W1, .osl [7] (i + 1) 3 0 i]⟩) (g7 : H [7] = ⟨i + 1, .arr 3 (acc.map tA)⟩) (g5 : H [5] = X) (g6 : H [6] = ⟨v, .cells (eL c)⟩)
    (hq : ∀ (H' : Hp), MsH u (ok && (apE c (t.kids.getD i T0)).isSome) e l r H' → H' [4] = ⟨1, .cells [iv 1, W1, .osl [7] (i + 1 + 1) 3 0 (i + 1)]⟩ → H' [7] = ⟨i + 1 + 1, .arr 3 ((acc ++ [T']).map tA)⟩ → H' [5] = X →
      Q .normal ⟨lk [(0, .pob [0] u 0), (5, .pob [2] 1 0), (6, .pob [3] 1 0), (7, .pob [4] 1 0), (15, x), (107, iv m), (108, iv i)], H'⟩) :
    WPC (cxh Try.prog w0 I0 M0 n0 m0) k1_inapply_maker_structure Q ⟨lk [(0, .pob [0] u 0), (5, .pob [2] 1 0), (6, .pob [3] 1 0), (7, .pob [4] 1 0), (15, x), (16, iv i), (17, .pob [6] v 0), (107, iv m), (108, iv i)], H⟩ := by
  obtain ⟨hk0, hkm⟩ := means_kidD hm i
  have htk : (acc ++ [T']).map tA = acc.map tA ++ [tA T'] := by simp
  have htake : List.take i (acc.map tA) = acc.map tA := List.take_of_length_le (by simp; omega)
  rw [k1_inapply_maker_structure.eq_1]
  simp [hH.g2, g4, g6]
  refine sc_fam 0 (mKid_spec hs (means_ok hm) i hk0 u ok) (fun p => by simp [hH.f]) (by simp) (by simp [List.isPrefixOf]) ?_
  simp
  refine sc_fam 0 hsp (fun p => by simp) (by simp) (by simp [List.isPrefixOf]) ?_
  simp [g4, g7, updF_app]
  refine ⟨⟨by omega, by omega⟩, hq _ ⟨fun p => by simp, by simp [updF_app, hH.g1], by simp [updF_app, hH.g2], by simp [updF_app, hH.g3]⟩ (by simp [updF_app]) ?_ (by simp [updF_app, g5])⟩
  rw [htk, htake]; simp [updF_app]
theorem mst_l2 {u : Nat} {e : E} {l : List (List Int)} (hs : Sg l) {r : Rf} {t : T} (hm : Means l r t) (hIn : ∀ x, x ∈ e.kids → InE l x.e) {m : Nat} (hmm : m * 56 ≤ 140737488355328) :
    ∀ (j i : Nat) (rem : List KE) (acc : List T) (ok : Bool), i + j = m → acc.length = i → (∀ x, x ∈ rem → x ∈ e.kids) → rem.length * 208 ≤ 140737488355328 → (∀ y, y ∈ acc → wfT y) →
      (ok = true → ∃ D : List T, D.map norm = acc.map norm ∧ kds t.kids m 0 (apKs e.kids) = (kds t.kids j i (apKs rem)).map (D ++ ·)) → (ok = false → kds t.kids m 0 (apKs e.kids) = none) →
      ∃ K : List T, K.length = m ∧ (∀ y, y ∈ K → wfT y) ∧ (∀ D, kds t.kids m 0 (apKs e.kids) = some D → D.map norm = K.map norm) ∧
      ∀ {n0 : Nat} {w0 : World} {I0 : Nat → Prop} {M0 : Nm → Nat → Prop} {m0 : Mu} {Q : Exit → Sta → Prop} {W1 : A} {X : VOb} (H : Hp), MsH u ok e l r H → H [4] = ⟨1, .cells [iv 1, W1, .osl [7] (i + 1) 3 0 i]⟩ → H [7] = ⟨i + 1, .arr 3 (acc.map tA)⟩ → H [5] = X →
      (∀ (q : Bool) (x : A) (H' : Hp), MsH u (kds t.kids m 0 (apKs e.kids)).isSome e l r H' → H' [4] = ⟨1, .cells [iv 1, W1, .osl [7] (m + 1) 3 0 m]⟩ → H' [7] = ⟨m + 1, .arr 3 (K.map tA)⟩ → H' [5] = X →
        Q (.exit 2) ⟨lk [(0, .pob [0] u 0), (5, .pob [2] 1 0), (6, .pob [3] 1 0), (7, .pob [4] 1 0), (15, x), (107, iv m), (108, iv m), (109, bv q)], H'⟩) →
      LoopC (cxh Try.prog w0 I0 M0 n0 m0) l2_inapply_maker_structure Q ⟨lk [(0, .pob [0] u 0), (5, .pob [2] 1 0), (6, .pob [3] 1 0), (7, .pob [4] 1 0), (15, kKs rem), (107, iv m), (108, iv i)], H⟩ := by
  intro j
  induction j with
  | zero =>
    intro i rem acc ok hi hacc hrk hrl hwf hsm hn'
    have : i = m := by omega
    subst this
    have hok : ok = (kds t.kids i 0 (apKs e.kids)).isSome := by
      cases ok with
      | true => obtain ⟨D, _, h2⟩ := hsm rfl; rw [h2, kds]; rfl
      | false => rw [hn' rfl]; rfl
    refine ⟨acc, hacc, hwf, fun D hD => ?_, fun H hH g4 g7 g5 hq => ?_⟩
    · cases ok with
      | true =>
        obtain ⟨D', h1, h2⟩ := hsm rfl
        rw [h2, kds] at hD
        cases hD
        simpa using h1
      | false => rw [hn' rfl] at hD; cases hD
    · refine loopC_once mixed l2_inapply_maker_structure.eq_1 ?_
      simp
      exact hq _ _ H (by rw [← hok]; exact hH) g4 g7 g5
  | succ j ih =>
    intro i rem acc ok hi hacc hrk hrl hwf hsm hn'
    have hlt : i < m := by omega
    have ei : IntKind.i64.wrap ((i : Int) + 1) = ((i + 1 : Nat) : Int) := i64_same (by omega) (by omega)
    obtain ⟨hk0, hkm⟩ := means_kidD hm i
    have next : ∀ (c : E) (rem' : List KE) (o : Option T), InE l c → (∀ x, x ∈ rem' → x ∈ e.kids) → rem'.length * 208 ≤ 140737488355328 → (kds t.kids (j + 1) i (apKs rem) = match o with | none => none | some d => (kds t.kids j (i + 1) (apKs rem')).map (d :: ·)) → (o.isSome = (apE c (t.kids.getD i T0)).isSome) → (∀ d v, o = some d → apE c (t.kids.getD i T0) = some v → norm d = norm v) →
        ∃ K : List T, K.length = m ∧ (∀ y, y ∈ K → wfT y) ∧ (∀ D, kds t.kids m 0 (apKs e.kids) = some D → D.map norm = K.map norm) ∧
        ∀ {n0 : Nat} {w0 : World} {I0 : Nat → Prop} {M0 : Nm → Nat → Prop} {m0 : Mu} {Q : Exit → Sta → Prop} {W1 : A} {X : VOb} (v : Nat) (H' : Hp), MsH u ok e l r H' → H' [4] = ⟨1, .cells [iv 1, W1, .osl [7] (i + 1) 3 0 i]⟩ → H' [7] = ⟨i + 1, .arr 3 (acc.map tA)⟩ → H' [5] = X → H' [6] = ⟨v, .cells (eL c)⟩ →
        (∀ (q : Bool) (x : A) (H' : Hp), MsH u (kds t.kids m 0 (apKs e.kids)).isSome e l r H' → H' [4] = ⟨1, .cells [iv 1, W1, .osl [7] (m + 1) 3 0 m]⟩ → H' [7] = ⟨m + 1, .arr 3 (K.map tA)⟩ → H' [5] = X →
          Q (.exit 2) ⟨lk [(0, .pob [0] u 0), (5, .pob [2] 1 0), (6, .pob [3] 1 0), (7, .pob [4] 1 0), (15, x), (107, iv m), (108, iv m), (109, bv q)], H'⟩) →
        ∀ Q' : Exit → Sta → Prop, (∀ H2 : Hp, LoopC (cxh Try.prog w0 I0 M0 n0 m0) l2_inapply_maker_structure Q ⟨lk [(0, .pob [0] u 0), (5, .pob [2] 1 0), (6, .pob [3] 1 0), (7, .pob [4] 1 0), (15, kKs rem'), (107, iv m), (108, iv ((i + 1 : Nat) : Int))], H2⟩ → Q' .normal ⟨lk [(0, .pob [0] u 0), (5, .pob [2] 1 0), (6, .pob [3] 1 0), (7, .pob [4] 1 0), (15, kKs rem'), (107, iv m), (108, iv i)], H2⟩) →
        WPC (cxh Try.prog w0 I0 M0 n0 m0) k1_inapply_maker_structure Q' ⟨lk [(0, .pob [0] u 0), (5, .pob [2] 1 0), (6, .pob [3] 1 0), (7, .pob [4] 1 0), (15, kKs rem'), (16, iv i), (17, .pob [6] v 0), (107, iv m), (108, iv i)], H'⟩ := fun c rem' o hc hrk' hrl' ho1 ho2 ho3 => by
      obtain ⟨T', hT, hsp, hv⟩ := hc _ _ hkm u ok
      obtain ⟨K, q1, q2, q3, q4⟩ := ih (i + 1) rem' (acc ++ [T']) (ok && (apE c (t.kids.getD i T0)).isSome) (by omega) (by simp [hacc]) hrk' hrl' (fun y hy => by
        rcases List.mem_append.1 hy with h | h
        · exact hwf y h
        · rw [List.mem_singleton.1 h]; exact hT) (fun h => by
        simp only [Bool.and_eq_true] at h
        obtain ⟨D, d1, d2⟩ := hsm h.1
        obtain ⟨v', hv'⟩ := Option.isSome_iff_exists.1 h.2
        rw [h.2] at ho2
        obtain ⟨d, hd⟩ := Option.isSome_iff_exists.1 ho2
        subst hd
        have hn1 := hv h.1 v' hv'
        refine ⟨D ++ [d], ?_, ?_⟩
        · rw [List.map_append, List.map_append, d1]
          simp only [List.map_cons, List.map_nil]
          rw [ho3 d v' rfl hv', ← hn1, norm_norm]
        · rw [d2, ho1]
          cases kds t.kids j (i + 1) (apKs rem') <;> simp) (fun h => by
        cases ok with
        | false => exact hn' rfl
        | true =>
          obtain ⟨D, d1, d2⟩ := hsm rfl
          simp only [Bool.true_and] at h
          rw [h] at ho2
          cases o with
          | some d => cases ho2
          | none => rw [d2, ho1]; rfl)
      exact ⟨K, q1, q2, q3, fun v H' s0 s4 s7 s5 s6 hq Q' hQ' => mst_k1 hs hm hT hsp hlt hmm hacc s0 s4 s7 s5 s6 fun H2 z0 z4 z7 z5 => hQ' H2 (q4 H2 z0 z4 z7 z5 hq)⟩
    have hns := inE_same hs
    have hsame : apE E0 (t.kids.getD i T0) = some (norm (t.kids.getD i T0)) := by rw [show E0 = E.mk 0 T0 T0 [] [] 0 [] from rfl, apE_mk]; exact if_pos rfl
    have pre : ∀ {n0 : Nat} {w0 : World} {I0 : Nat → Prop} {M0 : Nm → Nat → Prop} {m0 : Mu} {Q : Exit → Sta → Prop} {W1 : A} {X : VOb} (H : Hp), MsH u ok e l r H → H [4] = ⟨1, .cells [iv 1, W1, .osl [7] (i + 1) 3 0 i]⟩ → H [7] = ⟨i + 1, .arr 3 (acc.map tA)⟩ → H [5] = X → ∃ H2 : Hp, (∃ v : Nat, v = (H [6]).u + 1 ∧ H2 [6] = ⟨v, .cells (eL E0)⟩) ∧ Le (cxh Try.prog w0 I0 M0 n0 m0) ⟨lk [(0, .pob [0] u 0), (5, .pob [2] 1 0), (6, .pob [3] 1 0), (7, .pob [4] 1 0), (15, kKs rem), (16, iv i), (17, .pob [6] ((H [6]).u + 1) 0), (107, iv m), (108, iv i)], updF H [6] ⟨(H [6]).u + 1, .cells e0L⟩⟩ ⟨lk [(0, .pob [0] u 0), (5, .pob [2] 1 0), (6, .pob [3] 1 0), (7, .pob [4] 1 0), (15, kKs rem), (16, iv i), (17, .pob [6] ((H [6]).u + 1) 0), (107, iv m), (108, iv i)], H2⟩ ∧ MsH u ok e l r H2 ∧ H2 [4] = ⟨1, .cells [iv 1, W1, .osl [7] (i + 1) 3 0 i]⟩ ∧ H2 [7] = ⟨i + 1, .arr 3 (acc.map tA)⟩ ∧ H2 [5] = X := fun {n0 w0 I0 M0 m0 Q W1 X} H hH g4 g7 g5 => by
      obtain ⟨H2, z1, z2, z3⟩ := le_zeroE (c := cxh Try.prog w0 I0 M0 n0 m0) (s := lk [(0, .pob [0] u 0), (5, .pob [2] 1 0), (6, .pob [3] 1 0), (7, .pob [4] 1 0), (15, kKs rem), (16, iv i), (17, .pob [6] ((H [6]).u + 1) 0), (107, iv m), (108, iv i)]) (H := updF H [6] ⟨(H [6]).u + 1, .cells e0L⟩) (r0 := 6) (p0 := []) (u := (H [6]).u + 1) (by simp [updF_app])
      exact ⟨H2, ⟨_, rfl, z2⟩, z1, ⟨fun p => by rw [z3 _ _ (by simp)]; simp [updF_app, hH.f], by rw [z3 _ _ (by simp)]; simp [updF_app, hH.g1], by rw [z3 _ _ (by simp)]; simp [updF_app, hH.g2], by rw [z3 _ _ (by simp)]; simp [updF_app, hH.g3]⟩, by rw [z3 _ _ (by simp)]; simp [updF_app, g4], by rw [z3 _ _ (by simp)]; simp [updF_app, g7], by rw [z3 _ _ (by simp)]; simp [updF_app, g5]⟩
    cases rem with
    | nil =>
      obtain ⟨K, q1, q2, q3, q4⟩ := next E0 [] (some (t.kids.getD i T0)) hns (fun x hx => nomatch hx) (by simp) (kds_skip (fun x xs h => by rw [apKs] at h; cases h)) (by rw [hsame]; rfl) (fun d v h1 h2 => by rw [hsame] at h2; cases h1; cases h2; rw [norm_norm])
      refine ⟨K, q1, q2, q3, fun {n0 w0 I0 M0 m0 Q W1 X} H hH g4 g7 g5 hq => ?_⟩
      obtain ⟨H2, ⟨v, hv, z2⟩, z1, hH2, s4, s7, s5⟩ := pre (n0 := n0) (w0 := w0) (I0 := I0) (M0 := M0) (m0 := m0) (Q := Q) H hH g4 g7 g5
      refine loopC_once mixed l2_inapply_maker_structure.eq_1 ?_
      simp [hlt]
      refine stop_le z1 (stop_go ?_)
      rw [← hv]
      simp
      refine q4 v H2 hH2 s4 s7 s5 z2 hq _ (fun H3 hL => ?_)
      simp [ei]
      exact hL
    | cons x xs =>
      have hap : apKs (x :: xs) = (x.at_, apE x.e) :: apKs xs := by rw [apKs_map, List.map_cons, ← apKs_map]
      have hrl2 : xs.length * 208 ≤ 140737488355328 := by simp at hrl; omega
      by_cases hat : x.at_ = (i : Int)
      rotate_left
      · obtain ⟨K, q1, q2, q3, q4⟩ := next E0 (x :: xs) (some (t.kids.getD i T0)) hns hrk hrl (kds_skip (fun y ys h => by rw [hap] at h; cases h; exact hat)) (by rw [hsame]; rfl) (fun d v h1 h2 => by rw [hsame] at h2; cases h1; cases h2; rw [norm_norm])
        refine ⟨K, q1, q2, q3, fun {n0 w0 I0 M0 m0 Q W1 X} H hH g4 g7 g5 hq => ?_⟩
        obtain ⟨H2, ⟨v, hv, z2⟩, z1, hH2, s4, s7, s5⟩ := pre (n0 := n0) (w0 := w0) (I0 := I0) (M0 := M0) (m0 := m0) (Q := Q) H hH g4 g7 g5
        refine loopC_once mixed l2_inapply_maker_structure.eq_1 ?_
        simp [hlt]
        refine stop_le z1 (stop_go ?_)
        rw [← hv]
        simp [hat]
        refine q4 v H2 hH2 s4 s7 s5 z2 hq _ (fun H3 hL => ?_)
        simp [ei]
        exact hL
      have hl1 : (1 : Int) ≤ (xs.length : Int) + 1 := by omega
      have hl2 : List.take xs.length (xs.map kA) = xs.map kA := List.take_of_length_le (by simp)
      obtain ⟨K, q1, q2, q3, q4⟩ := next x.e xs (apE x.e (t.kids.getD i T0)) (hIn x (hrk x (by simp))) (fun y hy => hrk y (by simp [hy])) hrl2 (by
        rw [hap, kds, if_pos hat]
        first
          | done
          | (dsimp only
             cases apE x.e (t.kids.getD i T0) <;> rfl)) rfl (fun d v h1 h2 => by rw [h1] at h2; cases h2; rfl)
      refine ⟨K, q1, q2, q3, fun {n0 w0 I0 M0 m0 Q W1 X} H hH g4 g7 g5 hq => ?_⟩
      obtain ⟨H2, ⟨v, hv, z2⟩, z1, hH2, s4, s7, s5⟩ := pre (n0 := n0) (w0 := w0) (I0 := I0) (M0 := M0) (m0 := m0) (Q := Q) H hH g4 g7 g5
      refine loopC_once mixed l2_inapply_maker_structure.eq_1 ?_
      simp [hlt]
      refine stop_le z1 (stop_go ?_)
      rw [← hv]
      simp [hat, hl1, hl2, slS, z2, updF_app]
      refine q4 v _ ⟨fun p => by simp [updF_app, hH2.f], by simp [updF_app, hH2.g1], by simp [updF_app, hH2.g2], by simp [updF_app, hH2.g3]⟩ (by simp [updF_app, s4]) (by simp [updF_app, s7]) (by simp [updF_app, s5]) (by simp [updF_app]) hq _ (fun H3 hL => ?_)
      simp [ei]
      exact hL
end
end Go.Proofs.Ytehcobkphobjiaa

/-
  Chapter 29: the maker's struct, whole.
-/
namespace Go.Proofs.Ytehcobkphobjiaa
set_option linter.unusedVariables false
set_option linter.unusedSimpArgs false
open Go Go.G Go.Proofs Go.PL
theorem wds_more {tw : List Int} {n : Nat} (h0 : ∀ i, n ≤ i → tw.getD i 0 = 0) : ∀ (d m i : Nat) (rem : List WE), (∀ x, x ∈ rem → (x.at_ : Int) < n) → i + m = n → (∀ x, x ∈ rem → (i : Int) ≤ x.at_) → rem.Pairwise (fun x y => x.at_ < y.at_) → wds tw (m + d) i rem = (wds tw m i rem).map (· ++ List.replicate d 0)
  | d, 0, i, rem, hr, hi, hle, hp => by
    have : rem = [] := by
      cases rem with
      | nil => rfl
      | cons x xs => have := hr x (by simp); have := hle x (by simp); omega
    subst this
    have key : ∀ d i, n ≤ i → wds tw d i [] = some (List.replicate d 0) := by
      intro d
      induction d with
      | zero => intro i _; rw [wds]; rfl
      | succ d ih => intro i hi; rw [wds, ih (i + 1) (by omega), h0 i hi]; rfl
    rw [Nat.zero_add, key d i (by omega), wds]
    rfl
  | d, m + 1, i, rem, hr, hi, hle, hp => by
    rw [show m + 1 + d = (m + d) + 1 by omega]
    cases rem with
    | nil =>
      rw [wds, wds, wds_more h0 d m (i + 1) [] (fun x hx => nomatch hx) (by omega) (fun x hx => nomatch hx) .nil]
      cases wds tw m (i + 1) [] <;> simp
    | cons x xs =>
      obtain ⟨p1, p2⟩ := List.pairwise_cons.1 hp
      have hx := hle x (by simp)
      rw [wds, wds]
      split
      · rename_i hat
        rw [wds_more h0 d m (i + 1) xs (fun y hy => hr y (by simp [hy])) (by omega) (fun y hy => by have := p1 y hy; omega) p2]
        split
        · cases wds tw m (i + 1) xs <;> simp
        · rfl
      · rename_i hat
        rw [wds_more h0 d m (i + 1) (x :: xs) hr (by omega) (fun y hy => by
          rcases List.mem_cons.1 hy with rfl | hy
          · omega
          · have := p1 y hy; omega) hp]
        cases wds tw m (i + 1) (x :: xs) <;> simp
theorem mst_k2 {u : Nat} {e : E} (hwe : wfE e) {l : List (List Int)} (hs : Sg l) {r : Rf} {t : T} (hm : Means l r t) (hIn : ∀ x, x ∈ e.kids → InE l x.e) {n m : Nat} (hn : n * 8 ≤ 140737488355328) (hmm : m * 56 ≤ 140737488355328) :
    ∃ T' : T, wfT T' ∧ (∀ W D, wds t.words n 0 e.words = some W → kds t.kids m 0 (apKs e.kids) = some D → norm T' = norm (.mk 1 W D)) ∧
    ∀ {n0 : Nat} {w0 : World} {I0 : Nat → Prop} {M0 : Nm → Nat → Prop} {m0 : Mu} (hM : ∀ r p b, 1 ≤ r → ¬ M0 (r :: p) b) (H : Hp), MsH u true e l r H → H [4] = ⟨1, .cells [iv 1, .osl [5] 1 1 0 0, .osl [7] 1 3 0 0]⟩ → H [5] = ⟨1, .arr 1 []⟩ → H [7] = ⟨1, .arr 3 []⟩ →
      WPC (cxh Try.prog w0 I0 M0 n0 m0) k2_inapply_maker_structure (RetH (cxh Try.prog w0 I0 M0 n0 m0) [.cell 6 53] 1 (tX T') (ov 0 ((mkM u ((wds t.words n 0 e.words).isSome && (kds t.kids m 0 (apKs e.kids)).isSome)).F 0) (lkH []))) ⟨lk [(0, .pob [0] u 0), (4, .pob [1] 1 0), (5, .pob [2] 1 0), (6, .pob [3] 1 0), (7, .pob [4] 1 0), (8, iv n), (9, iv m)], H⟩ := by
  have he := wfE_iff.1 hwe
  have hwt : wfT t := means_wf hs _ _ hm
  obtain ⟨K, q1, q2, q3, q4⟩ := mst_l2 (u := u) hs hm hIn hmm m 0 e.kids [] true (by omega) rfl (fun x h => h) he.kl (fun y h => nomatch h) (fun _ => ⟨[], rfl, by cases kds t.kids m 0 (apKs e.kids) <;> rfl⟩) (fun h => nomatch h)
  cases hW : wds t.words n 0 e.words with
  | none =>
    refine ⟨T0, wf_T0, fun W D h => (nomatch h), fun {n0 w0 I0 M0 m0} hM H hH g4 g5 g7 => ?_⟩
    unfold k2_inapply_maker_structure
    simp [hH.g1]
    refine mst_l1 (e := e) (K := .osl [7] 1 3 0 0) hs hm hwt hn (fun _ H2 h0 h3 => ?_) n 0 e.words [] H (by omega) rfl he.w he.wl (fun R hR => by simpa using hR) (fun h => h) (fun q x W H2 hW' => by rw [hW] at hW'; cases hW') hH (by simpa using g4) (by simpa using g5)
    simp
    exact reth_fam (r0 := tX T0) (by simp [resA, h3]) rfl (fun p => by simp [h0])
  | some W =>
    obtain ⟨w1, w2⟩ := wds_facts (wfT_iff.1 hwt).w n 0 e.words W hW
    refine ⟨.mk 1 W K, wfT_iff.2 ⟨by simp [i64R], w2, by simp; omega, by simp; omega, q2⟩, fun W' D h h' => ?_, fun {n0 w0 I0 M0 m0} hM H hH g4 g5 g7 => ?_⟩
    · cases h
      rw [norm_mk, norm_mk, q3 D h']
    unfold k2_inapply_maker_structure
    simp [hH.g1]
    refine mst_l1 (e := e) (K := .osl [7] 1 3 0 0) hs hm hwt hn (fun h => by rw [hW] at h; cases h) n 0 e.words [] H (by omega) rfl he.w he.wl (fun R hR => by simpa using hR) (fun h => h) (fun q x W' H2 hW' hWl hH2 s4 s5 s7 => ?_) hH (by simpa using g4) (by simpa using g5)
    rw [hW] at hW'
    cases hW'
    simp [hH2.g1]
    refine q4 (W1 := .osl [5] (n + 1) 1 0 n) (X := ⟨n + 1, .arr 1 (W.map uv)⟩) H2 hH2 (by simpa using s4) (by rw [s7, g7]; rfl) s5 (fun q2' x2 H3 hH3 z4 z7 z5 => ?_)
    simp [z4, hH3.g3, updF_app]
    obtain ⟨H4, y1, y2⟩ := le_freezeC (c := cxh Try.prog w0 I0 M0 n0 m0) (s := lk [(6, .pob [3] 1 0)]) (H := updF H3 [3] ⟨1, .cells [iv 1, .osl [5] (n + 1) 1 0 n, .osl [7] (m + 1) 3 0 m]⟩) (fun r => r = 5 ∨ r = 7) (fun r p b h => hM r p b (by omega)) (r0 := 3) (p0 := []) (by omega) (u := 1) (cs := [iv 1, .osl [5] (n + 1) 1 0 n, .osl [7] (m + 1) 3 0 m]) (by simp [updF_app]) (cs' := tL (.mk 1 W K)) (by simp [A.ones]) (fun H1 h1 => ⟨frz_bare rfl, frz_row (f := uv) (l := W) (by rw [h1 5 [] (by simp)]; simp [updF_app, z5]) w1.symm (fun x => by simp), frz_row (f := tA) (l := K) (by rw [h1 7 [] (by simp)]; simp [updF_app, z7]) q1.symm (fun x => by simp), trivial⟩)
    refine reth_le y1 (reth_fam (r0 := tX (.mk 1 W K)) (by simp [resA]) rfl (fun p => ?_))
    have e1 := y2 0 p (by omega)
    rw [updF_ne (by simp), hH3.f] at e1
    dsimp only
    rw [updF_ne (by simp), e1]
theorem wordsOk_pw : ∀ {ws : List WE} {last : Int}, wordsOk last ws = true → (∀ x, x ∈ ws → last < x.at_) ∧ ws.Pairwise (fun x y => x.at_ < y.at_)
  | [], _, _ => ⟨fun x h => (nomatch h), .nil⟩
  | w :: ws, last, h => by
    simp [wordsOk, wordOk] at h
    obtain ⟨⟨⟨⟨⟨h1, h2⟩, _⟩, _⟩, _⟩, h3⟩ := h
    obtain ⟨a, b⟩ := wordsOk_pw h3
    exact ⟨fun x hx => by
      rcases List.mem_cons.1 hx with rfl | hx
      · omega
      · have := a x hx; omega, List.pairwise_cons.2 ⟨a, b⟩⟩
theorem trimW_beyond (w : List Int) {i : Nat} (h : (trimW w).length ≤ i) : w.getD i 0 = 0 := by
  have := trimG_getD (p := fun x : Int => x == 0) (z := 0) w (fun x _ hx => by simpa using hx) i
  rw [← trimW_G] at this
  rw [← this, List.getD_eq_getElem?_getD, List.getElem?_eq_none h]
  rfl
theorem norm_zeros (W : List Int) (d : Nat) (D : List T) : norm (.mk 1 (W ++ List.replicate d 0) D) = norm (.mk 1 W D) := by
  rw [struct_eq]
  refine ⟨fun i => ?_, fun i => rfl⟩
  simp only [List.getD_eq_getElem?_getD, List.getElem?_append]
  split
  · rfl
  · rw [List.getElem?_eq_none (show W.length ≤ i by omega)]
    by_cases h : i - W.length < d
    · simp [h]
    · rw [List.getElem?_eq_none (by simp; omega)]
theorem last_max : ∀ {ws : List WE}, ws.Pairwise (fun x y => x.at_ < y.at_) → ∀ x, x ∈ ws → ∃ y, ws.getLast? = some y ∧ x.at_ ≤ y.at_
  | [], _, x, hx => nomatch hx
  | [w], _, x, hx => ⟨w, rfl, by rw [List.mem_singleton.1 hx]; exact Int.le_refl _⟩
  | w :: w2 :: ws, hp, x, hx => by
    obtain ⟨p1, p2⟩ := List.pairwise_cons.1 hp
    rcases List.mem_cons.1 hx with rfl | hx
    · obtain ⟨y, h1, h2⟩ := last_max p2 w2 (by simp)
      have := p1 w2 (by simp)
      exact ⟨y, by rw [List.getLast?_cons_cons]; exact h1, by omega⟩
    · obtain ⟨y, h1, h2⟩ := last_max p2 x hx
      exact ⟨y, by rw [List.getLast?_cons_cons]; exact h1, h2⟩
/-- The words that the program makes are those that the definition makes, but for zeros at the end. -/
theorem wds_trim {tw : List Int} {ws : List WE} (hw : wordsOk (-1) ws = true) : wds tw (lastW ws tw.length) 0 ws = (wds tw (lastW ws (trimW tw).length) 0 ws).map (· ++ List.replicate (lastW ws tw.length - lastW ws (trimW tw).length) 0) := by
  have hle : (trimW tw).length ≤ tw.length := by
    exact trimW_le tw
  have hll : lastW ws (trimW tw).length ≤ lastW ws tw.length := by
    unfold lastW
    split <;> omega
  obtain ⟨a, b⟩ := wordsOk_pw hw
  have hlast : ∀ x, x ∈ ws → x.at_ < ((lastW ws (trimW tw).length : Nat) : Int) := fun x hx => by
    obtain ⟨y, h1, h2⟩ := last_max b x hx
    have := a x hx
    simp only [lastW, h1]
    omega
  have := wds_more (tw := tw) (n := lastW ws (trimW tw).length) (fun i hi => trimW_beyond tw (by
    have : (trimW tw).length ≤ lastW ws (trimW tw).length := by unfold lastW; split <;> omega
    omega)) (lastW ws tw.length - lastW ws (trimW tw).length) (lastW ws (trimW tw).length) 0 ws hlast (by omega) (fun x hx => by have := a x hx; omega) b
  rwa [show lastW ws (trimW tw).length + (lastW ws tw.length - lastW ws (trimW tw).length) = lastW ws tw.length by omega] at this
theorem mst_k3 {n0 : Nat} {w0 : World} {I0 : Nat → Prop} {M0 : Nm → Nat → Prop} {m0 : Mu} {Q : Exit → Sta → Prop} {u : Nat} {e : E} (hkl : e.kids.length * 208 ≤ 140737488355328) {k0 : Nat} (hk0 : k0 * 56 ≤ 140737488355328) (hp2 : ∀ x, x ∈ e.kids → 0 ≤ x.at_ ∧ x.at_ ≤ 65534) {n : Nat} {H : Hp} (g1 : H [1] = ⟨1, .cells (eL e)⟩)
    (fin : ∀ m : Nat, m = lastK (apKs e.kids) k0 → m * 56 ≤ 140737488355328 → WPC (cxh Try.prog w0 I0 M0 n0 m0) k2_inapply_maker_structure Q ⟨lk [(0, .pob [0] u 0), (4, .pob [1] 1 0), (5, .pob [2] 1 0), (6, .pob [3] 1 0), (7, .pob [4] 1 0), (8, iv n), (9, iv m)], H⟩) :
    WPC (cxh Try.prog w0 I0 M0 n0 m0) k3_inapply_maker_structure Q ⟨lk [(0, .pob [0] u 0), (4, .pob [1] 1 0), (5, .pob [2] 1 0), (6, .pob [3] 1 0), (7, .pob [4] 1 0), (8, iv n), (9, iv k0)], H⟩ := by
  unfold k3_inapply_maker_structure
  by_cases h0 : e.kids.length = 0
  · have hl0 : k0 = lastK (apKs e.kids) k0 := by
      rw [List.eq_nil_of_length_eq_zero h0, apKs]; rfl
    have fin0 := fin _ hl0 (by omega)
    simp [g1, h0]
    exact fin0
  have hlt : e.kids.length - 1 < e.kids.length := by omega
  have e9 : IntKind.i64.wrap ((e.kids.length : Int) - 1) = ((e.kids.length - 1 : Nat) : Int) := (i64_same (n := (e.kids.length : Int) - 1) (by omega) (by omega)).trans (by omega)
  have hpos : 0 < e.kids.length := by omega
  have hlast : lastK (apKs e.kids) k0 = max k0 (e.kids[e.kids.length - 1].at_ + 1).toNat := by
    have : (apKs e.kids).getLast? = some (e.kids[e.kids.length - 1].at_, apE e.kids[e.kids.length - 1].e) := by
      rw [apKs_map, last_get]
      simp [hlt]
    simp [lastK, this]
  obtain ⟨p1, p2⟩ := hp2 _ (List.getElem_mem hlt)
  generalize hz : e.kids[e.kids.length - 1].at_ = z at hlast p1 p2
  have ez : IntKind.i64.wrap (z + 1) = z + 1 := i64_same (by omega) (by omega)
  simp [g1, hpos, e9, hlt, hz, ez]
  have := fin (max k0 (z + 1).toNat) hlast.symm (by omega)
  rwa [show ((max k0 (z + 1).toNat : Nat) : Int) = max (k0 : Int) (z + 1) by omega] at this
theorem inS_of {l : List (List Int)} (hs : Sg l) {e : E} (hwe : wfE e) (hk2 : e.kind = 2) (hw : wordsOk (-1) e.words = true) (hp2 : ∀ x, x ∈ e.kids → 0 ≤ x.at_ ∧ x.at_ ≤ 65534) (hIn : ∀ x, x ∈ e.kids → InE l x.e) : InS l e := by
  intro r t hm ht1 u
  have he := wfE_iff.1 hwe
  have hwt : wfT t := means_wf hs _ _ hm
  have hht := wfT_iff.1 hwt
  have hwl := he.wl
  have htl := hht.wl
  have htk := hht.kl
  have hp := wordsOk_at (by omega) hw
  have ltr := trimW_le t.words
  have hapE : apE e t = stepE e.kind e.old e.new e.words (apKs e.kids) e.list (apOs e.ops) t := by cases e; rw [apE_mk]; rfl
  obtain ⟨b1, b2⟩ := lastW_le hp (trimW t.words).length
  obtain ⟨c1, c2⟩ := lastK_le hp2 t.kids.length
  obtain ⟨T', hT, hv, hwalk⟩ := mst_k2 (u := u) hwe hs hm hIn (n := lastW e.words (trimW t.words).length) (m := lastK (apKs e.kids) t.kids.length) (by omega) (by omega)
  have hst : apE e t = match wds t.words (lastW e.words (trimW t.words).length) 0 e.words, kds t.kids (lastK (apKs e.kids) t.kids.length) 0 (apKs e.kids) with
    | some W, some D => some (norm (.mk 1 W D))
    | _, _ => none := by
    rw [hapE, stepE, if_neg (by omega), if_neg (by omega), if_pos hk2, if_pos ht1, wds_trim hw]
    cases wds t.words (lastW e.words (trimW t.words).length) 0 e.words with
    | none => rfl
    | some W =>
      cases kds t.kids (lastK (apKs e.kids) t.kids.length) 0 (apKs e.kids) with
      | none => rfl
      | some D => simp [norm_zeros]
  have hsome : (apE e t).isSome = ((wds t.words (lastW e.words (trimW t.words).length) 0 e.words).isSome && (kds t.kids (lastK (apKs e.kids) t.kids.length) 0 (apKs e.kids)).isSome) := by
    rw [hst]
    cases wds t.words (lastW e.words (trimW t.words).length) 0 e.words with
    | none => rfl
    | some W => cases kds t.kids (lastK (apKs e.kids) t.kids.length) 0 (apKs e.kids) <;> rfl
  refine ⟨T', hT, ?_, fun v h => ?_⟩
  rotate_left
  · rw [hst] at h
    cases h1 : wds t.words (lastW e.words (trimW t.words).length) 0 e.words with
    | none => rw [h1] at h; cases h
    | some W =>
      cases h2 : kds t.kids (lastK (apKs e.kids) t.kids.length) 0 (apKs e.kids) with
      | none => rw [h1, h2] at h; cases h
      | some D =>
        rw [h1, h2] at h
        cases h
        exact hv W D h1 h2
  rw [hsome]
  refine specF_of' t_inapply_maker_structure (by simp) (famL_cons famA_pob (famL_cons (famA_ee e) (famL_cons (famA_pa l r) famL_nil))) (famA_tt T') fun w0 I0 M0 m0 hM => ?_
  have fin : ∀ n : Nat, n = lastW e.words (trimW t.words).length → ∀ H : Hp, MsH u true e l r H → H [4] = ⟨1, .cells [iv 1, .osl [5] 1 1 0 0, .osl [7] 1 3 0 0]⟩ → H [5] = ⟨1, .arr 1 []⟩ → H [7] = ⟨1, .arr 3 []⟩ →
      WPC (cxh Try.prog w0 I0 M0 143 m0) k3_inapply_maker_structure _ ⟨lk [(0, .pob [0] u 0), (4, .pob [1] 1 0), (5, .pob [2] 1 0), (6, .pob [3] 1 0), (7, .pob [4] 1 0), (8, iv n), (9, iv t.kids.length)], H⟩ := fun n hn H hH g4 g5 g7 => by
    subst hn
    exact mst_k3 he.kl htk hp2 hH.g1 (fun m hm _ => by subst hm; exact hwalk hM H hH g4 g5 g7)
  generalize RetH (cxh Try.prog w0 I0 M0 143 m0) [.cell 6 53] 1 (tX T') _ = Q at fin ⊢
  unfold c_inapply_maker_structure
  simp
  refine stop_le (le_blankC (d := [4]) (u := 1) (cs := [iv 1, .sl true [], .sl true []]) 1 [5] 1 (by simp) rfl (by simp)) ?_
  refine stop_le (le_blankC (d := [4]) (u := 1) (cs := [iv 1, .osl [5] 1 1 0 0, .sl true []]) 2 [7] 3 (by simp [updF_app]) rfl (by simp)) (stop_go ?_)
  simp [updF_app]
  refine sc_call (long_spec hs hm) (by simp) ?_
  simp [updF_app]
  refine sc_call (refKids_spec' l r) (by simp) ?_
  rw [means_nk hm]
  have hMs : ∀ H : Hp, (∀ p, H (0 :: p) = (mkM u true).F 0 p) → H [1] = ⟨1, .cells (eL e)⟩ → H [2] = ⟨1, .cells (paL l r)⟩ → H [3] = ⟨1, .cells z0⟩ → MsH u true e l r H := fun H a b c d => ⟨a, b, c, d⟩
  by_cases h0 : e.words.length = 0
  · have hl0 : (trimW t.words).length = lastW e.words (trimW t.words).length := by
      rw [List.eq_nil_of_length_eq_zero h0]; rfl
    simp [h0, updF_app]
    exact fin _ hl0 _ (hMs _ (fun p => by simp [updF_app]) (by simp [updF_app]) (by simp [updF_app]) (by simp [updF_app])) (by simp [updF_app]) (by simp [updF_app]) (by simp [updF_app])
  have hlt : e.words.length - 1 < e.words.length := by omega
  have e9 : IntKind.i64.wrap ((e.words.length : Int) - 1) = ((e.words.length - 1 : Nat) : Int) := (i64_same (n := (e.words.length : Int) - 1) (by omega) (by omega)).trans (by omega)
  have hpos : 0 < e.words.length := by omega
  have hlast : lastW e.words (trimW t.words).length = max (trimW t.words).length (e.words[e.words.length - 1].at_ + 1).toNat := by
    have : e.words.getLast? = some e.words[e.words.length - 1] := by
      rw [last_get]
      simp [hlt]
    simp [lastW, this]
  obtain ⟨p1, p2⟩ := hp _ (List.getElem_mem hlt)
  generalize hz : e.words[e.words.length - 1].at_ = z at hlast p1 p2
  have ez : IntKind.i64.wrap (z + 1) = z + 1 := i64_same (by omega) (by omega)
  simp [hpos, e9, hlt, hz, ez, updF_app]
  have := fin (max (trimW t.words).length (z + 1).toNat) hlast.symm
  rw [show ((max (trimW t.words).length (z + 1).toNat : Nat) : Int) = max ((trimW t.words).length : Int) (z + 1) by omega] at this
  exact this _ (hMs _ (fun p => by simp [updF_app]) (by simp [updF_app]) (by simp [updF_app]) (by simp [updF_app])) (by simp [updF_app]) (by simp [updF_app]) (by simp [updF_app])
end Go.Proofs.Ytehcobkphobjiaa

/-
  Chapter 29: the maker's list.
-/
namespace Go.Proofs.Ytehcobkphobjiaa
set_option linter.unusedVariables false
set_option linter.unusedSimpArgs false
open Go Go.G Go.Proofs Go.PL
/-- What stays, while a list is made. -/
structure LmH (u : Nat) (ok : Bool) (l : List (List Int)) (r : Rf) (k : Int) (acc : List T) (H : Hp) : Prop where
  f : ∀ p, H (0 :: p) = (mkM u ok).F 0 p
  g2 : H [2] = ⟨1, .cells (paL l r)⟩
  g3 : H [3] = ⟨1, .cells z0⟩
  g : ∃ w : Nat, H [4] = ⟨1, .cells [iv k, .sl true [], .osl [6] w 3 0 acc.length]⟩ ∧ H [6] = ⟨w, .arr 3 (acc.map tA)⟩
section
variable {n0 : Nat} {w0 : World} {I0 : Nat → Prop} {M0 : Nm → Nat → Prop} {m0 : Mu} {Q : Exit → Sta → Prop}
theorem mls_keep {u : Nat} {l : List (List Int)} (hs : Sg l) {r : Rf} {t : T} (hm : Means l r t) {k : Int} {x : OP} (hx : x.kind = 0) {v i N a : Nat} {nn nl ops : A} (hN : N ≤ 1048576) (hb : a + N ≤ t.kids.length) (hk : t.kids.length * 56 ≤ 140737488355328) :
    ∀ (j m : Nat) (acc : List T) (H : Hp), m + j = N → acc.length ≤ 1048576 + m → LmH u true l r k acc H → H [5] = ⟨v, .cells (oL x)⟩ →
      (∀ (q : Bool) (H' : Hp), LmH u true l r k (acc ++ (t.kids.drop (a + m)).take j) H' → Q (.exit 3) ⟨lk [(0, .pob [0] u 0), (5, .pob [2] 1 0), (6, .pob [3] 1 0), (7, .pob [4] 1 0), (8, iv a), (10, .pob [5] v 0), (11, nn), (18, ops), (19, nl), (20, iv i), (59, iv N), (60, iv N), (61, bv q)], H'⟩) →
    LoopC (cxh Try.prog w0 I0 M0 n0 m0) l1_inapply_maker_list Q ⟨lk [(0, .pob [0] u 0), (5, .pob [2] 1 0), (6, .pob [3] 1 0), (7, .pob [4] 1 0), (8, iv a), (10, .pob [5] v 0), (11, nn), (18, ops), (19, nl), (20, iv i), (59, iv N), (60, iv m)], H⟩ := by
  intro j
  induction j with
  | zero =>
    intro m acc H hmj hacc hH g5 hq
    have : m = N := by omega
    subst this
    refine loopC_once mixed l1_inapply_maker_list.eq_1 ?_
    simp
    exact hq _ H (by simpa using hH)
  | succ j ih =>
    intro m acc H hmj hacc hH g5 hq
    obtain ⟨w, hg4, hg6⟩ := hH.g
    have hlt : m < N := by omega
    have em : IntKind.i64.wrap ((m : Int) + 1) = ((m + 1 : Nat) : Int) := i64_same (by omega) (by omega)
    have ea : IntKind.i64.wrap ((a : Int) + (m : Int)) = ((a + m : Nat) : Int) := i64_same (by omega) (by omega)
    have hla : a + m < t.kids.length := by omega
    obtain ⟨hk0, hkm⟩ := means_kid hm hla
    refine loopC_once mixed l1_inapply_maker_list.eq_1 ?_
    simp [hlt, hH.g2, ea]
    refine sc_fam 0 (mKid_spec hs (means_ok hm) ((a + m : Nat) : Int) hk0 u true) (fun p => by simp [hH.f]) (by simp) (by simp [List.isPrefixOf]) ?_
    simp [updF_app, g5, hx, hg4]
    refine sc_fam 0 (mWhole_spec hs hkm u true) (fun p => by simp [updF_app]) (by simp [updF_app]) (by simp [List.isPrefixOf]) ?_
    simp [updF_app, hg4, hg6, em]
    refine ⟨by omega, ?_⟩
    have hd : (t.kids.drop (a + m)).take (j + 1) = t.kids[a + m] :: (t.kids.drop (a + (m + 1))).take j := by
      rw [List.drop_eq_getElem_cons hla, List.take_succ_cons]; rfl
    refine ih (m + 1) (acc ++ [t.kids[a + m]]) _ (by omega) (by simp; omega) ⟨fun p => by simp [updF_app], by simp [updF_app, hH.g2], by simp [updF_app, hH.g3], ⟨_, by simp [updF_app]; rfl, by simp [updF_app, List.take_of_length_le]⟩⟩ (by simp [updF_app, g5]) (fun q H' hL => ?_)
    exact hq q H' (by rw [hd]; simpa using hL)
theorem mls_means {u : Nat} {l : List (List Int)} (hs : Sg l) {r : Rf} {t : T} (hm : Means l r t) {k : Int} {x : OP} (hx : x.kind = 1) (hr : ∀ y, y ∈ x.l → wfT y ∧ ∃ d, rightT d y = true) {v i a : Nat} {nn nl ops : A} (hN : x.l.length ≤ 1048576) (hb : a + x.l.length ≤ t.kids.length) (hk : t.kids.length * 56 ≤ 140737488355328) {acc : List T} :
    ∀ (j m : Nat) (ok : Bool) (H : Hp), m + j = x.l.length → LmH u ok l r k acc H → H [5] = ⟨v, .cells (oL x)⟩ →
      (∀ (q : Bool) (H' : Hp), LmH u (ok && ((t.kids.drop (a + m)).zip (x.l.drop m)).all (fun p => eqT p.1 p.2)) l r k acc H' → Q (.exit 3) ⟨lk [(0, .pob [0] u 0), (5, .pob [2] 1 0), (6, .pob [3] 1 0), (7, .pob [4] 1 0), (8, iv a), (10, .pob [5] v 0), (11, nn), (18, ops), (19, nl), (20, iv i), (59, iv x.l.length), (60, iv x.l.length), (61, bv q)], H'⟩) →
    LoopC (cxh Try.prog w0 I0 M0 n0 m0) l1_inapply_maker_list Q ⟨lk [(0, .pob [0] u 0), (5, .pob [2] 1 0), (6, .pob [3] 1 0), (7, .pob [4] 1 0), (8, iv a), (10, .pob [5] v 0), (11, nn), (18, ops), (19, nl), (20, iv i), (59, iv x.l.length), (60, iv m)], H⟩ := by
  intro j
  induction j with
  | zero =>
    intro m ok H hmj hH g5 hq
    have : m = x.l.length := by omega
    subst this
    refine loopC_once mixed l1_inapply_maker_list.eq_1 ?_
    simp
    exact hq _ H (by simpa using hH)
  | succ j ih =>
    intro m ok H hmj hH g5 hq
    obtain ⟨w, hg4, hg6⟩ := hH.g
    have hlt : m < x.l.length := by omega
    have em : IntKind.i64.wrap ((m : Int) + 1) = ((m + 1 : Nat) : Int) := i64_same (by omega) (by omega)
    have ea : IntKind.i64.wrap ((a : Int) + (m : Int)) = ((a + m : Nat) : Int) := i64_same (by omega) (by omega)
    have hla : a + m < t.kids.length := by omega
    obtain ⟨hk0, hkm⟩ := means_kid hm hla
    obtain ⟨hwx, hrx⟩ := hr _ (List.getElem_mem hlt)
    refine loopC_once mixed l1_inapply_maker_list.eq_1 ?_
    simp [hlt, hH.g2, ea]
    refine sc_fam 0 (mKid_spec hs (means_ok hm) ((a + m : Nat) : Int) hk0 u ok) (fun p => by simp [hH.f]) (by simp) (by simp [List.isPrefixOf]) ?_
    simp [updF_app, g5, hx, hlt]
    refine sc_fam 0 (mMeans_spec (means_spec29 hs _ _ x.l[m] hkm hwx hrx) u ok) (fun p => by simp [updF_app]) (by simp [updF_app]) (by simp [List.isPrefixOf]) ?_
    have hd : ((t.kids.drop (a + m)).zip (x.l.drop m)).all (fun p => eqT p.1 p.2) = (eqT t.kids[a + m] x.l[m] && ((t.kids.drop (a + (m + 1))).zip (x.l.drop (m + 1))).all (fun p => eqT p.1 p.2)) := by
      rw [List.drop_eq_getElem_cons hla, List.drop_eq_getElem_cons hlt]; rfl
    simp [em]
    refine ih (m + 1) (ok && eqT t.kids[a + m] x.l[m]) _ (by omega) ⟨fun p => by simp [updF_app], by simp [updF_app, hH.g2], by simp [updF_app, hH.g3], ⟨w, by simp [updF_app, hg4], by simp [updF_app, hg6]⟩⟩ (by simp [updF_app, g5]) (fun q H' hL => ?_)
    exact hq q H' (by rw [hd, ← Bool.and_assoc]; exact hL)
theorem mls_edit {u : Nat} {l : List (List Int)} (hs : Sg l) {r : Rf} {t : T} (hm : Means l r t) {k : Int} {x : OP} (hx : x.kind = 3) {v i a : Nat} {nn nl ops : A} (hla : a < t.kids.length) (hk : t.kids.length * 56 ≤ 140737488355328) {T' : T} {ok' : Bool}
    (hsp : SpecF Try.prog 91 (fun q => [.pob [q] u 0, eX x.e, paX l (kidP l r a).1]) (mkM u true) (fun _ => tX T') (mkM u ok')) {acc : List T} (hacc : acc.length ≤ 1048576) {H : Hp} (hH : LmH u true l r k acc H) (g5 : H [5] = ⟨v, .cells (oL x)⟩)
    (hq : ∀ (q : Bool) (H' : Hp), LmH u ok' l r k (acc ++ [T']) H' → Q (.exit 3) ⟨lk [(0, .pob [0] u 0), (5, .pob [2] 1 0), (6, .pob [3] 1 0), (7, .pob [4] 1 0), (8, iv a), (10, .pob [5] v 0), (11, nn), (18, ops), (19, nl), (20, iv i), (59, iv 1), (60, iv 1), (61, bv q)], H'⟩) :
    LoopC (cxh Try.prog w0 I0 M0 n0 m0) l1_inapply_maker_list Q ⟨lk [(0, .pob [0] u 0), (5, .pob [2] 1 0), (6, .pob [3] 1 0), (7, .pob [4] 1 0), (8, iv a), (10, .pob [5] v 0), (11, nn), (18, ops), (19, nl), (20, iv i), (59, iv 1), (60, iv 0)], H⟩ := by
  obtain ⟨w, hg4, hg6⟩ := hH.g
  have ea : IntKind.i64.wrap ((a : Int)) = (a : Int) := i64_same (by omega) (by omega)
  obtain ⟨hk0, hkm⟩ := means_kid hm hla
  refine loopC_once mixed l1_inapply_maker_list.eq_1 ?_
  simp [hH.g2, ea]
  refine sc_fam 0 (mKid_spec hs (means_ok hm) (a : Int) hk0 u true) (fun p => by simp [hH.f]) (by simp) (by simp [List.isPrefixOf]) ?_
  simp [updF_app, g5, hx, hg4]
  refine sc_fam 0 hsp (fun p => by simp [updF_app]) (by simp [updF_app]) (by simp [List.isPrefixOf]) ?_
  simp [updF_app, hg4, hg6]
  refine ⟨by omega, ?_⟩
  have e1 : IntKind.i64.wrap 1 = 1 := i64_same (by omega) (by omega)
  refine loopC_once mixed l1_inapply_maker_list.eq_1 ?_
  simp [e1]
  refine hq _ _ ?_
  exact ⟨fun p => by simp [updF_app], by simp [updF_app, hH.g2], by simp [updF_app, hH.g3], ⟨_, by simp [updF_app]; rfl, by simp [updF_app, List.take_of_length_le]⟩⟩
end
end Go.Proofs.Ytehcobkphobjiaa

/-
  Chapter 29: the maker's list, its outer loop.
-/
namespace Go.Proofs.Ytehcobkphobjiaa
set_option linter.unusedVariables false
set_option linter.unusedSimpArgs false
open Go Go.G Go.Proofs Go.PL
section
variable {n0 : Nat} {w0 : World} {I0 : Nat → Prop} {M0 : Nm → Nat → Prop} {m0 : Mu} {Q : Exit → Sta → Prop}
/-- A step that no longer goes. -/
theorem mls_bad {u : Nat} {ok : Bool} {l : List (List Int)} {r : Rf} {t : T} (hm : Means l r t) {k : Int} {acc : List T} {v i a n : Nat} {ops nl : A} {H : Hp} (hH : LmH u ok l r k acc H) (hla : a ≤ t.kids.length) (hk : t.kids.length * 56 ≤ 140737488355328) (hbad : ok = false ∨ ¬ a + n ≤ t.kids.length)
    (hq : ∀ H' : Hp, (∀ p, H' (0 :: p) = (mkM u false).F 0 p) → H' [3] = ⟨1, .cells (tL T0)⟩ → Q .ret ⟨lk [(6, .pob [3] 1 0)], H'⟩) :
    WPC (cxh Try.prog w0 I0 M0 n0 m0) k1_inapply_maker_list Q ⟨lk [(0, .pob [0] u 0), (5, .pob [2] 1 0), (6, .pob [3] 1 0), (7, .pob [4] 1 0), (8, iv a), (10, .pob [5] v 0), (11, iv n), (18, ops), (19, nl), (20, iv i)], H⟩ := by
  have es : IntKind.i64.wrap ((t.kids.length : Int) - (a : Int)) = (t.kids.length : Int) - a := i64_same (by omega) (by omega)
  have h00 := hH.f []
  rw [k1_inapply_maker_list.eq_1]
  simp [hH.g2]
  refine sc_call (refKids_spec' l r) (by simp) ?_
  rw [means_nk hm]
  by_cases hn : a + n ≤ t.kids.length
  · have hf : ok = false := by
      rcases hbad with h | h
      · exact h
      · exact absurd hn h
    subst hf
    have hc : ¬ (t.kids.length : Int) - a < n := by omega
    simp [es, hc, h00, mkE]
    refine sc_fam 0 (mFail_spec u false) (fun p => by simp [hH.f]) (by simp) (by simp) ?_
    simp [updF_app, hH.g3]
    exact hq _ (fun p => by simp [updF_app]) (by simp [updF_app])
  · have hc : (t.kids.length : Int) - a < n := by omega
    simp [es, hc]
    refine sc_fam 0 (mFail_spec u ok) (fun p => by simp [hH.f]) (by simp) (by simp) ?_
    simp [updF_app, hH.g3]
    exact hq _ (fun p => by simp [updF_app]) (by simp [updF_app])
/-- A step that goes: its rounds, and on. -/
theorem mls_go {u : Nat} {l : List (List Int)} {r : Rf} {t : T} (hm : Means l r t) {k : Int} {acc : List T} {v i a n : Nat} {ops nl : A} {H : Hp} (hH : LmH u true l r k acc H) (hk : t.kids.length * 56 ≤ 140737488355328) (hgo : a + n ≤ t.kids.length)
    (hl : ∀ Q' : Exit → Sta → Prop, (∀ (q : A) (H' : Hp), (Q .normal ⟨lk [(0, .pob [0] u 0), (5, .pob [2] 1 0), (6, .pob [3] 1 0), (7, .pob [4] 1 0), (8, iv ((a + n : Nat) : Int)), (18, ops), (19, nl), (20, iv i)], H'⟩) → Q' (.exit 3) ⟨lk [(0, .pob [0] u 0), (5, .pob [2] 1 0), (6, .pob [3] 1 0), (7, .pob [4] 1 0), (8, iv a), (10, .pob [5] v 0), (11, iv n), (18, ops), (19, nl), (20, iv i), (59, iv n), (60, iv n), (61, q)], H'⟩) →
      LoopC (cxh Try.prog w0 I0 M0 n0 m0) l1_inapply_maker_list Q' ⟨lk [(0, .pob [0] u 0), (5, .pob [2] 1 0), (6, .pob [3] 1 0), (7, .pob [4] 1 0), (8, iv a), (10, .pob [5] v 0), (11, iv n), (18, ops), (19, nl), (20, iv i), (59, iv n), (60, iv 0)], H⟩) :
    WPC (cxh Try.prog w0 I0 M0 n0 m0) k1_inapply_maker_list Q ⟨lk [(0, .pob [0] u 0), (5, .pob [2] 1 0), (6, .pob [3] 1 0), (7, .pob [4] 1 0), (8, iv a), (10, .pob [5] v 0), (11, iv n), (18, ops), (19, nl), (20, iv i)], H⟩ := by
  have es : IntKind.i64.wrap ((t.kids.length : Int) - (a : Int)) = (t.kids.length : Int) - a := i64_same (by omega) (by omega)
  have ea : IntKind.i64.wrap ((a : Int) + (n : Int)) = ((a + n : Nat) : Int) := i64_same (by omega) (by omega)
  have h00 := hH.f []
  have hc : ¬ (t.kids.length : Int) - a < n := by omega
  rw [k1_inapply_maker_list.eq_1]
  simp [hH.g2]
  refine sc_call (refKids_spec' l r) (by simp) ?_
  rw [means_nk hm]
  simp [es, hc, h00, mkE]
  refine hl _ (fun q H' hQ => ?_)
  simp
  refine stop_go ?_
  simp [ea]
  exact hQ
end
theorem mls_l2 {u : Nat} {l : List (List Int)} (hs : Sg l) {r : Rf} {t : T} (hm : Means l r t) {k : Int} {e : E} (hol : e.ops.length * 240 ≤ 140737488355328) (hok : ∀ x, x ∈ e.ops → OpOk x ∧ x.l.length ≤ 1048576 ∧ (∀ y, y ∈ x.l → wfT y) ∧ (x.kind = 1 → ∀ y, y ∈ x.l → ∃ d, rightT d y = true)) (hIn : ∀ x, x ∈ e.ops → x.kind = 3 → InE l x.e) :
    ∀ (j i a : Nat) (acc : List T) (ok : Bool), i + j = e.ops.length → acc.length + addOs (e.ops.drop i) ≤ 1048576 → a ≤ t.kids.length → (∀ y, y ∈ acc → wfT y) →
      (ok = true → ∃ D : List T, D.map norm = acc.map norm ∧ opsR t.kids 0 (apOs e.ops) = (opsR t.kids a (apOs (e.ops.drop i))).map (fun r => (D ++ r.1, r.2))) → (ok = false → opsR t.kids 0 (apOs e.ops) = none) →
      ∃ R : Option (List T × Nat × Bool), (R = none → opsR t.kids 0 (apOs e.ops) = none) ∧ (∀ K a' ok', R = some (K, a', ok') → (∀ y, y ∈ K → wfT y) ∧ K.length ≤ 1048576 ∧ a' ≤ t.kids.length ∧ (ok' = true → ∃ D : List T, D.map norm = K.map norm ∧ opsR t.kids 0 (apOs e.ops) = some (D, a')) ∧ (ok' = false → opsR t.kids 0 (apOs e.ops) = none)) ∧
      ∀ {n0 : Nat} {w0 : World} {I0 : Nat → Prop} {M0 : Nm → Nat → Prop} {m0 : Mu} {Q : Exit → Sta → Prop} (H : Hp), LmH u ok l r k acc H →
        (R = none → ∀ H' : Hp, (∀ p, H' (0 :: p) = (mkM u false).F 0 p) → H' [3] = ⟨1, .cells (tL T0)⟩ → Q .ret ⟨lk [(6, .pob [3] 1 0)], H'⟩) →
        (∀ K a' ok', R = some (K, a', ok') → ∀ (q : Bool) (H' : Hp), LmH u ok' l r k K H' → Q (.exit 0) ⟨lk [(0, .pob [0] u 0), (5, .pob [2] 1 0), (6, .pob [3] 1 0), (7, .pob [4] 1 0), (8, iv a'), (18, oKs e.ops), (19, iv e.ops.length), (20, iv e.ops.length), (21, bv q)], H'⟩) →
        LoopC (cxh Try.prog w0 I0 M0 n0 m0) l2_inapply_maker_list Q ⟨lk [(0, .pob [0] u 0), (5, .pob [2] 1 0), (6, .pob [3] 1 0), (7, .pob [4] 1 0), (8, iv a), (18, oKs e.ops), (19, iv e.ops.length), (20, iv i)], H⟩ := by
  have hwt := means_wf hs _ _ hm
  have hk := (wfT_iff.1 hwt).kl
  intro j
  induction j with
  | zero =>
    intro i a acc ok hi hacc ha hwf hsm hn'
    have : i = e.ops.length := by omega
    subst this
    rw [List.drop_length, apOs, opsR] at hsm
    refine ⟨some (acc, a, ok), fun h => (nomatch h), fun K a' ok' h => ?_, fun H hH hf hq => ?_⟩
    · cases h
      refine ⟨hwf, by omega, ha, fun h => ?_, hn'⟩
      obtain ⟨D, d1, d2⟩ := hsm h
      exact ⟨D, d1, by rw [d2]; simp⟩
    · refine loopC_once mixed l2_inapply_maker_list.eq_1 ?_
      simp
      exact hq acc a ok rfl _ H hH
  | succ j ih =>
    intro i a acc ok hi hacc ha hwf hsm hn'
    have hlt : i < e.ops.length := by omega
    have ei : IntKind.i64.wrap ((i : Int) + 1) = ((i + 1 : Nat) : Int) := i64_same (by omega) (by omega)
    obtain ⟨hop, hxl, hxw, hxr⟩ := hok _ (List.getElem_mem hlt)
    have hkx := hIn _ (List.getElem_mem hlt)
    have hadd : addOs (e.ops.drop i) = addO e.ops[i] + addOs (e.ops.drop (i + 1)) := by rw [List.drop_eq_getElem_cons hlt]; rfl
    rw [hadd] at hacc
    rw [apOs_drop hlt] at hsm
    by_cases k2 : e.ops[i].kind = 2
    · have hao : addO e.ops[i] = e.ops[i].l.length := by rw [addO, if_neg (by omega), if_neg (by omega), if_pos k2]
      obtain ⟨R, r1, r2, r3⟩ := ih (i + 1) a (acc ++ e.ops[i].l) ok (by omega) (by simp; omega) ha (fun y hy => by
        rcases List.mem_append.1 hy with h | h
        · exact hwf y h
        · exact hxw y h) (fun h => by
        obtain ⟨D, d1, d2⟩ := hsm h
        refine ⟨D ++ e.ops[i].l, by rw [List.map_append, List.map_append, d1], ?_⟩
        rw [d2, opsR, if_neg (by omega), if_neg (by omega), if_pos k2]
        cases opsR t.kids a (apOs (e.ops.drop (i + 1))) <;> simp) hn'
      refine ⟨R, r1, r2, fun {n0 w0 I0 M0 m0 Q} H hH hf hq => ?_⟩
      obtain ⟨w, g4, g6⟩ := hH.g
      refine loopC_once mixed l2_inapply_maker_list.eq_1 ?_
      simp [hlt, k2, updF_app, g4, g6]
      refine ⟨by omega, ?_⟩
      simp [InBlock, ThenC, ei]
      refine r3 _ ?_ hf hq
      exact ⟨fun p => by simp [updF_app, hH.f], by simp [updF_app, hH.g2], by simp [updF_app, hH.g3], ⟨_, by simp [updF_app]; rfl, by simp [updF_app, List.take_of_length_le]⟩⟩
    obtain ⟨n, hn⟩ : ∃ n : Nat, (e.ops[i].kind = 3 → n = 1) ∧ (e.ops[i].kind ≠ 3 → (n : Int) = e.ops[i].n + e.ops[i].l.length) := by
      by_cases k3 : e.ops[i].kind = 3
      · exact ⟨1, fun _ => rfl, fun h => absurd k3 h⟩
      · refine ⟨(e.ops[i].n + e.ops[i].l.length).toNat, fun h => absurd h k3, fun _ => ?_⟩
        rcases hop with h | h | h | h <;> omega
    have hnb : n ≤ 1048576 := by
      by_cases k3 : e.ops[i].kind = 3
      · have := hn.1 k3; omega
      · have := hn.2 k3
        rcases hop with ⟨_, _, n2, l0⟩ | ⟨_, nz⟩ | ⟨k2', _⟩ | ⟨k3', _⟩
        · rw [l0] at this; simp at this; omega
        · omega
        · exact absurd k2' k2
        · exact absurd k3' k3
    have up5 : ∀ (H : Hp) (X : VOb), LmH u ok l r k acc H → LmH u ok l r k acc (updF H [5] X) := fun H X hH => by
      obtain ⟨w, g4, g6⟩ := hH.g
      exact ⟨fun p => by simp [updF_app, hH.f], by simp [updF_app, hH.g2], by simp [updF_app, hH.g3], ⟨w, by simp [updF_app, g4], by simp [updF_app, g6]⟩⟩
    by_cases hbad : ok = false ∨ ¬ a + n ≤ t.kids.length
    · have hnone : opsR t.kids 0 (apOs e.ops) = none := by
        cases ok with
        | false => exact hn' rfl
        | true =>
          have hb : ¬ a + n ≤ t.kids.length := by
            rcases hbad with h | h
            · cases h
            · exact h
          obtain ⟨D, _, d2⟩ := hsm rfl
          rw [d2]
          rcases hop with ⟨k0, n1, n2, l0⟩ | ⟨k1, nz⟩ | ⟨k2', nz⟩ | ⟨k3, nz, l0⟩
          · have := hn.2 (by omega)
            rw [l0] at this
            simp at this
            rw [opsR, if_pos k0, if_neg (by omega)]; rfl
          · have := hn.2 (by omega)
            rw [opsR, if_neg (by omega), if_pos k1, if_neg (fun h => hb (by omega))]; rfl
          · exact absurd k2' k2
          · have := hn.1 k3
            rw [opsR, if_neg (by omega), if_neg (by omega), if_neg (by omega), List.getElem?_eq_none (by omega)]; rfl
      refine ⟨none, fun _ => hnone, fun K a' ok' h => (nomatch h), fun {n0 w0 I0 M0 m0 Q} H hH hf hq => ?_⟩
      refine loopC_once mixed l2_inapply_maker_list.eq_1 ?_
      by_cases k3 : e.ops[i].kind = 3
      · have := hn.1 k3
        subst this
        simp [hlt, k3, updF_app]
        exact mls_bad (n := 1) hm (up5 _ _ hH) ha hk hbad (fun H' h0 h3 => by simpa using hf rfl H' h0 h3)
      · have hnn := hn.2 k3
        have en : IntKind.i64.wrap (e.ops[i].n + (e.ops[i].l.length : Int)) = (n : Int) := by rw [← hnn]; exact i64_same (by omega) (by omega)
        simp [hlt, k2, k3, updF_app, en]
        exact mls_bad (n := n) hm (up5 _ _ hH) ha hk hbad (fun H' h0 h3 => by simpa using hf rfl H' h0 h3)
    have hok' : ok = true := by
      cases ok with
      | true => rfl
      | false => exact absurd (.inl rfl) hbad
    subst hok'
    have hgo : a + n ≤ t.kids.length := Decidable.byContradiction fun h => hbad (.inr h)
    obtain ⟨D, d1, d2⟩ := hsm rfl
    have ht := (wfT_iff.1 hwt).ks
    rcases hop with ⟨k0, n1, n2, l0⟩ | ⟨k1, nz⟩ | ⟨k2', nz⟩ | ⟨k3, nz, l0⟩
    · have hnn := hn.2 (by omega)
      have hn0 : e.ops[i].n.toNat = n := by rw [l0] at hnn; simp at hnn; omega
      have en : IntKind.i64.wrap (e.ops[i].n + (e.ops[i].l.length : Int)) = (n : Int) := by rw [← hnn]; exact i64_same (by omega) (by omega)
      have hao : addO e.ops[i] = n := by rw [addO, if_pos k0, hn0]
      have htl : ((t.kids.drop a).take n).length = n := by simp; omega
      obtain ⟨R, r1, r2, r3⟩ := ih (i + 1) (a + n) (acc ++ (t.kids.drop a).take n) true (by omega) (by rw [List.length_append, htl]; omega) hgo (fun y hy => by
        rcases List.mem_append.1 hy with h | h
        · exact hwf y h
        · exact ht y (List.mem_of_mem_drop (List.mem_of_mem_take h))) (fun _ => ⟨D ++ (t.kids.drop a).take n, by rw [List.map_append, List.map_append, d1], by
        rw [d2, opsR, if_pos k0, hn0, if_pos hgo]
        cases opsR t.kids (a + n) (apOs (e.ops.drop (i + 1))) <;> simp⟩) (fun h => nomatch h)
      refine ⟨R, r1, r2, fun {n0 w0 I0 M0 m0 Q} H hH hf hq => ?_⟩
      refine loopC_once mixed l2_inapply_maker_list.eq_1 ?_
      simp [hlt, k0, updF_app, en]
      refine mls_go hm (up5 _ _ hH) hk hgo (fun Q' hQ' => ?_)
      refine mls_keep hs hm k0 hnb hgo hk n 0 acc _ (by omega) (by omega) (up5 _ _ hH) (by simp [updF_app, k0]) (fun q H' hL => hQ' _ H' ?_)
      simp [ei]
      exact r3 H' hL hf hq
    · have hnn : n = e.ops[i].l.length := by have := hn.2 (by omega); omega
      subst hnn
      have en : IntKind.i64.wrap (e.ops[i].n + (e.ops[i].l.length : Int)) = (e.ops[i].l.length : Int) := by rw [nz, Int.zero_add]; exact i64_same (by omega) (by omega)
      have hao : addO e.ops[i] = 0 := by rw [addO, if_neg (by omega), if_pos k1]
      rw [opsR, if_neg (by omega), if_pos k1] at d2
      obtain ⟨R, r1, r2, r3⟩ := ih (i + 1) (a + e.ops[i].l.length) acc (((t.kids.drop a).zip e.ops[i].l).all (fun p => eqT p.1 p.2)) (by omega) (by omega) hgo hwf (fun h => ⟨D, d1, by
        rw [d2, if_pos ⟨hgo, by rw [zip_take]; exact h⟩]⟩) (fun h => by
        rw [d2, if_neg (fun h' => by rw [zip_take, h] at h'; cases h'.2)]; rfl)
      refine ⟨R, r1, r2, fun {n0 w0 I0 M0 m0 Q} H hH hf hq => ?_⟩
      refine loopC_once mixed l2_inapply_maker_list.eq_1 ?_
      simp [hlt, k1, updF_app, en]
      refine mls_go hm (up5 _ _ hH) hk hgo (fun Q' hQ' => ?_)
      refine mls_means hs hm k1 (fun y hy => ⟨hxw y hy, hxr k1 y hy⟩) hxl hgo hk e.ops[i].l.length 0 true _ (by omega) (up5 _ _ hH) (by simp [updF_app, k1]) (fun q H' hL => hQ' _ H' ?_)
      simp [ei]
      exact r3 H' hL hf hq
    · exact absurd k2' k2
    · have hn1 := hn.1 k3
      subst hn1
      have hla : a < t.kids.length := by omega
      obtain ⟨hk0, hkm⟩ := means_kid hm hla
      obtain ⟨T', hT, hsp, hv⟩ := hkx k3 _ _ hkm u true
      have hao : addO e.ops[i] = 1 := by rw [addO, if_neg (by omega), if_neg (by omega), if_neg (by omega)]
      rw [opsR, if_neg (by omega), if_neg (by omega), if_neg (by omega), List.getElem?_eq_getElem hla] at d2
      dsimp only at d2
      obtain ⟨R, r1, r2, r3⟩ := ih (i + 1) (a + 1) (acc ++ [T']) (true && (apE e.ops[i].e t.kids[a]).isSome) (by omega) (by simp; omega) hgo (fun y hy => by
        rcases List.mem_append.1 hy with h | h
        · exact hwf y h
        · rw [List.mem_singleton.1 h]; exact hT) (fun h => by
        simp only [Bool.true_and] at h
        obtain ⟨v, hv'⟩ := Option.isSome_iff_exists.1 h
        refine ⟨D ++ [v], ?_, ?_⟩
        · rw [List.map_append, List.map_append, d1]
          simp only [List.map_cons, List.map_nil]
          rw [← hv rfl v hv', norm_norm]
        · rw [d2, hv']
          cases opsR t.kids (a + 1) (apOs (e.ops.drop (i + 1))) <;> simp) (fun h => by
        simp only [Bool.true_and] at h
        rw [d2]
        cases hv' : apE e.ops[i].e t.kids[a] with
        | none => rfl
        | some v => rw [hv'] at h; cases h)
      refine ⟨R, r1, r2, fun {n0 w0 I0 M0 m0 Q} H hH hf hq => ?_⟩
      refine loopC_once mixed l2_inapply_maker_list.eq_1 ?_
      simp [hlt, k3, updF_app]
      refine mls_go (n := 1) hm (up5 _ _ hH) hk hgo (fun Q' hQ' => ?_)
      refine mls_edit hs hm k3 hla hk hsp (by omega) (up5 _ _ hH) (by simp [updF_app, k3]) (fun q H' hL => hQ' _ H' ?_)
      simp [ei]
      exact r3 H' hL hf hq
end Go.Proofs.Ytehcobkphobjiaa

/-
  Chapter 29: the maker's list, whole.
-/
namespace Go.Proofs.Ytehcobkphobjiaa
set_option linter.unusedVariables false
set_option linter.unusedSimpArgs false
open Go Go.G Go.Proofs Go.PL
theorem inL_of {l : List (List Int)} (hs : Sg l) {e : E} (hwe : wfE e) (hk3 : e.kind = 3) (hadd : addOs e.ops ≤ 1048576) (hok : ∀ x, x ∈ e.ops → OpOk x ∧ x.l.length ≤ 1048576 ∧ (∀ y, y ∈ x.l → wfT y) ∧ (x.kind = 1 → ∀ y, y ∈ x.l → ∃ d, rightT d y = true)) (hIn : ∀ x, x ∈ e.ops → x.kind = 3 → InE l x.e) (hl0 : e.list ≠ 0) (hl1 : e.list ≠ 1) : InL l e := by
  intro r t hm htl u
  have he := wfE_iff.1 hwe
  have hwt : wfT t := means_wf hs _ _ hm
  have hht := wfT_iff.1 hwt
  have hapE : apE e t = stepE e.kind e.old e.new e.words (apKs e.kids) e.list (apOs e.ops) t := by cases e; rw [apE_mk]; rfl
  have hst : apE e t = match opsR t.kids 0 (apOs e.ops) with
    | some (l, a) => if a = t.kids.length then some (norm (.mk t.kind [] l)) else none
    | none => none := by
    rw [hapE, stepE, if_neg (by omega), if_neg (by omega), if_neg (by omega), if_pos hk3, if_pos htl]
    first | done | rfl
  have hrk : r.kind = t.kind := means_kind hm
  obtain ⟨R, r1, r2, r3⟩ := mls_l2 (u := u) hs hm (k := t.kind) he.ol hok hIn e.ops.length 0 0 [] true (by omega) (by simpa using hadd) (by omega) (fun y h => nomatch h) (fun _ => ⟨[], rfl, by cases h : opsR t.kids 0 (apOs e.ops) <;> simp [h]⟩) (fun h => nomatch h)
  have walk : ∀ (T' : T) (b : Bool), (R = none → T' = T0 ∧ b = false) → (∀ K a ok, R = some (K, a, ok) → (a ≠ t.kids.length → T' = T0 ∧ b = false) ∧ (a = t.kids.length → T' = .mk t.kind [] K ∧ b = ok)) →
      SpecF Try.prog 145 (fun q => [.pob [q] u 0, eX e, paX l r]) (mkM u true) (fun _ => tX T') (mkM u b) := fun T' b hR0 hR1 => by
    refine specF_of' t_inapply_maker_list (by simp) (famL_cons famA_pob (famL_cons (famA_ee e) (famL_cons (famA_pa l r) famL_nil))) (famA_tt T') fun w0 I0 M0 m0 hM => ?_
    unfold c_inapply_maker_list
    simp
    refine sc_call (refKind_spec l r) (by simp) ?_
    rw [hrk]
    simp
    refine stop_le (le_blankC (d := [4]) (u := 1) (cs := [iv t.kind, .sl true [], .sl true []]) 2 [6] 3 (by simp) rfl (by simp)) (stop_go ?_)
    simp [updF_app]
    refine r3 _ ⟨fun p => by simp [updF_app], by simp [updF_app], by simp [updF_app], ⟨1, by simp [updF_app], by simp [updF_app]⟩⟩ (fun hR H' h0 h3 => ?_) (fun K a ok hR q H' hH => ?_)
    · obtain ⟨rfl, rfl⟩ := hR0 hR
      simp
      exact reth_fam (r0 := tX T0) (by simp [resA, h3]) rfl (fun p => by simp [h0])
    obtain ⟨c1, c2⟩ := hR1 K a ok hR
    simp [hH.g2]
    refine sc_call (refKids_spec' l r) (by simp) ?_
    rw [means_nk hm]
    by_cases hak : a = t.kids.length
    rotate_left
    · obtain ⟨rfl, rfl⟩ := c1 hak
      have hak' : ¬ (a : Int) = (t.kids.length : Int) := by omega
      simp [hak']
      refine sc_fam 0 (mFail_spec u ok) (fun p => by simp [hH.f]) (by simp) (by simp) ?_
      simp [updF_app, hH.g3]
      exact reth_fam (r0 := tX T0) (by simp [resA]) rfl (fun p => by simp [updF_app])
    obtain ⟨rfl, rfl⟩ := c2 hak
    obtain ⟨w, g4, g6⟩ := hH.g
    simp [hak, g4, hH.g3, updF_app]
    obtain ⟨H4, y1, y2⟩ := le_freezeC (c := cxh Try.prog w0 I0 M0 113 m0) (s := lk [(6, .pob [3] 1 0)]) (H := updF H' [3] ⟨1, .cells [iv t.kind, .sl true [], .osl [6] w 3 0 K.length]⟩) (fun r => r = 6) (fun r p b h => hM r p b (by omega)) (r0 := 3) (p0 := []) (by omega) (u := 1) (cs := [iv t.kind, .sl true [], .osl [6] w 3 0 K.length]) (by simp [updF_app]) (cs' := tL (.mk t.kind [] K)) (by simp [A.ones]) (fun H1 h1 => ⟨frz_bare rfl, frz_sl, frz_row (f := tA) (l := K) (by rw [h1 6 [] rfl]; simp [updF_app, g6]) rfl (fun x => by simp), trivial⟩)
    refine reth_le y1 (reth_fam (r0 := tX (.mk t.kind [] K)) (by simp [resA]) rfl (fun p => ?_))
    have e1 := y2 0 p (by omega)
    rw [updF_ne (by simp), hH.f] at e1
    dsimp only
    rw [updF_ne (by simp), e1]
  cases R with
  | none =>
    have hn : apE e t = none := by rw [hst, r1 rfl]
    refine ⟨T0, wf_T0, ?_, fun v h => by rw [hn] at h; cases h⟩
    rw [hn]
    exact walk T0 false (fun _ => ⟨rfl, rfl⟩) (fun K a ok h => nomatch h)
  | some R =>
    obtain ⟨K, a, ok⟩ := R
    obtain ⟨q1, q2, q3, q4, q5⟩ := r2 K a ok rfl
    by_cases hak : a = t.kids.length
    · have hsome : (apE e t).isSome = ok := by
        cases ok with
        | true => obtain ⟨D, d1, d2⟩ := q4 rfl; rw [hst, d2]; simp [hak]
        | false => rw [hst, q5 rfl]; rfl
      refine ⟨.mk t.kind [] K, wfT_iff.2 ⟨hht.k, by simp, by simp, by simp; omega, q1⟩, ?_, fun v h => ?_⟩
      · rw [hsome]
        exact walk _ ok (fun h => nomatch h) (fun K' a' ok' h => by cases h; exact ⟨fun h => absurd hak h, fun _ => ⟨rfl, rfl⟩⟩)
      · rw [h] at hsome
        obtain ⟨D, d1, d2⟩ := q4 hsome.symm
        rw [hst, d2] at h
        simp [hak] at h
        rw [← h, norm_mk, norm_mk, d1]
    · have hn : apE e t = none := by
        rw [hst]
        cases ok with
        | true => obtain ⟨D, d1, d2⟩ := q4 rfl; rw [d2]; simp [hak]
        | false => rw [q5 rfl]
      refine ⟨T0, wf_T0, ?_, fun v h => by rw [hn] at h; cases h⟩
      rw [hn]
      exact walk T0 false (fun h => nomatch h) (fun K' a' ok' h => by cases h; exact ⟨fun _ => ⟨rfl, rfl⟩, fun h => absurd h hak⟩)
end Go.Proofs.Ytehcobkphobjiaa

/-
  Chapter 29: what the program makes of a right edit.
-/
namespace Go.Proofs.Ytehcobkphobjiaa
set_option linter.unusedVariables false
set_option linter.unusedSimpArgs false
open Go Go.G Go.Proofs Go.PL
theorem right_one {list : Int} {y : T} (h : rightT 64 (.mk list [] [y]) = true) : ∃ d, rightT d y = true := by
  rw [rightT_mk] at h
  split at h
  · simp at h
  · split at h
    · simp at h
    · split at h
      · cases h
      · simp at h
        exact ⟨_, h.1⟩
theorem inE_right {l : List (List Int)} (hs : Sg l) : ∀ (e : E), wfE e → ∀ d : Nat, rightE d e = true → InE l e := by
  refine E.ind fun k o n ws ks li os ihK ihO hwe d hd => ?_
  have he := wfE_iff.1 hwe
  have heks := he.ks
  have heos := he.os
  simp only [E.kids_mk, E.ops_mk] at heks heos
  rw [rightE_mk] at hd
  split at hd
  · cases hd
  by_cases k1 : k = 1
  · rw [if_pos k1] at hd
    simp at hd
    exact inE_of hs hwe (fun _ => ⟨64, hd.1.1.1⟩) (fun h => by simp at h; omega) (fun h => by simp at h; omega)
  rw [if_neg k1] at hd
  split at hd
  · cases hd
  rename_i hw
  split at hd
  · cases hd
  rename_i hk
  split at hd
  · cases hd
  rename_i hl
  split at hd
  · cases hd
  rename_i ho
  simp at hd hw hk ho
  have hp2 := kidsOk_at (by omega) hk
  have hro := rightOs_all.1 ho
  have hop : ∀ x, x ∈ os → OpOk x := fun x hx => by
    have := hro x hx
    rw [rightO_eq] at this
    simp at this
    exact opOk_of this.1 (fun h3 => by
      rcases this.2 with h | h
      · exact absurd h3 h
      · exact h.1.1)
  obtain ⟨hadd, hox⟩ := ops_facts hop hd.1 hd.2
  refine inE_of hs hwe (fun h => absurd h k1) (fun h2 => ?_) (fun h3 => ?_)
  · exact inS_of hs hwe h2 hw (fun x hx => (hp2 x hx).1) (fun x hx => ihK x hx (heks x hx).2 (d - 1) (hp2 x hx).2)
  · simp only [E.kind_mk] at h3
    refine inL_of hs hwe h3 hadd (fun x hx => ⟨hop x hx, (hox x hx).2, (heos x hx).l, fun k1' y hy => ?_⟩) (fun x hx hx3 => ?_) (by simp only [E.list_mk]; omega) (by simp only [E.list_mk]; omega)
    · have := hro x hx
      rw [rightO_eq] at this
      simp [opFlat, k1'] at this
      exact right_one (this.2.1.1 y hy)
    · have := hro x hx
      rw [rightO_eq, if_pos hx3] at this
      simp at this
      exact ihO x hx (heos x hx).e (d - 1) this.2.1.2
end Go.Proofs.Ytehcobkphobjiaa

/-
  Chapter 29: the law of messages.
-/
namespace Go.Proofs.Ytehcobkphobjiaa
set_option linter.unusedVariables false
set_option linter.unusedSimpArgs false
open Go Go.G Go.Proofs Go.PL
theorem root29_spec {l : List (List Int)} (hs : Sg l) (hl : l.length * 24 ≤ 140737488355328) : G.Spec Try.prog 51 [sgs l] (paX l (atP l 0 0).1) := by
  refine spec_of t_centolaw29_root (by simp) fun w0 I0 => ?_
  unfold c_centolaw29_root
  simp
  refine sc_call (of_spec l hl hs.b) rfl ?_
  simp
  refine sc_call (root_spec hs) rfl ?_
  simp
  exact frz_bare (by simp)
theorem soft_ws29 : ∀ l : List (List Int), A.softL (l.map ws) = l.map ws
  | [] => by simp [A.softL]
  | x :: l => by simp [A.softL, A.soft, ws, soft_uv, soft_ws29 l]
theorem soft_arO (l : List (List Int)) (r : Rf) : (arO l r).soft = arO l r := by unfold arO; split <;> simp [A.soft, A.softL, soft_ws29]
theorem awake29_spec : G.Spec Try.prog 49 [] (bv true) := by
  have m1 := unfold_means sg1 (a := 64) (b := 3000) (by rw [unf1])
  rw [unf1] at m1
  have hs0 := inEdit_spec (inE_same sg1) m1
  have hw1 : wfE (.mk 1 T0 T0 [] [] 0 []) := wfE_iff.2 ⟨by simp [i64R], by simp [i64R], wf_T0, wf_T0, by simp, by simp, by simp, by simp, by simp, by simp⟩
  have hs1 := inEdit_spec (inE_of sg1 hw1 (fun _ => ⟨64, by simp [rightT_mk]⟩) (fun h => by simp at h) (fun h => by simp at h)) m1
  have a0 : apE E0 (.mk 1 [7] []) = some (.mk 1 [7] []) := by
    rw [show E0 = E.mk 0 T0 T0 [] [] 0 [] from rfl, apE_mk, stepE, if_pos rfl]
    simp [norm_mk, trimW, trimK]
  have a1 : apE (.mk 1 T0 T0 [] [] 0 []) (.mk 1 [7] []) = none := by
    have h : eqT T0 (.mk 1 [7] []) = false := by
      rw [Bool.eq_false_iff]
      intro h
      have := eqT_iff.1 h
      simp [norm_mk, trimW, trimK] at this
    rw [apE_mk, stepE, if_neg (by decide), if_pos rfl, h]
    rfl
  rw [a0] at hs0
  rw [a1] at hs1
  refine spec_of t_centolaw29_awake (by simp) fun w0 I0 => ?_
  unfold c_centolaw29_awake
  simp
  refine sc_call ((root29_spec sg1 (by simp)).soft (by simp [A.softL, A.soft])) rfl ?_
  simp
  refine sc_call (hs1.soft (by simp [A.softL, A.soft, soft_arO])) rfl ?_
  simp
  refine sc_call (hs0.soft (by simp [A.softL, A.soft, soft_arO])) rfl ?_
  simp
  exact frz_bool rfl
theorem InapplyMessages_spec {e : E} (hwe : wfE e) {l : List (List Int)} (hs : Sg l) (hl : l.length * 24 ≤ 140737488355328) (a b c d : Int) : G.Spec Try.prog 9 [eX e, sgs l, liX a b c d] (bv true) := by
  refine spec_of t_centolaw29_InapplyMessages (by simp) fun w0 I0 => ?_
  unfold c_centolaw29_InapplyMessages
  simp
  refine sc_call (light_spec a b c d) rfl ?_
  simp [updF_app]
  refine sc_call (unfold_spec hs a (lightZ b) c d) rfl ?_
  have hl' := unfold_means hs (a := a) (b := lightZ b)
  generalize unfP l a (lightZ b) = x at hl'
  obtain ⟨t, w, f⟩ := x
  simp only at hl'
  by_cases hf : f = 0
  rotate_left
  · simp [hf, updF_app]
    refine sc_call_off rfl ?_
    simp
    refine sc_call awake29_spec rfl ?_
    simp
    exact frz_bool rfl
  subst hf
  have hm := hl' rfl
  have hwt : wfT t := means_wf hs _ _ hm
  simp [updF_app]
  refine sc_call_gf rfl (fun _ => good_spec hwe) (fun _ => by simp) (by simp) ?_
  cases hg : goodE e with
  | false =>
    simp
    refine sc_call awake29_spec rfl ?_
    simp
    exact frz_bool rfl
  | true =>
    have hr : rightE 64 e = true := by
      simp [goodE] at hg
      exact hg.1.2
    obtain ⟨hR, hRw⟩ := refS_right e hwe 64 hr t hwt
    have hE := inEdit_spec (inE_right hs e hwe 64 hr) hm
    simp
    refine sc_call (root29_spec hs hl) (by simp) ?_
    simp [updF_app]
    refine sc_call hE (by simp) ?_
    cases hv : apE e t with
    | none =>
      rw [hv] at hR
      simp [updF_app]
      refine sc_call hR (by simp) ?_
      simp [updF_app]
      refine sc_call_gt rfl (fun _ => rTSame_spec T0 wf_T0 T0) (fun _ => by simp) (by simp) ?_
      rw [show sameB T0 T0 = true from sameB_iff.2 rfl]
      simp
      refine sc_call_gt rfl (fun _ => awake29_spec) (fun _ => by simp) (by simp) ?_
      simp
      exact frz_bool rfl
    | some v =>
      have hwv := hRw v hv
      rw [hv] at hR
      simp [updF_app]
      refine sc_call hR (by simp) ?_
      simp [updF_app]
      refine sc_call_gt rfl (fun _ => rTSame_spec v hwv v) (fun _ => by simp) (by simp) ?_
      rw [show sameB v v = true from sameB_iff.2 rfl]
      simp
      refine sc_call_gt rfl (fun _ => awake29_spec) (fun _ => by simp) (by simp) ?_
      simp
      exact frz_bool rfl
end Go.Proofs.Ytehcobkphobjiaa

/-
  Chapter 15: each law, whatever its arguments hold.
-/
namespace Go.Proofs.Ytehcobkphobjiaa
set_option linter.unusedVariables false
set_option linter.unusedSimpArgs false
open Go Go.G Go.Proofs Go.RowKit
theorem lit15_u {m : Int} (h : (Lit.int .u64 m).wf = true) : 0 ≤ m ∧ m < 18446744073709551616 := by
  simp [Lit.wf, IntKind.min, IntKind.max, IntKind.bits, IntKind.signed] at h
  omega
theorem und15_i : Try.prog.underlying 3 = some (.int .i64) := by kernel_rfl
theorem und15_u : Try.prog.underlying 26 = some (.int .u64) := by kernel_rfl
theorem und15_w : Try.prog.underlying 23 = some (.slice 26) := by kernel_rfl
theorem und15_s : Try.prog.underlying 22 = some (.slice 23) := by kernel_rfl
theorem byt15_u : Try.prog.bytesOf 26 = 8 := by kernel_rfl
theorem byt15_w : Try.prog.bytesOf 23 = 24 := by kernel_rfl
theorem has15_u64 {n : Nat} {b : List A} (h : Has Try.prog n 26 b) : ∃ m, 0 ≤ m ∧ m < 18446744073709551616 ∧ mk Try.prog 26 b = uv m := by
  cases n with
  | zero => exact h.elim
  | succ n =>
    simp only [Has, und15_u] at h
    obtain ⟨m, hm, rfl⟩ := h
    obtain ⟨h1, h2⟩ := lit15_u hm
    exact ⟨m, h1, h2, by simp [mk, und15_u]⟩
theorem list15_map {α : Type} {xs : List A} {g : α → A} {R : α → Prop} (h : ∀ x, x ∈ xs → ∃ y, R y ∧ x = g y) : ∃ l : List α, xs = l.map g ∧ ∀ y, y ∈ l → R y := by
  induction xs with
  | nil => exact ⟨[], rfl, fun y h => nomatch h⟩
  | cons x xs ih =>
    obtain ⟨y, hy, rfl⟩ := h x (by simp)
    obtain ⟨l, rfl, hl⟩ := ih fun z hz => h z (by simp [hz])
    refine ⟨y :: l, rfl, fun z hz => ?_⟩
    rcases List.mem_cons.1 hz with rfl | hz
    · exact hy
    · exact hl z hz
set_option maxRecDepth 100000 in
theorem has15_words {n : Nat} {b : List A} (h : Has Try.prog n 23 b) : ∃ f, ∃ l : List Int, mk Try.prog 23 b = .sl f (l.map uv) ∧ l.length * 8 ≤ 140737488355328 ∧ ∀ y, y ∈ l → 0 ≤ y ∧ y < 18446744073709551616 := by
  cases n with
  | zero => exact h.elim
  | succ n =>
    simp only [Has, und15_w] at h
    obtain ⟨f, xs, rfl, _, hz, hf, hx⟩ := h
    rw [byt15_u] at hz
    obtain ⟨l, rfl, hl⟩ := list15_map (g := uv) (R := fun y => 0 ≤ y ∧ y < 18446744073709551616) (xs := xs) fun x hx' => by
      obtain ⟨b, hb, rfl⟩ := hx x hx'
      obtain ⟨m, h0, h1, e⟩ := has15_u64 hb
      exact ⟨m, ⟨h0, h1⟩, e⟩
    exact ⟨f, l, by simp [mk, und15_w], by simp [reachBytes] at hz; omega, hl⟩
set_option maxRecDepth 100000 in
theorem has15_segs {n : Nat} {b : List A} (h : Has Try.prog n 22 b) : ∃ (f : Bool) (xs : List A) (l : List (List Int)), mk Try.prog 22 b = .sl f xs ∧ A.soft (.sl f xs) = sgs l ∧ l.length * 24 ≤ 140737488355328 ∧ Sg l := by
  cases n with
  | zero => exact h.elim
  | succ n =>
    simp only [Has, und15_s] at h
    obtain ⟨f, xs, rfl, _, hz, hf, hx⟩ := h
    rw [byt15_w] at hz
    obtain ⟨l, rfl, hl⟩ := list15_map (g := fun p : Bool × List Int => .sl p.1 (p.2.map uv)) (R := fun p => p.2.length * 8 ≤ 140737488355328 ∧ ∀ y, y ∈ p.2 → 0 ≤ y ∧ y < 18446744073709551616) (xs := xs) fun x hx' => by
      obtain ⟨b, hb, rfl⟩ := hx x hx'
      obtain ⟨f, l, e, h0, h1⟩ := has15_words hb
      exact ⟨(f, l), ⟨h0, h1⟩, e⟩
    have key : ∀ x, x ∈ l.map Prod.snd → x.length * 8 ≤ 140737488355328 ∧ ∀ y, y ∈ x → 0 ≤ y ∧ y < 18446744073709551616 := fun x hx => by
      obtain ⟨p, hp, rfl⟩ := List.mem_map.1 hx
      exact hl p hp
    refine ⟨f, l.map (fun p : Bool × List Int => .sl p.1 (p.2.map uv)), l.map Prod.snd, by simp [mk, und15_s], ?_, by simp [reachBytes] at hz; simpa using (by omega), ⟨fun x hx => (key x hx).1, fun x hx => (key x hx).2⟩⟩
    simp [A.soft, softL_map, Function.comp_def, sgs, ws]
theorem has15_lim {n : Nat} {b : List A} (hb : Has Try.prog n 60 b) : ∃ p q r s : Int, mk Try.prog 60 b = liX p q r s := by
  cases n with
  | zero => exact hb.elim
  | succ n =>
    have u : Try.prog.underlying 60 = some (.struct ((Try.prog.fieldsOf 60))) := by kernel_rfl
    unfold Has at hb
    rw [u] at hb
    have e : (Try.prog.fieldsOf 60).toList.map Field.type = [3, 3, 3, 3] := by kernel_rfl
    simp only at hb
    rw [hasL_types, e] at hb
    cases n with
    | zero => obtain ⟨a, b, rfl, h, _⟩ := hb; exact h.elim
    | succ n =>
      simp only [HasT, Has, und15_i] at hb
      obtain ⟨_, _, rfl, ⟨k1, _, rfl⟩, _, _, rfl, ⟨k2, _, rfl⟩, _, _, rfl, ⟨k3, _, rfl⟩, _, _, rfl, ⟨k4, _, rfl⟩, rfl⟩ := hb
      exact ⟨k1, k2, k3, k4, by simp [mk, u]⟩
end Go.Proofs.Ytehcobkphobjiaa

/-
  What an argument holds: trees and edits out of readings.
-/
namespace Go.Proofs.Ytehcobkphobjiaa
set_option linter.unusedVariables false
set_option linter.unusedSimpArgs false
open Go Go.G Go.Proofs Go.PL Go.RowKit
theorem lit_i64 {m : Int} (h : (Lit.int .i64 m).wf = true) : i64R m := by
  simp [Lit.wf, IntKind.min, IntKind.max, IntKind.bits, IntKind.signed] at h
  unfold i64R; omega
theorem lit_u64 {m : Int} (h : (Lit.int .u64 m).wf = true) : u64R m := by
  simp [Lit.wf, IntKind.min, IntKind.max, IntKind.bits, IntKind.signed] at h
  unfold u64R; omega
theorem lit_u8 {m : Int} (h : (Lit.int .u8 m).wf = true) : 0 ≤ m ∧ m < 256 := by
  simp [Lit.wf, IntKind.min, IntKind.max, IntKind.bits, IntKind.signed] at h
  omega
theorem und_int' : Try.prog.underlying 3 = some (.int .i64) := by kernel_rfl
theorem und_u64' : Try.prog.underlying 26 = some (.int .u64) := by kernel_rfl
theorem hasI {n : Nat} {b : List A} (h : Has Try.prog n 3 b) : ∃ m, i64R m ∧ b = [iv m] := by
  cases n with
  | zero => exact h.elim
  | succ n =>
    unfold Has at h
    rw [und_int'] at h
    obtain ⟨m, hm, rfl⟩ := h
    exact ⟨m, lit_i64 hm, rfl⟩
theorem hasU {n : Nat} {b : List A} (h : Has Try.prog n 26 b) : ∃ m, u64R m ∧ b = [uv m] := by
  cases n with
  | zero => exact h.elim
  | succ n =>
    unfold Has at h
    rw [und_u64'] at h
    obtain ⟨m, hm, rfl⟩ := h
    exact ⟨m, lit_u64 hm, rfl⟩
theorem rowOf {α : Type} {xs : List A} {g : α → A} {R : α → Prop} (h : ∀ x, x ∈ xs → ∃ y, R y ∧ x.soft = g y) : ∃ l : List α, A.softL xs = l.map g ∧ l.length = xs.length ∧ ∀ y, y ∈ l → R y := by
  induction xs with
  | nil => exact ⟨[], rfl, rfl, fun y h => nomatch h⟩
  | cons x xs ih =>
    obtain ⟨y, hy, e⟩ := h x (by simp)
    obtain ⟨l, e2, e3, hl⟩ := ih fun z hz => h z (by simp [hz])
    refine ⟨y :: l, by simp [A.softL, e, e2], by simp [e3], fun z hz => ?_⟩
    rcases List.mem_cons.1 hz with rfl | hz
    · exact hy
    · exact hl z hz
theorem hasSl {P : Program} {t e : TypeId} {m : Nat} (u : P.underlying t = some (.slice e)) (hb : P.bytesOf e = m) {n : Nat} {b : List A} (h : Has P n t b) {α : Type} {g : α → A} {R : α → Prop} (hx : ∀ k b, k < n → Has P k e b → ∃ y, R y ∧ (mk P e b).soft = g y) :
    ∃ (f : Bool) (xs : List A) (l : List α), b = [.sl f xs] ∧ A.softL xs = l.map g ∧ l.length * m ≤ 140737488355328 ∧ ∀ y, y ∈ l → R y := by
  cases n with
  | zero => exact h.elim
  | succ n =>
    unfold Has at h
    rw [u] at h
    obtain ⟨f, xs, rfl, _, hz, hf, hx'⟩ := h
    rw [hb] at hz
    obtain ⟨l, e1, e2, hl⟩ := rowOf (g := g) (R := R) (xs := xs) fun x hxx => by
      obtain ⟨b, hb', rfl⟩ := hx' x hxx
      exact hx n b (by omega) hb'
    exact ⟨f, xs, l, rfl, e1, by rw [e2]; exact Nat.le_trans hz (by decide), hl⟩
theorem mk_u64 (b : List A) : mk Try.prog 26 b = b.headD .any := by unfold mk; rw [und_u64']
theorem hasWs {n : Nat} {b : List A} (h : Has Try.prog n 23 b) : ∃ (f : Bool) (xs : List A) (l : List Int), b = [.sl f xs] ∧ A.softL xs = l.map uv ∧ l.length * 8 ≤ 140737488355328 ∧ ∀ y, y ∈ l → u64R y :=
  hasSl (e := 26) (by kernel_rfl) (by kernel_rfl) h fun k b _ hb => by
    obtain ⟨m, h1, rfl⟩ := hasU hb
    exact ⟨m, h1, by rw [mk_u64]; rfl⟩
theorem und_tree : Try.prog.underlying 53 = some (.struct (Try.prog.fieldsOf 53)) := by kernel_rfl
theorem fld_tree : (Try.prog.fieldsOf 53).toList.map Field.type = [3, 23, 51] := by kernel_rfl
theorem mk_tree (b : List A) : mk Try.prog 53 b = .agg b := by unfold mk; rw [und_tree]
theorem hasTree : ∀ (n : Nat) (b : List A), Has Try.prog n 53 b → ∃ t, wfT t ∧ A.softL b = [iv t.kind, uws t.words, tKs t.kids] := by
  intro n
  induction n using Nat.strongRecOn with
  | ind n ih =>
    intro b h
    cases n with
    | zero => exact h.elim
    | succ n =>
      unfold Has at h
      rw [und_tree] at h
      simp only at h
      rw [hasL_types, fld_tree] at h
      obtain ⟨_, _, rfl, h1, _, _, rfl, h2, _, _, rfl, h3, rfl⟩ := h
      obtain ⟨k, hk, rfl⟩ := hasI h1
      obtain ⟨f, xs, w, rfl, e2, l2, r2⟩ := hasWs h2
      obtain ⟨f3, ys, l, rfl, e3, l3, r3⟩ := hasSl (m := 56) (e := 53) (g := tA) (R := wfT) (by kernel_rfl) (by kernel_rfl) h3 fun j b hj hb => by
        obtain ⟨t, ht, e⟩ := ih j (by omega) b hb
        exact ⟨t, ht, by rw [mk_tree]; simp only [A.soft, e]; rw [tA_eq]⟩
      refine ⟨.mk k w l, wfT_iff.2 ⟨hk, r2, l2, l3, r3⟩, ?_⟩
      simp only [List.cons_append, List.nil_append, List.append_nil, A.softL, A.soft, e2, e3]
      rfl
theorem hasTrees {n : Nat} {b : List A} (h : Has Try.prog n 51 b) : ∃ (f : Bool) (xs : List A) (l : List T), b = [.sl f xs] ∧ A.softL xs = l.map tA ∧ l.length * 56 ≤ 140737488355328 ∧ ∀ y, y ∈ l → wfT y :=
  hasSl (e := 53) (by kernel_rfl) (by kernel_rfl) h fun k b _ hb => by
    obtain ⟨t, h1, e⟩ := hasTree k b hb
    exact ⟨t, h1, by rw [mk_tree]; simp only [A.soft, e]; rw [tA_eq]⟩
end Go.Proofs.Ytehcobkphobjiaa

/-
  What an argument holds: edits out of readings.
-/
namespace Go.Proofs.Ytehcobkphobjiaa
set_option linter.unusedVariables false
set_option linter.unusedSimpArgs false
open Go Go.G Go.Proofs Go.PL Go.RowKit
theorem softL_app : ∀ (a b : List A), A.softL (a ++ b) = A.softL a ++ A.softL b
  | [], b => by simp [A.softL]
  | x :: a, b => by simp [A.softL, softL_app a b]
theorem und_we : Try.prog.underlying 196 = some (.struct (Try.prog.fieldsOf 196)) := by kernel_rfl
theorem fld_we : (Try.prog.fieldsOf 196).toList.map Field.type = [3, 5, 26, 26] := by kernel_rfl
theorem mk_we (b : List A) : mk Try.prog 196 b = .agg b := by unfold mk; rw [und_we]
theorem hasB8 {n : Nat} {b : List A} (h : Has Try.prog n 5 b) : ∃ m, (0 ≤ m ∧ m < 256) ∧ b = [u8 m] := by
  cases n with
  | zero => exact h.elim
  | succ n =>
    have u : Try.prog.underlying 5 = some (.int .u8) := by kernel_rfl
    unfold Has at h
    rw [u] at h
    obtain ⟨m, hm, rfl⟩ := h
    exact ⟨m, lit_u8 hm, rfl⟩
theorem hasWE {n : Nat} {b : List A} (h : Has Try.prog n 196 b) : ∃ w : WE, WE.wf w ∧ (mk Try.prog 196 b).soft = wA w := by
  cases n with
  | zero => exact h.elim
  | succ n =>
    unfold Has at h
    rw [und_we] at h
    simp only at h
    rw [hasL_types, fld_we] at h
    obtain ⟨_, _, rfl, h1, _, _, rfl, h2, _, _, rfl, h3, _, _, rfl, h4, rfl⟩ := h
    obtain ⟨a, ha, rfl⟩ := hasI h1
    obtain ⟨m, hm, rfl⟩ := hasB8 h2
    obtain ⟨o, ho, rfl⟩ := hasU h3
    obtain ⟨w, hw, rfl⟩ := hasU h4
    exact ⟨⟨a, m, o, w⟩, ⟨ha, hm, ho, hw⟩, by rw [mk_we]; rfl⟩
theorem und_e : Try.prog.underlying 94 = some (.struct (Try.prog.fieldsOf 94)) := by kernel_rfl
theorem fld_e : (Try.prog.fieldsOf 94).toList.map Field.type = [3, 53, 53, 90, 91, 3, 92] := by kernel_rfl
theorem mk_e (b : List A) : mk Try.prog 94 b = .agg b := by unfold mk; rw [und_e]
theorem und_ke : Try.prog.underlying 199 = some (.struct (Try.prog.fieldsOf 199)) := by kernel_rfl
theorem fld_ke : (Try.prog.fieldsOf 199).toList.map Field.type = [3, 94] := by kernel_rfl
theorem mk_ke (b : List A) : mk Try.prog 199 b = .agg b := by unfold mk; rw [und_ke]
theorem und_op : Try.prog.underlying 202 = some (.struct (Try.prog.fieldsOf 202)) := by kernel_rfl
theorem fld_op : (Try.prog.fieldsOf 202).toList.map Field.type = [3, 3, 51, 94] := by kernel_rfl
theorem mk_op (b : List A) : mk Try.prog 202 b = .agg b := by unfold mk; rw [und_op]
theorem hasEdit : ∀ (n : Nat) (b : List A), Has Try.prog n 94 b → ∃ e, wfE e ∧ A.softL b = eL e := by
  intro n
  induction n using Nat.strongRecOn with
  | ind n ih =>
    intro b h
    cases n with
    | zero => exact h.elim
    | succ n =>
      unfold Has at h
      rw [und_e] at h
      simp only at h
      rw [hasL_types, fld_e] at h
      obtain ⟨_, _, rfl, h1, _, _, rfl, h2, _, _, rfl, h3, _, _, rfl, h4, _, _, rfl, h5, _, _, rfl, h6, _, _, rfl, h7, rfl⟩ := h
      obtain ⟨k, hk, rfl⟩ := hasI h1
      obtain ⟨o, ho, e2⟩ := hasTree _ _ h2
      obtain ⟨nn, hn, e3⟩ := hasTree _ _ h3
      obtain ⟨f4, x4, ws, rfl, e4, l4, r4⟩ := hasSl (m := 32) (e := 196) (g := wA) (R := WE.wf) (by kernel_rfl) (by kernel_rfl) h4 fun j b hj hb => hasWE hb
      obtain ⟨f5, x5, ks, rfl, e5, l5, r5⟩ := hasSl (m := 208) (e := 199) (g := kA) (R := fun x => i64R x.at_ ∧ wfE x.e) (by kernel_rfl) (by kernel_rfl) h5 fun j b hj hb => by
        cases j with
        | zero => exact hb.elim
        | succ j =>
          unfold Has at hb
          rw [und_ke] at hb
          simp only at hb
          rw [hasL_types, fld_ke] at hb
          obtain ⟨_, _, rfl, g1, _, _, rfl, g2, rfl⟩ := hb
          obtain ⟨a, ha, rfl⟩ := hasI g1
          obtain ⟨e, he, ee⟩ := ih j (by omega) _ g2
          refine ⟨.mk a e, ⟨ha, he⟩, ?_⟩
          rw [mk_ke, kA_eq]
          simp only [A.soft, List.cons_append, List.nil_append, List.append_nil, A.softL, ee]
          rfl
      obtain ⟨l, hl, rfl⟩ := hasI h6
      obtain ⟨f7, x7, os, rfl, e7, l7, r7⟩ := hasSl (m := 240) (e := 202) (g := oA) (R := WfO) (by kernel_rfl) (by kernel_rfl) h7 fun j b hj hb => by
        cases j with
        | zero => exact hb.elim
        | succ j =>
          unfold Has at hb
          rw [und_op] at hb
          simp only at hb
          rw [hasL_types, fld_op] at hb
          obtain ⟨_, _, rfl, g1, _, _, rfl, g2, _, _, rfl, g3, _, _, rfl, g4, rfl⟩ := hb
          obtain ⟨k, hk, rfl⟩ := hasI g1
          obtain ⟨m, hm, rfl⟩ := hasI g2
          obtain ⟨f, xs, tl, rfl, et, lt, rt⟩ := hasTrees g3
          obtain ⟨e, he, ee⟩ := ih j (by omega) _ g4
          refine ⟨.mk k m tl e, ⟨hk, hm, rt, lt, he⟩, ?_⟩
          rw [mk_op, oA_eq]
          simp only [A.soft, List.cons_append, List.nil_append, List.append_nil, A.softL, ee, et]
          rfl
      refine ⟨.mk k o nn ws ks l os, wfE_iff.2 ⟨hk, hl, ho, hn, r4, l4, l5, l7, r5, r7⟩, ?_⟩
      simp only [List.cons_append, List.nil_append, List.append_nil, A.softL, A.soft, softL_app, e2, e3, e4, e5, e7]
      rfl
end Go.Proofs.Ytehcobkphobjiaa

/-
  Chapter 29: the law, whatever its arguments hold.
-/
namespace Go.Proofs.Ytehcobkphobjiaa
set_option linter.unusedVariables false
set_option linter.unusedSimpArgs false
open Go Go.G Go.Proofs Go.PL Go.RowKit
set_option maxRecDepth 100000 in
theorem said_inapplyMessages (xs : List A) (h : ArgsHas Try.prog Try.f9.params.toList xs) : G.Spec Try.prog 9 xs (.v (.bool true)) := by
  have h : ArgsHas Try.prog [94, 22, 60] xs := h
  match xs, h with
  | [a, a', a3], ⟨⟨n, b, h1, h2⟩, ⟨n', b', h1', h2'⟩, ⟨n3, b3, h13, h23⟩, _⟩ =>
    obtain ⟨e, he, ee⟩ := hasEdit _ _ h1
    obtain ⟨f, xs, l, ea, ea', k1, k2⟩ := has15_segs h1'
    obtain ⟨p, q, r, s, e3⟩ := has15_lim h13
    rw [h2, h2', h23, mk_e, ea, e3]
    exact (InapplyMessages_spec he k2 k1 p q r s).soft (by simp only [A.softL, A.soft, ee] at ea' ⊢; rw [ea'])
end Go.Proofs.Ytehcobkphobjiaa
