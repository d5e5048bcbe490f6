/-
  The document's edits: parts, lengths.
-/
import Derived.Test.YtigdcnlhgelkaaaD07d
import Derived.Test.YtigdcnlhgelkaaaGFns39
namespace Go.Proofs.Ytigdcnlhgelkaaa
set_option linter.unusedVariables false
set_option linter.unusedSimpArgs false
open Go Go.G Go.Proofs Go.PL

theorem none_spec (t : T) (hw : t.words.length * 8 ≤ 140737488355328) (hk : t.kids.length * 56 ≤ 140737488355328) : G.Spec Try.prog 80 [tX t] (bv (noneT t)) := by
  refine spec_of t_centoref20_none (by simp) fun w0 I0 => ?_
  unfold c_centoref20_none
  simp
  have e : IntKind.i64.wrap ((t.words.length : Int) + t.kids.length) = (t.words.length : Int) + t.kids.length := i64_same (by omega) (by omega)
  simp [e]
  refine frz_bool ?_
  rw [Bool.eq_iff_iff]
  simp [noneT, List.isEmpty_iff, ← List.length_eq_zero_iff]
  omega
theorem none_spec' {t : T} (h : wfT t) : G.Spec Try.prog 80 [tX t] (bv (noneT t)) := none_spec t (wfT_iff.1 h).wl (wfT_iff.1 h).kl

theorem bytesN_get : ∀ (m : Nat) (x : Int) (i : Nat), i < m → (bytesN m x).getD i 0 = x / 256 ^ i % 256
  | m + 1, x, 0, _ => by simp [bytesN]
  | m + 1, x, i + 1, h => by
    have := bytesN_get m (x / 256) i (by omega)
    simp only [bytesN, List.getD_cons_succ, this]
    rw [Int.ediv_ediv_of_nonneg (by decide), ← Int.pow_succ']
theorem ofZ_zero : ∀ (l : List Int), (∀ b, b ∈ l → 0 ≤ b ∧ b < 256) → (ofZ l = 0 ↔ ∀ b, b ∈ l → b = 0)
  | [], _ => by simp [ofZ]
  | b :: l, h => by
    have h1 := h b (by simp)
    have h2 := ofZ_range l fun x hx => h x (by simp [hx])
    have ih := ofZ_zero l fun x hx => h x (by simp [hx])
    simp only [ofZ, List.mem_cons, forall_eq_or_imp, ← ih]
    omega
theorem mix_zero (w mask : Int) : decide (mixZ w 0 mask = 0) = withinZ w mask := by
  rw [Bool.eq_iff_iff]
  unfold mixZ
  rw [decide_eq_true_eq, ofZ_zero _ mixL_range]
  have e : mixL (bytesZ w) (bytesZ 0) mask 8 = (List.range 8).map fun i => if namedZ mask i = true then (bytesZ 0).getD i 0 else (bytesZ w).getD i 0 := by
    unfold mixL
    rw [List.drop_of_length_le (by rw [bytesZ_length]; omega), List.append_nil]
  rw [e]
  simp only [withinZ, List.all_eq_true, List.mem_map, List.mem_range, Bool.or_eq_true, decide_eq_true_eq]
  have hz : ∀ i, i < 8 → (bytesZ 0).getD i 0 = 0 := fun i hi => by
    unfold bytesZ
    rw [bytesN_get 8 0 i hi]; simp
  constructor
  · intro h i hi
    by_cases hn : namedZ mask i = true
    · left; simpa [namedZ] using hn
    · right
      have := h _ ⟨i, hi, rfl⟩
      rw [if_neg hn] at this
      unfold bytesZ at this
      rwa [bytesN_get 8 w i hi] at this
  · rintro h b ⟨i, hi, rfl⟩
    by_cases hn : namedZ mask i = true
    · rw [if_pos hn]; exact hz i hi
    · rw [if_neg hn]
      rcases h i hi with h | h
      · exact absurd (by simpa [namedZ] using h) hn
      · unfold bytesZ
        rw [bytesN_get 8 w i hi]; exact h
theorem within_spec' {w mask : Int} (h : u64R w) (h0 : 0 ≤ mask) (h1 : mask < 256) : G.Spec Try.prog 81 [uv w, u8 mask] (bv (withinZ w mask)) := by
  refine spec_of t_centoref20_within (by simp) fun w0 I0 => ?_
  unfold c_centoref20_within
  simp
  refine sc_call (rMix_spec h ⟨by omega, by omega⟩ h0 h1) rfl ?_
  simp
  exact frz_bool (mix_zero w mask)

set_option maxRecDepth 8000 in
theorem same_spec {e : E} (h : WfE e) : G.Spec Try.prog 116 [eX e] (bv (sameE e)) := by
  have hwl := h.wl
  have hkl := h.kl
  have hol := h.ol
  refine spec_of t_centoref20_same (by simp) fun w0 I0 => ?_
  unfold c_centoref20_same
  simp
  refine sc_call_gt rfl (fun _ => none_spec' h.o) (fun e => by simp [e]) rfl ?_
  simp
  refine sc_call_gt rfl (fun _ => none_spec' h.n) (fun e => by simp at e; simp [e]) rfl ?_
  have e1 : IntKind.i64.wrap ((e.words.length : Int) + e.kids.length) = (e.words.length : Int) + e.kids.length := i64_same (by omega) (by omega)
  have e2 : IntKind.i64.wrap ((e.words.length : Int) + e.kids.length + e.ops.length) = (e.words.length : Int) + e.kids.length + e.ops.length := i64_same (by omega) (by omega)
  simp [e1, e2]
  refine frz_bool ?_
  rw [Bool.eq_iff_iff]
  simp [sameE, List.isEmpty_iff, ← List.length_eq_zero_iff]
  omega

/-! ### lengths -/
theorem sat_range {n : Int} (h : 0 ≤ n) : 0 ≤ sat n ∧ sat n ≤ 1048576 := by unfold sat; split <;> omega
section
variable {n0 : Nat} {w0 : World} {I0 : Nat → Prop} {Q : Exit → Sta → Prop}
theorem len_k1 {Q' : Exit → Sta → Prop} {p i : A} {x y : Int} {H : Hp} (h : ∀ l, Q' .normal ⟨lk ((1, p) :: (4, iv (sat x)) :: (5, iv (sat y)) :: (6, i) :: l), H⟩) : WPC (cx Try.prog w0 I0 n0) k1_centoref20_Lengths Q' ⟨lk [(1, p), (4, iv x), (5, iv y), (6, i)], H⟩ := by
  rw [k1_centoref20_Lengths.eq_1]
  have h0 := h []
  have h1 := h [(45, bv false)]
  by_cases hx : 1048576 < x <;> by_cases hy : 1048576 < y <;> simp [hx, hy] <;> first
    | (simpa [sat, hx, hy] using h0)
    | (simpa [sat, hx, hy] using h1)
theorem len_k3 {Q' : Exit → Sta → Prop} {p i : A} {a b z : Int} {H : Hp} {o : OP} {u : Nat} (hz : z = opLen o) (a0 : 0 ≤ a) (a1 : a ≤ 1048576) (b0 : 0 ≤ b) (b1 : b ≤ 1048576) (z0 : 0 ≤ z) (z1 : z < 100000000000000) (hO : H [1] = ⟨u, .cells (iv o.kind :: iv o.n :: tKs o.l :: eL o.e)⟩)
    (h : ∀ l, Q' .normal ⟨lk ((1, p) :: (4, iv (sat (if o.kind ≠ 2 then a + opLen o else a))) :: (5, iv (sat (if o.kind ≠ 1 then b + opLen o else b))) :: (6, i) :: l), H⟩) : WPC (cx Try.prog w0 I0 n0) k3_centoref20_Lengths Q' ⟨lk [(1, p), (4, iv a), (5, iv b), (6, i), (7, .pob [1] u 0), (8, iv z)], H⟩ := by
  subst hz
  rw [k3_centoref20_Lengths.eq_1]
  have ea : IntKind.i64.wrap (a + opLen o) = a + opLen o := i64_same (by omega) (by omega)
  have eb : IntKind.i64.wrap (b + opLen o) = b + opLen o := i64_same (by omega) (by omega)
  by_cases h2 : o.kind = 2
  · simp [hO, h2]
    rw [k2_centoref20_Lengths.eq_1]
    simp [hO, h2, eb]
    refine len_k1 fun l => ?_
    simpa [h2] using h l
  · by_cases h1 : o.kind = 1
    · simp [hO, h1, ea]
      rw [k2_centoref20_Lengths.eq_1]
      simp [hO, h1]
      refine len_k1 fun l => ?_
      simpa [h1] using h l
    · simp [hO, h2, ea]
      rw [k2_centoref20_Lengths.eq_1]
      simp [hO, h1, eb]
      refine len_k1 fun l => ?_
      simpa [h1, h2] using h l
theorem lengths_l1 {e : E} (hl : e.ops.length * 240 ≤ 140737488355328) (ho : ∀ x, x ∈ e.ops → 0 ≤ x.n ∧ x.n ≤ 1048576 ∧ x.l.length * 56 ≤ 140737488355328) : ∀ (m i : Nat) (a b : Int) (H : Hp), i + m = e.ops.length → H [0] = ⟨1, .cells (eL e)⟩ → 0 ≤ a → a ≤ 1048576 → 0 ≤ b → b ≤ 1048576 →
    (∀ i' q H', Q (.exit 0) ⟨lk [(1, .pob [0] 1 0), (4, iv (lengths a b (e.ops.drop i)).1), (5, iv (lengths a b (e.ops.drop i)).2), (6, iv i'), (13, bv q)], H'⟩) →
    LoopC (cx Try.prog w0 I0 n0) l1_centoref20_Lengths Q ⟨lk [(1, .pob [0] 1 0), (4, iv a), (5, iv b), (6, iv i)], H⟩ := by
  intro m
  induction m with
  | zero =>
    intro i a b H hi hA a0 a1 b0 b1 hq
    have : i = e.ops.length := by omega
    subst this
    refine loopC_once mixed l1_centoref20_Lengths.eq_1 ?_
    simp [hA]
    simpa [lengths] using hq e.ops.length false H
  | succ m ih =>
    intro i a b H hi hA a0 a1 b0 b1 hq
    have hlt : i < e.ops.length := by omega
    have ed : e.ops.drop i = e.ops[i] :: e.ops.drop (i + 1) := List.drop_eq_getElem_cons hlt
    have ei : IntKind.i64.wrap ((i : Int) + 1) = ((i + 1 : Nat) : Int) := i64_same (by omega) (by omega)
    obtain ⟨n1, n2, n3⟩ := ho _ (List.getElem_mem hlt)
    rw [ed] at hq
    generalize ho' : e.ops[i] = o at *
    have h0 : 0 ≤ opLen o ∧ opLen o < 100000000000000 := by unfold opLen; split <;> omega
    have next : ∀ (a' b' : Int) H', H' [0] = ⟨1, .cells (eL e)⟩ → a' = sat (if o.kind ≠ 2 then a + opLen o else a) → b' = sat (if o.kind ≠ 1 then b + opLen o else b) → LoopC (cx Try.prog w0 I0 n0) l1_centoref20_Lengths Q ⟨lk [(1, .pob [0] 1 0), (4, iv a'), (5, iv b'), (6, iv ((i + 1 : Nat) : Int))], H'⟩ := fun a' b' H' hA' ha hb => by
      have s1 := sat_range (n := if o.kind ≠ 2 then a + opLen o else a) (by split <;> omega)
      have s2 := sat_range (n := if o.kind ≠ 1 then b + opLen o else b) (by split <;> omega)
      refine ih (i + 1) a' b' H' (by omega) hA' (by omega) (by omega) (by omega) (by omega) fun i' q H2 => ?_
      have := hq i' q H2
      rw [lengths, ← ha, ← hb] at this
      exact this
    refine loopC_once mixed l1_centoref20_Lengths.eq_1 ?_
    have e1 : IntKind.i64.wrap (o.n + (o.l.length : Int)) = o.n + o.l.length := i64_same (by omega) (by omega)
    simp [hlt, hA, ho', updF_app, e1]
    refine ⟨fun h3 => ?_, fun h3 => ?_⟩
    · refine len_k3 (o := o) (u := (H [1]).u + 1) (z := 1) (by simp [opLen, h3]) (by omega) (by omega) (by omega) (by omega) (by omega) (by omega) (by simp [updF_app]) fun l => ?_
      simp [ei]
      exact next _ _ _ (by simp [updF_app, hA]) (by simp) (by simp)
    · refine len_k3 (o := o) (u := (H [1]).u + 1) (z := o.n + o.l.length) (by simp [opLen, h3]) (by omega) (by omega) (by omega) (by omega) (by omega) (by omega) (by simp [updF_app]) fun l => ?_
      simp [ei]
      exact next _ _ _ (by simp [updF_app, hA]) (by simp) (by simp)
end
theorem rLengths_spec {e : E} (hl : e.ops.length * 240 ≤ 140737488355328) (ho : ∀ x, x ∈ e.ops → 0 ≤ x.n ∧ x.n ≤ 1048576 ∧ x.l.length * 56 ≤ 140737488355328) : G.Spec Try.prog 83 [eX e] (.tup [iv (lengths 0 0 e.ops).1, iv (lengths 0 0 e.ops).2]) := by
  refine spec_of t_centoref20_Lengths (by simp) fun w0 I0 => ?_
  unfold c_centoref20_Lengths
  simp
  refine lengths_l1 hl ho e.ops.length 0 0 0 _ (by omega) (by simp) (by omega) (by omega) (by omega) (by omega) fun i' q H' => ?_
  simp
  exact frz_bare rfl

/-! ### how many parts -/
section
variable {n0 : Nat} {w0 : World} {I0 : Nat → Prop} {Q : Exit → Sta → Prop}
abbrev LeftS (e : E) : Prop := ∀ (d : Nat) (n : Int), d ≤ 1000 → 0 ≤ n → n ≤ 1000000 → G.Spec Try.prog 79 [eX e, iv d, iv n] (iv (leftE d n e))
mutual
theorem leftE_range : ∀ (e : E) (d : Nat) (n : Int), -1 ≤ leftE d n e ∧ (-1 ≤ n → leftE d n e ≤ n)
  | .mk k o nn ws ks l os, d, n => by
    rw [leftE_mk]
    split
    · omega
    · rw [left2_eq]
      have h1 := shallow_range o 80 (n - 1 - ws.length - os.length)
      have h2 := shallow_range nn 80 (shallow 80 (n - 1 - ws.length - os.length) o)
      have h3 : -1 ≤ (if shallow 80 (n - 1 - ws.length - os.length) o < 0 then shallow 80 (n - 1 - ws.length - os.length) o else shallow 80 (shallow 80 (n - 1 - ws.length - os.length) o) nn) ∧ (if shallow 80 (n - 1 - ws.length - os.length) o < 0 then shallow 80 (n - 1 - ws.length - os.length) o else shallow 80 (shallow 80 (n - 1 - ws.length - os.length) o) nn) ≤ n := by split <;> omega
      generalize (if shallow 80 (n - 1 - ws.length - os.length) o < 0 then shallow 80 (n - 1 - ws.length - os.length) o else shallow 80 (shallow 80 (n - 1 - ws.length - os.length) o) nn) = x at h3
      have h4 := leftKs_range ks (d - 1) x h3.1
      have h5 := leftOs_range os (d - 1) (leftKs (d - 1) x ks) h4.1
      omega
theorem leftKs_range : ∀ (l : List KE) (d : Nat) (n : Int), -1 ≤ n → -1 ≤ leftKs d n l ∧ leftKs d n l ≤ n
  | [], d, n, h => by simp; omega
  | .mk a e :: l, d, n, h => by
    rw [leftKs_cons]
    split
    · omega
    · have h1 := leftE_range e d n
      have h2 := leftKs_range l d (leftE d n e) h1.1
      simp only [KE.e_mk]
      omega
theorem leftOs_range : ∀ (l : List OP) (d : Nat) (n : Int), -1 ≤ n → -1 ≤ leftOs d n l ∧ leftOs d n l ≤ n
  | [], d, n, h => by simp; omega
  | .mk k m t e :: l, d, n, h => by
    rw [leftOs_cons]
    split
    · omega
    · simp only [OP.e_mk, OP.l_mk]
      have h0 := shallowL_range t 80 n h
      have h1 := leftE_range e d (shallowL 80 n t)
      have h3 : -1 ≤ (if shallowL 80 n t < 0 then shallowL 80 n t else leftE d (shallowL 80 n t) e) ∧ (if shallowL 80 n t < 0 then shallowL 80 n t else leftE d (shallowL 80 n t) e) ≤ n := by split <;> omega
      have h2 := leftOs_range l d _ h3.1
      exact ⟨h2.1, Int.le_trans h2.2 h3.2⟩
end
theorem leftKs_neg (l : List KE) (d : Nat) {n : Int} (h : n < 0) : leftKs d n l = n := by cases l <;> simp [h]
theorem leftOs_neg (l : List OP) (d : Nat) {n : Int} (h : n < 0) : leftOs d n l = n := by cases l <;> simp [h]
theorem left_l1 {e : E} {d : Nat} (hd : 1 ≤ d) (hd1 : d ≤ 1000) (hl : e.kids.length * 208 ≤ 140737488355328) (ih : ∀ c, c ∈ e.kids → LeftS c.e)
    {H : Hp} (hH : H [0] = ⟨1, .cells (eL e)⟩) : ∀ (m i : Nat) (n : Int), i + m = e.kids.length → -1 ≤ n → n ≤ 1000000 →
    (∀ i' q, Q (.exit 0) ⟨lk [(1, iv d), (2, iv (leftKs (d - 1) n (e.kids.drop i))), (3, .pob [0] 1 0), (7, iv i'), (44, bv q)], H⟩) →
    LoopC (cx Try.prog w0 I0 n0) l1_centoref20_left Q ⟨lk [(1, iv d), (2, iv n), (3, .pob [0] 1 0), (7, iv i)], H⟩ := by
  intro m
  induction m with
  | zero =>
    intro i n hi h1 h2 hq
    have : i = e.kids.length := by omega
    subst this
    refine loopC_once mixed l1_centoref20_left.eq_1 ?_
    simp [hH]
    simpa using hq _ false
  | succ m ihm =>
    intro i n hi h1 h2 hq
    have hlt : i < e.kids.length := by omega
    refine loopC_once mixed l1_centoref20_left.eq_1 ?_
    have ed : e.kids.drop i = e.kids[i] :: e.kids.drop (i + 1) := List.drop_eq_getElem_cons hlt
    by_cases hn : n < 0
    · simp [hH, hlt, show ¬ (0 : Int) ≤ n by omega]
      have := hq i false
      rwa [leftKs_neg _ _ hn] at this
    · have hn' : 0 ≤ n := by omega
      simp [hH, hlt, hn']
      have edd : IntKind.i64.wrap ((d : Int) - 1) = ((d - 1 : Nat) : Int) := by rw [i64_same (by omega) (by omega)]; omega
      rw [edd]
      refine sc_call (ih _ (List.getElem_mem hlt) (d - 1) n (by omega) hn' h2) rfl ?_
      simp
      have hr := leftE_range e.kids[i].e (d - 1) n
      rw [i64_same (by omega) (by omega)]
      refine ihm (i + 1) _ (by omega) hr.1 (by omega) fun i' q => ?_
      have := hq i' q
      rw [ed, leftKs_cons, if_neg (by omega)] at this
      exact this
theorem left_l2 {e : E} {d : Nat} {i : Nat} (hi : i < e.ops.length) (hl : e.ops[i].l.length * 56 ≤ 140737488355328) (hw : ∀ t, t ∈ e.ops[i].l → wfT t)
    {H : Hp} (hH : H [0] = ⟨1, .cells (eL e)⟩) : ∀ (m j : Nat) (n : Int), j + m = e.ops[i].l.length → -1 ≤ n → n ≤ 1000000 →
    (∀ i' q, Q (.exit 4) ⟨lk [(1, iv d), (2, iv (shallowL 80 n (e.ops[i].l.drop j))), (3, .pob [0] 1 0), (8, iv i), (9, iv i'), (80, bv q)], H⟩) →
    LoopC (cx Try.prog w0 I0 n0) l2_centoref20_left Q ⟨lk [(1, iv d), (2, iv n), (3, .pob [0] 1 0), (8, iv i), (9, iv j)], H⟩ := by
  intro m
  induction m with
  | zero =>
    intro j n hj h1 h2 hq
    have : j = e.ops[i].l.length := by omega
    subst this
    refine loopC_once mixed l2_centoref20_left.eq_1 ?_
    simp [hH, hi]
    simpa using hq _ false
  | succ m ihm =>
    intro j n hj h1 h2 hq
    have hlt : j < e.ops[i].l.length := by omega
    refine loopC_once mixed l2_centoref20_left.eq_1 ?_
    have ed : e.ops[i].l.drop j = e.ops[i].l[j] :: e.ops[i].l.drop (j + 1) := List.drop_eq_getElem_cons hlt
    by_cases hn : n < 0
    · simp [hH, hi, hlt, show ¬ (0 : Int) ≤ n by omega]
      have := hq j false
      rwa [shallowL_neg _ _ hn] at this
    · have hn' : 0 ≤ n := by omega
      simp [hH, hi, hlt, hn']
      refine sc_call (shallow_spec _ (hw _ (List.getElem_mem hlt)) 80 n (by omega) hn' h2) rfl ?_
      simp
      have hr := shallow_range e.ops[i].l[j] 80 n
      rw [i64_same (by omega) (by omega)]
      refine ihm (j + 1) _ (by omega) hr.1 (by omega) fun i' q => ?_
      have := hq i' q
      rw [ed, shallowL_cons, if_neg (by omega)] at this
      exact this
theorem left_l3 {e : E} {d : Nat} (hd : 1 ≤ d) (hd1 : d ≤ 1000) (hl : e.ops.length * 240 ≤ 140737488355328) (hw : ∀ x, x ∈ e.ops → WfO x) (ih : ∀ c, c ∈ e.ops → LeftS c.e)
    {H : Hp} (hH : H [0] = ⟨1, .cells (eL e)⟩) : ∀ (m i : Nat) (n : Int), i + m = e.ops.length → -1 ≤ n → n ≤ 1000000 →
    (∀ i' q, Q (.exit 2) ⟨lk [(1, iv d), (2, iv (leftOs (d - 1) n (e.ops.drop i))), (3, .pob [0] 1 0), (8, iv i'), (65, bv q)], H⟩) →
    LoopC (cx Try.prog w0 I0 n0) l3_centoref20_left Q ⟨lk [(1, iv d), (2, iv n), (3, .pob [0] 1 0), (8, iv i)], H⟩ := by
  intro m
  induction m with
  | zero =>
    intro i n hi h1 h2 hq
    have : i = e.ops.length := by omega
    subst this
    refine loopC_once mixed l3_centoref20_left.eq_1 ?_
    simp [hH]
    simpa using hq _ false
  | succ m ihm =>
    intro i n hi h1 h2 hq
    have hlt : i < e.ops.length := by omega
    refine loopC_once mixed l3_centoref20_left.eq_1 ?_
    have ed : e.ops.drop i = e.ops[i] :: e.ops.drop (i + 1) := List.drop_eq_getElem_cons hlt
    have hwo := hw _ (List.getElem_mem hlt)
    by_cases hn : n < 0
    · simp [hH, hlt, show ¬ (0 : Int) ≤ n by omega]
      have := hq i false
      rwa [leftOs_neg _ _ hn] at this
    · have hn' : 0 ≤ n := by omega
      have hs := shallowL_range e.ops[i].l 80 n h1
      have ei : IntKind.i64.wrap ((i : Int) + 1) = ((i + 1 : Nat) : Int) := i64_same (by omega) (by omega)
      simp [hH, hlt, hn']
      refine left_l2 hlt hwo.ll hwo.l hH e.ops[i].l.length 0 n (by omega) h1 h2 fun i' q => ?_
      by_cases hsn : shallowL 80 n e.ops[i].l < 0
      · simp [show ¬ (0 : Int) ≤ shallowL 80 n e.ops[i].l by omega, ei]
        refine ihm (i + 1) _ (by omega) hs.1 (by omega) fun i' q => ?_
        have := hq i' q
        rw [ed, leftOs_cons, if_neg (by omega), if_pos hsn] at this
        exact this
      · have hsn' : 0 ≤ shallowL 80 n e.ops[i].l := by omega
        simp [hsn', hH, hlt]
        have edd : IntKind.i64.wrap ((d : Int) - 1) = ((d - 1 : Nat) : Int) := by rw [i64_same (by omega) (by omega)]; omega
        rw [edd]
        refine sc_call (ih _ (List.getElem_mem hlt) (d - 1) _ (by omega) hsn' (by omega)) rfl ?_
        have hr := leftE_range e.ops[i].e (d - 1) (shallowL 80 n e.ops[i].l)
        simp [ei]
        refine ihm (i + 1) _ (by omega) hr.1 (by omega) fun i' q => ?_
        have := hq i' q
        rw [ed, leftOs_cons, if_neg (by omega), if_neg hsn] at this
        exact this
end
theorem left_spec : ∀ (e : E), wfE e → LeftS e := by
  refine E.ind fun k o nn ws ks l os ihk iho hw d n hd hn hn1 => ?_
  have h := wfE_iff.1 hw
  have hwl := h.wl
  have hkl := h.kl
  have hol := h.ol
  simp at hwl hkl hol
  refine spec_of t_centoref20_left (by simp) fun w0 I0 => ?_
  unfold c_centoref20_left
  have e1 : IntKind.i64.wrap (IntKind.i64.wrap (IntKind.i64.wrap (n - 1) - (ws.length : Int)) - (os.length : Int)) = n - 1 - ws.length - os.length := by
    rw [i64_same (n := n - 1) (by omega) (by omega), i64_same (n := n - 1 - ws.length) (by omega) (by omega), i64_same (by omega) (by omega)]
  rw [leftE_mk]
  by_cases hc : d = 0 ∨ n - 1 - (ws.length : Int) - (os.length : Int) < 0
  · have hd : (decide (d = 0) || decide (n - 1 - (ws.length : Int) - (os.length : Int) < 0)) = true := by simp; omega
    simp [e1, hd, hc]
    exact frz_bare rfl
  · have hd : (decide (d = 0) || decide (n - 1 - (ws.length : Int) - (os.length : Int) < 0)) = false := by simp; omega
    simp [e1, hd, hc]
    refine sc_call (shallow_spec o h.o 80 _ (by omega) (by omega) (by omega)) rfl ?_
    have hr := shallow_range o 80 (n - 1 - ws.length - os.length)
    have go : ∀ (x : Int), x = left2 n ws.length os.length o nn → -1 ≤ x → x ≤ 1000000 → WPC (cx Try.prog w0 I0 107) k1_centoref20_left (RetC Try.prog [.tmp 6] (iv (leftOs (d - 1) (leftKs (d - 1) (left2 n ws.length os.length o nn) ks) os))) ⟨lk [(1, iv d), (2, iv x), (3, .pob [0] 1 0)], lkH [([0], ⟨1, .cells (eL (.mk k o nn ws ks l os))⟩)]⟩ := fun x hx h1 h2 => by
      rw [k1_centoref20_left.eq_1, ← hx]
      simp
      refine left_l1 (e := .mk k o nn ws ks l os) (by omega) (by omega) (by simpa using hkl) (fun c hc => ihk c hc (h.ks c hc).2) (by simp) ks.length 0 x (by simp) h1 h2 fun i' q => ?_
      have hr2 := leftKs_range ks (d - 1) x h1
      simp
      refine left_l3 (e := .mk k o nn ws ks l os) (by omega) (by omega) (by simpa using hol) (fun c hc => h.os c hc) (fun c hc => iho c hc (h.os c hc).e) (by simp) os.length 0 _ (by simp) hr2.1 (by omega) fun i' q => ?_
      simp
      exact frz_bare rfl
    by_cases hs : shallow 80 (n - 1 - ws.length - os.length) o < 0
    · simp [show ¬ (0 : Int) ≤ shallow 80 (n - 1 - ws.length - os.length) o by omega]
      exact go _ (by rw [left2_eq, if_pos hs]) hr.1 (by omega)
    · simp [show (0 : Int) ≤ shallow 80 (n - 1 - ws.length - os.length) o by omega]
      refine sc_call (shallow_spec nn h.n 80 _ (by omega) (by omega) (by omega)) rfl ?_
      have hr2 := shallow_range nn 80 (shallow 80 (n - 1 - ws.length - os.length) o)
      simp
      exact go _ (by rw [left2_eq, if_neg hs]) hr2.1 (by omega)
def fewE (e : E) : Bool := decide (0 ≤ leftE 80 3000 e)
theorem fewE_spec {e : E} (h : wfE e) : G.Spec Try.prog 46 [eX e] (bv (fewE e)) := by
  refine spec_of t_centoref20_Few (by simp) fun w0 I0 => ?_
  unfold c_centoref20_Few
  simp
  refine sc_call (left_spec e h 80 3000 (by omega) (by omega) (by omega)) rfl ?_
  simp
  exact frz_bare rfl
end Go.Proofs.Ytigdcnlhgelkaaa
