/-
  The tree of an edit, as the document has it.
-/
import Derived.Test.YtigdcnlhgelkaaaD20c
namespace Go.Proofs.Ytigdcnlhgelkaaa
set_option linter.unusedVariables false
set_option linter.unusedSimpArgs false
open Go Go.G Go.Proofs Go.PL

/-! ### few parts -/
mutual
def smE : Int → E → Prop
  | N, .mk _ _ _ ws ks _ os => ws.length ≤ N ∧ ks.length ≤ N ∧ os.length ≤ N ∧ smKs N ks ∧ smOs N os
def smKs : Int → List KE → Prop
  | _, [] => True
  | N, .mk _ e :: l => smE N e ∧ smKs N l
def smOs : Int → List OP → Prop
  | _, [] => True
  | N, .mk _ _ _ e :: l => smE N e ∧ smOs N l
end
theorem smKs_all {N : Int} : ∀ {l : List KE}, smKs N l ↔ ∀ x, x ∈ l → smE N x.e
  | [] => by simp [smKs]
  | .mk a e :: l => by simp [smKs, smKs_all (l := l)]
theorem smOs_all {N : Int} : ∀ {l : List OP}, smOs N l ↔ ∀ x, x ∈ l → smE N x.e
  | [] => by simp [smOs]
  | .mk k n t e :: l => by simp [smOs, smOs_all (l := l)]
mutual
theorem left_sm {N : Int} : ∀ (e : E) (d : Nat) (n : Int), n ≤ N → 0 ≤ leftE d n e → leftE d n e ≤ n - 1 ∧ smE N e
  | .mk k o nn ws ks l os, d, n, hn, h => by
    rw [leftE_mk] at h ⊢
    rw [smE]
    split at h
    · omega
    rename_i hc
    rw [if_neg hc]
    have h1 := shallow_range o 80 (n - 1 - ws.length - os.length)
    have h2 := shallow_range nn 80 (shallow 80 (n - 1 - ws.length - os.length) o)
    have h3 : left2 n ws.length os.length o nn ≤ n - 1 - ws.length - os.length := by rw [left2_eq]; split <;> omega
    obtain ⟨a1, a2, a3⟩ := leftOs_sm (N := N) os (d - 1) _ h (by
      have := leftKs_range ks (d - 1) (left2 n ws.length os.length o nn) (by rw [left2_eq]; split <;> omega)
      omega)
    obtain ⟨b1, b2, b3⟩ := leftKs_sm (N := N) ks (d - 1) _ a3 (by omega)
    exact ⟨by omega, by omega, by omega, by omega, b2, a2⟩
theorem leftKs_sm {N : Int} : ∀ (l : List KE) (d : Nat) (n : Int), 0 ≤ leftKs d n l → n ≤ N → leftKs d n l ≤ n - l.length ∧ smKs N l ∧ 0 ≤ n
  | [], d, n, h, hn => by simp at h; simp [smKs]; omega
  | .mk a e :: l, d, n, h, hn => by
    rw [leftKs_cons] at h ⊢
    split at h
    · omega
    rename_i hc
    rw [if_neg hc]
    simp only [KE.e_mk] at h ⊢
    have h1 := leftE_range e d n
    obtain ⟨b1, b2, b3⟩ := leftKs_sm (N := N) l d _ h (by omega)
    obtain ⟨c1, c2⟩ := left_sm (N := N) e d n hn b3
    rw [smKs]
    exact ⟨by simp; omega, ⟨c2, b2⟩, by omega⟩
theorem leftOs_sm {N : Int} : ∀ (l : List OP) (d : Nat) (n : Int), 0 ≤ leftOs d n l → n ≤ N → leftOs d n l ≤ n ∧ smOs N l ∧ 0 ≤ n
  | [], d, n, h, hn => by simp at h; simp [smOs]; omega
  | .mk k m t e :: l, d, n, h, hn => by
    rw [leftOs_cons] at h ⊢
    split at h
    · omega
    rename_i hc
    rw [if_neg hc]
    simp only [OP.e_mk, OP.l_mk] at h ⊢
    have h0 := shallowL_range t 80 n (by omega)
    have h1 := leftE_range e d (shallowL 80 n t)
    have h3 : (if shallowL 80 n t < 0 then shallowL 80 n t else leftE d (shallowL 80 n t) e) ≤ n := by split <;> omega
    obtain ⟨b1, b2, b3⟩ := leftOs_sm (N := N) l d _ h (by exact Int.le_trans h3 hn)
    rw [smOs]
    refine ⟨Int.le_trans b1 h3, ⟨?_, b2⟩, by omega⟩
    by_cases hs : shallowL 80 n t < 0
    · simp only [hs, if_true] at b3
      omega
    · simp only [hs, if_false] at b3
      exact (left_sm (N := N) e d _ (by omega) b3).2
end
theorem few_sm {e : E} (h : fewE e = true) : smE 3000 e := (left_sm (N := 3000) e 80 3000 (by omega) (by simpa [fewE] using h)).2

/-! ### rows whose elements read otherwise -/
theorem frz_rowF {α : Type} {H : Hp} {o : Nm} {u n sz : Nat} {l : List α} {f g : α → A} (h : vr (H o) u = some (sz, l.map f)) (hn : n = l.length)
    (hf : ∀ x, x ∈ l → (f x).cells.all A.bare = true ∧ (f x).cells.map A.soft = (g x).cells ∧ (g x).cells.length = sz ∧ A.ones (g x).cells = true) : Frz H (.osl o u sz 0 n) (.sl false (l.map g)) := by
  subst hn
  refine frz_osl' (xs := l.map f) (by simpa using h) (by simp) (by simp) (fun y hy => ?_) ?_ ?_
  · obtain ⟨x, hx, rfl⟩ := List.mem_map.1 hy
    exact (hf x hx).2.2.1
  · simp only [A.ones, List.all_eq_true, List.mem_flatMap]
    rintro y ⟨z, hz, hy⟩
    obtain ⟨x, hx, rfl⟩ := List.mem_map.1 hz
    have := (hf x hx).2.2.2
    simp only [A.ones, List.all_eq_true] at this
    exact this y hy
  · rw [List.drop_zero, List.take_of_length_le (by simp)]
    have : ∀ (m : List α), (∀ x, x ∈ m → x ∈ l) → FrzL H ((m.map f).flatMap A.cells) ((m.map g).flatMap A.cells) := by
      intro m
      induction m with
      | nil => intro _; simp
      | cons x m ih =>
        intro hm
        obtain ⟨h1, h2, _, _⟩ := hf x (hm x (by simp))
        simp only [List.map_cons, List.flatMap_cons]
        rw [← h2]
        have hr := ih fun y hy => hm y (by simp [hy])
        have : ∀ (c : List A) (p q : List A), c.all A.bare = true → FrzL H p q → FrzL H (c ++ p) (c.map A.soft ++ q) := by
          intro c
          induction c with
          | nil => intro p q _ hpq; exact hpq
          | cons y c ihc =>
            intro p q hc hpq
            simp only [List.all_cons, Bool.and_eq_true] at hc
            exact ⟨frz_soft hc.1, ihc p q hc.2 hpq⟩
        exact this _ _ _ h1 hr
    exact this l fun x h => h

theorem row_spec (l : List T) : G.Spec Try.prog 49 [tKs l] (tX (rowT' l)) := by
  refine spec_of t_centoref27_row (by simp) fun w0 I0 => ?_
  unfold c_centoref27_row
  cases l with
  | nil => simp; exact frz_T0
  | cons t l =>
    simp
    refine ⟨fun h => absurd h (by omega), fun _ => ?_⟩
    exact frz_agg (by simp; exact ⟨frz_bare rfl, frz_sl, frz_is rfl (by simp)⟩)
theorem u64_i64 (x : Int) : IntKind.u64.wrap (IntKind.i64.wrap x) = u64m x := by
  rw [IntKind.wrap_u64, IntKind.wrap_i64]; unfold u64m; omega
theorem u64_1 (k l : Int) : IntKind.u64.wrap (IntKind.i64.wrap (k + IntKind.i64.wrap (256 * l))) = u64m (k + 256 * l) := by
  rw [i64_add_r, u64_i64]
theorem u64_2 (a m : Int) : IntKind.u64.wrap (IntKind.u64.wrap a + IntKind.u64.wrap (4294967296 * IntKind.u64.wrap m)) = u64m (a + 4294967296 * m) := by
  simp only [IntKind.wrap_u64]; unfold u64m; omega
/-- As a step lays it down. -/
def wRaw (w : WE) : A := .agg [iv 1, .sl true [uv (u64m (w.at_ + 4294967296 * w.mask)), uv w.old, uv w.new], .sl true []]
def kRaw (x : KE) : A := .agg [iv 1, .sl true [uv (u64m x.at_)], .sl true [tX (treeE x.e)]]
def oRaw (list : Int) (x : OP) : A := .agg [iv 1, .sl true [uv (u64m (x.kind + 256 * x.n))], if x.kind = 3 then .sl true [tX (treeE x.e)] else if x.kind > 0 then .sl true [.agg [iv list, .sl true [], tKs x.l]] else .sl true []]
@[simp] theorem wRaw_cells (w : WE) : (wRaw w).cells = [iv 1, .sl true [uv (u64m (w.at_ + 4294967296 * w.mask)), uv w.old, uv w.new], .sl true []] := rfl
@[simp] theorem kRaw_cells (x : KE) : (kRaw x).cells = [iv 1, .sl true [uv (u64m x.at_)], .sl true [tX (treeE x.e)]] := rfl
@[simp] theorem oRaw_cells (list : Int) (x : OP) : (oRaw list x).cells = [iv 1, .sl true [uv (u64m (x.kind + 256 * x.n))], if x.kind = 3 then .sl true [tX (treeE x.e)] else if x.kind > 0 then .sl true [.agg [iv list, .sl true [], tKs x.l]] else .sl true []] := rfl
section
variable {n0 : Nat} {w0 : World} {I0 : Nat → Prop} {Q : Exit → Sta → Prop}
theorem tree_l1 {e : E} (hl : e.words.length ≤ 3000) {v1 v2 : VOb} : ∀ (m i u : Nat) (H : Hp), i + m = e.words.length → H [0] = ⟨1, .cells (eL e)⟩ → H [1] = v1 → H [2] = v2 → H [4] = ⟨u, .arr 3 ((e.words.take i).map wRaw)⟩ →
    (∀ i' q u' H', H' [0] = ⟨1, .cells (eL e)⟩ → H' [1] = v1 → H' [2] = v2 → H' [4] = ⟨u', .arr 3 (e.words.map wRaw)⟩ → Q (.exit 3) ⟨lk [(1, .pob [0] 1 0), (2, .pob [1] 1 0), (3, .pob [2] 1 0), (4, .osl [4] u' 3 0 e.words.length), (5, .sl true []), (6, iv i'), (87, bv q)], H'⟩) →
    LoopC (cx Try.prog w0 I0 n0) l1_centoref27_Tree Q ⟨lk [(1, .pob [0] 1 0), (2, .pob [1] 1 0), (3, .pob [2] 1 0), (4, .osl [4] u 3 0 i), (5, .sl true []), (6, iv i)], H⟩ := by
  intro m
  induction m with
  | zero =>
    intro i u H hi h0 h1 h2 h4 hq
    have : i = e.words.length := by omega
    subst this
    refine loopC_once mixed l1_centoref27_Tree.eq_1 ?_
    simp [h0]
    exact hq _ _ u H h0 h1 h2 (by rw [h4]; simp)
  | succ m ihm =>
    intro i u H hi h0 h1 h2 h4 hq
    have hlt : i < e.words.length := by omega
    have ei : IntKind.i64.wrap ((i : Int) + 1) = ((i + 1 : Nat) : Int) := i64_same (by omega) (by omega)
    refine loopC_once mixed l1_centoref27_Tree.eq_1 ?_
    simp [h0, hlt, updF_app, h4, u64_2]
    refine ⟨⟨by omega, by omega⟩, ?_⟩
    have hrow := row_succ (f := wRaw) hlt rfl
    rw [ei]
    exact ihm (i + 1) (u + 1) _ (by omega) (by simp [updF_app, h0]) (by simp [updF_app, h1]) (by simp [updF_app, h2]) (by simp only [updF_app, if_true]; exact congrArg (fun r => (⟨u + 1, .arr 3 r⟩ : VOb)) hrow) hq
theorem tree_l2 {e : E} (hl : e.kids.length ≤ 3000) (ih : ∀ x, x ∈ e.kids → G.Spec Try.prog 14 [eX x.e] (tX (treeE x.e))) {v1 v2 v4 : VOb} {a4 : A} : ∀ (m i u : Nat) (H : Hp), i + m = e.kids.length → H [0] = ⟨1, .cells (eL e)⟩ → H [1] = v1 → H [2] = v2 → H [4] = v4 → H [5] = ⟨u, .arr 3 ((e.kids.take i).map kRaw)⟩ →
    (∀ i' q u' H', H' [0] = ⟨1, .cells (eL e)⟩ → H' [1] = v1 → H' [2] = v2 → H' [4] = v4 → H' [5] = ⟨u', .arr 3 (e.kids.map kRaw)⟩ → Q (.exit 5) ⟨lk [(1, .pob [0] 1 0), (2, .pob [1] 1 0), (3, .pob [2] 1 0), (4, a4), (5, .osl [5] u' 3 0 e.kids.length), (8, iv i'), (116, bv q)], H'⟩) →
    LoopC (cx Try.prog w0 I0 n0) l2_centoref27_Tree Q ⟨lk [(1, .pob [0] 1 0), (2, .pob [1] 1 0), (3, .pob [2] 1 0), (4, a4), (5, .osl [5] u 3 0 i), (8, iv i)], H⟩ := by
  intro m
  induction m with
  | zero =>
    intro i u H hi h0 h1 h2 h4 h5 hq
    have : i = e.kids.length := by omega
    subst this
    refine loopC_once mixed l2_centoref27_Tree.eq_1 ?_
    simp [h0]
    exact hq _ _ u H h0 h1 h2 h4 (by rw [h5]; simp)
  | succ m ihm =>
    intro i u H hi h0 h1 h2 h4 h5 hq
    have hlt : i < e.kids.length := by omega
    have ei : IntKind.i64.wrap ((i : Int) + 1) = ((i + 1 : Nat) : Int) := i64_same (by omega) (by omega)
    have eu : IntKind.u64.wrap e.kids[i].at_ = u64m e.kids[i].at_ := by rw [IntKind.wrap_u64]; rfl
    refine loopC_once mixed l2_centoref27_Tree.eq_1 ?_
    simp [h0, hlt, updF_app, h5]
    refine sc_call (ih _ (List.getElem_mem hlt)) rfl ?_
    simp [h0, hlt, updF_app, h5, eu]
    refine ⟨⟨by omega, by omega⟩, ?_⟩
    have hrow := row_succ (f := kRaw) hlt rfl
    rw [ei]
    exact ihm (i + 1) (u + 1) _ (by omega) (by simp [updF_app, h0]) (by simp [updF_app, h1]) (by simp [updF_app, h2]) (by simp [updF_app, h4]) (by simp only [updF_app, if_true]; exact congrArg (fun r => (⟨u + 1, .arr 3 r⟩ : VOb)) hrow) hq
theorem tree_l3 {e : E} (hl : e.ops.length ≤ 3000) (ih : ∀ x, x ∈ e.ops → G.Spec Try.prog 14 [eX x.e] (tX (treeE x.e))) {v1 v2 : VOb} : ∀ (m i u : Nat) (H : Hp), i + m = e.ops.length → H [0] = ⟨1, .cells (eL e)⟩ → H [1] = v1 → H [2] = v2 → H [8] = ⟨u, .arr 3 ((e.ops.take i).map (oRaw e.list))⟩ →
    (∀ i' q u' H', H' [0] = ⟨1, .cells (eL e)⟩ → H' [1] = v1 → H' [2] = v2 → H' [8] = ⟨u', .arr 3 (e.ops.map (oRaw e.list))⟩ → Q (.exit 1) ⟨lk [(1, .pob [0] 1 0), (2, .pob [1] 1 0), (3, .pob [2] 1 0), (4, .osl [8] u' 3 0 e.ops.length), (9, iv i'), (27, bv q)], H'⟩) →
    LoopC (cx Try.prog w0 I0 n0) l3_centoref27_Tree Q ⟨lk [(1, .pob [0] 1 0), (2, .pob [1] 1 0), (3, .pob [2] 1 0), (4, .osl [8] u 3 0 i), (9, iv i)], H⟩ := by
  intro m
  induction m with
  | zero =>
    intro i u H hi h0 h1 h2 h4 hq
    have : i = e.ops.length := by omega
    subst this
    refine loopC_once mixed l3_centoref27_Tree.eq_1 ?_
    simp [h0]
    exact hq _ _ u H h0 h1 h2 (by rw [h4]; simp)
  | succ m ihm =>
    intro i u H hi h0 h1 h2 h4 hq
    have hlt : i < e.ops.length := by omega
    have ei : IntKind.i64.wrap ((i : Int) + 1) = ((i + 1 : Nat) : Int) := i64_same (by omega) (by omega)
    have ihx := ih _ (List.getElem_mem hlt)
    have hrow : ∀ x, oRaw e.list e.ops[i] = x → List.take i (List.take i (e.ops.map (oRaw e.list))) ++ [x] = (e.ops.take (i + 1)).map (oRaw e.list) := fun x hx => row_succ (f := oRaw e.list) hlt hx
    have next : ∀ H' (x : A), H' [0] = ⟨1, .cells (eL e)⟩ → H' [1] = v1 → H' [2] = v2 → oRaw e.list e.ops[i] = x → H' [8] = ⟨u + 1, .arr 3 (List.take i (List.take i (e.ops.map (oRaw e.list))) ++ [x])⟩ → LoopC (cx Try.prog w0 I0 n0) l3_centoref27_Tree Q ⟨lk [(1, .pob [0] 1 0), (2, .pob [1] 1 0), (3, .pob [2] 1 0), (4, .osl [8] (u + 1) 3 0 (i + 1)), (9, iv ((i + 1 : Nat) : Int))], H'⟩ := fun H' x a0 a1 a2 hx a4 =>
      ihm (i + 1) (u + 1) H' (by omega) a0 a1 a2 (by rw [a4, hrow x hx]) hq
    refine loopC_once mixed l3_centoref27_Tree.eq_1 ?_
    generalize ho : e.ops[i] = o at *
    by_cases h3 : o.kind = 3
    · simp [h0, hlt, ho, updF_app, h4, u64_1, h3]
      refine sc_call ihx rfl ?_
      simp [h0, hlt, ho, updF_app, h4, h3]
      refine ⟨⟨by omega, by omega⟩, ?_⟩
      rw [ei]
      exact next _ (.agg [iv 1, .sl true [uv (u64m (3 + 256 * o.n))], .sl true [tX (treeE o.e)]]) (by simp [updF_app, h0]) (by simp [updF_app, h1]) (by simp [updF_app, h2]) (by simp [oRaw, h3]) (by simp [updF_app])
    · by_cases hp : o.kind > 0
      · simp [h0, hlt, ho, updF_app, h4, u64_1, h3, hp]
        refine ⟨⟨by omega, by omega⟩, ?_⟩
        rw [ei]
        exact next _ (.agg [iv 1, .sl true [uv (u64m (o.kind + 256 * o.n))], .sl true [.agg [iv e.list, .sl true [], tKs o.l]]]) (by simp [updF_app, h0]) (by simp [updF_app, h1]) (by simp [updF_app, h2]) (by simp [oRaw, h3, hp]) (by simp [updF_app])
      · simp [h0, hlt, ho, updF_app, h4, u64_1, h3, hp]
        refine ⟨⟨by omega, by omega⟩, ?_⟩
        rw [ei]
        exact next _ (.agg [iv 1, .sl true [uv (u64m (o.kind + 256 * o.n))], .sl true []]) (by simp [updF_app, h0]) (by simp [updF_app, h1]) (by simp [updF_app, h2]) (by simp [oRaw, h3, hp]) (by simp [updF_app])
end
set_option maxRecDepth 10000 in
theorem tree_spec : ∀ (e : E), smE 3000 e → G.Spec Try.prog 14 [eX e] (tX (treeE e)) := by
  refine E.ind fun k o nn ws ks l os ihk iho hs => ?_
  rw [smE, smKs_all, smOs_all] at hs
  obtain ⟨s1, s2, s3, s4, s5⟩ := hs
  have ihk' : ∀ x, x ∈ (E.mk k o nn ws ks l os).kids → G.Spec Try.prog 14 [eX x.e] (tX (treeE x.e)) := fun x hx => ihk x hx (s4 x hx)
  have iho' : ∀ x, x ∈ (E.mk k o nn ws ks l os).ops → G.Spec Try.prog 14 [eX x.e] (tX (treeE x.e)) := fun x hx => iho x hx (s5 x hx)
  refine spec_of t_centoref27_Tree (by simp) fun w0 I0 => ?_
  unfold c_centoref27_Tree
  rw [treeE_mk]
  by_cases h0 : k = 0
  · simp [h0]
    exact frz_T0
  by_cases h1 : k = 1
  · simp [h1, u64_1]
    refine frz_agg ?_
    simp
    refine ⟨frz_bare rfl, frz_sl, ?_⟩
    show Frz _ _ (.sl false [tA o, tA nn])
    rw [tA_eq, tA_eq]
    exact frz_sl
  by_cases h2 : k = 2
  · subst h2
    simp [u64_1]
    refine LoopC.le (le_blank 4 [4] 3 (by simp)) ?_
    simp
    refine LoopC.le (le_list [(1, .pob [0] 1 0), (2, .pob [1] 1 0), (3, .pob [2] 1 0), (4, .osl [4] 1 3 0 0), (5, .sl true []), (6, iv 0)] (by simp [upd])) ?_
    refine tree_l1 (e := .mk 2 o nn ws ks l os) (by simp; omega) ws.length 0 1 _ (by simp) (by simp) rfl rfl (by simp) fun i' q u' H' a0 a1 a2 a4 => ?_
    simp
    refine LoopC.le (le_blank 5 [5] 3 (by simp)) ?_
    refine LoopC.le (le_list [(1, .pob [0] 1 0), (2, .pob [1] 1 0), (3, .pob [2] 1 0), (4, .osl [4] u' 3 0 ws.length), (5, .osl [5] ((H' [5]).u + 1) 3 0 0), (8, iv 0)] (by simp [upd])) ?_
    refine tree_l2 (e := .mk 2 o nn ws ks l os) (by simp; omega) ihk' ks.length 0 _ _ (by simp) (by simp [updF_app, a0]) (by simp [updF_app, a1]; rfl) (by simp [updF_app, a2]; rfl) (by simp [updF_app, a4]; rfl) (by simp [updF_app]) fun i2 q2 u2 H2 b0 b1 b2 b4 b5 => ?_
    simp
    have fw : ∀ H1 : Hp, H1 [4] = H2 [4] → Frz H1 (.osl [4] u' 3 0 ws.length) (tKs (ws.map treeW)) := fun H1 hH => by
      have := frz_rowF (H := H1) (o := [4]) (u := u') (n := ws.length) (sz := 3) (l := ws) (f := wRaw) (g := tA ∘ treeW) (by simp [hH, b4]) rfl (fun x _ => by simp [treeW, A.soft, A.softL])
      rw [← List.map_map] at this
      exact this
    have fk : ∀ H1 : Hp, H1 [5] = H2 [5] → Frz H1 (.osl [5] u2 3 0 ks.length) (tKs (ks.map treeK)) := fun H1 hH => by
      have := frz_rowF (H := H1) (o := [5]) (u := u2) (n := ks.length) (sz := 3) (l := ks) (f := kRaw) (g := tA ∘ treeK) (by simp [hH, b5]) rfl (fun x _ => by simp [treeK, A.soft, A.softL, soft_uv, soft_tKs])
      rw [← List.map_map] at this
      exact this
    refine stop_le (le_freezeD (fun _ h => h) [4] 4 (tKs (ws.map treeW)) (fun H1 hH => fw H1 hH)) ?_
    refine stop_le (le_freezeD (fun _ h => h) [5] 5 (tKs (ks.map treeK)) (fun H1 hH => fk H1 (by rw [hH]; simp [updF_app]))) (stop_go ?_)
    simp
    refine sc_call (row_spec _) rfl ?_
    simp
    refine sc_call (row_spec _) rfl ?_
    simp [updF_app, b1, b2]
    refine frz_agg ?_
    simp
    rw [treeKs_map]
    refine ⟨frz_bare rfl, frz_sl, ?_⟩
    show Frz _ _ (.sl false [tA _, tA _])
    rw [tA_eq, tA_eq]
    exact frz_sl
  · simp [h0, h1, h2, u64_1]
    refine LoopC.le (le_blank 4 [8] 3 (by simp)) ?_
    simp
    refine LoopC.le (le_list [(1, .pob [0] 1 0), (2, .pob [1] 1 0), (3, .pob [2] 1 0), (4, .osl [8] 1 3 0 0), (9, iv 0)] (by simp [upd])) ?_
    refine tree_l3 (e := .mk k o nn ws ks l os) (by simp; omega) iho' os.length 0 1 _ (by simp) (by simp) rfl rfl (by simp) fun i' q u' H' a0 a1 a2 a4 => ?_
    simp
    have fo : ∀ H1 : Hp, H1 [8] = H' [8] → Frz H1 (.osl [8] u' 3 0 os.length) (tKs (os.map (treeO l))) := fun H1 hH => by
      have := frz_rowF (H := H1) (o := [8]) (u := u') (n := os.length) (sz := 3) (l := os) (f := oRaw l) (g := tA ∘ treeO l) (by simp [hH, a4]) rfl (fun x _ => by
        by_cases h3 : x.kind = 3
        · simp [treeO, A.soft, A.softL, h3, soft_uv, soft_tKs]
        · by_cases hp : x.kind > 0
          · simp [treeO, A.soft, A.softL, h3, hp, soft_uv, soft_tKs]
          · simp [treeO, A.soft, A.softL, h3, hp])
      rw [← List.map_map] at this
      exact this
    refine stop_le (le_freezeD (fun _ h => h) [8] 4 (tKs (os.map (treeO l))) (fun H1 hH => fo H1 hH)) (stop_go ?_)
    simp
    refine sc_call (row_spec _) rfl ?_
    simp [updF_app, a1, a2]
    refine frz_agg ?_
    simp
    rw [treeOs_map]
    refine ⟨frz_bare rfl, frz_sl, ?_⟩
    show Frz _ _ (.sl false [tA _])
    rw [tA_eq]
    exact frz_sl
end Go.Proofs.Ytigdcnlhgelkaaa
