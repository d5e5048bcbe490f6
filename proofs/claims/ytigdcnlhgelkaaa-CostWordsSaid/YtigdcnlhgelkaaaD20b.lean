/-
  The document's edits: which ones are right, and light.
-/
import Derived.Test.YtigdcnlhgelkaaaD20a
import Derived.Test.YtigdcnlhgelkaaaD07w
import Derived.Test.YtigdcnlhgelkaaaP39
namespace Go.Proofs.Ytigdcnlhgelkaaa
set_option linter.unusedVariables false
set_option linter.unusedSimpArgs false
open Go Go.G Go.Proofs Go.PL

abbrev RightS (e : E) : Prop := ∀ d : Nat, d ≤ 1000 → G.Spec Try.prog 47 [eX e, iv d] (bv (rightE d e))
section
variable {n0 : Nat} {w0 : World} {I0 : Nat → Prop} {Q : Exit → Sta → Prop}
theorem op_l1 {o : OP} {list : Int} (hk : i64R list) (hl : o.l.length * 56 ≤ 140737488355328) (hw : ∀ t, t ∈ o.l → wfT t) {H : Hp} (hO : H [0] = ⟨1, .cells (iv o.kind :: iv o.n :: tKs o.l :: eL o.e)⟩) : ∀ (m i : Nat), i + m = o.l.length →
    (((o.l.drop i).all fun t => rightT 64 (.mk list [] [t])) = true → ∀ i' q, Q (.exit 0) ⟨lk [(0, iv list), (4, .pob [0] 1 0), (7, iv i'), (50, bv q)], H⟩) → (((o.l.drop i).all fun t => rightT 64 (.mk list [] [t])) = false → Q .ret ⟨lk [(6, bv false)], H⟩) →
    LoopC (cx Try.prog w0 I0 n0) l1_centoref20_op Q ⟨lk [(0, iv list), (4, .pob [0] 1 0), (7, iv i)], H⟩ := by
  intro m
  induction m with
  | zero =>
    intro i hi h1 h2
    have : i = o.l.length := by omega
    subst this
    refine loopC_once mixed l1_centoref20_op.eq_1 ?_
    simp [hO]
    exact h1 (by simp) _ _
  | succ m ihm =>
    intro i hi h1 h2
    have hlt : i < o.l.length := by omega
    have ed : o.l.drop i = o.l[i] :: o.l.drop (i + 1) := List.drop_eq_getElem_cons hlt
    have ei : IntKind.i64.wrap ((i : Int) + 1) = ((i + 1 : Nat) : Int) := i64_same (by omega) (by omega)
    have et : List.take 1 (List.drop i (o.l.map tA)) = [tX o.l[i]] := by rw [← List.map_drop, ed, List.map_cons, List.take_succ_cons, List.take_zero, tA_eq]
    have hwt : wfT (.mk list [] [o.l[i]]) := wfT_iff.2 ⟨hk, by simp, by simp, by simp, fun x hx => by simp at hx; rw [hx]; exact hw _ (List.getElem_mem hlt)⟩
    have h01 : (i : Int) ≤ (i : Int) + 1 := by omega
    have h02 : (i : Int) + 1 ≤ o.l.length := by omega
    rw [ed] at h1 h2
    refine loopC_once mixed l1_centoref20_op.eq_1 ?_
    have h03 : (0 : Int) ≤ (i : Int) + 1 := by omega
    simp [hO, hlt, ei, h01, h02, h03, et]
    refine sc_calle rfl ((rRight_spec (.mk list [] [o.l[i]]) hwt 64 (by omega)).soft (by simp [A.softL, A.soft, soft_uv, soft_tKs])) rfl ?_
    cases hr : rightT 64 (.mk list [] [o.l[i]]) with
    | false =>
      simp
      exact h2 (by simp only [List.all_cons, hr, Bool.false_and])
    | true =>
      simp [ei]
      exact ihm (i + 1) (by omega) (fun hh => h1 (by simp only [List.all_cons, hr, Bool.true_and]; exact hh)) (fun hh => h2 (by simp only [List.all_cons, hr, Bool.true_and]; exact hh))
end
set_option maxRecDepth 8000 in
theorem op_spec {list : Int} (hk : i64R list) {o : OP} (h : WfO o) (ih : RightS o.e) {d : Nat} (hd : d ≤ 1000) : G.Spec Try.prog 82 [iv list, oX o, iv d] (bv (rightO d list o)) := by
  have he := wfE_iff.1 h.e
  have hll := h.ll
  refine spec_of t_centoref20_op (by simp) fun w0 I0 => ?_
  unfold c_centoref20_op
  rw [rightO_eq]
  by_cases h0 : o.kind = 0
  · have h3 : ¬ o.kind = 3 := by omega
    simp [h0]
    refine sc_call_gt rfl (fun _ => same_spec he) (fun e => by simp at e; simp [e]) rfl ?_
    simp
    refine frz_bool ?_
    cases hl : o.l <;> simp [opFlat, h0, hl]
  · have h3n : (o.kind < 3 → ¬ o.kind = 3) := fun h => by omega
    simp [h0]
    refine ⟨fun hc => ?_, fun n0 k0 k3 => ⟨fun hlt => ?_, fun hge => ?_⟩⟩
    · have : opFlat list o = false := by
        unfold opFlat
        rw [if_neg h0, if_pos (by omega)]
      exact frz_bool (by simp [this])
    · have hk3 : ¬ o.kind = 3 := by omega
      have hf : opFlat list o = ((o.l.all fun t => rightT 64 (.mk list [] [t])) && !o.l.isEmpty && sameE o.e) := by
        unfold opFlat
        rw [if_neg h0, if_neg (by omega), if_pos hlt]
      refine op_l1 (o := o) hk hll h.l (by simp) o.l.length 0 (by omega) (fun hr i' q => ?_) (fun hr => ?_)
      · simp at hr
        simp
        refine sc_call_gt rfl (fun _ => same_spec he) (fun e => by simp at e; simp [e]) rfl ?_
        simp
        refine frz_bool ?_
        have hr' : (o.l.all fun t => rightT 64 (.mk list [] [t])) = true := by simpa using hr
        rw [hf, hr']
        cases hl : o.l <;> simp [hk3]
      · simp
        refine frz_bool ?_
        simp only [List.drop_zero] at hr
        rw [hf, hr]
        simp
    · have hk3 : o.kind = 3 := by omega
      have hf : opFlat list o = true := by
        unfold opFlat
        rw [if_neg h0, if_neg (by omega), if_neg (by omega)]
      refine sc_call_gf rfl (fun _ => ih d hd) (fun e => by simp at e; have := Int.not_le.2 e.2; simp [this, e.1.1, e.1.2]) rfl ?_
      have hop : opDeep list o = (!decide (0 < o.l.length) && !decide (o.e.kind = 0) && !decide (list ≤ 7)) := by
        cases hl : o.l <;> simp [opDeep, hl]
      simp
      refine ⟨fun hc => ?_, fun a b c hr => ?_⟩
      · refine frz_bool ?_
        rw [hop, hf]
        cases hr : rightE d o.e
        · simp [hk3]
        · simp only [hr, Bool.true_eq_false, or_false] at hc
          rcases hc with (hc | hc) | hc <;> simp [hk3, hc]
      · have hl0 : ¬ 0 < o.l.length := by simp [a]
        have hfit : Frz (lkH [([0], { u := 1, ob := Ob.cells (iv o.kind :: iv o.n :: tKs o.l :: eL o.e) })]) (bv (opFit list o)) (bv (opFlat list o && (!decide (o.kind = 3) || opDeep list o && rightE d o.e && opFit list o))) := by
          refine frz_bool ?_
          rw [hop, hf, hr]
          have c' := Int.not_le.2 c
          simp [hk3, hl0, b, c']
        by_cases l8 : list = 8
        · simp [l8]
          simpa [l8, opFit] using hfit
        · by_cases k2 : o.e.kind = 2
          · simp [l8, k2]
            simpa [l8, k2, opFit] using hfit
          · by_cases k1 : o.e.kind = 1
            · by_cases x1 : o.e.old.kind = 1
              · simp [l8, k2, k1, x1]
                simpa [l8, k2, k1, x1, opFit] using hfit
              · simp [l8, k2, k1, x1]
                simpa [l8, k2, k1, x1, opFit] using hfit
            · simp [l8, k2, k1]
              simpa [l8, k2, k1, opFit] using hfit

/-! ### an edit -/
section
variable {n0 : Nat} {w0 : World} {I0 : Nat → Prop} {Q : Exit → Sta → Prop}
theorem eright_l1 {e : E} {d : Nat} (hl : e.words.length * 32 ≤ 140737488355328) (hw : ∀ x, x ∈ e.words → WE.wf x) : ∀ (m i : Nat) (last : Int) (H : Hp), i + m = e.words.length → H [0] = ⟨1, .cells (eL e)⟩ →
    (wordsOk last (e.words.drop i) = true → ∀ i' z q H', H' [0] = ⟨1, .cells (eL e)⟩ → Q (.exit 0) ⟨lk [(1, iv d), (2, .pob [0] 1 0), (5, iv z), (6, iv i'), (97, bv q)], H'⟩) → (wordsOk last (e.words.drop i) = false → ∀ H', Q .ret ⟨lk [(4, bv false)], H'⟩) →
    LoopC (cx Try.prog w0 I0 n0) l1_centoref20_Right Q ⟨lk [(1, iv d), (2, .pob [0] 1 0), (5, iv last), (6, iv i)], H⟩ := by
  intro m
  induction m with
  | zero =>
    intro i last H hi hA h1 h2
    have : i = e.words.length := by omega
    subst this
    refine loopC_once mixed l1_centoref20_Right.eq_1 ?_
    simp [hA]
    exact h1 (by simp [wordsOk]) _ _ _ _ hA
  | succ m ihm =>
    intro i last H hi hA h1 h2
    have hlt : i < e.words.length := by omega
    have ed : e.words.drop i = e.words[i] :: e.words.drop (i + 1) := List.drop_eq_getElem_cons hlt
    have ei : IntKind.i64.wrap ((i : Int) + 1) = ((i + 1 : Nat) : Int) := i64_same (by omega) (by omega)
    obtain ⟨w1, w2, w3, w4⟩ := hw _ (List.getElem_mem hlt)
    rw [ed, wordsOk] at h1 h2
    generalize hx : e.words[i] = x at *
    refine loopC_once mixed l1_centoref20_Right.eq_1 ?_
    simp [hA, hlt, hx, updF_app]
    refine sc_call_gf rfl (fun _ => within_spec' w3 w2.1 w2.2) (fun e => by simp only [Bool.or_eq_false_iff] at e; simp [e]) rfl ?_
    simp
    refine sc_call_gf rfl (fun _ => within_spec' w4 w2.1 w2.2) (fun e => by simp only [Bool.or_eq_false_iff] at e; simp [e]) rfl ?_
    simp
    have hok : wordOk last x = !(decide (x.at_ ≤ last) || decide (65534 < x.at_) || decide (x.mask = 0) || !withinZ x.old x.mask || !withinZ x.new x.mask) := rfl
    refine ⟨fun hc => h2 ?_ _, fun a b c d e => ?_⟩
    · have : wordOk last x = false := by
        rw [hok]
        rcases hc with (((hc | hc) | hc) | hc) | hc <;> simp [hc]
      simp [this]
    · have : wordOk last x = true := by
        rw [hok]
        simp [c, d, e]
        omega
      simp [this] at h1 h2
      simp [ei, updF_app]
      exact ihm (i + 1) x.at_ _ (by omega) (by simp [updF_app, hA]) (fun hh i' z q H' hh' => by have := h1 hh i' z; cases q; exact this.1 H' hh'; exact this.2 H' hh') (fun hh => h2 hh)
theorem eright_l2 {e : E} {d : Nat} (hd : 1 ≤ d) (hd1 : d ≤ 1000) (hl : e.kids.length * 208 ≤ 140737488355328) (ih : ∀ x, x ∈ e.kids → RightS x.e) : ∀ (m i : Nat) (last : Int) (H : Hp), i + m = e.kids.length → H [0] = ⟨1, .cells (eL e)⟩ →
    (rightKs (d - 1) last (e.kids.drop i) = true → ∀ i' z q H', H' [0] = ⟨1, .cells (eL e)⟩ → Q (.exit 2) ⟨lk [(1, iv d), (2, .pob [0] 1 0), (5, iv z), (8, iv i'), (141, bv q)], H'⟩) → (rightKs (d - 1) last (e.kids.drop i) = false → ∀ H', Q .ret ⟨lk [(4, bv false)], H'⟩) →
    LoopC (cx Try.prog w0 I0 n0) l2_centoref20_Right Q ⟨lk [(1, iv d), (2, .pob [0] 1 0), (5, iv last), (8, iv i)], H⟩ := by
  intro m
  induction m with
  | zero =>
    intro i last H hi hA h1 h2
    have : i = e.kids.length := by omega
    subst this
    refine loopC_once mixed l2_centoref20_Right.eq_1 ?_
    simp [hA]
    exact h1 (by simp) _ _ _ _ hA
  | succ m ihm =>
    intro i last H hi hA h1 h2
    have hlt : i < e.kids.length := by omega
    have ed : e.kids.drop i = e.kids[i] :: e.kids.drop (i + 1) := List.drop_eq_getElem_cons hlt
    have ei : IntKind.i64.wrap ((i : Int) + 1) = ((i + 1 : Nat) : Int) := i64_same (by omega) (by omega)
    have edd : IntKind.i64.wrap ((d : Int) - 1) = ((d - 1 : Nat) : Int) := by rw [i64_same (by omega) (by omega)]; omega
    have ihx := ih _ (List.getElem_mem hlt) (d - 1) (by omega)
    rw [ed, rightKs_cons] at h1 h2
    generalize hx : e.kids[i] = x at *
    refine loopC_once mixed l2_centoref20_Right.eq_1 ?_
    simp [hA, hlt, hx, updF_app, edd]
    refine sc_call_gf rfl (fun _ => ihx) (fun e => by simp only [Bool.or_eq_false_iff] at e; simp [e]) rfl ?_
    simp
    refine ⟨fun hc => h2 ?_ _, fun a b c hr => ?_⟩
    · rcases hc with ((hc | hc) | hc) | hc <;> simp [hc]
    · have c' : ¬ x.e.kind = 0 := c
      have a' : ¬ x.at_ ≤ last := by omega
      have b' : ¬ 65534 < x.at_ := by omega
      simp [a', b', c', hr] at h1 h2
      simp [ei, updF_app]
      exact ihm (i + 1) x.at_ _ (by omega) (by simp [updF_app, hA]) (fun hh i' z q H' hh' => by have := h1 hh i' z; cases q; exact this.1 H' hh'; exact this.2 H' hh') (fun hh => h2 hh)
theorem eright_l3 {e : E} {d : Nat} (hd : 1 ≤ d) (hd1 : d ≤ 1000) (hl : e.ops.length * 240 ≤ 140737488355328) (hk : i64R e.list) (hw : ∀ x, x ∈ e.ops → WfO x) (ih : ∀ x, x ∈ e.ops → RightS x.e) {H : Hp} (hA : H [0] = ⟨1, .cells (eL e)⟩) : ∀ (m i : Nat), i + m = e.ops.length →
    (rightOs (d - 1) e.list (e.ops.drop i) = true → ∀ i' q, Q (.exit 4) ⟨lk [(1, iv d), (2, .pob [0] 1 0), (10, iv i'), (191, bv q)], H⟩) → (rightOs (d - 1) e.list (e.ops.drop i) = false → Q .ret ⟨lk [(4, bv false)], H⟩) →
    LoopC (cx Try.prog w0 I0 n0) l3_centoref20_Right Q ⟨lk [(1, iv d), (2, .pob [0] 1 0), (10, iv i)], H⟩ := by
  intro m
  induction m with
  | zero =>
    intro i hi h1 h2
    have : i = e.ops.length := by omega
    subst this
    refine loopC_once mixed l3_centoref20_Right.eq_1 ?_
    simp [hA]
    exact h1 (by simp) _ _
  | succ m ihm =>
    intro i hi h1 h2
    have hlt : i < e.ops.length := by omega
    have ed : e.ops.drop i = e.ops[i] :: e.ops.drop (i + 1) := List.drop_eq_getElem_cons hlt
    have ei : IntKind.i64.wrap ((i : Int) + 1) = ((i + 1 : Nat) : Int) := i64_same (by omega) (by omega)
    have edd : IntKind.i64.wrap ((d : Int) - 1) = ((d - 1 : Nat) : Int) := by rw [i64_same (by omega) (by omega)]; omega
    have hop := op_spec hk (hw _ (List.getElem_mem hlt)) (ih _ (List.getElem_mem hlt)) (d := d - 1) (by omega)
    rw [ed, rightOs_cons] at h1 h2
    refine loopC_once mixed l3_centoref20_Right.eq_1 ?_
    simp [hA, hlt, edd]
    refine sc_call hop rfl ?_
    cases hr : rightO (d - 1) e.list e.ops[i] with
    | false =>
      simp
      exact h2 (by simp [hr])
    | true =>
      simp [ei]
      exact ihm (i + 1) (by omega) (fun hh => h1 (by simp [hr, hh])) (fun hh => h2 (by simp [hh]))
end
theorem op_n {d : Nat} {list : Int} {o : OP} (h : rightO d list o = true) : 0 ≤ o.n ∧ o.n ≤ 1048576 := by
  rw [rightO_eq, Bool.and_eq_true] at h
  have h1 := h.1
  unfold opFlat at h1
  split at h1
  · simp at h1; omega
  · split at h1
    · cases h1
    · omega
theorem headOk_of {d : Nat} {k : Int} {o n : T} {nw nk : Nat} {l : Int} {no : Nat} (hd : ¬ d = 0) (k0 : 0 ≤ k) (k3 : k ≤ 3) (c1 : k ≠ 1 → noneT o = true ∧ noneT n = true) (c2 : k ≠ 2 → nw + nk = 0) (c3 : k ≠ 3 → l = 0 ∧ no = 0) : headOk d k o n nw nk l no = true := by
  unfold headOk
  have h1 : decide (d = 0) = false := by simpa using hd
  have h2 : decide (k < 0) = false := by simp; omega
  have h3 : decide (k > 3) = false := by simp; omega
  rw [h1, h2, h3]
  have a1 : (!decide (k = 1) && !(noneT o && noneT n)) = false := by
    by_cases e : k = 1
    · simp [e]
    · simp [c1 e]
  have a2 : (!decide (k = 2) && decide (nw + nk > 0)) = false := by
    by_cases e : k = 2
    · simp [e]
    · simp [c2 e]
  have a3 : (!decide (k = 3) && (!decide (l = 0) || decide (no > 0))) = false := by
    by_cases e : k = 3
    · simp [e]
    · simp [c3 e]
  rw [a1, a2, a3]; rfl
set_option maxRecDepth 10000 in
theorem eright_spec : ∀ (e : E), wfE e → RightS e := by
  refine E.ind fun k o nn ws ks l os ihk iho hw d hd => ?_
  have h := wfE_iff.1 hw
  have hwl := h.wl
  have hkl := h.kl
  have hol := h.ol
  simp at hwl hkl hol
  refine spec_of t_centoref20_Right (by simp) fun w0 I0 => ?_
  unfold c_centoref20_Right
  rw [rightE_mk]
  by_cases hd0 : d = 0 ∨ k < 0 ∨ 3 < k
  · have hb : (decide (d = 0) || decide (k < 0) || decide (3 < k)) = true := by simp; omega
    simp [hb]
    refine frz_bool ?_
    have : headOk d k o nn ws.length ks.length l os.length = false := by simp only [headOk, hb, gt_iff_lt, Bool.not_true, Bool.false_and]
    simp [this]
  have hb : (decide (d = 0) || decide (k < 0) || decide (3 < k)) = false := by simp; omega
  have e1 : IntKind.i64.wrap ((ws.length : Int) + ks.length) = (ws.length : Int) + ks.length := i64_same (by omega) (by omega)
  have hd00 : ¬ d = 0 := by omega
  have wz : IntKind.i64.wrap 0 = 0 := by decide
  have ihk' : ∀ x, x ∈ (E.mk k o nn ws ks l os).kids → RightS x.e := fun x hx => ihk x hx (h.ks x hx).2
  have iho' : ∀ x, x ∈ (E.mk k o nn ws ks l os).ops → RightS x.e := fun x hx => iho x hx (h.os x hx).e
  have fz : ∀ (b : Bool) (H : Hp), b = false → Frz H (.v (.bool false)) (bv b) := fun b H hb => frz_bool hb.symm
  cases hh : headOk d k o nn ws.length ks.length l os.length with
  | false =>
    rw [if_pos rfl]
    by_cases h1 : k = 1
    · subst h1
      simp [e1, hd00]
      refine sc_call_off rfl ?_
      simp
      refine sc_call_off rfl ?_
      by_cases a1 : (0 : Int) < (ws.length : Int) + ks.length
      · simp [e1, a1]; exact fz _ _ rfl
      · by_cases a2 : l = 0
        · by_cases a3 : 0 < os.length
          · simp [e1, a1, a2, a3]; exact fz _ _ rfl
          · have : headOk d 1 o nn ws.length ks.length l os.length = true := headOk_of hd00 (by omega) (by omega) (fun h => absurd rfl h) (fun _ => by omega) (fun _ => ⟨a2, by omega⟩)
            rw [hh] at this; cases this
        · simp [e1, a1, a2]; exact fz _ _ rfl
    · simp [hb, h1, e1]
      refine sc_call_gt rfl (fun _ => none_spec' h.o) (fun _ => rfl) rfl ?_
      simp [h1, e1]
      refine sc_call_gt rfl (fun _ => none_spec' h.n) (fun e => by simp [e]) rfl ?_
      cases n1 : noneT o with
      | false => cases n2 : noneT nn <;> (simp [n1, n2, e1]; exact fz _ _ rfl)
      | true =>
        cases n2 : noneT nn with
        | false => simp [n1, n2, e1]; exact fz _ _ rfl
        | true =>
          by_cases k2 : k = 2
          · subst k2
            by_cases a2 : l = 0
            · by_cases a3 : 0 < os.length
              · simp [e1, a2, a3]; exact fz _ _ rfl
              · have : headOk d 2 o nn ws.length ks.length l os.length = true := headOk_of hd00 (by omega) (by omega) (fun _ => ⟨n1, n2⟩) (fun h => absurd rfl h) (fun _ => ⟨a2, by omega⟩)
                rw [hh] at this; cases this
            · simp [e1, a2]; exact fz _ _ rfl
          · by_cases a1 : (0 : Int) < (ws.length : Int) + ks.length
            · simp [e1, k2, a1]; exact fz _ _ rfl
            · by_cases k3 : k = 3
              · have : headOk d k o nn ws.length ks.length l os.length = true := headOk_of hd00 (by omega) (by omega) (fun _ => ⟨n1, n2⟩) (fun _ => by omega) (fun h => absurd k3 h)
                rw [hh] at this; cases this
              · by_cases a2 : l = 0
                · by_cases a3 : 0 < os.length
                  · simp [e1, k2, k3, a1, a2, a3]; exact fz _ _ rfl
                  · have : headOk d k o nn ws.length ks.length l os.length = true := headOk_of hd00 (by omega) (by omega) (fun _ => ⟨n1, n2⟩) (fun _ => by omega) (fun _ => ⟨a2, by omega⟩)
                    rw [hh] at this; cases this
                · simp [e1, k2, k3, a1, a2]; exact fz _ _ rfl
  | true =>
    rw [if_neg (by simp)]
    obtain ⟨_, k0, k3, c1, c2, c3⟩ := headOk_spec (by rw [hh]; simp)
    by_cases h1 : k = 1
    · subst h1
      obtain ⟨w0', s0⟩ := c2 (by omega)
      obtain ⟨l0, o0⟩ := c3 (by omega)
      have hws : ws = [] := List.eq_nil_of_length_eq_zero w0'
      have hks : ks = [] := List.eq_nil_of_length_eq_zero s0
      have hos : os = [] := List.eq_nil_of_length_eq_zero o0
      subst hws hks hos l0
      simp [e1, hd00]
      refine sc_call_off rfl ?_
      simp
      refine sc_call_off rfl ?_
      simp [wz]
      refine sc_call (rRight_spec o h.o 64 (by omega)) rfl ?_
      simp
      refine sc_call_gt rfl (fun _ => rRight_spec nn h.n 64 (by omega)) (fun e => by simp [e]) rfl ?_
      simp
      exact frz_bool (by simp [Bool.and_assoc])
    · obtain ⟨rfl, rfl⟩ := c1 h1
      have nT : noneT T0 = true := rfl
      have cases3 : k = 2 ∧ l = 0 ∧ os = [] ∨ k = 3 ∧ ws = [] ∧ ks = [] ∨ k = 0 ∧ ws = [] ∧ ks = [] ∧ l = 0 ∧ os = [] := by
        by_cases k2 : k = 2
        · obtain ⟨l0, o0⟩ := c3 (by omega)
          exact .inl ⟨k2, l0, List.eq_nil_of_length_eq_zero o0⟩
        · obtain ⟨w0', s0⟩ := c2 k2
          by_cases k3 : k = 3
          · exact .inr (.inl ⟨k3, List.eq_nil_of_length_eq_zero w0', List.eq_nil_of_length_eq_zero s0⟩)
          · obtain ⟨l0, o0⟩ := c3 k3
            exact .inr (.inr ⟨by omega, List.eq_nil_of_length_eq_zero w0', List.eq_nil_of_length_eq_zero s0, l0, List.eq_nil_of_length_eq_zero o0⟩)
      rw [if_neg h1]
      clear c1 c2 c3 hh h1 k0 k3 ihk iho
      rcases cases3 with ⟨rfl, rfl, rfl⟩ | ⟨rfl, rfl, rfl⟩ | ⟨rfl, rfl, rfl, rfl, rfl⟩
      all_goals
        simp [hd00, e1]
        refine sc_call_gt rfl (fun _ => none_spec' h.o) (fun _ => rfl) rfl ?_
        simp [nT, e1]
        refine sc_call_gt rfl (fun _ => none_spec' h.n) (fun e => by simp [e]) rfl ?_
        simp [nT, e1, wz]
        refine eright_l1 (hl := h.wl) (hw := h.w) _ 0 (-1) _ (by simp; rfl) (by simp) (fun hr i' z q H' hA => ?_) (fun hr H' => ?_)
        rotate_left
        · first
            | (simp [wordsOk] at hr; done)
            | (simp at hr; simp; exact fz _ _ (by simp [hr]))
        simp at hr
        simp
        refine eright_l2 (by omega) hd (hl := h.kl) (ih := ihk') _ 0 (-1) _ (by simp; rfl) hA (fun hr2 i' z q H' hA => ?_) (fun hr2 H' => ?_)
        rotate_left
        · first
            | (simp at hr2; done)
            | (simp at hr2; simp; exact fz _ _ (by simp [hr2]))
        try simp at hr2
      · simp [hA]
        refine eright_l3 (by omega) hd (hl := h.ol) h.l h.os iho' hA _ 0 (by simp; rfl) (fun hr3 i' q => ?_) (fun hr3 => ?_)
        rotate_left
        · simp at hr3
        simp [hA]
        refine sc_call (rLengths_spec (e := .mk 2 T0 T0 ws ks 0 []) h.ol (fun x hx => by simp at hx)) rfl ?_
        simp
        refine frz_bool ?_
        simp [hr, hr2, lengths]
      · by_cases hl : l < 2 ∨ 9 < l
        · have hl' : (decide (l < 2) || decide (9 < l)) = true := by simpa using hl
          simp [hA, hl']
          exact fz _ _ (by simp [hr]; intro a b; omega)
        · have hl' : (decide (l < 2) || decide (9 < l)) = false := by simpa using hl
          simp [hA, hl']
          refine eright_l3 (by omega) hd (hl := h.ol) h.l h.os iho' hA _ 0 (by simp; rfl) (fun hr3 i' q => ?_) (fun hr3 => ?_)
          rotate_left
          · simp at hr3
            simp
            exact fz _ _ (by simp [hr3])
          simp at hr3
          simp [hA]
          refine sc_call (rLengths_spec (e := .mk 3 T0 T0 [] [] l os) h.ol (fun x hx => ⟨(op_n (rightOs_all.1 hr3 x hx)).1, (op_n (rightOs_all.1 hr3 x hx)).2, (h.os x hx).ll⟩)) rfl ?_
          simp
          refine frz_bool ?_
          have hl2 : ¬ (l < 2 ∨ l > 9) := hl
          simp [hr, hr3, hl2]
          intro _ _
          omega
      · simp [hA]
        refine eright_l3 (by omega) hd (hl := h.ol) h.l h.os iho' hA _ 0 (by simp; rfl) (fun hr3 i' q => ?_) (fun hr3 => ?_)
        rotate_left
        · simp at hr3
        simp [hA]
        refine sc_call (rLengths_spec (e := .mk 0 T0 T0 [] [] 0 []) h.ol (fun x hx => by simp at hx)) rfl ?_
        simp
        refine frz_bool ?_
        simp [wordsOk, lengths]
end Go.Proofs.Ytigdcnlhgelkaaa
