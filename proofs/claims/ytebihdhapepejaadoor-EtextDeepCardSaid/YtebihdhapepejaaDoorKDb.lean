/-
  Texts, merged, without what is not reached.
-/
import Derived.Test.YtebihdhapepejaaDoorKDa
/-
  The program's trees: which ones are right, and which mean the same.
-/
namespace Go.Proofs.YtebihdhapepejaaDoor
set_option linter.unusedVariables false
set_option linter.unusedSimpArgs false
open Go Go.G Go.Proofs Go.PL
theorem pFits_spec {c n : Int} (h : u64R n) : G.Spec Tryd.prog 88 [iv c, uv n] (bv (fitsZ c n)) := by
  refine spec_of t_word_Fits (by simp) fun w0 I0 => ?_
  unfold c_word_Fits
  simp
  refine sc_call (width_spec c) rfl ?_
  have hw := widthZ_cases c
  unfold fitsZ
  rcases hw with h1 | h1 | h1 | h1 | h1 | h1 | h1
  all_goals
    rw [h1]
    simp
    refine frz_bool ?_
  all_goals try rfl
  all_goals
    obtain ⟨n0, n1⟩ := h
    have hb : IntKind.u64.bits = 64 := rfl
    simp [hb]
  all_goals omega
theorem tList_spec (k : Int) : G.Spec Tryd.prog 26 [iv k] (bv (decide (2 ≤ k) && decide (k ≤ 9))) := by
  refine spec_of t_tree_List (by simp) fun w0 I0 => ?_
  unfold c_tree_List
  simp
  exact frz_bare rfl
/-- May a tree be a kid of a list, by its own kind? -/
def pkid (list : Int) (t : T) : Bool := if isData list = true then decide (t.kind = 10) && t.kids.isEmpty && decide (t.words.length = 1) && fitsZ (list - 2) (t.words.headD 0) else if list = 9 then decide (t.kind = 1) else !decide (t.kind = 10)
theorem pkid_eq {list : Int} {t : T} {d : Nat} (h1 : list ≠ 1) : (pkid list t && rightT d t) = (rightT d t && kidOk list t) := by
  unfold pkid kidOk
  cases hd : isData list with
  | true =>
    simp only [if_true]
    by_cases h10 : t.kind = 10
    · have e : rightT d t = (decide (t.words.length = 1) && t.kids.isEmpty) := by
        obtain ⟨k, w, l⟩ := t
        simp at h10
        subst h10
        rw [rightT_mk]
        rfl
      have n9 : list ≠ 9 := fun e => by subst e; simp [isData] at hd
      rw [e]
      simp [h10, n9]
      cases decide (t.words.length = 1) <;> cases t.kids.isEmpty <;> simp
    · simp [h10]
  | false =>
    simp
    by_cases h9 : list = 9
    · subst h9
      simp
      cases h : rightT d t <;> simp
      by_cases h1 : t.kind = 1 <;> simp [h1]
    · simp [h9]
      cases h : rightT d t <;> simp
theorem pKid_spec (list : Int) (hl : i64R list) {t : T} (h : wfT t) : G.Spec Tryd.prog 71 [iv list, tX t] (bv (pkid list t)) := by
  have hw := wfT_iff.1 h
  refine spec_of t_tree_kid (by simp) fun w0 I0 => ?_
  unfold c_tree_kid
  simp
  refine sc_call (data_spec list) rfl ?_
  cases hd : isData list with
  | false =>
    simp
    by_cases h9 : list = 9
    · simp [h9]
      refine frz_bool ?_
      simp [pkid, isData]
    · simp [h9]
      refine frz_bool ?_
      simp [pkid, hd, h9]
  | true =>
    have hd' := hd
    simp [isData] at hd'
    by_cases hc : t.kind = 10 ∧ t.kids = [] ∧ t.words.length = 1
    · obtain ⟨c1, c2, c3⟩ := hc
      obtain ⟨x, hx⟩ : ∃ x, t.words = [x] := List.length_eq_one_iff.1 c3
      have hxr : u64R x := hw.w x (by rw [hx]; simp)
      have e2 : IntKind.i64.wrap (list - 2) = list - 2 := i64_same (by omega) (by omega)
      simp [c1, c2, hx, e2]
      refine sc_call_gt rfl (fun _ => pFits_spec hxr) (fun _ => rfl) rfl ?_
      simp
      refine frz_bool ?_
      simp [pkid, hd, c1, c2, hx]
    · have hp : pkid list t = false := by
        unfold pkid
        rw [if_pos hd]
        rw [Bool.eq_false_iff]
        intro e
        simp at e
        exact hc ⟨e.1.1.1, e.1.1.2, e.1.2⟩
      by_cases c1 : t.kind = 10
      · by_cases c2 : t.kids = []
        · have c3 : ¬ t.words.length = 1 := fun e => hc ⟨c1, c2, e⟩
          have c3' : ¬ (t.words.length : Int) = 1 := by omega
          simp [c1, c2, c3, c3']
          refine sc_call_off rfl ?_
          simp
          rw [hp]
          exact frz_bare rfl
        · have c2' : ¬ (t.kids.length : Int) = 0 := fun e => c2 (List.length_eq_zero_iff.1 (by omega))
          simp [c1, c2, c2']
          refine sc_call_off rfl ?_
          simp
          rw [hp]
          exact frz_bare rfl
      · simp [c1]
        refine sc_call_off rfl ?_
        simp
        rw [hp]
        exact frz_bare rfl
section
variable {n0 : Nat} {w0 : World} {I0 : Nat → Prop} {Q : Exit → Sta → Prop}
theorem pright_k1 {Q' : Exit → Sta → Prop} {c : T} {d : Nat} {b : Bool} {u : Nat} {p x y z : A} {H : Hp} (hd : 1 ≤ d) (hd1 : d ≤ 1000) (ihc : G.Spec Tryd.prog 52 [tX c, iv (d - 1 : Nat)] (bv (rightT (d - 1) c))) (hB : H [1] = ⟨u, .cells (tL c)⟩)
    (h1 : (b && rightT (d - 1) c) = true → Q' .normal ⟨lk [(1, iv d), (2, p), (71, x), (72, y), (73, z), (95, bv false)], H⟩) (h2 : (b && rightT (d - 1) c) = false → Q' .ret ⟨lk [(4, bv false)], H⟩) :
    WPC (cx Tryd.prog w0 I0 n0) k1_tree_right Q' ⟨lk [(1, iv d), (2, p), (6, .pob [1] u 0), (7, bv b), (71, x), (72, y), (73, z)], H⟩ := by
  rw [k1_tree_right.eq_1]
  have ed : IntKind.i64.wrap ((d : Int) - 1) = ((d - 1 : Nat) : Int) := by rw [i64_same (by omega) (by omega)]; omega
  cases b with
  | false =>
    simp
    refine sc_call_off rfl ?_
    simp
    exact h2 rfl
  | true =>
    simp [hB, ed]
    refine sc_call_gf rfl (fun _ => ihc) (fun _ => rfl) rfl ?_
    cases hr : rightT (d - 1) c with
    | false => simp; exact h2 (by simp [hr])
    | true => simp; exact h1 (by simp [hr])
theorem pright_l1 {t : T} (hk : i64R t.kind) (hl : t.kids.length * 56 ≤ 140737488355328) {d : Nat} (hd : 1 ≤ d) (hd1 : d ≤ 1000) (hw : ∀ c, c ∈ t.kids → wfT c) (ih : ∀ c, c ∈ t.kids → ∀ d : Nat, d ≤ 1000 → G.Spec Tryd.prog 52 [tX c, iv d] (bv (rightT d c))) : ∀ (m i : Nat) (H : Hp), i + m = t.kids.length → H [0] = ⟨1, .cells (tL t)⟩ →
    (rightL (d - 1) t.kind (t.kids.drop i) = true → ∀ i' q H', Q (.exit 1) ⟨lk [(1, iv d), (2, .pob [0] 1 0), (71, tKs t.kids), (72, iv t.kids.length), (73, iv i'), (74, bv q)], H'⟩) → (rightL (d - 1) t.kind (t.kids.drop i) = false → ∀ H', Q .ret ⟨lk [(4, bv false)], H'⟩) →
    LoopC (cx Tryd.prog w0 I0 n0) l1_tree_right Q ⟨lk [(1, iv d), (2, .pob [0] 1 0), (71, tKs t.kids), (72, iv t.kids.length), (73, iv i)], H⟩ := by
  intro m
  induction m with
  | zero =>
    intro i H hi hA h1 h2
    have : i = t.kids.length := by omega
    subst this
    refine loopC_once mixed l1_tree_right.eq_1 ?_
    simp
    exact h1 (by simp) _ _ _
  | succ m ihm =>
    intro i H hi hA h1 h2
    have hlt : i < t.kids.length := by omega
    have e : t.kids.drop i = t.kids[i] :: t.kids.drop (i + 1) := List.drop_eq_getElem_cons hlt
    have ei : IntKind.i64.wrap ((i : Int) + 1) = ((i + 1 : Nat) : Int) := i64_same (by omega) (by omega)
    rw [e, rightL_cons] at h1 h2
    have hwc := hw _ (List.getElem_mem hlt)
    have ihc := ih _ (List.getElem_mem hlt) (d - 1) (by omega)
    generalize hc : t.kids[i] = c at *
    refine loopC_once mixed l1_tree_right.eq_1 ?_
    simp [hA, hlt, hc, updF_app]
    refine ⟨fun h10 => ?_, fun h10 => ?_⟩
    · have ek : kidOk t.kind c = !decide (c.kind = 10) := by
        unfold kidOk
        rw [h10]
        by_cases e : c.kind = 10 <;> simp [isData, e]
      try simp [hA, updF_app, h10]
      refine pright_k1 (c := c) hd hd1 ihc (by simp [updF_app]) (fun hr => ?_) (fun hr => ?_)
      · simp [ei]
        refine ihm (i + 1) _ (by omega) (by simp [updF_app, hA]) (fun hh => h1 ?_) (fun hh => h2 ?_)
        · rw [ek, hh]; simpa using And.comm.1 (by simpa using hr)
        · rw [hh]; simp
      · simp
        refine h2 ?_ _
        rw [ek]
        have : (rightT (d - 1) c && !decide (c.kind = 10)) = false := by rw [Bool.and_comm]; simpa using hr
        rw [this]; rfl
    · have ek := pkid_eq (t := c) (d := d - 1) h10
      simp [hA, updF_app, h10]
      refine sc_call (pKid_spec t.kind hk hwc) rfl ?_
      simp
      refine pright_k1 (c := c) hd hd1 ihc (by simp [updF_app]) (fun hr => ?_) (fun hr => ?_)
      · simp [ei]
        rw [ek] at hr
        refine ihm (i + 1) _ (by omega) (by simp [updF_app, hA]) (fun hh => h1 ?_) (fun hh => h2 ?_)
        · rw [hr, hh]; rfl
        · rw [hh]; simp
      · simp
        refine h2 ?_ _
        rw [ek] at hr
        rw [hr]; rfl
end
theorem pRight_spec : ∀ (t : T), wfT t → ∀ d : Nat, d ≤ 1000 → G.Spec Tryd.prog 52 [tX t, iv d] (bv (rightT d t)) := by
  refine T.ind fun k w l ih hw d hd => ?_
  have hw' := wfT_iff.1 hw
  have hwl := hw'.wl
  have hkl := hw'.kl
  have hk := hw'.k
  simp at hwl hkl hk
  refine spec_of t_tree_right (by simp) fun w0 I0 => ?_
  unfold c_tree_right
  rw [rightT_mk]
  by_cases h0 : k = 0
  · simp [h0]
    exact frz_bool (by cases w <;> cases l <;> simp <;> (rw [← List.length_eq_zero_iff]; omega))
  by_cases h10 : k = 10
  · simp [h10]
    exact frz_bool (by cases w <;> cases l <;> simp <;> (rw [← List.length_eq_zero_iff]; omega))
  rw [if_neg h0, if_neg h10]
  obtain ⟨R, hR⟩ : ∃ R, R = (if tooBig k d w.length l.length = true then false else rightL (d - 1) k l) := ⟨_, rfl⟩
  rw [← hR]
  have bad : tooBig k d w.length l.length = true → R = false := fun h => by rw [hR, if_pos h]
  by_cases hd0 : d = 0
  · subst hd0
    simp [h0, h10]
    exact frz_bool (bad (by simp [tooBig])).symm
  have fin : tooBig k d w.length l.length = false → WPC (cx Tryd.prog w0 I0 97) k2_tree_right (RetC Tryd.prog [.tmp 4] (bv R)) ⟨lk [(1, iv d), (2, .pob [0] 1 0)], lkH [([0], ⟨1, .cells [iv k, uws w, tKs l]⟩)]⟩ := fun hb => by
    rw [if_neg (by rw [hb]; simp)] at hR
    subst hR
    rw [k2_tree_right.eq_1]
    simp
    refine pright_l1 (t := .mk k w l) (by simpa using hk) (by simpa using hkl) (by omega) hd (fun c hc => hw'.ks c hc) (fun c hc => ih c hc (hw'.ks c hc)) l.length 0 _ (by simp) (by simp) (fun hr i' q H' => ?_) (fun hr H' => ?_)
    · simp
      exact frz_bool (by simpa using hr.symm)
    · simp
      exact frz_bool (by simpa using hr.symm)
  by_cases h1 : k = 1
  · subst h1
    by_cases hb : 65536 ≤ w.length ∨ 65536 ≤ l.length
    · have hb' : (decide (65536 ≤ (w.length : Int)) || decide (65536 ≤ (l.length : Int))) = true := by simp; omega
      simp [hd0, hb']
      exact frz_bool (bad (by simp [tooBig]; omega)).symm
    · have hb' : (decide (65536 ≤ (w.length : Int)) || decide (65536 ≤ (l.length : Int))) = false := by simp; omega
      simp [hd0, hb']
      exact fin (by simp [tooBig]; omega)
  · simp [h0, h10, h1, hd0]
    refine sc_call (tList_spec k) rfl ?_
    simp
    refine ⟨fun hc => ?_, fun a b c e => ?_⟩
    · exact frz_bool (bad (by simp [tooBig]; omega)).symm
    · refine fin ?_
      rw [Bool.eq_false_iff]
      unfold tooBig
      simp only [Bool.or_eq_true, Bool.and_eq_true, decide_eq_true_eq, ne_eq]
      have hl0 : w.length = 0 := by first | omega | simp [c]
      omega
theorem ptRight_spec {t : T} (h : wfT t) : G.Spec Tryd.prog 40 [tX t] (bv (rightT 64 t)) := by
  refine spec_of t_tree_Right (by simp) fun w0 I0 => ?_
  unfold c_tree_Right
  simp
  refine sc_call (pRight_spec t h 64 (by omega)) (by simp) ?_
  simp
  exact frz_bare rfl
end Go.Proofs.YtebihdhapepejaaDoor

/-
  Trees told as text by the program.
-/
namespace Go.Proofs.YtebihdhapepejaaDoor
set_option linter.unusedVariables false
set_option linter.unusedSimpArgs false
open Go Go.G Go.Proofs Go.PL
def Shw (t : T) : Prop := ∀ (a : Bool) (l : List UInt8) (v : Nat), l.length + (showT t).length ≤ 70368744177664 → ∃ v', SpecF Tryd.prog 28 (fun r => [bp r, tX t]) (bdF a l v) (fun _ => .tup []) (bdF true (l ++ showT t) v')
theorem join_snoc_len (l : List (List UInt8)) (x : List UInt8) : (joinC l).length ≤ (joinC (l ++ [x])).length := by
  rw [joinC_snoc]
  split
  · rename_i h; subst h; simp
  · simp
theorem join_take_le {α : Type} (f : α → List UInt8) (l : List α) : ∀ (m i : Nat), i + m = l.length → (joinC ((l.take i).map f)).length ≤ (joinC (l.map f)).length
  | 0, i, h => by rw [List.take_of_length_le (by omega)]; exact Nat.le_refl _
  | m + 1, i, h => by
    have := join_take_le f l m (i + 1) (by omega)
    refine Nat.le_trans ?_ this
    rw [List.take_succ_eq_append_getElem (by omega), List.map_append]
    exact join_snoc_len _ _
theorem join_step {α : Type} (f : α → List UInt8) (l : List α) (i : Nat) (hi : i < l.length) : joinC ((l.take (i + 1)).map f) = if i = 0 then f l[i] else joinC ((l.take i).map f) ++ 44 :: f l[i] := by
  rw [List.take_succ_eq_append_getElem hi, List.map_append, List.map_singleton, joinC_snoc]
  by_cases h : i = 0
  · subst h; simp
  · rw [if_neg h, if_neg]
    intro e
    have := congrArg List.length e
    simp at this
    rcases this with h1 | h1
    · exact h h1
    · subst h1; simp at hi
theorem all_l1 {ks : List T} (hks : ks.length * 56 ≤ 140737488355328) (ih : ∀ c, c ∈ ks → Shw c) {l : List UInt8} (hl : l.length + (joinC (ks.map showT)).length ≤ 70368744177664) : ∀ (m i v : Nat), i + m = ks.length → ∃ v', ∀ {n0 : Nat} {w0 : World} {I0 : Nat → Prop} {M0 : Nm → Nat → Prop} {m0 : Mu} {Q : Exit → Sta → Prop} (H : Hp), (∀ p, H (0 :: p) = (bdF true (l ++ joinC ((ks.take i).map showT)) v).F 0 p) →
    (∀ (H' : Hp), (∀ p, H' (0 :: p) = (bdF true (l ++ joinC (ks.map showT)) v').F 0 p) → Q (.exit 0) ⟨lk [(0, bp 0), (6, tKs ks), (7, iv ks.length), (8, iv ks.length), (9, bv false)], H'⟩) →
    LoopC (cxh Tryd.prog w0 I0 M0 n0 m0) l1_text_all Q ⟨lk [(0, bp 0), (6, tKs ks), (7, iv ks.length), (8, iv i)], H⟩ := by
  intro m
  induction m with
  | zero =>
    intro i v hi
    have : i = ks.length := by omega
    subst this
    refine ⟨v, fun {n0 w0 I0 M0 m0 Q} H hH hq => ?_⟩
    refine loopC_once mixed l1_text_all.eq_1 ?_
    simp
    rw [List.take_length] at hH
    exact hq H hH
  | succ m ihm =>
    intro i v hi
    have hlt : i < ks.length := by omega
    have hw := join_step showT ks i hlt
    have hle := join_take_le showT ks m (i + 1) (by omega)
    have e1 : IntKind.i64.wrap ((i : Int) + 1) = ((i + 1 : Nat) : Int) := by rw [i64_same (by omega) (by omega)]; omega
    by_cases h0 : i = 0
    · subst h0
      rw [if_pos rfl] at hw
      obtain ⟨v1, hS⟩ := ih _ (List.getElem_mem hlt) true l v (by rw [hw] at hle; omega)
      obtain ⟨v', hL⟩ := ihm 1 v1 (by omega)
      refine ⟨v', fun {n0 w0 I0 M0 m0 Q} H hH hq => ?_⟩
      simp only [List.take_zero, List.map_nil, joinC_nil, List.append_nil] at hH
      refine loopC_once mixed l1_text_all.eq_1 ?_
      simp [hlt]
      refine sc_fam 0 hS (fun p => by simp [updF_app, hH]) (by simp) (by simp) ?_
      simp at e1
      simp [e1]
      refine hL _ (fun p => ?_) hq
      rw [hw]
      simp
    · rw [if_neg h0] at hw
      have hb := bByte_spec true (l ++ joinC ((ks.take i).map showT)) v 44 (by rw [hw] at hle; simp at hle ⊢; omega)
      obtain ⟨v1, hS⟩ := ih _ (List.getElem_mem hlt) true (l ++ joinC ((ks.take i).map showT) ++ [44]) (v + 1) (by rw [hw] at hle; simp at hle ⊢; omega)
      obtain ⟨v', hL⟩ := ihm (i + 1) v1 (by omega)
      refine ⟨v', fun {n0 w0 I0 M0 m0 Q} H hH hq => ?_⟩
      refine loopC_once mixed l1_text_all.eq_1 ?_
      simp [hlt, show 0 < i by omega]
      refine sc_fam 0 hb (fun p => by simp [updF_app, hH]) (by simp) (by simp) ?_
      simp [updF_app]
      refine sc_fam 0 hS (fun p => by simp [updF_app]) (by simp) (by simp) ?_
      simp [e1]
      refine hL _ (fun p => ?_) hq
      rw [hw]
      simp
theorem all_spec {ks : List T} (hks : ks.length * 56 ≤ 140737488355328) (ih : ∀ c, c ∈ ks → Shw c) {l : List UInt8} (hl : l.length + (joinC (ks.map showT)).length ≤ 70368744177664) (v : Nat) :
    ∃ v', SpecF Tryd.prog 45 (fun r => [bp r, tKs ks]) (bdF true l v) (fun _ => .tup []) (bdF true (l ++ joinC (ks.map showT)) v') := by
  obtain ⟨v', hL⟩ := all_l1 hks ih hl ks.length 0 v (by omega)
  refine ⟨v', specF_of t_text_all (by simp) (famL_cons famA_pob (famL_cons famA_sl famL_nil)) (famA_tup famL_nil) fun w0 I0 M0 m0 => ?_⟩
  unfold c_text_all
  simp
  refine hL _ (fun p => by simp) fun H' hH' => ?_
  simp
  exact reth_famN rfl rfl hH'
theorem words_l1 {ws : List Int} {t : T} (htw : t.words = ws) (hws : ws.length * 8 ≤ 140737488355328) (hwf : ∀ x, x ∈ ws → u64R x) {l : List UInt8} (hl : l.length + (joinC (ws.map fun x => hexS x.toNat)).length ≤ 70368744177664) : ∀ (m i v : Nat), i + m = ws.length → ∃ v', ∀ {n0 : Nat} {w0 : World} {I0 : Nat → Prop} {M0 : Nm → Nat → Prop} {m0 : Mu} {Q : Exit → Sta → Prop} (H : Hp), (∀ p, H (0 :: p) = (bdF true (l ++ joinC ((ws.take i).map fun x => hexS x.toNat)) v).F 0 p) → H [1] = ⟨1, .cells [iv t.kind, uws t.words, tKs t.kids]⟩ →
    (∀ (H' : Hp), (∀ p, H' (0 :: p) = (bdF true (l ++ joinC (ws.map fun x => hexS x.toNat)) v').F 0 p) → H' [1] = ⟨1, .cells [iv t.kind, uws t.words, tKs t.kids]⟩ → Q (.exit 1) ⟨lk [(0, bp 0), (3, .pob [1] 1 0), (32, uws ws), (33, iv ws.length), (34, iv ws.length), (35, bv false)], H'⟩) →
    LoopC (cxh Tryd.prog w0 I0 M0 n0 m0) l1_text_show Q ⟨lk [(0, bp 0), (3, .pob [1] 1 0), (32, uws ws), (33, iv ws.length), (34, iv i)], H⟩ := by
  intro m
  induction m with
  | zero =>
    intro i v hi
    have : i = ws.length := by omega
    subst this
    refine ⟨v, fun {n0 w0 I0 M0 m0 Q} H hH hH1 hq => ?_⟩
    refine loopC_once mixed l1_text_show.eq_1 ?_
    simp
    rw [List.take_length] at hH
    exact hq H hH hH1
  | succ m ihm =>
    intro i v hi
    have hlt : i < ws.length := by omega
    have hw := join_step (fun x : Int => hexS x.toNat) ws i hlt
    have hle := join_take_le (fun x : Int => hexS x.toNat) ws m (i + 1) (by omega)
    have e1 : IntKind.i64.wrap ((i : Int) + 1) = ((i + 1 : Nat) : Int) := by rw [i64_same (by omega) (by omega)]; omega
    have hx := hwf _ (List.getElem_mem hlt)
    unfold u64R at hx
    have hfmt := fmtUint_spec ws[i].toNat (by omega)
    rw [Int.toNat_of_nonneg hx.1] at hfmt
    by_cases h0 : i = 0
    · subst h0
      rw [if_pos rfl] at hw
      have hb := bStr_spec true l v (hexS ws[0].toNat) (by rw [hw] at hle; omega)
      obtain ⟨v', hL⟩ := ihm 1 (v + 1) (by omega)
      refine ⟨v', fun {n0 w0 I0 M0 m0 Q} H hH hH1 hq => ?_⟩
      simp only [List.take_zero, List.map_nil, joinC_nil, List.append_nil] at hH
      refine loopC_once mixed l1_text_show.eq_1 ?_
      simp [hlt]
      refine sc_call hfmt rfl ?_
      simp
      refine sc_fam 0 hb (fun p => by simp [updF_app, hH]) (by simp) (by simp) ?_
      simp at e1
      simp [e1]
      refine hL _ (fun p => ?_) (by simp [hH1]) hq
      rw [hw]
      simp
    · rw [if_neg h0] at hw
      have hb := bByte_spec true (l ++ joinC ((ws.take i).map fun x => hexS x.toNat)) v 44 (by rw [hw] at hle; simp at hle ⊢; omega)
      have hb2 := bStr_spec true (l ++ joinC ((ws.take i).map fun x => hexS x.toNat) ++ [44]) (v + 1) (hexS ws[i].toNat) (by rw [hw] at hle; simp at hle ⊢; omega)
      obtain ⟨v', hL⟩ := ihm (i + 1) (v + 1 + 1) (by omega)
      refine ⟨v', fun {n0 w0 I0 M0 m0 Q} H hH hH1 hq => ?_⟩
      refine loopC_once mixed l1_text_show.eq_1 ?_
      simp [hlt, show 0 < i by omega]
      refine sc_fam 0 hb (fun p => by simp [updF_app, hH]) (by simp) (by simp) ?_
      simp [updF_app]
      refine sc_call hfmt rfl ?_
      simp
      refine sc_fam 0 hb2 (fun p => by simp [updF_app]) (by simp) (by simp) ?_
      simp [e1]
      refine hL _ (fun p => ?_) (by simp [hH1]) hq
      rw [hw]
      simp
theorem letters_get (k : Int) (h1 : 2 ≤ k) (h2 : k ≤ 9) : ([46, 46, 118, 98, 121, 116, 102, 101, 112, 99] : List UInt8)[k.toNat]? = some (letS k) := by
  have : ∀ n : Nat, n < 10 → ([46, 46, 118, 98, 121, 116, 102, 101, 112, 99] : List UInt8)[n]? = some (([46, 46, 118, 98, 121, 116, 102, 101, 112, 99] : List UInt8).getD n 0) := by decide
  exact this k.toNat (by omega)
theorem shw_all : ∀ t : T, wfT t → Shw t := by
  refine T.ind fun k w ks ih hwf a l v hl => ?_
  have hW := wfT_iff.1 hwf
  have hk := hW.k
  have hww := hW.w
  have hwl := hW.wl
  have hkl := hW.kl
  simp at hk hww hwl hkl
  have ihk : ∀ c, c ∈ ks → Shw c := fun c hc => ih c hc (hW.ks c hc)
  have fam : FamL (fun r => [bp r, tX (.mk k w ks)]) := famL_cons famA_pob (famL_cons (famA_bare (cs := [iv k, uws w, tKs ks]) rfl fun x hx => by simp at hx; rcases hx with rfl | rfl | rfl <;> rfl) famL_nil)
  rw [showT_mk] at hl ⊢
  by_cases hA : k = 10 ∧ w.length = 1
  · rw [if_pos hA] at hl ⊢
    obtain ⟨rfl, hw1⟩ := hA
    obtain ⟨x, rfl⟩ : ∃ x, w = [x] := List.length_eq_one_iff.1 hw1
    have hx := hww x (by simp)
    unfold u64R at hx
    have hfmt := fmtUint_spec x.toNat (by omega)
    rw [Int.toNat_of_nonneg hx.1] at hfmt
    simp only [List.headD_cons] at hl ⊢
    refine ⟨v + 1, specF_of t_text_show (by simp) fam (famA_tup famL_nil) fun w0 I0 M0 m0 => ?_⟩
    unfold c_text_show
    simp
    refine sc_call hfmt rfl ?_
    simp
    refine sc_fam 0 (bStr_spec a l v (hexS x.toNat) (by omega)) (fun p => by simp [updF_app]) (by simp) (by simp) ?_
    simp
    exact reth_famN rfl rfl (fun p => by simp)
  · rw [if_neg hA] at hl ⊢
    have hd : (decide (k = 10) && decide (w.length = 1)) = false := by simpa using hA
    by_cases h1 : k = 1
    · rw [if_pos h1] at hl ⊢
      subst h1
      have hb0 := bByte_spec a l v 123 (by simp at hl; omega)
      obtain ⟨v1, hL⟩ := words_l1 (t := .mk 1 w ks) (ws := w) rfl hwl hww (l := l ++ [123]) (by simp at hl ⊢; omega) w.length 0 (v + 1) (by omega)
      by_cases hks : ks = []
      · subst hks
        obtain ⟨v2, hA⟩ := all_spec (ks := []) (by simp) (by simp) (l := l ++ [123] ++ joinC (w.map fun x => hexS x.toNat)) (by simp at hl ⊢; omega) v1
        have hb1 := bByte_spec true (l ++ [123] ++ joinC (w.map fun x => hexS x.toNat) ++ joinC (([] : List T).map showT)) v2 125 (by simp at hl ⊢; omega)
        refine ⟨v2 + 1, specF_of t_text_show (by simp) fam (famA_tup famL_nil) fun w0 I0 M0 m0 => ?_⟩
        unfold c_text_show
        simp
        refine sc_fam 0 hb0 (fun p => by simp [updF_app]) (by simp) (by simp) ?_
        simp
        refine hL _ (fun p => by simp) (by simp) fun H' g1 g2 => ?_
        simp [g2]
        refine sc_fam 0 hA g1 (by simp) (by simp) ?_
        simp
        refine sc_fam 0 hb1 (fun p => by simp) (by simp) (by simp) ?_
        simp
        refine reth_famN rfl rfl (fun p => ?_)
        simp
      · have hb1 := bByte_spec true (l ++ [123] ++ joinC (w.map fun x => hexS x.toNat)) v1 124 (by simp [hks] at hl ⊢; omega)
        obtain ⟨v2, hA⟩ := all_spec hkl ihk (l := l ++ [123] ++ joinC (w.map fun x => hexS x.toNat) ++ [124]) (by simp [hks] at hl ⊢; omega) (v1 + 1)
        have hb2 := bByte_spec true (l ++ [123] ++ joinC (w.map fun x => hexS x.toNat) ++ [124] ++ joinC (ks.map showT)) v2 125 (by simp [hks] at hl ⊢; omega)
        have hpos : 0 < ks.length := by
          cases ks with
          | nil => exact (hks rfl).elim
          | cons x y => simp
        refine ⟨v2 + 1, specF_of t_text_show (by simp) fam (famA_tup famL_nil) fun w0 I0 M0 m0 => ?_⟩
        unfold c_text_show
        simp
        refine sc_fam 0 hb0 (fun p => by simp [updF_app]) (by simp) (by simp) ?_
        simp
        refine hL _ (fun p => by simp) (by simp) fun H' g1 g2 => ?_
        simp [g2, hpos]
        refine sc_fam 0 hb1 g1 (by simp) (by simp) ?_
        simp [g2]
        refine sc_fam 0 hA (fun p => by simp) (by simp) (by simp) ?_
        simp
        refine sc_fam 0 hb2 (fun p => by simp) (by simp) (by simp) ?_
        simp
        refine reth_famN rfl rfl (fun p => ?_)
        simp [hks]
    · rw [if_neg h1] at hl ⊢
      by_cases h2 : 2 ≤ k ∧ k ≤ 9
      · rw [if_pos h2] at hl ⊢
        have hg := letters_get k h2.1 h2.2
        have hb0 := bByte_spec a l v (letS k) (by simp at hl; omega)
        have hb1 := bByte_spec true (l ++ [letS k]) (v + 1) 91 (by simp at hl ⊢; omega)
        obtain ⟨v2, hA⟩ := all_spec hkl ihk (l := l ++ [letS k] ++ [91]) (by simp at hl ⊢; omega) (v + 1 + 1)
        have hb2 := bByte_spec true (l ++ [letS k] ++ [91] ++ joinC (ks.map showT)) v2 93 (by simp at hl ⊢; omega)
        have hL := tList_spec k
        rw [show (decide (2 ≤ k) && decide (k ≤ 9)) = true by simp [h2.1, h2.2]] at hL
        refine ⟨v2 + 1, specF_of t_text_show (by simp) fam (famA_tup famL_nil) fun w0 I0 M0 m0 => ?_⟩
        unfold c_text_show
        simp [h1, show ¬ k = 10 by omega]
        refine sc_call hL rfl ?_
        simp [hg, show 0 ≤ k by omega]
        refine sc_fam 0 hb0 (fun p => by simp [updF_app]) (by simp) (by simp) ?_
        simp
        refine sc_fam 0 hb1 (fun p => by simp) (by simp) (by simp) ?_
        simp
        refine sc_fam 0 hA (fun p => by simp) (by simp) (by simp) ?_
        simp
        refine sc_fam 0 hb2 (fun p => by simp) (by simp) (by simp) ?_
        simp
        exact reth_famN rfl rfl (fun p => by simp)
      · rw [if_neg h2] at hl ⊢
        have hb0 := bByte_spec a l v 95 (by simp at hl; omega)
        have hL := tList_spec k
        rw [show (decide (2 ≤ k) && decide (k ≤ 9)) = false by simp; omega] at hL
        refine ⟨v + 1, specF_of t_text_show (by simp) fam (famA_tup famL_nil) fun w0 I0 M0 m0 => ?_⟩
        unfold c_text_show
        have go : ∀ {H : Hp}, (∀ p, H (0 :: p) = (bdF a l v).F 0 p) → ∀ {K : Sta → Prop} {s : Nat → A}, True := fun _ _ _ => trivial
        by_cases h10 : k = 10
        · subst h10
          have hw1 : ¬ w.length = 1 := fun e => hA ⟨rfl, e⟩
          have hw2 : ¬ (w.length : Int) = 1 := by omega
          simp [hw2]
          refine sc_call hL rfl ?_
          simp
          refine sc_fam 0 hb0 (fun p => by simp [updF_app]) (by simp) (by simp) ?_
          simp
          exact reth_famN rfl rfl (fun p => by simp)
        · simp [h1, h10]
          refine sc_call hL rfl ?_
          simp
          refine sc_fam 0 hb0 (fun p => by simp [updF_app]) (by simp) (by simp) ?_
          simp
          exact reth_famN rfl rfl (fun p => by simp)
theorem showT_pos (t : T) : showT t ≠ [] := by
  obtain ⟨k, w, l⟩ := t
  rw [showT_mk]
  split
  · intro e
    have := hexS_pos (w.headD 0).toNat
    rw [e] at this
    simp at this
  · split
    · simp
    · split <;> simp
theorem print_spec {t : T} (h : wfT t) (hl : (showT t).length ≤ 70368744177664) : G.Spec Tryd.prog 12 [tX t] (S (showT t)) := by
  obtain ⟨v', hS⟩ := shw_all t h false [] 1 (by simpa using hl)
  simp only [List.nil_append] at hS
  refine spec_of t_text_Print (by simp) fun w0 I0 => ?_
  unfold c_text_Print
  simp
  refine stop_le (le_blankC (d := [1, 777777, 69]) 1 [1, 777777, 69, 777777, 5] 1 rfl rfl (by simp)) (stop_go ?_)
  simp
  refine sc_fam 1 hS (fun p => ?_) (by simp) (by simp) ?_
  · rw [bdF_F]
    by_cases h1 : p = [777777, 69]
    · subst h1; simp [updF_app, lkH]
    · by_cases h2 : p = [777777, 69, 777777, 5]
      · subst h2; simp [updF_app, lkH]
      · simp [updF_app, lkH, h1, h2, Ne.symm h1, Ne.symm h2]
  · simp
    refine sc_fam 1 (bString_spec (showT t) v' (showT_pos t) (by omega)) (fun p => by simp) (by simp) (by simp) ?_
    simp
    exact frz_bare rfl
end Go.Proofs.YtebihdhapepejaaDoor

/-
  Plain: a tree's text is read as just that tree; the texts of right trees.
-/
namespace Go.PL
set_option linter.unusedVariables false
set_option linter.unusedSimpArgs false
/-- A reader of things: of a thing's text, with a comma or such an end behind it, it reads the thing. -/
def RdOf (p : List UInt8 → T × Bool × Nat) (Q : T → Prop) : Prop := ∀ t rest, Q t → (∀ c, rest.head? = some c → hexV c = none) → p (showT t ++ rest) = (t, true, (showT t).length)
/-- Its text begins with something else than an end. -/
def Heads (Q : T → Prop) (e : UInt8) : Prop := ∀ t, Q t → ∃ c r, showT t = c :: r ∧ c ≠ e
theorem hex_44 : hexV 44 = none := by decide
theorem hex_93 : hexV 93 = none := by decide
theorem hex_125 : hexV 125 = none := by decide
theorem hex_124 : hexV 124 = none := by decide
section
variable {num : List UInt8 → Nat × Bool × Nat}
theorem numsM_of (h : NumR num) : ∀ (ws : List Int) (f : Nat) (c : UInt8) (rest : List UInt8), ws ≠ [] → (∀ x, x ∈ ws → 0 ≤ x ∧ x < 18446744073709551616) → ws.length ≤ f → hexV c = none → c ≠ 44 →
    numsM num f (joinC (ws.map fun x => hexS x.toNat) ++ c :: rest) = (ws, true, (joinC (ws.map fun x => hexS x.toNat)).length)
  | [], f, c, rest, hne, _, _, _, _ => (hne rfl).elim
  | [x], f, c, rest, _, hx, hf, hc, hc4 => by
    obtain ⟨f, rfl⟩ : ∃ g, f = g + 1 := ⟨f - 1, by simp at hf; omega⟩
    have hx := hx x (by simp)
    have hn := h.of x.toNat (c :: rest) (by omega) (fun y hy => by simp at hy; rw [← hy]; exact hc)
    simp only [List.map_cons, List.map_nil, joinC_one]
    unfold numsM
    rw [hn]
    simp [hc4]
    omega
  | x :: y :: ws, f, c, rest, _, hx, hf, hc, hc4 => by
    obtain ⟨f, rfl⟩ : ∃ g, f = g + 1 := ⟨f - 1, by simp at hf; omega⟩
    have hx0 := hx x (by simp)
    have ih := numsM_of h (y :: ws) f c rest (by simp) (fun z hz => hx z (by simp [hz])) (by simp at hf ⊢; omega) hc hc4
    have e : joinC ((x :: y :: ws).map fun x => hexS x.toNat) = hexS x.toNat ++ 44 :: joinC ((y :: ws).map fun x => hexS x.toNat) := by
      rw [List.map_cons, joinC_cons (by simp)]
    rw [e]
    generalize joinC ((y :: ws).map fun x => hexS x.toNat) = J at ih
    have hn := h.of x.toNat (44 :: (J ++ c :: rest)) (by omega) (fun y hy => by simp at hy; rw [← hy]; exact hex_44)
    rw [List.append_assoc, List.cons_append]
    unfold numsM
    rw [hn]
    have hd : List.drop ((hexS x.toNat).length + 1) (hexS x.toNat ++ 44 :: (J ++ c :: rest)) = J ++ c :: rest := by rw [List.drop_length_add_append]; rfl
    simp only [if_true, List.drop_left, eatB_cons, hd, ih]
    simp
    omega
theorem numT_of (h : NumR num) : RdOf (numT num) atomOk := fun t rest ht hr => by
  obtain ⟨n, h1, h2, h3⟩ := show_atom ht
  rw [h3]
  unfold numT
  rw [h.of n rest h2 hr, h1]
theorem kidsGo_of {p : List UInt8 → T × Bool × Nat} {Q : T → Prop} (h : RdOf p Q) {e : UInt8} (he : hexV e = none) (he4 : e ≠ 44) : ∀ (l : List T) (f : Nat) (rest : List UInt8), l ≠ [] → (∀ x, x ∈ l → Q x) → l.length ≤ f →
    kidsGo p e f (joinC (l.map showT) ++ e :: rest) = (l, true, (joinC (l.map showT)).length + 1)
  | [], f, rest, hne, _, _ => (hne rfl).elim
  | [x], f, rest, _, hx, hf => by
    obtain ⟨f, rfl⟩ : ∃ g, f = g + 1 := ⟨f - 1, by simp at hf; omega⟩
    have hn := h x (e :: rest) (hx x (by simp)) (fun y hy => by simp at hy; rw [← hy]; exact he)
    simp only [List.map_cons, List.map_nil, joinC_one]
    unfold kidsGo
    rw [hn]
    simp
  | x :: y :: l, f, rest, _, hx, hf => by
    obtain ⟨f, rfl⟩ : ∃ g, f = g + 1 := ⟨f - 1, by simp at hf; omega⟩
    have ih := kidsGo_of h he he4 (y :: l) f rest (by simp) (fun z hz => hx z (by simp [hz])) (by simp at hf ⊢; omega)
    have e1 : joinC ((x :: y :: l).map showT) = showT x ++ 44 :: joinC ((y :: l).map showT) := by
      rw [List.map_cons, joinC_cons (by simp)]
    rw [e1]
    generalize joinC ((y :: l).map showT) = J at ih
    have hn := h x (44 :: (J ++ e :: rest)) (hx x (by simp)) (fun y hy => by simp at hy; rw [← hy]; exact hex_44)
    rw [List.append_assoc, List.cons_append]
    unfold kidsGo
    rw [hn]
    have hd : List.drop ((showT x).length + 1) (showT x ++ 44 :: (J ++ e :: rest)) = J ++ e :: rest := by rw [List.drop_length_add_append]; rfl
    have h4 : ((44 : UInt8) == e) = false := by simp; exact fun h => he4 h.symm
    simp only [if_true, List.drop_left, eatB_cons, hd, ih, h4]
    simp
    omega
theorem join_len {α : Type} (f : α → List UInt8) : ∀ (l : List α), (∀ x, x ∈ l → 1 ≤ (f x).length) → l.length ≤ (joinC (l.map f)).length
  | [], _ => by simp
  | [x], h => by simpa using h x (by simp)
  | x :: y :: l, h => by
    have := join_len f (y :: l) (fun z hz => h z (by simp [hz]))
    rw [List.map_cons, joinC_cons (by simp)]
    simp at this ⊢
    omega
theorem join_head {α : Type} (f : α → List UInt8) {P : UInt8 → Prop} {l : List α} (hne : l ≠ []) (h : ∀ x, x ∈ l → ∃ c r, f x = c :: r ∧ P c) : ∃ c r, joinC (l.map f) = c :: r ∧ P c := by
  cases l with
  | nil => exact (hne rfl).elim
  | cons x l =>
    obtain ⟨c, r, h1, h2⟩ := h x (by simp)
    cases l with
    | nil => exact ⟨c, r, by simpa using h1, h2⟩
    | cons y l =>
      refine ⟨c, r ++ 44 :: joinC ((y :: l).map f), ?_, h2⟩
      rw [List.map_cons, joinC_cons (by simp), h1]
      rfl
theorem txKids_of {p : List UInt8 → T × Bool × Nat} {Q : T → Prop} (h : RdOf p Q) {e : UInt8} (he : hexV e = none) (he4 : e ≠ 44) (hQ : Heads Q e) (l : List T) (rest : List UInt8) (hl : ∀ x, x ∈ l → Q x) :
    txKids p e (joinC (l.map showT) ++ e :: rest) = (l, true, (joinC (l.map showT)).length + 1) := by
  unfold txKids
  by_cases hne : l = []
  · subst hne; simp
  · obtain ⟨c, r, h1, h2⟩ := join_head showT (P := fun c => c ≠ e) hne (fun x hx => hQ x (hl x hx))
    have h3 : eatB (joinC (l.map showT) ++ e :: rest) e = false := by rw [h1]; simp [h2]
    rw [h3]
    simp only [Bool.false_eq_true, if_false]
    have := join_len showT l (fun x hx => by obtain ⟨c, r, h1, _⟩ := hQ x (hl x hx); rw [h1]; simp)
    exact kidsGo_of h he he4 l _ rest hne hl (by simp; omega)
theorem heads_atom : Heads atomOk 93 := fun t ht => by
  obtain ⟨n, _, _, h⟩ := show_atom ht
  have := hexS_pos n
  cases hq : hexS n with
  | nil => rw [hq] at this; simp at this
  | cons c r =>
    refine ⟨c, r, by rw [h, hq], fun e => ?_⟩
    obtain ⟨d, hd⟩ := hexS_all n c (by rw [hq]; simp)
    rw [e, hex_93] at hd
    cases hd
theorem heads_tree : ∀ (d : Nat) (e : UInt8), e = 93 ∨ e = 125 → Heads (proper d) e := fun d e he t ht => by
  have key : t = T0 ∨ t.kind = 1 ∨ (2 ≤ t.kind ∧ t.kind ≤ 9) := by
    cases d with
    | zero => exact .inl ht
    | succ d =>
      rcases ht with h | h | h
      · exact .inl h
      · exact .inr (.inl h.1)
      · exact .inr (.inr ⟨h.1, h.2.1⟩)
  rcases key with rfl | h | ⟨h1, h2⟩
  · refine ⟨95, [], by rw [showT_mk]; simp, ?_⟩
    rcases he with rfl | rfl <;> decide
  · obtain ⟨k, w, l⟩ := t
    simp at h
    subst h
    refine ⟨123, _, by rw [showT_mk, if_neg (by omega), if_pos rfl], ?_⟩
    rcases he with rfl | rfl <;> decide
  · obtain ⟨k, w, l⟩ := t
    simp at h1 h2
    have := letV_spec h1 h2
    refine ⟨letS k, _, by rw [showT_mk, if_neg (by omega), if_neg (by omega), if_pos ⟨h1, h2⟩], ?_⟩
    rcases he with rfl | rfl
    · exact this.2.2.2.2
    · exact this.2.2.2.1
theorem treeM_T0 (d : Nat) (rest : List UInt8) : treeM num d (showT T0 ++ rest) = (T0, true, (showT T0).length) := by
  have e : showT T0 = [95] := by rw [showT_mk]; simp
  rw [e]
  cases d with
  | zero => rw [treeM_zero]; simp
  | succ d => rw [treeM_succ]; simp
theorem treeM_of (h : NumR num) : ∀ d (t : T) (rest : List UInt8), proper d t → treeM num d (showT t ++ rest) = (t, true, (showT t).length)
  | 0, t, rest, ht => by
    have ht : t = T0 := ht
    subst ht; exact treeM_T0 0 rest
  | d + 1, t, rest, ht => by
    have ih : RdOf (treeM num d) (proper d) := fun t rest ht _ => treeM_of h d t rest ht
    rcases ht with rfl | ⟨h1, h2, h3⟩ | ⟨h1, h2, h3, h4⟩
    · exact treeM_T0 _ rest
    · obtain ⟨k, w, l⟩ := t
      simp at h1 h2 h3
      subst h1
      have eS : showT (.mk 1 w l) = 123 :: (joinC (w.map fun x : Int => hexS x.toNat) ++ ((if l = [] then [] else 124 :: joinC (l.map showT)) ++ [125])) := by rw [showT_mk, if_neg (by omega), if_pos rfl]
      rw [eS, treeM_succ]
      have tail : ∀ (ws : List Int), tailM (txKids (treeM num d) 125) ws ((if l = [] then [] else 124 :: joinC (l.map showT)) ++ 125 :: rest) = (.mk 1 ws l, true, ((if l = [] then [] else 124 :: joinC (l.map showT)) ++ [125]).length) := fun ws => by
        unfold tailM
        by_cases hl : l = []
        · subst hl; simp
        · obtain ⟨c, r, c1, c2⟩ := join_head showT (P := fun c => c ≠ 125) hl (fun x hx => heads_tree d 125 (.inr rfl) x (h3 x hx))
          have hk := txKids_of ih hex_125 (by decide) (heads_tree d 125 (.inr rfl)) l rest h3
          have h6 : (joinC (l.map showT) ++ 125 :: rest).headD 0 ≠ 125 := by rw [c1]; simpa using c2
          have a1 : ((124 : UInt8) == 125) = false := by decide
          simp only [hl, if_false, List.cons_append, eatB_cons, a1, Bool.false_eq_true, List.drop_succ_cons, List.drop_zero, if_neg h6, hk]
          simp
          omega
      have hst : structM num (txKids (treeM num d) 125) (joinC (w.map fun x : Int => hexS x.toNat) ++ ((if l = [] then [] else 124 :: joinC (l.map showT)) ++ 125 :: rest)) =
          (.mk 1 w l, true, (joinC (w.map fun x : Int => hexS x.toNat) ++ ((if l = [] then [] else 124 :: joinC (l.map showT)) ++ [125])).length) := by
        unfold structM
        by_cases hw : w = []
        · subst hw
          simp only [List.map_nil, joinC_nil, List.nil_append]
          by_cases hl : l = []
          · subst hl; simp
          · have a1 : ((124 : UInt8) == 125) = false := by decide
            have b1 : eatB ((if l = [] then [] else 124 :: joinC (l.map showT)) ++ 125 :: rest) 125 = false := by simp [hl]
            have b2 : wsM num ((if l = [] then [] else 124 :: joinC (l.map showT)) ++ 125 :: rest) = ([], true, 0) := by
              unfold wsM; simp [hl]
            rw [b1, b2]
            simp only [Bool.false_eq_true, if_false, if_true, List.drop_zero, tail]
            simp
        · obtain ⟨c, r, c1, x, c2⟩ := join_head (fun x : Int => hexS x.toNat) (P := fun c => ∃ d, hexV c = some d) hw (fun x hx => by
            have := hexS_pos x.toNat
            cases hq : hexS x.toNat with
            | nil => rw [hq] at this; simp at this
            | cons c r => exact ⟨c, r, rfl, hexS_all x.toNat c (by rw [hq]; simp)⟩)
          have n1 : c ≠ 125 := fun e => by rw [e, hex_125] at c2; cases c2
          have n2 : c ≠ 124 := fun e => by rw [e, hex_124] at c2; cases c2
          generalize hT : (if l = [] then [] else 124 :: joinC (l.map showT)) = TL at tail
          have hTL : ∃ y r, TL ++ 125 :: rest = y :: r ∧ hexV y = none ∧ y ≠ 44 := by
            by_cases hl : l = []
            · rw [if_pos hl] at hT; subst hT; exact ⟨125, rest, rfl, hex_125, by decide⟩
            · rw [if_neg hl] at hT; subst hT; exact ⟨124, _, rfl, hex_124, by decide⟩
          obtain ⟨y, r', d1, d2, d3⟩ := hTL
          have b1 : eatB (joinC (w.map fun x : Int => hexS x.toNat) ++ (TL ++ 125 :: rest)) 125 = false := by rw [c1]; simp [n1]
          have b2 : wsM num (joinC (w.map fun x : Int => hexS x.toNat) ++ (TL ++ 125 :: rest)) = (w, true, (joinC (w.map fun x : Int => hexS x.toNat)).length) := by
            unfold wsM
            rw [if_pos (by rw [c1]; simpa using n2), d1]
            have hlen := join_len (fun x : Int => hexS x.toNat) w (fun x _ => hexS_pos _)
            exact numsM_of h w _ y r' hw h2 (by simp; omega) d2 d3
          rw [b1, b2]
          simp only [Bool.false_eq_true, if_false, if_true, List.drop_left, tail]
          simp
      have a1 : ((123 : UInt8) == 95) = false := by decide
      have e2 : (joinC (w.map fun x : Int => hexS x.toNat) ++ ((if l = [] then [] else 124 :: joinC (l.map showT)) ++ [125])) ++ rest = joinC (w.map fun x : Int => hexS x.toNat) ++ ((if l = [] then [] else 124 :: joinC (l.map showT)) ++ 125 :: rest) := by simp
      simp only [List.cons_append, eatB_cons, a1, Bool.false_eq_true, if_false, beq_self_eq_true, if_true, List.drop_succ_cons, List.drop_zero, e2, hst]
      simp
      omega
    · obtain ⟨k, w, l⟩ := t
      simp at h1 h2 h3 h4
      subst h3
      obtain ⟨l1, l2, l3, l4, l5⟩ := letV_spec h1 h2
      have eS : showT (.mk k [] l) = letS k :: 91 :: (joinC (l.map showT) ++ [93]) := by rw [showT_mk, if_neg (by omega), if_neg (by omega), if_pos ⟨h1, h2⟩]
      have of : RdOf (if isD k = true then numT num else treeM num d) (fun c => if isD k = true then atomOk c else proper d c) := by
        by_cases hD : isD k = true
        · simp only [hD, if_true]; exact numT_of h
        · simp only [hD, if_false]; exact ih
      have hh : Heads (fun c => if isD k = true then atomOk c else proper d c) 93 := by
        by_cases hD : isD k = true
        · simp only [hD, if_true]; exact heads_atom
        · simp only [hD, if_false]; exact heads_tree d 93 (.inl rfl)
      have hk := txKids_of of hex_93 (by decide) hh l rest h4
      have e2 : (joinC (l.map showT) ++ [93]) ++ rest = joinC (l.map showT) ++ 93 :: rest := by simp
      have a1 : (letS k == 95) = false := by simpa using l2
      have a2 : (letS k == 123) = false := by simpa using l3
      rw [eS, treeM_succ]
      simp only [List.cons_append, eatB_cons, a1, a2, Bool.false_eq_true, if_false, List.headD_cons, l1, if_neg (show ¬ k < 2 by omega), List.drop_succ_cons, List.drop_zero, beq_self_eq_true, if_true, e2, hk]
      simp
      omega
/-- The two readers read the same, of a whole text. -/
theorem read_whole {num num' : List UInt8 → Nat × Bool × Nat} (h : NumR num) (h' : NumR num') {d : Nat} {s : List UInt8} {t : T} (q : treeM num d s = (t, true, s.length)) : treeM num' d s = (t, true, s.length) ∧ showT t = s ∧ proper d t := by
  obtain ⟨h1, h2, h3⟩ := treeM_to h d s t s.length q
  have h4 : showT t = s := by rw [← h1]; simp
  have := treeM_of h' d t [] h3
  rw [List.append_nil, h4] at this
  exact ⟨this, h4, h3⟩
end
end Go.PL

/-
  The program's reader of texts: bytes and numbers.
-/
namespace Go.Proofs.YtebihdhapepejaaDoor
set_option linter.unusedVariables false
set_option linter.unusedSimpArgs false
open Go Go.G Go.Proofs Go.PL
/-- A reader: its text, and where it is. -/
def psF (s : List UInt8) (at' : Nat) : Fam := ⟨fun _ p => if p = [] then ⟨1, .cells [S s, iv at']⟩ else ⟨0, .none⟩, fun {g δ r r'} hg hd p => by
    by_cases hp : p = []
    · rw [if_pos hp]
      exact Fam.cells_ren (by simp [A.renL, A.ren])
    · rw [if_neg hp]; rfl, fun {D r} hD p => by
    by_cases hp : p = []
    · rw [if_pos hp]
      simp [Ob.refs, A.refsL, A.refs]
    · rw [if_neg hp]; trivial⟩
@[simp] theorem psF_F {s : List UInt8} {k r : Nat} {p : Nm} : (psF s k).F r p = if p = [] then ⟨1, .cells [S s, iv k]⟩ else ⟨0, .none⟩ := rfl
abbrev pp (r : Nat) : A := .pob [r] 1 0
theorem drop_get {s : List UInt8} {k : Nat} (h : k < s.length) : s.drop k = s[k] :: s.drop (k + 1) := List.drop_eq_getElem_cons h
/-- The next byte; 0: there is none. -/
def nxB (r : List UInt8) : UInt8 := r.headD 0
theorem nxB_at {s : List UInt8} {k : Nat} (h : k < s.length) : nxB (s.drop k) = s[k] := by rw [drop_get h]; rfl
theorem nxB_end {s : List UInt8} : nxB (s.drop s.length) = 0 := by rw [List.drop_length]; rfl
theorem next_spec (s : List UInt8) (k : Nat) (hk : k ≤ s.length) : SpecF Tryd.prog 66 (fun r => [pp r]) (psF s k) (fun _ => u8v (nxB (s.drop k))) (psF s k) := by
  refine specF_of t_text_parser_next (by simp) (famL_cons famA_pob famL_nil) famA_v fun w0 I0 M0 m0 => ?_
  unfold c_text_parser_next
  by_cases h : k = s.length
  · subst h
    rw [nxB_end]
    simp
    exact reth_fam rfl rfl (fun p => by simp)
  · have hlt : k < s.length := by omega
    rw [nxB_at hlt]
    simp [show ¬ (k : Int) = s.length by omega, hlt]
    exact reth_fam rfl rfl (fun p => by simp)
def one (b : Bool) : Nat := if b = true then 1 else 0
@[simp] theorem one_true : one true = 1 := rfl
@[simp] theorem one_false : one false = 0 := rfl
theorem eat_cases (s : List UInt8) (k : Nat) (c : UInt8) (hk : k ≤ s.length) : (eatB (s.drop k) c = true ∧ k < s.length ∧ nxB (s.drop k) = c) ∨ (eatB (s.drop k) c = false ∧ (k = s.length ∨ nxB (s.drop k) ≠ c)) := by
  by_cases h : k = s.length
  · right
    subst h
    rw [List.drop_length]
    exact ⟨rfl, .inl rfl⟩
  · have hlt : k < s.length := by omega
    rw [drop_get hlt, eatB_cons]
    by_cases e : s[k] = c
    · left; exact ⟨by simpa using e, hlt, e⟩
    · right; exact ⟨by simpa using e, .inr e⟩
theorem u8_inj {a b : UInt8} : ((a.toNat : Int) = b.toNat) ↔ a = b := by
  rw [Int.natCast_inj]; exact UInt8.toNat_inj
theorem eat_spec (s : List UInt8) (k : Nat) (c : UInt8) (hk : k ≤ s.length) (hs : s.length ≤ 1000000000) : SpecF Tryd.prog 64 (fun r => [pp r, u8v c]) (psF s k) (fun _ => bv (eatB (s.drop k) c)) (psF s (k + one (eatB (s.drop k) c))) := by
  refine specF_of t_text_parser_eat (by simp) (famL_cons famA_pob (famL_cons famA_v famL_nil)) famA_v fun w0 I0 M0 m0 => ?_
  unfold c_text_parser_eat
  have hn := next_spec s k hk
  rcases eat_cases s k c hk with ⟨h1, h2, h3⟩ | ⟨h1, h2⟩
  · rw [h1]
    rw [h3] at hn
    have e1 : IntKind.i64.wrap ((k : Int) + 1) = ((k + 1 : Nat) : Int) := by rw [i64_same (by omega) (by omega)]; omega
    simp
    refine sc_fam 0 hn (fun p => by simp) (by simp) (by simp) ?_
    simp [e1, show ¬ (k : Int) = s.length by omega]
    exact reth_fam rfl rfl (fun p => by by_cases hp : p = [] <;> simp [hp, updF_app])
  · rw [h1]
    by_cases h3 : nxB (s.drop k) = c
    · have h4 : k = s.length := by
        rcases h2 with h2 | h2
        · exact h2
        · exact (h2 h3).elim
      rw [h3] at hn
      simp
      refine sc_fam 0 hn (fun p => by simp) (by simp) (by simp) ?_
      simp [h4]
      exact reth_fam rfl rfl (fun p => by simp)
    · have h4 : ¬ ((nxB (s.drop k)).toNat : Int) = c.toNat := fun e => h3 (u8_inj.1 e)
      generalize nxB (s.drop k) = x at hn h4
      simp
      refine sc_fam 0 hn (fun p => by simp) (by simp) (by simp) ?_
      simp [h4]
      exact reth_fam rfl rfl (fun p => by simp)
set_option maxRecDepth 100000 in
theorem hexV_idx (c : UInt8) : idxB [48, 49, 50, 51, 52, 53, 54, 55, 56, 57, 97, 98, 99, 100, 101, 102] c = match hexV c with | some d => (d : Int) | none => -1 := by
  have : ∀ n : Fin 256, idxB [48, 49, 50, 51, 52, 53, 54, 55, 56, 57, 97, 98, 99, 100, 101, 102] (UInt8.ofNat n.val) = match hexV (UInt8.ofNat n.val) with | some d => (d : Int) | none => -1 := by decide +kernel
  have h := this ⟨c.toNat, c.toNat_lt⟩
  simpa using h
theorem hex_spec (c : UInt8) : G.Spec Tryd.prog 91 [u8v c] (.tup [uv ((hexV c).getD 0 : Nat), bv (hexV c).isSome]) := by
  refine spec_of t_text_hex (by simp) fun w0 I0 => ?_
  unfold c_text_hex
  simp
  refine sc_call (idx_spec _ c) rfl ?_
  rw [hexV_idx]
  cases h : hexV c with
  | none => simp; exact frz_bare rfl
  | some d =>
    have hd := (hexD_V h).1
    have e : IntKind.u64.wrap (d : Int) = d := u64_same (by omega) (by omega)
    simp [e]
    exact frz_bare rfl
theorem or16 (n d : Nat) (hn : n < 1152921504606846976) (hd : d < 16) : bits .or .u64 (IntKind.u64.wrap ((n : Int) * 2 ^ min (Int.toNat 4) IntKind.u64.bits)) (d : Int) = ((n * 16 + d : Nat) : Int) := by
  have e : IntKind.u64.wrap ((n : Int) * 2 ^ min (Int.toNat 4) IntKind.u64.bits) = ((n * 16 : Nat) : Int) := by
    rw [show min (Int.toNat 4) IntKind.u64.bits = 4 from rfl, u64_same (by omega) (by omega)]
    omega
  rw [e, bits_or_u64_nat _ _ (by omega) (by omega)]
  have := Nat.two_pow_add_eq_or_of_lt (i := 4) (b := d) (by omega) n
  rw [show (2 : Nat) ^ 4 * n = n * 16 by omega] at this
  rw [← this]
section
variable {n0 : Nat} {w0 : World} {I0 : Nat → Prop} {M0 : Nm → Nat → Prop} {m0 : Mu} {Q : Exit → Sta → Prop}
theorem num_l1 {s : List UInt8} (hs : s.length ≤ 1000000000) {k0 : Nat} : ∀ (r : List UInt8) (k n : Nat) (H : Hp), s.drop k = r → k ≤ s.length → n < 18446744073709551616 → (∀ p, H (0 :: p) = (psF s k).F 0 p) →
    (∀ (H' : Hp) (s6 s7 s22 : A), (∀ p, H' (0 :: p) = (psF s (k + (numGo n r).2)).F 0 p) → Q (.exit 0) ⟨lk [(0, pp 0), (4, iv k0), (5, uv (numGo n r).1), (22, s22)], H'⟩) →
    (∀ (H' : Hp) (s6 s7 s22 : A), (∀ p, H' (0 :: p) = (psF s (k + (numGo n r).2)).F 0 p) → Q (.exit 0) ⟨lk [(0, pp 0), (4, iv k0), (5, uv (numGo n r).1), (6, s6), (42, s22)], H'⟩) →
    LoopC (cxh Tryd.prog w0 I0 M0 n0 m0) l1_text_parser_number Q ⟨lk [(0, pp 0), (4, iv k0), (5, uv n)], H⟩ := by
  intro r
  induction r with
  | nil =>
    intro k n H hr hk hn hH hq hq2
    have hke : k = s.length := by
      have := congrArg List.length hr
      simp at this; omega
    refine loopC_once mixed l1_text_parser_number.eq_1 ?_
    simp [hH, hke]
    exact hq H .any .any _ (fun p => by rw [hH]; simp [numGo, hke])
  | cons x r ih =>
    intro k n H hr hk hn hH hq hq2
    have hlt : k < s.length := by
      have := congrArg List.length hr
      simp at this; omega
    refine loopC_once mixed l1_text_parser_number.eq_1 ?_
    have hx : s[k] = x := by
      rw [drop_get hlt] at hr
      exact (List.cons.inj hr).1
    have hr' : s.drop (k + 1) = r := by
      rw [drop_get hlt] at hr
      exact (List.cons.inj hr).2
    have hcall := hex_spec x
    have stop : numGo n (x :: r) = (n, 0) → ∀ (H : Hp) (s6 s42 : A), (∀ p, H (0 :: p) = (psF s k).F 0 p) → Q (.exit 0) ⟨lk [(0, pp 0), (4, iv k0), (5, uv n), (6, s6), (42, s42)], H⟩ := fun e H s6 s42 hH => by
      have := hq2 H s6 .any s42 (fun p => by rw [hH, e]; rfl)
      rwa [e] at this
    simp [hH, hlt, hx]
    refine sc_call hcall rfl ?_
    cases hv : hexV x with
    | none =>
      simp
      exact stop (by rw [numGo, hv]) _ _ _ hH
    | some d =>
      have hd := (hexD_V hv).1
      by_cases hbig : n < 1152921504606846976
      · have hsh : (n : Int) / 2 ^ min 60 IntKind.u64.bits = 0 := by
          rw [show min 60 IntKind.u64.bits = 60 from rfl]
          omega
        have hor := or16 n d hbig hd
        have e1 : IntKind.i64.wrap ((k : Int) + 1) = ((k + 1 : Nat) : Int) := by rw [i64_same (by omega) (by omega)]; omega
        have en : numGo n (x :: r) = ((numGo (n * 16 + d) r).1, (numGo (n * 16 + d) r).2 + 1) := by rw [numGo, hv]; simp [hbig]
        rw [en] at hq hq2
        obtain ⟨q, hqq⟩ : ∃ q, q = n * 16 + d := ⟨_, rfl⟩
        rw [← hqq] at hor hq hq2
        rw [show min (Int.toNat 4) IntKind.u64.bits = min 4 IntKind.u64.bits from rfl] at hor
        simp [hsh, hor, hH, e1]
        refine ih (k + 1) q _ hr' (by omega) (by omega) (fun p => ?_) (fun H' s6 s7 s22 h => hq H' s6 s7 s22 (fun p => by rw [h, show k + 1 + (numGo q r).2 = k + ((numGo q r).2 + 1) by omega])) (fun H' s6 s7 s22 h => hq2 H' s6 s7 s22 (fun p => by rw [h, show k + 1 + (numGo q r).2 = k + ((numGo q r).2 + 1) by omega]))
        by_cases hp : p = [] <;> simp [hp, updF_app, hH]
      · have hsh : ¬ (n : Int) / 2 ^ min 60 IntKind.u64.bits = 0 := by
          rw [show min 60 IntKind.u64.bits = 60 from rfl]
          omega
        simp [hsh]
        exact stop (by rw [numGo, hv]; simp [hbig]) _ _ _ hH
end
theorem number_spec {s : List UInt8} (hs : s.length ≤ 1000000000) (k : Nat) (hk : k ≤ s.length) : SpecF Tryd.prog 80 (fun r => [pp r]) (psF s k) (fun _ => .tup [uv ((numP (s.drop k)).1 : Nat), bv (numP (s.drop k)).2.1]) (psF s (k + (numP (s.drop k)).2.2)) := by
  refine specF_of t_text_parser_number (by simp) (famL_cons famA_pob famL_nil) (famA_tup (famL_cons famA_v (famL_cons famA_v famL_nil))) fun w0 I0 M0 m0 => ?_
  unfold c_text_parser_number
  simp
  have hle := (numGo_le (s.drop k) 0 (by omega)).2
  rw [List.length_drop] at hle
  have fin : ∀ (H' : Hp), (∀ p, H' (0 :: p) = (psF s (k + (numGo 0 (s.drop k)).2)).F 0 p) → WPC (cxh Tryd.prog w0 I0 M0 77 m0) k1_text_parser_number (RetH (cxh Tryd.prog w0 I0 M0 77 m0) [.tmp 2, .tmp 3] 1 (.tup [uv ((numP (s.drop k)).1 : Nat), bv (numP (s.drop k)).2.1]) (ov 0 ((psF s (k + (numP (s.drop k)).2.2)).F 0) (lkH []))) ⟨lk [(0, pp 0), (4, iv k), (5, uv ((numGo 0 (s.drop k)).1 : Nat))], H'⟩ := fun H' h => by
    have e1 : IntKind.i64.wrap ((k : Int) + ((numGo 0 (s.drop k)).2 : Int) - k) = ((numGo 0 (s.drop k)).2 : Int) := by rw [i64_same (by omega) (by omega)]; omega
    have en : numP (s.drop k) = ((numGo 0 (s.drop k)).1, decide (0 < (numGo 0 (s.drop k)).2) && (decide ((numGo 0 (s.drop k)).2 = 1) || decide (nxB (s.drop k) ≠ 48)), (numGo 0 (s.drop k)).2) := rfl
    rw [en]
    have hnx : 0 < (numGo 0 (s.drop k)).2 → nxB (s.drop k) = s.getD k 0 := fun h0 => by rw [nxB_at (by omega)]; simp [List.getD, show k < s.length by omega]
    generalize nxB (s.drop k) = nx at hnx
    generalize (numGo 0 (s.drop k)).1 = n at *
    generalize (numGo 0 (s.drop k)).2 = j at *
    rw [k1_text_parser_number.eq_1]
    by_cases h0 : j = 0
    · subst h0
      simp at e1
      simp [h, e1]
      exact reth_fam rfl rfl (fun p => h p)
    · by_cases h1 : j = 1
      · subst h1
        simp at e1
        simp [h, e1]
        exact reth_fam rfl rfl (fun p => h p)
      · have hlt : k < s.length := by omega
        have hx := hnx (by omega)
        have hg : s.getD k 0 = s[k] := by simp [List.getD, hlt]
        rw [hg] at hx
        subst hx
        simp [h, e1, show 0 < j by omega, show ¬ (j : Int) = 1 by omega, hlt]
        refine reth_fam rfl ?_ (fun p => h p)
        have h48 : ((s[k].toNat : Int) = 48) ↔ s[k] = 48 := u8_inj (b := 48)
        simp [h1, h48]
  refine num_l1 hs (s.drop k) k 0 _ rfl hk (by omega) (fun p => by simp) (fun H' s6 s7 s22 h => ?_) (fun H' s6 s7 s22 h => ?_)
  · simp
    exact fin H' h
  · simp
    exact fin H' h
end Go.Proofs.YtebihdhapepejaaDoor

/-
  Chapter 16: the law InternMany.
-/
namespace Go.Proofs.YtebihdhapepejaaDoor
set_option linter.unusedVariables false
set_option linter.unusedSimpArgs false
open Go Go.G Go.Proofs Go.PL
/-! ### classes, again -/
/-! ### the message -/
theorem le_softS {c : Cx} {s : Nat → A} {H : Hp} (t : Nat) : Le c ⟨s, H⟩ ⟨upd s t (A.soft (s t)), H⟩ := fun a w I μ hs =>
  ⟨I, μ, hs.sim, hs.size, hs.defers, fun k => by
    show Rel w I μ (upd s t (A.soft (s t)) k) _
    unfold upd
    split
    · rename_i e
      subst e
      exact (hs.rel _).soft
    · exact hs.rel k⟩
section
variable {n0 : Nat} {w0 : World} {I0 : Nat → Prop} {Q : Exit → Sta → Prop}
end
theorem frz_rowS {α : Type} {H : Hp} {o : Nm} {u n sz : Nat} {l : List α} {f g : α → A} (h : vr (H o) u = some (sz, l.map f)) (hn : n = l.length)
    (hf : ∀ x, x ∈ l → (f x).cells.all A.bare = true ∧ (f x).cells.map A.soft = (g x).cells ∧ (g x).cells.length = sz ∧ A.ones (g x).cells = true) : Frz H (.osl o u sz 0 n) (.sl false (l.map g)) := by
  subst hn
  refine frz_osl' (xs := l.map f) (by simpa using h) (by simp) (by simp) (fun y hy => ?_) ?_ ?_
  · obtain ⟨x, hx, rfl⟩ := List.mem_map.1 hy
    exact (hf x hx).2.2.1
  · simp only [A.ones, List.all_eq_true, List.mem_flatMap]
    rintro y ⟨z, hz, hy⟩
    obtain ⟨x, hx, rfl⟩ := List.mem_map.1 hz
    have := (hf x hx).2.2.2
    simp only [A.ones, List.all_eq_true] at this
    exact this y hy
  · rw [List.drop_zero, List.take_of_length_le (by simp)]
    have : ∀ (m : List α), (∀ x, x ∈ m → x ∈ l) → FrzL H ((m.map f).flatMap A.cells) ((m.map g).flatMap A.cells) := by
      intro m
      induction m with
      | nil => intro _; simp
      | cons x m ih =>
        intro hm
        obtain ⟨h1, h2, _, _⟩ := hf x (hm x (by simp))
        simp only [List.map_cons, List.flatMap_cons]
        rw [← h2]
        have hr := ih fun y hy => hm y (by simp [hy])
        have : ∀ (c : List A) (p q : List A), c.all A.bare = true → FrzL H p q → FrzL H (c ++ p) (c.map A.soft ++ q) := by
          intro c
          induction c with
          | nil => intro p q _ hpq; exact hpq
          | cons y c ihc =>
            intro p q hc hpq
            simp only [List.all_cons, Bool.and_eq_true] at hc
            exact ⟨frz_soft hc.1, ihc p q hc.2 hpq⟩
        exact this _ _ _ h1 hr
    exact this l fun x h => h
section
variable {n0 : Nat} {w0 : World} {I0 : Nat → Prop}
end
end Go.Proofs.YtebihdhapepejaaDoor

/-
  The program's reader of texts: rows of numbers, kids.
-/
namespace Go.Proofs.YtebihdhapepejaaDoor
set_option linter.unusedVariables false
set_option linter.unusedSimpArgs false
open Go Go.G Go.Proofs Go.PL
theorem numP_le (r : List UInt8) : (numP r).2.2 ≤ r.length := (numGo_le r 0 (by omega)).2
theorem nums_l1 {n0 : Nat} {w0 : World} {I0 : Nat → Prop} {M0 : Nm → Nat → Prop} {m0 : Mu} {Q : Exit → Sta → Prop} {s : List UInt8} (hs : s.length ≤ 1000000000) : ∀ (f k : Nat) (acc : List Int) (v : Nat) (H : Hp), s.length - k < f → k ≤ s.length → acc.length ≤ k → (∀ p, H (0 :: p) = (psF s k).F 0 p) → H [1] = ⟨v, .arr 1 (acc.map uv)⟩ →
    ((numsM numP f (s.drop k)).2.1 = false → ∀ H' : Hp, (∀ p, H' (0 :: p) = (psF s (k + (numsM numP f (s.drop k)).2.2)).F 0 p) → Q .ret ⟨lk [(2, .sl true []), (3, bv false)], H'⟩) →
    ((numsM numP f (s.drop k)).2.1 = true → ∀ (H' : Hp) (v' : Nat), (∀ p, H' (0 :: p) = (psF s (k + (numsM numP f (s.drop k)).2.2)).F 0 p) → H' [1] = ⟨v', .arr 1 ((acc ++ (numsM numP f (s.drop k)).1).map uv)⟩ → Q .ret ⟨lk [(2, .osl [1] v' 1 0 (acc ++ (numsM numP f (s.drop k)).1).length), (3, bv true)], H'⟩) →
    LoopC (cxh Tryd.prog w0 I0 M0 n0 m0) l1_text_parser_numbers Q ⟨lk [(0, pp 0), (4, .osl [1] v 1 0 acc.length)], H⟩ := by
  intro f
  induction f with
  | zero => intro k acc v H hf; omega
  | succ f ih =>
    intro k acc v H hf hk hacc hH hH1 hq0 hq1
    have hn := number_spec hs k hk
    have hle := numP_le (s.drop k)
    rw [List.length_drop] at hle
    refine loopC_once mixed l1_text_parser_numbers.eq_1 ?_
    simp
    refine sc_fam 0 hn hH (by simp) (by simp) ?_
    rw [numsM] at hq0 hq1
    by_cases ho : (numP (s.drop k)).2.1 = true
    · rw [if_pos ho] at hq0 hq1
      have hpos : 0 < (numP (s.drop k)).2.2 := by
        have : (numP (s.drop k)).2.1 = true := ho
        unfold numP at this
        simp only [Bool.and_eq_true, decide_eq_true_eq] at this
        exact this.1
      generalize hN : numP (s.drop k) = N at *
      have hk1 : k + N.2.2 ≤ s.length := by omega
      have he := eat_spec s (k + N.2.2) 44 hk1 hs
      rw [List.drop_drop] at hq0 hq1
      simp [ho, hH1, take_all]
      refine ⟨by omega, ?_⟩
      refine sc_fam 0 he (fun p => by simp [updF_app]) (by simp) (by simp) ?_
      by_cases hc : eatB (s.drop (k + N.2.2)) 44 = true
      · rw [if_pos hc] at hq0 hq1
        rw [List.drop_drop] at hq0 hq1
        have hlt : k + N.2.2 < s.length := by
          rcases eat_cases s (k + N.2.2) 44 hk1 with h | h
          · exact h.2.1
          · rw [h.1] at hc; cases hc
        rw [hc]
        simp
        refine LoopC.le (le_list [(0, pp 0), (4, .osl [1] (v + 1) 1 0 (acc ++ [(N.1 : Int)]).length)] (by simp)) ?_
        rw [show k + N.2.2 + 1 = k + (N.2.2 + 1) by omega]
        refine ih (k + (N.2.2 + 1)) (acc ++ [(N.1 : Int)]) (v + 1) _ (by omega) (by omega) (by simp; omega) (fun p => by simp) (by simp) (fun h H' h1 => ?_) (fun h H' v' h1 h2 => ?_)
        · exact hq0 h H' (fun p => (h1 p).trans (by rw [Nat.add_assoc]))
        · have := hq1 h H' v' (fun p => (h1 p).trans (by rw [Nat.add_assoc])) (by simp [h]; simpa using h2)
          simpa [h] using this
      · rw [if_neg hc] at hq0 hq1
        simp only [Bool.not_eq_true] at hc
        rw [hc]
        simp
        have := hq1 rfl (ov 0 ((psF s (k + N.2.2)).F 0) (updF H [1] ⟨v + 1, .arr 1 (acc.map uv ++ [uv N.1])⟩)) (v + 1) (fun p => by simp) (by simp)
        simpa using this
    · rw [if_neg ho] at hq0 hq1
      simp only [Bool.not_eq_true] at ho
      simp [ho]
      exact hq0 rfl _ (fun p => by simp)
theorem nums_spec {s : List UInt8} (hs : s.length ≤ 1000000000) (k : Nat) (hk : k ≤ s.length) (f : Nat) (hf : s.length - k < f) : ∃ x, SpecF Tryd.prog 79 (fun r => [pp r]) (psF s k) (fun _ => .tup [x, bv (numsM numP f (s.drop k)).2.1]) (psF s (k + (numsM numP f (s.drop k)).2.2)) ∧
    ((numsM numP f (s.drop k)).2.1 = true → x = uws (numsM numP f (s.drop k)).1) ∧ ((numsM numP f (s.drop k)).2.1 = false → x = .sl false []) := by
  cases hb : (numsM numP f (s.drop k)).2.1 with
  | false =>
    refine ⟨.sl false [], specF_of' t_text_parser_numbers (by simp) (famL_cons famA_pob famL_nil) (famA_tup (famL_cons famA_sl (famL_cons famA_v famL_nil))) fun w0 I0 M0 m0 hM => ?_, (fun h => by cases h), fun _ => rfl⟩
    unfold c_text_parser_numbers
    simp
    refine LoopC.le (le_blank 4 [1] 1 (by simp)) ?_
    refine LoopC.le (le_list [(0, pp 0), (4, .osl [1] 1 1 0 ([] : List Int).length)] (by simp [upd])) ?_
    refine nums_l1 hs f k [] 1 _ hf hk (by simp) (fun p => by simp) (by simp) (fun h H' h1 => ?_) (fun h => by rw [hb] at h; cases h)
    simp
    refine reth_le (le_softS 2) (reth_fam (r0 := .tup [.sl false [], bv false]) (by simp [upd, A.soft, A.softL]) rfl h1)
  | true =>
    refine ⟨uws (numsM numP f (s.drop k)).1, specF_of' t_text_parser_numbers (by simp) (famL_cons famA_pob famL_nil) (famA_tup (famL_cons famA_sl (famL_cons famA_v famL_nil))) fun w0 I0 M0 m0 hM => ?_, fun _ => rfl, (fun h => by cases h)⟩
    unfold c_text_parser_numbers
    simp
    refine LoopC.le (le_blank 4 [1] 1 (by simp)) ?_
    refine LoopC.le (le_list [(0, pp 0), (4, .osl [1] 1 1 0 ([] : List Int).length)] (by simp [upd])) ?_
    refine nums_l1 hs f k [] 1 _ hf hk (by simp) (fun p => by simp) (by simp) (fun h => by rw [hb] at h; cases h) (fun h H' v' h1 h2 => ?_)
    simp at h2
    simp
    obtain ⟨H2, g1, g2⟩ := le_freezeR (c := cxh Tryd.prog w0 I0 M0 22 m0) (s := lk [(2, .osl [1] v' 1 0 (numsM numP f (s.drop k)).1.length), (3, bv true)]) (H := H') (fun r => 1 ≤ r) (fun r p b hr => hM r p b hr) 2 (uws (numsM numP f (s.drop k)).1) (fun H1 e1 => by
      have e2 : H1 [1] = H' [1] := e1 1 [] (Nat.le_refl _)
      simp
      exact frz_row (l := (numsM numP f (s.drop k)).1) (f := uv) (by rw [e2, h2]; simp) rfl (fun x => by simp))
    refine reth_le g1 (reth_fam (r0 := .tup [uws (numsM numP f (s.drop k)).1, bv true]) (by simp [upd]) rfl (fun p => ?_))
    exact (g2 0 p (by omega)).trans (h1 p)
/-- A kid as it stands in the reader's row. -/
def elC (D : Bool) (t : T) : List A := if D = true then [iv t.kind, .sl true (t.words.map uv), .sl true []] else [iv t.kind, uws t.words, tKs t.kids]
def el (D : Bool) (t : T) : A := .agg (elC D t)
@[simp] theorem el_cells {D : Bool} {t : T} : (el D t).cells = elC D t := rfl
@[simp] theorem elC_len {D : Bool} {t : T} : (elC D t).length = 3 := by cases D <;> rfl
theorem elC_ones {D : Bool} {t : T} : A.ones (elC D t) = true := by cases D <;> rfl
@[simp] theorem elC_take {D : Bool} {t : T} : (elC D t).take 3 = elC D t := by cases D <;> rfl
theorem elC_bare {D : Bool} {t : T} : ∀ y, y ∈ elC D t → y.bare1 = true := by
  intro y hy
  cases D <;> simp [elC] at hy <;> rcases hy with rfl | rfl | rfl <;> rfl
theorem lens_el {D : Bool} {l : List T} : lens 3 (l.map (el D)) = true := by rw [lens_all]; simp
theorem rdkids_k1 {n0 : Nat} {w0 : World} {I0 : Nat → Prop} {M0 : Nm → Nat → Prop} {m0 : Mu} {Q' : Exit → Sta → Prop} {s : List UInt8} (hs : s.length ≤ 1000000000) {k : Nat} (hk : k ≤ s.length) {ki : Int} {e : UInt8} {d : Int} {D b : Bool} {x : T} {acc : List T} {u v : Nat} {H : Hp} (hacc : acc.length ≤ k)
    (hH : ∀ p, H (0 :: p) = (psF s k).F 0 p) (h1 : H [1] = ⟨u, .cells (elC D x)⟩) (h2 : H [2] = ⟨v, .arr 3 (acc.map (el D))⟩)
    (hbad : (b = true → eatB (s.drop k) e = false ∧ eatB (s.drop k) 44 = false) → ∀ H' : Hp, (∀ p, H' (0 :: p) = (psF s k).F 0 p) → Q' .ret ⟨lk [(8, .sl true []), (9, bv false)], H'⟩)
    (hend : b = true → eatB (s.drop k) e = true → ∀ H' : Hp, (∀ p, H' (0 :: p) = (psF s (k + 1)).F 0 p) → H' [2] = ⟨v + 1, .arr 3 ((acc ++ [x]).map (el D))⟩ → Q' .ret ⟨lk [(8, .osl [2] (v + 1) 3 0 (acc.length + 1)), (9, bv true)], H'⟩)
    (hgo : b = true → eatB (s.drop k) e = false → eatB (s.drop k) 44 = true → ∀ H' : Hp, (∀ p, H' (0 :: p) = (psF s (k + 1)).F 0 p) → H' [2] = ⟨v + 1, .arr 3 ((acc ++ [x]).map (el D))⟩ → Q' .normal ⟨lk [(0, pp 0), (1, iv ki), (2, u8v e), (3, iv d), (10, .osl [2] (v + 1) 3 0 (acc.length + 1)), (44, bv false)], H'⟩) :
    WPC (cxh Tryd.prog w0 I0 M0 n0 m0) k1_text_parser_kids Q' ⟨lk [(0, pp 0), (1, iv ki), (2, u8v e), (3, iv d), (10, .osl [2] v 3 0 acc.length), (11, .pob [1] u 0), (12, bv b)], H⟩ := by
  rw [k1_text_parser_kids.eq_1]
  cases b with
  | false =>
    simp
    exact hbad (fun h => by cases h) H hH
  | true =>
    have he := eat_spec s k e hk hs
    have hc := eat_spec s k 44 hk hs
    have hag : A.agg (elC D x) = el D x := rfl
    simp [h1, h2, lens_el, elC_ones, take_all, hag]
    refine ⟨elC_bare, by omega, ?_⟩
    refine sc_fam 0 he (fun p => by simp [updF_app, hH]) (by simp) (by simp) ?_
    cases hE : eatB (s.drop k) e with
    | true =>
      simp
      exact hend rfl hE _ (fun p => by simp) (by simp)
    | false =>
      simp
      refine sc_fam 0 hc (fun p => by simp) (by simp) (by simp) ?_
      cases hC : eatB (s.drop k) 44 with
      | true =>
        simp
        exact hgo rfl hE hC _ (fun p => by simp) (by simp)
      | false =>
        simp
        exact hbad (fun _ => ⟨hE, hC⟩) _ (fun p => by simp)
/-- What reads a kid. -/
def rdK (D : Bool) (d : Nat) : List UInt8 → T × Bool × Nat := if D = true then numT numP else treeM numP d
def TrS (d : Nat) : Prop := ∀ {s : List UInt8}, s.length ≤ 1000000000 → ∀ k, k ≤ s.length → (treeM numP d (s.drop k)).2.2 ≤ s.length - k ∧ ((treeM numP d (s.drop k)).2.1 = true → 0 < (treeM numP d (s.drop k)).2.2) ∧
  SpecF Tryd.prog 49 (fun r => [pp r, iv d]) (psF s k) (fun _ => .tup [tX (treeM numP d (s.drop k)).1, bv (treeM numP d (s.drop k)).2.1]) (psF s (k + (treeM numP d (s.drop k)).2.2))
theorem tData_spec (k : Int) : G.Spec Tryd.prog 73 [iv k] (bv (isD k)) := by
  refine spec_of t_tree_Data (by simp) fun w0 I0 => ?_
  unfold c_tree_Data
  by_cases h : 2 ≤ k
  · simp [h]
    exact frz_bool (by simp [isD, h])
  · simp [h]
    exact frz_bool (by simp [isD, h])
theorem rdkids_l1 {n0 : Nat} {w0 : World} {I0 : Nat → Prop} {M0 : Nm → Nat → Prop} {m0 : Mu} {Q : Exit → Sta → Prop} {s : List UInt8} (hs : s.length ≤ 1000000000) {ki : Int} {e : UInt8} {d : Nat} (hT : isD ki = false → TrS d) : ∀ (f k : Nat) (acc : List T) (v : Nat) (H : Hp), s.length - k < f → k ≤ s.length → acc.length ≤ k → (∀ p, H (0 :: p) = (psF s k).F 0 p) → H [2] = ⟨v, .arr 3 (acc.map (el (isD ki)))⟩ →
    ((kidsGo (rdK (isD ki) d) e f (s.drop k)).2.1 = false → ∀ H' : Hp, (∀ p, H' (0 :: p) = (psF s (k + (kidsGo (rdK (isD ki) d) e f (s.drop k)).2.2)).F 0 p) → Q .ret ⟨lk [(8, .sl true []), (9, bv false)], H'⟩) →
    ((kidsGo (rdK (isD ki) d) e f (s.drop k)).2.1 = true → ∀ (H' : Hp) (v' : Nat), (∀ p, H' (0 :: p) = (psF s (k + (kidsGo (rdK (isD ki) d) e f (s.drop k)).2.2)).F 0 p) → H' [2] = ⟨v', .arr 3 ((acc ++ (kidsGo (rdK (isD ki) d) e f (s.drop k)).1).map (el (isD ki)))⟩ → Q .ret ⟨lk [(8, .osl [2] v' 3 0 (acc ++ (kidsGo (rdK (isD ki) d) e f (s.drop k)).1).length), (9, bv true)], H'⟩) →
    LoopC (cxh Tryd.prog w0 I0 M0 n0 m0) l1_text_parser_kids Q ⟨lk [(0, pp 0), (1, iv ki), (2, u8v e), (3, iv d), (10, .osl [2] v 3 0 acc.length)], H⟩ := by
  intro f
  induction f with
  | zero => intro k acc v H hf; omega
  | succ f ih =>
    intro k acc v H hf hk hacc hH hH2 hq0 hq1
    rw [kidsGo] at hq0 hq1
    have hle : (rdK (isD ki) d (s.drop k)).2.2 ≤ s.length - k ∧ ((rdK (isD ki) d (s.drop k)).2.1 = true → 0 < (rdK (isD ki) d (s.drop k)).2.2) := by
      unfold rdK
      by_cases hD : isD ki = true
      · rw [if_pos hD]
        have := numP_le (s.drop k)
        rw [List.length_drop] at this
        refine ⟨this, fun h => ?_⟩
        unfold numT numP at h
        simp only [Bool.and_eq_true, decide_eq_true_eq] at h
        exact h.1
      · rw [if_neg hD]
        have := hT (by simpa using hD) hs k hk
        exact ⟨this.1, this.2.1⟩
    -- behind a kid
    have tail : ∀ (H' : Hp) (u : Nat), (∀ p, H' (0 :: p) = (psF s (k + (rdK (isD ki) d (s.drop k)).2.2)).F 0 p) → H' [1] = ⟨u, .cells (elC (isD ki) (rdK (isD ki) d (s.drop k)).1)⟩ → H' [2] = ⟨v, .arr 3 (acc.map (el (isD ki)))⟩ →
        WPC (cxh Tryd.prog w0 I0 M0 n0 m0) k1_text_parser_kids (InBlock 1 (ThenC (LoopC (cxh Tryd.prog w0 I0 M0 n0 m0) l1_text_parser_kids Q) Q)) ⟨lk [(0, pp 0), (1, iv ki), (2, u8v e), (3, iv d), (10, .osl [2] v 3 0 acc.length), (11, .pob [1] u 0), (12, bv (rdK (isD ki) d (s.drop k)).2.1)], H'⟩ := fun H' u g0 g1 g2 => by
      generalize rdK (isD ki) d (s.drop k) = N at *
      obtain ⟨hle1, hpos⟩ := hle
      have hk1 : k + N.2.2 ≤ s.length := by omega
      refine rdkids_k1 hs hk1 (by omega) g0 g1 g2 (fun hb H2 f0 => ?_) (fun hb hE H2 f0 f2 => ?_) (fun hb hE hC H2 f0 f2 => ?_)
      · rw [List.drop_drop] at hq0
        by_cases hb' : N.2.1 = true
        · obtain ⟨b1, b2⟩ := hb hb'
          have b1' : ¬ eatB (s.drop (k + N.2.2)) e = true := by rw [b1]; simp
          have b2' : ¬ eatB (s.drop (k + N.2.2)) 44 = true := by rw [b2]; simp
          rw [if_pos hb', if_neg b1', if_neg b2'] at hq0
          exact hq0 rfl H2 f0
        · rw [if_neg hb'] at hq0
          exact hq0 rfl H2 f0
      · rw [List.drop_drop] at hq1
        rw [if_pos hb, if_pos hE] at hq1
        have := hq1 rfl H2 (v + 1) f0 f2
        simpa using this
      · have hlt : k + N.2.2 < s.length := by
          rcases eat_cases s (k + N.2.2) 44 hk1 with h | h
          · exact h.2.1
          · rw [h.1] at hC; cases hC
        rw [List.drop_drop] at hq0 hq1
        have hE' : ¬ eatB (s.drop (k + N.2.2)) e = true := by rw [hE]; simp
        rw [if_pos hb, if_neg hE', if_pos hC, List.drop_drop] at hq0 hq1
        simp
        refine LoopC.le (le_list [(0, pp 0), (1, iv ki), (2, u8v e), (3, iv d), (10, .osl [2] (v + 1) 3 0 (acc ++ [N.1]).length)] (by simp)) ?_
        rw [show k + N.2.2 + 1 = k + (N.2.2 + 1) by omega] at f0
        refine ih (k + (N.2.2 + 1)) (acc ++ [N.1]) (v + 1) _ (by omega) (by omega) (by simp; omega) f0 f2 (fun h H' h1 => ?_) (fun h H' v' h1 h2 => ?_)
        · exact hq0 h H' (fun p => (h1 p).trans (by rw [Nat.add_assoc]))
        · have := hq1 h H' v' (fun p => (h1 p).trans (by rw [Nat.add_assoc])) (by simp [h]; simpa using h2)
          simpa [h] using this
    refine loopC_once mixed l1_text_parser_kids.eq_1 ?_
    simp
    refine sc_call (tData_spec ki) rfl ?_
    cases hD : isD ki with
    | true =>
      simp
      have hn := number_spec hs k hk
      refine sc_fam 0 hn (fun p => by simp [updF_app, hH]) (by simp) (by simp) ?_
      have eR : rdK true d (s.drop k) = (.mk 10 [((numP (s.drop k)).1 : Int)] [], (numP (s.drop k)).2.1, (numP (s.drop k)).2.2) := rfl
      rw [hD, eR] at tail
      simp
      refine tail _ _ (fun p => ?_) ?_ ?_
      · simp [updF_app]
      · simp [elC]
      · simp [updF_app, hH2, hD]
    | false =>
      simp
      obtain ⟨_, _, ht⟩ := hT hD hs k hk
      refine sc_fam 0 ht (fun p => by simp [updF_app, hH]) (by simp) (by simp) ?_
      have eR : rdK false d (s.drop k) = treeM numP d (s.drop k) := rfl
      rw [hD, eR] at tail
      simp
      refine tail _ _ (fun p => ?_) ?_ ?_
      · simp [updF_app]
      · simp [elC]
      · simp [updF_app, hH2, hD]
theorem rdK_le {d : Nat} {D : Bool} (hT : D = false → TrS d) {s : List UInt8} (hs : s.length ≤ 1000000000) {k : Nat} (hk : k ≤ s.length) : (rdK D d (s.drop k)).2.2 ≤ s.length - k := by
  unfold rdK
  by_cases hD : D = true
  · rw [if_pos hD]
    have := numP_le (s.drop k)
    rwa [List.length_drop] at this
  · rw [if_neg hD]
    exact (hT (by simpa using hD) hs k hk).1
theorem kidsGo_le {d : Nat} {D : Bool} (hT : D = false → TrS d) {s : List UInt8} (hs : s.length ≤ 1000000000) (e : UInt8) : ∀ (f k : Nat), k ≤ s.length → (kidsGo (rdK D d) e f (s.drop k)).2.2 ≤ s.length - k
  | 0, k, hk => by simp [kidsGo]
  | f + 1, k, hk => by
    have h1 := rdK_le hT hs hk
    unfold kidsGo
    split
    · split
      · rename_i hc
        obtain ⟨c1, _⟩ := eat_take hc
        simp at c1 ⊢
        omega
      · split
        · rename_i hc
          obtain ⟨c1, _⟩ := eat_take hc
          rw [List.drop_drop]
          have := kidsGo_le hT hs e f (k + ((rdK D d (s.drop k)).2.2 + 1)) (by simp at c1; omega)
          simp at c1 ⊢
          omega
        · simpa using h1
    · simpa using h1
theorem txKids_le {d : Nat} {D : Bool} (hT : D = false → TrS d) {s : List UInt8} (hs : s.length ≤ 1000000000) (e : UInt8) {k : Nat} (hk : k ≤ s.length) : (txKids (rdK D d) e (s.drop k)).2.2 ≤ s.length - k := by
  unfold txKids
  split
  · rename_i hc
    rcases eat_cases s k e hk with h | h
    · simp; omega
    · rw [h.1] at hc; cases hc
  · exact kidsGo_le hT hs e _ k hk
theorem rdkids_spec {d : Nat} {ki : Int} (hT : isD ki = false → TrS d) {s : List UInt8} (hs : s.length ≤ 1000000000) {e : UInt8} {k : Nat} (hk : k ≤ s.length) : ∃ x, SpecF Tryd.prog 67 (fun r => [pp r, iv ki, u8v e, iv d]) (psF s k) (fun _ => .tup [x, bv (txKids (rdK (isD ki) d) e (s.drop k)).2.1]) (psF s (k + (txKids (rdK (isD ki) d) e (s.drop k)).2.2)) ∧
    x = if (txKids (rdK (isD ki) d) e (s.drop k)).2.1 = true then tKs (txKids (rdK (isD ki) d) e (s.drop k)).1 else .sl false [] := by
  have he := eat_spec s k e hk hs
  have fa : FamL (fun r => [pp r, iv ki, u8v e, iv d]) := famL_cons famA_pob (famL_cons famA_v (famL_cons famA_v (famL_cons famA_v famL_nil)))
  unfold txKids
  by_cases hE : eatB (s.drop k) e = true
  · rw [if_pos hE]
    rw [hE] at he
    refine ⟨.sl false [], specF_of' t_text_parser_kids (by simp) fa (famA_tup (famL_cons famA_sl (famL_cons famA_v famL_nil))) fun w0 I0 M0 m0 hM => ?_, rfl⟩
    unfold c_text_parser_kids
    simp
    refine sc_fam 0 he (fun p => by simp) (by simp) (by simp) ?_
    simp
    exact reth_le (le_softS 8) (reth_fam (r0 := .tup [.sl false [], bv true]) (by simp [upd, A.soft, A.softL]) rfl (fun p => by simp))
  · rw [if_neg hE]
    simp only [Bool.not_eq_true] at hE
    rw [hE] at he
    cases hb : (kidsGo (rdK (isD ki) d) e ((s.drop k).length + 1) (s.drop k)).2.1 with
    | false =>
      refine ⟨.sl false [], specF_of' t_text_parser_kids (by simp) fa (famA_tup (famL_cons famA_sl (famL_cons famA_v famL_nil))) fun w0 I0 M0 m0 hM => ?_, rfl⟩
      unfold c_text_parser_kids
      simp
      refine sc_fam 0 he (fun p => by simp) (by simp) (by simp) ?_
      simp
      refine LoopC.le (le_blank 10 [2] 3 (by simp)) ?_
      refine LoopC.le (le_list [(0, pp 0), (1, iv ki), (2, u8v e), (3, iv d), (10, .osl [2] 1 3 0 ([] : List T).length)] (by simp [upd])) ?_
      refine rdkids_l1 hs hT ((s.drop k).length + 1) k [] 1 _ (by simp) hk (by simp) (fun p => by simp) (by simp) (fun h H' h1 => ?_) (fun h => by rw [hb] at h; cases h)
      simp only [List.length_drop] at h1
      simp
      exact reth_le (le_softS 8) (reth_fam (r0 := .tup [.sl false [], bv false]) (by simp [upd, A.soft, A.softL]) rfl h1)
    | true =>
      obtain ⟨G, hG⟩ : ∃ G, G = (kidsGo (rdK (isD ki) d) e ((s.drop k).length + 1) (s.drop k)).1 := ⟨_, rfl⟩
      have hat : isD ki = true → ∀ c, c ∈ G → c.kids = [] := fun hD c hc => by
        have eR : rdK (isD ki) d = numT numP := by rw [hD]; rfl
        rw [eR] at hb hG
        have := (kidsGo_to (numT_to numP_R) e _ _ _ _ (triple hb)).2.2.2 c (by rw [← hG]; exact hc)
        exact this.2.1
      refine ⟨tKs G, specF_of' t_text_parser_kids (by simp) fa (famA_tup (famL_cons famA_sl (famL_cons famA_v famL_nil))) fun w0 I0 M0 m0 hM => ?_, by rw [hG]; rfl⟩
      unfold c_text_parser_kids
      simp
      refine sc_fam 0 he (fun p => by simp) (by simp) (by simp) ?_
      simp
      refine LoopC.le (le_blank 10 [2] 3 (by simp)) ?_
      refine LoopC.le (le_list [(0, pp 0), (1, iv ki), (2, u8v e), (3, iv d), (10, .osl [2] 1 3 0 ([] : List T).length)] (by simp [upd])) ?_
      refine rdkids_l1 hs hT ((s.drop k).length + 1) k [] 1 _ (by simp) hk (by simp) (fun p => by simp) (by simp) (fun h => by rw [hb] at h; cases h) (fun h H' v' h1 h2 => ?_)
      rw [← hG] at h2 ⊢
      simp only [List.length_drop] at h1
      simp only [List.nil_append] at h2 ⊢
      simp
      obtain ⟨H2, g1, g2⟩ := le_freezeR (c := cxh Tryd.prog w0 I0 M0 48 m0) (s := lk [(8, .osl [2] v' 3 0 G.length), (9, bv true)]) (H := H') (fun r => 1 ≤ r) (fun r p b hr => hM r p b hr) 8 (tKs G) (fun H1 e1 => by
        have e2 : H1 [2] = H' [2] := e1 2 [] (by omega)
        simp
        refine frz_rowS (l := G) (f := el (isD ki)) (g := tA) (by rw [e2, h2]; simp) rfl (fun x hx => ?_)
        cases hD : isD ki with
        | true =>
          have hk0 := hat hD x hx
          simp [elC, A.soft, A.softL, hk0, A.bare, A.ones, soft_uv]
        | false => simp [elC, A.soft, A.softL, A.bare, A.ones, soft_uv, soft_tKs])
      refine reth_le g1 (reth_fam (r0 := .tup [tKs G, bv true]) (by simp [upd]) rfl (fun p => ?_))
      exact (g2 0 p (by omega)).trans (h1 p)
end Go.Proofs.YtebihdhapepejaaDoor

/-
  The program's reader of texts: trees.
-/
namespace Go.Proofs.YtebihdhapepejaaDoor
set_option linter.unusedVariables false
set_option linter.unusedSimpArgs false
open Go Go.G Go.Proofs Go.PL
theorem famA_tt8 (t : T) : FamA (fun _ => tX t) := famA_bare (cs := [iv t.kind, uws t.words, tKs t.kids]) rfl fun x hx => by simp at hx; rcases hx with rfl | rfl | rfl <;> rfl
theorem fam_res8 (t : T) (b : Bool) : FamA (fun _ => .tup [tX t, bv b]) := famA_tup (famL_cons (famA_tt8 t) (famL_cons famA_v famL_nil))
/-- The end: a tree in its cells. -/
theorem tree_fin {n : Nat} {w0 : World} {I0 : Nat → Prop} {M0 : Nm → Nat → Prop} {m0 : Mu} {H : Hp} {u k' : Nat} {s : List UInt8} {cs : List A} {t : T} {b : Bool} (h1 : H [1] = ⟨u, .cells cs⟩) (hf : ∀ H1 : Hp, FrzL H1 cs [iv t.kind, uws t.words, tKs t.kids]) (hH : ∀ p, H (0 :: p) = (psF s k').F 0 p) :
    RetH (cxh Tryd.prog w0 I0 M0 n m0) [.cell 4 25, .tmp 5] 1 (.tup [tX t, bv b]) (ov 0 ((psF s k').F 0) (lkH [])) .ret ⟨lk [(4, .pob [1] u 0), (5, bv b)], H⟩ := by
  obtain ⟨H2, g1, g2⟩ := le_freezeC (c := cxh Tryd.prog w0 I0 M0 n m0) (s := lk [(4, .pob [1] u 0), (5, bv b)]) (H := H) (fun _ => False) (fun _ _ _ h => h.elim) (r0 := 1) (p0 := []) (by simp) h1 (cs' := [iv t.kind, uws t.words, tKs t.kids]) (by simp [A.ones]) (fun H1 _ => hf H1)
  refine reth_le g1 (reth_fam (r0 := .tup [tX t, bv b]) (by simp [resA, updF]) rfl fun p => ?_)
  exact (updF_ne (f := H2) (d := [1]) (o := 0 :: p) (x := (⟨u, .cells [iv t.kind, uws t.words, tKs t.kids]⟩ : VOb)) (by simp)).trans ((g2 0 p (fun h => h)).trans (hH p))
theorem kidsGo_fail (p : List UInt8 → T × Bool × Nat) (e : UInt8) : ∀ (f : Nat) (r : List UInt8), (kidsGo p e f r).2.1 = false → (kidsGo p e f r).1 = []
  | 0, r, _ => rfl
  | f + 1, r, h => by
    unfold kidsGo at h ⊢
    split
    · rename_i h1
      rw [if_pos h1] at h
      split
      · rename_i h2
        rw [if_pos h2] at h; cases h
      · rename_i h2
        rw [if_neg h2] at h
        split
        · rename_i h3
          rw [if_pos h3] at h
          simp only at h ⊢
          rw [if_neg (by rw [h]; simp)]
        · rfl
    · rfl
theorem txKids_fail {p : List UInt8 → T × Bool × Nat} {e : UInt8} {r : List UInt8} (h : (txKids p e r).2.1 = false) : (txKids p e r).1 = [] := by
  unfold txKids at h ⊢
  split
  · rfl
  · rename_i h1
    rw [if_neg h1] at h
    exact kidsGo_fail p e _ _ h
theorem kids_frz {G : List T × Bool × Nat} (hG : G.2.1 = false → G.1 = []) {x : A} (hx : x = if G.2.1 = true then tKs G.1 else .sl false []) : ∃ b l, x = .sl b l ∧ ∀ H1 : Hp, Frz H1 x (tKs G.1) := by
  by_cases hg : G.2.1 = true
  · rw [if_pos hg] at hx
    exact ⟨_, _, hx, fun H1 => by rw [hx]; exact frz_sl⟩
  · rw [if_neg hg] at hx
    exact ⟨_, _, hx, fun H1 => by rw [hx, hG (by simpa using hg)]; exact frz_sl⟩
theorem st_k1 {n : Nat} {w0 : World} {I0 : Nat → Prop} {M0 : Nm → Nat → Prop} {m0 : Mu} {d : Nat} (hd : d ≤ 1000) (hT : TrS d) {s : List UInt8} (hs : s.length ≤ 1000000000) {k : Nat} (hk : k ≤ s.length) {ws : List Int} {fX : Bool} {H : Hp} {cs : List A} (hcs : cs.length = 3) (hH : ∀ p, H (0 :: p) = (psF s k).F 0 p) (h1 : H [1] = ⟨1, .cells cs⟩) (h2 : H [2] = ⟨1, .cells [iv 1, .sl fX (ws.map uv), .sl true []]⟩)
    {M : T × Bool × Nat} (hM : tailM (txKids (treeM numP d) 125) ws (s.drop k) = M) {k' : Nat} (hk' : k' = k + M.2.2) :
    WPC (cxh Tryd.prog w0 I0 M0 n m0) k1_text_parser_structure (RetH (cxh Tryd.prog w0 I0 M0 n m0) [.cell 4 25, .tmp 5] 1 (.tup [tX M.1, bv M.2.1]) (ov 0 ((psF s k').F 0) (lkH []))) ⟨lk [(0, pp 0), (1, iv (d + 1 : Nat)), (4, .pob [1] 1 0), (6, .pob [2] 1 0)], H⟩ := by
  have he := eat_spec s k 125 hk hs
  have hc := eat_spec s k 124 hk hs
  obtain ⟨a, b, c, rfl⟩ : ∃ a b c, cs = [a, b, c] := by
    match cs, hcs with
    | [a, b, c], _ => exact ⟨a, b, c, rfl⟩
  have fz : ∀ (H1 : Hp), FrzL H1 [iv 1, .sl fX (ws.map uv), .sl true []] [iv (T.mk 1 ws []).kind, uws (T.mk 1 ws []).words, tKs (T.mk 1 ws []).kids] := fun H1 => ⟨frz_bare rfl, frz_sl, frz_sl, trivial⟩
  rw [k1_text_parser_structure.eq_1]
  simp
  refine sc_fam 0 he hH (by simp) (by simp) ?_
  unfold tailM at hM
  cases hE : eatB (s.drop k) 125 with
  | true =>
    rw [if_pos hE] at hM
    subst hM hk'
    simp [h1, h2, splice]
    exact tree_fin (t := .mk 1 ws []) (by simp) fz (fun p => by simp [updF_app])
  | false =>
    have hE' : ¬ eatB (s.drop k) 125 = true := by rw [hE]; simp
    rw [if_neg hE'] at hM
    simp
    refine sc_fam 0 hc (fun p => by simp) (by simp) (by simp) ?_
    cases hC : eatB (s.drop k) 124 with
    | false =>
      have hC' : ¬ eatB (s.drop k) 124 = true := by rw [hC]; simp
      rw [if_neg hC'] at hM
      subst hM hk'
      simp
      refine sc_call_off rfl ?_
      simp [h1, h2, splice]
      exact tree_fin (t := .mk 1 ws []) (by simp) fz (fun p => by simp [updF_app])
    | true =>
      rw [if_pos hC] at hM
      have hlt : k + 1 ≤ s.length := by
        rcases eat_cases s k 124 hk with h | h
        · exact h.2.1
        · rw [h.1] at hC; cases hC
      have hn := next_spec s (k + 1) hlt
      rw [List.drop_drop] at hM
      have hnx : (s.drop (k + 1)).headD 0 = nxB (s.drop (k + 1)) := rfl
      rw [hnx] at hM
      simp
      rw [sc_guard]
      simp
      refine sc_fam 0 hn (fun p => by simp) (by simp) (by simp) ?_
      by_cases h5 : nxB (s.drop (k + 1)) = 125
      · rw [if_pos h5] at hM
        subst hM hk'
        rw [h5]
        simp [h1, h2, splice]
        exact tree_fin (t := .mk 1 ws []) (by simp) fz (fun p => by simp [updF_app])
      · rw [if_neg h5] at hM
        have h5' : ¬ ((nxB (s.drop (k + 1))).toNat : Int) = 125 := fun e => h5 ((u8_inj (b := 125)).1 e)
        have hD : isD 1 = false := by decide
        obtain ⟨x, hx1, hx2⟩ := rdkids_spec (d := d) (ki := 1) (fun _ => hT) hs (e := 125) hlt
        have eR : rdK (isD 1) d = treeM numP d := rfl
        rw [eR] at hx1 hx2
        have e1 : IntKind.i64.wrap ((d : Int) + 1 - 1) = (d : Int) := by rw [i64_same (by omega) (by omega)]; omega
        simp only [Int.add_sub_cancel] at e1
        obtain ⟨xb, xl, rfl, hxf⟩ := kids_frz (fun h => txKids_fail h) hx2
        generalize txKids (treeM numP d) 125 (s.drop (k + 1)) = G at hM hx1 hxf
        subst hM hk'
        generalize nxB (s.drop (k + 1)) = nx at h5'
        simp [h5', e1]
        refine sc_fam 0 hx1 (fun p => by simp) (by simp) (by simp) ?_
        simp [h1, h2, splice, updF_app]
        exact tree_fin (t := .mk 1 ws G.1) (cs := [iv 1, .sl fX (ws.map uv), .sl xb xl]) (by simp [updF_app]) (fun H1 => ⟨frz_bare rfl, frz_sl, hxf H1, trivial⟩) (fun p => by simp [updF_app, Nat.add_assoc])
theorem struct_spec {d : Nat} (hd : d ≤ 1000) (hT : TrS d) {s : List UInt8} (hs : s.length ≤ 1000000000) {k : Nat} (hk : k ≤ s.length) : SpecF Tryd.prog 65 (fun r => [pp r, iv (d + 1 : Nat)]) (psF s k) (fun _ => .tup [tX (structM numP (txKids (treeM numP d) 125) (s.drop k)).1, bv (structM numP (txKids (treeM numP d) 125) (s.drop k)).2.1]) (psF s (k + (structM numP (txKids (treeM numP d) 125) (s.drop k)).2.2)) := by
  refine specF_of' t_text_parser_structure (by simp) (famL_cons famA_pob (famL_cons famA_v famL_nil)) (fam_res8 _ _) fun w0 I0 M0 m0 hM => ?_
  have he := eat_spec s k 125 hk hs
  have hn := next_spec s k hk
  obtain ⟨M, hMM⟩ : ∃ M, M = structM numP (txKids (treeM numP d) 125) (s.drop k) := ⟨_, rfl⟩
  rw [← hMM]
  unfold structM at hMM
  unfold c_text_parser_structure
  simp
  refine sc_fam 0 he (fun p => by simp [updF_app]) (by simp) (by simp) ?_
  cases hE : eatB (s.drop k) 125 with
  | true =>
    rw [if_pos hE] at hMM
    subst hMM
    simp [splice, updF_app]
    exact tree_fin (t := .mk 1 [] []) (cs := [iv 1, .sl true [], .sl true []]) (by simp [updF_app]) (fun H1 => ⟨frz_bare rfl, frz_sl, frz_sl, trivial⟩) (fun p => by simp [updF_app])
  | false =>
    have hE' : ¬ eatB (s.drop k) 125 = true := by rw [hE]; simp
    rw [if_neg hE'] at hMM
    simp
    refine sc_fam 0 hn (fun p => by simp [updF_app]) (by simp) (by simp) ?_
    unfold wsM at hMM
    have hnx : (s.drop k).headD 0 = nxB (s.drop k) := rfl
    rw [hnx] at hMM
    by_cases h4 : nxB (s.drop k) = 124
    · have h4n : ¬ nxB (s.drop k) ≠ 124 := fun h => h h4
      rw [if_neg h4n] at hMM
      rw [h4]
      simp only [if_true, List.drop_zero, Nat.zero_add] at hMM
      simp
      refine st_k1 hd hT hs hk (cs := [iv 0, .sl true [], .sl true []]) (ws := []) (fX := true) rfl (fun p => by simp [updF_app]) (by simp [updF_app]) (by simp [updF_app]) (M := M) hMM.symm rfl
    · rw [if_pos h4] at hMM
      have h4' : ¬ ((nxB (s.drop k)).toNat : Int) = 124 := fun e => h4 ((u8_inj (b := 124)).1 e)
      obtain ⟨x, hx1, hx2, hx3⟩ := nums_spec hs k hk ((s.drop k).length + 1) (by simp)
      generalize nxB (s.drop k) = nx at h4'
      simp [h4']
      refine sc_fam 0 hx1 (fun p => by simp) (by simp) (by simp) ?_
      generalize hW : numsM numP ((s.drop k).length + 1) (s.drop k) = W at hMM hx1 hx2 hx3
      cases hb : W.2.1 with
      | false =>
        rw [hb, if_neg (by simp)] at hMM
        subst hMM
        rw [hx3 hb]
        simp [splice, updF_app]
        exact tree_fin (t := .mk 1 [] []) (cs := [iv 1, .sl false [], .sl true []]) (by simp [updF_app]) (fun H1 => ⟨frz_bare rfl, frz_bare rfl, frz_sl, trivial⟩) (fun p => by simp [updF_app])
      | true =>
        rw [if_pos hb] at hMM
        have hle := (numsM_to numP_R _ _ _ _ (hW.trans (triple hb))).2.1
        rw [List.length_drop] at hle
        rw [hx2 hb]
        rw [List.drop_drop] at hMM
        obtain ⟨M', hM'⟩ : ∃ M', tailM (txKids (treeM numP d) 125) W.1 (s.drop (k + W.2.2)) = M' := ⟨_, rfl⟩
        rw [hM'] at hMM
        subst hMM
        simp [splice, updF_app]
        exact st_k1 hd hT hs (k := k + W.2.2) (by omega) (cs := [iv 0, .sl true [], .sl true []]) (ws := W.1) (fX := false) rfl (fun p => by simp [updF_app]) (by simp [updF_app]) (by simp [updF_app]) hM' (by omega)
theorem numsM_le : ∀ (f k : Nat) {s : List UInt8}, k ≤ s.length → (numsM numP f (s.drop k)).2.2 ≤ s.length - k
  | 0, k, s, hk => by simp [numsM]
  | f + 1, k, s, hk => by
    have h1 := numP_le (s.drop k)
    rw [List.length_drop] at h1
    unfold numsM
    split
    · split
      · rename_i hc
        obtain ⟨c1, _⟩ := eat_take hc
        rw [List.drop_drop]
        have := numsM_le f (k + ((numP (s.drop k)).2.2 + 1)) (s := s) (by simp at c1; omega)
        simp at c1 ⊢
        omega
      · simpa using h1
    · simpa using h1
theorem tailM_le {d : Nat} (hT : TrS d) {s : List UInt8} (hs : s.length ≤ 1000000000) (ws : List Int) {k : Nat} (hk : k ≤ s.length) : (tailM (txKids (treeM numP d) 125) ws (s.drop k)).2.2 ≤ s.length - k := by
  unfold tailM
  split
  · rename_i hc
    obtain ⟨c1, _⟩ := eat_take (k := 0) (by simpa using hc)
    simp at c1 ⊢; omega
  · split
    · rename_i hc
      obtain ⟨c1, _⟩ := eat_take (k := 0) (by simpa using hc)
      split
      · simp at c1 ⊢; omega
      · have := txKids_le (d := d) (D := false) (fun _ => hT) hs 125 (k := k + 1) (by simp at c1; omega)
        rw [List.drop_drop]
        have eR : rdK false d = treeM numP d := rfl
        rw [eR] at this
        simp at c1 ⊢
        omega
    · simp
theorem structM_le {d : Nat} (hT : TrS d) {s : List UInt8} (hs : s.length ≤ 1000000000) {k : Nat} (hk : k ≤ s.length) : (structM numP (txKids (treeM numP d) 125) (s.drop k)).2.2 ≤ s.length - k := by
  have hw : (wsM numP (s.drop k)).2.2 ≤ s.length - k := by
    unfold wsM
    split
    · exact numsM_le _ k hk
    · simp
  unfold structM
  split
  · rename_i hc
    obtain ⟨c1, _⟩ := eat_take (k := 0) (by simpa using hc)
    simp at c1 ⊢; omega
  · split
    · rw [List.drop_drop]
      have := tailM_le hT hs (wsM numP (s.drop k)).1 (k := k + (wsM numP (s.drop k)).2.2) (by omega)
      simp
      omega
    · exact hw
theorem treeM_le {d : Nat} (hT : TrS d) {s : List UInt8} (hs : s.length ≤ 1000000000) {k : Nat} (hk : k ≤ s.length) : (treeM numP (d + 1) (s.drop k)).2.2 ≤ s.length - k := by
  rw [treeM_succ]
  split
  · rename_i hc
    obtain ⟨c1, _⟩ := eat_take (k := 0) (by simpa using hc)
    simp at c1 ⊢; omega
  · split
    · rename_i hc
      obtain ⟨c1, _⟩ := eat_take (k := 0) (by simpa using hc)
      rw [List.drop_drop]
      have := structM_le hT hs (k := k + 1) (by simp at c1; omega)
      simp at c1 ⊢
      omega
    · split
      · simp
      · rename_i hl
        have hlt : k < s.length := by
          apply Nat.lt_of_not_le
          intro h
          rw [List.drop_of_length_le h] at hl
          exact hl (by decide)
        split
        · rename_i hc
          obtain ⟨c1, _⟩ := eat_take hc
          have := txKids_le (d := d) (D := isD (letV ((s.drop k).headD 0))) (fun _ => hT) hs 93 (k := k + 2) (by simp at c1; omega)
          rw [List.drop_drop]
          unfold rdK at this
          simp only [List.length_drop] at c1
          show 2 + _ ≤ _
          omega
        · simp; omega
theorem treeM_pos {d : Nat} {r : List UInt8} (h : (treeM numP d r).2.1 = true) : 0 < (treeM numP d r).2.2 := by
  obtain ⟨h1, h2, _⟩ := treeM_to numP_R d _ _ _ (triple h)
  apply Nat.pos_of_ne_zero
  intro e
  rw [e] at h1
  exact showT_pos _ (by rw [← h1]; simp)
theorem trS_zero : TrS 0 := fun {s} hs k hk => by
  have he := eat_spec s k 95 hk hs
  rw [treeM_zero]
  cases hE : eatB (s.drop k) 95 with
  | true =>
    have hlt : k < s.length := by
      rcases eat_cases s k 95 hk with h | h
      · exact h.2.1
      · rw [h.1] at hE; cases hE
    rw [hE] at he
    simp only [if_true]
    refine ⟨by omega, fun _ => by omega, specF_of' t_text_parser_tree (by simp) (famL_cons famA_pob (famL_cons famA_v famL_nil)) (fam_res8 _ _) fun w0 I0 M0 m0 hM => ?_⟩
    unfold c_text_parser_tree
    simp
    refine sc_fam 0 he (fun p => by simp [updF_app]) (by simp) (by simp) ?_
    simp [splice, updF_app]
    exact tree_fin (t := T0) (cs := [iv 0, .sl true [], .sl true []]) (by simp [updF_app]) (fun H1 => ⟨frz_bare rfl, frz_sl, frz_sl, trivial⟩) (fun p => by simp [updF_app])
  | false =>
    rw [hE] at he
    simp only [Bool.false_eq_true, if_false]
    refine ⟨by omega, (fun h => by cases h), specF_of' t_text_parser_tree (by simp) (famL_cons famA_pob (famL_cons famA_v famL_nil)) (fam_res8 _ _) fun w0 I0 M0 m0 hM => ?_⟩
    unfold c_text_parser_tree
    simp
    refine sc_fam 0 he (fun p => by simp [updF_app]) (by simp) (by simp) ?_
    simp [splice, updF_app]
    exact tree_fin (t := T0) (cs := [iv 0, .sl true [], .sl true []]) (by simp [updF_app]) (fun H1 => ⟨frz_bare rfl, frz_sl, frz_sl, trivial⟩) (fun p => by simp [updF_app])
theorem letS_46 {K : Int} (h1 : 2 ≤ K) (h2 : K ≤ 9) : letS K ≠ 46 := by
  have : ∀ k : Nat, k < 10 → 2 ≤ k → letS (k : Int) ≠ 46 := by decide
  have := this K.toNat (by omega) (by omega)
  rwa [Int.toNat_of_nonneg (by omega)] at this
theorem trS_succ {d : Nat} (hd : d ≤ 1000) (hT : TrS d) : TrS (d + 1) := fun {s} hs k hk => by
  refine ⟨treeM_le hT hs hk, treeM_pos, ?_⟩
  have he := eat_spec s k 95 hk hs
  have hst := eat_spec s k 123 hk hs
  have hn := next_spec s k hk
  refine specF_of' t_text_parser_tree (by simp) (famL_cons famA_pob (famL_cons famA_v famL_nil)) (fam_res8 _ _) fun w0 I0 M0 m0 hM => ?_
  obtain ⟨M, hMM⟩ : ∃ M, M = treeM numP (d + 1) (s.drop k) := ⟨_, rfl⟩
  rw [← hMM]
  rw [treeM_succ] at hMM
  unfold c_text_parser_tree
  simp
  refine sc_fam 0 he (fun p => by simp [updF_app]) (by simp) (by simp) ?_
  cases hE : eatB (s.drop k) 95 with
  | true =>
    rw [if_pos hE] at hMM
    subst hMM
    simp [splice, updF_app]
    exact tree_fin (t := T0) (cs := [iv 0, .sl true [], .sl true []]) (by simp [updF_app]) (fun H1 => ⟨frz_bare rfl, frz_sl, frz_sl, trivial⟩) (fun p => by simp [updF_app])
  | false =>
    rw [if_neg (by rw [hE]; simp)] at hMM
    simp [show ¬ (d : Int) + 1 = 0 by omega]
    refine sc_fam 0 hst (fun p => by simp [updF_app]) (by simp) (by simp) ?_
    cases hS : eatB (s.drop k) 123 with
    | true =>
      rw [if_pos hS, List.drop_drop] at hMM
      have hlt : k + 1 ≤ s.length := by
        rcases eat_cases s k 123 hk with h | h
        · exact h.2.1
        · rw [h.1] at hS; cases hS
      have hstr := struct_spec hd hT hs hlt
      generalize structM numP (txKids (treeM numP d) 125) (s.drop (k + 1)) = G at hMM hstr
      subst hMM
      simp
      refine sc_fam 0 hstr (fun p => by simp [updF_app]) (by simp) (by simp) ?_
      simp [splice, updF_app]
      exact tree_fin (t := G.1) (cs := [iv G.1.kind, uws G.1.words, tKs G.1.kids]) (by simp [updF_app]) (fun H1 => ⟨frz_bare rfl, frz_bare rfl, frz_bare rfl, trivial⟩) (fun p => by simp [updF_app, Nat.add_assoc])
    | false =>
      rw [if_neg (by rw [hS]; simp)] at hMM
      have hnx : (s.drop k).headD 0 = nxB (s.drop k) := rfl
      rw [hnx] at hMM
      have hidx := idx_spec letters (nxB (s.drop k))
      have hlV : idxB letters (nxB (s.drop k)) = letV (nxB (s.drop k)) := rfl
      rw [hlV] at hidx
      simp
      refine sc_fam 0 hn (fun p => by simp [updF_app]) (by simp) (by simp) ?_
      simp
      refine sc_call hidx rfl ?_
      by_cases hl : letV (nxB (s.drop k)) < 2
      · rw [if_pos hl] at hMM
        subst hMM
        generalize letV (nxB (s.drop k)) = K at hl
        simp [hl]
        refine sc_call_off rfl ?_
        simp [splice, updF_app]
        exact tree_fin (t := T0) (cs := [iv 0, .sl true [], .sl true []]) (by simp [updF_app]) (fun H1 => ⟨frz_bare rfl, frz_sl, frz_sl, trivial⟩) (fun p => by simp [updF_app])
      · rw [if_neg hl] at hMM
        obtain ⟨l1, l2, l3⟩ := letS_V hl
        have hlt : k + 1 ≤ s.length := by
          apply Nat.lt_of_not_le
          intro h
          rw [List.drop_of_length_le h] at hl
          exact hl (by decide)
        have h46 : ¬ ((nxB (s.drop k)).toNat : Int) = 46 := fun e => letS_46 l1 l2 (by rw [l3]; exact (u8_inj (b := 46)).1 e)
        have hb := eat_spec s (k + 1) 91 hlt hs
        have e1 : IntKind.i64.wrap ((k : Int) + 1) = ((k + 1 : Nat) : Int) := by rw [i64_same (by omega) (by omega)]; omega
        rw [List.drop_drop] at hMM
        generalize hK : letV (nxB (s.drop k)) = K at hMM hl l1 l2 l3
        simp [hl]
        rw [sc_guard]
        simp
        refine sc_fam 0 hn (fun p => by simp [updF_app]) (by simp) (by simp) ?_
        simp [h46, e1]
        refine sc_fam 0 hb (fun p => by by_cases hp : p = [] <;> simp [updF_app, hp]) (by simp) (by simp) ?_
        cases hB : eatB (s.drop (k + 1)) 91 with
        | false =>
          rw [if_neg (by rw [hB]; simp)] at hMM
          subst hMM
          simp [splice, updF_app]
          exact tree_fin (t := T0) (cs := [iv 0, .sl true [], .sl true []]) (by simp [updF_app]) (fun H1 => ⟨frz_bare rfl, frz_sl, frz_sl, trivial⟩) (fun p => by simp [updF_app])
        | true =>
          rw [if_pos hB, List.drop_drop] at hMM
          have hlt2 : k + 1 + 1 ≤ s.length := by
            rcases eat_cases s (k + 1) 91 hlt with h | h
            · exact h.2.1
            · rw [h.1] at hB; cases hB
          obtain ⟨x, hx1, hx2⟩ := rdkids_spec (d := d) (ki := K) (fun _ => hT) hs (e := 93) hlt2
          have eR : rdK (isD K) d = if isD K = true then numT numP else treeM numP d := rfl
          rw [eR] at hx1 hx2
          rw [show k + 2 = k + 1 + 1 by omega] at hMM
          obtain ⟨xb, xl, rfl, hxf⟩ := kids_frz (fun h => txKids_fail h) hx2
          generalize txKids (if isD K = true then numT numP else treeM numP d) 93 (s.drop (k + 1 + 1)) = G at hMM hx1 hxf
          subst hMM
          have e2 : IntKind.i64.wrap (d : Int) = (d : Int) := i64_same (by omega) (by omega)
          simp [e2]
          refine sc_fam 0 hx1 (fun p => by simp [updF_app]) (by simp) (by simp) ?_
          simp [splice, updF_app]
          exact tree_fin (t := .mk K [] G.1) (cs := [iv K, .sl true [], .sl xb xl]) (by simp [updF_app]) (fun H1 => ⟨frz_bare rfl, frz_sl, hxf H1, trivial⟩) (fun p => by rw [show k + (2 + G.2.2) = k + 1 + 1 + G.2.2 by omega]; simp [updF_app])
theorem trS_all : ∀ d : Nat, d ≤ 1000 → TrS d
  | 0, _ => trS_zero
  | d + 1, h => trS_succ (by omega) (trS_all d (by omega))
end Go.Proofs.YtebihdhapepejaaDoor

/-
  text.Parse; which trees are proper.
-/
namespace Go.Proofs.YtebihdhapepejaaDoor
set_option linter.unusedVariables false
set_option linter.unusedSimpArgs false
open Go Go.G Go.Proofs Go.PL
theorem join_mem_le {α : Type} (f : α → List UInt8) : ∀ (l : List α) (x : α), x ∈ l → (f x).length ≤ (joinC (l.map f)).length
  | [], x, h => by simp at h
  | [y], x, h => by simp at h; rw [h]; simp
  | y :: z :: l, x, h => by
    rw [List.map_cons, joinC_cons (by simp)]
    rcases List.mem_cons.1 h with rfl | h
    · simp
    · have := join_mem_le f (z :: l) x h
      simp at this ⊢
      omega
theorem proper_wf : ∀ (d : Nat) (t : T), proper d t → (showT t).length ≤ 1000000000 → wfT t
  | 0, t, h, _ => by
    have h : t = T0 := h
    subst h
    rw [wfT_iff]
    exact ⟨by simp [i64R], by simp, by simp, by simp, by simp⟩
  | d + 1, t, h, hl => by
    rcases h with rfl | ⟨h1, h2, h3⟩ | ⟨h1, h2, h3, h4⟩
    · rw [wfT_iff]
      exact ⟨by simp [i64R], by simp, by simp, by simp, by simp⟩
    · obtain ⟨k, w, l⟩ := t
      simp at h1 h2 h3
      subst h1
      rw [showT_mk, if_neg (by omega), if_pos rfl] at hl
      have hw := join_len (fun x : Int => hexS x.toNat) w (fun x _ => hexS_pos _)
      have hk : l.length ≤ 1000000000 ∧ ∀ c, c ∈ l → (showT c).length ≤ 1000000000 := by
        by_cases hne : l = []
        · subst hne; simp
        · rw [if_neg hne] at hl
          have := join_len showT l (fun x hx => by have := showT_pos x; cases hq : showT x with | nil => exact (this hq).elim | cons a b => simp)
          simp at hl
          refine ⟨by omega, fun c hc => ?_⟩
          have := join_mem_le showT l c hc
          omega
      simp at hl
      rw [wfT_iff]
      exact ⟨by simp [i64R], fun x hx => h2 x hx, by simp; omega, by simp; omega, fun c hc => proper_wf d c (h3 c hc) (hk.2 c hc)⟩
    · obtain ⟨k, w, l⟩ := t
      simp at h1 h2 h3 h4
      subst h3
      rw [showT_mk, if_neg (by omega), if_neg (by omega), if_pos ⟨h1, h2⟩] at hl
      simp at hl
      have := join_len showT l (fun x hx => by have := showT_pos x; cases hq : showT x with | nil => exact (this hq).elim | cons a b => simp)
      rw [wfT_iff]
      refine ⟨by simp [i64R]; omega, by simp, by simp, by simp; omega, fun c hc => ?_⟩
      have hc' : if isD k = true then atomOk c else proper d c := h4 c hc
      have hcl := join_mem_le showT l c hc
      by_cases hD : isD k = true
      · rw [if_pos hD] at hc'
        obtain ⟨n, rfl, hn, _⟩ := show_atom hc'
        rw [wfT_iff]
        exact ⟨by simp [i64R], by simp [u64R]; omega, by simp, by simp, by simp⟩
      · rw [if_neg hD] at hc'
        exact proper_wf d c hc' (by omega)
theorem right_proper : ∀ (d : Nat) (t : T), wfT t → rightT d t = true → t.kind ≠ 10 → proper d t
  | 0, t, hw, h, hk => by
    obtain ⟨k, w, l⟩ := t
    simp at hk
    rw [rightT_mk] at h
    split at h
    · rename_i h0
      simp at h
      rw [h0, h.1, h.2]; rfl
    · simp [hk, tooBig] at h
  | d + 1, t, hw, h, hk => by
    have hW := wfT_iff.1 hw
    obtain ⟨k, w, l⟩ := t
    simp at hk
    have hs := rightT_struct h
    rw [rightT_mk] at h
    split at h
    · rename_i h0
      simp at h
      rw [h0, h.1, h.2]; exact .inl rfl
    · rename_i h0
      split at h
      · cases h
      · rename_i hb
        simp [tooBig] at hb
        by_cases h1 : k = 1
        · subst h1
          refine .inr (.inl ⟨rfl, fun x hx => hW.w x hx, fun c hc => right_proper d c (hW.ks c hc) (hs c hc).1 ?_⟩)
          have := (hs c hc).2
          simp [kidOk, isData] at this
          exact this
        · refine .inr (.inr ⟨by simp; omega, by simp; omega, ?_, fun c hc => ?_⟩)
          · simp
            rcases Nat.eq_zero_or_pos w.length with e | e
            · exact List.eq_nil_of_length_eq_zero e
            · have := hb.2 (by omega)
              simp [this] at e
          · have hc2 := hs c hc
            have hD : isData k = isD k := rfl
            by_cases hDk : isD k = true
            · simp only [T.kind_mk, hDk, if_true]
              have h10 : c.kind = 10 := by
                have := hc2.2
                simp [kidOk, hD, hDk] at this
                exact this.1.1
              have hcW := wfT_iff.1 (hW.ks c hc)
              obtain ⟨ck, cw, cl⟩ := c
              simp at h10
              subst h10
              have := hc2.1
              rw [rightT_mk] at this
              simp at this
              obtain ⟨x, rfl⟩ : ∃ x, cw = [x] := List.length_eq_one_iff.1 this.1
              have hx := hcW.w x (by simp)
              unfold u64R at hx
              exact ⟨rfl, this.2, x.toNat, by simp; omega, by omega⟩
            · show (if isD k = true then atomOk c else proper d c)
              rw [if_neg hDk]
              refine right_proper d c (hW.ks c hc) hc2.1 ?_
              have := hc2.2
              simp [kidOk, hD, hDk] at this
              exact this.1
def okP (num : List UInt8 → Nat × Bool × Nat) (s : List UInt8) : Bool := (treeM num 64 s).2.1 && decide ((treeM num 64 s).2.2 = s.length) && rightT 64 (treeM num 64 s).1
def parsed (num : List UInt8 → Nat × Bool × Nat) (s : List UInt8) : T := if okP num s = true then (treeM num 64 s).1 else T0
theorem parse_spec {s : List UInt8} (hs : s.length ≤ 1000000000) : G.Spec Tryd.prog 34 [S s] (.tup [tX (parsed numP s), iv (if okP numP s = true then 0 else 11)]) := by
  obtain ⟨hle, _, hT⟩ := trS_all 64 (by omega) hs 0 (by omega)
  rw [List.drop_zero, Nat.zero_add] at hT
  rw [List.drop_zero] at hle
  refine spec_of t_text_Parse (by simp) fun w0 I0 => ?_
  have hwf : (treeM numP 64 s).2.1 = true → wfT (treeM numP 64 s).1 := fun h => by
    obtain ⟨h1, h2, h3⟩ := treeM_to numP_R 64 s _ _ (triple h)
    refine proper_wf 64 _ h3 ?_
    rw [← h1]
    simp; omega
  unfold parsed okP
  generalize treeM numP 64 s = M at hT hle hwf
  unfold c_text_Parse
  simp
  refine sc_fam 1 hT (fun p => ?_) (by simp) (by simp) ?_
  · by_cases hp : p = []
    · subst hp; simp [lkH]
    · simp [lkH, hp, Ne.symm hp]
  cases hb : M.2.1 with
  | false =>
    simp
    refine sc_call_off rfl ?_
    simp [splice, updF_app]
    exact frz_tup ⟨frz_T0, frz_bare rfl, trivial⟩
  | true =>
    by_cases hl : M.2.2 = s.length
    · have hR := ptRight_spec (hwf hb)
      simp [hl]
      rw [sc_guard]
      simp
      refine sc_call hR rfl ?_
      cases hr : rightT 64 M.1 with
      | true =>
        simp [splice, updF_app]
        exact frz_tup ⟨frz_bare rfl, frz_bare rfl, trivial⟩
      | false =>
        simp [splice, updF_app]
        exact frz_tup ⟨frz_T0, frz_bare rfl, trivial⟩
    · have hl2 : M.2.2 < s.length := by omega
      simp [hl, hl2]
      refine sc_call_off rfl ?_
      simp [splice, updF_app]
      exact frz_tup ⟨frz_T0, frz_bare rfl, trivial⟩
end Go.Proofs.YtebihdhapepejaaDoor

/-
  The document's texts of trees.
-/
namespace Go.Proofs.YtebihdhapepejaaDoor
set_option linter.unusedVariables false
set_option linter.unusedSimpArgs false
open Go Go.G Go.Proofs Go.PL
theorem str_add {l m : List UInt8} (h : l.length + m.length ≤ 9223372036854775807) : strA .add ⟨l.toArray⟩ ⟨m.toArray⟩ = some (S (l ++ m)) := by
  unfold strA
  simp [h]
/-! ### numbers -/
theorem u8_same {n : Int} (h0 : 0 ≤ n) (h1 : n < 256) : IntKind.u8.wrap n = n := by rw [IntKind.wrap_u8]; omega
end Go.Proofs.YtebihdhapepejaaDoor

/-
  The document's Parse; both readers agree; the example.
-/
namespace Go.Proofs.YtebihdhapepejaaDoor
set_option linter.unusedVariables false
set_option linter.unusedSimpArgs false
open Go Go.G Go.Proofs Go.PL
/-- What is read is right, and its text is what was read. -/
theorem parsed_show {num : List UInt8 → Nat × Bool × Nat} (h : NumR num) {s : List UInt8} (ho : okP num s = true) : showT (parsed num s) = s ∧ proper 64 (parsed num s) ∧ rightT 64 (parsed num s) = true := by
  have hp : parsed num s = (treeM num 64 s).1 := by unfold parsed; rw [if_pos ho]
  unfold okP at ho
  simp only [Bool.and_eq_true, decide_eq_true_eq] at ho
  obtain ⟨⟨h1, h2⟩, h3⟩ := ho
  have e := triple h1
  rw [h2] at e
  obtain ⟨_, e2, e3⟩ := read_whole h h e
  rw [hp]
  exact ⟨e2, e3, h3⟩
/-- A proper tree's text is read as it. -/
theorem parsed_of {num : List UInt8 → Nat × Bool × Nat} (h : NumR num) {t : T} (hp : proper 64 t) (hr : rightT 64 t = true) : okP num (showT t) = true ∧ parsed num (showT t) = t := by
  have e := treeM_of h 64 t [] hp
  rw [List.append_nil] at e
  have : okP num (showT t) = true := by
    unfold okP
    rw [e]
    simp [hr]
  refine ⟨this, ?_⟩
  unfold parsed
  rw [if_pos this, e]
end Go.Proofs.YtebihdhapepejaaDoor

/-
  Plain: how an edit's text is read by the program: numbers, trees, words, kids, steps; it gives up where it is none.
-/
namespace Go.Proofs.YtebihdhapepejaaDoor
set_option linter.unusedVariables false
set_option linter.unusedSimpArgs false
open Go Go.G Go.Proofs Go.PL
/-! ### numbers -/
def puGo : Nat → List UInt8 → Option Nat
  | n, [] => some n
  | n, c :: r => match hexV c with
    | some d => if n < 1152921504606846976 then puGo (n * 16 + d) r else none
    | none => none
theorem puGo_lt : ∀ (r : List UInt8) (n m : Nat), n < 18446744073709551616 → puGo n r = some m → m < 18446744073709551616
  | [], n, m, hn, h => by cases h; exact hn
  | c :: r, n, m, hn, h => by
    unfold puGo at h
    split at h
    · rename_i d hd
      have := (hexD_V hd).1
      split at h
      · exact puGo_lt r _ m (by omega) h
      · cases h
    · cases h
theorem puGo_app : ∀ (l m : List UInt8) (n : Nat), puGo n (l ++ m) = (puGo n l).bind fun k => puGo k m
  | [], m, n => rfl
  | c :: l, m, n => by
    simp only [List.cons_append, puGo]
    split
    · split
      · exact puGo_app l m _
      · rfl
    · rfl
theorem puGo_hex : ∀ q : Nat, q < 18446744073709551616 → puGo 0 (hexS q) = some q := by
  intro q
  induction q using Nat.strongRecOn with
  | _ q ih =>
    intro hq
    by_cases h : q < 16
    · rw [hexS_lt h]
      simp only [puGo, hexV_D h]
      rw [if_pos (by omega)]
      simp
    · rw [hexS_ge (by omega), puGo_app, ih (q / 16) (by omega) (by omega)]
      simp only [Option.bind_some, puGo, hexV_D (show q % 16 < 16 by omega)]
      rw [if_pos (by omega)]
      congr 1; omega
/-- the digits ahead -/
def dgs (r : List UInt8) : List UInt8 := r.takeWhile fun c => (hexV c).isSome
theorem dgs_all : ∀ {r : List UInt8}, ∀ c, c ∈ dgs r → ∃ d, hexV c = some d
  | [], c, hc => by cases hc
  | x :: r, c, hc => by
    unfold dgs at hc
    by_cases h : (hexV x).isSome = true
    · rw [List.takeWhile_cons_of_pos (p := fun c => (hexV c).isSome) h] at hc
      rcases List.mem_cons.1 hc with rfl | hc
      · exact Option.isSome_iff_exists.1 h
      · exact dgs_all (r := r) c hc
    · rw [List.takeWhile_cons_of_neg (p := fun c => (hexV c).isSome) h] at hc; cases hc
theorem dgs_le (r : List UInt8) : (dgs r).length ≤ r.length := by
  unfold dgs
  exact (List.takeWhile_prefix _).length_le
theorem dgs_take (r : List UInt8) : r.take (dgs r).length = dgs r := by
  unfold dgs
  exact (List.prefix_iff_eq_take.1 (List.takeWhile_prefix _)).symm
theorem dgs_app {l rest : List UInt8} (hl : ∀ c, c ∈ l → ∃ d, hexV c = some d) (hr : ∀ c, rest.head? = some c → hexV c = none) : dgs (l ++ rest) = l := by
  unfold dgs
  rw [List.takeWhile_append_of_pos (fun c hc => Option.isSome_iff_exists.2 (hl c hc))]
  cases rest with
  | nil => simp
  | cons c r => rw [List.takeWhile_cons_of_neg (p := fun c => (hexV c).isSome) (by rw [hr c rfl]; simp), List.append_nil]
def numE (most : Nat) (r : List UInt8) : Option (Nat × Nat) :=
  if dgs r = [] then none else match puGo 0 (dgs r) with
    | some n => if hexS n = dgs r ∧ n ≤ most then some (n, (dgs r).length) else none
    | none => none
theorem numE_of {most n : Nat} {rest : List UInt8} (hn : n < 18446744073709551616) (hm : n ≤ most) (hr : ∀ c, rest.head? = some c → hexV c = none) : numE most (hexS n ++ rest) = some (n, (hexS n).length) := by
  have e := dgs_app (hexS_all n) hr
  unfold numE
  rw [e, puGo_hex n hn]
  have := hexS_pos n
  rw [if_neg (fun h => by rw [h] at this; simp at this)]
  simp [hm]
theorem numE_to {most : Nat} {r : List UInt8} {n k : Nat} (h : numE most r = some (n, k)) : n ≤ most ∧ n < 18446744073709551616 ∧ r.take k = hexS n ∧ k ≤ r.length ∧ 1 ≤ k := by
  unfold numE at h
  split at h
  · cases h
  · rename_i hne
    split at h
    · rename_i m hm
      split at h
      · rename_i hh
        cases h
        refine ⟨hh.2, puGo_lt _ _ _ (by omega) hm, by rw [dgs_take, hh.1], dgs_le r, ?_⟩
        cases hq : dgs r with
        | nil => exact (hne hq).elim
        | cons c l => simp
      · cases h
    · cases h
/-! ### trees -/
/-- how far a tree's brackets go -/
def scanT : Nat → List UInt8 → Nat
  | _, [] => 0
  | o, c :: r => if c = 0 then 0 else if c = 123 ∨ c = 91 then 1 + scanT (o + 1) r else if c = 125 ∨ c = 93 then (if o ≤ 1 then 1 else 1 + scanT (o - 1) r) else if c = 95 then (if o = 0 then 1 else 1 + scanT o r) else 1 + scanT o r
theorem scanT_le : ∀ (r : List UInt8) (o : Nat), scanT o r ≤ r.length
  | [], o => by simp [scanT]
  | c :: r, o => by
    have h := scanT_le r
    have h1 := h (o + 1); have h2 := h (o - 1); have h3 := h o
    unfold scanT
    simp only [List.length_cons]
    repeat' split
    all_goals omega
def treeE (r : List UInt8) : Option (T × Nat) := if okP numP (r.take (scanT 0 r)) = true then some (parsed numP (r.take (scanT 0 r)), scanT 0 r) else none
/-! ### edits -/
def mustE (c : UInt8) (r : List UInt8) : Option Nat := if eatB r c = true then some 1 else none
def commaE (n : Nat) (r : List UInt8) : Option Nat := if n = 0 then some 0 else mustE 44 r
def wordE (r : List UInt8) : Option (WE × Nat) :=
  match numE 1048576 r with
  | none => none
  | some (a, k1) => match mustE 58 (r.drop k1) with
    | none => none
    | some _ => match numE 255 (r.drop (k1 + 1)) with
      | none => none
      | some (m, k2) => match mustE 58 (r.drop (k1 + 1 + k2)) with
        | none => none
        | some _ => match numE 18446744073709551615 (r.drop (k1 + 1 + k2 + 1)) with
          | none => none
          | some (o, k3) => match mustE 58 (r.drop (k1 + 1 + k2 + 1 + k3)) with
            | none => none
            | some _ => match numE 18446744073709551615 (r.drop (k1 + 1 + k2 + 1 + k3 + 1)) with
              | none => none
              | some (w, k4) => some (⟨a, m, o, w⟩, k1 + 1 + k2 + 1 + k3 + 1 + k4)
def wordsE : Nat → Nat → List UInt8 → Option (List WE × Nat)
  | 0, _, _ => none
  | f + 1, n, r => if nxB r = 124 then some ([], 0) else match commaE n r with
    | none => none
    | some k0 => match wordE (r.drop k0) with
      | none => none
      | some (w, k1) => match wordsE f (n + 1) (r.drop (k0 + k1)) with
        | none => none
        | some (ws, k2) => some (w :: ws, k0 + k1 + k2)
section
variable (ed : List UInt8 → Option (E × Nat))
def kidE (r : List UInt8) : Option (KE × Nat) :=
  match numE 1048576 r with
  | none => none
  | some (a, k1) => match mustE 58 (r.drop k1) with
    | none => none
    | some _ => match ed (r.drop (k1 + 1)) with
      | none => none
      | some (e, k2) => some (.mk a e, k1 + 1 + k2)
def kidsE : Nat → Nat → List UInt8 → Option (List KE × Nat)
  | 0, _, _ => none
  | f + 1, n, r => if nxB r = 125 then some ([], 0) else match commaE n r with
    | none => none
    | some k0 => match kidE ed (r.drop k0) with
      | none => none
      | some (w, k1) => match kidsE f (n + 1) (r.drop (k0 + k1)) with
        | none => none
        | some (ws, k2) => some (w :: ws, k0 + k1 + k2)
def structE (r : List UInt8) : Option (E × Nat) :=
  match mustE 123 r with
  | none => none
  | some _ => match wordsE (r.length + 1) 0 (r.drop 1) with
    | none => none
    | some (ws, k1) => match mustE 124 (r.drop (1 + k1)) with
      | none => none
      | some _ => match kidsE ed (r.length + 1) 0 (r.drop (1 + k1 + 1)) with
        | none => none
        | some (ks, k2) => match mustE 125 (r.drop (1 + k1 + 1 + k2)) with
          | none => none
          | some _ => some (.mk 2 T0 T0 ws ks 0 [], 1 + k1 + 1 + k2 + 1)
def stepE38 (l : Int) (r : List UInt8) : Option (OP × Nat) :=
  if nxB r = 107 then (match numE 1048576 (r.drop 1) with
    | none => none
    | some (n, k) => some (.mk 0 n [] E0, 1 + k))
  else if nxB r = 42 then (match ed (r.drop 1) with
    | none => none
    | some (e, k) => some (.mk 3 0 [] e, 1 + k))
  else if nxB r = 45 ∨ nxB r = 43 then (match treeE (r.drop 1) with
    | none => none
    | some (t, k) => if t.kind = l then some (.mk (if nxB r = 45 then 1 else 2) 0 t.kids E0, 1 + k) else none)
  else none
def stepsE (l : Int) : Nat → Nat → List UInt8 → Option (List OP × Nat)
  | 0, _, _ => none
  | f + 1, n, r => if nxB r = 93 then some ([], 0) else match commaE n r with
    | none => none
    | some k0 => match stepE38 ed l (r.drop k0) with
      | none => none
      | some (w, k1) => match stepsE l f (n + 1) (r.drop (k0 + k1)) with
        | none => none
        | some (ws, k2) => some (w :: ws, k0 + k1 + k2)
def listE38 (r : List UInt8) : Option (E × Nat) :=
  if 2 ≤ r.length ∧ okP numP (r.take 2 ++ [93]) = true then
    match stepsE ed (parsed numP (r.take 2 ++ [93])).kind (r.length + 1) 0 (r.drop 2) with
    | none => none
    | some (os, k1) => match mustE 93 (r.drop (2 + k1)) with
      | none => none
      | some _ => some (.mk 3 T0 T0 [] [] (parsed numP (r.take 2 ++ [93])).kind os, 2 + k1 + 1)
  else none
end
def replE (r : List UInt8) : Option (E × Nat) :=
  match treeE r with
  | none => none
  | some (o, k1) => match mustE 62 (r.drop k1) with
    | none => none
    | some _ => match treeE (r.drop (k1 + 1)) with
      | none => none
      | some (n, k2) => match mustE 41 (r.drop (k1 + 1 + k2)) with
        | none => none
        | some _ => some (.mk 1 o n [] [] 0 [], k1 + 1 + k2 + 1)
def plusE {α : Type} (k : Nat) : Option (α × Nat) → Option (α × Nat)
  | some (x, n) => some (x, k + n)
  | none => none
def editE : Nat → List UInt8 → Option (E × Nat)
  | 0, _ => none
  | d + 1, r => if eatB r 61 = true then some (E0, 1)
    else if eatB r 40 = true then plusE 1 (replE (r.drop 1))
    else if eatB r 115 = true then plusE 1 (structE (editE d) (r.drop 1))
    else if eatB r 108 = true then plusE 1 (listE38 (editE d) (r.drop 1))
    else none
end Go.Proofs.YtebihdhapepejaaDoor

/-
  Plain: how edits are told as texts.
-/
namespace Go.Proofs.YtebihdhapepejaaDoor
set_option linter.unusedVariables false
set_option linter.unusedSimpArgs false
open Go Go.G Go.Proofs Go.PL
theorem joinC_lib : ∀ l : List (List UInt8), Lib.join l [44] = joinC l
  | [] => rfl
  | [x] => by simp [Lib.join, List.intercalate]
  | x :: y :: l => by
    have := joinC_lib (y :: l)
    rw [joinC, ← this]
    simp [Lib.join, List.intercalate]
def showW (w : WE) : List UInt8 := hexS w.at_.toNat ++ 58 :: (hexS w.mask.toNat ++ 58 :: (hexS w.old.toNat ++ 58 :: hexS w.new.toNat))
mutual
def showE : E → List UInt8
  | .mk k o n ws ks l os => if k = 1 then 40 :: (showT o ++ 62 :: (showT n ++ [41]))
    else if k = 2 then 115 :: 123 :: (joinC (ws.map showW) ++ 124 :: (joinC (showKs ks) ++ [125]))
    else if k = 3 then 108 :: letS l :: 91 :: (joinC (showOs l os) ++ [93]) else [61]
def showKs : List KE → List (List UInt8)
  | [] => []
  | .mk a e :: l => (hexS a.toNat ++ 58 :: showE e) :: showKs l
def showOs : Int → List OP → List (List UInt8)
  | _, [] => []
  | l, .mk k n t e :: r => (if k = 1 then 45 :: showT (.mk l [] t) else if k = 2 then 43 :: showT (.mk l [] t) else if k = 3 then 42 :: showE e else 107 :: hexS n.toNat) :: showOs l r
end
def showK (x : KE) : List UInt8 := hexS x.at_.toNat ++ 58 :: showE x.e
def showO (l : Int) (x : OP) : List UInt8 := if x.kind = 1 then 45 :: showT (.mk l [] x.l) else if x.kind = 2 then 43 :: showT (.mk l [] x.l) else if x.kind = 3 then 42 :: showE x.e else 107 :: hexS x.n.toNat
theorem showKs_map : ∀ l, showKs l = l.map showK
  | [] => by rw [showKs]; rfl
  | .mk a e :: l => by rw [showKs, showKs_map l]; rfl
theorem showOs_map (k : Int) : ∀ l, showOs k l = l.map (showO k)
  | [] => by rw [showOs]; rfl
  | .mk a n t e :: l => by rw [showOs, showOs_map k l]; rfl
theorem showE_mk (k : Int) (o n : T) (ws : List WE) (ks : List KE) (l : Int) (os : List OP) : showE (.mk k o n ws ks l os) = if k = 1 then 40 :: (showT o ++ 62 :: (showT n ++ [41]))
    else if k = 2 then 115 :: 123 :: (joinC (ws.map showW) ++ 124 :: (joinC (ks.map showK) ++ [125]))
    else if k = 3 then 108 :: letS l :: 91 :: (joinC (os.map (showO l)) ++ [93]) else [61] := by rw [showE, showKs_map, showOs_map]
/-- a part is no longer than the whole -/
theorem joinC_part : ∀ {l : List (List UInt8)} {x : List UInt8}, x ∈ l → x.length ≤ (joinC l).length
  | [y], x, h => by simp at h; subst h; simp
  | y :: z :: l, x, h => by
    rcases List.mem_cons.1 h with rfl | h
    · simp [joinC]
    · have := joinC_part h
      simp [joinC]
      omega
theorem joinC_count : ∀ {l : List (List UInt8)}, l.length ≤ (joinC l).length + 1
  | [] => by simp
  | [x] => by simp
  | x :: y :: l => by
    have := joinC_count (l := y :: l)
    simp [joinC] at this ⊢
    omega
end Go.Proofs.YtebihdhapepejaaDoor

/-
  Plain: what a reader of edits' texts reads lies within the text; sizes.
-/
namespace Go.Proofs.YtebihdhapepejaaDoor
set_option linter.unusedVariables false
set_option linter.unusedSimpArgs false
open Go Go.G Go.Proofs Go.PL
theorem eatB_pos {r : List UInt8} {c : UInt8} (h : eatB r c = true) : 1 ≤ r.length := by
  cases r with
  | nil => cases h
  | cons x r => simp
theorem mustE_le {c : UInt8} {r : List UInt8} {n : Nat} (h : mustE c r = some n) : n = 1 ∧ 1 ≤ r.length := by
  unfold mustE at h
  split at h
  · rename_i h1; cases h; exact ⟨rfl, eatB_pos h1⟩
  · cases h
theorem commaE_le {m n : Nat} {r : List UInt8} (h : commaE m r = some n) : n ≤ r.length := by
  unfold commaE at h
  split at h
  · cases h; omega
  · obtain ⟨rfl, h2⟩ := mustE_le h; exact h2
theorem numE_le {most : Nat} {r : List UInt8} {q : Nat × Nat} (h : numE most r = some q) : q.1 ≤ most ∧ q.1 < 18446744073709551616 ∧ q.2 ≤ r.length ∧ 1 ≤ q.2 := by
  obtain ⟨n, k⟩ := q
  obtain ⟨h1, h2, _, h3, h4⟩ := numE_to h
  exact ⟨h1, h2, h3, h4⟩
theorem treeE_le {r : List UInt8} {q : T × Nat} (h : treeE r = some q) : q.2 ≤ r.length := by
  unfold treeE at h
  split at h
  · cases h; exact scanT_le r 0
  · cases h
def wOk (w : WE) : Prop := 0 ≤ w.at_ ∧ w.at_ ≤ 1048576 ∧ 0 ≤ w.mask ∧ w.mask ≤ 255 ∧ 0 ≤ w.old ∧ w.old < 18446744073709551616 ∧ 0 ≤ w.new ∧ w.new < 18446744073709551616
theorem wordE_le {r : List UInt8} {q : WE × Nat} (h : wordE r = some q) : 1 ≤ q.2 ∧ q.2 ≤ r.length ∧ wOk q.1 := by
  unfold wordE at h
  cases e1 : numE 1048576 r with
  | none => rw [e1] at h; cases h
  | some q1 =>
    obtain ⟨a, k1⟩ := q1
    rw [e1] at h; simp only at h
    have f1 := numE_le e1
    cases e2 : mustE 58 (r.drop k1) with
    | none => rw [e2] at h; cases h
    | some u2 =>
      rw [e2] at h; simp only at h
      have f2 := mustE_le e2
      cases e3 : numE 255 (r.drop (k1 + 1)) with
      | none => rw [e3] at h; cases h
      | some q3 =>
        obtain ⟨m, k2⟩ := q3
        rw [e3] at h; simp only at h
        have f3 := numE_le e3
        cases e4 : mustE 58 (r.drop (k1 + 1 + k2)) with
        | none => rw [e4] at h; cases h
        | some u4 =>
          rw [e4] at h; simp only at h
          have f4 := mustE_le e4
          cases e5 : numE 18446744073709551615 (r.drop (k1 + 1 + k2 + 1)) with
          | none => rw [e5] at h; cases h
          | some q5 =>
            obtain ⟨o, k3⟩ := q5
            rw [e5] at h; simp only at h
            have f5 := numE_le e5
            cases e6 : mustE 58 (r.drop (k1 + 1 + k2 + 1 + k3)) with
            | none => rw [e6] at h; cases h
            | some u6 =>
              rw [e6] at h; simp only at h
              have f6 := mustE_le e6
              cases e7 : numE 18446744073709551615 (r.drop (k1 + 1 + k2 + 1 + k3 + 1)) with
              | none => rw [e7] at h; cases h
              | some q7 =>
                obtain ⟨w, k4⟩ := q7
                rw [e7] at h; simp only at h
                have f7 := numE_le e7
                cases h
                simp only [List.length_drop] at f2 f3 f4 f5 f6 f7
                simp only at f1 f3 f5 f7
                refine ⟨by simp only; omega, by simp only; omega, ?_⟩
                unfold wOk
                simp only
                omega
theorem wordsE_le : ∀ (f n : Nat) (r : List UInt8) (q : List WE × Nat), wordsE f n r = some q → q.2 ≤ r.length ∧ q.1.length ≤ r.length ∧ ∀ w, w ∈ q.1 → wOk w
  | 0, n, r, q, h => by cases h
  | f + 1, n, r, q, h => by
    unfold wordsE at h
    split at h
    · cases h; simp
    · cases e0 : commaE n r with
      | none => rw [e0] at h; cases h
      | some k0 =>
        rw [e0] at h; simp only at h
        have f0 := commaE_le e0
        cases e1 : wordE (r.drop k0) with
        | none => rw [e1] at h; cases h
        | some q1 =>
          obtain ⟨w, k1⟩ := q1
          rw [e1] at h; simp only at h
          obtain ⟨f1, f2, f3⟩ := wordE_le e1
          cases e2 : wordsE f (n + 1) (r.drop (k0 + k1)) with
          | none => rw [e2] at h; cases h
          | some q2 =>
            obtain ⟨ws, k2⟩ := q2
            rw [e2] at h; simp only at h
            obtain ⟨g1, g2, g3⟩ := wordsE_le f (n + 1) _ _ e2
            cases h
            simp only [List.length_drop] at f2 g1 g2
            simp only at f1 f2 g1 g2 g3
            refine ⟨by simp only; omega, by simp only [List.length_cons]; omega, fun x hx => ?_⟩
            rcases List.mem_cons.1 hx with rfl | hx
            · exact f3
            · exact g3 x hx
section
variable {ed : List UInt8 → Option (E × Nat)} (hed : ∀ r q, ed r = some q → q.2 ≤ r.length)
include hed
theorem kidE_le {r : List UInt8} {q : KE × Nat} (h : kidE ed r = some q) : 1 ≤ q.2 ∧ q.2 ≤ r.length ∧ 0 ≤ q.1.at_ ∧ q.1.at_ ≤ 1048576 ∧ ∃ r' k, ed r' = some (q.1.e, k) ∧ r'.length ≤ r.length := by
  unfold kidE at h
  cases e1 : numE 1048576 r with
  | none => rw [e1] at h; cases h
  | some q1 =>
    obtain ⟨a, k1⟩ := q1
    rw [e1] at h; simp only at h
    have f1 := numE_le e1
    cases e2 : mustE 58 (r.drop k1) with
    | none => rw [e2] at h; cases h
    | some u2 =>
      rw [e2] at h; simp only at h
      have f2 := mustE_le e2
      cases e3 : ed (r.drop (k1 + 1)) with
      | none => rw [e3] at h; cases h
      | some q3 =>
        obtain ⟨e, k2⟩ := q3
        rw [e3] at h; simp only at h
        have f3 := hed _ _ e3
        cases h
        simp only [List.length_drop] at f2 f3
        simp only at f1 f3
        refine ⟨by simp only; omega, by simp only; omega, by simp only [KE.at_mk]; omega, by simp only [KE.at_mk]; omega, _, _, e3, by simp⟩
theorem kidsE_le : ∀ (f n : Nat) (r : List UInt8) (q : List KE × Nat), kidsE ed f n r = some q → q.2 ≤ r.length ∧ q.1.length ≤ r.length ∧ ∀ x, x ∈ q.1 → 0 ≤ x.at_ ∧ x.at_ ≤ 1048576 ∧ ∃ r' k, ed r' = some (x.e, k) ∧ r'.length ≤ r.length
  | 0, n, r, q, h => by cases h
  | f + 1, n, r, q, h => by
    unfold kidsE at h
    split at h
    · cases h; simp
    · cases e0 : commaE n r with
      | none => rw [e0] at h; cases h
      | some k0 =>
        rw [e0] at h; simp only at h
        have f0 := commaE_le e0
        cases e1 : kidE ed (r.drop k0) with
        | none => rw [e1] at h; cases h
        | some q1 =>
          obtain ⟨w, k1⟩ := q1
          rw [e1] at h; simp only at h
          obtain ⟨f1, f2, f3, f4, r', k', f5, f6⟩ := kidE_le hed e1
          cases e2 : kidsE ed f (n + 1) (r.drop (k0 + k1)) with
          | none => rw [e2] at h; cases h
          | some q2 =>
            obtain ⟨ws, k2⟩ := q2
            rw [e2] at h; simp only at h
            obtain ⟨g1, g2, g3⟩ := kidsE_le f (n + 1) _ _ e2
            cases h
            simp only [List.length_drop] at f2 f6 g1 g2 g3
            simp only at f1 f2 g1 g2 g3
            refine ⟨by simp only; omega, by simp only [List.length_cons]; omega, fun x hx => ?_⟩
            rcases List.mem_cons.1 hx with rfl | hx
            · exact ⟨f3, f4, r', k', f5, by omega⟩
            · obtain ⟨a1, a2, r2, k3, a3, a4⟩ := g3 x hx
              exact ⟨a1, a2, r2, k3, a3, by omega⟩
theorem structE_le {r : List UInt8} {q : E × Nat} (h : structE ed r = some q) : q.2 ≤ r.length := by
  unfold structE at h
  cases e0 : mustE 123 r with
  | none => rw [e0] at h; cases h
  | some u0 =>
    rw [e0] at h; simp only at h
    have f0 := mustE_le e0
    cases e1 : wordsE (r.length + 1) 0 (r.drop 1) with
    | none => rw [e1] at h; cases h
    | some q1 =>
      obtain ⟨ws, k1⟩ := q1
      rw [e1] at h; simp only at h
      have f1 := wordsE_le _ _ _ _ e1
      cases e2 : mustE 124 (r.drop (1 + k1)) with
      | none => rw [e2] at h; cases h
      | some u2 =>
        rw [e2] at h; simp only at h
        have f2 := mustE_le e2
        cases e3 : kidsE ed (r.length + 1) 0 (r.drop (1 + k1 + 1)) with
        | none => rw [e3] at h; cases h
        | some q3 =>
          obtain ⟨ks, k2⟩ := q3
          rw [e3] at h; simp only at h
          have f3 := kidsE_le hed _ _ _ _ e3
          cases e4 : mustE 125 (r.drop (1 + k1 + 1 + k2)) with
          | none => rw [e4] at h; cases h
          | some u4 =>
            rw [e4] at h; simp only at h
            have f4 := mustE_le e4
            cases h
            simp only [List.length_drop] at f2 f4
            simp only; omega
theorem stepE_le {l : Int} {r : List UInt8} {q : OP × Nat} (h : stepE38 ed l r = some q) : 1 ≤ q.2 ∧ q.2 ≤ r.length := by
  have hr : nxB r ≠ 0 → 1 ≤ r.length := fun hn => by
    cases r with
    | nil => exact (hn rfl).elim
    | cons c r => simp
  unfold stepE38 at h
  split at h
  · rename_i h1
    have hr := hr (by rw [h1]; decide)
    cases e1 : numE 1048576 (r.drop 1) with
    | none => rw [e1] at h; cases h
    | some q1 =>
      rw [e1] at h; simp only at h
      have f1 := numE_le e1
      cases h
      simp only [List.length_drop] at f1
      simp only; omega
  · split at h
    · rename_i h1
      have hr := hr (by rw [h1]; decide)
      cases e1 : ed (r.drop 1) with
      | none => rw [e1] at h; cases h
      | some q1 =>
        rw [e1] at h; simp only at h
        have f1 := hed _ _ e1
        cases h
        simp only [List.length_drop] at f1
        simp only; omega
    · split at h
      · rename_i h1
        have hr := hr (by rcases h1 with h1 | h1 <;> rw [h1] <;> decide)
        cases e1 : treeE (r.drop 1) with
        | none => rw [e1] at h; cases h
        | some q1 =>
          rw [e1] at h; simp only at h
          have f1 := treeE_le e1
          split at h
          · cases h
            simp only [List.length_drop] at f1
            simp only; omega
          · cases h
      · cases h
theorem stepsE_le (l : Int) : ∀ (f n : Nat) (r : List UInt8) (q : List OP × Nat), stepsE ed l f n r = some q → q.2 ≤ r.length ∧ q.1.length ≤ r.length
  | 0, n, r, q, h => by cases h
  | f + 1, n, r, q, h => by
    unfold stepsE at h
    split at h
    · cases h; simp
    · cases e0 : commaE n r with
      | none => rw [e0] at h; cases h
      | some k0 =>
        rw [e0] at h; simp only at h
        have f0 := commaE_le e0
        cases e1 : stepE38 ed l (r.drop k0) with
        | none => rw [e1] at h; cases h
        | some q1 =>
          obtain ⟨w, k1⟩ := q1
          rw [e1] at h; simp only at h
          obtain ⟨f1, f2⟩ := stepE_le hed e1
          cases e2 : stepsE ed l f (n + 1) (r.drop (k0 + k1)) with
          | none => rw [e2] at h; cases h
          | some q2 =>
            obtain ⟨ws, k2⟩ := q2
            rw [e2] at h; simp only at h
            obtain ⟨g1, g2⟩ := stepsE_le l f (n + 1) _ _ e2
            cases h
            simp only [List.length_drop] at f2 g1 g2
            simp only at f1 f2 g1 g2
            exact ⟨by simp only; omega, by simp only [List.length_cons]; omega⟩
theorem listE_le {r : List UInt8} {q : E × Nat} (h : listE38 ed r = some q) : q.2 ≤ r.length := by
  unfold listE38 at h
  split at h
  · rename_i hh
    generalize (parsed numP (r.take 2 ++ [93])).kind = l at h
    cases e1 : stepsE ed l (r.length + 1) 0 (r.drop 2) with
    | none => rw [e1] at h; cases h
    | some q1 =>
      obtain ⟨os, k1⟩ := q1
      rw [e1] at h; simp only at h
      have f1 := stepsE_le hed l _ _ _ _ e1
      cases e2 : mustE 93 (r.drop (2 + k1)) with
      | none => rw [e2] at h; cases h
      | some u2 =>
        rw [e2] at h; simp only at h
        have f2 := mustE_le e2
        cases h
        simp only [List.length_drop] at f1 f2
        simp only; omega
  · cases h
end
theorem replE_le {r : List UInt8} {q : E × Nat} (h : replE r = some q) : q.2 ≤ r.length := by
  unfold replE at h
  cases e0 : treeE r with
  | none => rw [e0] at h; cases h
  | some q0 =>
    obtain ⟨o, k1⟩ := q0
    rw [e0] at h; simp only at h
    have f0 := treeE_le e0
    cases e1 : mustE 62 (r.drop k1) with
    | none => rw [e1] at h; cases h
    | some u1 =>
      rw [e1] at h; simp only at h
      have f1 := mustE_le e1
      cases e2 : treeE (r.drop (k1 + 1)) with
      | none => rw [e2] at h; cases h
      | some q2 =>
        obtain ⟨n, k2⟩ := q2
        rw [e2] at h; simp only at h
        have f2 := treeE_le e2
        cases e3 : mustE 41 (r.drop (k1 + 1 + k2)) with
        | none => rw [e3] at h; cases h
        | some u3 =>
          rw [e3] at h; simp only at h
          have f3 := mustE_le e3
          cases h
          simp only [List.length_drop] at f1 f2 f3
          simp only; omega
theorem plusE_le {α : Type} {k : Nat} {o : Option (α × Nat)} {q : α × Nat} (h : plusE k o = some q) : ∃ n, o = some (q.1, n) ∧ q.2 = k + n := by
  unfold plusE at h
  split at h
  · cases h; exact ⟨_, rfl, rfl⟩
  · cases h
theorem editE_le : ∀ (d : Nat) (r : List UInt8) (q : E × Nat), editE d r = some q → q.2 ≤ r.length
  | 0, r, q, h => by cases h
  | d + 1, r, q, h => by
    have ih := editE_le d
    unfold editE at h
    split at h
    · rename_i h1
      have := eatB_pos h1
      cases h; exact this
    · split at h
      · rename_i h1
        have := eatB_pos h1
        obtain ⟨n, e1, e2⟩ := plusE_le h
        have f := replE_le e1
        simp only [List.length_drop] at f
        omega
      · split at h
        · rename_i h1
          have := eatB_pos h1
          obtain ⟨n, e1, e2⟩ := plusE_le h
          have f := structE_le ih e1
          simp only [List.length_drop] at f
          omega
        · split at h
          · rename_i h1
            have := eatB_pos h1
            obtain ⟨n, e1, e2⟩ := plusE_le h
            have f := listE_le ih e1
            simp only [List.length_drop] at f
            omega
          · cases h
end Go.Proofs.YtebihdhapepejaaDoor

/-
  Plain: what is read of an edit's text is told so.
-/
namespace Go.Proofs.YtebihdhapepejaaDoor
set_option linter.unusedVariables false
set_option linter.unusedSimpArgs false
open Go Go.G Go.Proofs Go.PL
def tailJ : List (List UInt8) → List UInt8
  | [] => []
  | x :: l => 44 :: (x ++ tailJ l)
theorem joinC_tail : ∀ (l : List (List UInt8)) (x : List UInt8), joinC (x :: l) = x ++ tailJ l
  | [], x => by simp [tailJ]
  | y :: l, x => by rw [joinC, joinC_tail l y]; simp [tailJ]
def sepJ (n : Nat) (l : List (List UInt8)) : List UInt8 := if n = 0 then joinC l else tailJ l
theorem sepJ_cons (n : Nat) (x : List UInt8) (l : List (List UInt8)) : sepJ n (x :: l) = (if n = 0 then [] else [44]) ++ (x ++ sepJ (n + 1) l) := by
  unfold sepJ
  by_cases h : n = 0
  · rw [if_pos h, if_pos h, if_neg (by omega), joinC_tail]; rfl
  · rw [if_neg h, if_neg h, if_neg (by omega)]; rfl
theorem eatB_take {r : List UInt8} {c : UInt8} (h : eatB r c = true) : r.take 1 = [c] := by
  cases r with
  | nil => simp at h
  | cons x r => simp at h; subst h; rfl
theorem mustE_take {c : UInt8} {r : List UInt8} {k : Nat} (h : mustE c r = some k) : k = 1 ∧ r.take 1 = [c] := by
  unfold mustE at h
  split at h
  · rename_i he; cases h; exact ⟨rfl, eatB_take he⟩
  · cases h
theorem comma_take {n : Nat} {r : List UInt8} {k : Nat} (h : commaE n r = some k) : r.take k = if n = 0 then [] else [44] := by
  unfold commaE at h
  split at h
  · rename_i h0; cases h; rw [if_pos h0]; simp
  · rename_i h0; rw [if_neg h0]; obtain ⟨rfl, e⟩ := mustE_take h; exact e
theorem tree_take {r : List UInt8} {t : T} {n : Nat} (h : treeE r = some (t, n)) : showT t = r.take n ∧ proper 64 t ∧ rightT 64 t = true ∧ (r.length ≤ 1000000000 → wfT t) := by
  unfold treeE at h
  split at h
  · rename_i ho
    cases h
    obtain ⟨h1, h2, h3⟩ := parsed_show numP_R ho
    exact ⟨h1, h2, h3, fun hl => proper_wf 64 _ h2 (by rw [h1, List.length_take]; omega)⟩
  · cases h
theorem word_take {r : List UInt8} {w : WE} {n : Nat} (h : wordE r = some (w, n)) : showW w = r.take n := by
  unfold wordE at h
  cases h1 : numE 1048576 r with
  | none => rw [h1] at h; cases h
  | some q1 =>
    obtain ⟨a, k1⟩ := q1
    rw [h1] at h; simp only at h
    cases h2 : mustE 58 (r.drop k1) with
    | none => rw [h2] at h; cases h
    | some m2 =>
      rw [h2] at h; simp only at h
      cases h3 : numE 255 (r.drop (k1 + 1)) with
      | none => rw [h3] at h; cases h
      | some q3 =>
        obtain ⟨b, k3⟩ := q3
        rw [h3] at h; simp only at h
        cases h4 : mustE 58 (r.drop (k1 + 1 + k3)) with
        | none => rw [h4] at h; cases h
        | some m4 =>
          rw [h4] at h; simp only at h
          cases h5 : numE 18446744073709551615 (r.drop (k1 + 1 + k3 + 1)) with
          | none => rw [h5] at h; cases h
          | some q5 =>
            obtain ⟨c, k5⟩ := q5
            rw [h5] at h; simp only at h
            cases h6 : mustE 58 (r.drop (k1 + 1 + k3 + 1 + k5)) with
            | none => rw [h6] at h; cases h
            | some m6 =>
              rw [h6] at h; simp only at h
              cases h7 : numE 18446744073709551615 (r.drop (k1 + 1 + k3 + 1 + k5 + 1)) with
              | none => rw [h7] at h; cases h
              | some q7 =>
                obtain ⟨d, k7⟩ := q7
                rw [h7] at h; simp only at h
                cases h
                have e1 := (numE_to h1).2.2.1
                have e2 := (mustE_take h2).2
                have e3 := (numE_to h3).2.2.1
                have e4 := (mustE_take h4).2
                have e5 := (numE_to h5).2.2.1
                have e6 := (mustE_take h6).2
                have e7 := (numE_to h7).2.2.1
                simp only [List.take_add, e1, e2, e3, e4, e5, e6, e7]
                simp [showW]
theorem words_take : ∀ (f n : Nat) (r : List UInt8) (ws : List WE) (k : Nat), wordsE f n r = some (ws, k) → sepJ n (ws.map showW) = r.take k
  | 0, n, r, ws, k, h => by cases h
  | f + 1, n, r, ws, k, h => by
    unfold wordsE at h
    split at h
    · cases h; unfold sepJ; split <;> rfl
    · cases h1 : commaE n r with
      | none => rw [h1] at h; cases h
      | some k0 =>
        rw [h1] at h; simp only at h
        cases h2 : wordE (r.drop k0) with
        | none => rw [h2] at h; cases h
        | some q2 =>
          obtain ⟨w, k1⟩ := q2
          rw [h2] at h; simp only at h
          cases h3 : wordsE f (n + 1) (r.drop (k0 + k1)) with
          | none => rw [h3] at h; cases h
          | some q3 =>
            obtain ⟨ws', k2⟩ := q3
            rw [h3] at h; simp only at h
            cases h
            have e1 := comma_take h1
            have e2 := word_take h2
            have e3 := words_take f (n + 1) _ _ _ h3
            rw [List.map_cons, sepJ_cons]
            simp only [List.take_add, e1, e2, e3]
            simp
/-- What is read is told so, and is well formed. -/
def ExE (ed : List UInt8 → Option (E × Nat)) : Prop := ∀ (r : List UInt8) (e : E) (n : Nat), ed r = some (e, n) → showE e = r.take n ∧ (r.length ≤ 1000000000 → wfE e)
section
variable {ed : List UInt8 → Option (E × Nat)}
theorem kid_take (hed : ExE ed) {r : List UInt8} {x : KE} {n : Nat} (h : kidE ed r = some (x, n)) : showK x = r.take n ∧ (r.length ≤ 1000000000 → i64R x.at_ ∧ wfE x.e) := by
  unfold kidE at h
  cases h1 : numE 1048576 r with
  | none => rw [h1] at h; cases h
  | some q1 =>
    obtain ⟨a, k1⟩ := q1
    rw [h1] at h; simp only at h
    cases h2 : mustE 58 (r.drop k1) with
    | none => rw [h2] at h; cases h
    | some m2 =>
      rw [h2] at h; simp only at h
      cases h3 : ed (r.drop (k1 + 1)) with
      | none => rw [h3] at h; cases h
      | some q3 =>
        obtain ⟨e, k3⟩ := q3
        rw [h3] at h; simp only at h
        cases h
        have e0 := numE_to h1
        have e1 := e0.2.2.1
        have e2 := (mustE_take h2).2
        obtain ⟨e3, e4⟩ := hed _ _ _ h3
        refine ⟨?_, fun hl => ⟨?_, e4 (by rw [List.length_drop]; omega)⟩⟩
        · simp only [List.take_add, e1, e2, ← e3]
          simp [showK]
        · have := e0.1
          unfold i64R
          simp
          omega
theorem kids_take (hed : ExE ed) : ∀ (f n : Nat) (r : List UInt8) (ws : List KE) (k : Nat), kidsE ed f n r = some (ws, k) → sepJ n (ws.map showK) = r.take k ∧ (r.length ≤ 1000000000 → ∀ x, x ∈ ws → i64R x.at_ ∧ wfE x.e)
  | 0, n, r, ws, k, h => by cases h
  | f + 1, n, r, ws, k, h => by
    unfold kidsE at h
    split at h
    · cases h; exact ⟨by unfold sepJ; split <;> rfl, fun _ x hx => nomatch hx⟩
    · cases h1 : commaE n r with
      | none => rw [h1] at h; cases h
      | some k0 =>
        rw [h1] at h; simp only at h
        cases h2 : kidE ed (r.drop k0) with
        | none => rw [h2] at h; cases h
        | some q2 =>
          obtain ⟨w, k1⟩ := q2
          rw [h2] at h; simp only at h
          cases h3 : kidsE ed f (n + 1) (r.drop (k0 + k1)) with
          | none => rw [h3] at h; cases h
          | some q3 =>
            obtain ⟨ws', k2⟩ := q3
            rw [h3] at h; simp only at h
            cases h
            have e1 := comma_take h1
            obtain ⟨e2, g2⟩ := kid_take hed h2
            obtain ⟨e3, g3⟩ := kids_take hed f (n + 1) _ _ _ h3
            refine ⟨?_, fun hl x hx => ?_⟩
            · rw [List.map_cons, sepJ_cons]
              simp only [List.take_add, e1, e2, e3]
              simp
            · rcases List.mem_cons.1 hx with rfl | hx
              · exact g2 (by rw [List.length_drop]; omega)
              · exact g3 (by rw [List.length_drop]; omega) x hx
theorem struct_take (hed : ExE ed) {r : List UInt8} {e : E} {n : Nat} (h : structE ed r = some (e, n)) : showE e = 115 :: r.take n ∧ (r.length ≤ 1000000000 → wfE e) := by
  unfold structE at h
  cases h1 : mustE 123 r with
  | none => rw [h1] at h; cases h
  | some m1 =>
    rw [h1] at h; simp only at h
    cases h2 : wordsE (r.length + 1) 0 (r.drop 1) with
    | none => rw [h2] at h; cases h
    | some q2 =>
      obtain ⟨ws, k1⟩ := q2
      rw [h2] at h; simp only at h
      cases h3 : mustE 124 (r.drop (1 + k1)) with
      | none => rw [h3] at h; cases h
      | some m3 =>
        rw [h3] at h; simp only at h
        cases h4 : kidsE ed (r.length + 1) 0 (r.drop (1 + k1 + 1)) with
        | none => rw [h4] at h; cases h
        | some q4 =>
          obtain ⟨ks, k2⟩ := q4
          rw [h4] at h; simp only at h
          cases h5 : mustE 125 (r.drop (1 + k1 + 1 + k2)) with
          | none => rw [h5] at h; cases h
          | some m5 =>
            rw [h5] at h; simp only at h
            cases h
            have e1 := (mustE_take h1).2
            have e2 := words_take _ _ _ _ _ h2
            have e3 := (mustE_take h3).2
            obtain ⟨e4, g4⟩ := kids_take hed _ _ _ _ _ h4
            have e5 := (mustE_take h5).2
            have b2 := wordsE_le _ _ _ _ h2
            refine ⟨?_, fun hl => wfE_iff.2 ?_⟩
            · rw [showE_mk, if_neg (by omega), if_pos rfl]
              simp only [List.take_add, e1, ← e2, e3, ← e4, e5, sepJ, if_true]
              simp
            · have c1 := congrArg List.length e2
              have c2 := congrArg List.length e4
              have n1 := joinC_count (l := ws.map showW)
              have n2 := joinC_count (l := ks.map showK)
              simp only [sepJ, if_true, List.length_take, List.length_map, List.length_drop] at c1 c2 n1 n2
              exact ⟨by simp [i64R], by simp [i64R], wfT_iff.2 ⟨by simp [i64R], by simp, by simp, by simp, by simp⟩, wfT_iff.2 ⟨by simp [i64R], by simp, by simp, by simp, by simp⟩, fun w hw => by
                obtain ⟨u1, u2, u3, u4, u5, u6, u7, u8⟩ := b2.2.2 w hw
                exact ⟨by unfold i64R; omega, by omega, by unfold u64R; omega, by unfold u64R; omega⟩, by show ws.length * 32 ≤ _; omega, by show ks.length * 208 ≤ _; omega, by simp, g4 (by rw [List.length_drop]; omega), by simp⟩
theorem nx_take {r : List UInt8} {c : UInt8} (h : nxB r = c) (hc : c ≠ 0) : r.take 1 = [c] := by
  cases r with
  | nil => exact (hc (by rw [← h]; rfl)).elim
  | cons x r => have : x = c := h; subst this; rfl
theorem wfE0 : wfE E0 := wfE_iff.2 ⟨by simp [i64R], by simp [i64R], wfT_iff.2 ⟨by simp [i64R], by simp, by simp, by simp, by simp⟩, wfT_iff.2 ⟨by simp [i64R], by simp, by simp, by simp, by simp⟩, by simp, by simp, by simp, by simp, by simp, by simp⟩
theorem proper_list {t : T} {l : Int} (hp : proper 64 t) (hk : t.kind = l) (h2 : 2 ≤ l) : t = .mk l [] t.kids := by
  rcases hp with h | ⟨h, _⟩ | ⟨_, _, h, _⟩
  · rw [h] at hk; simp at hk; omega
  · omega
  · exact T.mkOf hk h rfl
theorem step_take (hed : ExE ed) {l : Int} (hl2 : 2 ≤ l) {r : List UInt8} {x : OP} {n : Nat} (h : stepE38 ed l r = some (x, n)) : showO l x = r.take n ∧ (r.length ≤ 1000000000 → WfO x) := by
  unfold stepE38 at h
  split at h
  · rename_i hc
    have e0 := nx_take hc (by decide)
    cases h1 : numE 1048576 (r.drop 1) with
    | none => rw [h1] at h; cases h
    | some q =>
      obtain ⟨m, k⟩ := q
      rw [h1] at h; simp only at h
      cases h
      have hn := numE_to h1
      refine ⟨?_, fun hl => ⟨by simp [i64R], by simp [i64R]; omega, by simp, by simp, wfE0⟩⟩
      simp only [List.take_add, e0, hn.2.2.1]
      simp [showO]
  · split at h
    · rename_i hc
      have e0 := nx_take hc (by decide)
      cases h1 : ed (r.drop 1) with
      | none => rw [h1] at h; cases h
      | some q =>
        obtain ⟨e, k⟩ := q
        rw [h1] at h; simp only at h
        cases h
        obtain ⟨g1, g2⟩ := hed _ _ _ h1
        refine ⟨?_, fun hl => ⟨by simp [i64R], by simp [i64R], by simp, by simp, g2 (by rw [List.length_drop]; omega)⟩⟩
        simp only [List.take_add, e0, ← g1]
        simp [showO]
    · split at h
      · rename_i hc
        cases h1 : treeE (r.drop 1) with
        | none => rw [h1] at h; cases h
        | some q =>
          obtain ⟨t, k⟩ := q
          rw [h1] at h; simp only at h
          split at h
          · rename_i hk
            cases h
            obtain ⟨g1, g2, g3, g4⟩ := tree_take h1
            have ht := proper_list g2 hk hl2
            refine ⟨?_, fun hl => ?_⟩
            · simp only [List.take_add, ← g1]
              by_cases h45 : nxB r = 45
              · rw [nx_take h45 (by decide)]
                simp [showO, h45]
                exact congrArg showT ht.symm
              · have h43 := hc.resolve_left h45
                rw [nx_take h43 (by decide)]
                simp [showO, h45]
                exact congrArg showT ht.symm
            · have hw := wfT_iff.1 (g4 (by rw [List.length_drop]; omega))
              exact ⟨by show i64R (if nxB r = 45 then 1 else 2); split <;> simp [i64R], by simp [i64R], hw.ks, hw.kl, wfE0⟩
          · cases h
      · cases h
theorem steps_take (hed : ExE ed) {l : Int} (hl2 : 2 ≤ l) : ∀ (f n : Nat) (r : List UInt8) (ws : List OP) (k : Nat), stepsE ed l f n r = some (ws, k) → sepJ n (ws.map (showO l)) = r.take k ∧ (r.length ≤ 1000000000 → ∀ x, x ∈ ws → WfO x)
  | 0, n, r, ws, k, h => by cases h
  | f + 1, n, r, ws, k, h => by
    unfold stepsE at h
    split at h
    · cases h; exact ⟨by unfold sepJ; split <;> rfl, fun _ x hx => nomatch hx⟩
    · cases h1 : commaE n r with
      | none => rw [h1] at h; cases h
      | some k0 =>
        rw [h1] at h; simp only at h
        cases h2 : stepE38 ed l (r.drop k0) with
        | none => rw [h2] at h; cases h
        | some q2 =>
          obtain ⟨w, k1⟩ := q2
          rw [h2] at h; simp only at h
          cases h3 : stepsE ed l f (n + 1) (r.drop (k0 + k1)) with
          | none => rw [h3] at h; cases h
          | some q3 =>
            obtain ⟨ws', k2⟩ := q3
            rw [h3] at h; simp only at h
            cases h
            have e1 := comma_take h1
            obtain ⟨e2, g2⟩ := step_take hed hl2 h2
            obtain ⟨e3, g3⟩ := steps_take hed hl2 f (n + 1) _ _ _ h3
            refine ⟨?_, fun hl x hx => ?_⟩
            · rw [List.map_cons, sepJ_cons]
              simp only [List.take_add, e1, e2, e3]
              simp
            · rcases List.mem_cons.1 hx with rfl | hx
              · exact g2 (by rw [List.length_drop]; omega)
              · exact g3 (by rw [List.length_drop]; omega) x hx
theorem list_head {r : List UInt8} (h2 : 2 ≤ r.length) (ho : okP numP (r.take 2 ++ [93]) = true) : 2 ≤ (parsed numP (r.take 2 ++ [93])).kind ∧ (parsed numP (r.take 2 ++ [93])).kind ≤ 9 ∧ r.take 2 = [letS (parsed numP (r.take 2 ++ [93])).kind, 91] := by
  obtain ⟨h1, hp, _⟩ := parsed_show numP_R ho
  generalize parsed numP (r.take 2 ++ [93]) = t at *
  obtain ⟨k, w, l⟩ := t
  rcases hp with h | ⟨h, _⟩ | ⟨a1, a2, a3, _⟩
  · rw [h, show showT T0 = [95] by rw [showT_mk]; rfl] at h1
    have := congrArg List.length h1
    simp only [List.length_append, List.length_take, List.length_cons, List.length_nil] at this
    omega
  · simp at h
    subst h
    rw [showT_mk, if_neg (by simp), if_pos rfl] at h1
    have e : ∀ A B : List UInt8, 123 :: (A ++ (B ++ [125])) = (123 :: (A ++ B)) ++ [125] := fun A B => by simp
    rw [e] at h1
    have := congrArg List.getLast? h1
    rw [List.getLast?_concat, List.getLast?_concat] at this
    cases this
  · simp at a1 a2
    refine ⟨a1, a2, ?_⟩
    rw [showT_mk, if_neg (by simp; omega), if_neg (by omega), if_pos ⟨a1, a2⟩] at h1
    obtain ⟨a, b, r, rfl⟩ : ∃ a b r', r = a :: b :: r' := by
      match r, h2 with
      | a :: b :: r', _ => exact ⟨a, b, r', rfl⟩
    simp at h1
    simp [h1.1, h1.2.1]
theorem list_take (hed : ExE ed) {r : List UInt8} {e : E} {n : Nat} (h : listE38 ed r = some (e, n)) : showE e = 108 :: r.take n ∧ (r.length ≤ 1000000000 → wfE e) := by
  unfold listE38 at h
  split at h
  · rename_i hc
    obtain ⟨l2, l9, e0⟩ := list_head hc.1 hc.2
    generalize (parsed numP (r.take 2 ++ [93])).kind = l at *
    cases h2 : stepsE ed l (r.length + 1) 0 (r.drop 2) with
    | none => rw [h2] at h; cases h
    | some q2 =>
      obtain ⟨os, k1⟩ := q2
      rw [h2] at h; simp only at h
      cases h3 : mustE 93 (r.drop (2 + k1)) with
      | none => rw [h3] at h; cases h
      | some m3 =>
        rw [h3] at h; simp only at h
        cases h
        obtain ⟨e2, g2⟩ := steps_take hed l2 _ _ _ _ _ h2
        have e3 := (mustE_take h3).2
        refine ⟨?_, fun hl => wfE_iff.2 ?_⟩
        · rw [showE_mk, if_neg (by omega), if_neg (by omega), if_pos rfl]
          simp only [List.take_add, e0, ← e2, e3, sepJ, if_true]
          simp
        · have c1 := congrArg List.length e2
          have n1 := joinC_count (l := os.map (showO l))
          simp only [sepJ, if_true, List.length_take, List.length_map, List.length_drop] at c1 n1
          exact ⟨by simp [i64R], by simp [i64R]; omega, wfT_iff.2 ⟨by simp [i64R], by simp, by simp, by simp, by simp⟩, wfT_iff.2 ⟨by simp [i64R], by simp, by simp, by simp, by simp⟩, by simp, by simp, by simp, by show os.length * 240 ≤ _; omega, by simp, g2 (by rw [List.length_drop]; omega)⟩
  · cases h
end
theorem repl_take {r : List UInt8} {e : E} {n : Nat} (h : replE r = some (e, n)) : showE e = 40 :: r.take n ∧ (r.length ≤ 1000000000 → wfE e) := by
  unfold replE at h
  cases h1 : treeE r with
  | none => rw [h1] at h; cases h
  | some q1 =>
    obtain ⟨o, k1⟩ := q1
    rw [h1] at h; simp only at h
    cases h2 : mustE 62 (r.drop k1) with
    | none => rw [h2] at h; cases h
    | some m2 =>
      rw [h2] at h; simp only at h
      cases h3 : treeE (r.drop (k1 + 1)) with
      | none => rw [h3] at h; cases h
      | some q3 =>
        obtain ⟨t, k3⟩ := q3
        rw [h3] at h; simp only at h
        cases h4 : mustE 41 (r.drop (k1 + 1 + k3)) with
        | none => rw [h4] at h; cases h
        | some m4 =>
          rw [h4] at h; simp only at h
          cases h
          obtain ⟨e1, _, _, g1⟩ := tree_take h1
          have e2 := (mustE_take h2).2
          obtain ⟨e3, _, _, g3⟩ := tree_take h3
          have e4 := (mustE_take h4).2
          refine ⟨?_, fun hl => wfE_iff.2 ⟨by simp [i64R], by simp [i64R], g1 hl, g3 (by rw [List.length_drop]; omega), by simp, by simp, by simp, by simp, by simp, by simp⟩⟩
          rw [showE_mk, if_pos rfl]
          simp only [List.take_add, ← e1, e2, ← e3, e4]
          simp
theorem edit_take : ∀ d, ExE (editE d)
  | 0, r, e, n, h => by cases h
  | d + 1, r, e, n, h => by
    have ih := edit_take d
    have plus : ∀ {o : Option (E × Nat)}, plusE 1 o = some (e, n) → ∃ m, o = some (e, m) ∧ n = 1 + m := fun {o} h => by
      cases o with
      | none => cases h
      | some q => obtain ⟨x, m⟩ := q; cases h; exact ⟨m, rfl, rfl⟩
    unfold editE at h
    split at h
    · rename_i hc
      cases h
      exact ⟨by rw [eatB_take hc]; rfl, fun _ => wfE0⟩
    · split at h
      · rename_i hc
        obtain ⟨m, h1, rfl⟩ := plus h
        obtain ⟨g1, g2⟩ := repl_take h1
        exact ⟨by rw [g1, List.take_add, eatB_take hc]; rfl, fun hl => g2 (by rw [List.length_drop]; omega)⟩
      · split at h
        · rename_i hc
          obtain ⟨m, h1, rfl⟩ := plus h
          obtain ⟨g1, g2⟩ := struct_take ih h1
          exact ⟨by rw [g1, List.take_add, eatB_take hc]; rfl, fun hl => g2 (by rw [List.length_drop]; omega)⟩
        · split at h
          · rename_i hc
            obtain ⟨m, h1, rfl⟩ := plus h
            obtain ⟨g1, g2⟩ := list_take ih h1
            exact ⟨by rw [g1, List.take_add, eatB_take hc]; rfl, fun hl => g2 (by rw [List.length_drop]; omega)⟩
          · cases h
end Go.Proofs.YtebihdhapepejaaDoor

/-
  Plain: the program reads what it tells: trees, words.
-/
namespace Go.Proofs.YtebihdhapepejaaDoor
set_option linter.unusedVariables false
set_option linter.unusedSimpArgs false
open Go Go.G Go.Proofs Go.PL
/-- such a text is passed over, within brackets -/
def Pass (x : List UInt8) : Prop := ∀ (o : Nat) (rest : List UInt8), 1 ≤ o → scanT o (x ++ rest) = x.length + scanT o rest
def plainB (c : UInt8) : Prop := c ≠ 0 ∧ c ≠ 123 ∧ c ≠ 91 ∧ c ≠ 125 ∧ c ≠ 93 ∧ c ≠ 95
instance (c : UInt8) : Decidable (plainB c) := by unfold plainB; infer_instance
theorem scan_plain {c : UInt8} (h : plainB c) (o : Nat) (rest : List UInt8) : scanT o (c :: rest) = 1 + scanT o rest := by
  obtain ⟨h0, h1, h2, h3, h4, h5⟩ := h
  rw [scanT, if_neg h0, if_neg (by simp [h1, h2]), if_neg (by simp [h3, h4]), if_neg h5]
theorem scan_plains : ∀ {x : List UInt8}, (∀ c, c ∈ x → plainB c) → ∀ (o : Nat) (rest : List UInt8), scanT o (x ++ rest) = x.length + scanT o rest
  | [], _, o, rest => by simp
  | c :: x, h, o, rest => by
    rw [List.cons_append, scan_plain (h c (by simp)), scan_plains (fun d hd => h d (by simp [hd])), List.length_cons]
    omega
theorem hex_plain {c : UInt8} (h : ∃ d, hexV c = some d) : plainB c := by
  obtain ⟨d, hd⟩ := h
  unfold hexV at hd
  have hn : (48 ≤ c.toNat ∧ c.toNat ≤ 57) ∨ (97 ≤ c.toNat ∧ c.toNat ≤ 102) := by
    split at hd
    · rename_i h; exact .inl h
    · split at hd
      · rename_i h; exact .inr h
      · cases hd
  have ne : ∀ k : UInt8, ¬ ((48 ≤ k.toNat ∧ k.toNat ≤ 57) ∨ (97 ≤ k.toNat ∧ k.toNat ≤ 102)) → c ≠ k := fun k hk e => hk (by rw [← e]; exact hn)
  exact ⟨ne 0 (by decide), ne 123 (by decide), ne 91 (by decide), ne 125 (by decide), ne 93 (by decide), ne 95 (by decide)⟩
theorem hexS_plain (n : Nat) : ∀ c, c ∈ hexS n → plainB c := fun c hc => hex_plain (hexS_all n c hc)
theorem pass_hex (n : Nat) : Pass (hexS n) := fun o rest _ => scan_plains (hexS_plain n) o rest
theorem pass_join : ∀ {l : List (List UInt8)}, (∀ x, x ∈ l → Pass x) → Pass (joinC l)
  | [], _ => fun o rest _ => by simp
  | [x], h => by simpa using h x (by simp)
  | x :: y :: l, h => fun o rest ho => by
    have ih := pass_join (l := y :: l) (fun z hz => h z (by simp [hz]))
    rw [joinC, List.append_assoc, h x (by simp) o _ ho, List.cons_append, scan_plain (by decide), ih o rest ho]
    simp
    omega
theorem letS_plain {k : Int} (h2 : 2 ≤ k) (h9 : k ≤ 9) : plainB (letS k) := by
  have : ∀ n : Nat, n < 10 → 2 ≤ n → plainB (letters.getD n 0) := by
    intro n h1 h2
    match n, h1, h2 with
    | 2, _, _ => exact (by decide) | 3, _, _ => exact (by decide) | 4, _, _ => exact (by decide) | 5, _, _ => exact (by decide)
    | 6, _, _ => exact (by decide) | 7, _, _ => exact (by decide) | 8, _, _ => exact (by decide) | 9, _, _ => exact (by decide)
  exact this k.toNat (by omega) (by omega)
theorem scan_open {c : UInt8} (h : c = 123 ∨ c = 91) (o : Nat) (rest : List UInt8) : scanT o (c :: rest) = 1 + scanT (o + 1) rest := by
  rw [scanT, if_neg (by rcases h with rfl | rfl <;> decide), if_pos h]
theorem scan_close {c : UInt8} (h : c = 125 ∨ c = 93) {o : Nat} (ho : 2 ≤ o) (rest : List UInt8) : scanT o (c :: rest) = 1 + scanT (o - 1) rest := by
  rw [scanT, if_neg (by rcases h with rfl | rfl <;> decide), if_neg (by rcases h with rfl | rfl <;> decide), if_pos h, if_neg (by omega)]
theorem scan_last {c : UInt8} (h : c = 125 ∨ c = 93) {o : Nat} (ho : o ≤ 1) (rest : List UInt8) : scanT o (c :: rest) = 1 := by
  rw [scanT, if_neg (by rcases h with rfl | rfl <;> decide), if_neg (by rcases h with rfl | rfl <;> decide), if_pos h, if_pos ho]
/-- the inside of a tree's text -/
theorem pass_body (w : List Int) (l : List T) (h : ∀ t, t ∈ l → Pass (showT t)) : Pass (joinC (w.map fun x => hexS x.toNat) ++ (if l = [] then [] else 124 :: joinC (l.map showT))) := fun o rest ho => by
  have p1 : Pass (joinC (w.map fun x => hexS x.toNat)) := pass_join fun x hx => by
    obtain ⟨y, _, rfl⟩ := List.mem_map.1 hx
    exact pass_hex _
  have p2 : Pass (joinC (l.map showT)) := pass_join fun x hx => by
    obtain ⟨y, hy, rfl⟩ := List.mem_map.1 hx
    exact h y hy
  rw [List.append_assoc, p1 o _ ho, List.length_append]
  split
  · simp
  · rw [List.cons_append, scan_plain (by decide), p2 o rest ho]
    simp
    omega
theorem pass_tree : ∀ t : T, Pass (showT t) := by
  refine T.ind fun k w l ih => ?_
  intro o rest ho
  rw [showT_mk]
  split
  · exact pass_hex _ o rest ho
  · split
    · have p := pass_body w l ih (o + 1) (125 :: rest) (by omega)
      rw [show ∀ A B : List UInt8, (123 :: (A ++ (B ++ [125]))) ++ rest = 123 :: ((A ++ B) ++ 125 :: rest) from fun A B => by simp]
      rw [scan_open (.inl rfl), p, scan_close (.inl rfl) (by omega), Nat.add_sub_cancel]
      simp
      omega
    · split
      · rename_i hk
        have p2 : Pass (joinC (l.map showT)) := pass_join fun x hx => by
          obtain ⟨y, hy, rfl⟩ := List.mem_map.1 hx
          exact ih y hy
        rw [show ∀ A : List UInt8, (letS k :: 91 :: (A ++ [93])) ++ rest = letS k :: 91 :: (A ++ 93 :: rest) from fun A => by simp]
        rw [scan_plain (letS_plain hk.1 hk.2), scan_open (.inr rfl), p2 (o + 1) _ (by omega), scan_close (.inr rfl) (by omega), Nat.add_sub_cancel]
        simp
        omega
      · rw [List.cons_append, scanT, if_neg (by decide), if_neg (by decide), if_neg (by decide), if_pos rfl, if_neg (by omega)]
        simp
theorem scan_tree {t : T} (h : ¬ (t.kind = 10 ∧ t.words.length = 1)) (rest : List UInt8) : scanT 0 (showT t ++ rest) = (showT t).length := by
  obtain ⟨k, w, l⟩ := t
  rw [showT_mk, if_neg (show ¬ (k = 10 ∧ w.length = 1) from h)]
  split
  · have p := pass_body w l (fun t _ => pass_tree t) 1 (125 :: rest) (by omega)
    rw [show ∀ A B : List UInt8, (123 :: (A ++ (B ++ [125]))) ++ rest = 123 :: ((A ++ B) ++ 125 :: rest) from fun A B => by simp]
    rw [scan_open (.inl rfl), p, scan_last (.inl rfl) (by omega)]
    simp
    omega
  · split
    · rename_i hk
      have p2 : Pass (joinC (l.map showT)) := pass_join fun x hx => by
        obtain ⟨y, hy, rfl⟩ := List.mem_map.1 hx
        exact pass_tree y
      rw [show ∀ A : List UInt8, (letS k :: 91 :: (A ++ [93])) ++ rest = letS k :: 91 :: (A ++ 93 :: rest) from fun A => by simp]
      rw [scan_plain (letS_plain hk.1 hk.2), scan_open (.inr rfl), p2 1 _ (by omega), scan_last (.inr rfl) (by omega)]
      simp
      omega
    · rw [List.cons_append, scanT, if_neg (by decide), if_neg (by decide), if_neg (by decide), if_pos rfl, if_pos rfl]
      rfl
theorem treeE_of {t : T} (hp : proper 64 t) (hr : rightT 64 t = true) (h : ¬ (t.kind = 10 ∧ t.words.length = 1)) (rest : List UInt8) : treeE (showT t ++ rest) = some (t, (showT t).length) := by
  have hs := scan_tree h rest
  obtain ⟨h1, h2⟩ := parsed_of numP_R hp hr
  unfold treeE
  rw [hs, List.take_left]
  rw [if_pos h1, h2]
end Go.Proofs.YtebihdhapepejaaDoor

/-
  The functions' text as data, and the facts on the types that they use: written by a program of ours (gen2.py) off the translation.
-/
namespace Go.Proofs.YtebihdhapepejaaDoor
set_option linter.unusedVariables false
set_option linter.unusedSimpArgs false
set_option maxRecDepth 20000
open Go Go.G Go.Proofs
@[simp] theorem und_4 : Tryd.prog.underlying 4 = some .bool := by kernel_rfl
@[simp] theorem und_31 : Tryd.prog.underlying 31 = some (.int .i64) := by kernel_rfl
@[simp] theorem und_51 : Tryd.prog.underlying 51 = some (.slice 9) := by kernel_rfl
@[simp] theorem und_90 : Tryd.prog.underlying 90 = some (.pointer 5) := by kernel_rfl
@[simp] theorem szT_74 : szT Tryd.prog 74 = some 1 := by kernel_rfl
@[simp] theorem aggT_74 : aggT Tryd.prog 74 = some false := by kernel_rfl
@[simp] theorem zeroT_9 : zeroT Tryd.prog 9 = some (Value.string ByteArray.empty) := by kernel_rfl
@[simp] theorem zeroT_30 : zeroT Tryd.prog 30 = some (Value.agg #[Value.int IntKind.i64 0, Value.int IntKind.i64 0, Value.slice none 0 0, Value.slice none 0 0, Value.int IntKind.i64 0, Value.slice none 0 0, Value.slice none 0 0, Value.slice none 0 0, Value.slice none 0 0, Value.int IntKind.i64 0, Value.slice none 0 0]) := by kernel_rfl
@[simp] theorem bytesT_9 : bytesT Tryd.prog 9 = some 16 := by kernel_rfl
@[simp] theorem fieldOffT_47_0 : fieldOffT Tryd.prog 47 0 = some 0 := by kernel_rfl
@[simp] theorem fieldOffT_47_1 : fieldOffT Tryd.prog 47 1 = some 1 := by kernel_rfl
@[simp] theorem buildA_30 (ps : List (Nat × A)) : buildA Tryd.prog 30 ps = (fillA (fun i => ([(0, 1), (1, 3), (4, 3), (7, 1), (8, 1), (9, 1), (10, 1)] : List (Nat × Nat))[i]?) [A.v (Value.int IntKind.i64 0), A.v (Value.int IntKind.i64 0), A.sl true [], A.sl true [], A.v (Value.int IntKind.i64 0), A.sl true [], A.sl true [], A.sl true [], A.sl true [], A.v (Value.int IntKind.i64 0), A.sl true []] ps).map A.agg := by kernel_rfl
@[simp] theorem buildA_41 (ps : List (Nat × A)) : buildA Tryd.prog 41 ps = (fillA (fun i => ([(0, 1), (1, 1), (2, 1), (3, 11)] : List (Nat × Nat))[i]?) [A.v (Value.int IntKind.i64 0), A.v (Value.int IntKind.i64 0), A.sl true [], A.v (Value.int IntKind.i64 0), A.v (Value.int IntKind.i64 0), A.sl true [], A.sl true [], A.v (Value.int IntKind.i64 0), A.sl true [], A.sl true [], A.sl true [], A.sl true [], A.v (Value.int IntKind.i64 0), A.sl true []] ps).map A.agg := by kernel_rfl
@[simp] theorem buildA_54 (ps : List (Nat × A)) : buildA Tryd.prog 54 ps = (fillA (fun i => ([(0, 1), (1, 1), (2, 1), (3, 1)] : List (Nat × Nat))[i]?) [A.v (Value.int IntKind.i64 0), A.v (Value.int IntKind.u8 0), A.v (Value.int IntKind.u64 0), A.v (Value.int IntKind.u64 0)] ps).map A.agg := by kernel_rfl
@[simp] theorem buildA_58 (ps : List (Nat × A)) : buildA Tryd.prog 58 ps = (fillA (fun i => ([(0, 1), (1, 11)] : List (Nat × Nat))[i]?) [A.v (Value.int IntKind.i64 0), A.v (Value.int IntKind.i64 0), A.v (Value.int IntKind.i64 0), A.sl true [], A.sl true [], A.v (Value.int IntKind.i64 0), A.sl true [], A.sl true [], A.sl true [], A.sl true [], A.v (Value.int IntKind.i64 0), A.sl true []] ps).map A.agg := by kernel_rfl
@[simp] theorem buildA_139 (ps : List (Nat × A)) : buildA Tryd.prog 139 ps = (fillA (fun i => ([(0, 1), (1, 1), (2, 1)] : List (Nat × Nat))[i]?) [A.v (Value.string ByteArray.empty), A.v (Value.string ByteArray.empty), A.v (Value.nilIface)] ps).map A.agg := by kernel_rfl
/-- strconv.ParseUint -/
def c_strconv_ParseUint : CC :=
  .seq (.reg [co (some 6) (.assign (.const (.int .u64 0))) none,
      co (some 7) (.assign (.const .nilIface)) none] [0, 1, 2])
  (.seq (.reg [co (some 11) (.move (.tmp 0)) none,
      co (some 12) (.move (.tmp 1)) none,
      co (some 13) (.move (.tmp 2)) none,
      co (some 14) (.call { callee := (.value (.func 69)), args := #[(.tmp 11), (.tmp 12), (.tmp 13)], argTypes := #[9, 3, 3] }) none,
      co (some 10) (.move (.tmp 14)) none,
      co (some 15) (.extract (.tmp 10) 0) none,
      co (some 16) (.extract (.tmp 10) 1) none,
      co (some 8) (.assign (.tmp 15)) none,
      co (some 9) (.assign (.tmp 16)) none] [0, 1, 2, 8, 9])
  (.seq (.seq (.reg [co (some 17) (.move (.tmp 9)) none,
        co (some 18) (.binOp .neq 74 (.tmp 17) (.const .nilIface) 74) none] [0, 1, 2, 8, 9, 18])
    (.cond (.tmp 18)
      (.seq (.reg [co (some 19) (.move (.tmp 8)) none,
          co (some 20) (.move (.tmp 0)) none,
          co (some 21) (.move (.tmp 1)) none,
          co (some 22) (.move (.tmp 2)) none,
          co (some 23) (.move (.tmp 9)) none,
          co (some 24) (.call { callee := (.value (.func 70)), args := #[(.const (.string { data := #[80, 97, 114, 115, 101, 85, 105, 110, 116] })), (.tmp 20), (.tmp 21), (.tmp 22), (.tmp 23)], argTypes := #[9, 9, 3, 3, 74] }) none,
          co (some 6) (.assign (.tmp 19)) none,
          co (some 7) (.assign (.tmp 24)) none] [6, 7])
      (.ret))
      (.skip)))
  (.keep [8] (.seq (.reg [co (some 25) (.move (.tmp 8)) none,
      co (some 6) (.assign (.tmp 25)) none,
      co (some 7) (.assign (.const .nilIface)) none] [6, 7])
  (.ret)))))
theorem t_strconv_ParseUint : Txt Tryd.prog 51 26 [(.tmp 6), (.tmp 7)] c_strconv_ParseUint := txt_of (code := Tryd.f51.body.getD .ret) mixed (by kernel_rfl) Tryd.func51 (by kernel_rfl) Tryd.ntmps51 (by kernel_rfl) (ls := [([0, 1, 2], []), ([], []), ([0, 1, 2, 8, 9], []), ([], []), ([0, 1, 2, 8, 9, 18], []), ([], []), ([6, 7], []), ([], []), ([999999, 8], []), ([6, 7], []), ([], [])]) (by kernel_rfl)
def k1_internal_strconv_ParseUint : CC :=
  .seq (.seq (.reg [co (some 134) (.move (.tmp 16)) none,
        co (some 135) (.move (.tmp 1)) none,
        co (some 136) (.convert 3 5 (.tmp 135)) none,
        co (some 137) (.binOp .geq 5 (.tmp 134) (.tmp 136) 5) none] [1, 8, 9, 10, 11, 12, 13, 16, 99, 100, 101, 137])
    (.cond (.tmp 137)
      (.seq (.reg [co (some 138) (.makeInterface 128 (.const (.int .i64 2))) none,
          co (some 6) (.assign (.const (.int .u64 0))) none,
          co (some 7) (.assign (.tmp 138)) none] [6, 7])
      (.ret))
      (.skip)))
  (.keep [1, 8, 9, 10, 11, 12, 13, 16, 99, 100, 101] (.seq (.seq (.reg [co (some 139) (.move (.tmp 13)) none,
        co (some 140) (.move (.tmp 10)) none,
        co (some 141) (.binOp .geq 52 (.tmp 139) (.tmp 140) 52) none] [1, 8, 9, 10, 11, 12, 13, 16, 99, 100, 101, 141])
    (.cond (.tmp 141)
      (.seq (.reg [co (some 142) (.move (.tmp 11)) none,
          co (some 143) (.makeInterface 128 (.const (.int .i64 1))) none,
          co (some 6) (.assign (.tmp 142)) none,
          co (some 7) (.assign (.tmp 143)) none] [6, 7])
      (.ret))
      (.skip)))
  (.keep [1, 8, 9, 10, 11, 12, 13, 16, 99, 100, 101] (.seq (.reg [co (some 144) (.move (.tmp 13)) none,
      co (some 145) (.move (.tmp 1)) none,
      co (some 146) (.convert 3 52 (.tmp 145)) none,
      co (some 147) (.binOp .mul 52 (.tmp 144) (.tmp 146) 52) none,
      co (some 13) (.assign (.tmp 147)) none] [1, 8, 9, 10, 11, 12, 13, 16, 99, 100, 101])
  (.seq (.reg [co (some 148) (.move (.tmp 13)) none,
      co (some 149) (.move (.tmp 16)) none,
      co (some 150) (.convert 5 52 (.tmp 149)) none,
      co (some 151) (.binOp .add 52 (.tmp 148) (.tmp 150) 52) none,
      co (some 17) (.assign (.tmp 151)) none] [1, 8, 9, 10, 11, 12, 13, 17, 99, 100, 101])
  (.seq (.seq (.reg [co (some 152) (.move (.tmp 17)) none,
        co (some 153) (.move (.tmp 13)) none,
        co (some 154) (.binOp .lss 52 (.tmp 152) (.tmp 153) 52) none,
        co (some 155) (.move (.tmp 154)) none,
        co (some 156) (.move (.tmp 17)) (some (155, false)),
        co (some 157) (.move (.tmp 11)) (some (155, false)),
        co (some 158) (.binOp .gtr 52 (.tmp 156) (.tmp 157) 52) (some (155, false)),
        co (some 159) (.pick (.tmp 155) (.const (.bool true)) (.tmp 158)) none] [1, 8, 9, 10, 11, 12, 17, 99, 100, 101, 159])
    (.cond (.tmp 159)
      (.seq (.reg [co (some 160) (.move (.tmp 11)) none,
          co (some 161) (.makeInterface 128 (.const (.int .i64 1))) none,
          co (some 6) (.assign (.tmp 160)) none,
          co (some 7) (.assign (.tmp 161)) none] [6, 7])
      (.ret))
      (.skip)))
  (.keep [1, 8, 9, 10, 11, 12, 17, 99, 100, 101] (.reg [co (some 162) (.move (.tmp 17)) none,
    co (some 13) (.assign (.tmp 162)) none] [1, 8, 9, 10, 11, 12, 13, 99, 100, 101]))))))))
def l1_internal_strconv_ParseUint : CC :=
  .seq (.reg [co (some 102) (.binOp .lss 3 (.tmp 101) (.tmp 100) 3) none] [1, 8, 9, 10, 11, 12, 13, 99, 100, 101, 102])
  (.seq (.cond (.tmp 102)
      (.skip)
      (.exit 3))
  (.keep [1, 8, 9, 10, 11, 12, 13, 99, 100, 101] (.seq (.block 4
      (.seq (.reg [co (some 103) (.indexAddr 67 (.tmp 99) (.tmp 101)) none,
          co (some 104) (.load 5 (.tmp 103)) none,
          co (some 15) (.assign (.tmp 104)) none] [1, 8, 9, 10, 11, 12, 13, 15, 99, 100, 101])
      (.seq (.reg [co (some 16) (.assign (.const (.int .u8 0))) none] [1, 8, 9, 10, 11, 12, 13, 15, 99, 100, 101])
      (.seq (.block 5
          (.seq (.reg [co (some 107) (.move (.tmp 15)) none,
              co (some 108) (.binOp .eql 5 (.tmp 107) (.const (.int .u8 95)) 5) none,
              co (some 109) (.move (.tmp 108)) none,
              co (some 110) (.move (.tmp 8)) (some (109, true)),
              co (some 111) (.pick (.tmp 109) (.tmp 110) (.const (.bool false))) none,
              co (some 106) (.assign (.tmp 111)) none] [1, 8, 9, 10, 11, 12, 13, 15, 99, 100, 101, 106])
          (.cond (.tmp 106)
            (.seq (.reg [co (some 12) (.assign (.const (.bool true))) none] [1, 8, 9, 10, 11, 12, 13, 99, 100, 101])
            (.exit 4))
            (.seq (.reg [co (some 113) (.move (.tmp 15)) none,
                co (some 114) (.binOp .leq 5 (.const (.int .u8 48)) (.tmp 113) 5) none,
                co (some 115) (.move (.tmp 114)) none,
                co (some 116) (.move (.tmp 15)) (some (115, true)),
                co (some 117) (.binOp .leq 5 (.tmp 116) (.const (.int .u8 57)) 5) (some (115, true)),
                co (some 118) (.pick (.tmp 115) (.tmp 117) (.const (.bool false))) none,
                co (some 112) (.assign (.tmp 118)) none] [1, 8, 9, 10, 11, 12, 13, 15, 99, 100, 101, 112])
            (.cond (.tmp 112)
              (.reg [co (some 119) (.move (.tmp 15)) none,
                co (some 120) (.binOp .sub 5 (.tmp 119) (.const (.int .u8 48)) 5) none,
                co (some 16) (.assign (.tmp 120)) none] [1, 8, 9, 10, 11, 12, 13, 16, 99, 100, 101])
              (.seq (.reg [co (some 122) (.move (.tmp 15)) none,
                  co (some 123) (.call { callee := (.value (.func 82)), args := #[(.tmp 122)], argTypes := #[5] }) none,
                  co (some 124) (.binOp .leq 5 (.const (.int .u8 97)) (.tmp 123) 5) none,
                  co (some 125) (.move (.tmp 124)) none,
                  co (some 126) (.move (.tmp 15)) (some (125, true)),
                  co (some 127) (.call { callee := (.value (.func 82)), args := #[(.tmp 126)], argTypes := #[5] }) (some (125, true)),
                  co (some 128) (.binOp .leq 5 (.tmp 127) (.const (.int .u8 122)) 5) (some (125, true)),
                  co (some 129) (.pick (.tmp 125) (.tmp 128) (.const (.bool false))) none,
                  co (some 121) (.assign (.tmp 129)) none] [1, 8, 9, 10, 11, 12, 13, 15, 99, 100, 101, 121])
              (.cond (.tmp 121)
                (.reg [co (some 130) (.move (.tmp 15)) none,
                  co (some 131) (.call { callee := (.value (.func 82)), args := #[(.tmp 130)], argTypes := #[5] }) none,
                  co (some 132) (.binOp .sub 5 (.tmp 131) (.const (.int .u8 97)) 5) none,
                  co (some 133) (.binOp .add 5 (.tmp 132) (.const (.int .u8 10)) 5) none,
                  co (some 16) (.assign (.tmp 133)) none] [1, 8, 9, 10, 11, 12, 13, 16, 99, 100, 101])
                (.seq (.reg [co (some 105) (.makeInterface 128 (.const (.int .i64 2))) none,
                    co (some 6) (.assign (.const (.int .u64 0))) none,
                    co (some 7) (.assign (.tmp 105)) none] [6, 7])
                (.ret)))))))))
      (.keep [1, 8, 9, 10, 11, 12, 13, 16, 99, 100, 101] k1_internal_strconv_ParseUint)))))
  (.keep [1, 8, 9, 10, 11, 12, 13, 99, 100, 101] (.reg [co (some 163) (.binOp .add 3 (.tmp 101) (.const (.int .i64 1)) 3) none,
    co (some 101) (.move (.tmp 163)) none] [1, 8, 9, 10, 11, 12, 13, 99, 100, 101])))))
def k2_internal_strconv_ParseUint : CC :=
  .seq (.reg [co (some 94) (.move (.tmp 2)) none,
      co (some 95) (.convert 3 122 (.tmp 94)) none,
      co (some 96) (.binOp .shl 52 (.const (.int .u64 1)) (.tmp 95) 122) none,
      co (some 97) (.binOp .sub 52 (.tmp 96) (.const (.int .u64 1)) 52) none,
      co (some 11) (.assign (.tmp 97)) none] [0, 1, 8, 9, 10, 11])
  (.seq (.reg [co (some 12) (.assign (.const (.bool false))) none] [0, 1, 8, 9, 10, 11, 12])
  (.seq (.reg [co (some 13) (.assign (.const (.int .u64 0))) none] [0, 1, 8, 9, 10, 11, 12, 13])
  (.seq (.seq (.reg [co (some 98) (.move (.tmp 0)) none,
        co (some 99) (.convert 9 67 (.tmp 98)) none,
        co (some 100) (.call { callee := (.builtin .len), args := #[(.tmp 99)], argTypes := #[67] }) none,
        co (some 101) (.move (.const (.int .i64 0))) none] [1, 8, 9, 10, 11, 12, 13, 99, 100, 101])
    (.block 3
      (.loop l1_internal_strconv_ParseUint)))
  (.keep [9, 12, 13] (.seq (.seq (.reg [co (some 164) (.move (.tmp 12)) none,
        co (some 165) (.move (.tmp 164)) none,
        co (some 166) (.move (.tmp 9)) (some (165, true)),
        co (some 167) (.call { callee := (.value (.func 83)), args := #[(.tmp 166)], argTypes := #[9] }) (some (165, true)),
        co (some 168) (.unOp .not 4 (.tmp 167)) (some (165, true)),
        co (some 169) (.pick (.tmp 165) (.tmp 168) (.const (.bool false))) none] [13, 169])
    (.cond (.tmp 169)
      (.seq (.reg [co (some 170) (.makeInterface 128 (.const (.int .i64 2))) none,
          co (some 6) (.assign (.const (.int .u64 0))) none,
          co (some 7) (.assign (.tmp 170)) none] [6, 7])
      (.ret))
      (.skip)))
  (.keep [13] (.seq (.reg [co (some 171) (.move (.tmp 13)) none,
      co (some 6) (.assign (.tmp 171)) none,
      co (some 7) (.assign (.const .nilIface)) none] [6, 7])
  (.ret))))))))
def k3_internal_strconv_ParseUint : CC :=
  .seq (.reg [co (some 10) (.assign (.const (.int .u64 0))) none] [0, 1, 2, 8, 9])
  (.seq (.seq (.reg [co (some 85) (.move (.tmp 1)) none] [0, 1, 2, 8, 9, 85])
    (.block 2
      (.seq (.reg [co (some 91) (.binOp .eql 3 (.tmp 85) (.const (.int .i64 10)) 3) none,
          co (some 90) (.assign (.tmp 91)) none] [0, 1, 2, 8, 9, 85, 90])
      (.cond (.tmp 90)
        (.reg [co (some 10) (.assign (.const (.int .u64 1844674407370955162))) none] [0, 1, 2, 8, 9, 10])
        (.seq (.reg [co (some 93) (.binOp .eql 3 (.tmp 85) (.const (.int .i64 16)) 3) none,
            co (some 92) (.assign (.tmp 93)) none] [0, 1, 2, 8, 9, 92])
        (.cond (.tmp 92)
          (.reg [co (some 10) (.assign (.const (.int .u64 1152921504606846976))) none] [0, 1, 2, 8, 9, 10])
          (.reg [co (some 86) (.move (.tmp 1)) none,
            co (some 87) (.convert 3 52 (.tmp 86)) none,
            co (some 88) (.binOp .quo 52 (.const (.int .u64 18446744073709551615)) (.tmp 87) 52) none,
            co (some 89) (.binOp .add 52 (.tmp 88) (.const (.int .u64 1)) 52) none,
            co (some 10) (.assign (.tmp 89)) none] [0, 1, 2, 8, 9, 10])))))))
  (.keep [0, 1, 2, 8, 9, 10] k2_internal_strconv_ParseUint))
def k4_internal_strconv_ParseUint : CC :=
  .seq (.seq (.reg [co (some 76) (.move (.tmp 2)) none,
        co (some 77) (.binOp .eql 3 (.tmp 76) (.const (.int .i64 0)) 3) none] [0, 1, 2, 8, 9, 77])
    (.cond (.tmp 77)
      (.reg [co (some 2) (.assign (.const (.int .i64 64))) none] [0, 1, 2, 8, 9])
      (.seq (.reg [co (some 78) (.move (.tmp 2)) none,
          co (some 79) (.binOp .lss 3 (.tmp 78) (.const (.int .i64 0)) 3) none,
          co (some 80) (.move (.tmp 79)) none,
          co (some 81) (.move (.tmp 2)) (some (80, false)),
          co (some 82) (.binOp .gtr 3 (.tmp 81) (.const (.int .i64 64)) 3) (some (80, false)),
          co (some 83) (.pick (.tmp 80) (.const (.bool true)) (.tmp 82)) none] [0, 1, 2, 8, 9, 83])
      (.cond (.tmp 83)
        (.seq (.reg [co (some 84) (.makeInterface 128 (.const (.int .i64 4))) none,
            co (some 6) (.assign (.const (.int .u64 0))) none,
            co (some 7) (.assign (.tmp 84)) none] [6, 7])
        (.ret))
        (.skip)))))
  (.keep [0, 1, 2, 8, 9] k3_internal_strconv_ParseUint)
/-- internal/strconv.ParseUint -/
def c_internal_strconv_ParseUint : CC :=
  .seq (.reg [co (some 6) (.assign (.const (.int .u64 0))) none,
      co (some 7) (.assign (.const .nilIface)) none] [0, 1, 2])
  (.seq (.seq (.reg [co (some 18) (.move (.tmp 0)) none,
        co (some 19) (.binOp .eql 9 (.tmp 18) (.const (.string { data := #[] })) 9) none] [0, 1, 2, 19])
    (.cond (.tmp 19)
      (.seq (.reg [co (some 20) (.makeInterface 128 (.const (.int .i64 2))) none,
          co (some 6) (.assign (.const (.int .u64 0))) none,
          co (some 7) (.assign (.tmp 20)) none] [6, 7])
      (.ret))
      (.skip)))
  (.keep [0, 1, 2] (.seq (.reg [co (some 21) (.move (.tmp 1)) none,
      co (some 22) (.binOp .eql 3 (.tmp 21) (.const (.int .i64 0)) 3) none,
      co (some 8) (.assign (.tmp 22)) none] [0, 1, 2, 8])
  (.seq (.reg [co (some 23) (.move (.tmp 0)) none,
      co (some 9) (.assign (.tmp 23)) none] [0, 1, 2, 8, 9])
  (.seq (.block 0
      (.seq (.reg [co (some 26) (.move (.tmp 1)) none,
          co (some 27) (.binOp .leq 3 (.const (.int .i64 2)) (.tmp 26) 3) none,
          co (some 28) (.move (.tmp 27)) none,
          co (some 29) (.move (.tmp 1)) (some (28, true)),
          co (some 30) (.binOp .leq 3 (.tmp 29) (.const (.int .i64 36)) 3) (some (28, true)),
          co (some 31) (.pick (.tmp 28) (.tmp 30) (.const (.bool false))) none,
          co (some 25) (.assign (.tmp 31)) none] [0, 1, 2, 8, 9, 25])
      (.cond (.tmp 25)
        (.skip)
        (.seq (.reg [co (some 33) (.move (.tmp 1)) none,
            co (some 34) (.binOp .eql 3 (.tmp 33) (.const (.int .i64 0)) 3) none,
            co (some 32) (.assign (.tmp 34)) none] [0, 2, 8, 9, 32])
        (.cond (.tmp 32)
          (.seq (.reg [co (some 1) (.assign (.const (.int .i64 10))) none] [0, 1, 2, 8, 9])
          (.seq (.reg [co (some 35) (.move (.tmp 0)) none,
              co (some 36) (.index 9 (.tmp 35) (.const (.int .i64 0))) none,
              co (some 37) (.binOp .eql 5 (.tmp 36) (.const (.int .u8 48)) 5) none] [0, 1, 2, 8, 9, 37])
          (.cond (.tmp 37)
            (.block 1
              (.seq (.reg [co (some 41) (.move (.tmp 0)) none,
                  co (some 42) (.call { callee := (.builtin .len), args := #[(.tmp 41)], argTypes := #[9] }) none,
                  co (some 43) (.binOp .geq 3 (.tmp 42) (.const (.int .i64 3)) 3) none,
                  co (some 44) (.move (.tmp 43)) none,
                  co (some 45) (.move (.tmp 0)) (some (44, true)),
                  co (some 46) (.index 9 (.tmp 45) (.const (.int .i64 1))) (some (44, true)),
                  co (some 47) (.call { callee := (.value (.func 82)), args := #[(.tmp 46)], argTypes := #[5] }) (some (44, true)),
                  co (some 48) (.binOp .eql 5 (.tmp 47) (.const (.int .u8 98)) 5) (some (44, true)),
                  co (some 49) (.pick (.tmp 44) (.tmp 48) (.const (.bool false))) none,
                  co (some 40) (.assign (.tmp 49)) none] [0, 2, 8, 9, 40])
              (.cond (.tmp 40)
                (.seq (.reg [co (some 1) (.assign (.const (.int .i64 2))) none] [0, 1, 2, 8, 9])
                (.reg [co (some 50) (.move (.tmp 0)) none,
                  co (some 51) (.slice 9 (.tmp 50) (some (.const (.int .i64 2))) none none) none,
                  co (some 0) (.assign (.tmp 51)) none] [0, 1, 2, 8, 9]))
                (.seq (.reg [co (some 53) (.move (.tmp 0)) none,
                    co (some 54) (.call { callee := (.builtin .len), args := #[(.tmp 53)], argTypes := #[9] }) none,
                    co (some 55) (.binOp .geq 3 (.tmp 54) (.const (.int .i64 3)) 3) none,
                    co (some 56) (.move (.tmp 55)) none,
                    co (some 57) (.move (.tmp 0)) (some (56, true)),
                    co (some 58) (.index 9 (.tmp 57) (.const (.int .i64 1))) (some (56, true)),
                    co (some 59) (.call { callee := (.value (.func 82)), args := #[(.tmp 58)], argTypes := #[5] }) (some (56, true)),
                    co (some 60) (.binOp .eql 5 (.tmp 59) (.const (.int .u8 111)) 5) (some (56, true)),
                    co (some 61) (.pick (.tmp 56) (.tmp 60) (.const (.bool false))) none,
                    co (some 52) (.assign (.tmp 61)) none] [0, 2, 8, 9, 52])
                (.cond (.tmp 52)
                  (.seq (.reg [co (some 1) (.assign (.const (.int .i64 8))) none] [0, 1, 2, 8, 9])
                  (.reg [co (some 62) (.move (.tmp 0)) none,
                    co (some 63) (.slice 9 (.tmp 62) (some (.const (.int .i64 2))) none none) none,
                    co (some 0) (.assign (.tmp 63)) none] [0, 1, 2, 8, 9]))
                  (.seq (.reg [co (some 65) (.move (.tmp 0)) none,
                      co (some 66) (.call { callee := (.builtin .len), args := #[(.tmp 65)], argTypes := #[9] }) none,
                      co (some 67) (.binOp .geq 3 (.tmp 66) (.const (.int .i64 3)) 3) none,
                      co (some 68) (.move (.tmp 67)) none,
                      co (some 69) (.move (.tmp 0)) (some (68, true)),
                      co (some 70) (.index 9 (.tmp 69) (.const (.int .i64 1))) (some (68, true)),
                      co (some 71) (.call { callee := (.value (.func 82)), args := #[(.tmp 70)], argTypes := #[5] }) (some (68, true)),
                      co (some 72) (.binOp .eql 5 (.tmp 71) (.const (.int .u8 120)) 5) (some (68, true)),
                      co (some 73) (.pick (.tmp 68) (.tmp 72) (.const (.bool false))) none,
                      co (some 64) (.assign (.tmp 73)) none] [0, 2, 8, 9, 64])
                  (.cond (.tmp 64)
                    (.seq (.reg [co (some 1) (.assign (.const (.int .i64 16))) none] [0, 1, 2, 8, 9])
                    (.reg [co (some 74) (.move (.tmp 0)) none,
                      co (some 75) (.slice 9 (.tmp 74) (some (.const (.int .i64 2))) none none) none,
                      co (some 0) (.assign (.tmp 75)) none] [0, 1, 2, 8, 9]))
                    (.seq (.reg [co (some 1) (.assign (.const (.int .i64 8))) none] [0, 1, 2, 8, 9])
                    (.reg [co (some 38) (.move (.tmp 0)) none,
                      co (some 39) (.slice 9 (.tmp 38) (some (.const (.int .i64 1))) none none) none,
                      co (some 0) (.assign (.tmp 39)) none] [0, 1, 2, 8, 9])))))))))
            (.skip))))
          (.seq (.reg [co (some 24) (.makeInterface 128 (.const (.int .i64 3))) none,
              co (some 6) (.assign (.const (.int .u64 0))) none,
              co (some 7) (.assign (.tmp 24)) none] [6, 7])
          (.ret)))))))
  (.keep [0, 1, 2, 8, 9] k4_internal_strconv_ParseUint))))))
theorem t_internal_strconv_ParseUint : Txt Tryd.prog 69 172 [(.tmp 6), (.tmp 7)] c_internal_strconv_ParseUint := txt_of (code := Tryd.f69.body.getD .ret) mixed (by kernel_rfl) Tryd.func69 (by kernel_rfl) Tryd.ntmps69 (by kernel_rfl) (ls := [([0, 1, 2], []), ([], []), ([0, 1, 2, 19], []), ([], []), ([6, 7], []), ([], []), ([999999, 0, 1, 2], []), ([0, 1, 2, 8], []), ([], []), ([0, 1, 2, 8, 9], []), ([], []), ([0, 1, 2, 8, 9, 25], []), ([], []), ([0, 2, 8, 9, 32], []), ([], []), ([0, 1, 2, 8, 9], []), ([], []), ([0, 1, 2, 8, 9, 37], []), ([], []), ([0, 2, 8, 9, 40], []), ([], []), ([0, 1, 2, 8, 9], []), ([], []), ([0, 1, 2, 8, 9], []), ([0, 2, 8, 9, 52], []), ([], []), ([0, 1, 2, 8, 9], []), ([], []), ([0, 1, 2, 8, 9], []), ([0, 2, 8, 9, 64], []), ([], []), ([0, 1, 2, 8, 9], []), ([], []), ([0, 1, 2, 8, 9], []), ([0, 1, 2, 8, 9], []), ([], []), ([0, 1, 2, 8, 9], []), ([6, 7], []), ([], []), ([999999, 0, 1, 2, 8, 9], []), ([0, 1, 2, 8, 9, 77], []), ([], []), ([0, 1, 2, 8, 9], []), ([0, 1, 2, 8, 9, 83], []), ([], []), ([6, 7], []), ([], []), ([999999, 0, 1, 2, 8, 9], []), ([0, 1, 2, 8, 9], []), ([], []), ([0, 1, 2, 8, 9, 85], []), ([], []), ([0, 1, 2, 8, 9, 85, 90], []), ([], []), ([0, 1, 2, 8, 9, 10], []), ([0, 1, 2, 8, 9, 92], []), ([], []), ([0, 1, 2, 8, 9, 10], []), ([0, 1, 2, 8, 9, 10], []), ([999999, 0, 1, 2, 8, 9, 10], []), ([0, 1, 8, 9, 10, 11], []), ([], []), ([0, 1, 8, 9, 10, 11, 12], []), ([], []), ([0, 1, 8, 9, 10, 11, 12, 13], []), ([], []), ([1, 8, 9, 10, 11, 12, 13, 99, 100, 101], []), ([], []), ([1, 8, 9, 10, 11, 12, 13, 99, 100, 101, 102], []), ([], []), ([999999, 1, 8, 9, 10, 11, 12, 13, 99, 100, 101], []), ([1, 8, 9, 10, 11, 12, 13, 15, 99, 100, 101], []), ([], []), ([1, 8, 9, 10, 11, 12, 13, 15, 99, 100, 101], []), ([], []), ([1, 8, 9, 10, 11, 12, 13, 15, 99, 100, 101, 106], []), ([], []), ([1, 8, 9, 10, 11, 12, 13, 99, 100, 101], []), ([], []), ([1, 8, 9, 10, 11, 12, 13, 15, 99, 100, 101, 112], []), ([], []), ([1, 8, 9, 10, 11, 12, 13, 16, 99, 100, 101], []), ([1, 8, 9, 10, 11, 12, 13, 15, 99, 100, 101, 121], []), ([], []), ([1, 8, 9, 10, 11, 12, 13, 16, 99, 100, 101], []), ([6, 7], []), ([], []), ([999999, 1, 8, 9, 10, 11, 12, 13, 16, 99, 100, 101], []), ([1, 8, 9, 10, 11, 12, 13, 16, 99, 100, 101, 137], []), ([], []), ([6, 7], []), ([], []), ([999999, 1, 8, 9, 10, 11, 12, 13, 16, 99, 100, 101], []), ([1, 8, 9, 10, 11, 12, 13, 16, 99, 100, 101, 141], []), ([], []), ([6, 7], []), ([], []), ([999999, 1, 8, 9, 10, 11, 12, 13, 16, 99, 100, 101], []), ([1, 8, 9, 10, 11, 12, 13, 16, 99, 100, 101], []), ([], []), ([1, 8, 9, 10, 11, 12, 13, 17, 99, 100, 101], []), ([], []), ([1, 8, 9, 10, 11, 12, 17, 99, 100, 101, 159], []), ([], []), ([6, 7], []), ([], []), ([999999, 1, 8, 9, 10, 11, 12, 17, 99, 100, 101], []), ([1, 8, 9, 10, 11, 12, 13, 99, 100, 101], []), ([999999, 1, 8, 9, 10, 11, 12, 13, 99, 100, 101], []), ([1, 8, 9, 10, 11, 12, 13, 99, 100, 101], []), ([999999, 9, 12, 13], []), ([13, 169], []), ([], []), ([6, 7], []), ([], []), ([999999, 13], []), ([6, 7], []), ([], [])]) (by kernel_rfl)
/-- internal/strconv.lower -/
def c_internal_strconv_lower : CC :=
  .seq (.reg [co (some 2) (.assign (.const (.int .u8 0))) none] [0])
  (.seq (.reg [co (some 3) (.move (.tmp 0)) none,
      co (some 4) (.binOp .or 5 (.tmp 3) (.const (.int .u8 32)) 5) none,
      co (some 2) (.assign (.tmp 4)) none] [2])
  (.ret))
theorem t_internal_strconv_lower : Txt Tryd.prog 82 5 [(.tmp 2)] c_internal_strconv_lower := txt_of (code := Tryd.f82.body.getD .ret) mixed (by kernel_rfl) Tryd.func82 (by kernel_rfl) Tryd.ntmps82 (by kernel_rfl) (ls := [([0], []), ([], []), ([2], []), ([], [])]) (by kernel_rfl)
/-- cento/etext.hex -/
def c_etext_hex : CC :=
  .seq (.reg [co (some 2) (.assign (.const (.string { data := #[] }))) none] [0])
  (.seq (.reg [co (some 3) (.move (.tmp 0)) none,
      co (some 4) (.call { callee := (.value (.func 32)), args := #[(.tmp 3), (.const (.int .i64 16))], argTypes := #[52, 3] }) none,
      co (some 2) (.assign (.tmp 4)) none] [2])
  (.ret))
theorem t_etext_hex : Txt Tryd.prog 14 5 [(.tmp 2)] c_etext_hex := txt_of (code := Tryd.f14.body.getD .ret) mixed (by kernel_rfl) Tryd.func14 (by kernel_rfl) Tryd.ntmps14 (by kernel_rfl) (ls := [([0], []), ([], []), ([2], []), ([], [])]) (by kernel_rfl)
/-- cento/etext.op -/
def c_etext_op : CC :=
  .seq (.reg [cn (some 3) (.box 41 (.tmp 1)) none [0],
      co (some 4) (.assign (.const (.string { data := #[] }))) none] [0, 3])
  (.seq (.seq (.reg [co (some 5) (.fieldAddr 41 (.tmp 3) 0) none,
        co (some 6) (.load 3 (.tmp 5)) none] [0, 3, 6])
    (.block 0
      (.seq (.reg [co (some 8) (.binOp .eql 3 (.tmp 6) (.const (.int .i64 1)) 3) none,
          co (some 7) (.assign (.tmp 8)) none] [0, 3, 6, 7])
      (.cond (.tmp 7)
        (.seq (.reg [co (some 9) (.move (.tmp 0)) none,
            co (some 10) (.fieldAddr 41 (.tmp 3) 2) none,
            co (some 11) (.load 23 (.tmp 10)) none,
            co (some 12) (.build 25 #[(0, (.tmp 9)), (2, (.tmp 11))]) none,
            co (some 13) (.call { callee := (.value (.func 12)), args := #[(.tmp 12)], argTypes := #[25] }) none,
            co (some 14) (.binOp .add 9 (.const (.string { data := #[45] })) (.tmp 13) 9) none,
            co (some 4) (.assign (.tmp 14)) none] [4])
        (.ret))
        (.seq (.reg [co (some 16) (.binOp .eql 3 (.tmp 6) (.const (.int .i64 2)) 3) none,
            co (some 15) (.assign (.tmp 16)) none] [0, 3, 6, 15])
        (.cond (.tmp 15)
          (.seq (.reg [co (some 17) (.move (.tmp 0)) none,
              co (some 18) (.fieldAddr 41 (.tmp 3) 2) none,
              co (some 19) (.load 23 (.tmp 18)) none,
              co (some 20) (.build 25 #[(0, (.tmp 17)), (2, (.tmp 19))]) none,
              co (some 21) (.call { callee := (.value (.func 12)), args := #[(.tmp 20)], argTypes := #[25] }) none,
              co (some 22) (.binOp .add 9 (.const (.string { data := #[43] })) (.tmp 21) 9) none,
              co (some 4) (.assign (.tmp 22)) none] [4])
          (.ret))
          (.seq (.reg [co (some 24) (.binOp .eql 3 (.tmp 6) (.const (.int .i64 3)) 3) none,
              co (some 23) (.assign (.tmp 24)) none] [3, 23])
          (.cond (.tmp 23)
            (.seq (.reg [co (some 25) (.fieldAddr 41 (.tmp 3) 3) none,
                co (some 26) (.load 30 (.tmp 25)) none,
                co (some 27) (.call { callee := (.value (.func 8)), args := #[(.tmp 26)], argTypes := #[30] }) none,
                co (some 28) (.binOp .add 9 (.const (.string { data := #[42] })) (.tmp 27) 9) none,
                co (some 4) (.assign (.tmp 28)) none] [4])
            (.ret))
            (.skip)))))))))
  (.keep [3] (.seq (.reg [co (some 29) (.fieldAddr 41 (.tmp 3) 1) none,
      co (some 30) (.load 3 (.tmp 29)) none,
      co (some 31) (.convert 3 52 (.tmp 30)) none,
      co (some 32) (.call { callee := (.value (.func 14)), args := #[(.tmp 31)], argTypes := #[52] }) none,
      co (some 33) (.binOp .add 9 (.const (.string { data := #[107] })) (.tmp 32) 9) none,
      co (some 4) (.assign (.tmp 33)) none] [4])
  (.ret))))
theorem t_etext_op : Txt Tryd.prog 15 34 [(.tmp 4)] c_etext_op := txt_of (code := Tryd.f15.body.getD .ret) mixed (by kernel_rfl) Tryd.func15 (by kernel_rfl) Tryd.ntmps15 (by kernel_rfl) (ls := [([0, 3], [(0, [0])]), ([], []), ([0, 3, 6], []), ([], []), ([0, 3, 6, 7], []), ([], []), ([4], []), ([], []), ([0, 3, 6, 15], []), ([], []), ([4], []), ([], []), ([3, 23], []), ([], []), ([4], []), ([], []), ([999999, 3], []), ([4], []), ([], [])]) (by kernel_rfl)
def l1_etext_Print : CC :=
  .seq (.reg [co (some 33) (.binOp .lss 3 (.tmp 32) (.tmp 31) 3) none] [1, 3, 4, 30, 31, 32, 33])
  (.seq (.cond (.tmp 33)
      (.skip)
      (.exit 1))
  (.keep [1, 3, 4, 30, 31, 32] (.seq (.block 2
      (.seq (.reg [co (some 34) (.indexAddr 26 (.tmp 30) (.tmp 32)) none,
          co (some 35) (.load 54 (.tmp 34)) none,
          cn (some 6) (.alloc 54) none [1],
          co none (.store 54 (.tmp 6) (.tmp 35)) none] [1, 3, 4, 6, 30, 31, 32])
      (.reg [co (some 36) (.move (.tmp 3)) none,
        co (some 37) (.fieldAddr 54 (.tmp 6) 0) none,
        co (some 38) (.load 3 (.tmp 37)) none,
        co (some 39) (.convert 3 52 (.tmp 38)) none,
        ⟨some 40, (.call { callee := (.value (.func 14)), args := #[(.tmp 39)], argTypes := #[52] }), none, [], 4, [], true⟩,
        co (some 41) (.fieldAddr 54 (.tmp 6) 1) none,
        ⟨some 42, (.load 5 (.tmp 41)), none, [], 6, [4], false⟩,
        co (some 43) (.convert 5 52 (.tmp 42)) none,
        ⟨some 44, (.call { callee := (.value (.func 14)), args := #[(.tmp 43)], argTypes := #[52] }), none, [], 8, [], true⟩,
        co (some 45) (.fieldAddr 54 (.tmp 6) 2) none,
        ⟨some 46, (.load 52 (.tmp 45)), none, [], 10, [4, 8], false⟩,
        ⟨some 47, (.call { callee := (.value (.func 14)), args := #[(.tmp 46)], argTypes := #[52] }), none, [], 11, [], true⟩,
        co (some 48) (.fieldAddr 54 (.tmp 6) 3) none,
        ⟨some 49, (.load 52 (.tmp 48)), none, [], 13, [4, 8, 11], false⟩,
        co (some 50) (.call { callee := (.value (.func 14)), args := #[(.tmp 49)], argTypes := #[52] }) none,
        co (some 51) (.buildSlice 51 4 #[(0, (.tmp 40)), (1, (.tmp 44)), (2, (.tmp 47)), (3, (.tmp 50))]) none,
        co (some 52) (.call { callee := (.value (.func 13)), args := #[(.tmp 51), (.const (.string { data := #[58] }))], argTypes := #[51, 9] }) none,
        co (some 53) (.buildSlice 51 1 #[(0, (.tmp 52))]) none,
        cn (some 54) (.call { callee := (.builtin .append), args := #[(.tmp 36), (.tmp 53)], argTypes := #[51, 51] }) none [2],
        co (some 3) (.assign (.tmp 54)) none] [1, 3, 4, 30, 31, 32])))
  (.reg [co (some 55) (.binOp .add 3 (.tmp 32) (.const (.int .i64 1)) 3) none,
    co (some 32) (.move (.tmp 55)) none] [1, 3, 4, 30, 31, 32]))))
def l2_etext_Print : CC :=
  .seq (.reg [co (some 60) (.binOp .lss 3 (.tmp 59) (.tmp 58) 3) none] [3, 4, 57, 58, 59, 60])
  (.seq (.cond (.tmp 60)
      (.skip)
      (.exit 3))
  (.keep [3, 4, 57, 58, 59] (.seq (.block 4
      (.seq (.reg [co (some 61) (.indexAddr 27 (.tmp 57) (.tmp 59)) none,
          co (some 62) (.load 58 (.tmp 61)) none,
          cn (some 8) (.alloc 58) none [3],
          co none (.store 58 (.tmp 8) (.tmp 62)) none] [3, 4, 8, 57, 58, 59])
      (.reg [co (some 63) (.move (.tmp 4)) none,
        co (some 64) (.fieldAddr 58 (.tmp 8) 0) none,
        co (some 65) (.load 3 (.tmp 64)) none,
        co (some 66) (.convert 3 52 (.tmp 65)) none,
        ⟨some 67, (.call { callee := (.value (.func 14)), args := #[(.tmp 66)], argTypes := #[52] }), none, [], 4, [], true⟩,
        co (some 68) (.binOp .add 9 (.tmp 67) (.const (.string { data := #[58] })) 9) none,
        co (some 69) (.fieldAddr 58 (.tmp 8) 1) none,
        ⟨some 70, (.load 30 (.tmp 69)), none, [], 7, [4], false⟩,
        co (some 71) (.call { callee := (.value (.func 8)), args := #[(.tmp 70)], argTypes := #[30] }) none,
        co (some 72) (.binOp .add 9 (.tmp 68) (.tmp 71) 9) none,
        co (some 73) (.buildSlice 51 1 #[(0, (.tmp 72))]) none,
        cn (some 74) (.call { callee := (.builtin .append), args := #[(.tmp 63), (.tmp 73)], argTypes := #[51, 51] }) none [4],
        co (some 4) (.assign (.tmp 74)) none] [3, 4, 57, 58, 59])))
  (.reg [co (some 75) (.binOp .add 3 (.tmp 59) (.const (.int .i64 1)) 3) none,
    co (some 59) (.move (.tmp 75)) none] [3, 4, 57, 58, 59]))))
def l3_etext_Print : CC :=
  .seq (.reg [co (some 90) (.binOp .lss 3 (.tmp 89) (.tmp 88) 3) none] [1, 9, 87, 88, 89, 90])
  (.seq (.cond (.tmp 90)
      (.skip)
      (.exit 5))
  (.keep [1, 9, 87, 88, 89] (.seq (.block 6
      (.seq (.reg [co (some 91) (.indexAddr 28 (.tmp 87) (.tmp 89)) none,
          co (some 92) (.load 41 (.tmp 91)) none,
          cn (some 11) (.alloc 41) none [5],
          co none (.store 41 (.tmp 11) (.tmp 92)) none] [1, 9, 11, 87, 88, 89])
      (.reg [co (some 93) (.move (.tmp 9)) none,
        co (some 94) (.fieldAddr 30 (.tmp 1) 5) none,
        co (some 95) (.load 3 (.tmp 94)) none,
        co (some 96) (.load 41 (.tmp 11)) none,
        co (some 97) (.call { callee := (.value (.func 15)), args := #[(.tmp 95), (.tmp 96)], argTypes := #[3, 41] }) none,
        co (some 98) (.buildSlice 51 1 #[(0, (.tmp 97))]) none,
        cn (some 99) (.call { callee := (.builtin .append), args := #[(.tmp 93), (.tmp 98)], argTypes := #[51, 51] }) none [6],
        co (some 9) (.assign (.tmp 99)) none] [1, 9, 87, 88, 89])))
  (.reg [co (some 100) (.binOp .add 3 (.tmp 89) (.const (.int .i64 1)) 3) none,
    co (some 89) (.move (.tmp 100)) none] [1, 9, 87, 88, 89]))))
/-- cento/etext.Print -/
def c_etext_Print : CC :=
  .seq (.reg [cn (some 1) (.box 30 (.tmp 0)) none [0],
      co (some 2) (.assign (.const (.string { data := #[] }))) none] [1])
  (.seq (.seq (.reg [co (some 13) (.fieldAddr 30 (.tmp 1) 0) none,
        co (some 14) (.load 3 (.tmp 13)) none] [1, 14])
    (.block 0
      (.seq (.reg [co (some 16) (.binOp .eql 3 (.tmp 14) (.const (.int .i64 1)) 3) none,
          co (some 15) (.assign (.tmp 16)) none] [1, 14, 15])
      (.cond (.tmp 15)
        (.seq (.reg [co (some 17) (.fieldAddr 30 (.tmp 1) 1) none,
            co (some 18) (.load 25 (.tmp 17)) none,
            ⟨some 19, (.call { callee := (.value (.func 12)), args := #[(.tmp 18)], argTypes := #[25] }), none, [], 2, [], true⟩,
            co (some 20) (.binOp .add 9 (.const (.string { data := #[40] })) (.tmp 19) 9) none,
            co (some 21) (.binOp .add 9 (.tmp 20) (.const (.string { data := #[62] })) 9) none,
            co (some 22) (.fieldAddr 30 (.tmp 1) 2) none,
            ⟨some 23, (.load 25 (.tmp 22)), none, [], 6, [2], false⟩,
            co (some 24) (.call { callee := (.value (.func 12)), args := #[(.tmp 23)], argTypes := #[25] }) none,
            co (some 25) (.binOp .add 9 (.tmp 21) (.tmp 24) 9) none,
            co (some 26) (.binOp .add 9 (.tmp 25) (.const (.string { data := #[41] })) 9) none,
            co (some 2) (.assign (.tmp 26)) none] [2])
        (.ret))
        (.seq (.reg [co (some 28) (.binOp .eql 3 (.tmp 14) (.const (.int .i64 2)) 3) none,
            co (some 27) (.assign (.tmp 28)) none] [1, 14, 27])
        (.cond (.tmp 27)
          (.seq (.reg [co (some 3) (.assign (.const (.slice none 0 0))) none,
              co (some 4) (.assign (.const (.slice none 0 0))) none] [1, 3, 4])
          (.seq (.seq (.reg [co (some 29) (.fieldAddr 30 (.tmp 1) 3) none,
                co (some 30) (.load 26 (.tmp 29)) none,
                co (some 31) (.call { callee := (.builtin .len), args := #[(.tmp 30)], argTypes := #[26] }) none,
                co (some 32) (.move (.const (.int .i64 0))) none] [1, 3, 4, 30, 31, 32])
            (.block 1
              (.loop l1_etext_Print)))
          (.keep [1, 3, 4] (.seq (.seq (.reg [co (some 56) (.fieldAddr 30 (.tmp 1) 4) none,
                co (some 57) (.load 27 (.tmp 56)) none,
                co (some 58) (.call { callee := (.builtin .len), args := #[(.tmp 57)], argTypes := #[27] }) none,
                co (some 59) (.move (.const (.int .i64 0))) none] [3, 4, 57, 58, 59])
            (.block 3
              (.loop l2_etext_Print)))
          (.keep [3, 4] (.seq (.reg [co (some 76) (.move (.tmp 3)) none,
              co (some 77) (.call { callee := (.value (.func 13)), args := #[(.tmp 76), (.const (.string { data := #[44] }))], argTypes := #[51, 9] }) none,
              co (some 78) (.binOp .add 9 (.const (.string { data := #[115, 123] })) (.tmp 77) 9) none,
              co (some 79) (.binOp .add 9 (.tmp 78) (.const (.string { data := #[124] })) 9) none,
              co (some 80) (.move (.tmp 4)) none,
              co (some 81) (.call { callee := (.value (.func 13)), args := #[(.tmp 80), (.const (.string { data := #[44] }))], argTypes := #[51, 9] }) none,
              co (some 82) (.binOp .add 9 (.tmp 79) (.tmp 81) 9) none,
              co (some 83) (.binOp .add 9 (.tmp 82) (.const (.string { data := #[125] })) 9) none,
              co (some 2) (.assign (.tmp 83)) none] [2])
          (.ret)))))))
          (.seq (.reg [co (some 85) (.binOp .eql 3 (.tmp 14) (.const (.int .i64 3)) 3) none,
              co (some 84) (.assign (.tmp 85)) none] [1, 84])
          (.cond (.tmp 84)
            (.seq (.reg [co (some 9) (.assign (.const (.slice none 0 0))) none] [1, 9])
            (.seq (.seq (.reg [co (some 86) (.fieldAddr 30 (.tmp 1) 6) none,
                  co (some 87) (.load 28 (.tmp 86)) none,
                  co (some 88) (.call { callee := (.builtin .len), args := #[(.tmp 87)], argTypes := #[28] }) none,
                  co (some 89) (.move (.const (.int .i64 0))) none] [1, 9, 87, 88, 89])
              (.block 5
                (.loop l3_etext_Print)))
            (.keep [1, 9] (.seq (.reg [co (some 101) (.fieldAddr 30 (.tmp 1) 5) none,
                co (some 102) (.load 3 (.tmp 101)) none,
                co (some 103) (.build 25 #[(0, (.tmp 102))]) none,
                co (some 104) (.call { callee := (.value (.func 12)), args := #[(.tmp 103)], argTypes := #[25] }) none,
                co (some 12) (.assign (.tmp 104)) none] [9, 12])
            (.seq (.reg [co (some 105) (.move (.tmp 12)) none,
                co (some 106) (.slice 9 (.tmp 105) none (some (.const (.int .i64 2))) none) none,
                co (some 107) (.binOp .add 9 (.const (.string { data := #[108] })) (.tmp 106) 9) none,
                co (some 108) (.move (.tmp 9)) none,
                co (some 109) (.call { callee := (.value (.func 13)), args := #[(.tmp 108), (.const (.string { data := #[44] }))], argTypes := #[51, 9] }) none,
                co (some 110) (.binOp .add 9 (.tmp 107) (.tmp 109) 9) none,
                co (some 111) (.binOp .add 9 (.tmp 110) (.const (.string { data := #[93] })) 9) none,
                co (some 2) (.assign (.tmp 111)) none] [2])
            (.ret))))))
            (.skip)))))))))
  (.keep [] (.seq (.reg [co (some 2) (.assign (.const (.string { data := #[61] }))) none] [2])
  (.ret))))
theorem t_etext_Print : Txt Tryd.prog 8 112 [(.tmp 2)] c_etext_Print := txt_of (code := Tryd.f8.body.getD .ret) mixed (by kernel_rfl) Tryd.func8 (by kernel_rfl) Tryd.ntmps8 (by kernel_rfl) (ls := [([1], [(0, [0])]), ([], []), ([1, 14], []), ([], []), ([1, 14, 15], []), ([], []), ([2], []), ([], []), ([1, 14, 27], []), ([], []), ([1, 3, 4], []), ([], []), ([1, 3, 4, 30, 31, 32], []), ([], []), ([1, 3, 4, 30, 31, 32, 33], []), ([], []), ([999999, 1, 3, 4, 30, 31, 32], []), ([1, 3, 4, 6, 30, 31, 32], [(2, [1])]), ([], []), ([1, 3, 4, 30, 31, 32], [(18, [2])]), ([], []), ([1, 3, 4, 30, 31, 32], []), ([999999, 1, 3, 4], []), ([3, 4, 57, 58, 59], []), ([], []), ([3, 4, 57, 58, 59, 60], []), ([], []), ([999999, 3, 4, 57, 58, 59], []), ([3, 4, 8, 57, 58, 59], [(2, [3])]), ([], []), ([3, 4, 57, 58, 59], [(11, [4])]), ([], []), ([3, 4, 57, 58, 59], []), ([999999, 3, 4], []), ([2], []), ([], []), ([1, 84], []), ([], []), ([1, 9], []), ([], []), ([1, 9, 87, 88, 89], []), ([], []), ([1, 9, 87, 88, 89, 90], []), ([], []), ([999999, 1, 9, 87, 88, 89], []), ([1, 9, 11, 87, 88, 89], [(2, [5])]), ([], []), ([1, 9, 87, 88, 89], [(6, [6])]), ([], []), ([1, 9, 87, 88, 89], []), ([999999, 1, 9], []), ([9, 12], []), ([], []), ([2], []), ([], []), ([999999], []), ([2], []), ([], [])]) (by kernel_rfl)
/-- (*cento/etext.reader).next -/
def c_etext_next : CC :=
  .seq (.reg [co (some 2) (.assign (.const (.int .u8 0))) none] [0])
  (.seq (.seq (.reg [co (some 3) (.move (.tmp 0)) none,
        co (some 4) (.nilCheck (.tmp 3)) none,
        co (some 5) (.fieldAddr 47 (.tmp 4) 1) none,
        co (some 6) (.load 3 (.tmp 5)) none,
        co (some 7) (.move (.tmp 0)) none,
        co (some 8) (.nilCheck (.tmp 7)) none,
        co (some 9) (.fieldAddr 47 (.tmp 8) 0) none,
        co (some 10) (.load 9 (.tmp 9)) none,
        co (some 11) (.call { callee := (.builtin .len), args := #[(.tmp 10)], argTypes := #[9] }) none,
        co (some 12) (.binOp .geq 3 (.tmp 6) (.tmp 11) 3) none] [0, 12])
    (.cond (.tmp 12)
      (.seq (.reg [co (some 2) (.assign (.const (.int .u8 0))) none] [2])
      (.ret))
      (.skip)))
  (.keep [0] (.seq (.reg [co (some 13) (.move (.tmp 0)) none,
      co (some 14) (.nilCheck (.tmp 13)) none,
      co (some 15) (.fieldAddr 47 (.tmp 14) 0) none,
      co (some 16) (.load 9 (.tmp 15)) none,
      co (some 17) (.move (.tmp 0)) none,
      co (some 18) (.nilCheck (.tmp 17)) none,
      co (some 19) (.fieldAddr 47 (.tmp 18) 1) none,
      co (some 20) (.load 3 (.tmp 19)) none,
      co (some 21) (.index 9 (.tmp 16) (.tmp 20)) none,
      co (some 2) (.assign (.tmp 21)) none] [2])
  (.ret))))
theorem t_etext_next : Txt Tryd.prog 33 22 [(.tmp 2)] c_etext_next := txt_of (code := Tryd.f33.body.getD .ret) mixed (by kernel_rfl) Tryd.func33 (by kernel_rfl) Tryd.ntmps33 (by kernel_rfl) (ls := [([0], []), ([], []), ([0, 12], []), ([], []), ([2], []), ([], []), ([999999, 0], []), ([2], []), ([], [])]) (by kernel_rfl)
/-- (*cento/etext.reader).eat -/
def c_etext_eat : CC :=
  .seq (.reg [co (some 4) (.assign (.const (.bool false))) none] [0, 1])
  (.seq (.seq (.reg [co (some 5) (.move (.tmp 0)) none,
        co (some 6) (.call { callee := (.value (.func 33)), args := #[(.tmp 5)], argTypes := #[45] }) none,
        co (some 7) (.move (.tmp 1)) none,
        co (some 8) (.binOp .neq 5 (.tmp 6) (.tmp 7) 5) none] [0, 8])
    (.cond (.tmp 8)
      (.seq (.reg [co (some 4) (.assign (.const (.bool false))) none] [4])
      (.ret))
      (.skip)))
  (.keep [0] (.seq (.reg [co (some 9) (.move (.tmp 0)) none,
      co (some 10) (.nilCheck (.tmp 9)) none,
      co (some 11) (.fieldAddr 47 (.tmp 10) 1) none,
      co (some 12) (.load 3 (.tmp 11)) none,
      co (some 13) (.binOp .add 3 (.tmp 12) (.const (.int .i64 1)) 3) none,
      co (some 14) (.nilCheck (.tmp 9)) none,
      co (some 15) (.fieldAddr 47 (.tmp 14) 1) none,
      co none (.store 3 (.tmp 15) (.tmp 13)) none] [])
  (.seq (.reg [co (some 4) (.assign (.const (.bool true))) none] [4])
  (.ret)))))
theorem t_etext_eat : Txt Tryd.prog 17 16 [(.tmp 4)] c_etext_eat := txt_of (code := Tryd.f17.body.getD .ret) mixed (by kernel_rfl) Tryd.func17 (by kernel_rfl) Tryd.ntmps17 (by kernel_rfl) (ls := [([0, 1], []), ([], []), ([0, 8], []), ([], []), ([4], []), ([], []), ([999999, 0], []), ([], []), ([], []), ([4], []), ([], [])]) (by kernel_rfl)
/-- (*cento/etext.reader).must -/
def c_etext_must : CC :=
  .seq (.reg [co (some 4) (.move (.tmp 0)) none,
      co (some 5) (.move (.tmp 1)) none,
      co (some 6) (.call { callee := (.value (.func 17)), args := #[(.tmp 4), (.tmp 5)], argTypes := #[45, 5] }) none,
      co (some 7) (.unOp .not 4 (.tmp 6)) none] [7])
  (.cond (.tmp 7)
    (.reg [co (some 8) (.call { callee := (.value (.func 16)), args := #[], argTypes := #[] }) none] [])
    (.skip))
theorem t_etext_must : Txt Tryd.prog 19 9 [] c_etext_must := txt_of (code := Tryd.f19.body.getD .ret) mixed (by kernel_rfl) Tryd.func19 (by kernel_rfl) Tryd.ntmps19 (by kernel_rfl) (ls := [([7], []), ([], []), ([], [])]) (by kernel_rfl)
/-- (*cento/etext.reader).comma -/
def c_etext_comma : CC :=
  .seq (.reg [co (some 4) (.move (.tmp 1)) none,
      co (some 5) (.binOp .gtr 3 (.tmp 4) (.const (.int .i64 0)) 3) none] [0, 5])
  (.cond (.tmp 5)
    (.reg [co (some 6) (.move (.tmp 0)) none,
      co (some 7) (.call { callee := (.value (.func 19)), args := #[(.tmp 6), (.const (.int .u8 44))], argTypes := #[45, 5] }) none] [])
    (.skip))
theorem t_etext_comma : Txt Tryd.prog 35 8 [] c_etext_comma := txt_of (code := Tryd.f35.body.getD .ret) mixed (by kernel_rfl) Tryd.func35 (by kernel_rfl) Tryd.ntmps35 (by kernel_rfl) (ls := [([0, 5], []), ([], []), ([], [])]) (by kernel_rfl)
def l1_etext_number : CC :=
  .seq (.seq (.reg [co (some 13) (.move (.tmp 0)) none,
        co (some 14) (.call { callee := (.value (.func 33)), args := #[(.tmp 13)], argTypes := #[45] }) none,
        co (some 15) (.call { callee := (.value (.func 50)), args := #[(.const (.string { data := #[48, 49, 50, 51, 52, 53, 54, 55, 56, 57, 97, 98, 99, 100, 101, 102] })), (.tmp 14)], argTypes := #[9, 5] }) none,
        co (some 16) (.binOp .geq 3 (.tmp 15) (.const (.int .i64 0)) 3) none] [0, 1, 5, 16])
    (.cond (.tmp 16)
      (.skip)
      (.exit 0)))
  (.keep [0, 1, 5] (.block 1
    (.reg [co (some 17) (.move (.tmp 0)) none,
      co (some 18) (.nilCheck (.tmp 17)) none,
      co (some 19) (.fieldAddr 47 (.tmp 18) 1) none,
      co (some 20) (.load 3 (.tmp 19)) none,
      co (some 21) (.binOp .add 3 (.tmp 20) (.const (.int .i64 1)) 3) none,
      co (some 22) (.nilCheck (.tmp 17)) none,
      co (some 23) (.fieldAddr 47 (.tmp 22) 1) none,
      co none (.store 3 (.tmp 23) (.tmp 21)) none] [0, 1, 5])))
/-- (*cento/etext.reader).number -/
def c_etext_number : CC :=
  .seq (.reg [co (some 4) (.assign (.const (.int .u64 0))) none] [0, 1])
  (.seq (.reg [co (some 9) (.move (.tmp 0)) none,
      co (some 10) (.nilCheck (.tmp 9)) none,
      co (some 11) (.fieldAddr 47 (.tmp 10) 1) none,
      co (some 12) (.load 3 (.tmp 11)) none,
      co (some 5) (.assign (.tmp 12)) none] [0, 1, 5])
  (.seq (.block 0
      (.loop l1_etext_number))
  (.keep [0, 1, 5] (.seq (.reg [co (some 24) (.move (.tmp 0)) none,
      co (some 25) (.nilCheck (.tmp 24)) none,
      co (some 26) (.fieldAddr 47 (.tmp 25) 0) none,
      co (some 27) (.load 9 (.tmp 26)) none,
      co (some 28) (.move (.tmp 5)) none,
      co (some 29) (.move (.tmp 0)) none,
      co (some 30) (.nilCheck (.tmp 29)) none,
      co (some 31) (.fieldAddr 47 (.tmp 30) 1) none,
      co (some 32) (.load 3 (.tmp 31)) none,
      co (some 33) (.slice 9 (.tmp 27) (some (.tmp 28)) (some (.tmp 32)) none) none,
      co (some 6) (.assign (.tmp 33)) none] [1, 6])
  (.seq (.reg [co (some 35) (.move (.tmp 6)) none,
      co (some 36) (.call { callee := (.value (.func 51)), args := #[(.tmp 35), (.const (.int .i64 16)), (.const (.int .i64 64))], argTypes := #[9, 3, 3] }) none,
      co (some 34) (.move (.tmp 36)) none,
      co (some 37) (.extract (.tmp 34) 0) none,
      co (some 38) (.extract (.tmp 34) 1) none,
      co (some 7) (.assign (.tmp 37)) none,
      co (some 8) (.assign (.tmp 38)) none] [1, 6, 7, 8])
  (.seq (.seq (.reg [co (some 39) (.move (.tmp 8)) none,
        co (some 40) (.binOp .neq 74 (.tmp 39) (.const .nilIface) 74) none,
        co (some 41) (.move (.tmp 40)) none,
        co (some 42) (.move (.tmp 7)) (some (41, false)),
        co (some 43) (.call { callee := (.value (.func 14)), args := #[(.tmp 42)], argTypes := #[52] }) (some (41, false)),
        co (some 44) (.move (.tmp 6)) (some (41, false)),
        co (some 45) (.binOp .neq 9 (.tmp 43) (.tmp 44) 9) (some (41, false)),
        co (some 46) (.pick (.tmp 41) (.const (.bool true)) (.tmp 45)) none,
        co (some 47) (.move (.tmp 46)) none,
        co (some 48) (.move (.tmp 7)) (some (47, false)),
        co (some 49) (.move (.tmp 1)) (some (47, false)),
        co (some 50) (.binOp .gtr 52 (.tmp 48) (.tmp 49) 52) (some (47, false)),
        co (some 51) (.pick (.tmp 47) (.const (.bool true)) (.tmp 50)) none] [7, 51])
    (.cond (.tmp 51)
      (.reg [co (some 52) (.call { callee := (.value (.func 16)), args := #[], argTypes := #[] }) none] [7])
      (.skip)))
  (.keep [7] (.stop (.seq (.reg [co (some 53) (.move (.tmp 7)) none,
      co (some 4) (.assign (.tmp 53)) none] [4])
  (.ret))))))))))
theorem t_etext_number : Txt Tryd.prog 37 54 [(.tmp 4)] c_etext_number := txt_of (code := Tryd.f37.body.getD .ret) mixed (by kernel_rfl) Tryd.func37 (by kernel_rfl) Tryd.ntmps37 (by kernel_rfl) (ls := [([0, 1], []), ([], []), ([0, 1, 5], []), ([], []), ([0, 1, 5, 16], []), ([], []), ([999999, 0, 1, 5], []), ([0, 1, 5], []), ([999999, 0, 1, 5], []), ([1, 6], []), ([], []), ([1, 6, 7, 8], []), ([], []), ([7, 51], []), ([], []), ([7], []), ([999997, 7], []), ([4], []), ([], [])]) (by kernel_rfl)
/-- (*cento/etext.reader).small -/
def c_etext_small : CC :=
  .seq (.reg [co (some 2) (.assign (.const (.int .i64 0))) none] [0])
  (.seq (.reg [co (some 3) (.move (.tmp 0)) none,
      co (some 4) (.call { callee := (.value (.func 37)), args := #[(.tmp 3), (.const (.int .u64 1048576))], argTypes := #[45, 52] }) none,
      co (some 5) (.convert 52 3 (.tmp 4)) none,
      co (some 2) (.assign (.tmp 5)) none] [2])
  (.stop (.ret)))
theorem t_etext_small : Txt Tryd.prog 36 6 [(.tmp 2)] c_etext_small := txt_of (code := Tryd.f36.body.getD .ret) mixed (by kernel_rfl) Tryd.func36 (by kernel_rfl) Tryd.ntmps36 (by kernel_rfl) (ls := [([0], []), ([], []), ([2], []), ([999998], [])]) (by kernel_rfl)
def k1_etext_tree : CC :=
  .cond (.tmp 25)
    (.reg [co (some 28) (.move (.tmp 4)) none,
      co (some 29) (.binOp .add 3 (.tmp 28) (.const (.int .i64 1)) 3) none,
      co (some 4) (.assign (.tmp 29)) none] [0, 2, 3, 4])
    (.seq (.seq (.reg [co (some 31) (.binOp .eql 5 (.tmp 24) (.const (.int .u8 125)) 5) none,
          co (some 30) (.assign (.tmp 31)) none] [0, 2, 3, 4, 24, 30])
      (.cond (.tmp 30)
        (.skip)
        (.reg [co (some 32) (.binOp .eql 5 (.tmp 24) (.const (.int .u8 93)) 5) none,
          co (some 30) (.assign (.tmp 32)) none] [0, 2, 3, 4, 24, 30])))
    (.keep [0, 2, 3, 4, 24, 30] (.cond (.tmp 30)
      (.reg [co (some 33) (.move (.tmp 4)) none,
        co (some 34) (.binOp .sub 3 (.tmp 33) (.const (.int .i64 1)) 3) none,
        co (some 4) (.assign (.tmp 34)) none] [0, 2, 3, 4])
      (.seq (.reg [co (some 36) (.binOp .eql 5 (.tmp 24) (.const (.int .u8 95)) 5) none,
          co (some 35) (.assign (.tmp 36)) none] [0, 2, 3, 4, 35])
      (.cond (.tmp 35)
        (.skip)
        (.exit 1))))))
def l1_etext_tree : CC :=
  .seq (.seq (.reg [co (some 12) (.move (.tmp 0)) none,
        co (some 13) (.call { callee := (.value (.func 33)), args := #[(.tmp 12)], argTypes := #[45] }) none,
        co (some 14) (.binOp .neq 5 (.tmp 13) (.const (.int .u8 0)) 5) none] [0, 2, 3, 4, 14])
    (.cond (.tmp 14)
      (.skip)
      (.exit 0)))
  (.keep [0, 2, 3, 4] (.block 1
    (.seq (.reg [co (some 15) (.move (.tmp 0)) none,
        co (some 16) (.call { callee := (.value (.func 33)), args := #[(.tmp 15)], argTypes := #[45] }) none,
        co (some 5) (.assign (.tmp 16)) none] [0, 2, 3, 4, 5])
    (.seq (.reg [co (some 17) (.move (.tmp 0)) none,
        co (some 18) (.nilCheck (.tmp 17)) none,
        co (some 19) (.fieldAddr 47 (.tmp 18) 1) none,
        co (some 20) (.load 3 (.tmp 19)) none,
        co (some 21) (.binOp .add 3 (.tmp 20) (.const (.int .i64 1)) 3) none,
        co (some 22) (.nilCheck (.tmp 17)) none,
        co (some 23) (.fieldAddr 47 (.tmp 22) 1) none,
        co none (.store 3 (.tmp 23) (.tmp 21)) none] [0, 2, 3, 4, 5])
    (.seq (.seq (.reg [co (some 24) (.move (.tmp 5)) none] [0, 2, 3, 4, 24])
      (.block 2
        (.seq (.seq (.reg [co (some 26) (.binOp .eql 5 (.tmp 24) (.const (.int .u8 123)) 5) none,
              co (some 25) (.assign (.tmp 26)) none] [0, 2, 3, 4, 24, 25])
          (.cond (.tmp 25)
            (.skip)
            (.reg [co (some 27) (.binOp .eql 5 (.tmp 24) (.const (.int .u8 91)) 5) none,
              co (some 25) (.assign (.tmp 27)) none] [0, 2, 3, 4, 24, 25])))
        (.keep [0, 2, 3, 4, 24, 25] k1_etext_tree))))
    (.keep [0, 2, 3, 4] (.seq (.reg [co (some 37) (.move (.tmp 4)) none,
        co (some 38) (.binOp .leq 3 (.tmp 37) (.const (.int .i64 0)) 3) none] [0, 2, 3, 4, 38])
    (.cond (.tmp 38)
      (.exit 0)
      (.skip)))))))))
def k2_etext_tree : CC :=
  .seq (.reg [co (some 40) (.move (.tmp 0)) none,
      co (some 41) (.nilCheck (.tmp 40)) none,
      co (some 42) (.fieldAddr 47 (.tmp 41) 0) none,
      ⟨some 43, (.load 9 (.tmp 42)), none, [], 3, [], true⟩,
      co (some 44) (.move (.tmp 3)) none,
      co (some 45) (.move (.tmp 0)) none,
      co (some 46) (.nilCheck (.tmp 45)) none,
      co (some 47) (.fieldAddr 47 (.tmp 46) 1) none,
      ⟨some 48, (.load 3 (.tmp 47)), none, [], 8, [], true⟩,
      co (some 49) (.slice 9 (.tmp 43) (some (.tmp 44)) (some (.tmp 48)) none) none,
      ⟨some 50, (.call { callee := (.value (.func 34)), args := #[(.tmp 49)], argTypes := #[9] }), none, [], 10, [], true⟩,
      co (some 39) (.move (.tmp 50)) none,
      co (some 51) (.extract (.tmp 39) 0) none,
      co (some 52) (.extract (.tmp 39) 1) none,
      ⟨some 6, (.alloc 25), none, [2], 14, [3, 8, 10], false⟩,
      co none (.store 25 (.tmp 6) (.tmp 51)) none,
      co (some 7) (.assign (.tmp 52)) none] [2, 6, 7])
  (.seq (.seq (.reg [co (some 53) (.move (.tmp 7)) none,
        co (some 54) (.binOp .neq 31 (.tmp 53) (.const (.int .i64 0)) 31) none] [2, 6, 54])
    (.cond (.tmp 54)
      (.reg [co (some 55) (.call { callee := (.value (.func 16)), args := #[], argTypes := #[] }) none] [2, 6])
      (.skip)))
  (.keep [2, 6] (.stop (.seq (.reg [co (some 56) (.load 25 (.tmp 6)) none,
      co none (.store 25 (.tmp 2) (.tmp 56)) none] [2])
  (.ret)))))
/-- (*cento/etext.reader).tree -/
def c_etext_tree : CC :=
  .seq (.reg [cn (some 2) (.alloc 25) none [1]] [0, 2])
  (.seq (.reg [co (some 8) (.move (.tmp 0)) none,
      co (some 9) (.nilCheck (.tmp 8)) none,
      co (some 10) (.fieldAddr 47 (.tmp 9) 1) none,
      co (some 11) (.load 3 (.tmp 10)) none,
      co (some 3) (.assign (.tmp 11)) none,
      co (some 4) (.assign (.const (.int .i64 0))) none] [0, 2, 3, 4])
  (.seq (.block 0
      (.loop l1_etext_tree))
  (.keep [0, 2, 3] k2_etext_tree)))
theorem t_etext_tree : Txt Tryd.prog 18 57 [(.cell 2 25)] c_etext_tree := txt_of (code := Tryd.f18.body.getD .ret) mixed (by kernel_rfl) Tryd.func18 (by kernel_rfl) Tryd.ntmps18 (by kernel_rfl) (ls := [([0, 2], [(0, [1])]), ([], []), ([0, 2, 3, 4], []), ([], []), ([0, 2, 3, 4, 14], []), ([], []), ([999999, 0, 2, 3, 4], []), ([0, 2, 3, 4, 5], []), ([], []), ([0, 2, 3, 4, 5], []), ([], []), ([0, 2, 3, 4, 24], []), ([], []), ([0, 2, 3, 4, 24, 25], []), ([], []), ([0, 2, 3, 4, 24, 25], []), ([999999, 0, 2, 3, 4, 24, 25], []), ([0, 2, 3, 4], []), ([0, 2, 3, 4, 24, 30], []), ([], []), ([0, 2, 3, 4, 24, 30], []), ([999999, 0, 2, 3, 4, 24, 30], []), ([0, 2, 3, 4], []), ([0, 2, 3, 4, 35], []), ([], []), ([999999, 0, 2, 3, 4], []), ([0, 2, 3, 4, 38], []), ([], []), ([999999, 0, 2, 3], []), ([2, 6, 7], [(14, [2])]), ([], []), ([2, 6, 54], []), ([], []), ([2, 6], []), ([999997, 2, 6], []), ([2], []), ([], [])]) (by kernel_rfl)
/-- (*cento/etext.reader).edit -/
def c_etext_edit : CC :=
  .seq (.reg [cn (some 4) (.alloc 30) none [1]] [0, 1, 4])
  (.seq (.reg [co (some 6) (.build 30 #[]) none,
      cn (some 5) (.alloc 30) none [2],
      co none (.store 30 (.tmp 5) (.tmp 6)) none] [0, 1, 4, 5])
  (.seq (.block 0
      (.seq (.reg [co (some 13) (.move (.tmp 1)) none,
          co (some 14) (.binOp .eql 3 (.tmp 13) (.const (.int .i64 0)) 3) none,
          co (some 12) (.assign (.tmp 14)) none] [0, 1, 4, 5, 12])
      (.cond (.tmp 12)
        (.reg [co (some 15) (.call { callee := (.value (.func 16)), args := #[], argTypes := #[] }) none] [4, 5])
        (.seq (.reg [co (some 17) (.move (.tmp 0)) none,
            co (some 18) (.call { callee := (.value (.func 17)), args := #[(.tmp 17), (.const (.int .u8 61))], argTypes := #[45, 5] }) none,
            co (some 16) (.assign (.tmp 18)) none] [0, 1, 4, 5, 16])
        (.cond (.tmp 16)
          (.skip)
          (.seq (.reg [co (some 20) (.move (.tmp 0)) none,
              co (some 21) (.call { callee := (.value (.func 17)), args := #[(.tmp 20), (.const (.int .u8 40))], argTypes := #[45, 5] }) none,
              co (some 19) (.assign (.tmp 21)) none] [0, 1, 4, 5, 19])
          (.cond (.tmp 19)
            (.seq (.reg [co (some 22) (.move (.tmp 0)) none,
                co (some 23) (.call { callee := (.value (.func 18)), args := #[(.tmp 22)], argTypes := #[45] }) none,
                co (some 24) (.fieldAddr 30 (.tmp 5) 0) none,
                co none (.store 3 (.tmp 24) (.const (.int .i64 1))) none,
                co (some 25) (.fieldAddr 30 (.tmp 5) 1) none,
                co none (.store 25 (.tmp 25) (.tmp 23)) none] [0, 4, 5])
            (.stop (.seq (.reg [co (some 26) (.move (.tmp 0)) none,
                co (some 27) (.call { callee := (.value (.func 19)), args := #[(.tmp 26), (.const (.int .u8 62))], argTypes := #[45, 5] }) none] [0, 4, 5])
            (.stop (.seq (.reg [co (some 28) (.move (.tmp 0)) none,
                co (some 29) (.call { callee := (.value (.func 18)), args := #[(.tmp 28)], argTypes := #[45] }) none,
                co (some 30) (.fieldAddr 30 (.tmp 5) 2) none,
                co none (.store 25 (.tmp 30) (.tmp 29)) none] [0, 4, 5])
            (.stop (.reg [co (some 31) (.move (.tmp 0)) none,
              co (some 32) (.call { callee := (.value (.func 19)), args := #[(.tmp 31), (.const (.int .u8 41))], argTypes := #[45, 5] }) none] [4, 5])))))))
            (.seq (.reg [co (some 34) (.move (.tmp 0)) none,
                co (some 35) (.call { callee := (.value (.func 17)), args := #[(.tmp 34), (.const (.int .u8 115))], argTypes := #[45, 5] }) none,
                co (some 33) (.assign (.tmp 35)) none] [0, 1, 4, 5, 33])
            (.cond (.tmp 33)
              (.reg [co (some 36) (.move (.tmp 0)) none,
                co (some 37) (.move (.tmp 1)) none,
                co (some 38) (.call { callee := (.value (.func 20)), args := #[(.tmp 36), (.tmp 37)], argTypes := #[45, 3] }) none,
                co none (.store 30 (.tmp 5) (.tmp 38)) none] [4, 5])
              (.seq (.reg [co (some 7) (.move (.tmp 0)) none,
                  co (some 8) (.call { callee := (.value (.func 19)), args := #[(.tmp 7), (.const (.int .u8 108))], argTypes := #[45, 5] }) none] [0, 1, 4, 5])
              (.stop (.reg [co (some 9) (.move (.tmp 0)) none,
                co (some 10) (.move (.tmp 1)) none,
                co (some 11) (.call { callee := (.value (.func 21)), args := #[(.tmp 9), (.tmp 10)], argTypes := #[45, 3] }) none,
                co none (.store 30 (.tmp 5) (.tmp 11)) none] [4, 5]))))))))))))
  (.keep [4, 5] (.stop (.seq (.reg [co (some 39) (.load 30 (.tmp 5)) none,
      co none (.store 30 (.tmp 4) (.tmp 39)) none] [4])
  (.ret))))))
theorem t_etext_edit : Txt Tryd.prog 10 40 [(.cell 4 30)] c_etext_edit := txt_of (code := Tryd.f10.body.getD .ret) mixed (by kernel_rfl) Tryd.func10 (by kernel_rfl) Tryd.ntmps10 (by kernel_rfl) (ls := [([0, 1, 4], [(0, [1])]), ([], []), ([0, 1, 4, 5], [(1, [2])]), ([], []), ([0, 1, 4, 5, 12], []), ([], []), ([4, 5], []), ([0, 1, 4, 5, 16], []), ([], []), ([0, 1, 4, 5, 19], []), ([], []), ([0, 4, 5], []), ([999998], []), ([0, 4, 5], []), ([999998], []), ([0, 4, 5], []), ([999998], []), ([4, 5], []), ([0, 1, 4, 5, 33], []), ([], []), ([4, 5], []), ([0, 1, 4, 5], []), ([999998], []), ([4, 5], []), ([999997, 4, 5], []), ([4], []), ([], [])]) (by kernel_rfl)
def l1_etext_structure : CC :=
  .seq (.seq (.reg [co (some 11) (.move (.tmp 0)) none,
        co (some 12) (.call { callee := (.value (.func 33)), args := #[(.tmp 11)], argTypes := #[45] }) none,
        co (some 13) (.binOp .neq 5 (.tmp 12) (.const (.int .u8 124)) 5) none] [0, 1, 4, 5, 13])
    (.cond (.tmp 13)
      (.skip)
      (.exit 0)))
  (.keep [0, 1, 4, 5] (.block 1
    (.seq (.reg [co (some 14) (.move (.tmp 0)) none,
        co (some 15) (.fieldAddr 30 (.tmp 5) 3) none,
        co (some 16) (.load 26 (.tmp 15)) none,
        co (some 17) (.call { callee := (.builtin .len), args := #[(.tmp 16)], argTypes := #[26] }) none,
        co (some 18) (.call { callee := (.value (.func 35)), args := #[(.tmp 14), (.tmp 17)], argTypes := #[45, 3] }) none] [0, 1, 4, 5])
    (.stop (.seq (.reg [co (some 19) (.move (.tmp 0)) none,
        co (some 20) (.call { callee := (.value (.func 36)), args := #[(.tmp 19)], argTypes := #[45] }) none,
        co (some 21) (.build 54 #[(0, (.tmp 20))]) none,
        cn (some 6) (.alloc 54) none [3],
        co none (.store 54 (.tmp 6) (.tmp 21)) none] [0, 1, 4, 5, 6])
    (.stop (.seq (.reg [co (some 22) (.move (.tmp 0)) none,
        co (some 23) (.call { callee := (.value (.func 19)), args := #[(.tmp 22), (.const (.int .u8 58))], argTypes := #[45, 5] }) none] [0, 1, 4, 5, 6])
    (.stop (.seq (.reg [co (some 24) (.move (.tmp 0)) none,
        co (some 25) (.call { callee := (.value (.func 37)), args := #[(.tmp 24), (.const (.int .u64 255))], argTypes := #[45, 52] }) none,
        co (some 26) (.convert 52 5 (.tmp 25)) none,
        co (some 27) (.fieldAddr 54 (.tmp 6) 1) none,
        co none (.store 5 (.tmp 27) (.tmp 26)) none] [0, 1, 4, 5, 6])
    (.stop (.seq (.reg [co (some 28) (.move (.tmp 0)) none,
        co (some 29) (.call { callee := (.value (.func 19)), args := #[(.tmp 28), (.const (.int .u8 58))], argTypes := #[45, 5] }) none] [0, 1, 4, 5, 6])
    (.stop (.seq (.reg [co (some 30) (.move (.tmp 0)) none,
        co (some 31) (.call { callee := (.value (.func 37)), args := #[(.tmp 30), (.const (.int .u64 18446744073709551615))], argTypes := #[45, 52] }) none,
        co (some 32) (.fieldAddr 54 (.tmp 6) 2) none,
        co none (.store 52 (.tmp 32) (.tmp 31)) none] [0, 1, 4, 5, 6])
    (.stop (.seq (.reg [co (some 33) (.move (.tmp 0)) none,
        co (some 34) (.call { callee := (.value (.func 19)), args := #[(.tmp 33), (.const (.int .u8 58))], argTypes := #[45, 5] }) none] [0, 1, 4, 5, 6])
    (.stop (.seq (.reg [co (some 35) (.move (.tmp 0)) none,
        co (some 36) (.call { callee := (.value (.func 37)), args := #[(.tmp 35), (.const (.int .u64 18446744073709551615))], argTypes := #[45, 52] }) none,
        co (some 37) (.fieldAddr 54 (.tmp 6) 3) none,
        co none (.store 52 (.tmp 37) (.tmp 36)) none] [0, 1, 4, 5, 6])
    (.stop (.reg [co (some 38) (.fieldAddr 30 (.tmp 5) 3) none,
      co (some 39) (.load 26 (.tmp 38)) none,
      co (some 40) (.load 54 (.tmp 6)) none,
      co (some 41) (.buildSlice 26 1 #[(0, (.tmp 40))]) none,
      cn (some 42) (.call { callee := (.builtin .append), args := #[(.tmp 39), (.tmp 41)], argTypes := #[26, 26] }) none [4],
      co (some 43) (.fieldAddr 30 (.tmp 5) 3) none,
      co none (.store 26 (.tmp 43) (.tmp 42)) none] [0, 1, 4, 5])))))))))))))))))))
def l2_etext_structure : CC :=
  .seq (.seq (.reg [co (some 46) (.move (.tmp 0)) none,
        co (some 47) (.call { callee := (.value (.func 33)), args := #[(.tmp 46)], argTypes := #[45] }) none,
        co (some 48) (.binOp .neq 5 (.tmp 47) (.const (.int .u8 125)) 5) none] [0, 1, 4, 5, 48])
    (.cond (.tmp 48)
      (.skip)
      (.exit 2)))
  (.keep [0, 1, 4, 5] (.block 3
    (.seq (.reg [co (some 49) (.move (.tmp 0)) none,
        co (some 50) (.fieldAddr 30 (.tmp 5) 4) none,
        co (some 51) (.load 27 (.tmp 50)) none,
        co (some 52) (.call { callee := (.builtin .len), args := #[(.tmp 51)], argTypes := #[27] }) none,
        co (some 53) (.call { callee := (.value (.func 35)), args := #[(.tmp 49), (.tmp 52)], argTypes := #[45, 3] }) none] [0, 1, 4, 5])
    (.stop (.seq (.reg [co (some 54) (.move (.tmp 0)) none,
        co (some 55) (.call { callee := (.value (.func 36)), args := #[(.tmp 54)], argTypes := #[45] }) none,
        co (some 56) (.build 58 #[(0, (.tmp 55))]) none,
        cn (some 7) (.alloc 58) none [5],
        co none (.store 58 (.tmp 7) (.tmp 56)) none] [0, 1, 4, 5, 7])
    (.stop (.seq (.reg [co (some 57) (.move (.tmp 0)) none,
        co (some 58) (.call { callee := (.value (.func 19)), args := #[(.tmp 57), (.const (.int .u8 58))], argTypes := #[45, 5] }) none] [0, 1, 4, 5, 7])
    (.stop (.seq (.reg [co (some 59) (.move (.tmp 0)) none,
        co (some 60) (.move (.tmp 1)) none,
        co (some 61) (.binOp .sub 3 (.tmp 60) (.const (.int .i64 1)) 3) none,
        co (some 62) (.call { callee := (.value (.func 10)), args := #[(.tmp 59), (.tmp 61)], argTypes := #[45, 3] }) none,
        co (some 63) (.fieldAddr 58 (.tmp 7) 1) none,
        co none (.store 30 (.tmp 63) (.tmp 62)) none] [0, 1, 4, 5, 7])
    (.stop (.reg [co (some 64) (.fieldAddr 30 (.tmp 5) 4) none,
      co (some 65) (.load 27 (.tmp 64)) none,
      co (some 66) (.load 58 (.tmp 7)) none,
      co (some 67) (.buildSlice 27 1 #[(0, (.tmp 66))]) none,
      cn (some 68) (.call { callee := (.builtin .append), args := #[(.tmp 65), (.tmp 67)], argTypes := #[27, 27] }) none [6],
      co (some 69) (.fieldAddr 30 (.tmp 5) 4) none,
      co none (.store 27 (.tmp 69) (.tmp 68)) none] [0, 1, 4, 5])))))))))))
/-- (*cento/etext.reader).structure -/
def c_etext_structure : CC :=
  .seq (.reg [cn (some 4) (.alloc 30) none [1]] [0, 1, 4])
  (.seq (.reg [co (some 8) (.build 30 #[(0, (.const (.int .i64 2)))]) none,
      cn (some 5) (.alloc 30) none [2],
      co none (.store 30 (.tmp 5) (.tmp 8)) none] [0, 1, 4, 5])
  (.seq (.reg [co (some 9) (.move (.tmp 0)) none,
      co (some 10) (.call { callee := (.value (.func 19)), args := #[(.tmp 9), (.const (.int .u8 123))], argTypes := #[45, 5] }) none] [0, 1, 4, 5])
  (.stop (.seq (.block 0
      (.loop l1_etext_structure))
  (.keep [0, 1, 4, 5] (.seq (.reg [co (some 44) (.move (.tmp 0)) none,
      co (some 45) (.call { callee := (.value (.func 19)), args := #[(.tmp 44), (.const (.int .u8 124))], argTypes := #[45, 5] }) none] [0, 1, 4, 5])
  (.stop (.seq (.block 2
      (.loop l2_etext_structure))
  (.keep [0, 4, 5] (.seq (.reg [co (some 70) (.move (.tmp 0)) none,
      co (some 71) (.call { callee := (.value (.func 19)), args := #[(.tmp 70), (.const (.int .u8 125))], argTypes := #[45, 5] }) none] [4, 5])
  (.stop (.seq (.reg [co (some 72) (.load 30 (.tmp 5)) none,
      co none (.store 30 (.tmp 4) (.tmp 72)) none] [4])
  (.ret)))))))))))))
theorem t_etext_structure : Txt Tryd.prog 20 73 [(.cell 4 30)] c_etext_structure := txt_of (code := Tryd.f20.body.getD .ret) mixed (by kernel_rfl) Tryd.func20 (by kernel_rfl) Tryd.ntmps20 (by kernel_rfl) (ls := [([0, 1, 4], [(0, [1])]), ([], []), ([0, 1, 4, 5], [(1, [2])]), ([], []), ([0, 1, 4, 5], []), ([999998], []), ([0, 1, 4, 5, 13], []), ([], []), ([999999, 0, 1, 4, 5], []), ([0, 1, 4, 5], []), ([999998], []), ([0, 1, 4, 5, 6], [(3, [3])]), ([999998], []), ([0, 1, 4, 5, 6], []), ([999998], []), ([0, 1, 4, 5, 6], []), ([999998], []), ([0, 1, 4, 5, 6], []), ([999998], []), ([0, 1, 4, 5, 6], []), ([999998], []), ([0, 1, 4, 5, 6], []), ([999998], []), ([0, 1, 4, 5, 6], []), ([999998], []), ([0, 1, 4, 5], [(4, [4])]), ([999999, 0, 1, 4, 5], []), ([0, 1, 4, 5], []), ([999998], []), ([0, 1, 4, 5, 48], []), ([], []), ([999999, 0, 1, 4, 5], []), ([0, 1, 4, 5], []), ([999998], []), ([0, 1, 4, 5, 7], [(3, [5])]), ([999998], []), ([0, 1, 4, 5, 7], []), ([999998], []), ([0, 1, 4, 5, 7], []), ([999998], []), ([0, 1, 4, 5], [(4, [6])]), ([999999, 0, 4, 5], []), ([4, 5], []), ([999998], []), ([4], []), ([], [])]) (by kernel_rfl)
def l1_etext_list : CC :=
  .seq (.seq (.reg [co (some 52) (.move (.tmp 0)) none,
        co (some 53) (.call { callee := (.value (.func 33)), args := #[(.tmp 52)], argTypes := #[45] }) none,
        co (some 54) (.binOp .neq 5 (.tmp 53) (.const (.int .u8 93)) 5) none] [0, 1, 4, 7, 54])
    (.cond (.tmp 54)
      (.skip)
      (.exit 0)))
  (.keep [0, 1, 4, 7] (.block 1
    (.seq (.reg [co (some 55) (.move (.tmp 0)) none,
        co (some 56) (.fieldAddr 30 (.tmp 7) 6) none,
        co (some 57) (.load 28 (.tmp 56)) none,
        co (some 58) (.call { callee := (.builtin .len), args := #[(.tmp 57)], argTypes := #[28] }) none,
        co (some 59) (.call { callee := (.value (.func 35)), args := #[(.tmp 55), (.tmp 58)], argTypes := #[45, 3] }) none] [0, 1, 4, 7])
    (.stop (.reg [co (some 60) (.fieldAddr 30 (.tmp 7) 6) none,
      ⟨some 61, (.load 28 (.tmp 60)), none, [], 1, [], true⟩,
      co (some 62) (.move (.tmp 0)) none,
      co (some 63) (.fieldAddr 30 (.tmp 7) 5) none,
      co (some 64) (.load 3 (.tmp 63)) none,
      co (some 65) (.move (.tmp 1)) none,
      ⟨some 66, (.call { callee := (.value (.func 38)), args := #[(.tmp 62), (.tmp 64), (.tmp 65)], argTypes := #[45, 3, 3] }), none, [], 6, [1], false⟩,
      ⟨some 67, (.buildSlice 28 1 #[(0, (.tmp 66))]), none, [], 7, [1], false⟩,
      cn (some 68) (.call { callee := (.builtin .append), args := #[(.tmp 61), (.tmp 67)], argTypes := #[28, 28] }) none [4],
      co (some 69) (.fieldAddr 30 (.tmp 7) 6) none,
      co none (.store 28 (.tmp 69) (.tmp 68)) none] [0, 1, 4, 7])))))
def k1_etext_list : CC :=
  .seq (.reg [co (some 42) (.fieldAddr 25 (.tmp 5) 0) none,
      co (some 43) (.load 3 (.tmp 42)) none,
      co (some 44) (.build 30 #[(0, (.const (.int .i64 3))), (5, (.tmp 43))]) none,
      cn (some 7) (.alloc 30) none [3],
      co none (.store 30 (.tmp 7) (.tmp 44)) none] [0, 1, 4, 7])
  (.seq (.reg [co (some 45) (.move (.tmp 0)) none,
      co (some 46) (.nilCheck (.tmp 45)) none,
      co (some 47) (.fieldAddr 47 (.tmp 46) 1) none,
      co (some 48) (.load 3 (.tmp 47)) none,
      co (some 49) (.binOp .add 3 (.tmp 48) (.const (.int .i64 2)) 3) none,
      co (some 50) (.nilCheck (.tmp 45)) none,
      co (some 51) (.fieldAddr 47 (.tmp 50) 1) none,
      co none (.store 3 (.tmp 51) (.tmp 49)) none] [0, 1, 4, 7])
  (.seq (.block 0
      (.loop l1_etext_list))
  (.keep [0, 4, 7] (.seq (.reg [co (some 70) (.move (.tmp 0)) none,
      co (some 71) (.call { callee := (.value (.func 19)), args := #[(.tmp 70), (.const (.int .u8 93))], argTypes := #[45, 5] }) none] [4, 7])
  (.stop (.seq (.reg [co (some 72) (.load 30 (.tmp 7)) none,
      co none (.store 30 (.tmp 4) (.tmp 72)) none] [4])
  (.ret)))))))
def k2_etext_list : CC :=
  .seq (.reg [co (some 21) (.move (.tmp 0)) none,
      co (some 22) (.nilCheck (.tmp 21)) none,
      co (some 23) (.fieldAddr 47 (.tmp 22) 0) none,
      ⟨some 24, (.load 9 (.tmp 23)), none, [], 3, [], true⟩,
      co (some 25) (.move (.tmp 0)) none,
      co (some 26) (.nilCheck (.tmp 25)) none,
      co (some 27) (.fieldAddr 47 (.tmp 26) 1) none,
      ⟨some 28, (.load 3 (.tmp 27)), none, [], 7, [], true⟩,
      co (some 29) (.move (.tmp 0)) none,
      co (some 30) (.nilCheck (.tmp 29)) none,
      co (some 31) (.fieldAddr 47 (.tmp 30) 1) none,
      ⟨some 32, (.load 3 (.tmp 31)), none, [], 11, [], true⟩,
      co (some 33) (.binOp .add 3 (.tmp 32) (.const (.int .i64 2)) 3) none,
      co (some 34) (.slice 9 (.tmp 24) (some (.tmp 28)) (some (.tmp 33)) none) none,
      co (some 35) (.binOp .add 9 (.tmp 34) (.const (.string { data := #[93] })) 9) none,
      ⟨some 36, (.call { callee := (.value (.func 34)), args := #[(.tmp 35)], argTypes := #[9] }), none, [], 15, [], true⟩,
      co (some 20) (.move (.tmp 36)) none,
      co (some 37) (.extract (.tmp 20) 0) none,
      co (some 38) (.extract (.tmp 20) 1) none,
      ⟨some 5, (.alloc 25), none, [2], 19, [3, 7, 11, 15], false⟩,
      co none (.store 25 (.tmp 5) (.tmp 37)) none,
      co (some 6) (.assign (.tmp 38)) none] [0, 1, 4, 5, 6])
  (.seq (.seq (.reg [co (some 39) (.move (.tmp 6)) none,
        co (some 40) (.binOp .neq 31 (.tmp 39) (.const (.int .i64 0)) 31) none] [0, 1, 4, 5, 40])
    (.cond (.tmp 40)
      (.reg [co (some 41) (.call { callee := (.value (.func 16)), args := #[], argTypes := #[] }) none] [0, 1, 4, 5])
      (.skip)))
  (.keep [0, 1, 4, 5] (.stop k1_etext_list)))
/-- (*cento/etext.reader).list -/
def c_etext_list : CC :=
  .seq (.reg [cn (some 4) (.alloc 30) none [1]] [0, 1, 4])
  (.seq (.seq (.reg [co (some 8) (.move (.tmp 0)) none,
        co (some 9) (.nilCheck (.tmp 8)) none,
        co (some 10) (.fieldAddr 47 (.tmp 9) 1) none,
        co (some 11) (.load 3 (.tmp 10)) none,
        co (some 12) (.binOp .add 3 (.tmp 11) (.const (.int .i64 2)) 3) none,
        co (some 13) (.move (.tmp 0)) none,
        co (some 14) (.nilCheck (.tmp 13)) none,
        co (some 15) (.fieldAddr 47 (.tmp 14) 0) none,
        co (some 16) (.load 9 (.tmp 15)) none,
        co (some 17) (.call { callee := (.builtin .len), args := #[(.tmp 16)], argTypes := #[9] }) none,
        co (some 18) (.binOp .gtr 3 (.tmp 12) (.tmp 17) 3) none] [0, 1, 4, 18])
    (.cond (.tmp 18)
      (.reg [co (some 19) (.call { callee := (.value (.func 16)), args := #[], argTypes := #[] }) none] [0, 1, 4])
      (.skip)))
  (.keep [0, 1, 4] (.stop k2_etext_list)))
theorem t_etext_list : Txt Tryd.prog 21 73 [(.cell 4 30)] c_etext_list := txt_of (code := Tryd.f21.body.getD .ret) mixed (by kernel_rfl) Tryd.func21 (by kernel_rfl) Tryd.ntmps21 (by kernel_rfl) (ls := [([0, 1, 4], [(0, [1])]), ([], []), ([0, 1, 4, 18], []), ([], []), ([0, 1, 4], []), ([999997, 0, 1, 4], []), ([0, 1, 4, 5, 6], [(19, [2])]), ([], []), ([0, 1, 4, 5, 40], []), ([], []), ([0, 1, 4, 5], []), ([999997, 0, 1, 4, 5], []), ([0, 1, 4, 7], [(3, [3])]), ([], []), ([0, 1, 4, 7], []), ([], []), ([0, 1, 4, 7, 54], []), ([], []), ([999999, 0, 1, 4, 7], []), ([0, 1, 4, 7], []), ([999998], []), ([0, 1, 4, 7], [(8, [4])]), ([999999, 0, 4, 7], []), ([4, 7], []), ([999998], []), ([4], []), ([], [])]) (by kernel_rfl)
def k1_etext_rop : CC :=
  .seq (.reg [co (some 16) (.move (.tmp 0)) none,
      co (some 17) (.nilCheck (.tmp 16)) none,
      co (some 18) (.fieldAddr 47 (.tmp 17) 1) none,
      co (some 19) (.load 3 (.tmp 18)) none,
      co (some 20) (.binOp .add 3 (.tmp 19) (.const (.int .i64 1)) 3) none,
      co (some 21) (.nilCheck (.tmp 16)) none,
      co (some 22) (.fieldAddr 47 (.tmp 21) 1) none,
      co none (.store 3 (.tmp 22) (.tmp 20)) none] [0, 1, 2, 6, 7])
  (.seq (.reg [co (some 23) (.move (.tmp 7)) none,
      co (some 24) (.build 41 #[(0, (.tmp 23))]) none,
      cn (some 8) (.alloc 41) none [2],
      co none (.store 41 (.tmp 8) (.tmp 24)) none] [0, 1, 2, 6, 7, 8])
  (.seq (.seq (.reg [co (some 25) (.move (.tmp 7)) none] [0, 1, 2, 6, 8, 25])
    (.block 0
      (.seq (.reg [co (some 37) (.binOp .eql 3 (.tmp 25) (.const (.int .i64 0)) 3) none,
          co (some 36) (.assign (.tmp 37)) none] [0, 1, 2, 6, 8, 25, 36])
      (.cond (.tmp 36)
        (.reg [co (some 38) (.move (.tmp 0)) none,
          co (some 39) (.call { callee := (.value (.func 36)), args := #[(.tmp 38)], argTypes := #[45] }) none,
          co (some 40) (.fieldAddr 41 (.tmp 8) 1) none,
          co none (.store 3 (.tmp 40) (.tmp 39)) none] [6, 8])
        (.seq (.reg [co (some 42) (.binOp .eql 3 (.tmp 25) (.const (.int .i64 3)) 3) none,
            co (some 41) (.assign (.tmp 42)) none] [0, 1, 2, 6, 8, 41])
        (.cond (.tmp 41)
          (.reg [co (some 43) (.move (.tmp 0)) none,
            co (some 44) (.move (.tmp 2)) none,
            co (some 45) (.binOp .sub 3 (.tmp 44) (.const (.int .i64 1)) 3) none,
            co (some 46) (.call { callee := (.value (.func 10)), args := #[(.tmp 43), (.tmp 45)], argTypes := #[45, 3] }) none,
            co (some 47) (.fieldAddr 41 (.tmp 8) 3) none,
            co none (.store 30 (.tmp 47) (.tmp 46)) none] [6, 8])
          (.seq (.reg [co (some 26) (.move (.tmp 0)) none,
              co (some 27) (.call { callee := (.value (.func 18)), args := #[(.tmp 26)], argTypes := #[45] }) none,
              cn (some 9) (.alloc 25) none [3],
              co none (.store 25 (.tmp 9) (.tmp 27)) none] [1, 6, 8, 9])
          (.stop (.seq (.seq (.reg [co (some 28) (.fieldAddr 25 (.tmp 9) 0) none,
                co (some 29) (.load 3 (.tmp 28)) none,
                co (some 30) (.move (.tmp 1)) none,
                co (some 31) (.binOp .neq 3 (.tmp 29) (.tmp 30) 3) none] [6, 8, 9, 31])
            (.cond (.tmp 31)
              (.reg [co (some 32) (.call { callee := (.value (.func 16)), args := #[], argTypes := #[] }) none] [6, 8, 9])
              (.skip)))
          (.keep [6, 8, 9] (.stop (.reg [co (some 33) (.fieldAddr 25 (.tmp 9) 2) none,
            co (some 34) (.load 23 (.tmp 33)) none,
            co (some 35) (.fieldAddr 41 (.tmp 8) 2) none,
            co none (.store 23 (.tmp 35) (.tmp 34)) none] [6, 8]))))))))))))
  (.keep [6, 8] (.stop (.seq (.reg [co (some 48) (.load 41 (.tmp 8)) none,
      co none (.store 41 (.tmp 6) (.tmp 48)) none] [6])
  (.ret))))))
/-- (*cento/etext.reader).op -/
def c_etext_rop : CC :=
  .seq (.reg [cn (some 6) (.alloc 41) none [1]] [0, 1, 2, 6])
  (.seq (.reg [co (some 10) (.move (.tmp 0)) none,
      co (some 11) (.call { callee := (.value (.func 33)), args := #[(.tmp 10)], argTypes := #[45] }) none,
      co (some 12) (.call { callee := (.value (.func 50)), args := #[(.const (.string { data := #[107, 45, 43, 42] })), (.tmp 11)], argTypes := #[9, 5] }) none,
      co (some 7) (.assign (.tmp 12)) none] [0, 1, 2, 6, 7])
  (.seq (.seq (.reg [co (some 13) (.move (.tmp 7)) none,
        co (some 14) (.binOp .lss 3 (.tmp 13) (.const (.int .i64 0)) 3) none] [0, 1, 2, 6, 7, 14])
    (.cond (.tmp 14)
      (.reg [co (some 15) (.call { callee := (.value (.func 16)), args := #[], argTypes := #[] }) none] [0, 1, 2, 6, 7])
      (.skip)))
  (.keep [0, 1, 2, 6, 7] (.stop k1_etext_rop))))
theorem t_etext_rop : Txt Tryd.prog 38 49 [(.cell 6 41)] c_etext_rop := txt_of (code := Tryd.f38.body.getD .ret) mixed (by kernel_rfl) Tryd.func38 (by kernel_rfl) Tryd.ntmps38 (by kernel_rfl) (ls := [([0, 1, 2, 6], [(0, [1])]), ([], []), ([0, 1, 2, 6, 7], []), ([], []), ([0, 1, 2, 6, 7, 14], []), ([], []), ([0, 1, 2, 6, 7], []), ([999997, 0, 1, 2, 6, 7], []), ([0, 1, 2, 6, 7], []), ([], []), ([0, 1, 2, 6, 7, 8], [(2, [2])]), ([], []), ([0, 1, 2, 6, 8, 25], []), ([], []), ([0, 1, 2, 6, 8, 25, 36], []), ([], []), ([6, 8], []), ([0, 1, 2, 6, 8, 41], []), ([], []), ([6, 8], []), ([1, 6, 8, 9], [(2, [3])]), ([999998], []), ([6, 8, 9, 31], []), ([], []), ([6, 8, 9], []), ([999997, 6, 8, 9], []), ([6, 8], []), ([999997, 6, 8], []), ([6], []), ([], [])]) (by kernel_rfl)
/-- cento/etext.Parse -/
def c_etext_Parse : CC :=
  .seq (.reg [cn (some 2) (.alloc 30) none [0],
      co (some 3) (.assign (.const (.int .i64 0))) none] [0, 2])
  (.seq (.reg [co (some 7) (.move (.tmp 0)) none,
      co (some 8) (.call { callee := (.value (.func 6)), args := #[(.tmp 7)], argTypes := #[9] }) none,
      co (some 6) (.move (.tmp 8)) none,
      co (some 9) (.extract (.tmp 6) 0) none,
      co (some 10) (.extract (.tmp 6) 1) none,
      cn (some 4) (.alloc 30) none [1],
      co none (.store 30 (.tmp 4) (.tmp 9)) none,
      co (some 5) (.assign (.tmp 10)) none] [0, 2, 4, 5])
  (.seq (.seq (.reg [co (some 11) (.move (.tmp 5)) none,
        co (some 12) (.unOp .not 4 (.tmp 11)) none,
        co (some 13) (.move (.tmp 12)) none,
        co (some 14) (.load 30 (.tmp 4)) (some (13, false)),
        co (some 15) (.call { callee := (.value (.func 7)), args := #[(.tmp 14)], argTypes := #[30] }) (some (13, false)),
        co (some 16) (.unOp .not 4 (.tmp 15)) (some (13, false)),
        co (some 17) (.pick (.tmp 13) (.const (.bool true)) (.tmp 16)) none,
        co (some 18) (.move (.tmp 17)) none,
        co (some 19) (.load 30 (.tmp 4)) (some (18, false)),
        co (some 20) (.call { callee := (.value (.func 8)), args := #[(.tmp 19)], argTypes := #[30] }) (some (18, false)),
        co (some 21) (.move (.tmp 0)) (some (18, false)),
        co (some 22) (.binOp .neq 9 (.tmp 20) (.tmp 21) 9) (some (18, false)),
        co (some 23) (.pick (.tmp 18) (.const (.bool true)) (.tmp 22)) none] [2, 4, 23])
    (.cond (.tmp 23)
      (.seq (.reg [co (some 24) (.build 30 #[]) none,
          co none (.store 30 (.tmp 2) (.tmp 24)) none,
          co (some 3) (.assign (.const (.int .i64 11))) none] [2, 3])
      (.ret))
      (.skip)))
  (.keep [2, 4] (.seq (.reg [co (some 25) (.load 30 (.tmp 4)) none,
      co none (.store 30 (.tmp 2) (.tmp 25)) none,
      co (some 3) (.assign (.const (.int .i64 0))) none] [2, 3])
  (.ret)))))
theorem t_etext_Parse : Txt Tryd.prog 4 26 [(.cell 2 30), (.tmp 3)] c_etext_Parse := txt_of (code := Tryd.f4.body.getD .ret) mixed (by kernel_rfl) Tryd.func4 (by kernel_rfl) Tryd.ntmps4 (by kernel_rfl) (ls := [([0, 2], [(0, [0])]), ([], []), ([0, 2, 4, 5], [(5, [1])]), ([], []), ([2, 4, 23], []), ([], []), ([2, 3], []), ([], []), ([999999, 2, 4], []), ([2, 3], []), ([], [])]) (by kernel_rfl)
/-- cento/centolaw38.awake -/
def c_centolaw38_awake : CC :=
  .seq (.reg [co (some 0) (.assign (.const (.bool false))) none] [])
  (.seq (.reg [co (some 4) (.call { callee := (.value (.func 4)), args := #[(.const (.string { data := #[108, 121, 91, 107, 50, 44, 45, 121, 91, 53, 93, 44, 43, 121, 91, 54, 44, 55, 93, 93] }))], argTypes := #[9] }) none,
      co (some 3) (.move (.tmp 4)) none,
      co (some 5) (.extract (.tmp 3) 0) none,
      co (some 6) (.extract (.tmp 3) 1) none,
      cn (some 1) (.alloc 30) none [0],
      co none (.store 30 (.tmp 1) (.tmp 5)) none,
      co (some 2) (.assign (.tmp 6)) none] [1, 2])
  (.seq (.reg [co (some 7) (.move (.tmp 2)) none,
      co (some 8) (.binOp .eql 31 (.tmp 7) (.const (.int .i64 0)) 31) none,
      co (some 9) (.move (.tmp 8)) none,
      co (some 10) (.fieldAddr 30 (.tmp 1) 0) (some (9, true)),
      co (some 11) (.load 3 (.tmp 10)) (some (9, true)),
      co (some 12) (.binOp .eql 3 (.tmp 11) (.const (.int .i64 3)) 3) (some (9, true)),
      co (some 13) (.pick (.tmp 9) (.tmp 12) (.const (.bool false))) none,
      co (some 14) (.move (.tmp 13)) none,
      co (some 15) (.fieldAddr 30 (.tmp 1) 5) (some (14, true)),
      co (some 16) (.load 3 (.tmp 15)) (some (14, true)),
      co (some 17) (.binOp .eql 3 (.tmp 16) (.const (.int .i64 4)) 3) (some (14, true)),
      co (some 18) (.pick (.tmp 14) (.tmp 17) (.const (.bool false))) none,
      co (some 19) (.move (.tmp 18)) none,
      co (some 20) (.fieldAddr 30 (.tmp 1) 6) (some (19, true)),
      co (some 21) (.load 28 (.tmp 20)) (some (19, true)),
      co (some 22) (.call { callee := (.builtin .len), args := #[(.tmp 21)], argTypes := #[28] }) (some (19, true)),
      co (some 23) (.binOp .eql 3 (.tmp 22) (.const (.int .i64 3)) 3) (some (19, true)),
      co (some 24) (.pick (.tmp 19) (.tmp 23) (.const (.bool false))) none,
      co (some 25) (.move (.tmp 24)) none,
      co (some 26) (.fieldAddr 30 (.tmp 1) 6) (some (25, true)),
      co (some 27) (.load 28 (.tmp 26)) (some (25, true)),
      co (some 28) (.indexAddr 28 (.tmp 27) (.const (.int .i64 0))) (some (25, true)),
      co (some 29) (.fieldAddr 41 (.tmp 28) 1) (some (25, true)),
      co (some 30) (.load 3 (.tmp 29)) (some (25, true)),
      co (some 31) (.binOp .eql 3 (.tmp 30) (.const (.int .i64 2)) 3) (some (25, true)),
      co (some 32) (.pick (.tmp 25) (.tmp 31) (.const (.bool false))) none,
      co (some 33) (.move (.tmp 32)) none,
      co (some 34) (.fieldAddr 30 (.tmp 1) 6) (some (33, true)),
      co (some 35) (.load 28 (.tmp 34)) (some (33, true)),
      co (some 36) (.indexAddr 28 (.tmp 35) (.const (.int .i64 2))) (some (33, true)),
      co (some 37) (.fieldAddr 41 (.tmp 36) 2) (some (33, true)),
      co (some 38) (.load 23 (.tmp 37)) (some (33, true)),
      co (some 39) (.call { callee := (.builtin .len), args := #[(.tmp 38)], argTypes := #[23] }) (some (33, true)),
      co (some 40) (.binOp .eql 3 (.tmp 39) (.const (.int .i64 2)) 3) (some (33, true)),
      co (some 41) (.pick (.tmp 33) (.tmp 40) (.const (.bool false))) none,
      co (some 42) (.move (.tmp 41)) none,
      co (some 43) (.load 30 (.tmp 1)) (some (42, true)),
      co (some 44) (.call { callee := (.value (.func 8)), args := #[(.tmp 43)], argTypes := #[30] }) (some (42, true)),
      co (some 45) (.binOp .eql 9 (.tmp 44) (.const (.string { data := #[108, 121, 91, 107, 50, 44, 45, 121, 91, 53, 93, 44, 43, 121, 91, 54, 44, 55, 93, 93] })) 9) (some (42, true)),
      co (some 46) (.pick (.tmp 42) (.tmp 45) (.const (.bool false))) none,
      co (some 0) (.assign (.tmp 46)) none] [0])
  (.ret)))
theorem t_centolaw38_awake : Txt Tryd.prog 5 47 [(.tmp 0)] c_centolaw38_awake := txt_of (code := Tryd.f5.body.getD .ret) mixed (by kernel_rfl) Tryd.func5 (by kernel_rfl) Tryd.ntmps5 (by kernel_rfl) (ls := [([], []), ([], []), ([1, 2], [(4, [0])]), ([], []), ([0], []), ([], [])]) (by kernel_rfl)
def l1_centolaw38_EtextDeep : CC :=
  .seq (.seq (.reg [co (some 9) (.move (.tmp 4)) none,
        co (some 10) (.move (.tmp 0)) none,
        co (some 11) (.binOp .lss 3 (.tmp 9) (.tmp 10) 3) none] [0, 3, 4, 11])
    (.cond (.tmp 11)
      (.skip)
      (.exit 0)))
  (.keep [0, 3, 4] (.seq (.block 1
      (.reg [co (some 14) (.move (.tmp 3)) none,
        co (some 15) (.binOp .add 9 (.const (.string { data := #[115, 123, 124, 48, 58] })) (.tmp 14) 9) none,
        co (some 16) (.binOp .add 9 (.tmp 15) (.const (.string { data := #[125] })) 9) none,
        co (some 3) (.assign (.tmp 16)) none] [0, 3, 4]))
  (.reg [co (some 12) (.move (.tmp 4)) none,
    co (some 13) (.binOp .add 3 (.tmp 12) (.const (.int .i64 1)) 3) none,
    co (some 4) (.assign (.tmp 13)) none] [0, 3, 4])))
/-- cento/centolaw38.EtextDeep -/
def c_centolaw38_EtextDeep : CC :=
  .seq (.reg [co (some 2) (.assign (.const (.bool false))) none] [0])
  (.seq (.reg [co (some 7) (.move (.tmp 0)) none,
      co (some 8) (.binOp .and 3 (.tmp 7) (.const (.int .i64 127)) 3) none,
      co (some 0) (.assign (.tmp 8)) none] [0])
  (.seq (.reg [co (some 3) (.assign (.const (.string { data := #[40, 95, 62, 123, 125, 41] }))) none] [0, 3])
  (.seq (.seq (.reg [co (some 4) (.assign (.const (.int .i64 0))) none] [0, 3, 4])
    (.block 0
      (.loop l1_centolaw38_EtextDeep)))
  (.keep [0, 3] (.seq (.reg [co (some 18) (.move (.tmp 3)) none,
      co (some 19) (.call { callee := (.value (.func 4)), args := #[(.tmp 18)], argTypes := #[9] }) none,
      co (some 17) (.move (.tmp 19)) none,
      co (some 20) (.extract (.tmp 17) 0) none,
      co (some 21) (.extract (.tmp 17) 1) none,
      cn (some 5) (.alloc 30) none [0],
      co none (.store 30 (.tmp 5) (.tmp 20)) none,
      co (some 6) (.assign (.tmp 21)) none] [0, 6])
  (.seq (.reg [co (some 22) (.move (.tmp 6)) none,
      co (some 23) (.binOp .eql 31 (.tmp 22) (.const (.int .i64 0)) 31) none,
      co (some 24) (.move (.tmp 0)) none,
      co (some 25) (.binOp .lss 3 (.tmp 24) (.const (.int .i64 64)) 3) none,
      co (some 26) (.binOp .eql 4 (.tmp 23) (.tmp 25) 4) none,
      co (some 27) (.move (.tmp 26)) none,
      co (some 28) (.call { callee := (.value (.func 5)), args := #[], argTypes := #[] }) (some (27, true)),
      co (some 29) (.pick (.tmp 27) (.tmp 28) (.const (.bool false))) none,
      co (some 2) (.assign (.tmp 29)) none] [2])
  (.ret)))))))
theorem t_centolaw38_EtextDeep : Txt Tryd.prog 3 30 [(.tmp 2)] c_centolaw38_EtextDeep := txt_of (code := Tryd.f3.body.getD .ret) mixed (by kernel_rfl) Tryd.func3 (by kernel_rfl) Tryd.ntmps3 (by kernel_rfl) (ls := [([0], []), ([], []), ([0], []), ([], []), ([0, 3], []), ([], []), ([0, 3, 4], []), ([], []), ([0, 3, 4, 11], []), ([], []), ([999999, 0, 3, 4], []), ([0, 3, 4], []), ([], []), ([0, 3, 4], []), ([999999, 0, 3], []), ([0, 6], [(5, [0])]), ([], []), ([2], []), ([], [])]) (by kernel_rfl)
end Go.Proofs.YtebihdhapepejaaDoor
