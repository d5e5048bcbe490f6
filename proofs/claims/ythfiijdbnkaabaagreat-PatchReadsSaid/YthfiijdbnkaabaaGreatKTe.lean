/-
  Texts, merged, without what is not reached.
-/
import Derived.Test.YthfiijdbnkaabaaGreatKTd
namespace Go.Proofs.YthfiijdbnkaabaaGreat
set_option linter.unusedVariables false
set_option linter.unusedSimpArgs false
open Go Go.G Go.Proofs Go.PL
section
variable {n0 : Nat} {w0 : World} {I0 : Nat→Prop} {Q : Exit→Sta→Prop}
theorem seq_l1 {a b : List Int} (hl : a.length = b.length) (hb : a.length * 8≤140737488355328) {H : Hp} : ∀ (m i : Nat),i + m = a.length→a.take i = b.take i→(a = b→∀ q,Q (.exit 0) ⟨lk [(0,uws a),(1,uws b),(12,iv a.length),(13,iv a.length),(14,bv q)],H⟩)→(a ≠ b→Q .ret ⟨lk [(4,bv false)],H⟩) →
    LoopC (cx Tryz.prog w0 I0 n0) l1_slices_Equal_uint64_uint64 Q ⟨lk [(0,uws a),(1,uws b),(12,iv a.length),(13,iv i)],H⟩ := by
  intro m
  induction m with
  | zero =>
    intro i hi ht h1 h2
    have : i = a.length := by omega
    subst this
    rw [List.take_of_length_le (Nat.le_refl _),List.take_of_length_le (by omega)] at ht
    refine loopC_once mixed l1_slices_Equal_uint64_uint64.eq_1 ?_
    simp
    exact h1 ht _
  | succ m ih =>
    intro i hi ht h1 h2
    have hlt : i < a.length := by omega
    have hlt' : i < b.length := by omega
    have ei : IntKind.i64.wrap ((i : Int) + 1) = ((i + 1 : Nat) : Int) := i64_same (by omega) (by omega)
    refine loopC_once mixed l1_slices_Equal_uint64_uint64.eq_1 ?_
    by_cases e : a[i] = b[i]
    · simp [hlt,hlt',e,ei]
      refine ih (i + 1) (by omega) ?_ h1 h2
      rw [List.take_succ_eq_append_getElem hlt,List.take_succ_eq_append_getElem hlt',ht,e]
    · simp [hlt,hlt',e]
      exact h2 fun q => e (by simp [q])
end
theorem sEqual_spec (a b : List Int) (hb : a.length * 8≤140737488355328) : G.Spec Tryz.prog 74 [uws a,uws b] (bv (decide (a = b))) := by
  refine spec_of t_slices_Equal_uint64_uint64 (by simp) fun w0 I0 => ?_
  unfold c_slices_Equal_uint64_uint64
  by_cases hl : a.length = b.length
  · simp [hl]
    have := seq_l1 (n0 := 26) (w0 := w0) (I0 := I0) (a := a) (b := b) (H := lkH []) (Q := InBlock 0 (ThenC (WPC (cx Tryz.prog w0 I0 26) (.keep [] (.seq (.reg [co (some 4) (.assign (.const (.bool true))) none] [4]) .ret)) (RetC Tryz.prog [.tmp 4] (bv (decide (a = b))))) (RetC Tryz.prog [.tmp 4] (bv (decide (a = b)))))) hl hb a.length 0 (by simp) rfl (fun e q => ?_) (fun e => ?_)
    · rw [hl] at this
      simpa using this
    · simp
      exact frz_bool (by simp [e])
    · simp
      exact frz_bool (by simp [e])
  · have hl' : ¬ (a.length : Int) = b.length := by omega
    simp [hl,hl']
    exact frz_bool (by simp; intro e; exact absurd (by rw [e]) hl)
theorem right_getD {u : T} (hr : ∃ d,rightT d u = true) (hw : wfT u) (i : Nat) : (∃ d,rightT d (u.kids.getD i T0) = true)∧wfT (u.kids.getD i T0) := by
  obtain ⟨d,hd⟩ := hr
  obtain ⟨k,w,ks⟩ := u
  by_cases hi' : i < ks.length
  · have e : (T.mk k w ks).kids.getD i T0 = ks[i] := by simp [List.getD_eq_getElem?_getD,hi']
    rw [e]
    exact ⟨⟨_,(rightT_struct hd _ (List.getElem_mem hi')).1⟩,(wfT_iff.1 hw).ks _ (List.getElem_mem hi')⟩
  · have e : (T.mk k w ks).kids.getD i T0 = T0 := by rw [List.getD_eq_getElem?_getD,List.getElem?_eq_none (by simpa using hi')]; rfl
    rw [e]
    exact ⟨⟨0,by rw [rightT_mk]; rfl⟩,wfT_iff.2 ⟨by simp [i64R],by simp,by simp,by simp,by simp⟩⟩
def EqS (t : T) : Prop := ∀ u : T,wfT t→(∃ d,rightT d t = true)→wfT u→(∃ d,rightT d u = true)→G.Spec Tryz.prog 41 [tX t,tX u] (bv (eqT t u))
theorem eqS_kind {t u : T} (h : t.kind ≠ u.kind∨t.kind = 0) : eqT t u = decide (t.kind = u.kind) := by
  rw [Bool.eq_iff_iff,eqT_iff,decide_eq_true_eq]
  constructor
  · intro e; rw [← norm_kind t,e,norm_kind]
  · intro e
    rcases h with h | h
    · exact absurd e h
    · rw [norm_kind0 h,norm_kind0 (by omega)]
theorem pEqual_null {t u : T} (h : t.kind ≠ u.kind∨t.kind = 0) : G.Spec Tryz.prog 41 [tX t,tX u] (bv (eqT t u)) := by
  refine spec_of t_tree_Equal (by simp) fun w0 I0 => ?_
  unfold c_tree_Equal
  rw [eqS_kind h]
  by_cases e : t.kind = u.kind
  · have h0 : u.kind = 0 := by omega
    simp [e,h0]
    exact frz_bare rfl
  · simp [e]
    exact frz_bool (by simp [e])
section
variable {n0 : Nat} {w0 : World} {I0 : Nat→Prop} {Q : Exit→Sta→Prop}
theorem pequal_l1 {t u : T} {n : Nat} (hN : n≤100000000000000) {H : Hp} (h0 : H [0] = ⟨1,.cells (tL t)⟩) (h1 : H [1] = ⟨1,.cells (tL u)⟩)
    (hq : (∀ i,i < n→t.words.getD i 0 = u.words.getD i 0)→∀ (q : Bool),Q (.exit 0) ⟨lk [(2,.pob [0] 1 0),(3,.pob [1] 1 0),(48,iv n),(49,iv n),(50,bv q)],H⟩)
    (hf : (∃ i,t.words.getD i 0 ≠ u.words.getD i 0)→Q .ret ⟨lk [(4,bv false)],H⟩) :
    ∀ (j i : Nat),i + j = n→(∀ i',i' < i→t.words.getD i' 0 = u.words.getD i' 0) →
    LoopC (cx Tryz.prog w0 I0 n0) l1_tree_Equal Q ⟨lk [(2,.pob [0] 1 0),(3,.pob [1] 1 0),(48,iv n),(49,iv i)],H⟩ := by
  intro j
  induction j with
  | zero =>
    intro i hi he
    have : i = n := by omega
    subst this
    refine loopC_once mixed l1_tree_Equal.eq_1 ?_
    simp
    exact hq he _
  | succ j ih =>
    intro i hi he
    have hlt : i < n := by omega
    have ei : IntKind.i64.wrap ((i : Int) + 1) = ((i + 1 : Nat) : Int) := i64_same (by omega) (by omega)
    refine loopC_once mixed l1_tree_Equal.eq_1 ?_
    simp [hlt,h0,h1]
    refine sc_call (treeWord_spec t i) (by simp) ?_
    simp [h0,h1]
    refine sc_call (treeWord_spec u i) (by simp) ?_
    by_cases hw : t.words.getD i 0 = u.words.getD i 0
    · have hw' := hw
      simp only [List.getD_eq_getElem?_getD] at hw'
      simp [hw',ei]
      refine ih (i + 1) (by omega) (fun i' hi' => ?_)
      by_cases e : i' = i
      · rw [e]; exact hw
      · exact he i' (by omega)
    · have hw' := hw
      simp only [List.getD_eq_getElem?_getD] at hw'
      simp [hw']
      exact hf ⟨i,hw⟩
theorem pequal_l2 {t u : T} {n : Nat} (hn : n≤100000000000000) (hw : wfT t) (hr : ∃ d,rightT d t = true) (hwu : wfT u) (hru : ∃ d,rightT d u = true) (hk : ∀ i,i < n→EqS (t.kids.getD i T0)) {H : Hp} (h0 : H [0] = ⟨1,.cells (tL t)⟩) (h1 : H [1] = ⟨1,.cells (tL u)⟩)
    (hq : (∀ i,i < n→norm (t.kids.getD i T0) = norm (u.kids.getD i T0))→∀ (q : Bool),Q (.exit 2) ⟨lk [(2,.pob [0] 1 0),(3,.pob [1] 1 0),(66,iv n),(67,iv n),(68,bv q)],H⟩)
    (hf : (∃ i,norm (t.kids.getD i T0) ≠ norm (u.kids.getD i T0))→Q .ret ⟨lk [(4,bv false)],H⟩) :
    ∀ (j i : Nat),i + j = n→(∀ i',i' < i→norm (t.kids.getD i' T0) = norm (u.kids.getD i' T0)) →
    LoopC (cx Tryz.prog w0 I0 n0) l2_tree_Equal Q ⟨lk [(2,.pob [0] 1 0),(3,.pob [1] 1 0),(66,iv n),(67,iv i)],H⟩ := by
  intro j
  induction j with
  | zero =>
    intro i hi he
    have : i = n := by omega
    subst this
    refine loopC_once mixed l2_tree_Equal.eq_1 ?_
    simp
    exact hq he _
  | succ j ih =>
    intro i hi he
    have hlt : i < n := by omega
    have ei : IntKind.i64.wrap ((i : Int) + 1) = ((i + 1 : Nat) : Int) := i64_same (by omega) (by omega)
    have g1 := right_getD hr hw i
    have g2 := right_getD hru hwu i
    have hrec := hk i hlt (u.kids.getD i T0) g1.2 g1.1 g2.2 g2.1
    refine loopC_once mixed l2_tree_Equal.eq_1 ?_
    simp [hlt,h0,h1]
    refine sc_call (treeKid_spec t i) (by simp) ?_
    simp [h0,h1]
    refine sc_call (treeKid_spec u i) (by simp) ?_
    simp [h0,h1]
    refine sc_call hrec (by simp) ?_
    cases hb : eqT (t.kids.getD i T0) (u.kids.getD i T0) with
    | true =>
      simp [ei]
      refine ih (i + 1) (by omega) (fun i' hi' => ?_)
      by_cases e : i' = i
      · rw [e]; exact eqT_iff.1 hb
      · exact he i' (by omega)
    | false =>
      simp
      exact hf ⟨i,fun e => by rw [eqT_iff.2 e] at hb; cases hb⟩
end
theorem getD_none {α : Type} {l : List α} {i : Nat} {z : α} (h : l.length≤i) : l.getD i z = z := by rw [List.getD_eq_getElem?_getD,List.getElem?_eq_none h]; rfl
set_option maxRecDepth 8000 in
theorem pEqual_all : ∀ t : T,EqS t := by
  refine T.ind fun k w ks ih u hw hr hwu hru => ?_
  have hw' := wfT_iff.1 hw
  have hu' := wfT_iff.1 hwu
  have hwl := hw'.wl
  have hkl := hw'.kl
  have hul := hu'.wl
  have huk := hu'.kl
  simp only [T.words_mk,T.kids_mk] at hwl hkl
  have hk0 : ∀ i,EqS ((T.mk k w ks).kids.getD i T0) := fun i => by
    by_cases hi : i < ks.length
    · have e : (T.mk k w ks).kids.getD i T0 = ks[i] := by simp [List.getD_eq_getElem?_getD,hi]
      rw [e]; exact ih _ (List.getElem_mem hi)
    · have e : (T.mk k w ks).kids.getD i T0 = T0 := getD_none (by simpa using hi)
      rw [e]
      intro u _ _ _ _
      exact pEqual_null (.inr rfl)
  by_cases hkk : k ≠ u.kind∨k = 0
  · exact pEqual_null hkk
  have h1 : k = u.kind := by omega
  have h0 : ¬ u.kind = 0 := by omega
  have hb := eqT_shp (t := .mk k w ks) (u := u) (by obtain ⟨d,hd⟩ := hr; exact shp_right hd) (by obtain ⟨d,hd⟩ := hru; exact shp_right hd)
  simp only [T.kind_mk,T.words_mk,T.kids_mk] at hb hk0
  have yes : (k = 1∨ks.length = u.kids.length)→(∀ i,w.getD i 0 = u.words.getD i 0)→(∀ i,norm (ks.getD i T0) = norm (u.kids.getD i T0))→eqT (.mk k w ks) u = true := fun a b c => hb.2 ⟨h1,a,b,c⟩
  have no : ¬ ((k = 1∨ks.length = u.kids.length)∧(∀ i,w.getD i 0 = u.words.getD i 0)∧(∀ i,norm (ks.getD i T0) = norm (u.kids.getD i T0)))→eqT (.mk k w ks) u = false := fun h => by
    rw [Bool.eq_false_iff]
    intro e
    exact h (hb.1 e).2
  obtain ⟨N,hN⟩ : ∃ N : Nat,N = max w.length u.words.length := ⟨_,rfl⟩
  obtain ⟨M,hM⟩ : ∃ M : Nat,M = max ks.length u.kids.length := ⟨_,rfl⟩
  have eN : max (w.length : Int) (u.words.length : Int) = (N : Int) := by omega
  have eM : max (ks.length : Int) (u.kids.length : Int) = (M : Int) := by omega
  refine spec_of t_tree_Equal (by simp) fun w0 I0 => ?_
  have main : (k = 1∨ks.length = u.kids.length)→WPC (cx Tryz.prog w0 I0 79) k1_tree_Equal (RetC Tryz.prog [.tmp 4] (bv (eqT (.mk k w ks) u))) ⟨lk [(2,.pob [0] 1 0),(3,.pob [1] 1 0)],lkH [([0],⟨1,.cells [iv k,uws w,tKs ks]⟩),([1],⟨1,.cells [iv u.kind,uws u.words,tKs u.kids]⟩)]⟩ := fun hc => by
    rw [k1_tree_Equal.eq_1]
    simp [eN]
    refine pequal_l1 (t := .mk k w ks) (u := u) (by omega) (by simp) (by simp) (fun he q => ?_) (fun hf => ?_) N 0 (by omega) (fun i hi => by omega)
    · have heq : ∀ i,w.getD i 0 = u.words.getD i 0 := fun i => by
        by_cases hi : i < N
        · exact he i hi
        · rw [getD_none (by omega),getD_none (by omega)]
      simp [eM]
      refine pequal_l2 (t := .mk k w ks) (u := u) (by omega) hw hr hwu hru (fun i _ => hk0 i) (by simp) (by simp) (fun he2 q => ?_) (fun hf => ?_) M 0 (by omega) (fun i hi => by omega)
      · simp
        refine frz_bool (yes hc heq fun i => ?_).symm
        by_cases hi : i < M
        · exact he2 i hi
        · rw [getD_none (by omega),getD_none (by omega)]
      · simp
        refine frz_bool (no fun h => ?_).symm
        obtain ⟨i,hi⟩ := hf
        exact hi (h.2.2 i)
    · simp
      refine frz_bool (no fun h => ?_).symm
      obtain ⟨i,hi⟩ := hf
      exact hi (h.2.1 i)
  unfold c_tree_Equal
  by_cases k1 : k = 1
  · have u1 : u.kind = 1 := by omega
    have hm := main (.inl k1)
    rw [u1] at hm
    subst k1
    simp [u1]
    refine sc_call_off rfl ?_
    simp
    exact stop_go hm
  · have u1 : ¬ u.kind = 1 := by omega
    by_cases hl : ks.length = u.kids.length
    · have hl' : (ks.length : Int) = u.kids.length := by omega
      simp [h1,h0,u1,hl']
      refine sc_call_gf rfl (fun _ => sEqual_spec w u.words (by omega)) (fun _ => rfl) rfl ?_
      by_cases hww : w = u.words
      · simp [hww]
        have := main (.inr hl)
        rw [h1,hww] at this
        exact stop_go this
      · simp [hww]
        refine frz_bool ?_
        rw [← h1]
        refine (no fun h => hww ?_).symm
        have hlen : w.length = u.words.length := by
          have a1 := (shp_right (Classical.choose_spec hr))
          have a2 := (shp_right (Classical.choose_spec hru))
          by_cases k10 : k = 10
          · have c1 : w.length = 1 := (a1.a k10).1
            rw [c1,(a2.a (by omega)).1]
          · have c1 : w = [] := a1.o (show k ≠ 0 by omega) k1 k10
            rw [c1,a2.o h0 u1 (by omega)]
        exact (words_same hlen).2 h.2.1
    · have hl' : ¬ (ks.length : Int) = u.kids.length := by omega
      simp [h1,h0,u1,hl,hl']
      refine sc_call_off rfl ?_
      simp
      refine frz_bool ?_
      rw [← h1]
      exact (no fun h => by
        rcases h.1 with h | h
        · exact k1 h
        · exact hl h).symm
theorem ptEqual_spec {t u : T} (hw : wfT t) (hr : ∃ d,rightT d t = true) (hwu : wfT u) (hru : ∃ d,rightT d u = true) : G.Spec Tryz.prog 41 [tX t,tX u] (bv (eqT t u)) := pEqual_all t u hw hr hwu hru
end Go.Proofs.YthfiijdbnkaabaaGreat

namespace Go.Proofs.YthfiijdbnkaabaaGreat
set_option linter.unusedVariables false
set_option linter.unusedSimpArgs false
open Go Go.G Go.Proofs Go.PL
section
variable {n0 : Nat} {w0 : World} {I0 : Nat→Prop} {Q : Exit→Sta→Prop}
theorem tframe_l1 {l : List T} (hl : l.length * 56≤140737488355328) : ∀ (m i a b : Nat) (H : Hp),i + m = l.length →
    (∀ i' q (x y : Nat) H',x = max a (frameW (l.drop i))→y = max b (frameK (l.drop i))→Q (.exit 0) ⟨lk [(4,iv x),(5,iv y),(9,tKs l),(10,iv l.length),(11,iv i'),(12,bv q)],H'⟩) →
    LoopC (cx Tryz.prog w0 I0 n0) l1_tree_Frame Q ⟨lk [(4,iv a),(5,iv b),(9,tKs l),(10,iv l.length),(11,iv i)],H⟩ := by
  intro m
  induction m with
  | zero =>
    intro i a b H hi hq
    have : i = l.length := by omega
    subst this
    refine loopC_once mixed l1_tree_Frame.eq_1 ?_
    simp
    exact hq _ false _ _ _ (by simp [frameW]) (by simp [frameK])
  | succ m ih =>
    intro i a b H hi hq
    have hlt : i < l.length := by omega
    have e : l.drop i = l[i] :: l.drop (i + 1) := List.drop_eq_getElem_cons hlt
    have ei : IntKind.i64.wrap ((i : Int) + 1) = ((i + 1 : Nat) : Int) := i64_same (by omega) (by omega)
    refine loopC_once mixed l1_tree_Frame.eq_1 ?_
    simp [hlt,ei]
    have em : ∀ (x y : Nat),max (x : Int) (y : Int) = ((max x y : Nat) : Int) := fun x y => by omega
    rw [em,em]
    exact ih (i + 1) _ _ _ (by omega) fun i' q x y H' hx hy => hq i' q x y H' (by rw [hx,e,frameW]; omega) (by rw [hy,e,frameK]; omega)
end
theorem tFrame_spec (t : T) (hl : t.kids.length * 56≤140737488355328) : G.Spec Tryz.prog 131 [tX t] (.tup [iv (frameW t.kids),iv (frameK t.kids)]) := by
  refine spec_of t_tree_Frame (by simp) fun w0 I0 => ?_
  unfold c_tree_Frame
  simp
  refine tframe_l1 hl t.kids.length 0 0 0 _ (by omega) fun i' q x y H' hx hy => ?_
  simp
  refine frz_is rfl ?_
  simp [hx,hy]
section
variable {n0 : Nat} {w0 : World} {I0 : Nat→Prop} {Q : Exit→Sta→Prop}
theorem tnorm_l1 {t : T} (hl : t.kids.length * 56≤140737488355328) (ih : ∀ c,c ∈ t.kids→G.Spec Tryz.prog 59 [tX c] (tX (norm c))) {v v0 : VOb} {k w : A} : ∀ (m i : Nat) (u : Nat) (H : Hp),i + m = t.kids.length→H [0] = v0→H [1] = v→H [2] = ⟨1,.cells [k,w,.osl [4] u 3 0 i]⟩→H [4] = ⟨u,.arr 3 ((t.kids.take i).map (tA ∘ norm))⟩ →
    (∀ i' q (u' : Nat) (H' : Hp),H' [0] = v0→H' [1] = v→H' [2] = ⟨1,.cells [k,w,.osl [4] u' 3 0 t.kids.length]⟩→H' [4] = ⟨u',.arr 3 (t.kids.map (tA ∘ norm))⟩→Q (.exit 0) ⟨lk [(1,.pob [0] 1 0),(2,.pob [1] 1 0),(3,.pob [2] 1 0),(17,tKs t.kids),(18,iv t.kids.length),(19,iv i'),(20,bv q)],H'⟩) →
    LoopC (cx Tryz.prog w0 I0 n0) l1_tree_Norm Q ⟨lk [(1,.pob [0] 1 0),(2,.pob [1] 1 0),(3,.pob [2] 1 0),(17,tKs t.kids),(18,iv t.kids.length),(19,iv i)],H⟩ := by
  intro m
  induction m with
  | zero =>
    intro i u H hi hA hR hO hB hq
    have : i = t.kids.length := by omega
    subst this
    refine loopC_once mixed l1_tree_Norm.eq_1 ?_
    simp
    exact hq _ _ u H hA hR hO (by rw [hB]; simp)
  | succ m ihm =>
    intro i u H hi hA hR hO hB hq
    have hlt : i < t.kids.length := by omega
    have ei : IntKind.i64.wrap ((i : Int) + 1) = ((i + 1 : Nat) : Int) := i64_same (by omega) (by omega)
    refine loopC_once mixed l1_tree_Norm.eq_1 ?_
    simp [hlt,updF_app,hO]
    refine sc_call (ih _ (List.getElem_mem hlt)) rfl ?_
    simp [updF_app,hO,hB]
    have hrow := row_succ (f := tA ∘ norm) hlt (x := tX (norm t.kids[i])) (by simp)
    rw [hrow,ei]
    refine ⟨⟨by omega,by omega⟩,?_⟩
    exact ihm (i + 1) (u + 1) _ (by omega) (by simp [updF_app,hA]) (by simp [updF_app,hR]) (by simp [updF_app]) (by simp [updF_app]) hq
theorem tnorm_l2 {w : List Int} (hl : w.length * 8≤140737488355328) {v v4 : VOb} {K : A} : ∀ (n : Nat) (H : Hp),n≤w.length→trimW (w.take n) = trimW w→H [1] = v→H [2] = ⟨1,.cells [iv 1,uws (w.take n),K]⟩→H [4] = v4 →
    (∀ q (H' : Hp),H' [1] = v→H' [2] = ⟨1,.cells [iv 1,uws (trimW w),K]⟩→H' [4] = v4→Q (.exit 2) ⟨lk [(2,.pob [1] 1 0),(3,.pob [2] 1 0),(48,bv q)],H'⟩) →
    LoopC (cx Tryz.prog w0 I0 n0) l2_tree_Norm Q ⟨lk [(2,.pob [1] 1 0),(3,.pob [2] 1 0)],H⟩ := by
  intro n
  induction n with
  | zero =>
    intro H hn ht hR hO hB hq
    refine loopC_once mixed l2_tree_Norm.eq_1 ?_
    simp [hO]
    refine hq _ H hR ?_ hB
    rw [← ht]
    simpa using hO
  | succ n ihn =>
    intro H hn ht hR hO hB hq
    have hlt : n < w.length := by omega
    have en : IntKind.i64.wrap (n : Int) = n := i64_same (by omega) (by omega)
    have emin : min (n + 1) w.length = n + 1 := by omega
    refine loopC_once mixed l2_tree_Norm.eq_1 ?_
    by_cases h0 : w[n] = 0
    · have hnn : (n : Int) < n + 1 := by omega
      have hnn' : (n : Int)≤n + 1 := by omega
      have hs : List.take n (List.take (n + 1) (List.map uv w)) = (w.take n).map uv := by rw [List.take_take,Nat.min_eq_left (by omega),List.map_take]
      simp [hO,emin,en,hlt,h0,hnn,hnn',hs]
      exact ihn _ (by omega) (by rw [← trimW_zero hlt h0]; exact ht) (by simp [updF_app,hR]) (by simp [updF_app]) (by simp [updF_app,hB]) hq
    · have hnn : (n : Int) < n + 1 := by omega
      simp [hO,emin,en,hlt,h0,hnn]
      refine hq _ H hR ?_ hB
      rw [hO,← ht,trimW_stop hlt h0]
theorem tnorm_l3 {l : List T} (hl : l.length * 56≤140737488355328) {v : VOb} {W : A} {u : Nat} : ∀ (n : Nat) (H : Hp),n≤l.length→trimK (l.take n) = trimK l→H [1] = v→H [2] = ⟨1,.cells [iv 1,W,.osl [4] u 3 0 n]⟩→H [4] = ⟨u,.arr 3 (l.map (tA ∘ norm))⟩ →
    (∀ q (H' : Hp),H' [1] = v→H' [2] = ⟨1,.cells [iv 1,W,.osl [4] u 3 0 (trimK l).length]⟩→H' [4] = ⟨u,.arr 3 (l.map (tA ∘ norm))⟩→Q (.exit 4) ⟨lk [(2,.pob [1] 1 0),(3,.pob [2] 1 0),(72,bv q)],H'⟩) →
    LoopC (cx Tryz.prog w0 I0 n0) l3_tree_Norm Q ⟨lk [(2,.pob [1] 1 0),(3,.pob [2] 1 0)],H⟩ := by
  intro n
  induction n with
  | zero =>
    intro H hn ht hR hO hB hq
    refine loopC_once mixed l3_tree_Norm.eq_1 ?_
    simp [hO]
    refine hq _ H hR ?_ hB
    rw [← ht]
    simpa using hO
  | succ n ihn =>
    intro H hn ht hR hO hB hq
    have hlt : n < l.length := by omega
    have en : IntKind.i64.wrap (n : Int) = n := i64_same (by omega) (by omega)
    have hnn : (n : Int) < n + 1 := by omega
    have hnn' : (n : Int)≤n + 1 := by omega
    refine loopC_once mixed l3_tree_Norm.eq_1 ?_
    by_cases h0 : l[n].kind = 0
    · simp [hO,hB,en,hlt,h0,hnn,hnn']
      exact ihn _ (by omega) (by rw [← trimK_zero hlt h0]; exact ht) (by simp [updF_app,hR]) (by simp [updF_app]) (by simp [updF_app,hB]) hq
    · simp [hO,hB,en,hlt,h0,hnn]
      refine hq _ H hR ?_ hB
      rw [hO,← ht,trimK_stop hlt h0]
      simp; omega
end
theorem tNorm_spec : ∀ (t : T),wfT t→G.Spec Tryz.prog 59 [tX t] (tX (norm t)) := by
  refine T.ind fun k w l ih hw => ?_
  have hw' := wfT_iff.1 hw
  have hwl := hw'.wl
  have hkl := hw'.kl
  simp at hwl hkl
  refine spec_of t_tree_Norm (by simp) fun w0 I0 => ?_
  unfold c_tree_Norm
  rw [norm_mk]
  by_cases h0 : k = 0
  · simp [h0]
    exact frz_T0
  · simp [h0]
    refine sc_call (clone_spec false w hwl).spec rfl ?_
    simp
    refine LoopC.le (le_blankC (d := [2]) 2 [4] 3 rfl rfl (by simp)) ?_
    simp
    refine tnorm_l1 (t := .mk k w l) (k := iv k) (w := uws w) (by simpa using hkl) (fun c hc => ih c hc (hw'.ks c hc)) l.length 0 1 _ (by simp) rfl rfl (by simp) (by simp) fun i' q u' H' hA hR hO hB => ?_
    by_cases h1 : k = 1
    · subst h1
      simp at hA hR hO hB
      simp [hA,hR,hO,hB]
      refine LoopC.le (le_list [(2,.pob [1] 1 0),(3,.pob [2] 1 0)] (by simp)) ?_
      refine tnorm_l2 hwl w.length _ (Nat.le_refl _) (by rw [List.take_of_length_le (Nat.le_refl _)]) hR (by rw [hO,List.take_of_length_le (Nat.le_refl _)]) hB fun q H2 hR2 hO2 hB2 => ?_
      simp
      refine tnorm_l3 hkl l.length _ (Nat.le_refl _) (by rw [List.take_of_length_le (Nat.le_refl _)]) hR2 hO2 hB2 fun q H3 hR3 hO3 hB3 => ?_
      simp [hO3,hR3,updF_app]
      refine frz_agg ?_
      simp
      rw [trimK_map]
      refine ⟨frz_bare rfl,frz_bare rfl,?_⟩
      have := frz_rowT (H := updF H3 [1] ⟨1,.cells [iv 1,uws (trimW w),A.osl [4] u' 3 0 (trimK l).length]⟩) (o := [4]) (u := u') (sz := 3) (l := l) (f := tA ∘ norm) (by simp [updF_app,hB3]) (trimK_le l) (by simp)
      rw [← List.map_take]
      show Frz _ _ (A.sl false (((l.take (trimK l).length).map norm).map tA))
      rw [List.map_map]
      exact this
    · simp at hA hR hO hB
      simp [hA,hR,hO,hB,h1,updF_app]
      refine frz_agg ?_
      simp
      refine ⟨frz_bare rfl,frz_bare rfl,?_⟩
      have := frz_row (H := updF H' [1] ⟨1,.cells [iv k,uws w,A.osl [4] u' 3 0 l.length]⟩) (o := [4]) (u := u') (sz := 3) (l := l) (f := tA ∘ norm) (by simp [updF_app,hB]) rfl (by simp)
      show Frz _ _ (A.sl false ((l.map norm).map tA))
      rw [List.map_map]
      exact this
section
variable {n0 : Nat} {w0 : World} {I0 : Nat→Prop} {Q : Exit→Sta→Prop}
theorem tsize_l1 {l : List T} (hl : l.length * 56≤140737488355328) (ih : ∀ c,c ∈ l→G.Spec Tryz.prog 94 [tX c] (iv (i64w (sizeP c)))) : ∀ (m i : Nat) (x y : Int) (H : Hp),i + m = l.length→y = i64w x →
    (∀ i' q H',Q (.exit 1) ⟨lk [(3,iv (i64w (x + sizePC (l.drop i)))),(57,tKs l),(58,iv l.length),(59,iv i'),(60,bv q)],H'⟩) →
    LoopC (cx Tryz.prog w0 I0 n0) l1_tree_size Q ⟨lk [(3,iv y),(57,tKs l),(58,iv l.length),(59,iv i)],H⟩ := by
  intro m
  induction m with
  | zero =>
    intro i x y H hi hy hq
    have : i = l.length := by omega
    subst this hy
    refine loopC_once mixed l1_tree_size.eq_1 ?_
    simp
    simpa using hq l.length false H
  | succ m ihm =>
    intro i x y H hi hy hq
    subst hy
    have hlt : i < l.length := by omega
    have e : l.drop i = l[i] :: l.drop (i + 1) := List.drop_eq_getElem_cons hlt
    have ei : IntKind.i64.wrap ((i : Int) + 1) = ((i + 1 : Nat) : Int) := i64_same (by omega) (by omega)
    refine loopC_once mixed l1_tree_size.eq_1 ?_
    simp [hlt,updF_app]
    refine sc_call (ih _ (List.getElem_mem hlt)) rfl ?_
    simp [ei,updF_app,i64_add_l,i64_add_r,i64_sub_l]
    refine ihm (i + 1) (x + (sizeP l[i] - l[i].words.length - l[i].kids.length)) _ _ (by omega) rfl fun i' q H' => ?_
    have := hq i' q H'
    rw [e,sizePC_cons,← Int.add_assoc] at this
    exact this
theorem tsize_l2 {l : List T} (hl : l.length * 56≤140737488355328) (ih : ∀ c,c ∈ l→G.Spec Tryz.prog 94 [tX c] (iv (i64w (sizeP c)))) : ∀ (m i : Nat) (x y : Int) (H : Hp),i + m = l.length→y = i64w x →
    (∀ i' q H',Q (.exit 3) ⟨lk [(3,iv (i64w (x + sizePL (l.drop i)))),(78,tKs l),(79,iv l.length),(80,iv i'),(81,bv q)],H'⟩) →
    LoopC (cx Tryz.prog w0 I0 n0) l2_tree_size Q ⟨lk [(3,iv y),(78,tKs l),(79,iv l.length),(80,iv i)],H⟩ := by
  intro m
  induction m with
  | zero =>
    intro i x y H hi hy hq
    have : i = l.length := by omega
    subst this hy
    refine loopC_once mixed l2_tree_size.eq_1 ?_
    simp
    simpa using hq l.length false H
  | succ m ihm =>
    intro i x y H hi hy hq
    subst hy
    have hlt : i < l.length := by omega
    have e : l.drop i = l[i] :: l.drop (i + 1) := List.drop_eq_getElem_cons hlt
    have ei : IntKind.i64.wrap ((i : Int) + 1) = ((i + 1 : Nat) : Int) := i64_same (by omega) (by omega)
    refine loopC_once mixed l2_tree_size.eq_1 ?_
    simp [hlt,updF_app]
    refine sc_call (ih _ (List.getElem_mem hlt)) rfl ?_
    simp [ei,i64_add_l,i64_add_r]
    refine ihm (i + 1) (x + sizeP l[i]) _ _ (by omega) rfl fun i' q H' => ?_
    have := hq i' q H'
    rw [e,sizePL_cons,← Int.add_assoc] at this
    exact this
end
set_option maxRecDepth 8000 in
theorem tsize_spec : ∀ (t : T),wfT t→G.Spec Tryz.prog 94 [tX t] (iv (i64w (sizeP t))) := by
  refine T.ind fun k w l ih hw => ?_
  have hw' := wfT_iff.1 hw
  have hwl := hw'.wl
  have hkl := hw'.kl
  simp at hwl hkl
  have ih1 : ∀ c,c ∈ l→G.Spec Tryz.prog 94 [tX c] (iv (i64w (sizeP c))) := fun c hc => ih c hc (hw'.ks c hc)
  refine spec_of t_tree_size (by simp) fun w0 I0 => ?_
  unfold c_tree_size
  rw [sizeP_mk]
  have fin : ∀ (x y : Int) (H : Hp) (r : Int),y = i64w x→H [0] = ⟨1,.cells [iv k,uws w,tKs l]⟩→r = x + sizePL l→WPC (cx Tryz.prog w0 I0 90) k1_tree_size (RetC Tryz.prog [.tmp 2] (iv (i64w r))) ⟨lk [(1,.pob [0] 1 0),(3,iv y)],H⟩ := fun x y H r hy hH hr => by
    subst hy
    rw [k1_tree_size.eq_1]
    simp [hH]
    refine tsize_l2 hkl ih1 l.length 0 x _ _ (by simp) rfl fun i' q H' => ?_
    simp [hr]
    exact frz_bare rfl
  have room : 2≤k∧k≤7→i64w (roomZ (k - 2) l.length) = roomZ (k - 2) l.length := fun hk => by
    have : 0≤roomZ (k - 2) l.length∧roomZ (k - 2) l.length≤1099511627776 := by
      unfold roomZ bitsZ
      repeat' split
      all_goals omega
    exact i64_same (by omega) (by omega)
  by_cases h1 : k = 1
  · simp [h1]
    exact fin _ _ _ _ rfl (by simp [h1]) rfl
  by_cases h8 : k = 8
  · simp [h8]
    exact fin _ _ _ _ (i64_same (by omega) (by omega)).symm (by simp [h8]) rfl
  rw [if_neg h1,if_neg h8]
  by_cases h27 : 2≤k∧k≤7
  · have hd : isData k = true := by simp [isData,h27]
    have e2 : IntKind.i64.wrap (k - 2) = k - 2 := i64_same (by omega) (by omega)
    simp [h1,h8]
    refine sc_call (data_spec k) rfl ?_
    simp [hd,e2]
    refine sc_call (room_spec' _ _) rfl ?_
    simp
    rw [if_pos h27,room h27]
    exact frz_bare rfl
  · have hd : isData k = false := by simp [isData]; omega
    simp [h1,h8]
    refine sc_call (data_spec k) rfl ?_
    rw [if_neg h27]
    by_cases h9 : k = 9
    · subst h9
      simp [hd]
      refine sc_call (tFrame_spec (.mk 9 w l) (by simpa using hkl)) rfl ?_
      simp [i64_add_r,i64_mul_r]
      refine tsize_l1 hkl ih1 l.length 0 _ _ _ (by simp) rfl fun i' q H' => ?_
      simp
      exact frz_bare rfl
    · simp [hd,h9]
      exact fin 0 _ _ _ (by decide) (by simp) (by simp)
theorem tSize_spec (t : T) (h : wfT t) : G.Spec Tryz.prog 60 [tX t] (iv (i64w (sizeP (norm t)))) := by
  refine spec_of t_tree_Size (by simp) fun w0 I0 => ?_
  unfold c_tree_Size
  simp
  refine sc_call (tNorm_spec t h) rfl ?_
  simp
  refine sc_call (tsize_spec (norm t) (wf_norm t h)) rfl ?_
  simp
  exact frz_bare rfl
end Go.Proofs.YthfiijdbnkaabaaGreat

namespace Go.Proofs.YthfiijdbnkaabaaGreat
set_option linter.unusedVariables false
set_option linter.unusedSimpArgs false
open Go Go.G Go.Proofs Go.PL
theorem none_spec (t : T) (hw : t.words.length * 8≤140737488355328) (hk : t.kids.length * 56≤140737488355328) : G.Spec Tryz.prog 49 [tX t] (bv (noneT t)) := by
  refine spec_of t_centoref20_none (by simp) fun w0 I0 => ?_
  unfold c_centoref20_none
  simp
  have e : IntKind.i64.wrap ((t.words.length : Int) + t.kids.length) = (t.words.length : Int) + t.kids.length := i64_same (by omega) (by omega)
  simp [e]
  refine frz_bool ?_
  rw [Bool.eq_iff_iff]
  simp [noneT,List.isEmpty_iff,← List.length_eq_zero_iff]
  omega
theorem none_spec' {t : T} (h : wfT t) : G.Spec Tryz.prog 49 [tX t] (bv (noneT t)) := none_spec t (wfT_iff.1 h).wl (wfT_iff.1 h).kl
theorem bytesN_get : ∀ (m : Nat) (x : Int) (i : Nat),i < m→(bytesN m x).getD i 0 = x / 256 ^ i % 256
  | m + 1,x,0,_ => by simp [bytesN]
  | m + 1,x,i + 1,h => by
    have := bytesN_get m (x / 256) i (by omega)
    simp only [bytesN,List.getD_cons_succ,this]
    rw [Int.ediv_ediv_of_nonneg (by decide),← Int.pow_succ']
theorem ofZ_zero : ∀ (l : List Int),(∀ b,b ∈ l→0≤b∧b < 256)→(ofZ l = 0 ↔ ∀ b,b ∈ l→b = 0)
  | [],_ => by simp [ofZ]
  | b :: l,h => by
    have h1 := h b (by simp)
    have h2 := ofZ_range l fun x hx => h x (by simp [hx])
    have ih := ofZ_zero l fun x hx => h x (by simp [hx])
    simp only [ofZ,List.mem_cons,forall_eq_or_imp,← ih]
    omega
theorem mix_zero (w mask : Int) : decide (mixZ w 0 mask = 0) = withinZ w mask := by
  rw [Bool.eq_iff_iff]
  unfold mixZ
  rw [decide_eq_true_eq,ofZ_zero _ mixL_range]
  have e : mixL (bytesZ w) (bytesZ 0) mask 8 = (List.range 8).map fun i => if namedZ mask i = true then (bytesZ 0).getD i 0 else (bytesZ w).getD i 0 := by
    unfold mixL
    rw [List.drop_of_length_le (by rw [bytesZ_length]; omega),List.append_nil]
  rw [e]
  simp only [withinZ,List.all_eq_true,List.mem_map,List.mem_range,Bool.or_eq_true,decide_eq_true_eq]
  have hz : ∀ i,i < 8→(bytesZ 0).getD i 0 = 0 := fun i hi => by
    unfold bytesZ
    rw [bytesN_get 8 0 i hi]; simp
  constructor
  · intro h i hi
    by_cases hn : namedZ mask i = true
    · left; simpa [namedZ] using hn
    · right
      have := h _ ⟨i,hi,rfl⟩
      rw [if_neg hn] at this
      unfold bytesZ at this
      rwa [bytesN_get 8 w i hi] at this
  · rintro h b ⟨i,hi,rfl⟩
    by_cases hn : namedZ mask i = true
    · rw [if_pos hn]; exact hz i hi
    · rw [if_neg hn]
      rcases h i hi with h | h
      · exact absurd (by simpa [namedZ] using h) hn
      · unfold bytesZ
        rw [bytesN_get 8 w i hi]; exact h
theorem within_spec' {w mask : Int} (h : u64R w) (h0 : 0≤mask) (h1 : mask < 256) : G.Spec Tryz.prog 50 [uv w,u8 mask] (bv (withinZ w mask)) := by
  refine spec_of t_centoref20_within (by simp) fun w0 I0 => ?_
  unfold c_centoref20_within
  simp
  refine sc_call (rMix_spec h ⟨by omega,by omega⟩ h0 h1) rfl ?_
  simp
  exact frz_bool (mix_zero w mask)
set_option maxRecDepth 8000 in
theorem same_spec {e : E} (h : WfE e) : G.Spec Tryz.prog 79 [eX e] (bv (sameE e)) := by
  have hwl := h.wl
  have hkl := h.kl
  have hol := h.ol
  refine spec_of t_centoref20_same (by simp) fun w0 I0 => ?_
  unfold c_centoref20_same
  simp
  refine sc_call_gt rfl (fun _ => none_spec' h.o) (fun e => by simp [e]) rfl ?_
  simp
  refine sc_call_gt rfl (fun _ => none_spec' h.n) (fun e => by simp at e; simp [e]) rfl ?_
  have e1 : IntKind.i64.wrap ((e.words.length : Int) + e.kids.length) = (e.words.length : Int) + e.kids.length := i64_same (by omega) (by omega)
  have e2 : IntKind.i64.wrap ((e.words.length : Int) + e.kids.length + e.ops.length) = (e.words.length : Int) + e.kids.length + e.ops.length := i64_same (by omega) (by omega)
  simp [e1,e2]
  refine frz_bool ?_
  rw [Bool.eq_iff_iff]
  simp [sameE,List.isEmpty_iff,← List.length_eq_zero_iff]
  omega
theorem sat_range {n : Int} (h : 0≤n) : 0≤sat n∧sat n≤1048576 := by unfold sat; split <;> omega
section
variable {n0 : Nat} {w0 : World} {I0 : Nat→Prop} {Q : Exit→Sta→Prop}
theorem len_k1 {Q' : Exit→Sta→Prop} {p i : A} {x y : Int} {H : Hp} (h : ∀ l,Q' .normal ⟨lk ((1,p) :: (4,iv (sat x)) :: (5,iv (sat y)) :: (6,i) :: l),H⟩) : WPC (cx Tryz.prog w0 I0 n0) k1_centoref20_Lengths Q' ⟨lk [(1,p),(4,iv x),(5,iv y),(6,i)],H⟩ := by
  rw [k1_centoref20_Lengths.eq_1]
  have h0 := h []
  have h1 := h [(45,bv false)]
  by_cases hx : 1048576 < x <;> by_cases hy : 1048576 < y <;> simp [hx,hy] <;> first
    | (simpa [sat,hx,hy] using h0)
    | (simpa [sat,hx,hy] using h1)
theorem len_k3 {Q' : Exit→Sta→Prop} {p i : A} {a b z : Int} {H : Hp} {o : OP} {u : Nat} (hz : z = opLen o) (a0 : 0≤a) (a1 : a≤1048576) (b0 : 0≤b) (b1 : b≤1048576) (z0 : 0≤z) (z1 : z < 100000000000000) (hO : H [1] = ⟨u,.cells (iv o.kind :: iv o.n :: tKs o.l :: eL o.e)⟩)
    (h : ∀ l,Q' .normal ⟨lk ((1,p) :: (4,iv (sat (if o.kind ≠ 2 then a + opLen o else a))) :: (5,iv (sat (if o.kind ≠ 1 then b + opLen o else b))) :: (6,i) :: l),H⟩) : WPC (cx Tryz.prog w0 I0 n0) k3_centoref20_Lengths Q' ⟨lk [(1,p),(4,iv a),(5,iv b),(6,i),(7,.pob [1] u 0),(8,iv z)],H⟩ := by
  subst hz
  rw [k3_centoref20_Lengths.eq_1]
  have ea : IntKind.i64.wrap (a + opLen o) = a + opLen o := i64_same (by omega) (by omega)
  have eb : IntKind.i64.wrap (b + opLen o) = b + opLen o := i64_same (by omega) (by omega)
  by_cases h2 : o.kind = 2
  · simp [hO,h2]
    rw [k2_centoref20_Lengths.eq_1]
    simp [hO,h2,eb]
    refine len_k1 fun l => ?_
    simpa [h2] using h l
  · by_cases h1 : o.kind = 1
    · simp [hO,h1,ea]
      rw [k2_centoref20_Lengths.eq_1]
      simp [hO,h1]
      refine len_k1 fun l => ?_
      simpa [h1] using h l
    · simp [hO,h2,ea]
      rw [k2_centoref20_Lengths.eq_1]
      simp [hO,h1,eb]
      refine len_k1 fun l => ?_
      simpa [h1,h2] using h l
theorem lengths_l1 {e : E} (hl : e.ops.length * 240≤140737488355328) (ho : ∀ x,x ∈ e.ops→0≤x.n∧x.n≤1048576∧x.l.length * 56≤140737488355328) : ∀ (m i : Nat) (a b : Int) (H : Hp),i + m = e.ops.length→H [0] = ⟨1,.cells (eL e)⟩→0≤a→a≤1048576→0≤b→b≤1048576 →
    (∀ i' q H',Q (.exit 0) ⟨lk [(1,.pob [0] 1 0),(4,iv (lengths a b (e.ops.drop i)).1),(5,iv (lengths a b (e.ops.drop i)).2),(6,iv i'),(13,bv q)],H'⟩) →
    LoopC (cx Tryz.prog w0 I0 n0) l1_centoref20_Lengths Q ⟨lk [(1,.pob [0] 1 0),(4,iv a),(5,iv b),(6,iv i)],H⟩ := by
  intro m
  induction m with
  | zero =>
    intro i a b H hi hA a0 a1 b0 b1 hq
    have : i = e.ops.length := by omega
    subst this
    refine loopC_once mixed l1_centoref20_Lengths.eq_1 ?_
    simp [hA]
    simpa [lengths] using hq e.ops.length false H
  | succ m ih =>
    intro i a b H hi hA a0 a1 b0 b1 hq
    have hlt : i < e.ops.length := by omega
    have ed : e.ops.drop i = e.ops[i] :: e.ops.drop (i + 1) := List.drop_eq_getElem_cons hlt
    have ei : IntKind.i64.wrap ((i : Int) + 1) = ((i + 1 : Nat) : Int) := i64_same (by omega) (by omega)
    obtain ⟨n1,n2,n3⟩ := ho _ (List.getElem_mem hlt)
    rw [ed] at hq
    generalize ho' : e.ops[i] = o at *
    have h0 : 0≤opLen o∧opLen o < 100000000000000 := by unfold opLen; split <;> omega
    have next : ∀ (a' b' : Int) H',H' [0] = ⟨1,.cells (eL e)⟩→a' = sat (if o.kind ≠ 2 then a + opLen o else a)→b' = sat (if o.kind ≠ 1 then b + opLen o else b)→LoopC (cx Tryz.prog w0 I0 n0) l1_centoref20_Lengths Q ⟨lk [(1,.pob [0] 1 0),(4,iv a'),(5,iv b'),(6,iv ((i + 1 : Nat) : Int))],H'⟩ := fun a' b' H' hA' ha hb => by
      have s1 := sat_range (n := if o.kind ≠ 2 then a + opLen o else a) (by split <;> omega)
      have s2 := sat_range (n := if o.kind ≠ 1 then b + opLen o else b) (by split <;> omega)
      refine ih (i + 1) a' b' H' (by omega) hA' (by omega) (by omega) (by omega) (by omega) fun i' q H2 => ?_
      have := hq i' q H2
      rw [lengths,← ha,← hb] at this
      exact this
    refine loopC_once mixed l1_centoref20_Lengths.eq_1 ?_
    have e1 : IntKind.i64.wrap (o.n + (o.l.length : Int)) = o.n + o.l.length := i64_same (by omega) (by omega)
    simp [hlt,hA,ho',updF_app,e1]
    refine ⟨fun h3 => ?_,fun h3 => ?_⟩
    · refine len_k3 (o := o) (u := (H [1]).u + 1) (z := 1) (by simp [opLen,h3]) (by omega) (by omega) (by omega) (by omega) (by omega) (by omega) (by simp [updF_app]) fun l => ?_
      simp [ei]
      exact next _ _ _ (by simp [updF_app,hA]) (by simp) (by simp)
    · refine len_k3 (o := o) (u := (H [1]).u + 1) (z := o.n + o.l.length) (by simp [opLen,h3]) (by omega) (by omega) (by omega) (by omega) (by omega) (by omega) (by simp [updF_app]) fun l => ?_
      simp [ei]
      exact next _ _ _ (by simp [updF_app,hA]) (by simp) (by simp)
end
theorem rLengths_spec {e : E} (hl : e.ops.length * 240≤140737488355328) (ho : ∀ x,x ∈ e.ops→0≤x.n∧x.n≤1048576∧x.l.length * 56≤140737488355328) : G.Spec Tryz.prog 52 [eX e] (.tup [iv (lengths 0 0 e.ops).1,iv (lengths 0 0 e.ops).2]) := by
  refine spec_of t_centoref20_Lengths (by simp) fun w0 I0 => ?_
  unfold c_centoref20_Lengths
  simp
  refine lengths_l1 hl ho e.ops.length 0 0 0 _ (by omega) (by simp) (by omega) (by omega) (by omega) (by omega) fun i' q H' => ?_
  simp
  exact frz_bare rfl
section
variable {n0 : Nat} {w0 : World} {I0 : Nat→Prop} {Q : Exit→Sta→Prop}
abbrev LeftS (e : E) : Prop := ∀ (d : Nat) (n : Int),d≤1000→0≤n→n≤1000000→G.Spec Tryz.prog 48 [eX e,iv d,iv n] (iv (leftE d n e))
mutual
theorem leftE_range : ∀ (e : E) (d : Nat) (n : Int),-1≤leftE d n e∧(-1≤n→leftE d n e≤n)
  | .mk k o nn ws ks l os,d,n => by
    rw [leftE_mk]
    split
    · omega
    · rw [left2_eq]
      have h1 := shallow_range o 80 (n - 1 - ws.length - os.length)
      have h2 := shallow_range nn 80 (shallow 80 (n - 1 - ws.length - os.length) o)
      have h3 : -1≤(if shallow 80 (n - 1 - ws.length - os.length) o < 0 then shallow 80 (n - 1 - ws.length - os.length) o else shallow 80 (shallow 80 (n - 1 - ws.length - os.length) o) nn)∧(if shallow 80 (n - 1 - ws.length - os.length) o < 0 then shallow 80 (n - 1 - ws.length - os.length) o else shallow 80 (shallow 80 (n - 1 - ws.length - os.length) o) nn)≤n := by split <;> omega
      generalize (if shallow 80 (n - 1 - ws.length - os.length) o < 0 then shallow 80 (n - 1 - ws.length - os.length) o else shallow 80 (shallow 80 (n - 1 - ws.length - os.length) o) nn) = x at h3
      have h4 := leftKs_range ks (d - 1) x h3.1
      have h5 := leftOs_range os (d - 1) (leftKs (d - 1) x ks) h4.1
      omega
theorem leftKs_range : ∀ (l : List KE) (d : Nat) (n : Int),-1≤n→-1≤leftKs d n l∧leftKs d n l≤n
  | [],d,n,h => by simp; omega
  | .mk a e :: l,d,n,h => by
    rw [leftKs_cons]
    split
    · omega
    · have h1 := leftE_range e d n
      have h2 := leftKs_range l d (leftE d n e) h1.1
      simp only [KE.e_mk]
      omega
theorem leftOs_range : ∀ (l : List OP) (d : Nat) (n : Int),-1≤n→-1≤leftOs d n l∧leftOs d n l≤n
  | [],d,n,h => by simp; omega
  | .mk k m t e :: l,d,n,h => by
    rw [leftOs_cons]
    split
    · omega
    · simp only [OP.e_mk,OP.l_mk]
      have h0 := shallowL_range t 80 n h
      have h1 := leftE_range e d (shallowL 80 n t)
      have h3 : -1≤(if shallowL 80 n t < 0 then shallowL 80 n t else leftE d (shallowL 80 n t) e)∧(if shallowL 80 n t < 0 then shallowL 80 n t else leftE d (shallowL 80 n t) e)≤n := by split <;> omega
      have h2 := leftOs_range l d _ h3.1
      exact ⟨h2.1,Int.le_trans h2.2 h3.2⟩
end
theorem leftKs_neg (l : List KE) (d : Nat) {n : Int} (h : n < 0) : leftKs d n l = n := by cases l <;> simp [h]
theorem leftOs_neg (l : List OP) (d : Nat) {n : Int} (h : n < 0) : leftOs d n l = n := by cases l <;> simp [h]
theorem left_l1 {e : E} {d : Nat} (hd : 1≤d) (hd1 : d≤1000) (hl : e.kids.length * 208≤140737488355328) (ih : ∀ c,c ∈ e.kids→LeftS c.e)
    {H : Hp} (hH : H [0] = ⟨1,.cells (eL e)⟩) : ∀ (m i : Nat) (n : Int),i + m = e.kids.length→-1≤n→n≤1000000 →
    (∀ i' q,Q (.exit 0) ⟨lk [(1,iv d),(2,iv (leftKs (d - 1) n (e.kids.drop i))),(3,.pob [0] 1 0),(7,iv i'),(44,bv q)],H⟩) →
    LoopC (cx Tryz.prog w0 I0 n0) l1_centoref20_left Q ⟨lk [(1,iv d),(2,iv n),(3,.pob [0] 1 0),(7,iv i)],H⟩ := by
  intro m
  induction m with
  | zero =>
    intro i n hi h1 h2 hq
    have : i = e.kids.length := by omega
    subst this
    refine loopC_once mixed l1_centoref20_left.eq_1 ?_
    simp [hH]
    simpa using hq _ false
  | succ m ihm =>
    intro i n hi h1 h2 hq
    have hlt : i < e.kids.length := by omega
    refine loopC_once mixed l1_centoref20_left.eq_1 ?_
    have ed : e.kids.drop i = e.kids[i] :: e.kids.drop (i + 1) := List.drop_eq_getElem_cons hlt
    by_cases hn : n < 0
    · simp [hH,hlt,show ¬ (0 : Int)≤n by omega]
      have := hq i false
      rwa [leftKs_neg _ _ hn] at this
    · have hn' : 0≤n := by omega
      simp [hH,hlt,hn']
      have edd : IntKind.i64.wrap ((d : Int) - 1) = ((d - 1 : Nat) : Int) := by rw [i64_same (by omega) (by omega)]; omega
      rw [edd]
      refine sc_call (ih _ (List.getElem_mem hlt) (d - 1) n (by omega) hn' h2) rfl ?_
      simp
      have hr := leftE_range e.kids[i].e (d - 1) n
      rw [i64_same (by omega) (by omega)]
      refine ihm (i + 1) _ (by omega) hr.1 (by omega) fun i' q => ?_
      have := hq i' q
      rw [ed,leftKs_cons,if_neg (by omega)] at this
      exact this
theorem left_l2 {e : E} {d : Nat} {i : Nat} (hi : i < e.ops.length) (hl : e.ops[i].l.length * 56≤140737488355328) (hw : ∀ t,t ∈ e.ops[i].l→wfT t)
    {H : Hp} (hH : H [0] = ⟨1,.cells (eL e)⟩) : ∀ (m j : Nat) (n : Int),j + m = e.ops[i].l.length→-1≤n→n≤1000000 →
    (∀ i' q,Q (.exit 4) ⟨lk [(1,iv d),(2,iv (shallowL 80 n (e.ops[i].l.drop j))),(3,.pob [0] 1 0),(8,iv i),(9,iv i'),(80,bv q)],H⟩) →
    LoopC (cx Tryz.prog w0 I0 n0) l2_centoref20_left Q ⟨lk [(1,iv d),(2,iv n),(3,.pob [0] 1 0),(8,iv i),(9,iv j)],H⟩ := by
  intro m
  induction m with
  | zero =>
    intro j n hj h1 h2 hq
    have : j = e.ops[i].l.length := by omega
    subst this
    refine loopC_once mixed l2_centoref20_left.eq_1 ?_
    simp [hH,hi]
    simpa using hq _ false
  | succ m ihm =>
    intro j n hj h1 h2 hq
    have hlt : j < e.ops[i].l.length := by omega
    refine loopC_once mixed l2_centoref20_left.eq_1 ?_
    have ed : e.ops[i].l.drop j = e.ops[i].l[j] :: e.ops[i].l.drop (j + 1) := List.drop_eq_getElem_cons hlt
    by_cases hn : n < 0
    · simp [hH,hi,hlt,show ¬ (0 : Int)≤n by omega]
      have := hq j false
      rwa [shallowL_neg _ _ hn] at this
    · have hn' : 0≤n := by omega
      simp [hH,hi,hlt,hn']
      refine sc_call (shallow_spec _ (hw _ (List.getElem_mem hlt)) 80 n (by omega) hn' h2) rfl ?_
      simp
      have hr := shallow_range e.ops[i].l[j] 80 n
      rw [i64_same (by omega) (by omega)]
      refine ihm (j + 1) _ (by omega) hr.1 (by omega) fun i' q => ?_
      have := hq i' q
      rw [ed,shallowL_cons,if_neg (by omega)] at this
      exact this
theorem left_l3 {e : E} {d : Nat} (hd : 1≤d) (hd1 : d≤1000) (hl : e.ops.length * 240≤140737488355328) (hw : ∀ x,x ∈ e.ops→WfO x) (ih : ∀ c,c ∈ e.ops→LeftS c.e)
    {H : Hp} (hH : H [0] = ⟨1,.cells (eL e)⟩) : ∀ (m i : Nat) (n : Int),i + m = e.ops.length→-1≤n→n≤1000000 →
    (∀ i' q,Q (.exit 2) ⟨lk [(1,iv d),(2,iv (leftOs (d - 1) n (e.ops.drop i))),(3,.pob [0] 1 0),(8,iv i'),(65,bv q)],H⟩) →
    LoopC (cx Tryz.prog w0 I0 n0) l3_centoref20_left Q ⟨lk [(1,iv d),(2,iv n),(3,.pob [0] 1 0),(8,iv i)],H⟩ := by
  intro m
  induction m with
  | zero =>
    intro i n hi h1 h2 hq
    have : i = e.ops.length := by omega
    subst this
    refine loopC_once mixed l3_centoref20_left.eq_1 ?_
    simp [hH]
    simpa using hq _ false
  | succ m ihm =>
    intro i n hi h1 h2 hq
    have hlt : i < e.ops.length := by omega
    refine loopC_once mixed l3_centoref20_left.eq_1 ?_
    have ed : e.ops.drop i = e.ops[i] :: e.ops.drop (i + 1) := List.drop_eq_getElem_cons hlt
    have hwo := hw _ (List.getElem_mem hlt)
    by_cases hn : n < 0
    · simp [hH,hlt,show ¬ (0 : Int)≤n by omega]
      have := hq i false
      rwa [leftOs_neg _ _ hn] at this
    · have hn' : 0≤n := by omega
      have hs := shallowL_range e.ops[i].l 80 n h1
      have ei : IntKind.i64.wrap ((i : Int) + 1) = ((i + 1 : Nat) : Int) := i64_same (by omega) (by omega)
      simp [hH,hlt,hn']
      refine left_l2 hlt hwo.ll hwo.l hH e.ops[i].l.length 0 n (by omega) h1 h2 fun i' q => ?_
      by_cases hsn : shallowL 80 n e.ops[i].l < 0
      · simp [show ¬ (0 : Int)≤shallowL 80 n e.ops[i].l by omega,ei]
        refine ihm (i + 1) _ (by omega) hs.1 (by omega) fun i' q => ?_
        have := hq i' q
        rw [ed,leftOs_cons,if_neg (by omega),if_pos hsn] at this
        exact this
      · have hsn' : 0≤shallowL 80 n e.ops[i].l := by omega
        simp [hsn',hH,hlt]
        have edd : IntKind.i64.wrap ((d : Int) - 1) = ((d - 1 : Nat) : Int) := by rw [i64_same (by omega) (by omega)]; omega
        rw [edd]
        refine sc_call (ih _ (List.getElem_mem hlt) (d - 1) _ (by omega) hsn' (by omega)) rfl ?_
        have hr := leftE_range e.ops[i].e (d - 1) (shallowL 80 n e.ops[i].l)
        simp [ei]
        refine ihm (i + 1) _ (by omega) hr.1 (by omega) fun i' q => ?_
        have := hq i' q
        rw [ed,leftOs_cons,if_neg (by omega),if_neg hsn] at this
        exact this
end
theorem left_spec : ∀ (e : E),wfE e→LeftS e := by
  refine E.ind fun k o nn ws ks l os ihk iho hw d n hd hn hn1 => ?_
  have h := wfE_iff.1 hw
  have hwl := h.wl
  have hkl := h.kl
  have hol := h.ol
  simp at hwl hkl hol
  refine spec_of t_centoref20_left (by simp) fun w0 I0 => ?_
  unfold c_centoref20_left
  have e1 : IntKind.i64.wrap (IntKind.i64.wrap (IntKind.i64.wrap (n - 1) - (ws.length : Int)) - (os.length : Int)) = n - 1 - ws.length - os.length := by
    rw [i64_same (n := n - 1) (by omega) (by omega),i64_same (n := n - 1 - ws.length) (by omega) (by omega),i64_same (by omega) (by omega)]
  rw [leftE_mk]
  by_cases hc : d = 0∨n - 1 - (ws.length : Int) - (os.length : Int) < 0
  · have hd : (decide (d = 0) || decide (n - 1 - (ws.length : Int) - (os.length : Int) < 0)) = true := by simp; omega
    simp [e1,hd,hc]
    exact frz_bare rfl
  · have hd : (decide (d = 0) || decide (n - 1 - (ws.length : Int) - (os.length : Int) < 0)) = false := by simp; omega
    simp [e1,hd,hc]
    refine sc_call (shallow_spec o h.o 80 _ (by omega) (by omega) (by omega)) rfl ?_
    have hr := shallow_range o 80 (n - 1 - ws.length - os.length)
    have go : ∀ (x : Int),x = left2 n ws.length os.length o nn→-1≤x→x≤1000000→WPC (cx Tryz.prog w0 I0 107) k1_centoref20_left (RetC Tryz.prog [.tmp 6] (iv (leftOs (d - 1) (leftKs (d - 1) (left2 n ws.length os.length o nn) ks) os))) ⟨lk [(1,iv d),(2,iv x),(3,.pob [0] 1 0)],lkH [([0],⟨1,.cells (eL (.mk k o nn ws ks l os))⟩)]⟩ := fun x hx h1 h2 => by
      rw [k1_centoref20_left.eq_1,← hx]
      simp
      refine left_l1 (e := .mk k o nn ws ks l os) (by omega) (by omega) (by simpa using hkl) (fun c hc => ihk c hc (h.ks c hc).2) (by simp) ks.length 0 x (by simp) h1 h2 fun i' q => ?_
      have hr2 := leftKs_range ks (d - 1) x h1
      simp
      refine left_l3 (e := .mk k o nn ws ks l os) (by omega) (by omega) (by simpa using hol) (fun c hc => h.os c hc) (fun c hc => iho c hc (h.os c hc).e) (by simp) os.length 0 _ (by simp) hr2.1 (by omega) fun i' q => ?_
      simp
      exact frz_bare rfl
    by_cases hs : shallow 80 (n - 1 - ws.length - os.length) o < 0
    · simp [show ¬ (0 : Int)≤shallow 80 (n - 1 - ws.length - os.length) o by omega]
      exact go _ (by rw [left2_eq,if_pos hs]) hr.1 (by omega)
    · simp [show (0 : Int)≤shallow 80 (n - 1 - ws.length - os.length) o by omega]
      refine sc_call (shallow_spec nn h.n 80 _ (by omega) (by omega) (by omega)) rfl ?_
      have hr2 := shallow_range nn 80 (shallow 80 (n - 1 - ws.length - os.length) o)
      simp
      exact go _ (by rw [left2_eq,if_neg hs]) hr2.1 (by omega)
def fewE (e : E) : Bool := decide (0≤leftE 80 3000 e)
theorem fewE_spec {e : E} (h : wfE e) : G.Spec Tryz.prog 22 [eX e] (bv (fewE e)) := by
  refine spec_of t_centoref20_Few (by simp) fun w0 I0 => ?_
  unfold c_centoref20_Few
  simp
  refine sc_call (left_spec e h 80 3000 (by omega) (by omega) (by omega)) rfl ?_
  simp
  exact frz_bare rfl
end Go.Proofs.YthfiijdbnkaabaaGreat

namespace Go.PL
set_option linter.unusedVariables false
set_option linter.unusedSimpArgs false
theorem treeE_kind (e : E) : (treeE e).kind = if e.kind = 0 then 0 else 1 := by
  cases e; rw [treeE_mk]
  repeat' split
  all_goals simp_all
theorem kids_at {d : Nat} : ∀ {ks : List KE} {last : Int},rightKs d last ks = true→∀ x,x ∈ ks→last < x.at_∧x.at_≤65534∧x.e.kind ≠ 0∧rightE d x.e = true
  | y :: ks,last,h,x,hx => by
    simp at h
    obtain ⟨⟨⟨⟨h1,h2⟩,h3⟩,h4⟩,h5⟩ := h
    rcases List.mem_cons.1 hx with rfl | hx
    · exact ⟨h1,h2,h3,h4⟩
    · obtain ⟨a,b,c⟩ := kids_at h5 x hx
      exact ⟨by omega,b,c⟩
theorem noneT_eq {t : T} (h : noneT t = true) : t = T0 := by
  obtain ⟨k,w,l⟩ := t
  simp [noneT] at h
  obtain ⟨⟨h1,rfl⟩,rfl⟩ := h
  rw [of_decide_eq_true h1]
theorem headOk_spec {d : Nat} {k : Int} {o n : T} {nw nk : Nat} {l : Int} {no : Nat} (h : ¬ headOk d k o n nw nk l no = false) : d ≠ 0∧0≤k∧k≤3∧(k ≠ 1→o = T0∧n = T0)∧(k ≠ 2→nw = 0∧nk = 0)∧(k ≠ 3→l = 0∧no = 0) := by
  have h : headOk d k o n nw nk l no = true := by simpa using h
  unfold headOk at h
  simp only [Bool.and_eq_true,Bool.not_eq_true',Bool.or_eq_false_iff,Bool.and_eq_false_iff,decide_eq_false_iff_not,decide_eq_true_eq,Bool.not_eq_false'] at h
  obtain ⟨⟨⟨a,b⟩,c⟩,⟨d1,e⟩,f⟩ := h
  refine ⟨a,by omega,by omega,fun h1 => ?_,fun h2 => ?_,fun h3 => ?_⟩
  · rcases d1 with d1 | d1
    · exact absurd d1 h1
    · exact ⟨noneT_eq d1.1,noneT_eq d1.2⟩
  · rcases e with e | e
    · exact absurd e h2
    · omega
  · rcases f with f | f
    · exact absurd f h3
    · exact ⟨f.1,by omega⟩
def masks (ws : List WE) : Prop := ∀ w,w ∈ ws→0≤w.mask∧w.mask < 256
end Go.PL

namespace Go.Proofs.YthfiijdbnkaabaaGreat
set_option linter.unusedVariables false
set_option linter.unusedSimpArgs false
open Go Go.G Go.Proofs Go.PL
abbrev RightS (e : E) : Prop := ∀ d : Nat,d≤1000→G.Spec Tryz.prog 23 [eX e,iv d] (bv (rightE d e))
section
variable {n0 : Nat} {w0 : World} {I0 : Nat→Prop} {Q : Exit→Sta→Prop}
theorem op_l1 {o : OP} {list : Int} (hk : i64R list) (hl : o.l.length * 56≤140737488355328) (hw : ∀ t,t ∈ o.l→wfT t) {H : Hp} (hO : H [0] = ⟨1,.cells (iv o.kind :: iv o.n :: tKs o.l :: eL o.e)⟩) : ∀ (m i : Nat),i + m = o.l.length →
    (((o.l.drop i).all fun t => rightT 64 (.mk list [] [t])) = true→∀ i' q,Q (.exit 0) ⟨lk [(0,iv list),(4,.pob [0] 1 0),(7,iv i'),(50,bv q)],H⟩)→(((o.l.drop i).all fun t => rightT 64 (.mk list [] [t])) = false→Q .ret ⟨lk [(6,bv false)],H⟩) →
    LoopC (cx Tryz.prog w0 I0 n0) l1_centoref20_op Q ⟨lk [(0,iv list),(4,.pob [0] 1 0),(7,iv i)],H⟩ := by
  intro m
  induction m with
  | zero =>
    intro i hi h1 h2
    have : i = o.l.length := by omega
    subst this
    refine loopC_once mixed l1_centoref20_op.eq_1 ?_
    simp [hO]
    exact h1 (by simp) _ _
  | succ m ihm =>
    intro i hi h1 h2
    have hlt : i < o.l.length := by omega
    have ed : o.l.drop i = o.l[i] :: o.l.drop (i + 1) := List.drop_eq_getElem_cons hlt
    have ei : IntKind.i64.wrap ((i : Int) + 1) = ((i + 1 : Nat) : Int) := i64_same (by omega) (by omega)
    have et : List.take 1 (List.drop i (o.l.map tA)) = [tX o.l[i]] := by rw [← List.map_drop,ed,List.map_cons,List.take_succ_cons,List.take_zero,tA_eq]
    have hwt : wfT (.mk list [] [o.l[i]]) := wfT_iff.2 ⟨hk,by simp,by simp,by simp,fun x hx => by simp at hx; rw [hx]; exact hw _ (List.getElem_mem hlt)⟩
    have h01 : (i : Int)≤(i : Int) + 1 := by omega
    have h02 : (i : Int) + 1≤o.l.length := by omega
    rw [ed] at h1 h2
    refine loopC_once mixed l1_centoref20_op.eq_1 ?_
    have h03 : (0 : Int)≤(i : Int) + 1 := by omega
    simp [hO,hlt,ei,h01,h02,h03,et]
    refine sc_calle rfl ((rRight_spec (.mk list [] [o.l[i]]) hwt 64 (by omega)).soft (by simp [A.softL,A.soft,soft_uv,soft_tKs])) rfl ?_
    cases hr : rightT 64 (.mk list [] [o.l[i]]) with
    | false =>
      simp
      exact h2 (by simp only [List.all_cons,hr,Bool.false_and])
    | true =>
      simp [ei]
      exact ihm (i + 1) (by omega) (fun hh => h1 (by simp only [List.all_cons,hr,Bool.true_and]; exact hh)) (fun hh => h2 (by simp only [List.all_cons,hr,Bool.true_and]; exact hh))
end
set_option maxRecDepth 8000 in
theorem op_spec {list : Int} (hk : i64R list) {o : OP} (h : WfO o) (ih : RightS o.e) {d : Nat} (hd : d≤1000) : G.Spec Tryz.prog 51 [iv list,oX o,iv d] (bv (rightO d list o)) := by
  have he := wfE_iff.1 h.e
  have hll := h.ll
  refine spec_of t_centoref20_op (by simp) fun w0 I0 => ?_
  unfold c_centoref20_op
  rw [rightO_eq]
  by_cases h0 : o.kind = 0
  · have h3 : ¬ o.kind = 3 := by omega
    simp [h0]
    refine sc_call_gt rfl (fun _ => same_spec he) (fun e => by simp at e; simp [e]) rfl ?_
    simp
    refine frz_bool ?_
    cases hl : o.l <;> simp [opFlat,h0,hl]
  · have h3n : (o.kind < 3→¬ o.kind = 3) := fun h => by omega
    simp [h0]
    refine ⟨fun hc => ?_,fun n0 k0 k3 => ⟨fun hlt => ?_,fun hge => ?_⟩⟩
    · have : opFlat list o = false := by
        unfold opFlat
        rw [if_neg h0,if_pos (by omega)]
      exact frz_bool (by simp [this])
    · have hk3 : ¬ o.kind = 3 := by omega
      have hf : opFlat list o = ((o.l.all fun t => rightT 64 (.mk list [] [t])) && !o.l.isEmpty && sameE o.e) := by
        unfold opFlat
        rw [if_neg h0,if_neg (by omega),if_pos hlt]
      refine op_l1 (o := o) hk hll h.l (by simp) o.l.length 0 (by omega) (fun hr i' q => ?_) (fun hr => ?_)
      · simp at hr
        simp
        refine sc_call_gt rfl (fun _ => same_spec he) (fun e => by simp at e; simp [e]) rfl ?_
        simp
        refine frz_bool ?_
        have hr' : (o.l.all fun t => rightT 64 (.mk list [] [t])) = true := by simpa using hr
        rw [hf,hr']
        cases hl : o.l <;> simp [hk3]
      · simp
        refine frz_bool ?_
        simp only [List.drop_zero] at hr
        rw [hf,hr]
        simp
    · have hk3 : o.kind = 3 := by omega
      have hf : opFlat list o = true := by
        unfold opFlat
        rw [if_neg h0,if_neg (by omega),if_neg (by omega)]
      refine sc_call_gf rfl (fun _ => ih d hd) (fun e => by simp at e; have := Int.not_le.2 e.2; simp [this,e.1.1,e.1.2]) rfl ?_
      have hop : opDeep list o = (!decide (0 < o.l.length) && !decide (o.e.kind = 0) && !decide (list≤7)) := by
        cases hl : o.l <;> simp [opDeep,hl]
      simp
      refine ⟨fun hc => ?_,fun a b c hr => ?_⟩
      · refine frz_bool ?_
        rw [hop,hf]
        cases hr : rightE d o.e
        · simp [hk3]
        · simp only [hr,Bool.true_eq_false,or_false] at hc
          rcases hc with (hc | hc) | hc <;> simp [hk3,hc]
      · have hl0 : ¬ 0 < o.l.length := by simp [a]
        have hfit : Frz (lkH [([0],{ u := 1,ob := Ob.cells (iv o.kind :: iv o.n :: tKs o.l :: eL o.e) })]) (bv (opFit list o)) (bv (opFlat list o && (!decide (o.kind = 3) || opDeep list o && rightE d o.e && opFit list o))) := by
          refine frz_bool ?_
          rw [hop,hf,hr]
          have c' := Int.not_le.2 c
          simp [hk3,hl0,b,c']
        by_cases l8 : list = 8
        · simp [l8]
          simpa [l8,opFit] using hfit
        · by_cases k2 : o.e.kind = 2
          · simp [l8,k2]
            simpa [l8,k2,opFit] using hfit
          · by_cases k1 : o.e.kind = 1
            · by_cases x1 : o.e.old.kind = 1
              · simp [l8,k2,k1,x1]
                simpa [l8,k2,k1,x1,opFit] using hfit
              · simp [l8,k2,k1,x1]
                simpa [l8,k2,k1,x1,opFit] using hfit
            · simp [l8,k2,k1]
              simpa [l8,k2,k1,opFit] using hfit
section
variable {n0 : Nat} {w0 : World} {I0 : Nat→Prop} {Q : Exit→Sta→Prop}
theorem eright_l1 {e : E} {d : Nat} (hl : e.words.length * 32≤140737488355328) (hw : ∀ x,x ∈ e.words→WE.wf x) : ∀ (m i : Nat) (last : Int) (H : Hp),i + m = e.words.length→H [0] = ⟨1,.cells (eL e)⟩ →
    (wordsOk last (e.words.drop i) = true→∀ i' z q H',H' [0] = ⟨1,.cells (eL e)⟩→Q (.exit 0) ⟨lk [(1,iv d),(2,.pob [0] 1 0),(5,iv z),(6,iv i'),(97,bv q)],H'⟩)→(wordsOk last (e.words.drop i) = false→∀ H',Q .ret ⟨lk [(4,bv false)],H'⟩) →
    LoopC (cx Tryz.prog w0 I0 n0) l1_centoref20_Right Q ⟨lk [(1,iv d),(2,.pob [0] 1 0),(5,iv last),(6,iv i)],H⟩ := by
  intro m
  induction m with
  | zero =>
    intro i last H hi hA h1 h2
    have : i = e.words.length := by omega
    subst this
    refine loopC_once mixed l1_centoref20_Right.eq_1 ?_
    simp [hA]
    exact h1 (by simp [wordsOk]) _ _ _ _ hA
  | succ m ihm =>
    intro i last H hi hA h1 h2
    have hlt : i < e.words.length := by omega
    have ed : e.words.drop i = e.words[i] :: e.words.drop (i + 1) := List.drop_eq_getElem_cons hlt
    have ei : IntKind.i64.wrap ((i : Int) + 1) = ((i + 1 : Nat) : Int) := i64_same (by omega) (by omega)
    obtain ⟨w1,w2,w3,w4⟩ := hw _ (List.getElem_mem hlt)
    rw [ed,wordsOk] at h1 h2
    generalize hx : e.words[i] = x at *
    refine loopC_once mixed l1_centoref20_Right.eq_1 ?_
    simp [hA,hlt,hx,updF_app]
    refine sc_call_gf rfl (fun _ => within_spec' w3 w2.1 w2.2) (fun e => by simp only [Bool.or_eq_false_iff] at e; simp [e]) rfl ?_
    simp
    refine sc_call_gf rfl (fun _ => within_spec' w4 w2.1 w2.2) (fun e => by simp only [Bool.or_eq_false_iff] at e; simp [e]) rfl ?_
    simp
    have hok : wordOk last x = !(decide (x.at_≤last) || decide (65534 < x.at_) || decide (x.mask = 0) || !withinZ x.old x.mask || !withinZ x.new x.mask) := rfl
    refine ⟨fun hc => h2 ?_ _,fun a b c d e => ?_⟩
    · have : wordOk last x = false := by
        rw [hok]
        rcases hc with (((hc | hc) | hc) | hc) | hc <;> simp [hc]
      simp [this]
    · have : wordOk last x = true := by
        rw [hok]
        simp [c,d,e]
        omega
      simp [this] at h1 h2
      simp [ei,updF_app]
      exact ihm (i + 1) x.at_ _ (by omega) (by simp [updF_app,hA]) (fun hh i' z q H' hh' => by have := h1 hh i' z; cases q; exact this.1 H' hh'; exact this.2 H' hh') (fun hh => h2 hh)
theorem eright_l2 {e : E} {d : Nat} (hd : 1≤d) (hd1 : d≤1000) (hl : e.kids.length * 208≤140737488355328) (ih : ∀ x,x ∈ e.kids→RightS x.e) : ∀ (m i : Nat) (last : Int) (H : Hp),i + m = e.kids.length→H [0] = ⟨1,.cells (eL e)⟩ →
    (rightKs (d - 1) last (e.kids.drop i) = true→∀ i' z q H',H' [0] = ⟨1,.cells (eL e)⟩→Q (.exit 2) ⟨lk [(1,iv d),(2,.pob [0] 1 0),(5,iv z),(8,iv i'),(141,bv q)],H'⟩)→(rightKs (d - 1) last (e.kids.drop i) = false→∀ H',Q .ret ⟨lk [(4,bv false)],H'⟩) →
    LoopC (cx Tryz.prog w0 I0 n0) l2_centoref20_Right Q ⟨lk [(1,iv d),(2,.pob [0] 1 0),(5,iv last),(8,iv i)],H⟩ := by
  intro m
  induction m with
  | zero =>
    intro i last H hi hA h1 h2
    have : i = e.kids.length := by omega
    subst this
    refine loopC_once mixed l2_centoref20_Right.eq_1 ?_
    simp [hA]
    exact h1 (by simp) _ _ _ _ hA
  | succ m ihm =>
    intro i last H hi hA h1 h2
    have hlt : i < e.kids.length := by omega
    have ed : e.kids.drop i = e.kids[i] :: e.kids.drop (i + 1) := List.drop_eq_getElem_cons hlt
    have ei : IntKind.i64.wrap ((i : Int) + 1) = ((i + 1 : Nat) : Int) := i64_same (by omega) (by omega)
    have edd : IntKind.i64.wrap ((d : Int) - 1) = ((d - 1 : Nat) : Int) := by rw [i64_same (by omega) (by omega)]; omega
    have ihx := ih _ (List.getElem_mem hlt) (d - 1) (by omega)
    rw [ed,rightKs_cons] at h1 h2
    generalize hx : e.kids[i] = x at *
    refine loopC_once mixed l2_centoref20_Right.eq_1 ?_
    simp [hA,hlt,hx,updF_app,edd]
    refine sc_call_gf rfl (fun _ => ihx) (fun e => by simp only [Bool.or_eq_false_iff] at e; simp [e]) rfl ?_
    simp
    refine ⟨fun hc => h2 ?_ _,fun a b c hr => ?_⟩
    · rcases hc with ((hc | hc) | hc) | hc <;> simp [hc]
    · have c' : ¬ x.e.kind = 0 := c
      have a' : ¬ x.at_≤last := by omega
      have b' : ¬ 65534 < x.at_ := by omega
      simp [a',b',c',hr] at h1 h2
      simp [ei,updF_app]
      exact ihm (i + 1) x.at_ _ (by omega) (by simp [updF_app,hA]) (fun hh i' z q H' hh' => by have := h1 hh i' z; cases q; exact this.1 H' hh'; exact this.2 H' hh') (fun hh => h2 hh)
theorem eright_l3 {e : E} {d : Nat} (hd : 1≤d) (hd1 : d≤1000) (hl : e.ops.length * 240≤140737488355328) (hk : i64R e.list) (hw : ∀ x,x ∈ e.ops→WfO x) (ih : ∀ x,x ∈ e.ops→RightS x.e) {H : Hp} (hA : H [0] = ⟨1,.cells (eL e)⟩) : ∀ (m i : Nat),i + m = e.ops.length →
    (rightOs (d - 1) e.list (e.ops.drop i) = true→∀ i' q,Q (.exit 4) ⟨lk [(1,iv d),(2,.pob [0] 1 0),(10,iv i'),(191,bv q)],H⟩)→(rightOs (d - 1) e.list (e.ops.drop i) = false→Q .ret ⟨lk [(4,bv false)],H⟩) →
    LoopC (cx Tryz.prog w0 I0 n0) l3_centoref20_Right Q ⟨lk [(1,iv d),(2,.pob [0] 1 0),(10,iv i)],H⟩ := by
  intro m
  induction m with
  | zero =>
    intro i hi h1 h2
    have : i = e.ops.length := by omega
    subst this
    refine loopC_once mixed l3_centoref20_Right.eq_1 ?_
    simp [hA]
    exact h1 (by simp) _ _
  | succ m ihm =>
    intro i hi h1 h2
    have hlt : i < e.ops.length := by omega
    have ed : e.ops.drop i = e.ops[i] :: e.ops.drop (i + 1) := List.drop_eq_getElem_cons hlt
    have ei : IntKind.i64.wrap ((i : Int) + 1) = ((i + 1 : Nat) : Int) := i64_same (by omega) (by omega)
    have edd : IntKind.i64.wrap ((d : Int) - 1) = ((d - 1 : Nat) : Int) := by rw [i64_same (by omega) (by omega)]; omega
    have hop := op_spec hk (hw _ (List.getElem_mem hlt)) (ih _ (List.getElem_mem hlt)) (d := d - 1) (by omega)
    rw [ed,rightOs_cons] at h1 h2
    refine loopC_once mixed l3_centoref20_Right.eq_1 ?_
    simp [hA,hlt,edd]
    refine sc_call hop rfl ?_
    cases hr : rightO (d - 1) e.list e.ops[i] with
    | false =>
      simp
      exact h2 (by simp [hr])
    | true =>
      simp [ei]
      exact ihm (i + 1) (by omega) (fun hh => h1 (by simp [hr,hh])) (fun hh => h2 (by simp [hh]))
end
theorem op_n {d : Nat} {list : Int} {o : OP} (h : rightO d list o = true) : 0≤o.n∧o.n≤1048576 := by
  rw [rightO_eq,Bool.and_eq_true] at h
  have h1 := h.1
  unfold opFlat at h1
  split at h1
  · simp at h1; omega
  · split at h1
    · cases h1
    · omega
theorem headOk_of {d : Nat} {k : Int} {o n : T} {nw nk : Nat} {l : Int} {no : Nat} (hd : ¬ d = 0) (k0 : 0≤k) (k3 : k≤3) (c1 : k ≠ 1→noneT o = true∧noneT n = true) (c2 : k ≠ 2→nw + nk = 0) (c3 : k ≠ 3→l = 0∧no = 0) : headOk d k o n nw nk l no = true := by
  unfold headOk
  have h1 : decide (d = 0) = false := by simpa using hd
  have h2 : decide (k < 0) = false := by simp; omega
  have h3 : decide (k > 3) = false := by simp; omega
  rw [h1,h2,h3]
  have a1 : (!decide (k = 1) && !(noneT o && noneT n)) = false := by
    by_cases e : k = 1
    · simp [e]
    · simp [c1 e]
  have a2 : (!decide (k = 2) && decide (nw + nk > 0)) = false := by
    by_cases e : k = 2
    · simp [e]
    · simp [c2 e]
  have a3 : (!decide (k = 3) && (!decide (l = 0) || decide (no > 0))) = false := by
    by_cases e : k = 3
    · simp [e]
    · simp [c3 e]
  rw [a1,a2,a3]; rfl
set_option maxRecDepth 10000 in
theorem eright_spec : ∀ (e : E),wfE e→RightS e := by
  refine E.ind fun k o nn ws ks l os ihk iho hw d hd => ?_
  have h := wfE_iff.1 hw
  have hwl := h.wl
  have hkl := h.kl
  have hol := h.ol
  simp at hwl hkl hol
  refine spec_of t_centoref20_Right (by simp) fun w0 I0 => ?_
  unfold c_centoref20_Right
  rw [rightE_mk]
  by_cases hd0 : d = 0∨k < 0∨3 < k
  · have hb : (decide (d = 0) || decide (k < 0) || decide (3 < k)) = true := by simp; omega
    simp [hb]
    refine frz_bool ?_
    have : headOk d k o nn ws.length ks.length l os.length = false := by simp only [headOk,hb,gt_iff_lt,Bool.not_true,Bool.false_and]
    simp [this]
  have hb : (decide (d = 0) || decide (k < 0) || decide (3 < k)) = false := by simp; omega
  have e1 : IntKind.i64.wrap ((ws.length : Int) + ks.length) = (ws.length : Int) + ks.length := i64_same (by omega) (by omega)
  have hd00 : ¬ d = 0 := by omega
  have wz : IntKind.i64.wrap 0 = 0 := by decide
  have ihk' : ∀ x,x ∈ (E.mk k o nn ws ks l os).kids→RightS x.e := fun x hx => ihk x hx (h.ks x hx).2
  have iho' : ∀ x,x ∈ (E.mk k o nn ws ks l os).ops→RightS x.e := fun x hx => iho x hx (h.os x hx).e
  have fz : ∀ (b : Bool) (H : Hp),b = false→Frz H (.v (.bool false)) (bv b) := fun b H hb => frz_bool hb.symm
  cases hh : headOk d k o nn ws.length ks.length l os.length with
  | false =>
    rw [if_pos rfl]
    by_cases h1 : k = 1
    · subst h1
      simp [e1,hd00]
      refine sc_call_off rfl ?_
      simp
      refine sc_call_off rfl ?_
      by_cases a1 : (0 : Int) < (ws.length : Int) + ks.length
      · simp [e1,a1]; exact fz _ _ rfl
      · by_cases a2 : l = 0
        · by_cases a3 : 0 < os.length
          · simp [e1,a1,a2,a3]; exact fz _ _ rfl
          · have : headOk d 1 o nn ws.length ks.length l os.length = true := headOk_of hd00 (by omega) (by omega) (fun h => absurd rfl h) (fun _ => by omega) (fun _ => ⟨a2,by omega⟩)
            rw [hh] at this; cases this
        · simp [e1,a1,a2]; exact fz _ _ rfl
    · simp [hb,h1,e1]
      refine sc_call_gt rfl (fun _ => none_spec' h.o) (fun _ => rfl) rfl ?_
      simp [h1,e1]
      refine sc_call_gt rfl (fun _ => none_spec' h.n) (fun e => by simp [e]) rfl ?_
      cases n1 : noneT o with
      | false => cases n2 : noneT nn <;> (simp [n1,n2,e1]; exact fz _ _ rfl)
      | true =>
        cases n2 : noneT nn with
        | false => simp [n1,n2,e1]; exact fz _ _ rfl
        | true =>
          by_cases k2 : k = 2
          · subst k2
            by_cases a2 : l = 0
            · by_cases a3 : 0 < os.length
              · simp [e1,a2,a3]; exact fz _ _ rfl
              · have : headOk d 2 o nn ws.length ks.length l os.length = true := headOk_of hd00 (by omega) (by omega) (fun _ => ⟨n1,n2⟩) (fun h => absurd rfl h) (fun _ => ⟨a2,by omega⟩)
                rw [hh] at this; cases this
            · simp [e1,a2]; exact fz _ _ rfl
          · by_cases a1 : (0 : Int) < (ws.length : Int) + ks.length
            · simp [e1,k2,a1]; exact fz _ _ rfl
            · by_cases k3 : k = 3
              · have : headOk d k o nn ws.length ks.length l os.length = true := headOk_of hd00 (by omega) (by omega) (fun _ => ⟨n1,n2⟩) (fun _ => by omega) (fun h => absurd k3 h)
                rw [hh] at this; cases this
              · by_cases a2 : l = 0
                · by_cases a3 : 0 < os.length
                  · simp [e1,k2,k3,a1,a2,a3]; exact fz _ _ rfl
                  · have : headOk d k o nn ws.length ks.length l os.length = true := headOk_of hd00 (by omega) (by omega) (fun _ => ⟨n1,n2⟩) (fun _ => by omega) (fun _ => ⟨a2,by omega⟩)
                    rw [hh] at this; cases this
                · simp [e1,k2,k3,a1,a2]; exact fz _ _ rfl
  | true =>
    rw [if_neg (by simp)]
    obtain ⟨_,k0,k3,c1,c2,c3⟩ := headOk_spec (by rw [hh]; simp)
    by_cases h1 : k = 1
    · subst h1
      obtain ⟨w0',s0⟩ := c2 (by omega)
      obtain ⟨l0,o0⟩ := c3 (by omega)
      have hws : ws = [] := List.eq_nil_of_length_eq_zero w0'
      have hks : ks = [] := List.eq_nil_of_length_eq_zero s0
      have hos : os = [] := List.eq_nil_of_length_eq_zero o0
      subst hws hks hos l0
      simp [e1,hd00]
      refine sc_call_off rfl ?_
      simp
      refine sc_call_off rfl ?_
      simp [wz]
      refine sc_call (rRight_spec o h.o 64 (by omega)) rfl ?_
      simp
      refine sc_call_gt rfl (fun _ => rRight_spec nn h.n 64 (by omega)) (fun e => by simp [e]) rfl ?_
      simp
      exact frz_bool (by simp [Bool.and_assoc])
    · obtain ⟨rfl,rfl⟩ := c1 h1
      have nT : noneT T0 = true := rfl
      have cases3 : k = 2∧l = 0∧os = []∨k = 3∧ws = []∧ks = []∨k = 0∧ws = []∧ks = []∧l = 0∧os = [] := by
        by_cases k2 : k = 2
        · obtain ⟨l0,o0⟩ := c3 (by omega)
          exact .inl ⟨k2,l0,List.eq_nil_of_length_eq_zero o0⟩
        · obtain ⟨w0',s0⟩ := c2 k2
          by_cases k3 : k = 3
          · exact .inr (.inl ⟨k3,List.eq_nil_of_length_eq_zero w0',List.eq_nil_of_length_eq_zero s0⟩)
          · obtain ⟨l0,o0⟩ := c3 k3
            exact .inr (.inr ⟨by omega,List.eq_nil_of_length_eq_zero w0',List.eq_nil_of_length_eq_zero s0,l0,List.eq_nil_of_length_eq_zero o0⟩)
      rw [if_neg h1]
      clear c1 c2 c3 hh h1 k0 k3 ihk iho
      rcases cases3 with ⟨rfl,rfl,rfl⟩ | ⟨rfl,rfl,rfl⟩ | ⟨rfl,rfl,rfl,rfl,rfl⟩
      all_goals
        simp [hd00,e1]
        refine sc_call_gt rfl (fun _ => none_spec' h.o) (fun _ => rfl) rfl ?_
        simp [nT,e1]
        refine sc_call_gt rfl (fun _ => none_spec' h.n) (fun e => by simp [e]) rfl ?_
        simp [nT,e1,wz]
        refine eright_l1 (hl := h.wl) (hw := h.w) _ 0 (-1) _ (by simp; rfl) (by simp) (fun hr i' z q H' hA => ?_) (fun hr H' => ?_)
        rotate_left
        · first
            | (simp [wordsOk] at hr; done)
            | (simp at hr; simp; exact fz _ _ (by simp [hr]))
        simp at hr
        simp
        refine eright_l2 (by omega) hd (hl := h.kl) (ih := ihk') _ 0 (-1) _ (by simp; rfl) hA (fun hr2 i' z q H' hA => ?_) (fun hr2 H' => ?_)
        rotate_left
        · first
            | (simp at hr2; done)
            | (simp at hr2; simp; exact fz _ _ (by simp [hr2]))
        try simp at hr2
      · simp [hA]
        refine eright_l3 (by omega) hd (hl := h.ol) h.l h.os iho' hA _ 0 (by simp; rfl) (fun hr3 i' q => ?_) (fun hr3 => ?_)
        rotate_left
        · simp at hr3
        simp [hA]
        refine sc_call (rLengths_spec (e := .mk 2 T0 T0 ws ks 0 []) h.ol (fun x hx => by simp at hx)) rfl ?_
        simp
        refine frz_bool ?_
        simp [hr,hr2,lengths]
      · by_cases hl : l < 2∨9 < l
        · have hl' : (decide (l < 2) || decide (9 < l)) = true := by simpa using hl
          simp [hA,hl']
          exact fz _ _ (by simp [hr]; intro a b; omega)
        · have hl' : (decide (l < 2) || decide (9 < l)) = false := by simpa using hl
          simp [hA,hl']
          refine eright_l3 (by omega) hd (hl := h.ol) h.l h.os iho' hA _ 0 (by simp; rfl) (fun hr3 i' q => ?_) (fun hr3 => ?_)
          rotate_left
          · simp at hr3
            simp
            exact fz _ _ (by simp [hr3])
          simp at hr3
          simp [hA]
          refine sc_call (rLengths_spec (e := .mk 3 T0 T0 [] [] l os) h.ol (fun x hx => ⟨(op_n (rightOs_all.1 hr3 x hx)).1,(op_n (rightOs_all.1 hr3 x hx)).2,(h.os x hx).ll⟩)) rfl ?_
          simp
          refine frz_bool ?_
          have hl2 : ¬ (l < 2∨l > 9) := hl
          simp [hr,hr3,hl2]
          intro _ _
          omega
      · simp [hA]
        refine eright_l3 (by omega) hd (hl := h.ol) h.l h.os iho' hA _ 0 (by simp; rfl) (fun hr3 i' q => ?_) (fun hr3 => ?_)
        rotate_left
        · simp at hr3
        simp [hA]
        refine sc_call (rLengths_spec (e := .mk 0 T0 T0 [] [] 0 []) h.ol (fun x hx => by simp at hx)) rfl ?_
        simp
        refine frz_bool ?_
        simp [wordsOk,lengths]
end Go.Proofs.YthfiijdbnkaabaaGreat

namespace Go.Proofs.YthfiijdbnkaabaaGreat
set_option linter.unusedVariables false
set_option linter.unusedSimpArgs false
open Go Go.G Go.Proofs Go.PL
def mixN : Nat→Nat→Nat→Nat→Nat
  | 0,_,_,_ => 0
  | k + 1,a,b,m => (if m % 2 = 1 then b % 256 else a % 256) + 256 * mixN k (a / 256) (b / 256) (m / 2)
def wideN : Nat→Nat→Nat
  | 0,_ => 0
  | k + 1,m => (if m % 2 = 1 then 255 else 0) + 256 * wideN k (m / 2)
theorem wideN_lt : ∀ k m,wideN k m < 256 ^ k
  | 0,m => by simp [wideN]
  | k + 1,m => by
    have := wideN_lt k (m / 2)
    simp only [wideN,Nat.pow_succ]
    split <;> omega
theorem mixN_bits : ∀ k a b m,a < 256 ^ k→b < 256 ^ k→(a &&& (256 ^ k - 1 - wideN k m)) ||| (b &&& wideN k m) = mixN k a b m
  | 0,a,b,m,ha,hb => by
    simp at ha hb
    subst ha hb
    simp [mixN,wideN]
  | k + 1,a,b,m,ha,hb => by
    have hw := wideN_lt k (m / 2)
    rw [Nat.pow_succ] at ha hb
    have ih := mixN_bits k (a / 256) (b / 256) (m / 2) (by omega) (by omega)
    have p0 : 0 < 256 ^ k := Nat.pow_pos (by decide)
    generalize hx : (a &&& (256 ^ (k + 1) - 1 - wideN (k + 1) m)) ||| (b &&& wideN (k + 1) m) = x
    have d1 : wideN (k + 1) m / 256 = wideN k (m / 2) := by simp only [wideN]; split <;> omega
    have d2 : (256 ^ (k + 1) - 1 - wideN (k + 1) m) / 256 = 256 ^ k - 1 - wideN k (m / 2) := by simp only [wideN,Nat.pow_succ]; split <;> omega
    have m1 : wideN (k + 1) m % 256 = if m % 2 = 1 then 255 else 0 := by simp only [wideN]; split <;> omega
    have m2 : (256 ^ (k + 1) - 1 - wideN (k + 1) m) % 256 = if m % 2 = 1 then 0 else 255 := by simp only [wideN,Nat.pow_succ]; split <;> omega
    have e1 : x / 256 = mixN k (a / 256) (b / 256) (m / 2) := by
      have q1 := @Nat.or_div_two_pow (a &&& (256 ^ (k + 1) - 1 - wideN (k + 1) m)) (b &&& wideN (k + 1) m) 8
      have q2 := @Nat.and_div_two_pow a (256 ^ (k + 1) - 1 - wideN (k + 1) m) 8
      have q3 := @Nat.and_div_two_pow b (wideN (k + 1) m) 8
      have c : (2 : Nat) ^ 8 = 256 := rfl
      rw [q2,q3,c,d1,d2,hx] at q1
      rw [q1,ih]
    have e2 : x % 256 = if m % 2 = 1 then b % 256 else a % 256 := by
      have h : x % 2 ^ 8 = (a % 2 ^ 8 &&& (256 ^ (k + 1) - 1 - wideN (k + 1) m) % 2 ^ 8) ||| (b % 2 ^ 8 &&& wideN (k + 1) m % 2 ^ 8) := by
        rw [← hx,Nat.or_mod_two_pow,Nat.and_mod_two_pow,Nat.and_mod_two_pow]
      have c : (2 : Nat) ^ 8 = 256 := rfl
      rw [c,m1,m2] at h
      rw [h]
      have h255 : (255 : Nat) = 2 ^ 8 - 1 := rfl
      split
      · rw [h255,Nat.and_two_pow_sub_one_eq_mod]; simp
      · rw [h255,Nat.and_two_pow_sub_one_eq_mod]; simp
    simp only [mixN]
    omega
theorem mx_range : ∀ (k : Nat) (a b mask : Int),0≤a→0≤b→0≤mask→ofZ ((List.range k).map fun i => if namedZ mask i = true then (bytesN k b).getD i 0 else (bytesN k a).getD i 0) = (mixN k a.toNat b.toNat mask.toNat : Nat)
  | 0,a,b,mask,_,_,_ => by simp [ofZ,mixN]
  | k + 1,a,b,mask,ha,hb,hm => by
    have ih := mx_range k (a / 256) (b / 256) (mask / 2) (by omega) (by omega) (by omega)
    have e1 : (a / 256).toNat = a.toNat / 256 := by omega
    have e2 : (b / 256).toNat = b.toNat / 256 := by omega
    have e3 : (mask / 2).toNat = mask.toNat / 2 := by omega
    rw [e1,e2,e3] at ih
    rw [List.range_succ_eq_map,List.map_cons,List.map_map,ofZ]
    have h : (List.range k).map ((fun i => if namedZ mask i = true then (bytesN (k + 1) b).getD i 0 else (bytesN (k + 1) a).getD i 0) ∘ Nat.succ) = (List.range k).map fun i => if namedZ (mask / 2) i = true then (bytesN k (b / 256)).getD i 0 else (bytesN k (a / 256)).getD i 0 := by
      refine List.map_congr_left fun i _ => ?_
      have hn : namedZ mask (i + 1) = namedZ (mask / 2) i := by
        unfold namedZ
        have : mask / 2 ^ (i + 1) = mask / 2 / 2 ^ i := by
          rw [Int.ediv_ediv_of_nonneg (by decide),Int.pow_succ,Int.mul_comm]
        rw [this]
      simp [bytesN,hn]
    rw [h,ih]
    have h0 : (namedZ mask 0 = true) = (mask.toNat % 2 = 1) := by
      simp [namedZ]
      omega
    simp only [h0,mixN,bytesN,List.getD_cons_zero]
    split <;> omega
theorem mixZ_nat {a b mask : Int} (ha : u64R a) (hb : u64R b) (h0 : 0≤mask) : mixZ a b mask = (mixN 8 a.toNat b.toNat mask.toNat : Nat) := by
  rw [← mx_range 8 a b mask ha.1 hb.1 h0]
  unfold mixZ mixL bytesZ
  rw [List.drop_eq_nil_of_le (by simp),List.append_nil]
def wS (mask : Int) : Nat→Int
  | 0 => 0
  | i + 1 => if bits .and .u8 (mask / 2 ^ min i 8) 1 = 1 then bits .or .u64 (wS mask i) (IntKind.u64.wrap (255 * 2 ^ min (8 * i) 64)) else wS mask i
theorem wS_all : ∀ m : Nat,m < 256→wS m 8 = (wideN 8 m : Nat) := by decide +kernel
section
variable {n0 : Nat} {w0 : World} {I0 : Nat→Prop} {Q : Exit→Sta→Prop}
theorem mxwide_l1 {mask : Int} (hq : ∀ q,Q (.exit 0) ⟨lk [(0,u8 mask),(3,uv (wS mask 8)),(5,iv 8),(6,bv q)],lkH []⟩) :
    ∀ (j i : Nat),i + j = 8→LoopC (cx Tryz.prog w0 I0 n0) l1_word_Wide Q ⟨lk [(0,u8 mask),(3,uv (wS mask i)),(5,iv i)],lkH []⟩ := by
  intro j
  induction j with
  | zero =>
    intro i hi
    have : i = 8 := by omega
    subst this
    refine loopC_once mixed l1_word_Wide.eq_1 ?_
    simp
    exact hq _
  | succ j ih =>
    intro i hi
    refine loopC_once mixed l1_word_Wide.eq_1 ?_
    have hlt : i < 8 := by omega
    have hlt2 : (i : Int) < 8 := by omega
    have e8 : IntKind.i64.wrap (8 * (i : Int)) = ((8 * i : Nat) : Int) := (i64_same (by omega) (by omega)).trans (by omega)
    have ei : IntKind.i64.wrap ((i : Int) + 1) = ((i + 1 : Nat) : Int) := i64_same (by omega) (by omega)
    have b8 : IntKind.u8.bits = 8 := rfl
    have b64 : IntKind.u64.bits = 64 := rfl
    have hs := ih (i + 1) (by omega)
    rw [wS] at hs
    have e9 : (8 * (i : Int)).toNat = 8 * i := by omega
    simp [hlt,hlt2,e8,ei,b8,b64,e9]
    refine ⟨fun hc => ⟨by omega,?_⟩,fun hc => ?_⟩
    · rw [if_pos hc] at hs
      exact hs
    · rw [if_neg hc] at hs
      exact hs
end
theorem pWide_spec {mask : Int} (h0 : 0≤mask) (h1 : mask < 256) : G.Spec Tryz.prog 146 [u8 mask] (uv (wideN 8 mask.toNat : Nat)) := by
  refine spec_of t_word_Wide (by simp) fun w0 I0 => ?_
  unfold c_word_Wide
  simp
  obtain ⟨m,rfl⟩ := Int.eq_ofNat_of_zero_le h0
  refine mxwide_l1 (fun q => ?_) 8 0 rfl
  simp
  rw [wS_all m (by omega)]
  exact frz_bare rfl
theorem mx_nat {x : Nat} (h : x < 2 ^ 64) : (BitVec.ofInt 64 (x : Int)).toNat = x := by
  rw [BitVec.toNat_ofInt]
  omega
theorem mx_and {x y : Nat} (hx : x < 2 ^ 64) (hy : y < 2 ^ 64) : bits .and .u64 x y = (x &&& y : Nat) := by
  have h := Nat.lt_of_le_of_lt (Nat.and_le_left (n := x) (m := y)) hx
  show IntKind.u64.wrap ((BitVec.ofInt 64 x &&& BitVec.ofInt 64 y).toNat : Nat) = _
  rw [BitVec.toNat_and,mx_nat hx,mx_nat hy]
  exact u64_same (by omega) (by omega)
theorem mx_or {x y : Nat} (hx : x < 2 ^ 64) (hy : y < 2 ^ 64) : bits .or .u64 x y = (x ||| y : Nat) := by
  have h := Nat.or_lt_two_pow hx hy
  show IntKind.u64.wrap ((BitVec.ofInt 64 x ||| BitVec.ofInt 64 y).toNat : Nat) = _
  rw [BitVec.toNat_or,mx_nat hx,mx_nat hy]
  exact u64_same (by omega) (by omega)
theorem mx_andN {x y : Nat} (hx : x < 2 ^ 64) (hy : y < 2 ^ 64) : bits .andNot .u64 x y = (x &&& (256 ^ 8 - 1 - y) : Nat) := by
  have h := Nat.lt_of_le_of_lt (Nat.and_le_left (n := x) (m := 256 ^ 8 - 1 - y)) hx
  show IntKind.u64.wrap ((BitVec.ofInt 64 x &&& ~~~ BitVec.ofInt 64 y).toNat : Nat) = _
  rw [BitVec.toNat_and,BitVec.toNat_not,mx_nat hx,mx_nat hy]
  have e : (2 : Nat) ^ 64 - 1 - y = 256 ^ 8 - 1 - y := rfl
  rw [e]
  exact u64_same (by omega) (by omega)
theorem pMix_spec {a b mask : Int} (ha : u64R a) (hb : u64R b) (h0 : 0≤mask) (h1 : mask < 256) : G.Spec Tryz.prog 126 [uv a,uv b,u8 mask] (uv (mixZ a b mask)) := by
  refine spec_of t_word_Mix (by simp) fun w0 I0 => ?_
  unfold c_word_Mix
  simp
  refine sc_call (pWide_spec h0 h1) (by simp) ?_
  simp
  refine sc_call (pWide_spec h0 h1) (by simp) ?_
  simp
  refine frz_int ?_
  rw [mixZ_nat ha hb h0]
  obtain ⟨x,rfl⟩ := Int.eq_ofNat_of_zero_le ha.1
  obtain ⟨y,rfl⟩ := Int.eq_ofNat_of_zero_le hb.1
  have hx : x < 2 ^ 64 := by have := ha.2; omega
  have hy : y < 2 ^ 64 := by have := hb.2; omega
  have hw : wideN 8 mask.toNat < 2 ^ 64 := wideN_lt 8 _
  rw [mx_andN hx hw,mx_and hy hw,mx_or (Nat.lt_of_le_of_lt Nat.and_le_left hx) (Nat.lt_of_le_of_lt Nat.and_le_left hy)]
  have := mixN_bits 8 x y mask.toNat hx hy
  simp only [Int.toNat_natCast]
  rw [← this]
end Go.Proofs.YthfiijdbnkaabaaGreat

namespace Go.Proofs.YthfiijdbnkaabaaGreat
set_option linter.unusedVariables false
set_option linter.unusedSimpArgs false
open Go Go.G Go.Proofs Go.PL
theorem pNone_spec {t : T} (h : wfT t) : G.Spec Tryz.prog 125 [tX t] (bv (noneT t)) := by
  have hw := (wfT_iff.1 h).wl
  have hk := (wfT_iff.1 h).kl
  refine spec_of t_edit_bare_1 (by simp) fun w0 I0 => ?_
  unfold c_edit_bare_1
  simp
  have e : IntKind.i64.wrap ((t.words.length : Int) + t.kids.length) = (t.words.length : Int) + t.kids.length := i64_same (by omega) (by omega)
  simp [e]
  refine frz_bool ?_
  rw [Bool.eq_iff_iff]
  simp [noneT,List.isEmpty_iff,← List.length_eq_zero_iff]
  omega
def bareB (k : Int) (o n : T) (nw nk : Nat) (l : Int) (no : Nat) : Bool := !(!decide (k = 1) && !(noneT o && noneT n)) && !(!decide (k = 2) && decide (0 < nw + nk)) && (decide (k = 3) || decide (l = 0) && decide (no = 0))
def bareE (e : E) : Bool := bareB e.kind e.old e.new e.words.length e.kids.length e.list e.ops.length
theorem headOk_bare {d : Nat} {k : Int} {o n : T} {nw nk : Nat} {l : Int} {no : Nat} : headOk d k o n nw nk l no = (!(decide (d = 0) || decide (k < 0) || decide (k > 3)) && bareB k o n nw nk l no) := by
  rw [Bool.eq_iff_iff,headOk_iff]
  unfold bareB
  simp only [Bool.and_eq_true,Bool.not_eq_true',Bool.or_eq_false_iff,Bool.or_eq_true,Bool.and_eq_false_iff,decide_eq_false_iff_not,Bool.not_eq_false',decide_eq_true_eq]
  constructor
  · rintro ⟨h1,h2,h3,h4,h5,h6⟩
    refine ⟨⟨⟨h1,by omega⟩,by omega⟩,⟨?_,?_⟩,?_⟩
    · by_cases hk : k = 1
      · exact .inl hk
      · exact .inr (h4 hk)
    · by_cases hk : k = 2
      · exact .inl hk
      · exact .inr (by have := h5 hk; omega)
    · by_cases hk : k = 3
      · exact .inl hk
      · exact .inr (h6 hk)
  · rintro ⟨⟨⟨h1,h2⟩,h3⟩,⟨h4,h5⟩,h6⟩
    refine ⟨h1,by omega,by omega,fun hk => ?_,fun hk => ?_,fun hk => ?_⟩
    · rcases h4 with h4 | h4
      · exact absurd h4 hk
      · exact h4
    · rcases h5 with h5 | h5
      · exact absurd h5 hk
      · omega
    · rcases h6 with h6 | h6
      · exact absurd h6 hk
      · exact h6
set_option maxRecDepth 8000 in
theorem pBare_spec {e : E} (h : WfE e) : G.Spec Tryz.prog 87 [eX e] (bv (bareE e)) := by
  have hwl := h.wl
  have hkl := h.kl
  have hol := h.ol
  have e1 : IntKind.i64.wrap ((e.words.length : Int) + e.kids.length) = (e.words.length : Int) + e.kids.length := i64_same (by omega) (by omega)
  obtain ⟨R,hR⟩ : ∃ R,R = bareE e := ⟨_,rfl⟩
  rw [← hR]
  have c2 : (decide (0 < (e.words.length : Int) + e.kids.length)) = decide (0 < e.words.length + e.kids.length) := by rw [Bool.eq_iff_iff]; simp; omega
  refine spec_of t_edit_bare (by simp) fun w0 I0 => ?_
  unfold c_edit_bare
  unfold bareE at hR
  have cl : decide (e.ops.length = 0) = decide (e.ops = []) := by rw [Bool.eq_iff_iff]; simp
  by_cases k1 : e.kind = 1
  · have k2 : ¬ e.kind = 2 := by omega
    have k3 : ¬ e.kind = 3 := by omega
    have hR' : R = (!decide (0 < e.words.length + e.kids.length) && (decide (e.list = 0) && decide (e.ops = []))) := by
      rw [hR,← cl]; simp [bareB,k1]
    simp [k1]
    rw [sc_guard]; simp
    rw [sc_guard]; simp
    simp [e1,k2,k3]
    refine ⟨fun hc => ?_,fun hc => ?_⟩
    · have a1 : 0 < e.words.length + e.kids.length := by omega
      exact frz_bool (by rw [hR']; simp [a1])
    · have a1 : ¬ 0 < e.words.length + e.kids.length := by omega
      exact frz_bool (by rw [hR']; simp [a1])
  · simp [k1]
    rw [sc_guard]; simp
    refine sc_callv rfl (pNone_spec h.o) rfl ?_
    cases n1 : noneT e.old with
    | false =>
      simp
      rw [sc_guard]; simp
      exact frz_bool (by rw [hR]; simp [bareB,k1,n1])
    | true =>
      simp
      rw [sc_guard]; simp
      refine sc_callv rfl (pNone_spec h.n) rfl ?_
      cases n2 : noneT e.new with
      | false =>
        simp
        exact frz_bool (by rw [hR]; simp [bareB,k1,n1,n2])
      | true =>
        simp
        have hR' : R = (!(!decide (e.kind = 2) && decide (0 < e.words.length + e.kids.length)) && (decide (e.kind = 3) || decide (e.list = 0) && decide (e.ops = []))) := by
          rw [hR,← cl]; simp [bareB,k1,n1,n2]
        by_cases k2 : e.kind = 2
        · have k3 : ¬ e.kind = 3 := by omega
          simp [e1,k2]
          exact frz_bool (by rw [hR']; simp [k2])
        · by_cases k3 : e.kind = 3
          · simp [e1,k3]
            refine ⟨fun hc => ?_,fun hc => ?_⟩
            · have a1 : 0 < e.words.length + e.kids.length := by omega
              exact frz_bool (by rw [hR']; simp [a1,k2])
            · have a1 : ¬ 0 < e.words.length + e.kids.length := by omega
              exact frz_bool (by rw [hR']; simp [a1,k3])
          · simp [e1,k2,k3]
            refine ⟨fun hc => ?_,fun hc => ?_⟩
            · have a1 : 0 < e.words.length + e.kids.length := by omega
              exact frz_bool (by rw [hR']; simp [a1,k2])
            · have a1 : ¬ 0 < e.words.length + e.kids.length := by omega
              exact frz_bool (by rw [hR']; simp [a1,k3,k2])
theorem pValue_spec {t : T} (h : wfT t) : G.Spec Tryz.prog 88 [tX t] (bv (!decide (t.kind = 10) && rightT 64 t)) := by
  refine spec_of t_edit_value (by simp) fun w0 I0 => ?_
  unfold c_edit_value
  by_cases k1 : t.kind = 10
  · simp [k1]
    refine sc_call_off rfl ?_
    simp
    exact frz_bare rfl
  · simp [k1]
    refine sc_call_gt rfl (fun _ => ptRight_spec h) (fun _ => rfl) rfl ?_
    simp
    exact frz_bare rfl
section
variable {n0 : Nat} {w0 : World} {I0 : Nat→Prop} {Q : Exit→Sta→Prop}
theorem pwords_k1 {Q' : Exit→Sta→Prop} {x : WE} (hw : WE.wf x) {a b c d : A} {u : Nat} {H : Hp} (hH : H [0] = ⟨u,.cells [iv x.at_,u8 x.mask,uv x.old,uv x.new]⟩)
    (h1 : (withinZ x.old x.mask && withinZ x.new x.mask) = true→Q' .normal ⟨lk [(0,a),(5,b),(6,c),(7,d),(53,bv false)],H⟩) (h2 : (withinZ x.old x.mask && withinZ x.new x.mask) = false→Q' .ret ⟨lk [(2,bv false)],H⟩) :
    WPC (cx Tryz.prog w0 I0 n0) k1_edit_words Q' ⟨lk [(0,a),(4,.pob [0] u 0),(5,b),(6,c),(7,d)],H⟩ := by
  obtain ⟨w1,w2,w3,w4⟩ := hw
  have z := mix_zero x.old x.mask
  have z2 := mix_zero x.new x.mask
  have u0 : u64R 0 := ⟨by omega,by omega⟩
  rw [k1_edit_words.eq_1]
  simp [hH]
  refine sc_call (pMix_spec w3 u0 w2.1 w2.2) rfl ?_
  by_cases m1 : mixZ x.old 0 x.mask = 0
  · rw [m1] at z ⊢
    simp [hH]
    refine sc_call_gf rfl (fun _ => pMix_spec w4 u0 w2.1 w2.2) (fun _ => rfl) rfl ?_
    by_cases m2 : mixZ x.new 0 x.mask = 0
    · rw [m2] at z2 ⊢
      simp
      exact h1 (by rw [← z,← z2]; simp)
    · simp [m2]
      exact h2 (by rw [← z,← z2]; simp [m2])
  · simp [m1]
    refine sc_call_off rfl ?_
    simp
    exact h2 (by rw [← z]; simp [m1])
theorem pwords_l1 {ws : List WE} (hl : ws.length * 32≤140737488355328) (hw : ∀ x,x ∈ ws→WE.wf x) : ∀ (m i : Nat) (last : Int) (H : Hp),i + m = ws.length→-1≤last→(i = 0→last = -1)→(∀ h : 0 < i∧i≤ws.length,ws[i - 1].at_ = last) →
    (wordsOk last (ws.drop i) = true→∀ q H',Q (.exit 0) ⟨lk [(0,wKs ws),(5,wKs ws),(6,iv ws.length),(7,iv ws.length),(8,bv q)],H'⟩)→(wordsOk last (ws.drop i) = false→∀ H',Q .ret ⟨lk [(2,bv false)],H'⟩) →
    LoopC (cx Tryz.prog w0 I0 n0) l1_edit_words Q ⟨lk [(0,wKs ws),(5,wKs ws),(6,iv ws.length),(7,iv i)],H⟩ := by
  intro m
  induction m with
  | zero =>
    intro i last H hi hm h0 hp h1 h2
    have : i = ws.length := by omega
    subst this
    refine loopC_once mixed l1_edit_words.eq_1 ?_
    simp
    exact h1 (by simp [wordsOk]) _ _
  | succ m ihm =>
    intro i last H hi hm h0 hp h1 h2
    have hlt : i < ws.length := by omega
    have ed : ws.drop i = ws[i] :: ws.drop (i + 1) := List.drop_eq_getElem_cons hlt
    have ei : IntKind.i64.wrap ((i : Int) + 1) = ((i + 1 : Nat) : Int) := i64_same (by omega) (by omega)
    obtain ⟨w1,w2,w3,w4⟩ := hw _ (List.getElem_mem hlt)
    have next := fun H' (hr : wordOk last ws[i] = true) => ihm (i + 1) ws[i].at_ H' (by omega) (by
      simp [wordOk] at hr
      omega) (fun h => by omega) (fun h => rfl) (fun hh => h1 (by rw [ed,wordsOk,hr,hh]; rfl)) (fun hh => h2 (by rw [ed,wordsOk,hr,hh]; rfl))
    have bad : wordOk last ws[i] = false→∀ H',Q .ret ⟨lk [(2,bv false)],H'⟩ := fun hr => h2 (by rw [ed,wordsOk,hr]; rfl)
    clear h1 h2 ed ihm
    generalize hx : ws[i] = x at *
    have hok : wordOk last x = !(decide (x.at_≤last) || decide (65534 < x.at_) || decide (x.mask = 0) || !withinZ x.old x.mask || !withinZ x.new x.mask) := rfl
    refine loopC_once mixed l1_edit_words.eq_1 ?_
    by_cases hA : x.at_ < 0∨65535≤x.at_∨x.at_≤last∨x.mask = 0
    · have hb : wordOk last x = false := by
        rw [hok]
        rcases hA with h | h | h | h
        · have : x.at_≤last := by omega
          simp [this]
        · have : 65534 < x.at_ := by omega
          simp [this]
        · simp [h]
        · simp [h]
      by_cases i0 : i = 0
      · have hl1 := h0 i0
        subst i0
        have : (decide (x.at_ < 0) || decide (65535≤x.at_) || decide (x.mask = 0)) = true := by simp; omega
        simp [hx,hlt,updF_app,this]
        exact bad hb _
      · have i1 : 0 < i := by omega
        have hpi := hp ⟨i1,by omega⟩
        have em : IntKind.i64.wrap ((i : Int) - 1) = ((i - 1 : Nat) : Int) := by rw [i64_same (by omega) (by omega)]; omega
        have : (decide (x.at_ < 0) || decide (65535≤x.at_) || decide (x.at_≤last) || decide (x.mask = 0)) = true := by simp; omega
        have hlt1 : i - 1 < ws.length := by omega
        simp [hx,hlt,i1,em,hlt1,hpi,updF_app,this]
        exact bad hb _
    · have c1 : ¬ x.at_ < 0 := by omega
      have c2 : ¬ 65535≤x.at_ := by omega
      have c3 : ¬ x.at_≤last := by omega
      have c4 : ¬ x.mask = 0 := by omega
      have c2' : ¬ 65534 < x.at_ := by omega
      have hok' : wordOk last x = (withinZ x.old x.mask && withinZ x.new x.mask) := by rw [hok]; simp [c2',c3,c4]
      have wfx : WE.wf x := ⟨w1,w2,w3,w4⟩
      by_cases i0 : i = 0
      · subst i0
        simp [hx,hlt,updF_app,c1,c2,c4]
        refine stop_go (pwords_k1 wfx (by simp [updF_app]) (fun hr => ?_) (fun hr => ?_))
        · simp at ei
          simp [ei]
          exact next _ (by rw [hok',hr])
        · simp
          exact bad (by rw [hok',hr]) _
      · have i1 : 0 < i := by omega
        have hpi := hp ⟨i1,by omega⟩
        have em : IntKind.i64.wrap ((i : Int) - 1) = ((i - 1 : Nat) : Int) := by rw [i64_same (by omega) (by omega)]; omega
        have hlt1 : i - 1 < ws.length := by omega
        simp [hx,hlt,i1,em,hlt1,hpi,updF_app,c1,c2,c3,c4]
        refine stop_go (pwords_k1 wfx (by simp [updF_app]) (fun hr => ?_) (fun hr => ?_))
        · simp [ei]
          exact next _ (by rw [hok',hr])
        · simp
          exact bad (by rw [hok',hr]) _
end
theorem pWords_spec {ws : List WE} (hl : ws.length * 32≤140737488355328) (hw : ∀ x,x ∈ ws→WE.wf x) : G.Spec Tryz.prog 89 [wKs ws] (bv (wordsOk (-1) ws)) := by
  refine spec_of t_edit_words (by simp) fun w0 I0 => ?_
  unfold c_edit_words
  simp
  refine pwords_l1 hl hw ws.length 0 (-1) _ (by simp) (by omega) (fun _ => rfl) (fun h => by omega) (fun hr q H' => ?_) (fun hr H' => ?_)
  · simp
    exact frz_bool (by simpa using hr.symm)
  · simp
    exact frz_bool (by simpa using hr.symm)
end Go.Proofs.YthfiijdbnkaabaaGreat

namespace Go.Proofs.YthfiijdbnkaabaaGreat
set_option linter.unusedVariables false
set_option linter.unusedSimpArgs false
open Go Go.G Go.Proofs Go.PL
abbrev PRightS (e : E) : Prop := ∀ d : Nat,d≤1000→G.Spec Tryz.prog 57 [eX e,iv d] (bv (rightE d e))
section
variable {n0 : Nat} {w0 : World} {I0 : Nat→Prop} {Q : Exit→Sta→Prop}
theorem pkids_l1 {ks : List KE} {d : Nat} (hd : d≤1000) (hl : ks.length * 208≤140737488355328) (ih : ∀ x,x ∈ ks→PRightS x.e) : ∀ (m i : Nat) (last : Int) (H : Hp),i + m = ks.length→-1≤last→(i = 0→last = -1)→(∀ h : 0 < i∧i≤ks.length,ks[i - 1].at_ = last) →
    (rightKs d last (ks.drop i) = true→∀ q H',Q (.exit 0) ⟨lk [(0,kKs ks),(1,iv d),(7,kKs ks),(8,iv ks.length),(9,iv ks.length),(10,bv q)],H'⟩)→(rightKs d last (ks.drop i) = false→∀ H',Q .ret ⟨lk [(4,bv false)],H'⟩) →
    LoopC (cx Tryz.prog w0 I0 n0) l1_edit_kids Q ⟨lk [(0,kKs ks),(1,iv d),(7,kKs ks),(8,iv ks.length),(9,iv i)],H⟩ := by
  intro m
  induction m with
  | zero =>
    intro i last H hi hm h0 hp h1 h2
    have : i = ks.length := by omega
    subst this
    refine loopC_once mixed l1_edit_kids.eq_1 ?_
    simp
    exact h1 (by simp) _ _
  | succ m ihm =>
    intro i last H hi hm h0 hp h1 h2
    have hlt : i < ks.length := by omega
    have ed : ks.drop i = ks[i] :: ks.drop (i + 1) := List.drop_eq_getElem_cons hlt
    have ei : IntKind.i64.wrap ((i : Int) + 1) = ((i + 1 : Nat) : Int) := i64_same (by omega) (by omega)
    have ihx := ih _ (List.getElem_mem hlt) d hd
    have next := fun H' (ha : last < ks[i].at_∧ks[i].at_≤65534) (hk : ¬ ks[i].e.kind = 0) (hr : rightE d ks[i].e = true) => ihm (i + 1) ks[i].at_ H' (by omega) (by omega) (fun h => by omega) (fun h => rfl)
      (fun hh => h1 (by rw [ed,rightKs_cons,hr,hh]; simp [hk]; omega)) (fun hh => h2 (by rw [ed,rightKs_cons,hr,hh]; simp))
    have bad : (ks[i].at_≤last∨65534 < ks[i].at_∨ks[i].e.kind = 0∨rightE d ks[i].e = false)→∀ H',Q .ret ⟨lk [(4,bv false)],H'⟩ := fun hr => h2 (by
      rw [ed,rightKs_cons]
      rcases hr with h | h | h | h <;> simp [h])
    clear h1 h2 ed ihm
    generalize hx : ks[i] = x at *
    refine loopC_once mixed l1_edit_kids.eq_1 ?_
    by_cases hA : x.at_ < 0∨65535≤x.at_∨x.at_≤last∨x.e.kind = 0
    · have hb := bad (by omega)
      by_cases i0 : i = 0
      · have hl1 := h0 i0
        subst i0
        have : (decide (x.at_ < 0) || decide (65535≤x.at_) || decide (x.e.kind = 0)) = true := by simp; omega
        simp [hx,hlt,updF_app,this]
        refine sc_call_off rfl ?_
        simp [this]
        exact hb _
      · have i1 : 0 < i := by omega
        have hpi := hp ⟨i1,by omega⟩
        have em : IntKind.i64.wrap ((i : Int) - 1) = ((i - 1 : Nat) : Int) := by rw [i64_same (by omega) (by omega)]; omega
        have : (decide (x.at_ < 0) || decide (65535≤x.at_) || decide (x.at_≤last) || decide (x.e.kind = 0)) = true := by simp; omega
        have hlt1 : i - 1 < ks.length := by omega
        simp [hx,hlt,i1,em,hlt1,hpi,updF_app,this]
        refine sc_call_off rfl ?_
        simp [this]
        exact hb _
    · have c1 : ¬ x.at_ < 0 := by omega
      have c2 : ¬ 65535≤x.at_ := by omega
      have c3 : ¬ x.at_≤last := by omega
      have c4 : ¬ x.e.kind = 0 := by omega
      by_cases i0 : i = 0
      · subst i0
        simp [hx,hlt,updF_app,c1,c2,c4]
        refine sc_call_gf rfl (fun _ => ihx) (fun _ => rfl) rfl ?_
        cases hr : rightE d x.e with
        | false => simp; exact bad (.inr (.inr (.inr hr))) _
        | true =>
          simp at ei
          simp [ei]
          exact next _ (by omega) c4 hr
      · have i1 : 0 < i := by omega
        have hpi := hp ⟨i1,by omega⟩
        have em : IntKind.i64.wrap ((i : Int) - 1) = ((i - 1 : Nat) : Int) := by rw [i64_same (by omega) (by omega)]; omega
        have hlt1 : i - 1 < ks.length := by omega
        simp [hx,hlt,i1,em,hlt1,hpi,updF_app,c1,c2,c3,c4]
        refine sc_call_gf rfl (fun _ => ihx) (fun _ => rfl) rfl ?_
        cases hr : rightE d x.e with
        | false => simp; exact bad (.inr (.inr (.inr hr))) _
        | true => simp [ei]; exact next _ (by omega) c4 hr
end
theorem pKids_spec {ks : List KE} {d : Nat} (hd : d≤1000) (hl : ks.length * 208≤140737488355328) (ih : ∀ x,x ∈ ks→PRightS x.e) : G.Spec Tryz.prog 90 [kKs ks,iv d] (bv (rightKs d (-1) ks)) := by
  refine spec_of t_edit_kids (by simp) fun w0 I0 => ?_
  unfold c_edit_kids
  simp
  refine pkids_l1 hd hl ih ks.length 0 (-1) _ (by simp) (by omega) (fun _ => rfl) (fun h => by omega) (fun hr q H' => ?_) (fun hr H' => ?_)
  · simp
    exact frz_bool (by simpa using hr.symm)
  · simp
    exact frz_bool (by simpa using hr.symm)
theorem wf_one {list : Int} (hk : i64R list) {t : T} (h : wfT t) : wfT (.mk list [] [t]) := wfT_iff.2 ⟨hk,by simp,by simp,by simp,fun x hx => by simp at hx; rw [hx]; exact h⟩
theorem peKid_spec {list : Int} (hk : i64R list) {t : T} (h : wfT t) : G.Spec Tryz.prog 149 [iv list,tX t] (bv (rightT 64 (.mk list [] [t]))) := by
  refine spec_of t_edit_kid (by simp) fun w0 I0 => ?_
  unfold c_edit_kid
  simp
  refine sc_calle rfl ((ptRight_spec (wf_one hk h)).soft (by simp [A.softL,A.soft,soft_uv,soft_tKs])) rfl ?_
  simp
  exact frz_bare rfl
def withinB (list : Int) (e : E) : Bool := !(isData list || decide (e.kind = 0)) && ((decide (list = 8) || decide (e.kind = 2)) || (decide (e.kind = 1) && decide (e.old.kind = 1) && decide (e.new.kind = 1)))
set_option maxRecDepth 8000 in
theorem pWithin_spec (list : Int) (e : E) : G.Spec Tryz.prog 150 [iv list,eX e] (bv (withinB list e)) := by
  obtain ⟨R,hR⟩ : ∃ R,R = withinB list e := ⟨_,rfl⟩
  rw [← hR]
  unfold withinB at hR
  refine spec_of t_edit_within (by simp) fun w0 I0 => ?_
  unfold c_edit_within
  simp
  refine sc_call (data_spec list) rfl ?_
  cases hd : isData list with
  | true => simp; exact frz_bool (by rw [hR]; simp [hd])
  | false =>
    by_cases k0 : e.kind = 0
    · simp [k0]; exact frz_bool (by rw [hR]; simp [k0])
    · by_cases l8 : list = 8
      · simp [k0,l8]; exact frz_bool (by rw [hR]; simp [hd,k0,l8,isData])
      · by_cases k2 : e.kind = 2
        · simp [l8,k2]; exact frz_bool (by rw [hR]; simp [hd,k2])
        · by_cases k1 : e.kind = 1
          · simp [l8,k1]; exact frz_bool (by rw [hR]; simp [hd,k1,l8])
          · simp [k0,l8,k2,k1]; exact frz_bool (by rw [hR]; simp [hd,k0,k1,k2,l8])
abbrev boxI (list : Int) : A := .pim [iv list]
theorem opKid_spec {list : Int} (hk : i64R list) {t : T} (h : wfT t) : G.Spec Tryz.prog 148 [tX t,boxI list] (bv (!rightT 64 (.mk list [] [t]))) := by
  refine spec_of t_edit_op_1 (by simp) fun w0 I0 => ?_
  unfold c_edit_op_1
  simp
  refine sc_call (peKid_spec hk h) rfl ?_
  simp
  exact frz_bare rfl
def idxZ (p : T→Bool) : Nat→List T→Int
  | _,[] => -1
  | i,t :: l => if p t = true then i else idxZ p (i + 1) l
theorem idxZ_any (p : T→Bool) : ∀ (l : List T) (i : Nat),decide (0≤idxZ p i l) = l.any p
  | [],i => rfl
  | t :: l,i => by
    rw [idxZ,List.any_cons]
    cases h : p t with
    | true => simp
    | false => simp only [Bool.false_eq_true,if_false,Bool.false_or]; exact idxZ_any p l (i + 1)
abbrev clo (list : Int) : A := .fnc 148 [] [boxI list]
section
variable {n0 : Nat} {w0 : World} {I0 : Nat→Prop} {Q : Exit→Sta→Prop}
theorem index_l1 {list : Int} (hk : i64R list) {l : List T} (hl : l.length * 56≤140737488355328) (hw : ∀ t,t ∈ l→wfT t) {R : Int} {H : Hp} : ∀ (m i : Nat),i + m = l.length→R = idxZ (fun t => !rightT 64 (.mk list [] [t])) i (l.drop i) →
    (R = -1→∀ q,Q (.exit 0) ⟨lk [(0,tKs l),(1,clo list),(7,iv l.length),(8,iv l.length),(9,bv q)],H⟩)→(Q .ret ⟨lk [(4,iv R)],H⟩) →
    LoopC (cx Tryz.prog w0 I0 n0) l1_slices_IndexFunc_api_Tree_api_Tree Q ⟨lk [(0,tKs l),(1,clo list),(7,iv l.length),(8,iv i)],H⟩ := by
  intro m
  induction m with
  | zero =>
    intro i hi hR h1 h2
    have : i = l.length := by omega
    subst this
    refine loopC_once mixed l1_slices_IndexFunc_api_Tree_api_Tree.eq_1 ?_
    simp
    exact h1 (by rw [hR]; simp [idxZ]) _
  | succ m ih =>
    intro i hi hR h1 h2
    have hlt : i < l.length := by omega
    have ed : l.drop i = l[i] :: l.drop (i + 1) := List.drop_eq_getElem_cons hlt
    have ei : IntKind.i64.wrap ((i : Int) + 1) = ((i + 1 : Nat) : Int) := i64_same (by omega) (by omega)
    rw [ed,idxZ] at hR
    refine loopC_once mixed l1_slices_IndexFunc_api_Tree_api_Tree.eq_1 ?_
    simp [hlt]
    refine sc_callv rfl (opKid_spec hk (hw _ (List.getElem_mem hlt))) rfl ?_
    cases hr : rightT 64 (.mk list [] [l[i]]) with
    | false =>
      rw [if_pos (by rw [hr]; rfl)] at hR
      simp
      rw [← hR]
      exact h2
    | true =>
      rw [if_neg (by rw [hr]; simp)] at hR
      simp [ei]
      exact ih (i + 1) (by omega) hR h1 h2
end
theorem pIndex_spec {list : Int} (hk : i64R list) {l : List T} (hl : l.length * 56≤140737488355328) (hw : ∀ t,t ∈ l→wfT t) : G.Spec Tryz.prog 161 [tKs l,clo list] (iv (idxZ (fun t => !rightT 64 (.mk list [] [t])) 0 l)) := by
  refine spec_of t_slices_IndexFunc_api_Tree_api_Tree (by simp) fun w0 I0 => ?_
  unfold c_slices_IndexFunc_api_Tree_api_Tree
  simp
  refine index_l1 hk hl hw l.length 0 (by simp) rfl (fun hR q => ?_) ?_
  · simp
    exact frz_int (by simpa using hR.symm)
  · simp
    exact frz_int (by simp)
theorem pContains_spec {list : Int} (hk : i64R list) {l : List T} (hl : l.length * 56≤140737488355328) (hw : ∀ t,t ∈ l→wfT t) : G.Spec Tryz.prog 147 [tKs l,clo list] (bv (l.any fun t => !rightT 64 (.mk list [] [t]))) := by
  refine spec_of t_slices_ContainsFunc_api_Tree_api_Tree (by simp) fun w0 I0 => ?_
  unfold c_slices_ContainsFunc_api_Tree_api_Tree
  simp
  refine sc_call (pIndex_spec hk hl hw) rfl ?_
  simp
  exact frz_bool (idxZ_any _ l 0)
theorem same_right {e : E} : (rightE 1 e && decide (e.kind = 0)) = sameE e := by
  rw [Bool.eq_iff_iff,Bool.and_eq_true,decide_eq_true_eq]
  constructor
  · rintro ⟨h,h0⟩
    obtain ⟨k,o,n,ws,ks,l,os⟩ := e
    have R := rightE_iff.1 h
    have h0 : k = 0 := h0
    subst h0
    obtain ⟨rfl,rfl⟩ := R.one (by omega)
    obtain ⟨rfl,rfl⟩ := R.two (by omega)
    obtain ⟨rfl,rfl⟩ := R.three (by omega)
    rfl
  · intro h
    rw [sameE_eq h]
    refine ⟨rightE_iff.2 ⟨by omega,by omega,by omega,fun _ => ⟨rfl,rfl⟩,fun _ => ⟨rfl,rfl⟩,fun _ => ⟨rfl,rfl⟩,fun h => by omega,rfl,by simp,fun h => by omega,by simp,by simp [lengths]⟩,rfl⟩
end Go.Proofs.YthfiijdbnkaabaaGreat

namespace Go.Proofs.YthfiijdbnkaabaaGreat
set_option linter.unusedVariables false
set_option linter.unusedSimpArgs false
open Go Go.G Go.Proofs Go.PL
abbrev oL (o : OP) : List A := iv o.kind :: iv o.n :: tKs o.l :: eL o.e
section
variable {n0 : Nat} {w0 : World} {I0 : Nat→Prop} {Q : Exit→Sta→Prop}
theorem pop_k1 {list : Int} (hk : i64R list) {o : OP} (h : WfO o) (ih : PRightS o.e) {H : Hp} (hH : H [1] = ⟨1,.cells (oL o)⟩) {R : Bool} (hR : R = (decide (o.n = 0) && !o.l.isEmpty && sameE o.e && (o.l.all fun t => rightT 64 (.mk list [] [t])))) :
    WPC (cx Tryz.prog w0 I0 n0) k1_edit_op (RetC Tryz.prog [.tmp 6] (bv R)) ⟨lk [(3,boxI list),(4,.pob [1] 1 0)],H⟩ := by
  have hll := h.ll
  rw [k1_edit_op.eq_1]
  have ih1 := ih 1 (by omega)
  rw [← same_right] at hR
  by_cases c1 : o.n = 0
  rotate_left
  · simp [hH,c1]
    refine sc_call_off rfl ?_
    simp [hH]
    refine sc_call_off rfl ?_
    simp
    exact frz_bool (by rw [hR]; simp [c1])
  by_cases c2 : o.l = []
  · simp [hH,c1,c2]
    refine sc_call_off rfl ?_
    simp [hH,c2]
    refine sc_call_off rfl ?_
    simp
    exact frz_bool (by rw [hR]; simp [c2])
  have c2' : 0 < o.l.length := List.length_pos_iff.2 c2
  have c2e : o.l.isEmpty = false := by cases hh : o.l <;> simp_all
  simp [hH,c1,c2']
  refine sc_call_gt rfl (fun _ => ih1) (fun _ => rfl) rfl ?_
  cases hr : rightE 1 o.e with
  | false =>
    simp [hH,c1,c2']
    refine sc_call_off rfl ?_
    simp
    exact frz_bool (by rw [hR,hr]; simp)
  | true =>
    by_cases c4 : o.e.kind = 0
    · simp [hH,c4]
      refine sc_call_gt rfl (fun _ => pContains_spec hk hll h.l) (fun _ => rfl) rfl ?_
      simp
      refine frz_bool ?_
      rw [hR,hr,c1,c4,c2e]
      simp [List.all_eq_not_any_not]
    · simp [hH,c4]
      refine sc_call_off rfl ?_
      simp
      exact frz_bool (by rw [hR]; simp [c4])
end
set_option maxRecDepth 8000 in
theorem pOp_spec {list : Int} (hk : 2≤list∧list≤9) {o : OP} (h : WfO o) (ih : PRightS o.e) {d : Nat} (hd : d≤1000) : G.Spec Tryz.prog 127 [iv list,oX o,iv d] (bv (rightO d list o)) := by
  have he := wfE_iff.1 h.e
  have hll := h.ll
  have hk64 : i64R list := ⟨by omega,by omega⟩
  obtain ⟨R,hR⟩ : ∃ R,R = rightO d list o := ⟨_,rfl⟩
  rw [← hR]
  rw [rightO_eq] at hR
  unfold opFlat at hR
  refine spec_of t_edit_op (by simp) fun w0 I0 => ?_
  unfold c_edit_op
  have stopper : (o.kind = 1∨o.kind = 2)→StopK (cx Tryz.prog w0 I0 90) (WPC (cx Tryz.prog w0 I0 90) k1_edit_op (RetC Tryz.prog [.tmp 6] (bv R))) ⟨lk [(3,.pob [0] 1 0),(4,.pob [1] 1 0)],lkH [([0],⟨1,.cells [iv list]⟩),([1],⟨1,.cells (oL o)⟩)]⟩ := fun hkk => by
    refine stop_le (le_freezeL (c := cx Tryz.prog w0 I0 90) [[0]] 3 (boxI list) (fun _ _ h => h) ?_) (stop_le (le_list [(3,boxI list),(4,.pob [1] 1 0)] (by simp [upd])) (stop_go ?_))
    · exact frz_pob (cs := [iv list]) (by simp [onlyH]) ⟨frz_bare rfl,trivial⟩ rfl
    · simp [lessH]
      refine pop_k1 hk64 h ih ?_ ?_
      · first | rfl | simp
      rw [hR,if_neg (by omega)]
      by_cases c1 : o.n = 0
      · rw [if_neg (by omega),if_pos (by omega),if_neg (by omega)]
        simp [c1]
        cases o.l.isEmpty <;> simp [Bool.and_comm]
      · rw [if_pos (by omega)]
        simp [c1]
  by_cases k0 : o.kind = 0
  · rw [if_pos k0,if_neg (by omega),Bool.and_true,← same_right] at hR
    simp [k0]
    by_cases c : 1≤o.n∧o.n≤1048576∧o.l = []
    · obtain ⟨a,b,c⟩ := c
      simp [a,b,c]
      refine sc_call_gt rfl (fun _ => ih 1 (by omega)) (fun _ => rfl) rfl ?_
      simp
      refine frz_bool ?_
      rw [hR]
      simp [a,b,c]
    · have hc : (decide (1≤o.n) && decide (o.n≤1048576) && decide (o.l = [])) = false := by
        rw [Bool.eq_false_iff]; intro e; simp at e; exact c ⟨e.1.1,e.1.2,e.2⟩
      simp [hc]
      refine sc_call_off rfl ?_
      simp [hc]
      refine frz_bool ?_
      rw [hR]
      have : (decide (1≤o.n) && decide (o.n≤1048576) && o.l.isEmpty) = false := by
        rw [← hc]; cases o.l <;> simp
      rw [this]
      rfl
  by_cases k1 : o.kind = 1
  · simp [k1]
    repeat rw [InBlock_other (by decide)]
    try simp
    repeat rw [InBlock_other (by decide)]
    try simp
    repeat rw [InBlock_other (by decide)]
    try simp
    have := stopper (.inl k1)
    unfold oL at this
    rw [k1] at this
    exact this
  by_cases k2 : o.kind = 2
  · simp [k2]
    repeat rw [InBlock_other (by decide)]
    try simp
    repeat rw [InBlock_other (by decide)]
    try simp
    repeat rw [InBlock_other (by decide)]
    try simp
    have := stopper (.inr k2)
    unfold oL at this
    rw [k2] at this
    exact this
  by_cases k3 : o.kind = 3
  · rw [if_neg k0,if_pos k3] at hR
    simp [k3]
    repeat rw [InBlock_other (by decide)]
    try simp
    repeat rw [InBlock_other (by decide)]
    try simp
    repeat rw [InBlock_other (by decide)]
    try simp
    have hfit : withinB list o.e = (!decide (o.e.kind = 0) && !decide (list≤7) && opFit list o) := by
      have hd7 : isData list = decide (list≤7) := by rw [Bool.eq_iff_iff]; simp [isData]; omega
      unfold withinB opFit
      rw [hd7]
      cases decide (list≤7) <;> cases decide (o.e.kind = 0) <;> simp [Bool.or_assoc]
    by_cases c : o.n = 0∧o.l = []
    · obtain ⟨c1,c2⟩ := c
      have hR' : R = (withinB list o.e && rightE d o.e) := by
        rw [hR,if_neg (by omega),if_neg (by omega),hfit]
        unfold opDeep
        rw [c2]
        cases rightE d o.e <;> simp
      simp [c1,c2]
      refine sc_call_gt rfl (fun _ => pWithin_spec list o.e) (fun _ => rfl) rfl ?_
      cases hw : withinB list o.e with
      | false =>
        simp
        refine sc_call_off rfl ?_
        simp
        exact frz_bool (by rw [hR',hw]; rfl)
      | true =>
        simp
        refine sc_call_gt rfl (fun _ => ih d hd) (fun _ => rfl) rfl ?_
        simp
        exact frz_bool (by rw [hR',hw]; simp)
    · have hc : (decide (o.n = 0) && decide (o.l = [])) = false := by
        rw [Bool.eq_false_iff]; intro e; simp at e; exact c e
      simp [hc]
      refine sc_call_off rfl ?_
      simp [hc]
      refine sc_call_off rfl ?_
      simp [hc]
      refine frz_bool ?_
      rw [hR]
      by_cases c1 : o.n = 0
      · have c2 : o.l.isEmpty = false := by
          cases hh : o.l with
          | nil => exact absurd ⟨c1,hh⟩ c
          | cons x l => rfl
        unfold opDeep
        rw [c2]
        simp
      · rw [if_pos (by omega)]
        rfl
  · simp [k0,k1,k2,k3]
    repeat rw [InBlock_other (by decide)]
    try simp
    repeat rw [InBlock_other (by decide)]
    try simp
    repeat rw [InBlock_other (by decide)]
    try simp
    refine frz_bool ?_
    rw [hR,if_neg k0,if_pos (by omega)]
    rfl
theorem sat_min (n : Int) : min n 1048576 = sat n := by unfold sat; split <;> omega
section
variable {n0 : Nat} {w0 : World} {I0 : Nat→Prop} {Q : Exit→Sta→Prop}
theorem plen_k2 {Q' : Exit→Sta→Prop} {o : OP} {a b z : Int} {x y i : A} {u : Nat} {H : Hp} (hH : H [1] = ⟨u,.cells (oL o)⟩) (a0 : 0≤a) (a1 : a≤1048576) (b0 : 0≤b) (b1 : b≤1048576) (z0 : 0≤z) (z1 : z < 100000000000000)
    (h : Q' .normal ⟨lk [(4,iv (sat (if o.kind = 2 then a else a + z))),(5,iv (sat (if o.kind = 1 then b else b + z))),(10,x),(11,y),(12,i)],H⟩)
    (h' : Q' .normal ⟨lk [(4,iv (sat (if o.kind = 2 then a else a + z))),(5,iv (sat (if o.kind = 1 then b else b + z))),(8,iv z),(10,x),(11,y),(12,i),(34,bv false)],H⟩) :
    WPC (cx Tryz.prog w0 I0 n0) k2_edit_Lengths Q' ⟨lk [(4,iv a),(5,iv b),(7,.pob [1] u 0),(8,iv z),(10,x),(11,y),(12,i)],H⟩ := by
  have ea : IntKind.i64.wrap (a + z) = a + z := i64_same (by omega) (by omega)
  have eb : IntKind.i64.wrap (b + z) = b + z := i64_same (by omega) (by omega)
  have sa : sat a = a := by unfold sat; rw [if_neg (by omega)]
  have sb : sat b = b := by unfold sat; rw [if_neg (by omega)]
  rw [k2_edit_Lengths.eq_1]
  by_cases h2 : o.kind = 2
  · have h1 : ¬ o.kind = 1 := by omega
    simp [hH,h2]
    rw [k1_edit_Lengths.eq_1]
    simp [hH,h2,eb,sat_min]
    simpa [h2,sa] using h
  · by_cases h1 : o.kind = 1
    · simp [hH,h1,ea,sat_min]
      rw [k1_edit_Lengths.eq_1]
      simp [hH,h1]
      simpa [h1,sb] using h'
    · simp [hH,h2,ea,sat_min]
      rw [k1_edit_Lengths.eq_1]
      simp [hH,h1,eb,sat_min]
      simpa [h1,h2] using h
theorem plen_l1 {os : List OP} (hl : os.length * 240≤140737488355328) (ho : ∀ x,x ∈ os→0≤x.n∧x.n≤1048576∧x.l.length * 56≤140737488355328) : ∀ (m i : Nat) (a b : Int) (H : Hp),i + m = os.length→0≤a→a≤1048576→0≤b→b≤1048576 →
    (∀ q H',Q (.exit 0) ⟨lk [(4,iv (lengths a b (os.drop i)).1),(5,iv (lengths a b (os.drop i)).2),(10,oKs os),(11,iv os.length),(12,iv os.length),(13,bv q)],H'⟩) →
    LoopC (cx Tryz.prog w0 I0 n0) l1_edit_Lengths Q ⟨lk [(4,iv a),(5,iv b),(10,oKs os),(11,iv os.length),(12,iv i)],H⟩ := by
  intro m
  induction m with
  | zero =>
    intro i a b H hi a0 a1 b0 b1 hq
    have : i = os.length := by omega
    subst this
    refine loopC_once mixed l1_edit_Lengths.eq_1 ?_
    simp
    simpa [lengths] using hq false H
  | succ m ih =>
    intro i a b H hi a0 a1 b0 b1 hq
    have hlt : i < os.length := by omega
    have ed : os.drop i = os[i] :: os.drop (i + 1) := List.drop_eq_getElem_cons hlt
    have ei : IntKind.i64.wrap ((i : Int) + 1) = ((i + 1 : Nat) : Int) := i64_same (by omega) (by omega)
    obtain ⟨n1,n2,n3⟩ := ho _ (List.getElem_mem hlt)
    rw [ed] at hq
    generalize ho' : os[i] = o at *
    have next : ∀ (a' b' : Int) H',a' = sat (if o.kind = 2 then a else a + opLen o)→b' = sat (if o.kind = 1 then b else b + opLen o)→LoopC (cx Tryz.prog w0 I0 n0) l1_edit_Lengths Q ⟨lk [(4,iv a'),(5,iv b'),(10,oKs os),(11,iv os.length),(12,iv ((i + 1 : Nat) : Int))],H'⟩ := fun a' b' H' ha hb => by
      have h0 : 0≤opLen o∧opLen o < 100000000000000 := by unfold opLen; split <;> omega
      have s1 := sat_range (n := if o.kind = 2 then a else a + opLen o) (by split <;> omega)
      have s2 := sat_range (n := if o.kind = 1 then b else b + opLen o) (by split <;> omega)
      refine ih (i + 1) a' b' H' (by omega) (by omega) (by omega) (by omega) (by omega) fun q H2 => ?_
      have := hq q H2
      have f1 : (if o.kind ≠ 2 then a + opLen o else a) = if o.kind = 2 then a else a + opLen o := by by_cases e : o.kind = 2 <;> simp [e]
      have f2 : (if o.kind ≠ 1 then b + opLen o else b) = if o.kind = 1 then b else b + opLen o := by by_cases e : o.kind = 1 <;> simp [e]
      rw [lengths,f1,f2,← ha,← hb] at this
      exact this
    have h0 : 0≤opLen o∧opLen o < 100000000000000 := by unfold opLen; split <;> omega
    refine loopC_once mixed l1_edit_Lengths.eq_1 ?_
    have e1 : IntKind.i64.wrap (o.n + (o.l.length : Int)) = o.n + o.l.length := i64_same (by omega) (by omega)
    simp [hlt,ho',updF_app,e1]
    refine ⟨fun h3 => ?_,fun h3 => ?_⟩
    · have ez : opLen o = 1 := by simp [opLen,h3]
      refine plen_k2 (o := o) (u := (H [1]).u + 1) (z := 1) (by simp [updF_app]) (by omega) (by omega) (by omega) (by omega) (by omega) (by omega) ?_ ?_
      all_goals
        simp [ei]
        rw [ez] at next
        exact next _ _ _ rfl rfl
    · have ez : opLen o = o.n + o.l.length := by simp [opLen,h3]
      rw [← ez]
      refine plen_k2 (o := o) (u := (H [1]).u + 1) (z := opLen o) (by simp [updF_app]) (by omega) (by omega) (by omega) (by omega) (by omega) (by omega) ?_ ?_
      all_goals
        simp [ei]
        exact next _ _ _ rfl rfl
end
theorem pLengths_spec {e : E} (hl : e.ops.length * 240≤140737488355328) (ho : ∀ x,x ∈ e.ops→0≤x.n∧x.n≤1048576∧x.l.length * 56≤140737488355328) : G.Spec Tryz.prog 128 [eX e] (.tup [iv (lengths 0 0 e.ops).1,iv (lengths 0 0 e.ops).2]) := by
  refine spec_of t_edit_Lengths (by simp) fun w0 I0 => ?_
  unfold c_edit_Lengths
  simp
  refine plen_l1 (os := e.ops) hl ho e.ops.length 0 0 0 _ (by omega) (by omega) (by omega) (by omega) (by omega) fun q H' => ?_
  simp
  exact frz_bare rfl
section
variable {n0 : Nat} {w0 : World} {I0 : Nat→Prop} {Q : Exit→Sta→Prop}
theorem pops_l1 {e : E} {d : Nat} (hd : d≤1000) (hk : 2≤e.list∧e.list≤9) (hl : e.ops.length * 240≤140737488355328) (hw : ∀ x,x ∈ e.ops→WfO x) (ih : ∀ x,x ∈ e.ops→PRightS x.e) : ∀ (m i : Nat) (H : Hp),i + m = e.ops.length→H [0] = ⟨1,.cells (eL e)⟩ →
    (rightOs d e.list (e.ops.drop i) = true→∀ q H',H' [0] = ⟨1,.cells (eL e)⟩→Q (.exit 0) ⟨lk [(1,iv d),(2,.pob [0] 1 0),(10,oKs e.ops),(11,iv e.ops.length),(12,iv e.ops.length),(13,bv q)],H'⟩)→(rightOs d e.list (e.ops.drop i) = false→∀ H',Q .ret ⟨lk [(4,bv false)],H'⟩) →
    LoopC (cx Tryz.prog w0 I0 n0) l1_edit_ops Q ⟨lk [(1,iv d),(2,.pob [0] 1 0),(10,oKs e.ops),(11,iv e.ops.length),(12,iv i)],H⟩ := by
  intro m
  induction m with
  | zero =>
    intro i H hi hA h1 h2
    have : i = e.ops.length := by omega
    subst this
    refine loopC_once mixed l1_edit_ops.eq_1 ?_
    simp
    exact h1 (by simp) _ _ hA
  | succ m ihm =>
    intro i H hi hA h1 h2
    have hlt : i < e.ops.length := by omega
    have ed : e.ops.drop i = e.ops[i] :: e.ops.drop (i + 1) := List.drop_eq_getElem_cons hlt
    have ei : IntKind.i64.wrap ((i : Int) + 1) = ((i + 1 : Nat) : Int) := i64_same (by omega) (by omega)
    have hop := pOp_spec hk (hw _ (List.getElem_mem hlt)) (ih _ (List.getElem_mem hlt)) hd
    rw [ed,rightOs_cons] at h1 h2
    refine loopC_once mixed l1_edit_ops.eq_1 ?_
    simp [hA,hlt,updF_app]
    refine sc_call hop rfl ?_
    cases hr : rightO d e.list e.ops[i] with
    | false =>
      simp
      exact h2 (by simp [hr]) _
    | true =>
      simp [ei]
      exact ihm (i + 1) _ (by omega) (by simp [updF_app,hA]) (fun hh => h1 (by simp [hr,hh])) (fun hh => h2 (by simp [hh]))
end
theorem pOps_spec {e : E} (hw : WfE e) {d : Nat} (hd : d≤1000) (hk : 2≤e.list∧e.list≤9) (ih : ∀ x,x ∈ e.ops→PRightS x.e) : G.Spec Tryz.prog 92 [eX e,iv d] (bv (rightOs d e.list e.ops && (decide ((lengths 0 0 e.ops).1 < 1048576) && decide ((lengths 0 0 e.ops).2 < 1048576)))) := by
  refine spec_of t_edit_ops (by simp) fun w0 I0 => ?_
  unfold c_edit_ops
  simp
  refine pops_l1 hd hk hw.ol hw.os ih e.ops.length 0 _ (by omega) (by simp) (fun hr q H' hA => ?_) (fun hr H' => ?_)
  · simp only [List.drop_zero] at hr
    simp [hA]
    refine sc_call (pLengths_spec hw.ol (fun x hx => ⟨(op_n (rightOs_all.1 hr x hx)).1,(op_n (rightOs_all.1 hr x hx)).2,(hw.os x hx).ll⟩)) rfl ?_
    simp
    refine frz_bool ?_
    rw [hr]
    simp
  · simp only [List.drop_zero] at hr
    simp
    exact frz_bool (by rw [hr]; rfl)
set_option maxRecDepth 10000 in
theorem pright_all : ∀ (e : E),wfE e→PRightS e := by
  refine E.ind fun k o nn ws ks l os ihk iho hw d hd => ?_
  have h := wfE_iff.1 hw
  have hb := pBare_spec h
  obtain ⟨R,hR⟩ : ∃ R,R = rightE d (.mk k o nn ws ks l os) := ⟨_,rfl⟩
  rw [← hR]
  rw [rightE_mk,headOk_bare] at hR
  have eb : bareE (.mk k o nn ws ks l os) = bareB k o nn ws.length ks.length l os.length := rfl
  rw [eb] at hb
  have ed : 1≤d→IntKind.i64.wrap ((d : Int) - 1) = ((d - 1 : Nat) : Int) := fun h => by rw [i64_same (by omega) (by omega)]; omega
  refine spec_of t_edit_right (by simp) fun w0 I0 => ?_
  unfold c_edit_right
  simp
  refine sc_call hb rfl ?_
  generalize hB : bareB k o nn ws.length ks.length l os.length = B at hR
  cases B with
  | false =>
    simp
    refine frz_bool ?_
    rw [hR]
    simp
  | true =>
    by_cases hd0 : d = 0
    · subst hd0
      simp
      refine frz_bool ?_
      rw [hR]
      simp
    have ed' := ed (by omega)
    have hh := headOk_bare (d := d) (k := k) (o := o) (n := nn) (nw := ws.length) (nk := ks.length) (l := l) (no := os.length)
    rw [hB] at hh
    simp only [Bool.and_true] at hR hh
    by_cases kr : k < 0∨3 < k
    · have k0 : ¬ k = 0 := by omega
      have k1 : ¬ k = 1 := by omega
      have k2 : ¬ k = 2 := by omega
      have k3 : ¬ k = 3 := by omega
      simp [hd0,k0,k1,k2,k3]
      refine frz_bool ?_
      rw [hR,if_pos]
      simp
      omega
    have hh1 : headOk d k o nn ws.length ks.length l os.length = true := by
      rw [hh]
      simp
      omega
    obtain ⟨_,k0,k3,c1,c2,c3⟩ := headOk_iff.1 hh1
    rw [← hh,if_neg (by rw [hh1]; simp)] at hR
    have hk : k = 0∨k = 1∨k = 2∨k = 3 := by omega
    rcases hk with rfl | rfl | rfl | rfl
    · obtain ⟨w0',s0⟩ := c2 (by omega)
      obtain ⟨l0,o0⟩ := c3 (by omega)
      obtain rfl := List.eq_nil_of_length_eq_zero w0'
      obtain rfl := List.eq_nil_of_length_eq_zero s0
      obtain rfl := List.eq_nil_of_length_eq_zero o0
      simp [hd0]
      refine frz_bool ?_
      rw [hR]
      simp [wordsOk,lengths]
    · simp [hd0]
      refine sc_call (pValue_spec h.o) rfl ?_
      simp
      refine sc_call_gt rfl (fun _ => pValue_spec h.n) (fun e => by simp [e]) rfl ?_
      simp
      refine frz_bool ?_
      rw [hR]
      simp
      cases rightT 64 o <;> cases rightT 64 nn <;> simp <;> rfl
    · obtain ⟨l0,o0⟩ := c3 (by omega)
      obtain rfl := List.eq_nil_of_length_eq_zero o0
      simp [hd0]
      refine sc_call (pWords_spec h.wl h.w) rfl ?_
      simp [ed']
      refine sc_call_gt rfl (fun _ => pKids_spec (d := d - 1) (by omega) h.kl (fun x hx => ihk x hx (h.ks x hx).2)) (fun e => by simp [e]) rfl ?_
      simp
      refine frz_bool ?_
      rw [hR]
      cases wordsOk (-1) ws <;> cases rightKs (d - 1) (-1) ks <;> simp [lengths]
    · obtain ⟨w0',s0⟩ := c2 (by omega)
      obtain rfl := List.eq_nil_of_length_eq_zero w0'
      obtain rfl := List.eq_nil_of_length_eq_zero s0
      simp [hd0]
      refine sc_call (tList_spec l) rfl ?_
      by_cases hl : 2≤l∧l≤9
      · have hl' : ¬ (l < 2∨l > 9) := by omega
        simp [hl.1,hl.2,ed']
        refine sc_call_gt rfl (fun _ => pOps_spec (e := .mk 3 o nn [] [] l os) (d := d - 1) h (by omega) hl (fun x hx => iho x hx (h.os x hx).e)) (fun e => rfl) rfl ?_
        simp
        refine frz_bool ?_
        rw [hR]
        simp [wordsOk,hl']
        cases rightOs (d - 1) l os <;> simp <;> rfl
      · have hl' : l < 2∨l > 9 := by omega
        have hf : (decide (2≤l) && decide (l≤9)) = false := by rw [Bool.eq_false_iff]; intro e; simp at e; omega
        simp [hf]
        refine sc_call_off rfl ?_
        simp
        refine frz_bool ?_
        rw [hR]
        simp [wordsOk,hl']
theorem peRight_spec {e : E} (h : wfE e) : G.Spec Tryz.prog 29 [eX e] (bv (rightE 64 e)) := by
  refine spec_of t_edit_Right (by simp) fun w0 I0 => ?_
  unfold c_edit_Right
  simp
  refine sc_call (pright_all e h 64 (by omega)) rfl ?_
  simp
  exact frz_bare rfl
end Go.Proofs.YthfiijdbnkaabaaGreat

namespace Go.Proofs.YthfiijdbnkaabaaGreat
set_option linter.unusedVariables false
set_option linter.unusedSimpArgs false
open Go Go.G Go.Proofs Go.PL
mutual
def niceE : E→Prop
  | .mk _ _ _ _ ks _ os => (∀ x,x ∈ os→0≤x.n∧x.n≤1048576)∧niceKs ks∧niceOs os
def niceKs : List KE→Prop
  | [] => True
  | .mk _ e :: l => niceE e∧niceKs l
def niceOs : List OP→Prop
  | [] => True
  | .mk _ _ _ e :: l => niceE e∧niceOs l
end
theorem niceKs_all : ∀ {l : List KE},niceKs l ↔ ∀ x,x ∈ l→niceE x.e
  | [] => by simp [niceKs]
  | .mk a e :: l => by simp [niceKs,niceKs_all (l := l)]
theorem niceOs_all : ∀ {l : List OP},niceOs l ↔ ∀ x,x ∈ l→niceE x.e
  | [] => by simp [niceOs]
  | .mk k n t e :: l => by simp [niceOs,niceOs_all (l := l)]
theorem nice_E0 {e : E} (h : sameE e = true) : niceE e := by
  obtain ⟨k,o,n,ws,ks,l,os⟩ := e
  simp [sameE,List.isEmpty_iff] at h
  obtain ⟨⟨_,⟨_,h1⟩,h2⟩,_⟩ := h
  subst h1 h2
  simp [niceE,niceKs,niceOs]
theorem nice_right : ∀ (e : E) (d : Nat),rightE d e = true→niceE e := by
  refine E.ind fun k o n ws ks l os ihk iho d h => ?_
  rw [rightE_mk] at h
  split at h
  · cases h
  rename_i hh
  obtain ⟨d0,k0,k3,c1,c2,c3⟩ := headOk_spec hh
  have e0 : ∀ {l : List KE},l.length = 0→niceKs l := fun h => by rw [List.eq_nil_of_length_eq_zero h]; simp [niceKs]
  have e1 : ∀ {l : List OP},l.length = 0→niceOs l∧∀ x,x ∈ l→0≤x.n∧x.n≤1048576 := fun h => by rw [List.eq_nil_of_length_eq_zero h]; simp [niceOs]
  rw [niceE]
  by_cases h1 : k = 1
  · have a := e1 (c3 (by omega)).2
    exact ⟨a.2,e0 (c2 (by omega)).2,a.1⟩
  · rw [if_neg h1] at h
    split at h
    · cases h
    split at h
    · cases h
    rename_i hk
    split at h
    · cases h
    split at h
    · cases h
    rename_i ho
    simp only [Bool.not_eq_false] at hk ho
    have hk1 := kids_at hk
    have ho1 := rightOs_all.1 ho
    refine ⟨fun x hx => op_n (ho1 x hx),niceKs_all.2 fun x hx => ihk x hx _ (hk1 x hx).2.2.2,niceOs_all.2 fun x hx => ?_⟩
    have := ho1 x hx
    rw [rightO_eq,Bool.and_eq_true] at this
    obtain ⟨f1,f2⟩ := this
    by_cases k3 : x.kind = 3
    · rw [if_pos k3] at f2
      simp at f2
      exact iho x hx _ f2.1.2
    · unfold opFlat at f1
      split at f1
      · simp at f1; exact nice_E0 f1.2
      · split at f1
        · cases f1
        · rw [if_pos (by omega)] at f1
          simp at f1; exact nice_E0 f1.2
abbrev LightS (e : E) : Prop := G.Spec Tryz.prog 24 [eX e] (bv (lightE e))
section
variable {n0 : Nat} {w0 : World} {I0 : Nat→Prop} {Q : Exit→Sta→Prop}
theorem elight_l1 {e : E} (hl : e.kids.length * 208≤140737488355328) (ih : ∀ x,x ∈ e.kids→LightS x.e) {H : Hp} (hA : H [0] = ⟨1,.cells (eL e)⟩) : ∀ (m i : Nat),i + m = e.kids.length →
    (lightKs (e.kids.drop i) = true→∀ i' q,Q (.exit 0) ⟨lk [(1,.pob [0] 1 0),(5,iv i'),(22,bv q)],H⟩)→(lightKs (e.kids.drop i) = false→Q .ret ⟨lk [(2,bv false)],H⟩) →
    LoopC (cx Tryz.prog w0 I0 n0) l1_centoref20_Light Q ⟨lk [(1,.pob [0] 1 0),(5,iv i)],H⟩ := by
  intro m
  induction m with
  | zero =>
    intro i hi h1 h2
    have : i = e.kids.length := by omega
    subst this
    refine loopC_once mixed l1_centoref20_Light.eq_1 ?_
    simp [hA]
    exact h1 (by simp) _ _
  | succ m ihm =>
    intro i hi h1 h2
    have hlt : i < e.kids.length := by omega
    have ed : e.kids.drop i = e.kids[i] :: e.kids.drop (i + 1) := List.drop_eq_getElem_cons hlt
    have ei : IntKind.i64.wrap ((i : Int) + 1) = ((i + 1 : Nat) : Int) := i64_same (by omega) (by omega)
    rw [ed,lightKs_cons] at h1 h2
    refine loopC_once mixed l1_centoref20_Light.eq_1 ?_
    simp [hA,hlt]
    refine sc_call (ih _ (List.getElem_mem hlt)) rfl ?_
    cases hr : lightE e.kids[i].e with
    | false =>
      simp
      exact h2 (by simp [hr])
    | true =>
      simp [ei]
      exact ihm (i + 1) (by omega) (fun hh => h1 (by simp [hr,hh])) (fun hh => h2 (by simp [hh]))
theorem elight_l2 {e : E} (hl : e.ops.length * 240≤140737488355328) (ih : ∀ x,x ∈ e.ops→LightS x.e) {H : Hp} (hA : H [0] = ⟨1,.cells (eL e)⟩) : ∀ (m i : Nat),i + m = e.ops.length →
    (lightOs (e.ops.drop i) = true→∀ i' q,Q (.exit 2) ⟨lk [(1,.pob [0] 1 0),(6,iv i'),(37,bv q)],H⟩)→(lightOs (e.ops.drop i) = false→Q .ret ⟨lk [(2,bv false)],H⟩) →
    LoopC (cx Tryz.prog w0 I0 n0) l2_centoref20_Light Q ⟨lk [(1,.pob [0] 1 0),(6,iv i)],H⟩ := by
  intro m
  induction m with
  | zero =>
    intro i hi h1 h2
    have : i = e.ops.length := by omega
    subst this
    refine loopC_once mixed l2_centoref20_Light.eq_1 ?_
    simp [hA]
    exact h1 (by simp) _ _
  | succ m ihm =>
    intro i hi h1 h2
    have hlt : i < e.ops.length := by omega
    have ed : e.ops.drop i = e.ops[i] :: e.ops.drop (i + 1) := List.drop_eq_getElem_cons hlt
    have ei : IntKind.i64.wrap ((i : Int) + 1) = ((i + 1 : Nat) : Int) := i64_same (by omega) (by omega)
    rw [ed,lightOs_cons] at h1 h2
    refine loopC_once mixed l2_centoref20_Light.eq_1 ?_
    simp [hA,hlt]
    refine sc_call (ih _ (List.getElem_mem hlt)) rfl ?_
    cases hr : lightE e.ops[i].e with
    | false =>
      simp
      exact h2 (by simp [hr])
    | true =>
      simp [ei]
      exact ihm (i + 1) (by omega) (fun hh => h1 (by simp [hr,hh])) (fun hh => h2 (by simp [hh]))
end
theorem elight_spec : ∀ (e : E),wfE e→niceE e→LightS e := by
  refine E.ind fun k o nn ws ks l os ihk iho hw hn => ?_
  have h := wfE_iff.1 hw
  rw [niceE,niceKs_all,niceOs_all] at hn
  obtain ⟨n1,n2,n3⟩ := hn
  refine spec_of t_centoref20_Light (by simp) fun w0 I0 => ?_
  unfold c_centoref20_Light
  rw [lightE_mk]
  simp
  refine sc_call (rLengths_spec (e := .mk k o nn ws ks l os) h.ol (fun x hx => ⟨(n1 x hx).1,(n1 x hx).2,(h.os x hx).ll⟩)) rfl ?_
  simp
  refine ⟨fun hc => ?_,fun a b => ?_⟩
  · refine frz_bool ?_
    rcases hc with hc | hc <;> simp [hc]
  · have a' : ¬ 2000 < (lengths 0 0 os).1 := by omega
    have b' : ¬ 2000 < (lengths 0 0 os).2 := by omega
    refine elight_l1 (e := .mk k o nn ws ks l os) h.kl (fun x hx => ihk x hx (h.ks x hx).2 (n2 x hx)) (by simp) ks.length 0 (by simp) (fun hr i' q => ?_) (fun hr => ?_)
    · simp at hr
      simp
      refine elight_l2 (e := .mk k o nn ws ks l os) h.ol (fun x hx => iho x hx (h.os x hx).e (n3 x hx)) (by simp) os.length 0 (by simp) (fun hr2 i' q => ?_) (fun hr2 => ?_)
      · simp at hr2
        simp
        exact frz_bool (by simp [a',b',hr,hr2])
      · simp at hr2
        simp
        exact frz_bool (by simp [hr2])
    · simp at hr
      simp
      exact frz_bool (by simp [hr])
def goodE (e : E) : Bool := fewE e && rightE 64 e && lightE e
theorem good_spec {e : E} (h : wfE e) : G.Spec Tryz.prog 8 [eX e] (bv (goodE e)) := by
  refine spec_of t_centoref20_Good (by simp) fun w0 I0 => ?_
  unfold c_centoref20_Good
  simp
  refine sc_call (fewE_spec h) rfl ?_
  simp
  refine sc_call_gt rfl (fun _ => eright_spec e h 64 (by omega)) (fun e => by simp [e]) rfl ?_
  simp
  by_cases hr : rightE 64 e = true
  · refine sc_call_gt rfl (fun _ => elight_spec e h (nice_right e 64 hr)) (fun e => by simp at e; simp [e]) rfl ?_
    simp
    exact frz_bool rfl
  · simp at hr
    simp [hr]
    refine sc_call_off rfl ?_
    simp
    exact frz_bool (by simp [goodE,hr])
end Go.Proofs.YthfiijdbnkaabaaGreat

namespace Go.Proofs.YthfiijdbnkaabaaGreat
set_option linter.unusedVariables false
set_option linter.unusedSimpArgs false
open Go Go.G Go.Proofs Go.PL
mutual
def smE : Int→E→Prop
  | N,.mk _ _ _ ws ks _ os => ws.length≤N∧ks.length≤N∧os.length≤N∧smKs N ks∧smOs N os
def smKs : Int→List KE→Prop
  | _,[] => True
  | N,.mk _ e :: l => smE N e∧smKs N l
def smOs : Int→List OP→Prop
  | _,[] => True
  | N,.mk _ _ _ e :: l => smE N e∧smOs N l
end
theorem smKs_all {N : Int} : ∀ {l : List KE},smKs N l ↔ ∀ x,x ∈ l→smE N x.e
  | [] => by simp [smKs]
  | .mk a e :: l => by simp [smKs,smKs_all (l := l)]
theorem smOs_all {N : Int} : ∀ {l : List OP},smOs N l ↔ ∀ x,x ∈ l→smE N x.e
  | [] => by simp [smOs]
  | .mk k n t e :: l => by simp [smOs,smOs_all (l := l)]
mutual
theorem left_sm {N : Int} : ∀ (e : E) (d : Nat) (n : Int),n≤N→0≤leftE d n e→leftE d n e≤n - 1∧smE N e
  | .mk k o nn ws ks l os,d,n,hn,h => by
    rw [leftE_mk] at h ⊢
    rw [smE]
    split at h
    · omega
    rename_i hc
    rw [if_neg hc]
    have h1 := shallow_range o 80 (n - 1 - ws.length - os.length)
    have h2 := shallow_range nn 80 (shallow 80 (n - 1 - ws.length - os.length) o)
    have h3 : left2 n ws.length os.length o nn≤n - 1 - ws.length - os.length := by rw [left2_eq]; split <;> omega
    obtain ⟨a1,a2,a3⟩ := leftOs_sm (N := N) os (d - 1) _ h (by
      have := leftKs_range ks (d - 1) (left2 n ws.length os.length o nn) (by rw [left2_eq]; split <;> omega)
      omega)
    obtain ⟨b1,b2,b3⟩ := leftKs_sm (N := N) ks (d - 1) _ a3 (by omega)
    exact ⟨by omega,by omega,by omega,by omega,b2,a2⟩
theorem leftKs_sm {N : Int} : ∀ (l : List KE) (d : Nat) (n : Int),0≤leftKs d n l→n≤N→leftKs d n l≤n - l.length∧smKs N l∧0≤n
  | [],d,n,h,hn => by simp at h; simp [smKs]; omega
  | .mk a e :: l,d,n,h,hn => by
    rw [leftKs_cons] at h ⊢
    split at h
    · omega
    rename_i hc
    rw [if_neg hc]
    simp only [KE.e_mk] at h ⊢
    have h1 := leftE_range e d n
    obtain ⟨b1,b2,b3⟩ := leftKs_sm (N := N) l d _ h (by omega)
    obtain ⟨c1,c2⟩ := left_sm (N := N) e d n hn b3
    rw [smKs]
    exact ⟨by simp; omega,⟨c2,b2⟩,by omega⟩
theorem leftOs_sm {N : Int} : ∀ (l : List OP) (d : Nat) (n : Int),0≤leftOs d n l→n≤N→leftOs d n l≤n∧smOs N l∧0≤n
  | [],d,n,h,hn => by simp at h; simp [smOs]; omega
  | .mk k m t e :: l,d,n,h,hn => by
    rw [leftOs_cons] at h ⊢
    split at h
    · omega
    rename_i hc
    rw [if_neg hc]
    simp only [OP.e_mk,OP.l_mk] at h ⊢
    have h0 := shallowL_range t 80 n (by omega)
    have h1 := leftE_range e d (shallowL 80 n t)
    have h3 : (if shallowL 80 n t < 0 then shallowL 80 n t else leftE d (shallowL 80 n t) e)≤n := by split <;> omega
    obtain ⟨b1,b2,b3⟩ := leftOs_sm (N := N) l d _ h (by exact Int.le_trans h3 hn)
    rw [smOs]
    refine ⟨Int.le_trans b1 h3,⟨?_,b2⟩,by omega⟩
    by_cases hs : shallowL 80 n t < 0
    · simp only [hs,if_true] at b3
      omega
    · simp only [hs,if_false] at b3
      exact (left_sm (N := N) e d _ (by omega) b3).2
end
theorem few_sm {e : E} (h : fewE e = true) : smE 1048575 e := (left_sm (N := 1048575) e 80 3000 (by omega) (by simpa [fewE] using h)).2
theorem frz_rowF {α : Type} {H : Hp} {o : Nm} {u n sz : Nat} {l : List α} {f g : α→A} (h : vr (H o) u = some (sz,l.map f)) (hn : n = l.length)
    (hf : ∀ x,x ∈ l→(f x).cells.all A.bare = true∧(f x).cells.map A.soft = (g x).cells∧(g x).cells.length = sz∧A.ones (g x).cells = true) : Frz H (.osl o u sz 0 n) (.sl false (l.map g)) := by
  subst hn
  refine frz_osl' (xs := l.map f) (by simpa using h) (by simp) (by simp) (fun y hy => ?_) ?_ ?_
  · obtain ⟨x,hx,rfl⟩ := List.mem_map.1 hy
    exact (hf x hx).2.2.1
  · simp only [A.ones,List.all_eq_true,List.mem_flatMap]
    rintro y ⟨z,hz,hy⟩
    obtain ⟨x,hx,rfl⟩ := List.mem_map.1 hz
    have := (hf x hx).2.2.2
    simp only [A.ones,List.all_eq_true] at this
    exact this y hy
  · rw [List.drop_zero,List.take_of_length_le (by simp)]
    have : ∀ (m : List α),(∀ x,x ∈ m→x ∈ l)→FrzL H ((m.map f).flatMap A.cells) ((m.map g).flatMap A.cells) := by
      intro m
      induction m with
      | nil => intro _; simp
      | cons x m ih =>
        intro hm
        obtain ⟨h1,h2,_,_⟩ := hf x (hm x (by simp))
        simp only [List.map_cons,List.flatMap_cons]
        rw [← h2]
        have hr := ih fun y hy => hm y (by simp [hy])
        have : ∀ (c : List A) (p q : List A),c.all A.bare = true→FrzL H p q→FrzL H (c ++ p) (c.map A.soft ++ q) := by
          intro c
          induction c with
          | nil => intro p q _ hpq; exact hpq
          | cons y c ihc =>
            intro p q hc hpq
            simp only [List.all_cons,Bool.and_eq_true] at hc
            exact ⟨frz_soft hc.1,ihc p q hc.2 hpq⟩
        exact this _ _ _ h1 hr
    exact this l fun x h => h
theorem row_spec (l : List T) : G.Spec Tryz.prog 39 [tKs l] (tX (rowT' l)) := by
  refine spec_of t_centoref27_row (by simp) fun w0 I0 => ?_
  unfold c_centoref27_row
  cases l with
  | nil => simp; exact frz_T0
  | cons t l =>
    simp
    refine ⟨fun h => absurd h (by omega),fun _ => ?_⟩
    exact frz_agg (by simp; exact ⟨frz_bare rfl,frz_sl,frz_is rfl (by simp)⟩)
theorem u64_i64 (x : Int) : IntKind.u64.wrap (IntKind.i64.wrap x) = u64m x := by
  rw [IntKind.wrap_u64,IntKind.wrap_i64]; unfold u64m; omega
theorem u64_1 (k l : Int) : IntKind.u64.wrap (IntKind.i64.wrap (k + IntKind.i64.wrap (256 * l))) = u64m (k + 256 * l) := by
  rw [i64_add_r,u64_i64]
theorem u64_2 (a m : Int) : IntKind.u64.wrap (IntKind.u64.wrap a + IntKind.u64.wrap (4294967296 * IntKind.u64.wrap m)) = u64m (a + 4294967296 * m) := by
  simp only [IntKind.wrap_u64]; unfold u64m; omega
def wRaw (w : WE) : A := .agg [iv 1,.sl true [uv (u64m (w.at_ + 4294967296 * w.mask)),uv w.old,uv w.new],.sl true []]
def kRaw (x : KE) : A := .agg [iv 1,.sl true [uv (u64m x.at_)],.sl true [tX (treeE x.e)]]
def oRaw (list : Int) (x : OP) : A := .agg [iv 1,.sl true [uv (u64m (x.kind + 256 * x.n))],if x.kind = 3 then .sl true [tX (treeE x.e)] else if x.kind > 0 then .sl true [.agg [iv list,.sl true [],tKs x.l]] else .sl true []]
@[simp] theorem wRaw_cells (w : WE) : (wRaw w).cells = [iv 1,.sl true [uv (u64m (w.at_ + 4294967296 * w.mask)),uv w.old,uv w.new],.sl true []] := rfl
@[simp] theorem kRaw_cells (x : KE) : (kRaw x).cells = [iv 1,.sl true [uv (u64m x.at_)],.sl true [tX (treeE x.e)]] := rfl
@[simp] theorem oRaw_cells (list : Int) (x : OP) : (oRaw list x).cells = [iv 1,.sl true [uv (u64m (x.kind + 256 * x.n))],if x.kind = 3 then .sl true [tX (treeE x.e)] else if x.kind > 0 then .sl true [.agg [iv list,.sl true [],tKs x.l]] else .sl true []] := rfl
section
variable {n0 : Nat} {w0 : World} {I0 : Nat→Prop} {Q : Exit→Sta→Prop}
theorem tree_l1 {e : E} (hl : e.words.length≤1048575) {v1 v2 : VOb} : ∀ (m i u : Nat) (H : Hp),i + m = e.words.length→H [0] = ⟨1,.cells (eL e)⟩→H [1] = v1→H [2] = v2→H [4] = ⟨u,.arr 3 ((e.words.take i).map wRaw)⟩ →
    (∀ i' q u' H',H' [0] = ⟨1,.cells (eL e)⟩→H' [1] = v1→H' [2] = v2→H' [4] = ⟨u',.arr 3 (e.words.map wRaw)⟩→Q (.exit 3) ⟨lk [(1,.pob [0] 1 0),(2,.pob [1] 1 0),(3,.pob [2] 1 0),(4,.osl [4] u' 3 0 e.words.length),(5,.sl true []),(6,iv i'),(87,bv q)],H'⟩) →
    LoopC (cx Tryz.prog w0 I0 n0) l1_centoref27_Tree Q ⟨lk [(1,.pob [0] 1 0),(2,.pob [1] 1 0),(3,.pob [2] 1 0),(4,.osl [4] u 3 0 i),(5,.sl true []),(6,iv i)],H⟩ := by
  intro m
  induction m with
  | zero =>
    intro i u H hi h0 h1 h2 h4 hq
    have : i = e.words.length := by omega
    subst this
    refine loopC_once mixed l1_centoref27_Tree.eq_1 ?_
    simp [h0]
    exact hq _ _ u H h0 h1 h2 (by rw [h4]; simp)
  | succ m ihm =>
    intro i u H hi h0 h1 h2 h4 hq
    have hlt : i < e.words.length := by omega
    have ei : IntKind.i64.wrap ((i : Int) + 1) = ((i + 1 : Nat) : Int) := i64_same (by omega) (by omega)
    refine loopC_once mixed l1_centoref27_Tree.eq_1 ?_
    simp [h0,hlt,updF_app,h4,u64_2]
    refine ⟨⟨by omega,by omega⟩,?_⟩
    have hrow := row_succ (f := wRaw) hlt rfl
    rw [ei]
    exact ihm (i + 1) (u + 1) _ (by omega) (by simp [updF_app,h0]) (by simp [updF_app,h1]) (by simp [updF_app,h2]) (by simp only [updF_app,if_true]; exact congrArg (fun r => (⟨u + 1,.arr 3 r⟩ : VOb)) hrow) hq
theorem tree_l2 {e : E} (hl : e.kids.length≤1048575) (ih : ∀ x,x ∈ e.kids→G.Spec Tryz.prog 15 [eX x.e] (tX (treeE x.e))) {v1 v2 v4 : VOb} {a4 : A} : ∀ (m i u : Nat) (H : Hp),i + m = e.kids.length→H [0] = ⟨1,.cells (eL e)⟩→H [1] = v1→H [2] = v2→H [4] = v4→H [5] = ⟨u,.arr 3 ((e.kids.take i).map kRaw)⟩ →
    (∀ i' q u' H',H' [0] = ⟨1,.cells (eL e)⟩→H' [1] = v1→H' [2] = v2→H' [4] = v4→H' [5] = ⟨u',.arr 3 (e.kids.map kRaw)⟩→Q (.exit 5) ⟨lk [(1,.pob [0] 1 0),(2,.pob [1] 1 0),(3,.pob [2] 1 0),(4,a4),(5,.osl [5] u' 3 0 e.kids.length),(8,iv i'),(116,bv q)],H'⟩) →
    LoopC (cx Tryz.prog w0 I0 n0) l2_centoref27_Tree Q ⟨lk [(1,.pob [0] 1 0),(2,.pob [1] 1 0),(3,.pob [2] 1 0),(4,a4),(5,.osl [5] u 3 0 i),(8,iv i)],H⟩ := by
  intro m
  induction m with
  | zero =>
    intro i u H hi h0 h1 h2 h4 h5 hq
    have : i = e.kids.length := by omega
    subst this
    refine loopC_once mixed l2_centoref27_Tree.eq_1 ?_
    simp [h0]
    exact hq _ _ u H h0 h1 h2 h4 (by rw [h5]; simp)
  | succ m ihm =>
    intro i u H hi h0 h1 h2 h4 h5 hq
    have hlt : i < e.kids.length := by omega
    have ei : IntKind.i64.wrap ((i : Int) + 1) = ((i + 1 : Nat) : Int) := i64_same (by omega) (by omega)
    have eu : IntKind.u64.wrap e.kids[i].at_ = u64m e.kids[i].at_ := by rw [IntKind.wrap_u64]; rfl
    refine loopC_once mixed l2_centoref27_Tree.eq_1 ?_
    simp [h0,hlt,updF_app,h5]
    refine sc_call (ih _ (List.getElem_mem hlt)) rfl ?_
    simp [h0,hlt,updF_app,h5,eu]
    refine ⟨⟨by omega,by omega⟩,?_⟩
    have hrow := row_succ (f := kRaw) hlt rfl
    rw [ei]
    exact ihm (i + 1) (u + 1) _ (by omega) (by simp [updF_app,h0]) (by simp [updF_app,h1]) (by simp [updF_app,h2]) (by simp [updF_app,h4]) (by simp only [updF_app,if_true]; exact congrArg (fun r => (⟨u + 1,.arr 3 r⟩ : VOb)) hrow) hq
theorem tree_l3 {e : E} (hl : e.ops.length≤1048575) (ih : ∀ x,x ∈ e.ops→G.Spec Tryz.prog 15 [eX x.e] (tX (treeE x.e))) {v1 v2 : VOb} : ∀ (m i u : Nat) (H : Hp),i + m = e.ops.length→H [0] = ⟨1,.cells (eL e)⟩→H [1] = v1→H [2] = v2→H [8] = ⟨u,.arr 3 ((e.ops.take i).map (oRaw e.list))⟩ →
    (∀ i' q u' H',H' [0] = ⟨1,.cells (eL e)⟩→H' [1] = v1→H' [2] = v2→H' [8] = ⟨u',.arr 3 (e.ops.map (oRaw e.list))⟩→Q (.exit 1) ⟨lk [(1,.pob [0] 1 0),(2,.pob [1] 1 0),(3,.pob [2] 1 0),(4,.osl [8] u' 3 0 e.ops.length),(9,iv i'),(27,bv q)],H'⟩) →
    LoopC (cx Tryz.prog w0 I0 n0) l3_centoref27_Tree Q ⟨lk [(1,.pob [0] 1 0),(2,.pob [1] 1 0),(3,.pob [2] 1 0),(4,.osl [8] u 3 0 i),(9,iv i)],H⟩ := by
  intro m
  induction m with
  | zero =>
    intro i u H hi h0 h1 h2 h4 hq
    have : i = e.ops.length := by omega
    subst this
    refine loopC_once mixed l3_centoref27_Tree.eq_1 ?_
    simp [h0]
    exact hq _ _ u H h0 h1 h2 (by rw [h4]; simp)
  | succ m ihm =>
    intro i u H hi h0 h1 h2 h4 hq
    have hlt : i < e.ops.length := by omega
    have ei : IntKind.i64.wrap ((i : Int) + 1) = ((i + 1 : Nat) : Int) := i64_same (by omega) (by omega)
    have ihx := ih _ (List.getElem_mem hlt)
    have hrow : ∀ x,oRaw e.list e.ops[i] = x→List.take i (List.take i (e.ops.map (oRaw e.list))) ++ [x] = (e.ops.take (i + 1)).map (oRaw e.list) := fun x hx => row_succ (f := oRaw e.list) hlt hx
    have next : ∀ H' (x : A),H' [0] = ⟨1,.cells (eL e)⟩→H' [1] = v1→H' [2] = v2→oRaw e.list e.ops[i] = x→H' [8] = ⟨u + 1,.arr 3 (List.take i (List.take i (e.ops.map (oRaw e.list))) ++ [x])⟩→LoopC (cx Tryz.prog w0 I0 n0) l3_centoref27_Tree Q ⟨lk [(1,.pob [0] 1 0),(2,.pob [1] 1 0),(3,.pob [2] 1 0),(4,.osl [8] (u + 1) 3 0 (i + 1)),(9,iv ((i + 1 : Nat) : Int))],H'⟩ := fun H' x a0 a1 a2 hx a4 =>
      ihm (i + 1) (u + 1) H' (by omega) a0 a1 a2 (by rw [a4,hrow x hx]) hq
    refine loopC_once mixed l3_centoref27_Tree.eq_1 ?_
    generalize ho : e.ops[i] = o at *
    by_cases h3 : o.kind = 3
    · simp [h0,hlt,ho,updF_app,h4,u64_1,h3]
      refine sc_call ihx rfl ?_
      simp [h0,hlt,ho,updF_app,h4,h3]
      refine ⟨⟨by omega,by omega⟩,?_⟩
      rw [ei]
      exact next _ (.agg [iv 1,.sl true [uv (u64m (3 + 256 * o.n))],.sl true [tX (treeE o.e)]]) (by simp [updF_app,h0]) (by simp [updF_app,h1]) (by simp [updF_app,h2]) (by simp [oRaw,h3]) (by simp [updF_app])
    · by_cases hp : o.kind > 0
      · simp [h0,hlt,ho,updF_app,h4,u64_1,h3,hp]
        refine ⟨⟨by omega,by omega⟩,?_⟩
        rw [ei]
        exact next _ (.agg [iv 1,.sl true [uv (u64m (o.kind + 256 * o.n))],.sl true [.agg [iv e.list,.sl true [],tKs o.l]]]) (by simp [updF_app,h0]) (by simp [updF_app,h1]) (by simp [updF_app,h2]) (by simp [oRaw,h3,hp]) (by simp [updF_app])
      · simp [h0,hlt,ho,updF_app,h4,u64_1,h3,hp]
        refine ⟨⟨by omega,by omega⟩,?_⟩
        rw [ei]
        exact next _ (.agg [iv 1,.sl true [uv (u64m (o.kind + 256 * o.n))],.sl true []]) (by simp [updF_app,h0]) (by simp [updF_app,h1]) (by simp [updF_app,h2]) (by simp [oRaw,h3,hp]) (by simp [updF_app])
end
set_option maxRecDepth 10000 in
theorem tree_spec : ∀ (e : E),smE 1048575 e→G.Spec Tryz.prog 15 [eX e] (tX (treeE e)) := by
  refine E.ind fun k o nn ws ks l os ihk iho hs => ?_
  rw [smE,smKs_all,smOs_all] at hs
  obtain ⟨s1,s2,s3,s4,s5⟩ := hs
  have ihk' : ∀ x,x ∈ (E.mk k o nn ws ks l os).kids→G.Spec Tryz.prog 15 [eX x.e] (tX (treeE x.e)) := fun x hx => ihk x hx (s4 x hx)
  have iho' : ∀ x,x ∈ (E.mk k o nn ws ks l os).ops→G.Spec Tryz.prog 15 [eX x.e] (tX (treeE x.e)) := fun x hx => iho x hx (s5 x hx)
  refine spec_of t_centoref27_Tree (by simp) fun w0 I0 => ?_
  unfold c_centoref27_Tree
  rw [treeE_mk]
  by_cases h0 : k = 0
  · simp [h0]
    exact frz_T0
  by_cases h1 : k = 1
  · simp [h1,u64_1]
    refine frz_agg ?_
    simp
    refine ⟨frz_bare rfl,frz_sl,?_⟩
    show Frz _ _ (.sl false [tA o,tA nn])
    rw [tA_eq,tA_eq]
    exact frz_sl
  by_cases h2 : k = 2
  · subst h2
    simp [u64_1]
    refine LoopC.le (le_blank 4 [4] 3 (by simp)) ?_
    simp
    refine LoopC.le (le_list [(1,.pob [0] 1 0),(2,.pob [1] 1 0),(3,.pob [2] 1 0),(4,.osl [4] 1 3 0 0),(5,.sl true []),(6,iv 0)] (by simp [upd])) ?_
    refine tree_l1 (e := .mk 2 o nn ws ks l os) (by simp; omega) ws.length 0 1 _ (by simp) (by simp) rfl rfl (by simp) fun i' q u' H' a0 a1 a2 a4 => ?_
    simp
    refine LoopC.le (le_blank 5 [5] 3 (by simp)) ?_
    refine LoopC.le (le_list [(1,.pob [0] 1 0),(2,.pob [1] 1 0),(3,.pob [2] 1 0),(4,.osl [4] u' 3 0 ws.length),(5,.osl [5] ((H' [5]).u + 1) 3 0 0),(8,iv 0)] (by simp [upd])) ?_
    refine tree_l2 (e := .mk 2 o nn ws ks l os) (by simp; omega) ihk' ks.length 0 _ _ (by simp) (by simp [updF_app,a0]) (by simp [updF_app,a1]; rfl) (by simp [updF_app,a2]; rfl) (by simp [updF_app,a4]; rfl) (by simp [updF_app]) fun i2 q2 u2 H2 b0 b1 b2 b4 b5 => ?_
    simp
    have fw : ∀ H1 : Hp,H1 [4] = H2 [4]→Frz H1 (.osl [4] u' 3 0 ws.length) (tKs (ws.map treeW)) := fun H1 hH => by
      have := frz_rowF (H := H1) (o := [4]) (u := u') (n := ws.length) (sz := 3) (l := ws) (f := wRaw) (g := tA ∘ treeW) (by simp [hH,b4]) rfl (fun x _ => by simp [treeW,A.soft,A.softL])
      rw [← List.map_map] at this
      exact this
    have fk : ∀ H1 : Hp,H1 [5] = H2 [5]→Frz H1 (.osl [5] u2 3 0 ks.length) (tKs (ks.map treeK)) := fun H1 hH => by
      have := frz_rowF (H := H1) (o := [5]) (u := u2) (n := ks.length) (sz := 3) (l := ks) (f := kRaw) (g := tA ∘ treeK) (by simp [hH,b5]) rfl (fun x _ => by simp [treeK,A.soft,A.softL,soft_uv,soft_tKs])
      rw [← List.map_map] at this
      exact this
    refine stop_le (le_freezeD (d := [4]) (fun _ h => h) 4 (tKs (ws.map treeW)) (fun H1 hH => fw H1 hH)) ?_
    refine stop_le (le_freezeD (d := [5]) (fun _ h => h) 5 (tKs (ks.map treeK)) (fun H1 hH => fk H1 (by rw [hH]; simp [updF_app]))) (stop_go ?_)
    simp
    refine sc_call (row_spec _) rfl ?_
    simp
    refine sc_call (row_spec _) rfl ?_
    simp [updF_app,b1,b2]
    refine frz_agg ?_
    simp
    rw [treeKs_map]
    refine ⟨frz_bare rfl,frz_sl,?_⟩
    show Frz _ _ (.sl false [tA _,tA _])
    rw [tA_eq,tA_eq]
    exact frz_sl
  · simp [h0,h1,h2,u64_1]
    refine LoopC.le (le_blank 4 [8] 3 (by simp)) ?_
    simp
    refine LoopC.le (le_list [(1,.pob [0] 1 0),(2,.pob [1] 1 0),(3,.pob [2] 1 0),(4,.osl [8] 1 3 0 0),(9,iv 0)] (by simp [upd])) ?_
    refine tree_l3 (e := .mk k o nn ws ks l os) (by simp; omega) iho' os.length 0 1 _ (by simp) (by simp) rfl rfl (by simp) fun i' q u' H' a0 a1 a2 a4 => ?_
    simp
    have fo : ∀ H1 : Hp,H1 [8] = H' [8]→Frz H1 (.osl [8] u' 3 0 os.length) (tKs (os.map (treeO l))) := fun H1 hH => by
      have := frz_rowF (H := H1) (o := [8]) (u := u') (n := os.length) (sz := 3) (l := os) (f := oRaw l) (g := tA ∘ treeO l) (by simp [hH,a4]) rfl (fun x _ => by
        by_cases h3 : x.kind = 3
        · simp [treeO,A.soft,A.softL,h3,soft_uv,soft_tKs]
        · by_cases hp : x.kind > 0
          · simp [treeO,A.soft,A.softL,h3,hp,soft_uv,soft_tKs]
          · simp [treeO,A.soft,A.softL,h3,hp])
      rw [← List.map_map] at this
      exact this
    refine stop_le (le_freezeD (d := [8]) (fun _ h => h) 4 (tKs (os.map (treeO l))) (fun H1 hH => fo H1 hH)) (stop_go ?_)
    simp
    refine sc_call (row_spec _) rfl ?_
    simp [updF_app,a1,a2]
    refine frz_agg ?_
    simp
    rw [treeOs_map]
    refine ⟨frz_bare rfl,frz_sl,?_⟩
    show Frz _ _ (.sl false [tA _])
    rw [tA_eq]
    exact frz_sl
end Go.Proofs.YthfiijdbnkaabaaGreat

namespace Go.Proofs.YthfiijdbnkaabaaGreat
set_option linter.unusedVariables false
set_option linter.unusedSimpArgs false
open Go Go.G Go.Proofs Go.PL
theorem number_spec {a b : Int} {k : Nat} (a0 : 0≤a) (a1 : a < 2 ^ k) (hk : k = 8∨k = 32) (b0 : 0≤b) (b1 : b < 4294967296) : G.Spec Tryz.prog 36 [iv a,iv b,iv k] (uv (a + 2 ^ k * b)) := by
  refine spec_of t_patch_number (by simp) fun w0 I0 => ?_
  unfold c_patch_number
  have hb64 : IntKind.u64.bits = 64 := rfl
  rcases hk with rfl | rfl
  · have e1 : IntKind.u64.wrap a = a := u64_same (by omega) (by omega)
    have e2 : IntKind.u64.wrap b = b := u64_same (by omega) (by omega)
    have e3 : IntKind.u64.wrap (b * 256) = b * 256 := u64_same (by omega) (by omega)
    have e4 : bits .or .u64 a (b * 256) = a + b * 256 := u64_or' 8 a0 a1 (by omega) (by omega) (by omega) (by omega)
    have e5 : IntKind.u64.wrap (a + b * 256) = a + b * 256 := u64_same (by omega) (by omega)
    simp [e1,e2,hb64,e3,e4,e5]
    exact frz_int (by omega)
  · have e1 : IntKind.u64.wrap a = a := u64_same (by omega) (by omega)
    have e2 : IntKind.u64.wrap b = b := u64_same (by omega) (by omega)
    have e3 : IntKind.u64.wrap (b * 4294967296) = b * 4294967296 := u64_same (by omega) (by omega)
    have e4 : bits .or .u64 a (b * 4294967296) = a + b * 4294967296 := u64_or' 32 a0 a1 (by omega) (by omega) (by omega) (by omega)
    have e5 : IntKind.u64.wrap (a + b * 4294967296) = a + b * 4294967296 := u64_same (by omega) (by omega)
    simp [e1,e2,hb64,e3,e4,e5]
    exact frz_int (by omega)
theorem structure_spec (W : List Int) (l : List T) : G.Spec Tryz.prog 35 [uws W,tKs l] (tX (.mk 1 W l)) := by
  refine spec_of t_patch_structure (by simp) fun w0 I0 => ?_
  unfold c_patch_structure
  simp
  exact frz_agg (by simp; exact ⟨frz_bare rfl,frz_bare rfl,frz_bare rfl⟩)
theorem prow_spec (l : List T) : G.Spec Tryz.prog 37 [tKs l] (tX (rowT' l)) := by
  refine spec_of t_patch_row (by simp) fun w0 I0 => ?_
  unfold c_patch_row
  cases l with
  | nil => simp; exact frz_T0
  | cons t l =>
    simp
    refine ⟨fun h => absurd h (by omega),fun _ => ?_⟩
    exact frz_agg (by simp; exact ⟨frz_bare rfl,frz_sl,frz_is rfl (by simp)⟩)
theorem bpart_spec {w : Int} (h : u64R w) {f b : Nat} (hb : b = 8∨b = 32∨b = 40) (hf : f = 0∨f = 8∨f = 32) : G.Spec Tryz.prog 71 [uv w,iv f,iv b] (iv (w / 2 ^ f % 2 ^ b)) := by
  refine spec_of t_patch_part (by simp) fun w0 I0 => ?_
  unfold c_patch_part
  obtain ⟨h0,h1⟩ := h
  have hb64 : IntKind.u64.bits = 64 := rfl
  have d0 : 0≤w / 2 ^ f∧w / 2 ^ f < 18446744073709551616 := by
    have hp : (0 : Int) < 2 ^ f := Int.pow_pos (by decide)
    exact ⟨Int.ediv_nonneg h0 (by omega),Int.lt_of_le_of_lt (Int.ediv_le_self _ h0) h1⟩
  have em : IntKind.u64.wrap (IntKind.u64.wrap (2 ^ b) - 1) = 2 ^ b - 1 := by rcases hb with rfl | rfl | rfl <;> decide
  have ef : min f 64 = f := by omega
  have eb : min b 64 = b := by omega
  have e1 : bits .and .u64 (w / 2 ^ f) (2 ^ b - 1) = w / 2 ^ f % 2 ^ b := by
    have := u64_mask b (by omega) d0.1 d0.2
    rw [this]
  have hp : (0 : Int) < 2 ^ b := Int.pow_pos (by decide)
  have m0 := Int.emod_nonneg (w / 2 ^ f) (by omega : (2 : Int) ^ b ≠ 0)
  have m1 := Int.emod_lt_of_pos (w / 2 ^ f) hp
  have hle : (2 : Int) ^ b≤1099511627776 := by rcases hb with rfl | rfl | rfl <;> decide
  have e2 : IntKind.u64.wrap (w / 2 ^ f % 2 ^ b) = w / 2 ^ f % 2 ^ b := u64_same m0 (by omega)
  have e3 : IntKind.i64.wrap (w / 2 ^ f % 2 ^ b) = w / 2 ^ f % 2 ^ b := i64_same (by omega) (by omega)
  simp [hb64,ef,eb,em,e1,e2,e3]
  exact frz_bare rfl
def PTreeS (e : E) : Prop := G.Spec Tryz.prog 13 [eX e] (tX (treeE e))
theorem popT_spec {list : Int} {d : Nat} {o : OP} (O : RightO d list o) (ih : o.kind = 3→PTreeS o.e) : G.Spec Tryz.prog 38 [iv list,oX o] (tX (treeO list o)) := by
  have hn : 0≤o.n∧o.n≤1048576 := by
    by_cases q : o.kind = 0
    · have := O.keep q; omega
    · have := O.nn q; omega
  have k0 := O.k0
  have k3 := O.k3
  have hnum := number_spec (a := o.kind) (b := o.n) (k := 8) (by omega) (by show o.kind < 256; omega) (.inl rfl) hn.1 (by omega)
  have hu : u64m (o.kind + 256 * o.n) = o.kind + 2 ^ 8 * o.n := u64m_of (by omega) (by omega)
  have ht : treeO list o = .mk 1 [o.kind + 2 ^ 8 * o.n] (if o.kind = 3 then [treeE o.e] else if o.kind > 0 then [.mk list [] o.l] else []) := by rw [← hu]; rfl
  rw [ht]
  generalize hN : o.kind + 2 ^ 8 * o.n = N at hnum ⊢
  refine spec_of t_patch_op (by simp) fun w0 I0 => ?_
  unfold c_patch_op
  simp
  refine sc_call hnum rfl ?_
  have hk : o.kind = 0∨o.kind = 1∨o.kind = 2∨o.kind = 3 := by omega
  rcases hk with h | h | h | h
  · simp [h]
    rw [k1_patch_op.eq_1]
    simp
    refine sc_calle rfl ((structure_spec [N] []).soft (by simp [A.softL,A.soft,soft_uv])) rfl ?_
    simp
    exact frz_bare rfl
  · simp [h]
    rw [k1_patch_op.eq_1]
    simp
    refine sc_calle rfl ((structure_spec [N] [.mk list [] o.l]).soft (by simp [A.softL,A.soft,soft_tKs])) rfl ?_
    simp
    exact frz_bare rfl
  · simp [h]
    rw [k1_patch_op.eq_1]
    simp
    refine sc_calle rfl ((structure_spec [N] [.mk list [] o.l]).soft (by simp [A.softL,A.soft,soft_tKs])) rfl ?_
    simp
    exact frz_bare rfl
  · simp [h]
    rw [k1_patch_op.eq_1]
    simp
    refine sc_call (ih h) rfl ?_
    simp
    refine sc_calle rfl ((structure_spec [N] [treeE o.e]).soft (by simp [A.softL,A.soft,soft_uv,soft_tKs])) rfl ?_
    simp
    exact frz_bare rfl
section
variable {n0 : Nat} {w0 : World} {I0 : Nat→Prop} {Q : Exit→Sta→Prop}
theorem ptree_l1 {ws : List WE} (hl : ws.length≤1048575) (hw : ∀ x,x ∈ ws→0≤x.at_∧x.at_≤65534∧0≤x.mask∧x.mask < 256) {v0 v1 v5 : VOb} : ∀ (m i u : Nat) (H : Hp),i + m = ws.length→H [0] = v0→H [1] = v1→H [5] = v5→H [3] = ⟨u,.arr 3 ((ws.take i).map (tA ∘ treeW))⟩ →
    (∀ q u' H',H' [0] = v0→H' [1] = v1→H' [5] = v5→H' [3] = ⟨u',.arr 3 (ws.map (tA ∘ treeW))⟩→Q (.exit 1) ⟨lk [(1,.pob [0] 1 0),(2,.pob [1] 1 0),(3,.osl [3] u' 3 0 ws.length),(4,.sl true []),(26,wKs ws),(27,iv ws.length),(28,iv ws.length),(29,bv q)],H'⟩) →
    LoopC (cx Tryz.prog w0 I0 n0) l1_patch_Tree Q ⟨lk [(1,.pob [0] 1 0),(2,.pob [1] 1 0),(3,.osl [3] u 3 0 i),(4,.sl true []),(26,wKs ws),(27,iv ws.length),(28,iv i)],H⟩ := by
  intro m
  induction m with
  | zero =>
    intro i u H hi h0 h1 h5 h3 hq
    have : i = ws.length := by omega
    subst this
    refine loopC_once mixed l1_patch_Tree.eq_1 ?_
    simp
    exact hq _ u H h0 h1 h5 (by rw [h3]; simp)
  | succ m ihm =>
    intro i u H hi h0 h1 h5 h3 hq
    have hlt : i < ws.length := by omega
    have ei : IntKind.i64.wrap ((i : Int) + 1) = ((i + 1 : Nat) : Int) := i64_same (by omega) (by omega)
    obtain ⟨a0,a1,m0,m1⟩ := hw _ (List.getElem_mem hlt)
    have hrow := row_succ (f := tA ∘ treeW) hlt rfl
    simp only [Function.comp,treeW] at hrow
    generalize hx : ws[i] = x at *
    have hnum := number_spec (a := x.at_) (b := x.mask) (k := 32) (by omega) (by show x.at_ < 4294967296; omega) (.inr rfl) m0 (by omega)
    have em : IntKind.i64.wrap x.mask = x.mask := i64_same (by omega) (by omega)
    have hu : u64m (x.at_ + 4294967296 * x.mask) = x.at_ + 2 ^ 32 * x.mask := u64m_of (by omega) (by omega)
    rw [hu] at hrow
    generalize hN : x.at_ + 2 ^ 32 * x.mask = N at hnum hrow
    refine loopC_once mixed l1_patch_Tree.eq_1 ?_
    simp [hlt,hx,updF_app,em]
    refine sc_call hnum rfl ?_
    simp [updF_app]
    refine sc_calle rfl ((structure_spec [N,x.old,x.new] []).soft (by simp [A.softL,A.soft,soft_uv])) rfl ?_
    simp [updF_app,h3]
    refine ⟨⟨by omega,by omega⟩,?_⟩
    rw [ei]
    refine ihm (i + 1) (u + 1) _ (by omega) (by simp [updF_app,h0]) (by simp [updF_app,h1]) (by simp [updF_app,h5]) ?_ hq
    simp only [updF_app,if_true]
    refine congrArg (fun r => (⟨u + 1,.arr 3 r⟩ : VOb)) ?_
    rw [← hrow]
    simp
theorem ptree_l2 {ks : List KE} (hl : ks.length≤1048575) (hw : ∀ x,x ∈ ks→0≤x.at_∧x.at_≤65534) (ih : ∀ x,x ∈ ks→PTreeS x.e) {v1 v3 : VOb} {a3 : A} : ∀ (m i u : Nat) (H : Hp),i + m = ks.length→H [1] = v1→H [3] = v3→H [5] = ⟨u,.arr 3 ((ks.take i).map (tA ∘ treeK))⟩ →
    (∀ q u' H',H' [1] = v1→H' [3] = v3→H' [5] = ⟨u',.arr 3 (ks.map (tA ∘ treeK))⟩→Q (.exit 3) ⟨lk [(2,.pob [1] 1 0),(3,a3),(4,.osl [5] u' 3 0 ks.length),(49,kKs ks),(50,iv ks.length),(51,iv ks.length),(52,bv q)],H'⟩) →
    LoopC (cx Tryz.prog w0 I0 n0) l2_patch_Tree Q ⟨lk [(2,.pob [1] 1 0),(3,a3),(4,.osl [5] u 3 0 i),(49,kKs ks),(50,iv ks.length),(51,iv i)],H⟩ := by
  intro m
  induction m with
  | zero =>
    intro i u H hi h1 h3 h5 hq
    have : i = ks.length := by omega
    subst this
    refine loopC_once mixed l2_patch_Tree.eq_1 ?_
    simp
    exact hq _ u H h1 h3 (by rw [h5]; simp)
  | succ m ihm =>
    intro i u H hi h1 h3 h5 hq
    have hlt : i < ks.length := by omega
    have ei : IntKind.i64.wrap ((i : Int) + 1) = ((i + 1 : Nat) : Int) := i64_same (by omega) (by omega)
    obtain ⟨a0,a1⟩ := hw _ (List.getElem_mem hlt)
    have ihx := ih _ (List.getElem_mem hlt)
    unfold PTreeS at ihx
    have hrow := row_succ (f := tA ∘ treeK) hlt rfl
    simp only [Function.comp,treeK] at hrow
    generalize hx : ks[i] = x at *
    have eu : IntKind.u64.wrap x.at_ = x.at_ := u64_same (by omega) (by omega)
    rw [u64m_of a0 (by omega)] at hrow
    refine loopC_once mixed l2_patch_Tree.eq_1 ?_
    simp [hlt,hx,updF_app,eu]
    refine sc_call ihx rfl ?_
    simp [updF_app]
    refine sc_calle rfl ((structure_spec [x.at_] [treeE x.e]).soft (by simp [A.softL,A.soft,soft_uv,soft_tKs])) rfl ?_
    simp [updF_app,h5]
    refine ⟨⟨by omega,by omega⟩,?_⟩
    rw [ei]
    refine ihm (i + 1) (u + 1) _ (by omega) (by simp [updF_app,h1]) (by simp [updF_app,h3]) ?_ hq
    simp only [updF_app,if_true]
    refine congrArg (fun r => (⟨u + 1,.arr 3 r⟩ : VOb)) ?_
    rw [← hrow]
    simp
theorem ptree_l3 {e : E} {d : Nat} (hl : e.ops.length≤1048575) (hw : ∀ x,x ∈ e.ops→RightO d e.list x) (ih : ∀ x,x ∈ e.ops→x.kind = 3→PTreeS x.e) {v1 : VOb} : ∀ (m i u : Nat) (H : Hp),i + m = e.ops.length→H [0] = ⟨1,.cells (eL e)⟩→H [1] = v1→H [7] = ⟨u,.arr 3 ((e.ops.take i).map (tA ∘ treeO e.list))⟩ →
    (∀ q u' H',H' [0] = ⟨1,.cells (eL e)⟩→H' [1] = v1→H' [7] = ⟨u',.arr 3 (e.ops.map (tA ∘ treeO e.list))⟩→Q (.exit 5) ⟨lk [(1,.pob [0] 1 0),(2,.pob [1] 1 0),(9,.osl [7] u' 3 0 e.ops.length),(78,oKs e.ops),(79,iv e.ops.length),(80,iv e.ops.length),(81,bv q)],H'⟩) →
    LoopC (cx Tryz.prog w0 I0 n0) l3_patch_Tree Q ⟨lk [(1,.pob [0] 1 0),(2,.pob [1] 1 0),(9,.osl [7] u 3 0 i),(78,oKs e.ops),(79,iv e.ops.length),(80,iv i)],H⟩ := by
  intro m
  induction m with
  | zero =>
    intro i u H hi h0 h1 h7 hq
    have : i = e.ops.length := by omega
    subst this
    refine loopC_once mixed l3_patch_Tree.eq_1 ?_
    simp
    exact hq _ u H h0 h1 (by rw [h7]; simp)
  | succ m ihm =>
    intro i u H hi h0 h1 h7 hq
    have hlt : i < e.ops.length := by omega
    have ei : IntKind.i64.wrap ((i : Int) + 1) = ((i + 1 : Nat) : Int) := i64_same (by omega) (by omega)
    have hop := popT_spec (hw _ (List.getElem_mem hlt)) (ih _ (List.getElem_mem hlt))
    have hrow := row_succ (f := tA ∘ treeO e.list) hlt rfl
    simp only [Function.comp] at hrow
    refine loopC_once mixed l3_patch_Tree.eq_1 ?_
    simp [hlt,h0,updF_app]
    refine sc_call hop rfl ?_
    simp [updF_app,h7]
    refine ⟨⟨by omega,by omega⟩,?_⟩
    rw [ei]
    refine ihm (i + 1) (u + 1) _ (by omega) (by simp [updF_app,h0]) (by simp [updF_app,h1]) ?_ hq
    simp only [updF_app,if_true]
    refine congrArg (fun r => (⟨u + 1,.arr 3 r⟩ : VOb)) ?_
    rw [← hrow]
    simp
end
end Go.Proofs.YthfiijdbnkaabaaGreat

namespace Go.Proofs.YthfiijdbnkaabaaGreat
set_option linter.unusedVariables false
set_option linter.unusedSimpArgs false
open Go Go.G Go.Proofs Go.PL
theorem frz_rowTT {H : Hp} {o : Nm} {u n : Nat} {α : Type} {l : List α} {f : α→T} (h : H o = ⟨u,.arr 3 (l.map (tA ∘ f))⟩) (hn : n = l.length) : Frz H (.osl o u 3 0 n) (tKs (l.map f)) := by
  have := frz_row (H := H) (o := o) (u := u) (n := n) (sz := 3) (l := l) (f := tA ∘ f) (by simp [h]) hn (fun x => by simp)
  rw [← List.map_map] at this
  exact this
theorem soft_tKf {α : Type} (f : α→T) (l : List α) : A.softL (l.map (tA ∘ f)) = l.map (tA ∘ f) := by rw [← List.map_map]; exact soft_tKs _
set_option maxRecDepth 10000 in
theorem pTree_all : ∀ (e : E),wfE e→smE 1048575 e→(∃ d,rightE d e = true)→PTreeS e := by
  refine E.ind fun k o nn ws ks l os ihk iho hwf hs hr => ?_
  obtain ⟨d,hr⟩ := hr
  have hw := wfE_iff.1 hwf
  have R := rightE_iff.1 hr
  rw [smE,smKs_all,smOs_all] at hs
  obtain ⟨s1,s2,s3,s4,s5⟩ := hs
  have hks := fun x hx => rightKs_allE (by omega) R.kok x hx
  have hos := fun x hx => rightO_of (rightOs_all.1 R.ook x hx)
  have ihk' : ∀ x,x ∈ ks→PTreeS x.e := fun x hx => ihk x hx (hw.ks x hx).2 (s4 x hx) ⟨_,(hks x hx).2.2.2⟩
  have iho' : ∀ x,x ∈ os→x.kind = 3→PTreeS x.e := fun x hx h3 => iho x hx (hw.os x hx).e (s5 x hx) ⟨_,((hos x hx).down h3).2.2.2.1⟩
  have hww : ∀ x,x ∈ ws→0≤x.at_∧x.at_≤65534∧0≤x.mask∧x.mask < 256 := fun x hx => by
    have h1 := wordsOk_in (by omega) R.wok x hx
    have h2 := (hw.w x hx).2.1
    omega
  unfold PTreeS
  have hk : k = 0∨k = 1∨k = 2∨k = 3 := by have := R.k0; have := R.k3; omega
  refine spec_of t_patch_Tree (by simp) fun w0 I0 => ?_
  unfold c_patch_Tree
  rw [treeE_mk]
  rcases hk with rfl | rfl | rfl | rfl
  · simp
    exact frz_T0
  · obtain ⟨rfl,rfl⟩ := R.three (by omega)
    simp
    refine sc_calle rfl ((structure_spec [1] [o,nn]).soft (by simp [A.softL,A.soft,soft_uv,soft_tKs])) rfl ?_
    simp
    refine frz_is rfl ?_
    simp [u64m]
  · obtain ⟨rfl,rfl⟩ := R.three (by omega)
    simp
    refine LoopC.le (le_blank 3 [3] 3 (by simp)) ?_
    refine LoopC.le (le_list [(1,.pob [0] 1 0),(2,.pob [1] 1 0),(3,.osl [3] 1 3 0 0),(4,.sl true []),(26,wKs ws),(27,iv ws.length),(28,iv 0)] (by simp [upd])) ?_
    refine ptree_l1 (by omega) hww ws.length 0 1 _ (by simp) (by simp; rfl) (by simp; rfl) (by simp; rfl) (by simp) fun q u' H' a0 a1 a5 a3 => ?_
    simp [a0]
    refine LoopC.le (le_blank 4 [5] 3 (by simp)) ?_
    refine LoopC.le (le_list [(2,.pob [1] 1 0),(3,.osl [3] u' 3 0 ws.length),(4,.osl [5] 1 3 0 0),(49,kKs ks),(50,iv ks.length),(51,iv 0)] (by simp [upd,a5])) ?_
    refine ptree_l2 (by omega) (fun x hx => by have := hks x hx; omega) ihk' ks.length 0 _ _ (by simp) (by simp [updF_app,a1]; rfl) (by simp [updF_app,a3]; rfl) (by simp [updF_app,a5]) fun q2 u2 H2 b1 b3 b5 => ?_
    simp
    refine stop_le (le_freezeD (d := [3]) (fun _ h => h) 3 (tKs (ws.map treeW)) (fun H1 hH => frz_rowTT (by rw [hH,b3]) rfl)) ?_
    refine stop_le (le_freezeD (d := [5]) (fun _ h => h) 4 (tKs (ks.map treeK)) (fun H1 hH => frz_rowTT (by rw [hH]; simp [updF_app,b5]) rfl)) (stop_go ?_)
    simp
    refine sc_call (prow_spec _) rfl ?_
    simp
    refine sc_call (prow_spec _) rfl ?_
    simp
    refine sc_calle rfl ((structure_spec [2] [rowT' (ws.map treeW),rowT' (ks.map treeK)]).soft (by simp [A.softL,A.soft,soft_uv,soft_tKs,soft_tKf])) rfl ?_
    simp [updF_app,b1]
    refine frz_is rfl ?_
    simp [u64m,treeKs_map]
  · obtain ⟨l2,l9⟩ := R.lst rfl
    have hnum := number_spec (a := 3) (b := l) (k := 8) (by omega) (by decide) (.inl rfl) (by omega) (by omega)
    have hu : u64m (3 + 256 * l) = 3 + 2 ^ 8 * l := u64m_of (by omega) (by omega)
    rw [hu]
    generalize hN : 3 + 2 ^ 8 * l = N at hnum ⊢
    simp
    refine LoopC.le (le_blank 9 [7] 3 (by simp)) ?_
    refine LoopC.le (le_list [(1,.pob [0] 1 0),(2,.pob [1] 1 0),(9,.osl [7] 1 3 0 0),(78,oKs os),(79,iv os.length),(80,iv 0)] (by simp [upd])) ?_
    refine ptree_l3 (e := .mk 3 o nn ws ks l os) (d := d - 1) (by simp; omega) hos iho' os.length 0 1 _ (by simp) (by simp) (by simp; rfl) (by simp) fun q u' H' a0 a1 a7 => ?_
    simp
    refine stop_le (le_freezeD (d := [7]) (fun _ h => h) 9 (tKs (os.map (treeO l))) (fun H1 hH => frz_rowTT (by rw [hH,a7]; rfl) rfl)) (stop_go ?_)
    simp [updF_app,a0]
    refine sc_call hnum rfl ?_
    simp
    refine sc_call (prow_spec _) rfl ?_
    simp
    refine sc_calle rfl ((structure_spec [N] [rowT' (os.map (treeO l))]).soft (by simp [A.softL,A.soft,soft_uv,soft_tKs,soft_tKf])) rfl ?_
    simp [updF_app,a1]
    refine frz_is rfl ?_
    simp [treeOs_map]
end Go.Proofs.YthfiijdbnkaabaaGreat

namespace Go.Proofs.YthfiijdbnkaabaaGreat
set_option linter.unusedVariables false
set_option linter.unusedSimpArgs false
open Go Go.G Go.Proofs Go.PL
theorem rWord27_spec (t : T) (i : Nat) : G.Spec Tryz.prog 76 [tX t,iv i] (uv (wdT t i)) := by
  refine spec_of t_centoref27_word (by simp) fun w0 I0 => ?_
  unfold c_centoref27_word wdT
  by_cases hi : i < t.words.length
  · simp [hi]
    exact frz_bare rfl
  · simp [hi]
    exact frz_bare rfl
theorem rKid27_spec (t : T) (i : Nat) : G.Spec Tryz.prog 77 [tX t,iv i] (tX (kdT t i)) := by
  refine spec_of t_centoref27_kid (by simp) fun w0 I0 => ?_
  unfold c_centoref27_kid kdT
  by_cases hi : i < t.kids.length
  · simp [hi]
    exact frz_agg (by simp; exact ⟨frz_bare rfl,frz_bare rfl,frz_bare rfl⟩)
  · have e : t.kids.getD i T0 = T0 := getD_none (by omega)
    rw [e]
    simp [hi]
    exact frz_T0
theorem wd_in {t : T} (h : wfT t) (i : Nat) : u64R (wdT t i) := by
  unfold wdT
  rw [List.getD_eq_getElem?_getD]
  cases e : t.words[i]? with
  | none => exact ⟨by simp,by simp⟩
  | some x => exact (wfT_iff.1 h).w x (List.mem_of_getElem? e)
theorem wf_kd {t : T} (h : wfT t) (i : Nat) : wfT (kdT t i) := by
  unfold kdT
  rw [List.getD_eq_getElem?_getD]
  cases e : t.kids[i]? with
  | none => exact wfT_iff.2 ⟨by simp [i64R],by simp,by simp,by simp,by simp⟩
  | some x => exact (wfT_iff.1 h).ks x (List.mem_of_getElem? e)
theorem g_mod {w m : Int} (h : u64R w) (hm : 0 < m) (hm1 : m≤1099511627776) : IntKind.i64.wrap (w.tmod m) = w % m := by
  obtain ⟨h0,h1⟩ := h
  have a := Int.emod_nonneg w (by omega : m ≠ 0)
  have b := Int.emod_lt_of_pos w hm
  rw [Int.tmod_eq_emod_of_nonneg h0,i64_same (by omega) (by omega)]
theorem g_div {w m : Int} (h : u64R w) (hm : 0 < m) (hm1 : m≤1099511627776) : IntKind.i64.wrap ((IntKind.u64.wrap (w.tdiv 256)).tmod m) = w / 256 % m := by
  obtain ⟨h0,h1⟩ := h
  rw [Int.tdiv_eq_ediv_of_nonneg h0,u64_same (by omega) (by omega)]
  exact g_mod ⟨by omega,by omega⟩ hm hm1
theorem g_div8 {w : Int} (h : u64R w) : IntKind.u8.wrap ((IntKind.u64.wrap (w.tdiv 4294967296)).tmod 256) = w / 4294967296 % 256 := by
  obtain ⟨h0,h1⟩ := h
  rw [Int.tdiv_eq_ediv_of_nonneg h0,u64_same (by omega) (by omega),Int.tmod_eq_emod_of_nonneg (by omega),IntKind.wrap_u8]
  omega
def GuessS (t : T) : Prop := G.Spec Tryz.prog 46 [tX t] (eX (guess t))
abbrev geL (k list : Int) (W K O : A) : List A := [iv k,iv 0,.sl true [],.sl true [],iv 0,.sl true [],.sl true [],W,K,iv list,O]
def e0Raw : List A := [iv 0,iv 0,.sl true [],.sl true [],iv 0,.sl true [],.sl true [],.sl true [],.sl true [],iv 0,.sl true []]
def stpRaw (x : T) : A := .agg (iv (wdT x 0 % 256) :: iv (wdT x 0 / 256 % 1099511627776) :: (if wdT x 0 % 256 = 1∨wdT x 0 % 256 = 2 then tKs (kdT x 0).kids else .sl true []) :: (if wdT x 0 % 256 = 3 then eL (guess (kdT x 0)) else e0Raw))
section
variable {n0 : Nat} {w0 : World} {I0 : Nat→Prop} {Q : Exit→Sta→Prop}
theorem guess_s1 {k : Int} (hk : ¬ k = 2) {C : List A} {a : T} {H : Hp} (h2 : H [2] = ⟨1,.cells (iv k :: C)⟩) (h3 : H [3] = ⟨1,.cells (tL a)⟩)
    (hq : Q (.exit 0) ⟨lk [(2,.pob [1] 1 0),(4,.pob [2] 1 0),(5,.pob [3] 1 0),(6,.pob [4] 1 0),(7,iv 0),(48,bv false)],H⟩) :
    LoopC (cx Tryz.prog w0 I0 n0) l1_centoref27_Guess Q ⟨lk [(2,.pob [1] 1 0),(4,.pob [2] 1 0),(5,.pob [3] 1 0),(6,.pob [4] 1 0),(7,iv 0)],H⟩ := by
  refine loopC_once mixed l1_centoref27_Guess.eq_1 ?_
  simp [h2,h3,hk]
  exact hq
theorem guess_s2 {k : Int} (hk : ¬ k = 2) {C : List A} {b : T} {H : Hp} (h2 : H [2] = ⟨1,.cells (iv k :: C)⟩) (h4 : H [4] = ⟨1,.cells (tL b)⟩)
    (hq : Q (.exit 2) ⟨lk [(2,.pob [1] 1 0),(4,.pob [2] 1 0),(5,.pob [3] 1 0),(6,.pob [4] 1 0),(9,iv 0),(84,bv false)],H⟩) :
    LoopC (cx Tryz.prog w0 I0 n0) l2_centoref27_Guess Q ⟨lk [(2,.pob [1] 1 0),(4,.pob [2] 1 0),(5,.pob [3] 1 0),(6,.pob [4] 1 0),(9,iv 0)],H⟩ := by
  refine loopC_once mixed l2_centoref27_Guess.eq_1 ?_
  simp [h2,h4,hk]
  exact hq
theorem guess_s3 {k : Int} (hk : ¬ k = 3) {C : List A} {a : T} {H : Hp} (h2 : H [2] = ⟨1,.cells (iv k :: C)⟩) (h3 : H [3] = ⟨1,.cells (tL a)⟩)
    (hq : Q (.exit 4) ⟨lk [(2,.pob [1] 1 0),(4,.pob [2] 1 0),(5,.pob [3] 1 0),(11,iv 0),(114,bv false)],H⟩) :
    LoopC (cx Tryz.prog w0 I0 n0) l3_centoref27_Guess Q ⟨lk [(2,.pob [1] 1 0),(4,.pob [2] 1 0),(5,.pob [3] 1 0),(11,iv 0)],H⟩ := by
  refine loopC_once mixed l3_centoref27_Guess.eq_1 ?_
  simp [h2,h3,hk]
  exact hq
theorem guess_l1 {a : T} (hl : a.kids.length * 56≤140737488355328) (hw : ∀ x,x ∈ a.kids→wfT x) {list : Int} {v1 v4 v8 : VOb} : ∀ (m i : Nat) (H : Hp),i + m = a.kids.length→H [8] = v8→H [1] = v1→H [2] = ⟨1,.cells (geL 2 list (.osl [6] (i + 1) 4 0 i) (.sl true []) (.sl true []))⟩→H [3] = ⟨1,.cells (tL a)⟩→H [4] = v4→H [6] = ⟨i + 1,.arr 4 ((a.kids.take i).map (wA ∘ wordG))⟩ →
    (∀ H',H' [8] = v8→H' [1] = v1→H' [2] = ⟨1,.cells (geL 2 list (.osl [6] (a.kids.length + 1) 4 0 a.kids.length) (.sl true []) (.sl true []))⟩→H' [3] = ⟨1,.cells (tL a)⟩→H' [4] = v4→H' [6] = ⟨a.kids.length + 1,.arr 4 (a.kids.map (wA ∘ wordG))⟩ →
      Q (.exit 0) ⟨lk [(2,.pob [1] 1 0),(4,.pob [2] 1 0),(5,.pob [3] 1 0),(6,.pob [4] 1 0),(7,iv a.kids.length),(48,bv false)],H'⟩) →
    LoopC (cx Tryz.prog w0 I0 n0) l1_centoref27_Guess Q ⟨lk [(2,.pob [1] 1 0),(4,.pob [2] 1 0),(5,.pob [3] 1 0),(6,.pob [4] 1 0),(7,iv i)],H⟩ := by
  intro m
  induction m with
  | zero =>
    intro i H hi h8 h1 h2 h3 h4 h6 hq
    have : i = a.kids.length := by omega
    subst this
    refine loopC_once mixed l1_centoref27_Guess.eq_1 ?_
    simp [h2,h3]
    exact hq H h8 h1 h2 h3 h4 (by rw [h6]; simp)
  | succ m ih =>
    intro i H hi h8 h1 h2 h3 h4 h6 hq
    have hlt : i < a.kids.length := by omega
    have ei : IntKind.i64.wrap ((i : Int) + 1) = ((i + 1 : Nat) : Int) := i64_same (by omega) (by omega)
    have hrow := row_succ (f := wA ∘ wordG) hlt rfl
    simp only [Function.comp,wA,wordG] at hrow
    have hwx := hw _ (List.getElem_mem hlt)
    generalize hx : a.kids[i] = x at *
    have hd0 := wd_in hwx 0
    obtain ⟨d0,d1⟩ := hd0
    refine loopC_once mixed l1_centoref27_Guess.eq_1 ?_
    simp [h2,h3,hlt,hx,updF_app]
    refine sc_call (rWord27_spec x 0) rfl ?_
    simp [updF_app]
    refine sc_call (rWord27_spec x 0) rfl ?_
    simp [updF_app]
    refine sc_call (rWord27_spec x 1) rfl ?_
    simp [updF_app]
    refine sc_call (rWord27_spec x 2) rfl ?_
    simp [updF_app,h2,h6,ei]
    rw [g_mod ⟨d0,d1⟩ (by decide) (by decide),g_div8 ⟨d0,d1⟩]
    refine ⟨⟨by omega,by omega⟩,?_⟩
    refine ih (i + 1) _ (by omega) (by simp [updF_app,h8]) (by simp [updF_app,h1]) (by simp [updF_app]) (by simp [updF_app,h3]) (by simp [updF_app,h4]) ?_ hq
    simp only [updF_app]
    refine congrArg (fun r => (⟨i + 1 + 1,.arr 4 r⟩ : VOb)) ?_
    exact hrow
theorem guess_l2 {b : T} (hl : b.kids.length * 208≤140737488355328) (hw : ∀ x,x ∈ b.kids→wfT x) (ihg : ∀ x,x ∈ b.kids→GuessS (kdT x 0)) {list : Int} {W : A} {v1 v3 v6 : VOb} : ∀ (m i : Nat) (H : Hp),i + m = b.kids.length→H [1] = v1→H [2] = ⟨1,.cells (geL 2 list W (.osl [8] (i + 1) 12 0 i) (.sl true []))⟩→H [3] = v3→H [4] = ⟨1,.cells (tL b)⟩→H [6] = v6→H [8] = ⟨i + 1,.arr 12 ((b.kids.take i).map (kA ∘ kidG))⟩ →
    (∀ H',H' [1] = v1→H' [2] = ⟨1,.cells (geL 2 list W (.osl [8] (b.kids.length + 1) 12 0 b.kids.length) (.sl true []))⟩→H' [3] = v3→H' [6] = v6→H' [8] = ⟨b.kids.length + 1,.arr 12 (b.kids.map (kA ∘ kidG))⟩ →
      Q (.exit 2) ⟨lk [(2,.pob [1] 1 0),(4,.pob [2] 1 0),(5,.pob [3] 1 0),(6,.pob [4] 1 0),(9,iv b.kids.length),(84,bv false)],H'⟩) →
    LoopC (cx Tryz.prog w0 I0 n0) l2_centoref27_Guess Q ⟨lk [(2,.pob [1] 1 0),(4,.pob [2] 1 0),(5,.pob [3] 1 0),(6,.pob [4] 1 0),(9,iv i)],H⟩ := by
  intro m
  induction m with
  | zero =>
    intro i H hi h1 h2 h3 h4 h6 h8 hq
    have : i = b.kids.length := by omega
    subst this
    refine loopC_once mixed l2_centoref27_Guess.eq_1 ?_
    simp [h2,h4]
    exact hq H h1 h2 h3 h6 (by rw [h8]; simp)
  | succ m ih =>
    intro i H hi h1 h2 h3 h4 h6 h8 hq
    have hlt : i < b.kids.length := by omega
    have ei : IntKind.i64.wrap ((i : Int) + 1) = ((i + 1 : Nat) : Int) := i64_same (by omega) (by omega)
    have hrow := row_succ (f := kA ∘ kidG) hlt rfl
    simp only [Function.comp,kA_eq,kidG] at hrow
    have hwx := hw _ (List.getElem_mem hlt)
    have ihx := ihg _ (List.getElem_mem hlt)
    unfold GuessS at ihx
    generalize hx : b.kids[i] = x at *
    have hd0 := wd_in hwx 0
    refine loopC_once mixed l2_centoref27_Guess.eq_1 ?_
    simp [h2,h4,hlt,hx,updF_app]
    refine sc_call (rWord27_spec x 0) rfl ?_
    simp [updF_app]
    refine sc_call (rKid27_spec x 0) rfl ?_
    simp [updF_app]
    refine sc_call ihx rfl ?_
    simp [updF_app,h2,h8,ei]
    rw [g_mod hd0 (by decide) (by decide)]
    refine ⟨⟨by omega,by omega⟩,?_⟩
    refine ih (i + 1) _ (by omega) (by simp [updF_app,h1]) (by simp [updF_app]) (by simp [updF_app,h3]) (by simp [updF_app,h4]) (by simp [updF_app,h6]) ?_ hq
    simp only [updF_app]
    refine congrArg (fun r => (⟨i + 1 + 1,.arr 12 r⟩ : VOb)) ?_
    exact hrow
theorem guess_l3 {a : T} (hl : a.kids.length * 240≤140737488355328) (hw : ∀ x,x ∈ a.kids→wfT x) (ihg : ∀ x,x ∈ a.kids→GuessS (kdT x 0)) {list : Int} {v1 : VOb} : ∀ (m i : Nat) (H : Hp),i + m = a.kids.length→H [1] = v1→H [2] = ⟨1,.cells (geL 3 list (.sl true []) (.sl true []) (.osl [11] (i + 1) 14 0 i))⟩→H [3] = ⟨1,.cells (tL a)⟩→H [11] = ⟨i + 1,.arr 14 ((a.kids.take i).map stpRaw)⟩ →
    (∀ H',H' [1] = v1→H' [2] = ⟨1,.cells (geL 3 list (.sl true []) (.sl true []) (.osl [11] (a.kids.length + 1) 14 0 a.kids.length))⟩→H' [11] = ⟨a.kids.length + 1,.arr 14 (a.kids.map stpRaw)⟩ →
      Q (.exit 4) ⟨lk [(2,.pob [1] 1 0),(4,.pob [2] 1 0),(5,.pob [3] 1 0),(11,iv a.kids.length),(114,bv false)],H'⟩) →
    LoopC (cx Tryz.prog w0 I0 n0) l3_centoref27_Guess Q ⟨lk [(2,.pob [1] 1 0),(4,.pob [2] 1 0),(5,.pob [3] 1 0),(11,iv i)],H⟩ := by
  intro m
  induction m with
  | zero =>
    intro i H hi h1 h2 h3 h11 hq
    have : i = a.kids.length := by omega
    subst this
    refine loopC_once mixed l3_centoref27_Guess.eq_1 ?_
    simp [h2,h3]
    exact hq H h1 h2 (by rw [h11]; simp)
  | succ m ih =>
    intro i H hi h1 h2 h3 h11 hq
    have hlt : i < a.kids.length := by omega
    have ei : IntKind.i64.wrap ((i : Int) + 1) = ((i + 1 : Nat) : Int) := i64_same (by omega) (by omega)
    have hrow := row_succ (f := stpRaw) hlt rfl
    simp only [stpRaw,e0Raw] at hrow
    have hwx := hw _ (List.getElem_mem hlt)
    have ihx := ihg _ (List.getElem_mem hlt)
    unfold GuessS at ihx
    generalize hx : a.kids[i] = x at *
    have hd0 := wd_in hwx 0
    have e1 := g_mod (m := 256) hd0 (by decide) (by decide)
    have e2 := g_div (m := 1099511627776) hd0 (by decide) (by decide)
    refine loopC_once mixed l3_centoref27_Guess.eq_1 ?_
    simp [h2,h3,hlt,hx,updF_app]
    refine sc_call (rWord27_spec x 0) rfl ?_
    simp [updF_app]
    refine sc_call (rWord27_spec x 0) rfl ?_
    by_cases k3 : wdT x 0 % 256 = 3
    · have n12 : ¬ (wdT x 0 % 256 = 1∨wdT x 0 % 256 = 2) := by omega
      rw [if_neg n12,if_pos k3,k3] at hrow
      simp [updF_app,e1,e2,k3]
      refine sc_call (rKid27_spec x 0) rfl ?_
      simp [updF_app]
      refine sc_call ihx rfl ?_
      simp [updF_app,h2,h11,ei]
      refine ⟨⟨by omega,by omega⟩,?_⟩
      refine ih (i + 1) _ (by omega) (by simp [updF_app,h1]) (by simp [updF_app]) (by simp [updF_app,h3]) ?_ hq
      simp only [updF_app]
      refine congrArg (fun r => (⟨i + 1 + 1,.arr 14 r⟩ : VOb)) ?_
      exact hrow
    · by_cases k12 : wdT x 0 % 256 = 1∨wdT x 0 % 256 = 2
      · have hb : (decide (wdT x 0 % 256 = 1) || decide (wdT x 0 % 256 = 2)) = true := by simpa using k12
        rw [if_pos k12,if_neg k3] at hrow
        simp [updF_app,e1,e2,k3,hb]
        refine sc_call (rKid27_spec x 0) rfl ?_
        simp [updF_app,h2,h11,ei]
        refine ⟨⟨by omega,by omega⟩,?_⟩
        refine ih (i + 1) _ (by omega) (by simp [updF_app,h1]) (by simp [updF_app]) (by simp [updF_app,h3]) ?_ hq
        simp only [updF_app]
        refine congrArg (fun r => (⟨i + 1 + 1,.arr 14 r⟩ : VOb)) ?_
        exact hrow
      · have hb : (decide (wdT x 0 % 256 = 1) || decide (wdT x 0 % 256 = 2)) = false := by
          rw [Bool.eq_false_iff]; simpa using k12
        rw [if_neg k12,if_neg k3] at hrow
        simp [updF_app,e1,e2,k3,hb,h2,h11,ei]
        refine ⟨⟨by omega,by omega⟩,?_⟩
        refine ih (i + 1) _ (by omega) (by simp [updF_app,h1]) (by simp [updF_app]) (by simp [updF_app,h3]) ?_ hq
        simp only [updF_app]
        refine congrArg (fun r => (⟨i + 1 + 1,.arr 14 r⟩ : VOb)) ?_
        exact hrow
end
def GuessP (t : T) : Prop := wfT t→SmT t→GuessS t∧∀ x,x ∈ t.kids→GuessS x∧∀ y,y ∈ x.kids→GuessS y
theorem guess_other {t : T} (h : t.kind ≠ 1) : GuessS t := by
  unfold GuessS
  rw [guess_eq,if_pos h]
  refine spec_of t_centoref27_Guess (by simp) fun w0 I0 => ?_
  unfold c_centoref27_Guess
  simp [h]
  refine frz_agg ?_
  simp
  repeat' (first | exact frz_sl | exact frz_bare rfl | apply And.intro)
set_option maxRecDepth 10000 in
theorem guess_all : ∀ t : T,GuessP t := by
  refine T.ind fun k w l ih hw hsm => ?_
  have hwk := (wfT_iff.1 hw).ks
  have hdeep : ∀ (i : Nat) x,x ∈ (kdT (.mk k w l) i).kids→GuessS (kdT x 0) := fun i x hx => by
    have hm := kd_mem hx
    have hP := ih _ hm (hwk _ hm) (hsm.kid _ hm)
    unfold kdT
    rw [List.getD_eq_getElem?_getD]
    cases e : x.kids[0]? with
    | none => exact guess_other (by decide)
    | some y => exact (hP.2 x hx).2 y (List.mem_of_getElem? e)
  refine ⟨?_,fun x hx => ?_⟩
  rotate_left
  · have hP := ih x hx (hwk x hx) (hsm.kid x hx)
    exact ⟨hP.1,fun y hy => (hP.2 y hy).1⟩
  by_cases h1 : k = 1
  rotate_left
  · exact guess_other h1
  subst h1
  have d0 := wd_in hw 0
  have wfa := wf_kd hw 0
  have wfb := wf_kd hw 1
  have sma := (hsm.kd 0).len
  have smb := (hsm.kd 1).len
  unfold GuessS
  rw [guess_eq,if_neg (by simp)]
  have ga := hdeep 0
  have gb := hdeep 1
  generalize hA : kdT (.mk 1 w l) 0 = a at *
  generalize hB : kdT (.mk 1 w l) 1 = b at *
  generalize hW : wdT (.mk 1 w l) 0 = W at *
  have e1 := g_mod (m := 256) d0 (by decide) (by decide)
  have e2 := g_div (m := 256) d0 (by decide) (by decide)
  have sA := rKid27_spec (.mk 1 w l) 0
  have sB := rKid27_spec (.mk 1 w l) 1
  have sW := rWord27_spec (.mk 1 w l) 0
  rw [hA] at sA
  rw [hB] at sB
  rw [hW] at sW
  refine spec_of t_centoref27_Guess (by simp) fun w0 I0 => ?_
  unfold c_centoref27_Guess
  simp
  refine sc_call sW rfl ?_
  simp [e1,e2]
  refine sc_call sA rfl ?_
  simp
  refine sc_call sB rfl ?_
  have k256 : W % 256 = 1∨W % 256 = 2∨W % 256 = 3∨(W % 256 ≠ 1∧W % 256 ≠ 2∧W % 256 ≠ 3) := by omega
  rcases k256 with k | k | k | ⟨k1,k2,k3⟩
  · simp [k]
    rw [k1_centoref27_Guess.eq_1]
    simp
    refine guess_s1 (k := 1) (a := a) (by decide) (by simp; rfl) (by simp) ?_
    simp
    refine guess_s2 (k := 1) (b := b) (by decide) (by simp; rfl) (by simp) ?_
    simp
    refine guess_s3 (k := 1) (a := a) (by decide) (by simp; rfl) (by simp) ?_
    simp
    refine frz_agg ?_
    simp
    repeat' (first | exact frz_sl | exact frz_bare rfl | apply And.intro)
  · simp [k]
    rw [k1_centoref27_Guess.eq_1]
    simp
    refine LoopC.le (le_blankC (d := [2]) (u := 1) (cs := geL 2 (W / 256 % 256) (.sl true []) (.sl true []) (.sl true [])) 7 [6] 4 (by simp) rfl (by simp)) ?_
    refine guess_l1 (a := a) (by omega) (fun x hx => (wfT_iff.1 wfa).ks x hx) (list := W / 256 % 256) a.kids.length 0 _ (by omega) (by simp [updF_app]; rfl) (by simp [updF_app]; rfl) (by simp [updF_app]) (by simp [updF_app]) (by simp [updF_app]; rfl) (by simp [updF_app]) fun H1 b8 b1 b2 b3 b4 b6 => ?_
    simp
    refine LoopC.le (le_blankC (d := [2]) (u := 1) (cs := geL 2 (W / 256 % 256) (.osl [6] (a.kids.length + 1) 4 0 a.kids.length) (.sl true []) (.sl true [])) 8 [8] 12 b2 rfl (by simp)) ?_
    refine guess_l2 (b := b) (by omega) (fun x hx => (wfT_iff.1 wfb).ks x hx) gb (list := W / 256 % 256) b.kids.length 0 _ (by omega) (by simp [updF_app,b1]; rfl) (by simp [updF_app,b8]; rfl) (by simp [updF_app,b3]; rfl) (by simp [updF_app,b4]) (by simp [updF_app,b6]; rfl) (by simp [updF_app,b8]) fun H2 c1 c2 c3 c6 c8 => ?_
    simp
    refine guess_s3 (k := 2) (a := a) (by decide) c2 c3 ?_
    simp [c1,c2]
    have fw : ∀ H3 : Hp,H3 [6] = H2 [6]→Frz H3 (.osl [6] (a.kids.length + 1) 4 0 a.kids.length) (wKs (a.kids.map wordG)) := fun H3 hH => by
      have := frz_row (H := H3) (o := [6]) (u := a.kids.length + 1) (n := a.kids.length) (sz := 4) (l := a.kids) (f := wA ∘ wordG) (by simp [hH,c6]) rfl (fun x => by simp)
      rw [← List.map_map] at this
      exact this
    have fk : ∀ H3 : Hp,H3 [8] = H2 [8]→Frz H3 (.osl [8] (b.kids.length + 1) 12 0 b.kids.length) (kKs (b.kids.map kidG)) := fun H3 hH => by
      have := frz_row (H := H3) (o := [8]) (u := b.kids.length + 1) (n := b.kids.length) (sz := 12) (l := b.kids) (f := kA ∘ kidG) (by simp [hH,c8]) rfl (fun x => by simp)
      rw [← List.map_map] at this
      exact this
    have fw' := fw (updF H2 [1] ⟨1,.cells (geL 2 (W / 256 % 256) (.osl [6] (a.kids.length + 1) 4 0 a.kids.length) (.osl [8] (b.kids.length + 1) 12 0 b.kids.length) (.sl true []))⟩) (by simp [updF_app])
    have fk' := fk (updF H2 [1] ⟨1,.cells (geL 2 (W / 256 % 256) (.osl [6] (a.kids.length + 1) 4 0 a.kids.length) (.osl [8] (b.kids.length + 1) 12 0 b.kids.length) (.sl true []))⟩) (by simp [updF_app])
    refine frz_agg ?_
    simp

    repeat' (first | exact fw' | exact fk' | exact frz_sl | exact frz_bare rfl | apply And.intro)
  · simp [k]
    rw [k1_centoref27_Guess.eq_1]
    simp
    refine guess_s1 (k := 3) (a := a) (by decide) (by simp; rfl) (by simp) ?_
    simp
    refine guess_s2 (k := 3) (b := b) (by decide) (by simp; rfl) (by simp) ?_
    simp
    refine LoopC.le (le_blankC (d := [2]) (u := 1) (cs := geL 3 (W / 256 % 256) (.sl true []) (.sl true []) (.sl true [])) 10 [11] 14 (by simp) rfl (by simp)) ?_
    refine guess_l3 (a := a) (by omega) (fun x hx => (wfT_iff.1 wfa).ks x hx) ga (list := W / 256 % 256) a.kids.length 0 _ (by omega) (by simp [updF_app]; rfl) (by simp [updF_app]) (by simp [updF_app]) (by simp [updF_app]) fun H2 c1 c2 c11 => ?_
    simp [c1,c2]
    have fo : ∀ H3 : Hp,H3 [11] = H2 [11]→Frz H3 (.osl [11] (a.kids.length + 1) 14 0 a.kids.length) (oKs (a.kids.map stpG)) := fun H3 hH => by
      have := frz_rowF (H := H3) (o := [11]) (u := a.kids.length + 1) (n := a.kids.length) (sz := 14) (l := a.kids) (f := stpRaw) (g := oA ∘ stpG) (by simp [hH,c11]) rfl (fun x _ => by
        unfold stpRaw stpG
        by_cases h3 : wdT x 0 % 256 = 3
        · have n12 : ¬ (wdT x 0 % 256 = 1∨wdT x 0 % 256 = 2) := by omega
          simp [h3,A.soft,A.softL,soft_eL,soft_uv,soft_tKs,soft_wKs,soft_kKs,soft_oKs]
        · by_cases h12 : wdT x 0 % 256 = 1∨wdT x 0 % 256 = 2
          · simp [h3,h12,e0Raw,A.soft,A.softL,soft_tKs]
          · simp [h3,h12,e0Raw,A.soft,A.softL,soft_tKs])
      rw [← List.map_map] at this
      exact this
    have fo' := fo (updF H2 [1] ⟨1,.cells (geL 3 (W / 256 % 256) (.sl true []) (.sl true []) (.osl [11] (a.kids.length + 1) 14 0 a.kids.length))⟩) (by simp [updF_app])
    refine frz_agg ?_
    simp

    repeat' (first | exact fo' | exact frz_sl | exact frz_bare rfl | apply And.intro)
  · simp [k1,k2,k3]
    rw [k1_centoref27_Guess.eq_1]
    simp
    refine guess_s1 (k := W % 256) (a := a) k2 (by simp; rfl) (by simp) ?_
    simp
    refine guess_s2 (k := W % 256) (b := b) k2 (by simp; rfl) (by simp) ?_
    simp
    refine guess_s3 (k := W % 256) (a := a) k3 (by simp; rfl) (by simp) ?_
    simp
    refine frz_agg ?_
    simp
    repeat' (first | exact frz_sl | exact frz_bare rfl | apply And.intro)
end Go.Proofs.YthfiijdbnkaabaaGreat

namespace Go.Proofs.YthfiijdbnkaabaaGreat
set_option linter.unusedVariables false
set_option linter.unusedSimpArgs false
open Go Go.G Go.Proofs Go.PL
theorem pt_0_8 {w : Int} (h : u64R w) : G.Spec Tryz.prog 71 [uv w,iv 0,iv 8] (iv (w % 256)) := by
  have := bpart_spec h (f := 0) (b := 8) (by omega) (by omega)
  simpa using this
theorem pt_8_8 {w : Int} (h : u64R w) : G.Spec Tryz.prog 71 [uv w,iv 8,iv 8] (iv (w / 256 % 256)) := by
  have := bpart_spec h (f := 8) (b := 8) (by omega) (by omega)
  simpa using this
theorem pt_0_32 {w : Int} (h : u64R w) : G.Spec Tryz.prog 71 [uv w,iv 0,iv 32] (iv (w % 4294967296)) := by
  have := bpart_spec h (f := 0) (b := 32) (by omega) (by omega)
  simpa using this
theorem pt_32_8 {w : Int} (h : u64R w) : G.Spec Tryz.prog 71 [uv w,iv 32,iv 8] (iv (w / 4294967296 % 256)) := by
  have := bpart_spec h (f := 32) (b := 8) (by omega) (by omega)
  simpa using this
theorem pt_8_40 {w : Int} (h : u64R w) : G.Spec Tryz.prog 71 [uv w,iv 8,iv 40] (iv (w / 256 % 1099511627776)) := by
  have := bpart_spec h (f := 8) (b := 40) (by omega) (by omega)
  simpa using this
def PReadS (t : T) : Prop := G.Spec Tryz.prog 40 [tX t] (eX (guess t))
theorem pWd_spec (t : T) (i : Nat) : G.Spec Tryz.prog 70 [tX t,iv i] (uv (wdT t i)) := treeWord_spec t i
theorem pKd_spec (t : T) (i : Nat) : G.Spec Tryz.prog 72 [tX t,iv i] (tX (kdT t i)) := treeKid_spec t i
theorem pStep_spec {x : T} (hw : wfT x) (ih : PReadS (kdT x 0)) : G.Spec Tryz.prog 73 [tX x] (oX (stpG x)) := by
  have hd0 := wd_in hw 0
  unfold PReadS at ih
  refine spec_of t_patch_step (by simp) fun w0 I0 => ?_
  unfold c_patch_step stpG
  simp
  refine sc_call (pWd_spec x 0) rfl ?_
  simp
  refine sc_call (pt_0_8 hd0) rfl ?_
  simp
  refine sc_call (pt_8_40 hd0) rfl ?_
  by_cases k3 : wdT x 0 % 256 = 3
  · have n12 : ¬ (wdT x 0 % 256 = 1∨wdT x 0 % 256 = 2) := by omega
    simp [k3]
    rw [k1_patch_step.eq_1]
    simp
    refine sc_call (pKd_spec x 0) rfl ?_
    simp
    refine sc_call ih rfl ?_
    simp
    refine frz_agg ?_
    simp
    repeat' (first | exact frz_sl | exact frz_bare rfl | apply And.intro)
  · by_cases k1 : wdT x 0 % 256 = 1
    · simp [k1]
      rw [k1_patch_step.eq_1]
      simp
      refine sc_call (pKd_spec x 0) rfl ?_
      simp
      refine frz_agg ?_
      simp
      repeat' (first | exact frz_sl | exact frz_bare rfl | apply And.intro)
    · by_cases k2 : wdT x 0 % 256 = 2
      · simp [k2]
        rw [k1_patch_step.eq_1]
        simp
        refine sc_call (pKd_spec x 0) rfl ?_
        simp
        refine frz_agg ?_
        simp
        repeat' (first | exact frz_sl | exact frz_bare rfl | apply And.intro)
      · simp [k1,k2,k3]
        rw [k1_patch_step.eq_1]
        simp [k3]
        refine frz_agg ?_
        simp
        repeat' (first | exact frz_sl | exact frz_bare rfl | apply And.intro)
section
variable {n0 : Nat} {w0 : World} {I0 : Nat→Prop} {Q : Exit→Sta→Prop}
theorem read_l1 {a : T} (hl : a.kids.length * 56≤140737488355328) (hw : ∀ x,x ∈ a.kids→wfT x) {list : Int} {v1 v4 v8 : VOb} : ∀ (m i : Nat) (H : Hp),i + m = a.kids.length→H [8] = v8→H [1] = v1→H [2] = ⟨1,.cells (geL 2 list (.osl [6] (i + 1) 4 0 i) (.sl true []) (.sl true []))⟩→H [4] = v4→H [6] = ⟨i + 1,.arr 4 ((a.kids.take i).map (wA ∘ wordG))⟩ →
    (∀ q H',H' [8] = v8→H' [1] = v1→H' [2] = ⟨1,.cells (geL 2 list (.osl [6] (a.kids.length + 1) 4 0 a.kids.length) (.sl true []) (.sl true []))⟩→H' [4] = v4→H' [6] = ⟨a.kids.length + 1,.arr 4 (a.kids.map (wA ∘ wordG))⟩ →
      Q (.exit 1) ⟨lk [(2,.pob [1] 1 0),(4,.pob [2] 1 0),(6,.pob [4] 1 0),(40,tKs a.kids),(41,iv a.kids.length),(42,iv a.kids.length),(43,bv q)],H'⟩) →
    LoopC (cx Tryz.prog w0 I0 n0) l1_patch_read Q ⟨lk [(2,.pob [1] 1 0),(4,.pob [2] 1 0),(6,.pob [4] 1 0),(40,tKs a.kids),(41,iv a.kids.length),(42,iv i)],H⟩ := by
  intro m
  induction m with
  | zero =>
    intro i H hi h8 h1 h2 h4 h6 hq
    have : i = a.kids.length := by omega
    subst this
    refine loopC_once mixed l1_patch_read.eq_1 ?_
    simp
    exact hq _ H h8 h1 h2 h4 (by rw [h6]; simp)
  | succ m ih =>
    intro i H hi h8 h1 h2 h4 h6 hq
    have hlt : i < a.kids.length := by omega
    have ei : IntKind.i64.wrap ((i : Int) + 1) = ((i + 1 : Nat) : Int) := i64_same (by omega) (by omega)
    have hrow := row_succ (f := wA ∘ wordG) hlt rfl
    simp only [Function.comp,wA,wordG] at hrow
    have hwx := hw _ (List.getElem_mem hlt)
    generalize hx : a.kids[i] = x at *
    have hd0 := wd_in hwx 0
    have e8 : IntKind.u8.wrap (wdT x 0 / 4294967296 % 256) = wdT x 0 / 4294967296 % 256 := by rw [IntKind.wrap_u8]; omega
    refine loopC_once mixed l1_patch_read.eq_1 ?_
    simp [hlt,hx,updF_app,h2]
    refine sc_call (pWd_spec x 0) rfl ?_
    simp [updF_app,h2]
    refine sc_call (pt_0_32 hd0) rfl ?_
    simp [updF_app,h2]
    refine sc_call (pt_32_8 hd0) rfl ?_
    simp [updF_app,h2]
    refine sc_call (pWd_spec x 1) rfl ?_
    simp [updF_app,h2]
    refine sc_call (pWd_spec x 2) rfl ?_
    simp [updF_app,h2,h6,ei,e8]
    refine ⟨⟨by omega,by omega⟩,?_⟩
    refine ih (i + 1) _ (by omega) (by simp [updF_app,h8]) (by simp [updF_app,h1]) (by simp [updF_app]) (by simp [updF_app,h4]) ?_ hq
    simp only [updF_app]
    refine congrArg (fun r => (⟨i + 1 + 1,.arr 4 r⟩ : VOb)) ?_
    exact hrow
theorem read_l2 {b : T} (hl : b.kids.length * 208≤140737488355328) (hw : ∀ x,x ∈ b.kids→wfT x) (ihg : ∀ x,x ∈ b.kids→PReadS (kdT x 0)) {list : Int} {W : A} {v1 v6 : VOb} : ∀ (m i : Nat) (H : Hp),i + m = b.kids.length→H [1] = v1→H [2] = ⟨1,.cells (geL 2 list W (.osl [8] (i + 1) 12 0 i) (.sl true []))⟩→H [6] = v6→H [8] = ⟨i + 1,.arr 12 ((b.kids.take i).map (kA ∘ kidG))⟩ →
    (∀ q H',H' [1] = v1→H' [2] = ⟨1,.cells (geL 2 list W (.osl [8] (b.kids.length + 1) 12 0 b.kids.length) (.sl true []))⟩→H' [6] = v6→H' [8] = ⟨b.kids.length + 1,.arr 12 (b.kids.map (kA ∘ kidG))⟩ →
      Q (.exit 3) ⟨lk [(2,.pob [1] 1 0),(4,.pob [2] 1 0),(65,tKs b.kids),(66,iv b.kids.length),(67,iv b.kids.length),(68,bv q)],H'⟩) →
    LoopC (cx Tryz.prog w0 I0 n0) l2_patch_read Q ⟨lk [(2,.pob [1] 1 0),(4,.pob [2] 1 0),(65,tKs b.kids),(66,iv b.kids.length),(67,iv i)],H⟩ := by
  intro m
  induction m with
  | zero =>
    intro i H hi h1 h2 h6 h8 hq
    have : i = b.kids.length := by omega
    subst this
    refine loopC_once mixed l2_patch_read.eq_1 ?_
    simp
    exact hq _ H h1 h2 h6 (by rw [h8]; simp)
  | succ m ih =>
    intro i H hi h1 h2 h6 h8 hq
    have hlt : i < b.kids.length := by omega
    have ei : IntKind.i64.wrap ((i : Int) + 1) = ((i + 1 : Nat) : Int) := i64_same (by omega) (by omega)
    have hrow := row_succ (f := kA ∘ kidG) hlt rfl
    simp only [Function.comp,kA_eq,kidG] at hrow
    have hwx := hw _ (List.getElem_mem hlt)
    have ihx := ihg _ (List.getElem_mem hlt)
    unfold PReadS at ihx
    generalize hx : b.kids[i] = x at *
    have hd0 := wd_in hwx 0
    refine loopC_once mixed l2_patch_read.eq_1 ?_
    simp [hlt,hx,updF_app,h2]
    refine sc_call (pWd_spec x 0) rfl ?_
    simp [updF_app,h2]
    refine sc_call (pt_0_32 hd0) rfl ?_
    simp [updF_app,h2]
    refine sc_call (pKd_spec x 0) rfl ?_
    simp [updF_app,h2]
    refine sc_call ihx rfl ?_
    simp [updF_app,h2,h8,ei]
    refine ⟨⟨by omega,by omega⟩,?_⟩
    refine ih (i + 1) _ (by omega) (by simp [updF_app,h1]) (by simp [updF_app]) (by simp [updF_app,h6]) ?_ hq
    simp only [updF_app]
    refine congrArg (fun r => (⟨i + 1 + 1,.arr 12 r⟩ : VOb)) ?_
    exact hrow
theorem read_l3 {a : T} (hl : a.kids.length * 240≤140737488355328) (hw : ∀ x,x ∈ a.kids→wfT x) (ihg : ∀ x,x ∈ a.kids→PReadS (kdT x 0)) {list : Int} {v1 : VOb} : ∀ (m i : Nat) (H : Hp),i + m = a.kids.length→H [1] = v1→H [2] = ⟨1,.cells (geL 3 list (.sl true []) (.sl true []) (.osl [10] (i + 1) 14 0 i))⟩→H [10] = ⟨i + 1,.arr 14 ((a.kids.take i).map (oA ∘ stpG))⟩ →
    (∀ q H',H' [1] = v1→H' [2] = ⟨1,.cells (geL 3 list (.sl true []) (.sl true []) (.osl [10] (a.kids.length + 1) 14 0 a.kids.length))⟩→H' [10] = ⟨a.kids.length + 1,.arr 14 (a.kids.map (oA ∘ stpG))⟩ →
      Q (.exit 5) ⟨lk [(2,.pob [1] 1 0),(4,.pob [2] 1 0),(87,tKs a.kids),(88,iv a.kids.length),(89,iv a.kids.length),(90,bv q)],H'⟩) →
    LoopC (cx Tryz.prog w0 I0 n0) l3_patch_read Q ⟨lk [(2,.pob [1] 1 0),(4,.pob [2] 1 0),(87,tKs a.kids),(88,iv a.kids.length),(89,iv i)],H⟩ := by
  intro m
  induction m with
  | zero =>
    intro i H hi h1 h2 h11 hq
    have : i = a.kids.length := by omega
    subst this
    refine loopC_once mixed l3_patch_read.eq_1 ?_
    simp
    exact hq _ H h1 h2 (by rw [h11]; simp)
  | succ m ih =>
    intro i H hi h1 h2 h11 hq
    have hlt : i < a.kids.length := by omega
    have ei : IntKind.i64.wrap ((i : Int) + 1) = ((i + 1 : Nat) : Int) := i64_same (by omega) (by omega)
    have hrow := row_succ (f := oA ∘ stpG) hlt rfl
    simp only [Function.comp,oA_eq] at hrow
    have hst := pStep_spec (hw _ (List.getElem_mem hlt)) (ihg _ (List.getElem_mem hlt))
    refine loopC_once mixed l3_patch_read.eq_1 ?_
    simp [hlt,updF_app,h2]
    refine sc_call hst rfl ?_
    simp [updF_app,h2,h11,ei]
    refine ⟨⟨by omega,by omega⟩,?_⟩
    refine ih (i + 1) _ (by omega) (by simp [updF_app,h1]) (by simp [updF_app]) ?_ hq
    simp only [updF_app]
    refine congrArg (fun r => (⟨i + 1 + 1,.arr 14 r⟩ : VOb)) ?_
    exact hrow
end
def ReadP (t : T) : Prop := wfT t→SmT t→PReadS t∧∀ x,x ∈ t.kids→PReadS x∧∀ y,y ∈ x.kids→PReadS y
theorem read_other {t : T} (hw : wfT t) (h : t.kind ≠ 1) : PReadS t := by
  unfold PReadS
  rw [guess_eq,if_pos h]
  have d0 := wd_in hw 0
  refine spec_of t_patch_read (by simp) fun w0 I0 => ?_
  unfold c_patch_read
  simp
  refine sc_call (pWd_spec t 0) rfl ?_
  simp
  refine sc_call (pt_0_8 d0) rfl ?_
  simp
  refine sc_call (pt_8_8 d0) rfl ?_
  simp [h]
  refine frz_agg ?_
  simp
  repeat' (first | exact frz_sl | exact frz_bare rfl | apply And.intro)
set_option maxRecDepth 10000 in
theorem read_all : ∀ t : T,ReadP t := by
  refine T.ind fun k w l ih hw hsm => ?_
  have hwk := (wfT_iff.1 hw).ks
  have hdeep : ∀ (i : Nat) x,x ∈ (kdT (.mk k w l) i).kids→PReadS (kdT x 0) := fun i x hx => by
    have hm := kd_mem hx
    have hP := ih _ hm (hwk _ hm) (hsm.kid _ hm)
    have hwx := (wfT_iff.1 (hwk _ hm)).ks x hx
    unfold kdT
    rw [List.getD_eq_getElem?_getD]
    cases e : x.kids[0]? with
    | none => exact read_other (wfT_iff.2 ⟨by simp [i64R],by simp,by simp,by simp,by simp⟩) (by decide)
    | some y => exact (hP.2 x hx).2 y (List.mem_of_getElem? e)
  refine ⟨?_,fun x hx => ?_⟩
  rotate_left
  · have hP := ih x hx (hwk x hx) (hsm.kid x hx)
    exact ⟨hP.1,fun y hy => (hP.2 y hy).1⟩
  by_cases h1 : k = 1
  rotate_left
  · exact read_other hw h1
  subst h1
  have d0 := wd_in hw 0
  have wfa := wf_kd hw 0
  have wfb := wf_kd hw 1
  have sma := (hsm.kd 0).len
  have smb := (hsm.kd 1).len
  unfold PReadS
  rw [guess_eq,if_neg (by simp)]
  have ga := hdeep 0
  have gb := hdeep 1
  have sA := pKd_spec (.mk 1 w l) 0
  have sB := pKd_spec (.mk 1 w l) 1
  have sW := pWd_spec (.mk 1 w l) 0
  generalize hA : kdT (.mk 1 w l) 0 = a at *
  generalize hB : kdT (.mk 1 w l) 1 = b at *
  generalize hW : wdT (.mk 1 w l) 0 = W at *
  refine spec_of t_patch_read (by simp) fun w0 I0 => ?_
  unfold c_patch_read
  simp
  refine sc_call sW rfl ?_
  simp
  refine sc_call (pt_0_8 d0) rfl ?_
  simp
  refine sc_call (pt_8_8 d0) rfl ?_
  simp
  refine sc_call sA rfl ?_
  simp
  refine sc_call sB rfl ?_
  have k256 : W % 256 = 1∨W % 256 = 2∨W % 256 = 3∨(W % 256 ≠ 1∧W % 256 ≠ 2∧W % 256 ≠ 3) := by omega
  rcases k256 with k | k | k | ⟨k1,k2,k3⟩
  · simp [k]
    refine frz_agg ?_
    simp
    repeat' (first | exact frz_sl | exact frz_bare rfl | apply And.intro)
  · simp [k]
    refine LoopC.le (le_blankC (d := [2]) (u := 1) (cs := geL 2 (W / 256 % 256) (.sl true []) (.sl true []) (.sl true [])) 7 [6] 4 (by simp) rfl (by simp)) ?_
    refine read_l1 (a := a) (by omega) (fun x hx => (wfT_iff.1 wfa).ks x hx) (list := W / 256 % 256) a.kids.length 0 _ (by omega) (by simp [updF_app]; rfl) (by simp [updF_app]; rfl) (by simp [updF_app]) (by simp [updF_app]; rfl) (by simp [updF_app]) fun q H1 b8 b1 b2 b4 b6 => ?_
    simp [b4]
    refine LoopC.le (le_blankC (d := [2]) (u := 1) (cs := geL 2 (W / 256 % 256) (.osl [6] (a.kids.length + 1) 4 0 a.kids.length) (.sl true []) (.sl true [])) 8 [8] 12 b2 rfl (by simp)) ?_
    refine read_l2 (b := b) (by omega) (fun x hx => (wfT_iff.1 wfb).ks x hx) gb (list := W / 256 % 256) b.kids.length 0 _ (by omega) (by simp [updF_app,b1]; rfl) (by simp [updF_app,b8]; rfl) (by simp [updF_app,b6]; rfl) (by simp [updF_app,b8]) fun q2 H2 c1 c2 c6 c8 => ?_
    simp [c1,c2]
    have fw : ∀ H3 : Hp,H3 [6] = H2 [6]→Frz H3 (.osl [6] (a.kids.length + 1) 4 0 a.kids.length) (wKs (a.kids.map wordG)) := fun H3 hH => by
      have := frz_row (H := H3) (o := [6]) (u := a.kids.length + 1) (n := a.kids.length) (sz := 4) (l := a.kids) (f := wA ∘ wordG) (by simp [hH,c6]) rfl (fun x => by simp)
      rw [← List.map_map] at this
      exact this
    have fk : ∀ H3 : Hp,H3 [8] = H2 [8]→Frz H3 (.osl [8] (b.kids.length + 1) 12 0 b.kids.length) (kKs (b.kids.map kidG)) := fun H3 hH => by
      have := frz_row (H := H3) (o := [8]) (u := b.kids.length + 1) (n := b.kids.length) (sz := 12) (l := b.kids) (f := kA ∘ kidG) (by simp [hH,c8]) rfl (fun x => by simp)
      rw [← List.map_map] at this
      exact this
    have fw' := fw (updF H2 [1] ⟨1,.cells (geL 2 (W / 256 % 256) (.osl [6] (a.kids.length + 1) 4 0 a.kids.length) (.osl [8] (b.kids.length + 1) 12 0 b.kids.length) (.sl true []))⟩) (by simp [updF_app])
    have fk' := fk (updF H2 [1] ⟨1,.cells (geL 2 (W / 256 % 256) (.osl [6] (a.kids.length + 1) 4 0 a.kids.length) (.osl [8] (b.kids.length + 1) 12 0 b.kids.length) (.sl true []))⟩) (by simp [updF_app])
    refine frz_agg ?_
    simp
    repeat' (first | exact fw' | exact fk' | exact frz_sl | exact frz_bare rfl | apply And.intro)
  · simp [k]
    refine LoopC.le (le_blankC (d := [2]) (u := 1) (cs := geL 3 (W / 256 % 256) (.sl true []) (.sl true []) (.sl true [])) 10 [10] 14 (by simp) rfl (by simp)) ?_
    refine read_l3 (a := a) (by omega) (fun x hx => (wfT_iff.1 wfa).ks x hx) ga (list := W / 256 % 256) a.kids.length 0 _ (by omega) (by simp [updF_app]; rfl) (by simp [updF_app]) (by simp [updF_app]) fun q H2 c1 c2 c11 => ?_
    simp [c1,c2]
    have fo : ∀ H3 : Hp,H3 [10] = H2 [10]→Frz H3 (.osl [10] (a.kids.length + 1) 14 0 a.kids.length) (oKs (a.kids.map stpG)) := fun H3 hH => by
      have := frz_row (H := H3) (o := [10]) (u := a.kids.length + 1) (n := a.kids.length) (sz := 14) (l := a.kids) (f := oA ∘ stpG) (by simp [hH,c11]) rfl (fun x => by simp)
      rw [← List.map_map] at this
      exact this
    have fo' := fo (updF H2 [1] ⟨1,.cells (geL 3 (W / 256 % 256) (.sl true []) (.sl true []) (.osl [10] (a.kids.length + 1) 14 0 a.kids.length))⟩) (by simp [updF_app])
    refine frz_agg ?_
    simp
    repeat' (first | exact fo' | exact frz_sl | exact frz_bare rfl | apply And.intro)
  · simp [k1,k2,k3]
    refine frz_agg ?_
    simp
    repeat' (first | exact frz_sl | exact frz_bare rfl | apply And.intro)
end Go.Proofs.YthfiijdbnkaabaaGreat

namespace Go.Proofs.YthfiijdbnkaabaaGreat
set_option linter.unusedVariables false
set_option linter.unusedSimpArgs false
open Go Go.G Go.Proofs
structure Ar where
  l : List (Nat × List Int)
  u : Nat
  ur : Nat
  size : Int
  most : Int
  used : Int
def Ar.w (S : Ar) : List (List Int) := S.l.map Prod.snd
abbrev Ar.a (S : Ar) : A := arX S.w S.size S.most S.used
end Go.Proofs.YthfiijdbnkaabaaGreat

namespace Go.Proofs.YthfiijdbnkaabaaGreat
set_option linter.unusedVariables false
set_option linter.unusedSimpArgs false
open Go Go.G Go.Proofs
structure Ar.Ok (S : Ar) : Prop where
  used0 : 0≤S.used
  used1 : S.used≤S.most
  most1 : S.most≤131072
  size0 : 1≤S.size
  size1 : S.size < 9223372036854775808
  len : S.l.length≤16
  seg : ∀ e,e ∈ S.l→(e.2.length : Int)≤S.used
theorem Ar.Ok.szAt {S : Ar} (h : S.Ok) (s : Int) : 0≤(Go.Proofs.YthfiijdbnkaabaaGreat.szAt S.w s : Int)∧(Go.Proofs.YthfiijdbnkaabaaGreat.szAt S.w s : Int)≤S.used := by
  refine ⟨by omega,?_⟩
  unfold Go.Proofs.YthfiijdbnkaabaaGreat.szAt
  cases e : Go.Proofs.YthfiijdbnkaabaaGreat.seg S.w s with
  | none => exact h.used0
  | some g =>
    obtain ⟨_,_,h2,rfl⟩ := seg_some e
    simp only [Option.map_some,Option.getD_some]
    simp only [Ar.w,List.getElem_map]
    exact h.seg _ (List.getElem_mem _)
end Go.Proofs.YthfiijdbnkaabaaGreat

namespace Go.Proofs.YthfiijdbnkaabaaGreat
set_option linter.unusedVariables false
set_option linter.unusedSimpArgs false
open Go Go.G Go.Proofs
@[simp] theorem segS_len' {S : Ar} {k i : Nat} {f : Nat × List Int→Nat × List Int} : (S.l.modify k f).length = S.l.length := by simp
section
end
end Go.Proofs.YthfiijdbnkaabaaGreat

namespace Go.Proofs.YthfiijdbnkaabaaGreat
set_option linter.unusedVariables false
set_option linter.unusedSimpArgs false
open Go Go.G Go.Proofs
def wl (S : Ar) (k : Nat) : Nat := ((S.l[k]?).map fun e => e.2.length).getD 0
def Wd (S : Ar) : Prop := ∀ e,e ∈ S.l→∀ x,x ∈ e.2→u64R x
structure Gr (S S' : Ar) : Prop where
  ok : S'.Ok
  wd : Wd S'
  wl : ∀ k,Go.Proofs.YthfiijdbnkaabaaGreat.wl S k≤Go.Proofs.YthfiijdbnkaabaaGreat.wl S' k
theorem Gr.refl {S : Ar} (h : S.Ok) (w : Wd S) : Gr S S := ⟨h,w,fun _ => Nat.le_refl _⟩
theorem Gr.trans {S S' S2 : Ar} (h : Gr S S') (k : Gr S' S2) : Gr S S2 := ⟨k.ok,k.wd,fun i => Nat.le_trans (h.wl i) (k.wl i)⟩
end Go.Proofs.YthfiijdbnkaabaaGreat

namespace Go.Proofs.YthfiijdbnkaabaaGreat
set_option linter.unusedVariables false
set_option linter.unusedSimpArgs false
open Go Go.G Go.Proofs Go.PL
theorem laid_right : ∀ (t : T) (d : Nat),rightT d t = true→wfT t→t.kind ≠ 10→LayOk (norm t) := by
  refine T.ind fun k w ks ih d hr hw h10 => ?_
  have hst := rightT_struct hr
  have hwk := (wfT_iff.1 hw).ks
  simp at h10
  rw [rightT_mk] at hr
  rw [norm_mk]
  by_cases h0 : k = 0
  · rw [if_pos h0]; exact .null _
  rw [if_neg h0] at hr ⊢
  rw [if_neg h10] at hr
  have htb : tooBig k d w.length ks.length = false := by
    cases e : tooBig k d w.length ks.length with
    | false => rfl
    | true => rw [e] at hr; simp at hr
  simp [tooBig] at htb
  by_cases h1 : k = 1
  · rw [if_pos h1]
    have hb2 := trimW_le w
    have hb3 := trimK_le (ks.map norm)
    rw [List.length_map] at hb3
    refine .str _ _ (by omega) (by omega) fun t ht => ?_
    rw [trimK_map] at ht
    obtain ⟨u,hu,rfl⟩ := List.mem_map.1 (List.mem_of_mem_take ht)
    obtain ⟨g1,g2⟩ := hst u hu
    refine ih u hu _ g1 (hwk u hu) fun e => ?_
    subst h1
    simp [kidOk,isData,e] at g2
  rw [if_neg h1]
  by_cases h8 : k = 8
  · subst h8
    refine .ptrs _ _ (by simp; omega) fun t ht => ?_
    obtain ⟨u,hu,rfl⟩ := List.mem_map.1 ht
    obtain ⟨g1,g2⟩ := hst u hu
    refine ih u hu _ g1 (hwk u hu) fun e => ?_
    simp [kidOk,isData,e] at g2
  by_cases h9 : k = 9
  · subst h9
    have kk : ∀ u,u ∈ ks→u.kind = 1∧LayOk (norm u) := fun u hu => by
      obtain ⟨g1,g2⟩ := hst u hu
      have hk1 : u.kind = 1 := by
        simp [kidOk,isData] at g2
        exact g2.2
      exact ⟨hk1,ih u hu _ g1 (hwk u hu) (by omega)⟩
    have two : ∀ u,u ∈ ks→(norm u).words.length < 65536∧(norm u).kids.length < 65536∧∀ c,c ∈ (norm u).kids→LayOk c := fun u hu => by
      obtain ⟨e1,hL⟩ := kk u hu
      have hkn2 : (norm u).kind = 1 := by rw [norm_kind]; exact e1
      generalize norm u = x at hL hkn2
      cases hL with
      | str w ks b1 b2 h => exact ⟨b1,b2,h⟩
      | _ => simp at hkn2 <;> omega
    refine .comp _ _ (by simp; omega) (fun t ht => ?_) fun t ht c hc => ?_
    · obtain ⟨u,hu,rfl⟩ := List.mem_map.1 ht
      exact ⟨(two u hu).1,(two u hu).2.1⟩
    · obtain ⟨u,hu,rfl⟩ := List.mem_map.1 ht
      exact (two u hu).2.2 c hc
  refine .data _ _ _ (by omega) (by omega) (by simp; omega) fun c hc => ?_
  obtain ⟨u,hu,rfl⟩ := List.mem_map.1 hc
  obtain ⟨g1,g2⟩ := hst u hu
  have hd : isData k = true := by simp [isData]; omega
  have hwu := hwk u hu
  obtain ⟨k2,w2,l2⟩ := u
  simp [kidOk,hd] at g2
  obtain ⟨⟨e1,e2⟩,e3⟩ := g2
  have e1 : k2 = 10 := of_decide_eq_true e1
  subst e1
  rw [rightT_mk,if_neg (by decide),if_pos rfl] at g1
  simp at g1
  obtain ⟨x,hx⟩ := List.length_eq_one_iff.1 g1.1
  subst hx
  have hr := (wfT_iff.1 hwu).w x (by simp)
  refine ⟨x,by rw [norm_mk]; simp,hr.1,hr.2,by simpa using e3⟩
end Go.Proofs.YthfiijdbnkaabaaGreat

namespace Go.Proofs.YthfiijdbnkaabaaGreat
set_option linter.unusedVariables false
set_option linter.unusedSimpArgs false
open Go Go.G Go.Proofs
def right (p : Pt) : Bool :=
  if p.kind = 0 then decide (p = ⟨0,0,0,0,0,0,0,false⟩)
  else if p.kind = 1 then decide (-536870912≤p.off∧p.off < 536870912∧0≤p.data∧p.data < 65536∧0≤p.ptrs∧p.ptrs < 65536∧p = ⟨1,p.off,p.data,p.ptrs,0,0,0,false⟩∧(p.off ≠ 0∨p.data ≠ 0∨p.ptrs ≠ 0))
  else if p.kind = 2 then decide (-536870912≤p.off∧p.off < 536870912∧0≤p.code∧p.code < 8∧0≤p.count∧p.count < 536870912∧p = ⟨2,p.off,0,0,p.code,p.count,0,false⟩)
  else if p.kind = 3 then decide (0≤p.off∧p.off < 536870912∧0≤p.seg∧p.seg < 4294967296∧p = ⟨3,p.off,0,0,0,0,p.seg,p.dbl⟩)
  else false
end Go.Proofs.YthfiijdbnkaabaaGreat

namespace Go.Proofs.YthfiijdbnkaabaaGreat
set_option linter.unusedVariables false
set_option linter.unusedSimpArgs false
open Go Go.G Go.Proofs
theorem offs_of {o r : Int} (h1 : -536870912≤o) (h2 : o < 536870912) (h3 : 0≤r) (k : Int) (hk : 0≤k) (hk4 : k < 4) : offs (o * 4 % 4294967296 + k + r * 4294967296) = o := by
  unfold offs
  split <;> omega
theorem enc_right (p : Pt) : encB p = right p := by
  obtain ⟨k,o,d,q,co,n,s,b⟩ := p
  by_cases h1 : k = 1
  · subst h1
    by_cases hr : -536870912≤o∧o < 536870912∧0≤d∧d≤65535∧0≤q∧q≤65535
    · have e : encW ⟨1,o,d,q,co,n,s,b⟩ = o * 4 % 4294967296 + d * 4294967296 + q * 281474976710656 := by rw [encW,if_pos rfl,if_pos hr]
      obtain ⟨a1,a2,a3,a4,a5,a6⟩ := hr
      refine Bool.eq_iff_iff.2 ?_
      simp only [encB,e]
      by_cases hz : o = 0∧d = 0∧q = 0
      · obtain ⟨rfl,rfl,rfl⟩ := hz
        simp [dec,right]
      · have e2 : dec (o * 4 % 4294967296 + d * 4294967296 + q * 281474976710656) = ⟨1,o,d,q,0,0,0,false⟩ := by
          have eo := offs_of (r := d + q * 65536) a1 a2 (by omega) 0 (by omega) (by omega)
          rw [show o * 4 % 4294967296 + 0 + (d + q * 65536) * 4294967296 = o * 4 % 4294967296 + d * 4294967296 + q * 281474976710656 from by omega] at eo
          rw [dec,if_neg (by omega),if_pos (by omega),eo]
          congr 1 <;> omega
        rw [e2]
        cases b <;> simp [right] <;> omega
    · have e : encW ⟨1,o,d,q,co,n,s,b⟩ = 0 := by rw [encW,if_pos rfl,if_neg hr]
      refine Bool.eq_iff_iff.2 ?_
      simp [encB,e,dec,right]
      omega
  by_cases h2 : k = 2
  · subst h2
    by_cases hr : -536870912≤o∧o < 536870912∧0≤co∧co≤7∧0≤n∧n≤536870911
    · have e : encW ⟨2,o,d,q,co,n,s,b⟩ = o * 4 % 4294967296 + 1 + co * 4294967296 + n * 34359738368 := by rw [encW,if_neg (by simp),if_pos rfl,if_pos hr]
      obtain ⟨a1,a2,a3,a4,a5,a6⟩ := hr
      refine Bool.eq_iff_iff.2 ?_
      simp only [encB,e]
      have e2 : dec (o * 4 % 4294967296 + 1 + co * 4294967296 + n * 34359738368) = ⟨2,o,0,0,co,n,0,false⟩ := by
        have eo := offs_of (r := co + n * 8) a1 a2 (by omega) 1 (by omega) (by omega)
        rw [show o * 4 % 4294967296 + 1 + (co + n * 8) * 4294967296 = o * 4 % 4294967296 + 1 + co * 4294967296 + n * 34359738368 from by omega] at eo
        rw [dec,if_neg (by omega),if_neg (by omega),if_pos (by omega),eo]
        congr 1 <;> omega
      rw [e2]
      cases b <;> simp [right] <;> omega
    · have e : encW ⟨2,o,d,q,co,n,s,b⟩ = 0 := by rw [encW,if_neg (by simp),if_pos rfl,if_neg hr]
      refine Bool.eq_iff_iff.2 ?_
      simp [encB,e,dec,right]
      omega
  by_cases h3 : k = 3
  · subst h3
    by_cases hr : 0≤o∧o≤536870911∧0≤s∧s≤4294967295
    · have e : encW ⟨3,o,d,q,co,n,s,b⟩ = o * 8 + 2 + s * 4294967296 + (if b = true then 4 else 0) := by rw [encW,if_neg (by simp),if_neg (by simp),if_pos rfl,if_pos hr]
      obtain ⟨a1,a2,a3,a4⟩ := hr
      refine Bool.eq_iff_iff.2 ?_
      simp only [encB,e]
      have e2 : dec (o * 8 + 2 + s * 4294967296 + (if b = true then 4 else 0)) = ⟨3,o,0,0,0,0,s,b⟩ := by
        cases b with
        | true =>
          rw [if_pos rfl,dec,if_neg (by omega),if_neg (by omega),if_neg (by omega),if_pos (by omega)]
          congr 1 <;> first | omega | (simp; omega)
        | false =>
          rw [if_neg (by simp),dec,if_neg (by omega),if_neg (by omega),if_neg (by omega),if_pos (by omega)]
          congr 1 <;> first | omega | (simp; omega)
      rw [e2]
      simp [right]
      omega
    · have e : encW ⟨3,o,d,q,co,n,s,b⟩ = 0 := by rw [encW,if_neg (by simp),if_neg (by simp),if_pos rfl,if_neg hr]
      refine Bool.eq_iff_iff.2 ?_
      simp [encB,e,dec,right]
      omega
  have e : encW ⟨k,o,d,q,co,n,s,b⟩ = 0 := by rw [encW,if_neg h1,if_neg h2,if_neg h3]
  refine Bool.eq_iff_iff.2 ?_
  simp [encB,e,dec,right,h1,h2,h3]
  by_cases h0 : k = 0
  · cases b <;> simp [h0] <;> omega
  · simp [h0]
    intro hk
    omega
end Go.Proofs.YthfiijdbnkaabaaGreat

namespace Go.Proofs.YthfiijdbnkaabaaGreat
set_option linter.unusedVariables false
set_option linter.unusedSimpArgs false
open Go Go.G Go.Proofs Go.PL
section
variable {n0 : Nat} {w0 : World} {I0 : Nat→Prop} {Q : Exit→Sta→Prop}
theorem pPut_l1 {c : Int} {ns : List Int} (hn : ns.length≤1000000000) {w : Nat} (hw : w = 0∨w = 1∨w = 8∨w = 16∨w = 32∨w = 64) (hwc : widthZ c = w) (hfit : ∀ x,x ∈ ns→u64R x∧fitsZ c x = true) {m : Nat} (hm : w ≠ 0→m = (ns.length * w + 63) / 64)
    (hq : ∀ (q : Bool) (H' : Hp) (out : List Int),out = putL w ns 0 (List.replicate m 0)→H' [0] = ⟨1,.arr 1 (out.map uv)⟩→Q (.exit 0) ⟨lk [(0,iv c),(6,nv w),(8,.osl [0] 1 1 0 m),(23,uws ns),(24,nv ns.length),(25,nv ns.length),(26,bv q)],H'⟩) :
    ∀ (j i : Nat) (out : List Int) (H : Hp),i + j = ns.length→out.length = m→(w ≠ 0→PutI w i out)→putL w (ns.drop i) i out = putL w ns 0 (List.replicate m 0)→H [0] = ⟨1,.arr 1 (out.map uv)⟩ →
    LoopC (cx Tryz.prog w0 I0 n0) l1_word_Put Q ⟨lk [(0,iv c),(6,nv w),(8,.osl [0] 1 1 0 m),(23,uws ns),(24,nv ns.length),(25,nv i)],H⟩ := by
  have hw64 : w≤64 := by omega
  intro j
  induction j with
  | zero =>
    intro i out H hi hl hI hp hH
    have : i = ns.length := by omega
    subst this
    rw [List.drop_eq_nil_of_le (Nat.le_refl _),putL] at hp
    refine loopC_once mixed l1_word_Put.eq_1 ?_
    simp
    exact hq _ H out hp hH
  | succ j ih =>
    intro i out H hi hl hI hp hH
    have hlt : i < ns.length := by omega
    have ei : IntKind.i64.wrap ((i : Int) + 1) = ((i + 1 : Nat) : Int) := i64_same (by omega) (by omega)
    obtain ⟨f1,f2⟩ := hfit _ (List.getElem_mem hlt)
    have f1' := f1
    unfold u64R at f1'
    have hx2 := fits_lt hwc f1'.1 f2
    obtain ⟨e1,e2,e3⟩ := prod_mod (i := i) hw64 (by omega)
    rw [List.drop_eq_getElem_cons hlt,putL] at hp
    refine loopC_once mixed l1_word_Put.eq_1 ?_
    simp [hlt]
    refine sc_call (pFits_spec f1) (by simp) ?_
    simp [f2]
    by_cases h0 : w = 0
    · subst h0
      rw [if_pos rfl] at hp
      simp [ei]
      exact ih (i + 1) out H (by omega) hl (fun h => absurd rfl h) hp hH
    · rw [if_neg h0] at hp
      have hat : i * w / 64 < out.length := by rw [hl,hm h0]; exact put_at (by omega) hlt
      obtain ⟨p1,p2,p3,p4,p5⟩ := putI_step (hI h0) (by omega) f1'.1 hx2 hat
      have hw0 : (0 : Int) < w := by omega
      have hw0' : 0 < w := by omega
      have hg : out.getD (i * w / 64) 0 = out[i * w / 64] := by simp [hat]
      have hatm : i * w / 64 < m := by omega
      rw [hg] at p1 p2 p3 p5 hp
      have hnn := Int.mul_nonneg f1'.1 (show (0 : Int)≤2 ^ (i * w % 64) from Int.le_of_lt (Int.pow_pos (by decide)))
      have hs64 : i * w % 64 < 64 := Nat.mod_lt _ (by decide)
      have esh : IntKind.u64.wrap (ns[i] * 2 ^ min (i * w % 64) IntKind.u64.bits) = ns[i] * 2 ^ (i * w % 64) := by
        rw [show min (i * w % 64) IntKind.u64.bits = i * w % 64 from by simp [IntKind.bits]; omega]
        exact u64_same hnn p4
      have hor : bits .or .u64 out[i * w / 64] (ns[i] * 2 ^ (i * w % 64)) = out[i * w / 64] + ns[i] * 2 ^ (i * w % 64) :=
        u64_or' (i * w % 64) p2 p3 (by omega) hnn (Int.mul_emod_left _ _) p4
      have him : i * w≤1000000000 * 64 := Nat.mul_le_mul (by omega) hw64
      have eP : IntKind.i64.wrap ((i * w / 64 : Nat) : Int) = ((i * w / 64 : Nat) : Int) := i64_same (by omega) (by omega)
      have eS : IntKind.i64.wrap ((i * w % 64 : Nat) : Int) = ((i * w % 64 : Nat) : Int) := i64_same (by omega) (by omega)
      generalize i * w % 64 = s at *
      generalize i * w / 64 = P at *
      simp [hw0',e1,e2,e3,hH,hat,hatm,eP,eS,esh,hor,ei]
      refine ⟨?_,fun h => absurd h h0⟩
      refine ih (i + 1) (out.set P (out[P] + ns[i] * 2 ^ s)) _ (by omega) (by simpa using hl) (fun _ => p1) hp ?_
      simp [List.map_set]
end
theorem pPut_spec {c : Int} (c0 : 0≤c) (c6 : c < 6) {ns : List Int} (hn : ns.length≤1000000000) (hfit : ∀ x,x ∈ ns→u64R x∧fitsZ c x = true) : G.Spec Tryz.prog 99 [iv c,uws ns] (.tup [uws (putZ c ns),bv true]) := by
  obtain ⟨w,w1,w2,w3⟩ := width_cases c0 c6
  have hroom : roomZ c ns.length = (((ns.length * w + 63) / 64 : Nat) : Int) := by
    unfold roomZ
    rw [if_neg (by omega),w2]
    have e : (ns.length : Int) * w = ((ns.length * w : Nat) : Int) := by rw [Int.natCast_mul]
    rw [e]
    omega
  have hm : (roomZ c ns.length).toNat = (ns.length * w + 63) / 64 := by rw [hroom]; omega
  have hb : (ns.length * w + 63) / 64≤1000000001 := by
    have : ns.length * w≤1000000000 * 64 := Nat.mul_le_mul hn (by omega)
    omega
  refine spec_of t_word_Put (by simp) fun w0 I0 => ?_
  unfold c_word_Put
  simp
  refine sc_call (width_spec c) rfl ?_
  rw [w1]
  have hnn : ¬ (w : Int) < 0 := by omega
  simp [hnn]
  refine sc_call (room_spec' c ns.length) (by simp) ?_
  rw [hroom]
  generalize hM : (ns.length * w + 63) / 64 = m at *
  have hm8 : (m : Int) * 8≤140737488355328 := by omega
  have hz : putZ c ns = putL w ns 0 (List.replicate m 0) := by
    unfold putZ
    rw [w1,hm]
    simp
  rw [hz]
  simp [hm8]
  refine ⟨by omega,?_⟩
  refine pPut_l1 hn w3 w1 hfit (m := m) (fun _ => hM.symm) (fun q H' out ho hH => ?_) ns.length 0 (List.replicate m 0) _ (by omega) (by simp) (fun _ => PutI.start w m) (by simp) ?_
  rotate_left
  · simp
  subst ho
  simp
  refine frz_tup ?_
  simp
  exact ⟨frz_row (f := uv) (by rw [hH]; simp) (by simp [putL_length]) (fun x => by simp),frz_bare rfl⟩
def wrF (r : Nat) (S : Cp) : Nm→VOb
  | [] => ⟨1,.cells [.osl [r,0] S.v 1 0 S.W.length]⟩
  | [0] => ⟨S.v,.arr 1 (S.W.map uv)⟩
  | _ => ⟨0,.none⟩
@[simp] theorem wrF_nil {r : Nat} {S : Cp} : wrF r S [] = ⟨1,.cells [.osl [r,0] S.v 1 0 S.W.length]⟩ := rfl
@[simp] theorem wrF_0 {r : Nat} {S : Cp} : wrF r S [0] = ⟨S.v,.arr 1 (S.W.map uv)⟩ := rfl
theorem wrF_but {r : Nat} {S S' : Cp} {p : Nm} (h0 : p ≠ []) (h1 : p ≠ [0]) : wrF r S p = wrF r S' p := by
  match p,h0,h1 with
  | [],h,_ => exact absurd rfl h
  | [0],_,h => exact absurd rfl h
  | 0 :: a :: q,_,_ => rfl
  | (a + 1) :: q,_,_ => rfl
def wrM (S : Cp) : Fam := ⟨fun r => wrF r S,fun {g δ r r'} hg hd p => by
    match p with
    | [] => simp [VOb.ren,Ob.ren,A.renL,A.ren,hg,hd]
    | [0] => exact Fam.arr_ren (renL_uv _)
    | 0 :: a :: q => rfl
    | (a + 1) :: q => rfl,fun {D r} hD p => by
    match p with
    | [] => simp [Ob.refs,A.refsL,A.refs,hD]
    | [0] =>
      refine refsL_iff.2 fun x hx => ?_
      obtain ⟨c,_,rfl⟩ := List.mem_map.1 hx
      trivial
    | 0 :: a :: q => trivial
    | (a + 1) :: q => trivial⟩
@[simp] theorem wrM_F {S : Cp} {r : Nat} : (wrM S).F r = wrF r S := rfl
theorem wGive_spec (S : Cp) (hS : S.W.length≤131072) (n : Nat) (hn : n≤1000000) : SpecF Tryz.prog 62 (fun r => [.pob [r] 1 0,nv n]) (wrM S) (fun _ => nv S.W.length) (wrM ⟨S.v + 1,S.W ++ List.replicate n 0⟩) := by
  refine specF_of t_canon_writer_give (by simp) (famL_cons famA_pob (famL_cons famA_v famL_nil)) famA_v fun w0 I0 M0 m0 => ?_
  unfold c_canon_writer_give
  have hle : (S.W.length + n) * 8≤140737488355328 := by omega
  have hn1 : (n : Int) * 8≤140737488355328 := by omega
  simp [updF_app,hle,hn1]
  refine reth_fam rfl rfl fun p => ?_
  refine updF_is ?_ (fun h1 => updF_is ?_ (fun h2 => wrF_but h1 h2))
  · simp
  · simp [List.take_of_length_le]
theorem wpoint_k1 {n : Nat} {w0 : World} {I0 : Nat→Prop} {M0 : Nm→Nat→Prop} {m0 : Mu} {S : Cp} {q : Pt} {a : Nat} {t : A} (ha : a < S.W.length) {H : Hp} (hH : ∀ p,H (0 :: p) = wrF 0 S p) (hP : H [1] = ⟨1,.cells (ptL q)⟩) :
    WPC (cxh Tryz.prog w0 I0 M0 n m0) k1_canon_writer_point (RetH (cxh Tryz.prog w0 I0 M0 n m0) [.tmp 8] 1 (bv (encB q)) (ov 0 (wrF 0 ⟨S.v,S.W.set a (encW q)⟩) (lkH []))) ⟨lk [(0,.pob [0] 1 0),(1,nv a),(7,.pob [1] 1 0)],H⟩ := by
  unfold k1_canon_writer_point
  have ha' : (a : Int) < S.W.length := by omega
  simp [hP,hH]
  refine sc_call (Encode_spec q) (by simp) ?_
  simp [hH,ha]
  refine reth_famN rfl rfl fun p => ?_
  by_cases h0 : p = [0]
  · subst h0
    simp [updF_app,List.map_set]
  · by_cases h1 : p = []
    · subst h1
      simp [updF_app,hH]
    · simp only [updF_app]
      rw [if_neg (by simpa using h0),hH]
      exact wrF_but h1 h0
theorem wPoint_spec (S : Cp) {a : Nat} (ha : a < S.W.length) (ha2 : a≤200000) {to : Int} (t0 : 0≤to) (t1 : to≤200000) (p : Pt) (d0 : 0≤p.data) (d1 : p.data≤200000) (k0 : 0≤p.ptrs) (k1 : p.ptrs≤200000) :
    SpecF Tryz.prog 95 (fun r => [.pob [r] 1 0,nv a,iv to,p.a]) (wrM S) (fun _ => bv (encB (ptQ p a to))) (wrM ⟨S.v,S.W.set a (encW (ptQ p a to))⟩) := by
  refine specF_of t_canon_writer_point (by simp) (famL_cons famA_pob (famL_cons famA_v (famL_cons famA_v (famL_cons (famA_agg (FamL.all fun x hx => ?_)) famL_nil)))) famA_v fun w0 I0 M0 m0 => ?_
  · simp at hx
    rcases hx with rfl | rfl | rfl | rfl | rfl | rfl | rfl | rfl <;> simp
  unfold c_canon_writer_point
  have e1 : IntKind.i64.wrap (to - (a : Int)) = to - a := i64_same (by omega) (by omega)
  have e2 : IntKind.i64.wrap (to - (a : Int) - 1) = to - a - 1 := i64_same (by omega) (by omega)
  have e3 : IntKind.i64.wrap (p.data + p.ptrs) = p.data + p.ptrs := i64_same (by omega) (by omega)
  obtain ⟨kind,off,data,ptrs,code,count,sg,dbl⟩ := p
  simp only at d0 d1 k0 k1 e3
  by_cases h1 : kind = 1
  · subst h1
    by_cases h2 : data + ptrs = 0
    · have hq : ptQ ⟨1,off,data,ptrs,code,count,sg,dbl⟩ a to = ⟨1,-1,data,ptrs,code,count,sg,dbl⟩ := by simp [ptQ,h2]
      rw [h2] at e3
      simp [e1,e2,e3,h2,updF_app,Pt.a]
      rw [hq]
      exact wpoint_k1 (t := .any) ha (fun p => by simp) (by simp)
    · have hq : ptQ ⟨1,off,data,ptrs,code,count,sg,dbl⟩ a to = ⟨1,to - a - 1,data,ptrs,code,count,sg,dbl⟩ := by simp [ptQ,h2]
      simp [e1,e2,e3,h2,updF_app,Pt.a]
      rw [hq]
      exact wpoint_k1 (t := .any) ha (fun p => by simp) (by simp)
  · have hq : ptQ ⟨kind,off,data,ptrs,code,count,sg,dbl⟩ a to = ⟨kind,to - a - 1,data,ptrs,code,count,sg,dbl⟩ := by simp [ptQ,h1]
    simp [e1,e2,e3,h1,updF_app,Pt.a]
    rw [hq]
    exact wpoint_k1 (t := .any) ha (fun p => by simp) (by simp)
theorem encB_str {at_ to w k : Int} (h0 : 0≤at_) (h1 : at_≤200000) (h2 : 0≤to) (h3 : to≤200000) (hlt : at_ < to) (w0 : 0≤w) (w1 : w < 65536) (k0 : 0≤k) (k1 : k < 65536) : encB (ptQ ⟨1,0,w,k,0,0,0,false⟩ at_ to) = true := by
  rw [enc_right]
  by_cases hz : w + k = 0
  · have e : ptQ ⟨1,0,w,k,0,0,0,false⟩ at_ to = ⟨1,-1,w,k,0,0,0,false⟩ := by simp [ptQ,hz]
    rw [e]
    simp [right]
    omega
  · have e : ptQ ⟨1,0,w,k,0,0,0,false⟩ at_ to = ⟨1,to - at_ - 1,w,k,0,0,0,false⟩ := by simp [ptQ,hz]
    rw [e]
    simp [right]
    omega
theorem encB_list {at_ to c n : Int} (h0 : 0≤at_) (h1 : at_≤200000) (h2 : 0≤to) (h3 : to≤200000) (c0 : 0≤c) (c1 : c≤7) (n0 : 0≤n) (n1 : n < 536870912) : encB (ptQ ⟨2,0,0,0,c,n,0,false⟩ at_ to) = true := by
  rw [enc_right]
  have e : ptQ ⟨2,0,0,0,c,n,0,false⟩ at_ to = ⟨2,to - at_ - 1,0,0,c,n,0,false⟩ := by simp [ptQ]
  rw [e]
  simp [right]
  omega
end Go.Proofs.YthfiijdbnkaabaaGreat

namespace Go.Proofs.YthfiijdbnkaabaaGreat
set_option linter.unusedVariables false
set_option linter.unusedSimpArgs false
open Go Go.G Go.Proofs Go.PL
@[simp] theorem elems_sl {H : Hp} {s : Nat} {f : Bool} {xs : List A} : elemsA H s (.sl f xs) = if lens s xs = true then some xs else none := rfl
theorem setW_eq : ∀ (ws : List Int) (b : Nat) (l : List Int),b + ws.length≤l.length→setW b ws l = l.take b ++ ws ++ l.drop (b + ws.length)
  | [],b,l,h => by simp [setW]
  | x :: ws,b,l,h => by
    simp only [List.length_cons] at h
    rw [setW,setW_eq ws (b + 1) _ (by simp; omega)]
    have e1 : (l.set b x).take (b + 1) = l.take b ++ [x] := by
      rw [List.take_succ_eq_append_getElem (by simp; omega),List.getElem_set_self,List.take_set_of_le (Nat.le_refl _)]
    have e2 : (l.set b x).drop (b + 1 + ws.length) = l.drop (b + (ws.length + 1)) := by
      rw [List.drop_set_of_lt (by omega)]
      congr 1
      omega
    rw [e1,e2]
    simp
theorem famA_tXw (t : T) : FamA (fun _ => tX t) := famA_bare rfl fun y hy => by
  simp at hy
  rcases hy with rfl | rfl | rfl <;> rfl
theorem faW (t : T) (a : Nat) : FamL (fun r => [.pob [r] 1 0,nv a,tX t]) := famL_cons famA_pob (famL_cons famA_v (famL_cons (famA_tXw t) famL_nil))
theorem faW2 (t : T) (a w : Nat) : FamL (fun r => [.pob [r] 1 0,nv a,nv w,tX t]) := famL_cons famA_pob (famL_cons famA_v (famL_cons famA_v (famL_cons (famA_tXw t) famL_nil)))
def WVS (t : T) : Prop := LayOk t→∀ (S : Cp) (a : Nat),a < S.W.length→(S.W.length : Int) + sizeT t≤131072 →
  ∃ v' : Nat,SpecF Tryz.prog 61 (fun q => [.pob [q] 1 0,nv a,tX t]) (wrM S) (fun _ => bv true) (wrM ⟨v',layT t a S.W⟩)
def WKS (t : T) : Prop := (∀ u,u ∈ t.kids→LayOk u)→∀ (S : Cp) (a : Nat),a + t.kids.length≤S.W.length→(S.W.length : Int) + sizeL t.kids≤131072 →
  ∃ v' : Nat,SpecF Tryz.prog 98 (fun q => [.pob [q] 1 0,nv a,tX t]) (wrM S) (fun _ => bv true) (wrM ⟨v',layL t.kids a S.W⟩)
def WFS (t : T) : Prop := (∀ u,u ∈ t.kids→LayOk u)→∀ (S : Cp) (a w : Nat),t.words.length≤w→w≤131072→a + w + t.kids.length≤S.W.length→(S.W.length : Int) + sizeL t.kids≤131072 →
  ∃ v' : Nat,SpecF Tryz.prog 96 (fun q => [.pob [q] 1 0,nv a,nv w,tX t]) (wrM S) (fun _ => bv true) (wrM ⟨v',layL t.kids (a + w) (setW a t.words S.W)⟩)
theorem layT_le (t : T) (a : Nat) (l : List Int) : l.length≤(layT t a l).length := (lay_ls t).1.2 a l
theorem wkids_l1 {t : T} {a : Nat} (hk : t.kids.length≤200000) (ih : ∀ c,c ∈ t.kids→WVS c) (hlay : ∀ u,u ∈ t.kids→LayOk u) : ∀ (j i : Nat) (S : Cp),i + j = t.kids.length→a + t.kids.length≤S.W.length→(S.W.length : Int) + sizeL (t.kids.drop i)≤131072 →
    ∃ v' : Nat,∀ {n0 : Nat} {w0 : World} {I0 : Nat→Prop} {M0 : Nm→Nat→Prop} {m0 : Mu} {Q : Exit→Sta→Prop} (H : Hp),(∀ p,H (0 :: p) = wrF 0 S p) →
      (∀ q H',(∀ p,H' (0 :: p) = wrF 0 ⟨v',layL (t.kids.drop i) (a + i) S.W⟩ p)→Q (.exit 0) ⟨lk [(0,.pob [0] 1 0),(1,nv a),(10,tKs t.kids),(11,nv t.kids.length),(12,nv t.kids.length),(13,bv q)],H'⟩) →
      LoopC (cxh Tryz.prog w0 I0 M0 n0 m0) l1_canon_writer_kids Q ⟨lk [(0,.pob [0] 1 0),(1,nv a),(10,tKs t.kids),(11,nv t.kids.length),(12,nv i)],H⟩ := by
  intro j
  induction j with
  | zero =>
    intro i S hi ha hS
    have : i = t.kids.length := by omega
    subst this
    have hd : t.kids.drop t.kids.length = [] := List.drop_eq_nil_of_le (Nat.le_refl _)
    refine ⟨S.v,fun H hH hq => ?_⟩
    rw [hd] at hq
    refine loopC_once mixed l1_canon_writer_kids.eq_1 ?_
    simp
    exact hq _ H (by simpa using hH)
  | succ j ihj =>
    intro i S hi ha hS
    have hlt : i < t.kids.length := by omega
    have hdr : t.kids.drop i = t.kids[i] :: t.kids.drop (i + 1) := List.drop_eq_getElem_cons hlt
    have hm := List.getElem_mem hlt
    have hle := layT_le t.kids[i] (a + i) S.W
    have hlen := (lay_len _).1 (hlay _ hm) (a + i) S.W
    have hrest := sizeL_nonneg (ts := t.kids.drop (i + 1)) fun u hu => hlay u (List.mem_of_mem_drop hu)
    rw [hdr] at hS ⊢
    simp only [sizeL_cons,layL_cons] at hS ⊢
    obtain ⟨v1,q4⟩ := ih _ hm (hlay _ hm) S (a + i) (by omega) (by omega)
    obtain ⟨v2,p4⟩ := ihj (i + 1) ⟨v1,layT t.kids[i] (a + i) S.W⟩ (by omega) (by simp only; omega) (by simp only; omega)
    have hn0 := (size_nonneg t.kids[i]).1 (hlay _ hm)
    have ei : IntKind.i64.wrap ((i : Int) + 1) = ((i + 1 : Nat) : Int) := i64_same (by omega) (by omega)
    have ea : IntKind.i64.wrap ((a : Int) + i) = ((a + i : Nat) : Int) := i64_same (by omega) (by omega)
    refine ⟨v2,fun H hH hq => ?_⟩
    refine loopC_once mixed l1_canon_writer_kids.eq_1 ?_
    simp [hlt,ea,updF_app]
    refine sc_fam 0 q4 (fun p => by simp [updF_app,hH]) (by simp) (by simp) ?_
    simp [ei]
    exact p4 _ (fun p => by simp) hq
theorem wKids_spec {t : T} (ih : ∀ c,c ∈ t.kids→WVS c) : WKS t := fun hlay S a ha hS => by
  have hn := sizeL_nonneg hlay
  obtain ⟨v',q4⟩ := wkids_l1 (t := t) (a := a) (by omega) ih hlay t.kids.length 0 S (by omega) ha (by simpa using hS)
  refine ⟨v',specF_of t_canon_writer_kids (by simp) (faW t a) famA_v fun w0 I0 M0 m0 => ?_⟩
  unfold c_canon_writer_kids
  simp
  refine q4 _ (fun p => by simp) (fun q H' hH => ?_)
  simp
  exact reth_fam rfl rfl (by simpa using hH)
theorem wStruct_spec {t : T} (ih : ∀ c,c ∈ t.kids→WVS c) : WFS t := fun hlay S a w hw hw2 ha hS => by
  obtain ⟨v',q4⟩ := wKids_spec ih hlay ⟨S.v,setW a t.words S.W⟩ (a + w) (by simpa using ha) (by simpa using hS)
  have hn := sizeL_nonneg hlay
  refine ⟨v',specF_of t_canon_writer_structure (by simp) (faW2 t a w) famA_v fun w0 I0 M0 m0 => ?_⟩
  have ew : IntKind.i64.wrap ((a : Int) + w) = ((a + w : Nat) : Int) := i64_same (by omega) (by omega)
  have ha1 : a≤S.W.length := by omega
  have ha2 : (a : Int)≤S.W.length := by omega
  have hmin : min t.words.length (S.W.length - a) = t.words.length := by omega
  have hfit : a + (S.W.length - a)≤S.W.length := by omega
  unfold c_canon_writer_structure
  simp [ha1,ha2,hmin,hfit,ew]
  refine sc_fam 0 q4 (fun p => ?_) (by simp) (by simp) ?_
  · simp only [ov_cons,if_true,wrM_F]
    refine updF_is ?_ (fun h1 => ?_)
    · have e : List.take t.words.length (t.words.map uv) = t.words.map uv := List.take_of_length_le (by simp)
      simp [setW_eq _ _ _ (show a + t.words.length≤S.W.length by omega),List.map_take,List.map_drop,e]
    · by_cases h0 : p = []
      · subst h0; simp
      · exact wrF_but h0 h1
  simp
  exact reth_fam rfl rfl (by simp)
theorem tag_ok (n w k : Nat) (hn : n < 536870912) (hw : w < 65536) (hk : k < 65536) : encB ⟨1,n,w,k,0,0,0,false⟩ = !decide ((n : Int) + ((w : Int) + k) = 0) := by
  rw [enc_right]
  by_cases hz : n + (w + k) = 0
  · obtain rfl : n = 0 := by omega
    obtain rfl : w = 0 := by omega
    obtain rfl : k = 0 := by omega
    simp [right]
  · have h1 : ¬ ((n : Int) + ((w : Int) + k) = 0) := by omega
    have h2 : (n : Int) ≠ 0∨(w : Int) ≠ 0∨(k : Int) ≠ 0 := by omega
    unfold right
    rw [if_neg (by simp),if_pos rfl]
    simp only [h1,decide_false,Bool.not_false]
    exact decide_eq_true ⟨by omega,by omega,by omega,by omega,by omega,by omega,trivial,h2⟩
theorem wcomp_l1 {t : T} (hk : t.kids.length≤536870912) (ih : ∀ c,c ∈ t.kids→WFS c) (hlay : ∀ c,c ∈ t.kids→∀ u,u ∈ c.kids→LayOk u) {w long to : Nat} {x : A} {v1 : VOb} (hw : ∀ c,c ∈ t.kids→c.words.length≤w∧w + c.kids.length≤long) (hw2 : w≤65536) : ∀ (j i : Nat) (S : Cp),i + j = t.kids.length→to + 1 + t.kids.length * long≤S.W.length→(S.W.length : Int) + sizeLL (t.kids.drop i)≤131072 →
    ∃ v' : Nat,∀ {n0 : Nat} {w0 : World} {I0 : Nat→Prop} {M0 : Nm→Nat→Prop} {m0 : Mu} {Q : Exit→Sta→Prop} (H : Hp),(∀ p,H (0 :: p) = wrF 0 S p)→H [1] = v1 →
      (∀ q H',(∀ p,H' (0 :: p) = wrF 0 ⟨v',cpC w long (t.kids.drop i) (to + 1 + i * long) S.W⟩ p)→H' [1] = v1→Q (.exit 0) ⟨lk [(0,.pob [0] 1 0),(5,.pob [1] 1 0),(7,nv w),(9,nv long),(11,x),(12,nv to),(62,tKs t.kids),(63,nv t.kids.length),(64,nv t.kids.length),(65,bv q)],H'⟩) →
      LoopC (cxh Tryz.prog w0 I0 M0 n0 m0) l1_canon_writer_composite Q ⟨lk [(0,.pob [0] 1 0),(5,.pob [1] 1 0),(7,nv w),(9,nv long),(11,x),(12,nv to),(62,tKs t.kids),(63,nv t.kids.length),(64,nv i)],H⟩ := by
  intro j
  induction j with
  | zero =>
    intro i S hi ha hS
    have : i = t.kids.length := by omega
    subst this
    have hd : t.kids.drop t.kids.length = [] := List.drop_eq_nil_of_le (Nat.le_refl _)
    refine ⟨S.v,fun H hH h1 hq => ?_⟩
    rw [hd] at hq
    refine loopC_once mixed l1_canon_writer_composite.eq_1 ?_
    simp
    exact hq _ H (by simpa [cpC] using hH) h1
  | succ j ihj =>
    intro i S hi ha hS
    have hlt : i < t.kids.length := by omega
    have hdr : t.kids.drop i = t.kids[i] :: t.kids.drop (i + 1) := List.drop_eq_getElem_cons hlt
    have hm := List.getElem_mem hlt
    have hil : (i + 1) * long≤t.kids.length * long := Nat.mul_le_mul_right _ (by omega)
    rw [Nat.add_mul,Nat.one_mul] at hil
    obtain ⟨w1,w2⟩ := hw _ hm
    have hlen := layL_len (hlay _ hm) (to + 1 + i * long + w) (setW (to + 1 + i * long) t.kids[i].words S.W)
    rw [setW_length] at hlen
    have hrest : 0≤sizeLL (t.kids.drop (i + 1)) := sizeLL_nonneg fun u hu => hlay u (List.mem_of_mem_drop hu)
    have hk0 := sizeL_nonneg (hlay _ hm)
    rw [hdr] at hS ⊢
    simp only [sizeLL_cons,cpC] at hS ⊢
    obtain ⟨v1',q4⟩ := ih _ hm (hlay _ hm) S (to + 1 + i * long) w w1 (by omega) (by omega) (by omega)
    obtain ⟨v2,p4⟩ := ihj (i + 1) ⟨v1',layL t.kids[i].kids (to + 1 + i * long + w) (setW (to + 1 + i * long) t.kids[i].words S.W)⟩ (by omega) (by simp only; omega) (by simp only; omega)
    rw [show to + 1 + (i + 1) * long = to + 1 + i * long + long from by rw [Nat.add_mul,Nat.one_mul]; omega] at p4
    have ei : IntKind.i64.wrap ((i : Int) + 1) = ((i + 1 : Nat) : Int) := i64_same (by omega) (by omega)
    have em : IntKind.i64.wrap ((i : Int) * long) = ((i * long : Nat) : Int) := by
      rw [Int.natCast_mul]
      have : (i : Int) * long = ((i * long : Nat) : Int) := by rw [Int.natCast_mul]
      exact i64_same (by omega) (by omega)
    have et : IntKind.i64.wrap ((to : Int) + 1) = ((to + 1 : Nat) : Int) := i64_same (by omega) (by omega)
    have ea : IntKind.i64.wrap ((to : Int) + 1 + (i : Int) * long) = (to : Int) + 1 + (i : Int) * long := by
      have : (i : Int) * long = ((i * long : Nat) : Int) := by rw [Int.natCast_mul]
      exact i64_same (by omega) (by omega)
    refine ⟨v2,fun H hH h1 hq => ?_⟩
    refine loopC_once mixed l1_canon_writer_composite.eq_1 ?_
    simp [hlt,em,et,ea,updF_app]
    refine sc_fam 0 q4 (fun p => by simp [updF_app,hH]) (by simp) (by simp) ?_
    simp [ei]
    exact p4 _ (fun p => by simp) (by simp [updF_app,h1]) hq
theorem wComp_spec {t : T} (hk : t.kind = 9) (hok : LayOk t) (ih : ∀ c,c ∈ t.kids→WFS c) (S : Cp) (a : Nat) (ha : a < S.W.length) (hS : (S.W.length : Int) + sizeT t≤131072) :
    ∃ v' : Nat,SpecF Tryz.prog 97 (fun q => [.pob [q] 1 0,nv a,tX t]) (wrM S) (fun _ => bv true) (wrM ⟨v',layT t a S.W⟩) := by
  obtain ⟨k,ws,ks⟩ := t
  simp at hk
  subst hk
  simp only [T.kids_mk] at ih
  cases hok with
  | data k w ks h1 h2 => exact absurd h2 (by decide)
  | comp w ks hn hsz hlay =>
    have hbound := frame_bound (ts := ks) (w := 65535) (k := 65535) fun u hu => by have := hsz u hu; omega
    have hcond : ∀ c,c ∈ ks→c.words.length≤frameW ks∧frameW ks + c.kids.length≤frameW ks + frameK ks := fun c hc => by
      have h1 := frameW_le hc
      have h2 := frameK_le hc
      omega
    have hcond2 : ∀ c,c ∈ ks→c.words.length≤frameW ks∧c.kids.length≤frameK ks := fun c hc => ⟨frameW_le hc,frameK_le hc⟩
    have hLL : 0≤sizeLL ks := sizeLL_nonneg hlay
    have hfr := tFrame_spec (.mk 9 ws ks) (by simp; omega)
    simp only [T.kids_mk] at hfr
    have eT : sizeT (.mk 9 ws ks) = 1 + ks.length * ((frameW ks : Int) + frameK ks) + sizeLL ks := by
      rw [sizeT_mk]
      simp
    have hlay9 : ∀ W,layT (.mk 9 ws ks) a W = layC (frameW ks) (frameK ks) ks (W.length + 1) (W.set a (ptrZ a W.length 1 (7 + 8 * (ks.length * (frameW ks + frameK ks) : Nat))) ++ [4 * (ks.length : Int) + 4294967296 * ((frameW ks : Int) + 65536 * frameK ks)] ++ rowsC (frameW ks) (frameK ks) ks) := fun W => by
      rw [layT_mk,if_neg (by decide),if_neg (by decide),if_neg (by decide),if_pos rfl]
    have hl1 := fun x v1 => wcomp_l1 (t := .mk 9 ws ks) (by simp; omega) ih hlay (w := frameW ks) (long := frameW ks + frameK ks) (to := S.W.length) (x := x) (v1 := v1) hcond (by omega) ks.length 0
    have hc2 := cpC_eq (w := frameW ks) (k := frameK ks) ks
    have hf2 := fillC_app (w := frameW ks) (k := frameK ks) ks
    rw [eT] at hS
    simp only [hlay9]
    clear hlay9 eT hcond
    generalize frameW ks = w at *
    generalize frameK ks = k at *
    have hnl : ks.length * (w + k)≤536870912 * 131070 := Nat.mul_le_mul (by omega) (by omega)
    have hcast : (ks.length : Int) * ((w : Int) + k) = ((ks.length * (w + k) : Nat) : Int) := by rw [Int.natCast_mul,Int.natCast_add]
    rw [hcast] at hS
    have hzero : ks.length + (w + k) = 0→ks.length * (w + k) = 0 := fun h => by rw [show ks.length = 0 from by omega]; simp
    generalize hL : ks.length * (w + k) = L at *
    have e1 : IntKind.i64.wrap ((w : Int) + k) = (w : Int) + k := i64_same (by omega) (by omega)
    have e2 : IntKind.i64.wrap ((ks.length : Int) * ((w : Int) + k)) = (L : Int) := by rw [hcast]; exact i64_same (by omega) (by omega)
    have e3 : IntKind.i64.wrap (1 + (L : Int)) = ((1 + L : Nat) : Int) := (i64_same (by omega) (by omega)).trans (by omega)
    have e4 : IntKind.i64.wrap ((ks.length : Int) + ((w : Int) + k)) = (ks.length : Int) + ((w : Int) + k) := i64_same (by omega) (by omega)
    have hG := wGive_spec S (by omega) (1 + L) (by omega)
    have hE := Encode_spec ⟨1,ks.length,w,k,0,0,0,false⟩
    have htag : encW ⟨1,ks.length,w,k,0,0,0,false⟩ = 4 * (ks.length : Int) + 4294967296 * ((w : Int) + 65536 * k) := by
      unfold encW
      simp only
      rw [if_pos trivial,if_pos (by omega)]
      omega
    have hB := tag_ok ks.length w k hn (by omega) (by omega)
    rw [htag,hB] at hE
    have hP := wPoint_spec ⟨S.v + 1,(S.W ++ List.replicate (1 + L) 0).set S.W.length (4 * (ks.length : Int) + 4294967296 * ((w : Int) + 65536 * k))⟩ (a := a) (by simp; omega) (by omega) (to := (S.W.length : Int)) (by omega) (by omega) ⟨2,0,0,0,7,L,0,false⟩ (by simp) (by simp) (by simp) (by simp)
    rw [enc_list (by omega) (by omega) (by omega) (by omega) (by omega) (by omega) (by omega) (by omega),encB_list (by omega) (by omega) (by omega) (by omega) (by omega) (by omega) (by omega) (by omega)] at hP
    have hW3 : ((S.W ++ List.replicate (1 + L) 0).set S.W.length (4 * (ks.length : Int) + 4294967296 * ((w : Int) + 65536 * k))).set a (ptrZ a S.W.length 1 (7 + 8 * (L : Int))) = (S.W.set a (ptrZ a S.W.length 1 (7 + 8 * (L : Int))) ++ [4 * (ks.length : Int) + 4294967296 * ((w : Int) + 65536 * k)]) ++ List.replicate L 0 := by
      rw [List.set_append_right _ _ (Nat.le_refl _),Nat.sub_self,Nat.add_comm 1 L,List.replicate_succ,List.set_cons_zero,List.set_append_left _ _ ha]
      simp
    simp only at hP
    rw [hW3] at hP
    generalize hTg : 4 * (ks.length : Int) + 4294967296 * ((w : Int) + 65536 * k) = Tg at *
    have hTz : (ks.length : Int) + ((w : Int) + k) = 0→Tg = 0 := fun h => by omega
    obtain ⟨v',q4⟩ := hl1 (bv (!decide ((ks.length : Int) + ((w : Int) + k) = 0))) ⟨1,.cells (tL (.mk 9 ws ks))⟩ ⟨S.v + 1,(S.W.set a (ptrZ a S.W.length 1 (7 + 8 * (L : Int))) ++ [Tg]) ++ List.replicate L 0⟩ (by simp) (by simp; omega) (by simp; omega)
    simp only [List.drop_zero,Nat.zero_mul,Nat.add_zero,T.kids_mk] at q4
    refine ⟨v',?_⟩
    have hWe : cpC w (w + k) ks (S.W.length + 1) ((S.W.set a (ptrZ a S.W.length 1 (7 + 8 * (L : Int))) ++ [Tg]) ++ List.replicate L 0) = layC w k ks (S.W.length + 1) (S.W.set a (ptrZ a S.W.length 1 (7 + 8 * (L : Int))) ++ [Tg] ++ rowsC w k ks) := by
      rw [hc2 _ _ hcond2 (by simp [hL]; omega)]
      have := hf2 (S.W.set a (ptrZ a S.W.length 1 (7 + 8 * (L : Int))) ++ [Tg]) (fun u hu => by have := (hcond2 u hu).1; omega)
      simp only [List.length_append,List.length_set,List.length_singleton,hL] at this
      rw [this]
    rw [hWe] at q4
    refine specF_of t_canon_writer_composite (by simp) (faW _ a) famA_v fun w0 I0 M0 m0 => ?_
    unfold c_canon_writer_composite
    simp
    refine sc_call hfr (by simp) ?_
    simp [e1]
    refine sc_call hE (by simp) ?_
    have fin : ∀ H : Hp,(∀ p,H (0 :: p) = wrF 0 S p)→H [1] = ⟨1,.cells (tL (.mk 9 ws ks))⟩→WPC (cxh Tryz.prog w0 I0 M0 90 m0) k1_canon_writer_composite (RetH (cxh Tryz.prog w0 I0 M0 90 m0) [.tmp 6] 1 (bv true) (ov 0 (wrF 0 ⟨v',layC w k ks (S.W.length + 1) (S.W.set a (ptrZ a S.W.length 1 (7 + 8 * (L : Int))) ++ [Tg] ++ rowsC w k ks)⟩) (lkH [])))
        ⟨lk [(0,.pob [0] 1 0),(1,nv a),(5,.pob [1] 1 0),(7,nv w),(9,nv (w + k)),(10,uv Tg),(11,bv (!decide ((ks.length : Int) + ((w : Int) + k) = 0)))],H⟩ := fun H hH h1 => by
      unfold k1_canon_writer_composite
      have hlt1 : (S.W.length : Int) < S.W.length + (1 + (L : Int)) := by omega
      have hget : (List.map uv S.W ++ List.replicate (1 + L) (uv 0))[S.W.length]? = some (uv 0) := by
        rw [List.getElem?_append_right (by simp),Nat.add_comm 1 L,List.replicate_succ]
        simp
      simp [h1,e2,e3]
      refine sc_fam 0 hG (fun p => by simp [hH]) (by simp) (by simp) ?_
      simp [updF_app,hlt1,hget,h1,e2]
      refine sc_fam 0 hP (fun p => ?_) (by simp) (by simp) ?_
      · simp only [ov_cons,if_true,wrM_F]
        refine updF_is ?_ (fun h1 => ?_)
        · simp [List.map_set]
        · by_cases h0 : p = []
          · subst h0; simp
          · exact wrF_but h0 h1
      simp [h1,updF_app]
      refine q4 _ (fun p => by simp) (by simp [updF_app,h1]) (fun q H' hH' h1' => ?_)
      simp [h1',e4]
      exact reth_fam rfl rfl (by simpa using hH')
    by_cases hz : (ks.length : Int) + ((w : Int) + k) = 0
    · have hT0 := hTz hz
      subst hT0
      simp [hz]
      have := fin (ov 0 (wrF 0 S) (lkH [([1],⟨1,.cells (tL (.mk 9 ws ks))⟩)])) (fun p => by simp) (by simp)
      simp [hz] at this
      exact this
    · simp [hz]
      have := fin (ov 0 (wrF 0 S) (lkH [([1],⟨1,.cells (tL (.mk 9 ws ks))⟩)])) (fun p => by simp) (by simp)
      simp [hz] at this
      exact this
end Go.Proofs.YthfiijdbnkaabaaGreat

namespace Go.Proofs.YthfiijdbnkaabaaGreat
set_option linter.unusedVariables false
set_option linter.unusedSimpArgs false
open Go Go.G Go.Proofs Go.PL
section
variable {n0 : Nat} {w0 : World} {I0 : Nat→Prop} {M0 : Nm→Nat→Prop} {m0 : Mu} {Q : Exit→Sta→Prop}
theorem wtree_l1 {t : T} {a : Nat} {c : A} {v0 : Nm→VOb} {v1 : VOb} (hl : t.kids.length≤536870912) (hw : ∀ c,c ∈ t.kids→∃ x,c.words = [x]) : ∀ (m i u : Nat) (H : Hp),i + m = t.kids.length→(∀ p,H (0 :: p) = v0 p)→H [1] = v1→H [3] = ⟨u,.arr 1 ((t.kids.take i).map (uv ∘ hd))⟩ →
    (∀ q u' H',(∀ p,H' (0 :: p) = v0 p)→H' [1] = v1→H' [3] = ⟨u',.arr 1 (t.kids.map (uv ∘ hd))⟩→Q (.exit 1) ⟨lk [(0,.pob [0] 1 0),(1,nv a),(5,.pob [1] 1 0),(9,c),(10,.osl [3] u' 1 0 t.kids.length),(88,tKs t.kids),(89,nv t.kids.length),(90,nv t.kids.length),(91,bv q)],H'⟩) →
    LoopC (cxh Tryz.prog w0 I0 M0 n0 m0) l1_canon_writer_tree Q ⟨lk [(0,.pob [0] 1 0),(1,nv a),(5,.pob [1] 1 0),(9,c),(10,.osl [3] u 1 0 i),(88,tKs t.kids),(89,nv t.kids.length),(90,nv i)],H⟩ := by
  intro m
  induction m with
  | zero =>
    intro i u H hi h0 h1 h3 hq
    have : i = t.kids.length := by omega
    subst this
    refine loopC_once mixed l1_canon_writer_tree.eq_1 ?_
    simp
    exact hq _ u H h0 h1 (by rw [h3]; simp)
  | succ m ihm =>
    intro i u H hi h0 h1 h3 hq
    have hlt : i < t.kids.length := by omega
    have ei : IntKind.i64.wrap ((i : Int) + 1) = ((i + 1 : Nat) : Int) := i64_same (by omega) (by omega)
    obtain ⟨x,hx⟩ := hw _ (List.getElem_mem hlt)
    have hwd : wdT t.kids[i] 0 = hd t.kids[i] := by simp [wdT,hd,hx]
    have hrow := row_succ (f := uv ∘ hd) hlt rfl
    simp only [Function.comp] at hrow
    refine loopC_once mixed l1_canon_writer_tree.eq_1 ?_
    simp [hlt,updF_app]
    refine sc_call (pWd_spec t.kids[i] 0) rfl ?_
    rw [hwd]
    have hn1 : ((i : Int) + 1) * 8≤140737488355328 := by omega
    have hn2 : (i + 1) * 8≤140737488355328 := by omega
    simp [updF_app,h3,hn1,hn2,ei]
    rw [hrow]
    refine ⟨by omega,?_⟩
    exact ihm (i + 1) (u + 1) _ (by omega) (fun p => by simp [updF_app,h0]) (by simp [updF_app,h1]) (by simp [updF_app]) hq
end
theorem wTree_spec : ∀ t : T,WVS t∧WFS t := by
  refine T.ind fun k w ks ih => ?_
  have hF : WFS (.mk k w ks) := wStruct_spec fun c hc => (ih c hc).1
  have hK : WKS (.mk k w ks) := wKids_spec fun c hc => (ih c hc).1
  refine ⟨fun hok S a ha hS => ?_,hF⟩
  have h0 := (size_nonneg (.mk k w ks)).1 hok
  by_cases k9 : k = 9
  · subst k9
    obtain ⟨v',q4⟩ := wComp_spec rfl hok (fun c hc => (ih c hc).2) S a ha hS
    refine ⟨v',specF_of t_canon_writer_tree (by simp) (faW _ a) famA_v fun w0 I0 M0 m0 => ?_⟩
    unfold c_canon_writer_tree
    simp
    refine sc_fam 0 q4 (fun p => by simp) (by simp) (by simp) ?_
    simp
    exact reth_fam rfl rfl (by simp)
  cases hok with
  | null =>
    refine ⟨S.v,specF_of t_canon_writer_tree (by simp) (faW _ a) famA_v fun w0 I0 M0 m0 => ?_⟩
    unfold c_canon_writer_tree
    simp
    rw [layT_mk,if_pos rfl]
    exact reth_fam rfl rfl (by simp)
  | comp => exact absurd rfl k9
  | str w ks b1 b2 hl =>
    have hn := sizeL_nonneg hl
    rw [sizeT_mk,if_pos rfl] at hS
    have hG := wGive_spec S (by omega) (w.length + ks.length) (by omega)
    have hP := wPoint_spec ⟨S.v + 1,S.W ++ List.replicate (w.length + ks.length) 0⟩ (a := a) (by simp; omega) (by omega) (to := (S.W.length : Int)) (by omega) (by omega) ⟨1,0,w.length,ks.length,0,0,0,false⟩ (by simp) (by simp; omega) (by simp) (by simp; omega)
    rw [enc_str (by omega) (by omega) (by omega) (by omega) (by omega) (by omega) (by omega) (by omega),encB_str (by omega) (by omega) (by omega) (by omega) (by omega) (by omega) (by omega) (by omega) (by omega)] at hP
    simp only at hP
    rw [List.set_append_left _ _ ha] at hP
    generalize hX : S.W.set a (ptrZ a (if (w.length : Int) + ks.length = 0 then (a : Int) else S.W.length) 0 (w.length + 65536 * ks.length)) = X at hP
    have hXl : X.length = S.W.length := by rw [← hX]; simp
    have hsw := setW_app w X (List.replicate (w.length + ks.length) 0) (by simp)
    have hdrop : List.drop w.length (List.replicate (w.length + ks.length) (0 : Int)) = List.replicate ks.length 0 := by simp
    rw [hXl,hdrop] at hsw
    obtain ⟨v',q4⟩ := hF hl ⟨S.v + 1,X ++ List.replicate (w.length + ks.length) 0⟩ S.W.length w.length (by simp) (by omega) (by simp; omega) (by simp; omega)
    simp only [T.words_mk,T.kids_mk] at q4
    rw [hsw] at q4
    have hlay : layT (.mk 1 w ks) a S.W = layL ks (S.W.length + w.length) (X ++ w ++ List.replicate ks.length 0) := by
      rw [layT_mk,if_neg (by decide),if_pos rfl,← hX]
      have hz : ((w.length : Int) + ks.length = 0) = (w.length + ks.length = 0) := by
        rw [eq_iff_iff]
        omega
      simp only [hz]
    rw [hlay]
    have ew : IntKind.i64.wrap ((w.length : Int) + ks.length) = ((w.length + ks.length : Nat) : Int) := i64_same (by omega) (by omega)
    refine ⟨v',specF_of t_canon_writer_tree (by simp) (faW _ a) famA_v fun w0 I0 M0 m0 => ?_⟩
    unfold c_canon_writer_tree
    simp [ew]
    refine sc_fam 0 hG (fun p => by simp) (by simp) (by simp) ?_
    simp
    refine sc_fam 0 hP (fun p => by simp) (by simp) (by simp) ?_
    simp
    rw [sc_guard]
    simp
    refine sc_fam 0 q4 (fun p => by simp) (by simp) (by simp) ?_
    simp
    exact reth_fam rfl rfl (by simp)
  | ptrs w ks b1 hl =>
    have hn := sizeL_nonneg hl
    rw [sizeT_mk,if_neg (by decide),if_pos rfl] at hS
    have hG := wGive_spec S (by omega) ks.length (by omega)
    have hP := wPoint_spec ⟨S.v + 1,S.W ++ List.replicate ks.length 0⟩ (a := a) (by simp; omega) (by omega) (to := (S.W.length : Int)) (by omega) (by omega) ⟨2,0,0,0,6,ks.length,0,false⟩ (by simp) (by simp) (by simp) (by simp)
    rw [enc_list (by omega) (by omega) (by omega) (by omega) (by omega) (by omega) (by omega) (by omega),encB_list (by omega) (by omega) (by omega) (by omega) (by omega) (by omega) (by omega) (by omega)] at hP
    simp only at hP
    rw [List.set_append_left _ _ ha] at hP
    obtain ⟨v',q4⟩ := hK hl ⟨S.v + 1,S.W.set a (ptrZ a S.W.length 1 (6 + 8 * ks.length)) ++ List.replicate ks.length 0⟩ S.W.length (by simp) (by simp; omega)
    simp only [T.kids_mk] at q4
    have hlay : layT (.mk 8 w ks) a S.W = layL ks S.W.length (S.W.set a (ptrZ a S.W.length 1 (6 + 8 * ks.length)) ++ List.replicate ks.length 0) := by
      rw [layT_mk,if_neg (by decide),if_neg (by decide),if_pos rfl]
    rw [hlay]
    refine ⟨v',specF_of t_canon_writer_tree (by simp) (faW _ a) famA_v fun w0 I0 M0 m0 => ?_⟩
    unfold c_canon_writer_tree
    simp
    refine sc_fam 0 hG (fun p => by simp) (by simp) (by simp) ?_
    simp
    refine sc_fam 0 hP (fun p => by simp) (by simp) (by simp) ?_
    simp
    rw [sc_guard]
    simp
    refine sc_fam 0 q4 (fun p => by simp) (by simp) (by simp) ?_
    simp
    exact reth_fam rfl rfl (by simp)
  | data k w ks h1 h2 hn hc =>
    have hsz : sizeT (.mk k w ks) = roomZ (k - 2) ks.length := by
      rw [sizeT_mk,if_neg (by omega),if_neg (by omega),if_pos ⟨h1,h2⟩]
    have hlay : layT (.mk k w ks) a S.W = S.W.set a (ptrZ a S.W.length 1 (k - 2 + 8 * ks.length)) ++ putZ (k - 2) (ks.map hd) := by
      rw [layT_mk,if_neg (by omega),if_neg (by omega),if_neg (by omega),if_neg (by omega)]
    have hpl := putZ_length (k - 2) (ks.map hd)
    have hr0 := roomZ_nonneg (k - 2) ks.length
    rw [List.length_map] at hpl
    rw [hsz] at hS h0
    have hfit : ∀ x,x ∈ ks.map hd→u64R x∧fitsZ (k - 2) x = true := fun x hx => by
      obtain ⟨c,hc',rfl⟩ := List.mem_map.1 hx
      obtain ⟨y,y1,y2,y3,y4⟩ := hc c hc'
      have : hd c = y := by simp [hd,y1]
      rw [this]
      exact ⟨⟨y2,y3⟩,y4⟩
    have hPut := pPut_spec (c := k - 2) (by omega) (by omega) (ns := ks.map hd) (by simp; omega) hfit
    rw [hlay]
    generalize hZ : putZ (k - 2) (ks.map hd) = Z at *
    have hZl : (Z.length : Int) = roomZ (k - 2) ks.length := by omega
    have hG := wGive_spec S (by omega) Z.length (by omega)
    have hP := wPoint_spec ⟨S.v + 1,S.W ++ Z⟩ (a := a) (by simp; omega) (by omega) (to := (S.W.length : Int)) (by omega) (by omega) ⟨2,0,0,0,k - 2,ks.length,0,false⟩ (by simp) (by simp) (by simp) (by simp)
    rw [enc_list (by omega) (by omega) (by omega) (by omega) (by omega) (by omega) (by omega) (by omega),encB_list (by omega) (by omega) (by omega) (by omega) (by omega) (by omega) (by omega) (by omega)] at hP
    simp only at hP
    rw [List.set_append_left _ _ ha] at hP
    have ek : IntKind.i64.wrap (k - 2) = k - 2 := i64_same (by omega) (by omega)
    refine ⟨S.v + 1,specF_of' t_canon_writer_tree (by simp) (faW _ a) famA_v fun w0 I0 M0 m0 hM => ?_⟩
    unfold c_canon_writer_tree
    have n0 : ¬ k = 0 := by omega
    have n1 : ¬ k = 1 := by omega
    have n8 : ¬ k = 8 := by omega
    simp [n0,n1,n8,k9,ek]
    refine LoopC.le (le_blank 10 [3] 1 (by simp)) ?_
    refine LoopC.le (le_list [(0,.pob [0] 1 0),(1,nv a),(5,.pob [1] 1 0),(9,iv (k - 2)),(10,.osl [3] 1 1 0 0),(88,tKs ks),(89,nv ks.length),(90,nv 0)] (by simp [upd])) ?_
    refine wtree_l1 (t := .mk k w ks) (v0 := wrF 0 S) (v1 := ⟨1,.cells (tL (.mk k w ks))⟩) (by simp; omega) (fun c hc' => (hc c hc').imp fun x hx => hx.1) ks.length 0 1 _ (by simp) (fun p => by simp [updF_app]) (by simp [updF_app]) (by simp [updF_app]) (fun q u' H' g0 g1 g3 => ?_)
    simp
    refine stop_le (le_freezeD (d := [3]) (fun b => hM 3 [] b (by omega)) 10 (uws (ks.map hd)) (fun H1 hH => ?_)) (stop_go ?_)
    · have := frz_row (H := H1) (o := [3]) (u := u') (n := ks.length) (sz := 1) (l := ks) (f := uv ∘ hd) (by rw [hH,g3]; simp) rfl (fun x => by simp)
      rw [← List.map_map] at this
      exact this
    simp
    refine sc_call hPut rfl ?_
    simp
    refine sc_fam 0 hG (fun p => by simp [updF_app,g0]) (by simp) (by simp) ?_
    have hle1 : (S.W.length : Int)≤S.W.length + Z.length := by omega
    have hmin : min Z.length (S.W.length + Z.length - S.W.length) = Z.length := by omega
    have hadd : S.W.length + (S.W.length + Z.length - S.W.length)≤S.W.length + Z.length := by omega
    have htk : List.take Z.length (Z.map uv) = Z.map uv := List.take_of_length_le (by simp)
    have hdr : List.drop (S.W.length + Z.length) (S.W.map uv ++ List.replicate Z.length (uv 0)) = [] := List.drop_eq_nil_of_le (by simp)
    simp [updF_app,hle1,hmin,hadd,g1]
    rw [sc_guard]
    simp
    refine sc_fam 0 hP (fun p => ?_) (by simp) (by simp) ?_
    · simp only [ov_cons,if_true,wrM_F]
      refine updF_is ?_ (fun h1 => ?_)
      · rw [htk,hdr]
        simp
      · by_cases h0 : p = []
        · subst h0; simp
        · exact wrF_but h0 h1
    simp
    exact reth_fam rfl rfl (by simp)
end Go.Proofs.YthfiijdbnkaabaaGreat
