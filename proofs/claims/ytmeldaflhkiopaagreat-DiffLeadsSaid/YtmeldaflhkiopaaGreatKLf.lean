/-
  Texts, merged, without what is not reached.
-/
import Derived.Test.YtmeldaflhkiopaaGreatKLe
namespace Go.Proofs.YtmeldaflhkiopaaGreat
set_option linter.unusedVariables false
set_option linter.unusedSimpArgs false
open Go Go.G Go.Proofs Go.PL
theorem zsN_nv (l : List Nat) : (zsN l).map iv = l.map nv := by
  simp [zsN]
theorem nrm_k {us : List Nat} (h : ∀ x,x ∈ us→x≤2) : ∀ s,s ∈ nrmS us→s.k≤2∧1≤s.n := goU_ok us 0 0 0 h
theorem steps_len : ∀ (l : List Sp),(∀ s,s ∈ l→s.k≤2∧1≤s.n)→l.length≤dA (unitsS l) + dB (unitsS l)
  | [],_ => by simp
  | s :: l,h => by
    have ih := steps_len l fun x hx => h x (by simp [hx])
    have hs := h s (by simp)
    rw [units_cons,dA_app,dB_app,dA_rep,dB_rep,List.length_cons]
    split <;> split <;> omega
theorem pkG_nil (a b : List T) (h : a = []∨b = []) : pkG (scR a b) = [] := by
  have hP := pkG_ok a b
  cases hp : pkG (scR a b) with
  | nil => rfl
  | cons x P =>
    rw [hp] at hP
    have h1 := hP.2.2.1
    have h2 := hP.2.2.2.1
    rcases h with rfl | rfl <;> simp at h1 h2
theorem gapE_nil (one : T→T→E) (b : List T) : gapE one [] b = insO b := by
  unfold gapE
  rw [pkG_nil _ _ (.inl rfl),gapO]
  simp [delO]
theorem gapE_nil' (one : T→T→E) (a : List T) : gapE one a [] = delO a := by
  unfold gapE
  rw [pkG_nil _ _ (.inr rfl),gapO]
  simp [insO]
theorem opsG_all (one : T→T→E) (a b : List T) : opsG (gapE one) (nrmS (unitsS [⟨1,a.length⟩,⟨2,b.length⟩])) a b [] = gapE one a b := by
  have e : nrmS (unitsS [⟨1,a.length⟩,⟨2,b.length⟩]) = fl 1 a.length ++ fl 2 b.length := by
    unfold nrmS
    rw [units_cons,units_cons,units_nil]
    by_cases h1 : a.length = 0
    · by_cases h2 : b.length = 0
      · simp [h1,h2,goU]
      · rw [h1]
        simp only [List.replicate_zero,List.nil_append]
        rw [goU_ins b.length [] 0 0 0 (by omega)]
        simp [goU]
    · rw [goU_del a.length _ 0 0 0 (by omega)]
      by_cases h2 : b.length = 0
      · simp [h2,goU]
      · rw [goU_ins b.length [] 0 _ 0 (by omega)]
        simp [goU]
  rw [e]
  by_cases h1 : a.length = 0
  · have h1' : a = [] := by simpa using h1
    subst h1'
    by_cases h2 : b.length = 0
    · have h2' : b = [] := by simpa using h2
      subst h2'
      simp [opsG,gapE_nil,insO]
    · rw [fl_pos (k := 2) (n := b.length) (by omega)]
      simp [opsG,gapE_nil]
  · rw [fl_pos (k := 1) (n := a.length) (by omega)]
    by_cases h2 : b.length = 0
    · have h2' : b = [] := by simpa using h2
      subst h2'
      simp [opsG,gapE_nil']
    · rw [fl_pos (k := 2) (n := b.length) (by omega)]
      simp [opsG]
theorem pList26_spec {one : T→T→E} {a b : T} (ha : wfT a) (hb : wfT b) (hna : ∀ t,t ∈ a.kids→norm t = t) (hnb : ∀ t,t ∈ b.kids→norm t = t) (hal : a.kids.length≤30000) (hbl : b.kids.length≤30000) {most : Int} (hm : i64R most) (hone : ∀ x,x ∈ a.kids→∀ y,y ∈ b.kids→G.Spec Tryz.prog 26 [tX x,tX y,iv most] (eX (one x y))) :
    G.Spec Tryz.prog 45 [tX a,tX b,iv most] (eX (listE one most a b)) := by
  have hka := (wfT_iff.1 ha).ks
  have hkb := (wfT_iff.1 hb).ks
  have C1 := clsOf_spec (ks := []) (ts := a.kids) (by simp) (by simp) hka hna (by simp; omega) 1
  have hl1 := clsL_len a.kids []
  simp at hl1
  have C2 := clsOf_spec (ks := (clsL [] a.kids).1) (ts := b.kids) (clsL_wf (l := a.kids) (by simp) hka) (clsL_nrm (l := a.kids) (by simp)) hkb hnb (by omega) (ofVs 1 [] a.kids)
  have e1 : (caL a).length = a.kids.length := by simp [caL,zsN,clsL_length]
  have e2 : (cbL a b).length = b.kids.length := by simp [cbL,zsN,clsL_length]
  have hD := diffL_spec (a := caL a) (b := cbL a b) (by omega) (by omega) hm
  have z1 : (caL a).map iv = (clsL [] a.kids).2.map nv := zsN_nv _
  have z2 : (cbL a b).map iv = (clsL (clsL [] a.kids).1 b.kids).2.map nv := zsN_nv _
  simp only [ivs,z1,z2] at hD
  have key : ∀ (w0 : World) (I0 : Nat→Prop) (S : List Sp) (H : Hp),S.length≤10000000→(∀ s,s ∈ S→s.k≤2)→dA (unitsS S)≤a.kids.length→dB (unitsS S)≤b.kids.length→H [0] = ⟨1,.cells (tL a)⟩→H [1] = ⟨1,.cells (tL b)⟩→H [2] = ⟨1,.cells rawE⟩ →
      WPC (cx Tryz.prog w0 I0 47) k1_diff_list (RetC Tryz.prog [ResultVar.cell 6 33] (eX (.mk 3 T0 T0 [] [] a.kind (opsG (gapE one) S a.kids b.kids [])))) ⟨lk [(2,iv most),(3,.pob [0] 1 0),(4,.pob [1] 1 0),(6,.pob [2] 1 0),(9,sps S)],H⟩ := by
    intro w0 I0 S H s1 s2 s3 s4 h0 h1 h2
    have O := dOps26_spec hka hkb (by omega) (by omega) hone s1 s2 s3 s4
    rw [k1_diff_list.eq_1]
    simp [h0,h1]
    refine sc_call O (by simp) ?_
    simp [h0,h2,updF_app,rawE]
    exact frz_agg ⟨frz_bare rfl,frz_bare rfl,frz_sl,frz_sl,frz_bare rfl,frz_sl,frz_sl,frz_sl,frz_sl,frz_bare rfl,frz_sl,trivial⟩
  have wd := wayU_d (caL a) (cbL a b)
  have wi := wayU_in (caL a) (cbL a b)
  have wn := nrmS_d _ wi
  refine spec_of t_diff_list (by simp) fun w0 I0 => ?_
  unfold c_diff_list
  simp
  refine stop_le (le_blankC (d := [3]) (u := 1) (cs := [.sl true []]) 0 [3,0] 3 (by simp [updF_app]) rfl (by simp)) (stop_go ?_)
  simp
  refine sc_fam 3 C1 (fun p => ?_) (by simp) (by simp) ?_
  · by_cases h1 : p = []
    · subst h1; simp [updF_app]
    · by_cases h2 : p = [0]
      · subst h2; simp [updF_app]
      · simp [h1,h2,Ne.symm h1,Ne.symm h2,updF_app]
  · simp
    refine sc_fam 3 C2 (fun p => by simp) (by simp) (by simp) ?_
    simp
    refine sc_call hD (by simp) ?_
    by_cases hd : (distL (caL a) (cbL a b) : Int)≤most
    · have hL : listE one most a b = .mk 3 T0 T0 [] [] a.kind (opsG (gapE one) (nrmS (wayU (caL a) (cbL a b))) a.kids b.kids []) := by unfold listE; rw [if_pos hd]
      rw [hL]
      simp [hd]
      refine key _ _ _ _ ?_ (fun s hs => (nrm_k wi s hs).1) (by omega) (by omega) (by simp) (by simp) (by simp [rawE])
      have := steps_len _ (nrm_k wi)
      omega
    · have hL : listE one most a b = .mk 3 T0 T0 [] [] a.kind (opsG (gapE one) (nrmS (unitsS [⟨1,a.kids.length⟩,⟨2,b.kids.length⟩])) a.kids b.kids []) := by unfold listE; rw [if_neg hd,opsG_all]
      have N := pNrm_spec (all := [⟨1,a.kids.length⟩,⟨2,b.kids.length⟩]) (fun s hs => by
        simp at hs
        rcases hs with rfl | rfl
        · exact ⟨by simp,by simp; omega⟩
        · exact ⟨by simp,by simp; omega⟩) (by simp)
      have ui : ∀ x,x ∈ unitsS [⟨1,a.kids.length⟩,⟨2,b.kids.length⟩]→x≤2 := fun x hx => by
        rw [units_cons,units_cons,units_nil,List.append_nil] at hx
        rcases List.mem_append.1 hx with h | h <;> (have h' := List.eq_of_mem_replicate h; simp at h'; omega)
      have ud := nrmS_d _ ui
      have ua : dA (unitsS [⟨1,a.kids.length⟩,⟨2,b.kids.length⟩]) = a.kids.length := by
        rw [units_cons,units_cons,units_nil,dA_app,dA_app,dA_rep,dA_rep]; simp [dA]
      have ub : dB (unitsS [⟨1,a.kids.length⟩,⟨2,b.kids.length⟩]) = b.kids.length := by
        rw [units_cons,units_cons,units_nil,dB_app,dB_app,dB_rep,dB_rep]; simp [dB]
      have ul := steps_len _ (nrm_k ui)
      have N2 : G.Spec Tryz.prog 71 [.sl true [.agg [iv 1,iv a.kids.length],.agg [iv 2,iv b.kids.length]]] (sps (nrmS (unitsS [⟨1,a.kids.length⟩,⟨2,b.kids.length⟩]))) := N.soft (by simp [A.softL,A.soft,spA,spC])
      clear N
      rw [hL]
      clear hL
      generalize unitsS [⟨1,a.kids.length⟩,⟨2,b.kids.length⟩] = us at *
      simp [hd]
      refine sc_call N2 (by simp) ?_
      simp
      refine key _ _ _ _ (by omega) (fun s hs => (nrm_k ui s hs).1) (by omega) (by omega) (by simp) (by simp) (by simp [rawE])
theorem clsK_prefix (ks : List T) (n : T) : ks <+: clsK ks n := by
  unfold clsK
  split
  · exact List.prefix_rfl
  · exact List.prefix_append _ _
theorem clsL_prefix : ∀ (l ks : List T),ks <+: (clsL ks l).1
  | [],ks => List.prefix_rfl
  | t :: l,ks => (clsK_prefix ks (norm t)).trans (clsL_prefix l _)
theorem clsL_nodup : ∀ {l ks : List T},ks.Nodup→(clsL ks l).1.Nodup
  | [],ks,h => h
  | t :: l,ks,h => clsL_nodup (l := l) (clsK_nodup h)
theorem clsK_at (ks : List T) (n : T) : (clsK ks n)[clsI ks n]? = some n := by
  unfold clsK
  have hle := clsI_le ks n
  split
  · rename_i h
    rw [List.getElem?_eq_getElem h]
    congr 1
    exact sameB_iff.1 (List.findIdx_getElem (p := fun k => sameB k n) (w := h))
  · rename_i h
    have : clsI ks n = ks.length := by omega
    rw [this]
    simp
theorem clsI_stays {ks ks' : List T} {n : T} (h : clsK ks n <+: ks') (hd : ks'.Nodup) : clsI ks' n = clsI ks n := by
  have h1 := clsK_at ks n
  obtain ⟨hl,e⟩ := List.getElem?_eq_some_iff.1 h1
  have hl2 : clsI ks n < ks'.length := Nat.lt_of_lt_of_le hl h.length_le
  refine clsI_at hl2 ?_ hd
  obtain ⟨m,rfl⟩ := h
  rw [List.getElem_append_left hl]
  exact e
theorem clsK_stays {ks ks' : List T} {n : T} (h : clsK ks n <+: ks') (hd : ks'.Nodup) : clsK ks' n = ks' := by
  have h1 := clsI_stays h hd
  have h2 := clsK_at ks n
  obtain ⟨hl,e⟩ := List.getElem?_eq_some_iff.1 h2
  have hl2 : clsI ks n < ks'.length := Nat.lt_of_lt_of_le hl h.length_le
  unfold clsK
  rw [if_pos (by omega)]
theorem clsL_stays : ∀ {l ks ks' : List T},(clsL ks l).1 <+: ks'→ks'.Nodup→clsL ks' l = (ks',(clsL ks l).2)
  | [],ks,ks',_,_ => rfl
  | t :: l,ks,ks',h,hd => by
    have h1 : clsK ks (norm t) <+: ks' := (clsL_prefix l _).trans h
    simp only [clsL]
    rw [clsI_stays h1 hd,clsK_stays h1 hd,clsL_stays (l := l) (ks := clsK ks (norm t)) h hd]
section
variable {n0 : Nat} {w0 : World} {I0 : Nat→Prop} {Q : Exit→Sta→Prop}
end
theorem frz_rowS {α : Type} {H : Hp} {o : Nm} {u n sz : Nat} {l : List α} {f g : α→A} (h : vr (H o) u = some (sz,l.map f)) (hn : n = l.length)
    (hf : ∀ x,x ∈ l→(f x).cells.all A.bare = true∧(f x).cells.map A.soft = (g x).cells∧(g x).cells.length = sz∧A.ones (g x).cells = true) : Frz H (.osl o u sz 0 n) (.sl false (l.map g)) := by
  subst hn
  refine frz_osl' (xs := l.map f) (by simpa using h) (by simp) (by simp) (fun y hy => ?_) ?_ ?_
  · obtain ⟨x,hx,rfl⟩ := List.mem_map.1 hy
    exact (hf x hx).2.2.1
  · simp only [A.ones,List.all_eq_true,List.mem_flatMap]
    rintro y ⟨z,hz,hy⟩
    obtain ⟨x,hx,rfl⟩ := List.mem_map.1 hz
    have := (hf x hx).2.2.2
    simp only [A.ones,List.all_eq_true] at this
    exact this y hy
  · rw [List.drop_zero,List.take_of_length_le (by simp)]
    have : ∀ (m : List α),(∀ x,x ∈ m→x ∈ l)→FrzL H ((m.map f).flatMap A.cells) ((m.map g).flatMap A.cells) := by
      intro m
      induction m with
      | nil => intro _; simp
      | cons x m ih =>
        intro hm
        obtain ⟨h1,h2,_,_⟩ := hf x (hm x (by simp))
        simp only [List.map_cons,List.flatMap_cons]
        rw [← h2]
        have hr := ih fun y hy => hm y (by simp [hy])
        have : ∀ (c : List A) (p q : List A),c.all A.bare = true→FrzL H p q→FrzL H (c ++ p) (c.map A.soft ++ q) := by
          intro c
          induction c with
          | nil => intro p q _ hpq; exact hpq
          | cons y c ihc =>
            intro p q hc hpq
            simp only [List.all_cons,Bool.and_eq_true] at hc
            exact ⟨frz_soft hc.1,ihc p q hc.2 hpq⟩
        exact this _ _ _ h1 hr
    exact this l fun x h => h
section
variable {n0 : Nat} {w0 : World} {I0 : Nat→Prop}
end
theorem wrdL_succ (a b : T) (i : Nat) : wrdL a b (i + 1) = wrdL a b i ++ (if unlZ (a.words.getD i 0) (b.words.getD i 0) = 0 then [] else [wdE i (a.words.getD i 0) (b.words.getD i 0)]) := by
  unfold wrdL
  rw [List.range_succ,List.filterMap_append]
  congr 1
  by_cases h : unlZ (a.words.getD i 0) (b.words.getD i 0) = 0
  · simp only [List.filterMap_cons,List.filterMap_nil,h,if_true]
  · simp only [List.filterMap_cons,List.filterMap_nil,h,if_false]
theorem wrdL_len (a b : T) : ∀ i,(wrdL a b i).length≤i
  | 0 => by simp [wrdL]
  | i + 1 => by
    have := wrdL_len a b i
    rw [wrdL_succ]
    split <;> simp <;> omega
theorem kidL26_succ (one : T→T→E) (a b : T) (i : Nat) : kidL26 one a b (i + 1) = kidL26 one a b i ++ (if (one (a.kids.getD i T0) (b.kids.getD i T0)).kind = 0 then [] else [.mk i (one (a.kids.getD i T0) (b.kids.getD i T0))]) := by
  unfold kidL26
  rw [List.range_succ,List.filterMap_append]
  congr 1
  by_cases h : (one (a.kids.getD i T0) (b.kids.getD i T0)).kind = 0
  · simp only [List.filterMap_cons,List.filterMap_nil,h,if_true]
  · simp only [List.filterMap_cons,List.filterMap_nil,h,if_false]
theorem kidL26_len (one : T→T→E) (a b : T) : ∀ i,(kidL26 one a b i).length≤i
  | 0 => by simp [kidL26]
  | i + 1 => by
    have := kidL26_len one a b i
    rw [kidL26_succ]
    split <;> simp <;> omega
def stC (u n : Nat) (k : A) : List A := [iv 2,iv 0,.sl true [],.sl true [],iv 0,.sl true [],.sl true [],.osl [5] u 4 0 n,k,iv 0,.sl true []]
section
variable {n0 : Nat} {w0 : World} {I0 : Nat→Prop} {Q : Exit→Sta→Prop}
theorem st_l1 {a b : T} (ha : wfT a) (hb : wfT b) {most : A} {N : Nat} (hN : N≤1000000)
    (hq : ∀ (H' : Hp) (u : Nat),H' [0] = ⟨1,.cells (tL a)⟩→H' [1] = ⟨1,.cells (tL b)⟩→H' [2] = ⟨1,.cells rawE⟩→H' [3] = ⟨1,.cells (stC u (wrdL a b N).length (.sl true []))⟩→H' [5] = ⟨u,.arr 4 ((wrdL a b N).map wA)⟩→H' [6] = ⟨0,.none⟩→H' [7] = ⟨0,.none⟩ →
      Q (.exit 0) ⟨lk [(2,most),(3,.pob [0] 1 0),(4,.pob [1] 1 0),(6,.pob [2] 1 0),(7,.pob [3] 1 0),(20,iv N),(21,iv N),(22,bv false)],H'⟩) :
    ∀ (m i : Nat) (u : Nat) (H : Hp),i + m = N→H [0] = ⟨1,.cells (tL a)⟩→H [1] = ⟨1,.cells (tL b)⟩→H [2] = ⟨1,.cells rawE⟩→H [3] = ⟨1,.cells (stC u (wrdL a b i).length (.sl true []))⟩→H [5] = ⟨u,.arr 4 ((wrdL a b i).map wA)⟩→H [6] = ⟨0,.none⟩→H [7] = ⟨0,.none⟩ →
    LoopC (cx Tryz.prog w0 I0 n0) l1_diff_structure Q ⟨lk [(2,most),(3,.pob [0] 1 0),(4,.pob [1] 1 0),(6,.pob [2] 1 0),(7,.pob [3] 1 0),(20,iv N),(21,iv i)],H⟩ := by
  intro m
  induction m with
  | zero =>
    intro i u H hm h0 h1 h2 h3 h5 h6 h7
    have : i = N := by omega
    subst this
    refine loopC_once mixed l1_diff_structure.eq_1 ?_
    simp
    exact hq H u h0 h1 h2 h3 h5 h6 h7
  | succ m ih =>
    intro i u H hm h0 h1 h2 h3 h5 h6 h7
    have hlt : i < N := by omega
    have ew : IntKind.i64.wrap ((i : Int) + 1) = ((i + 1 : Nat) : Int) := by rw [i64_same (by omega) (by omega)]; omega
    have hwa : u64R (a.words.getD i 0) := wd_in ha i
    have hwb : u64R (b.words.getD i 0) := wd_in hb i
    have hW := pWord_spec (i := i) hwa hwb
    have hwl := wrdL_len a b i
    have next := ih (i + 1)
    rw [wrdL_succ] at next
    refine loopC_once mixed l1_diff_structure.eq_1 ?_
    simp [hlt,h0,h1]
    refine sc_call (treeWord_spec a i) (by simp) ?_
    simp [h0,h1]
    refine sc_call (treeWord_spec b i) (by simp) ?_
    simp
    refine sc_call hW (by simp) ?_
    generalize a.words.getD i 0 = x at *
    generalize b.words.getD i 0 = y at *
    by_cases hz : unlZ x y = 0
    · rw [if_pos hz] at next
      simp [hz,updF_app]
      rw [ew]
      refine next u _ (by omega) (by simp [updF_app,h0]) (by simp [updF_app,h1]) (by simp [updF_app,h2]) (by simp [updF_app,h3]) (by simp [updF_app,h5]) (by simp [updF_app,h6]) (by simp [updF_app,h7])
    · rw [if_neg hz] at next
      simp [hz,updF_app,h3,h5,stC]
      refine ⟨by omega,?_⟩
      rw [ew]
      refine next (u + 1) _ (by omega) (by simp [updF_app,h0]) (by simp [updF_app,h1]) (by simp [updF_app,h2]) (by simp [updF_app,stC]) (by simp [updF_app,List.take_of_length_le]) (by simp [updF_app,h6]) (by simp [updF_app,h7])
theorem st_l2 {one : T→T→E} {a b : T} {most : Int} {N : Nat} (hN : N≤1000000) (hone : ∀ i : Nat,G.Spec Tryz.prog 26 [tX (a.kids.getD i T0),tX (b.kids.getD i T0),iv most] (eX (one (a.kids.getD i T0) (b.kids.getD i T0)))) {u n : Nat} {ws : List WE}
    (hq : ∀ (H' : Hp) (v : Nat),H' [3] = ⟨1,.cells (stC u n (.osl [7] v 12 0 (kidL26 one a b N).length))⟩→H' [5] = ⟨u,.arr 4 (ws.map wA)⟩→H' [7] = ⟨v,.arr 12 ((kidL26 one a b N).map kA)⟩→H' [2] = ⟨1,.cells rawE⟩ →
      Q (.exit 2) ⟨lk [(2,iv most),(3,.pob [0] 1 0),(4,.pob [1] 1 0),(6,.pob [2] 1 0),(7,.pob [3] 1 0),(49,iv N),(50,iv N),(51,bv false)],H'⟩) :
    ∀ (m i : Nat) (v : Nat) (H : Hp),i + m = N→H [0] = ⟨1,.cells (tL a)⟩→H [1] = ⟨1,.cells (tL b)⟩→H [2] = ⟨1,.cells rawE⟩→H [3] = ⟨1,.cells (stC u n (.osl [7] v 12 0 (kidL26 one a b i).length))⟩→H [5] = ⟨u,.arr 4 (ws.map wA)⟩→H [7] = ⟨v,.arr 12 ((kidL26 one a b i).map kA)⟩ →
    LoopC (cx Tryz.prog w0 I0 n0) l2_diff_structure Q ⟨lk [(2,iv most),(3,.pob [0] 1 0),(4,.pob [1] 1 0),(6,.pob [2] 1 0),(7,.pob [3] 1 0),(49,iv N),(50,iv i)],H⟩ := by
  intro m
  induction m with
  | zero =>
    intro i v H hm h0 h1 h2 h3 h5 h7
    have : i = N := by omega
    subst this
    refine loopC_once mixed l2_diff_structure.eq_1 ?_
    simp
    exact hq H v h3 h5 h7 h2
  | succ m ih =>
    intro i v H hm h0 h1 h2 h3 h5 h7
    have hlt : i < N := by omega
    have ew : IntKind.i64.wrap ((i : Int) + 1) = ((i + 1 : Nat) : Int) := by rw [i64_same (by omega) (by omega)]; omega
    have hO := hone i
    have hkl := kidL26_len one a b i
    have next := ih (i + 1)
    rw [kidL26_succ] at next
    have K1 := treeKid_spec a i
    have K2 := treeKid_spec b i
    generalize a.kids.getD i T0 = x at *
    generalize b.kids.getD i T0 = y at *
    generalize one x y = e at *
    refine loopC_once mixed l2_diff_structure.eq_1 ?_
    simp [hlt,h0,h1]
    refine sc_call K1 (by simp) ?_
    simp [h0,h1]
    refine sc_call K2 (by simp) ?_
    simp
    refine sc_call hO (by simp) ?_
    by_cases hz : e.kind = 0
    · rw [if_pos hz] at next
      simp [hz,updF_app]
      rw [ew]
      refine next v _ (by omega) (by simp [updF_app,h0]) (by simp [updF_app,h1]) (by simp [updF_app,h2]) (by simp [updF_app,h3]) (by simp [updF_app,h5]) (by simp [updF_app,h7])
    · rw [if_neg hz] at next
      simp [hz,updF_app,h3,h7,stC]
      refine ⟨by omega,?_⟩
      rw [ew]
      refine next (v + 1) _ (by omega) (by simp [updF_app,h0]) (by simp [updF_app,h1]) (by simp [updF_app,h2]) (by simp [updF_app,stC]) (by simp [updF_app,h5]) (by simp [updF_app,List.take_of_length_le])
end
theorem pStruct26_spec {one : T→T→E} {a b : T} (ha : wfT a) (hb : wfT b) (h1 : a.words.length≤1000000) (h2 : b.words.length≤1000000) (h3 : a.kids.length≤1000000) (h4 : b.kids.length≤1000000) {most : Int} (hone : ∀ i : Nat,G.Spec Tryz.prog 26 [tX (a.kids.getD i T0),tX (b.kids.getD i T0),iv most] (eX (one (a.kids.getD i T0) (b.kids.getD i T0)))) :
    G.Spec Tryz.prog 43 [tX a,tX b,iv most] (eX (strE one a b)) := by
  refine spec_of t_diff_structure (by simp) fun w0 I0 => ?_
  unfold c_diff_structure
  simp
  refine LoopC.le (le_blankC (d := [3]) (u := 1) (cs := [iv 2,iv 0,.sl true [],.sl true [],iv 0,.sl true [],.sl true [],.sl true [],.sl true [],iv 0,.sl true []]) 7 [5] 4 (by simp [updF_app]) rfl (by simp)) ?_
  refine LoopC.le (le_list [(2,iv most),(3,.pob [0] 1 0),(4,.pob [1] 1 0),(6,.pob [2] 1 0),(7,.pob [3] 1 0),(20,iv (max a.words.length b.words.length : Nat)),(21,iv (0 : Nat))] (by simp; omega)) ?_
  refine st_l1 ha hb (N := max a.words.length b.words.length) (by omega) (fun H' u g0 g1 g2 g3 g5 g6 g7 => ?_) (max a.words.length b.words.length) 0 1 _ (by omega) (by simp [updF_app]) (by simp [updF_app]) (by simp [updF_app,rawE]) (by simp [updF_app,stC,wrdL]) (by simp [updF_app,wrdL]) (by simp [updF_app]) (by simp [updF_app])
  simp [g0,g1]
  refine LoopC.le (le_blankC (d := [3]) (u := 1) (cs := stC u (wrdL a b (max a.words.length b.words.length)).length (.sl true [])) 8 [7] 12 g3 rfl (by simp)) ?_
  refine LoopC.le (le_list [(2,iv most),(3,.pob [0] 1 0),(4,.pob [1] 1 0),(6,.pob [2] 1 0),(7,.pob [3] 1 0),(49,iv (max a.kids.length b.kids.length : Nat)),(50,iv (0 : Nat))] (by simp; omega)) ?_
  refine st_l2 (one := one) (a := a) (b := b) (N := max a.kids.length b.kids.length) (by omega) hone (ws := wrdL a b (max a.words.length b.words.length)) (u := u) (n := (wrdL a b (max a.words.length b.words.length)).length) (fun H2 v k3 k5 k7 k2 => ?_) (max a.kids.length b.kids.length) 0 1 _ (by omega) (by simp [updF_app,g0]) (by simp [updF_app,g1]) (by simp [updF_app,g2]) (by simp [updF_app,stC,kidL26,g7]) (by simp [updF_app,g5]) (by simp [updF_app,kidL26,g7])
  simp [k3,k2,updF_app,stC]
  refine ⟨by simp [rawE],?_⟩
  refine frz_agg ⟨frz_bare rfl,frz_bare rfl,frz_sl,frz_sl,frz_bare rfl,frz_sl,frz_sl,?_,?_,frz_bare rfl,frz_sl,trivial⟩
  · exact frz_row (f := wA) (l := wrdL a b (max a.words.length b.words.length)) (by rw [updF_ne (by simp),k5]; simp) rfl (fun x => by simp)
  · exact frz_row (f := kA) (l := kidL26 one a b (max a.kids.length b.kids.length)) (by rw [updF_ne (by simp),k7]; simp) rfl (fun x => by simp)
theorem one_step {a b : T} (ha : wfT a) (hb : wfT b) {X Y : E} {most : Int} (hs : a.kind = 1→b.kind = 1→G.Spec Tryz.prog 43 [tX a,tX b,iv most] (eX X)) (hl : a.kind = b.kind→2≤a.kind→a.kind≤9→G.Spec Tryz.prog 45 [tX a,tX b,iv most] (eX Y)) :
    G.Spec Tryz.prog 26 [tX a,tX b,iv most] (eX (if eqT a b = true then E0 else if a.kind = 1∧b.kind = 1 then X else if a.kind = b.kind∧2≤a.kind∧a.kind≤9 then Y else .mk 1 a b [] [] 0 [])) := by
  have hE := eqG_spec ha hb
  have hraw : ∀ H : Hp,Frz H (.agg rawE) (eX E0) := fun H => frz_agg ⟨frz_bare rfl,frz_bare rfl,frz_sl,frz_sl,frz_bare rfl,frz_sl,frz_sl,frz_sl,frz_sl,frz_bare rfl,frz_sl,trivial⟩
  have hfr : ∀ (H : Hp) (k : Int),k = a.kind→Frz H (.agg [iv 1,iv k,uws a.words,tKs a.kids,iv b.kind,uws b.words,tKs b.kids,.sl true [],.sl true [],iv 0,.sl true []]) (eX (.mk 1 a b [] [] 0 [])) := fun H k hk => by
    subst hk
    exact frz_agg ⟨frz_bare rfl,frz_bare rfl,frz_bare rfl,frz_bare rfl,frz_bare rfl,frz_bare rfl,frz_bare rfl,frz_sl,frz_sl,frz_bare rfl,frz_sl,trivial⟩
  refine spec_of t_diff_one (by simp) fun w0 I0 => ?_
  unfold c_diff_one
  simp
  refine sc_call hE (by simp) ?_
  cases he : eqT a b with
  | true =>
    simp
    exact hraw _
  | false =>
    by_cases h1 : a.kind = 1
    · by_cases h2 : b.kind = 1
      · have S := hs h1 h2
        have S' : G.Spec Tryz.prog 43 [.agg [iv 1,uws a.words,tKs a.kids],.agg [iv 1,uws b.words,tKs b.kids],iv most] (eX X) := by
          rw [← h1]
          have e : ([A.agg [iv a.kind,uws a.words,tKs a.kids],.agg [iv a.kind,uws b.words,tKs b.kids],iv most] : List A) = [tX a,tX b,iv most] := by
            show [A.agg [iv a.kind,uws a.words,tKs a.kids],.agg [iv a.kind,uws b.words,tKs b.kids],iv most] = [A.agg [iv a.kind,uws a.words,tKs a.kids],.agg [iv b.kind,uws b.words,tKs b.kids],iv most]
            rw [h1,h2]
          rw [e]
          exact S
        simp [h1,h2]
        refine sc_call S' (by simp) ?_
        simp
        exact frz_bare (by simp)
      · have hne : ¬ (1 : Int) = b.kind := fun e => h2 e.symm
        simp [h1,h2,hne]
        refine sc_call_off rfl ?_
        simp
        exact hfr _ 1 h1.symm
    · by_cases h3 : a.kind = b.kind
      · have h2 : ¬ b.kind = 1 := fun e => h1 (h3.trans e)
        simp [h1,h3,h2]
        rw [sc_guard]
        simp
        refine sc_call (tList_spec b.kind) (by simp) ?_
        by_cases h5 : 2≤b.kind∧b.kind≤9
        · have S := hl h3 (by omega) (by omega)
          have S' : G.Spec Tryz.prog 45 [.agg [iv b.kind,uws a.words,tKs a.kids],.agg [iv b.kind,uws b.words,tKs b.kids],iv most] (eX Y) := by
            rw [← h3]
            have e : ([A.agg [iv a.kind,uws a.words,tKs a.kids],.agg [iv a.kind,uws b.words,tKs b.kids],iv most] : List A) = [tX a,tX b,iv most] := by
              show [A.agg [iv a.kind,uws a.words,tKs a.kids],.agg [iv a.kind,uws b.words,tKs b.kids],iv most] = [A.agg [iv a.kind,uws a.words,tKs a.kids],.agg [iv b.kind,uws b.words,tKs b.kids],iv most]
              rw [h3]
            rw [e]
            exact S
          simp [h5.1,h5.2]
          refine sc_call S' (by simp) ?_
          simp
          exact frz_bare (by simp)
        · have h6 : (decide (2≤b.kind) && decide (b.kind≤9)) = false := by
            rw [Bool.eq_false_iff]; simpa using h5
          rw [h6]
          simp [h5]
          exact hfr _ _ h3.symm
      · simp [h1,h3]
        refine sc_call_off rfl ?_
        simp
        exact hfr _ _ rfl
def okT : Nat→T→Prop
  | 0,t => t = T0
  | f + 1,t => t = T0∨(wfT t∧norm t = t∧t.words.length≤1000∧t.kids.length≤1000∧∀ k,k ∈ t.kids→okT f k)
theorem okT_T0 (f : Nat) : okT f T0 := by cases f with
  | zero => rfl
  | succ f => exact .inl rfl
theorem wf_T026 : wfT T0 := wfT_iff.2 ⟨by simp [i64R],by simp,by simp,by simp,by simp⟩
theorem norm_T026 : norm T0 = T0 := by simp [norm,T0,trimW,trimK]
theorem okT_facts {f : Nat} {t : T} (h : okT f t) : wfT t∧norm t = t∧t.words.length≤1000∧t.kids.length≤1000 := by
  have z : wfT T0∧norm T0 = T0∧T0.words.length≤1000∧T0.kids.length≤1000 := ⟨wf_T026,norm_T026,by decide,by decide⟩
  cases f with
  | zero => cases h; exact z
  | succ f =>
    rcases h with rfl | h
    · exact z
    · exact ⟨h.1,h.2.1,h.2.2.1,h.2.2.2.1⟩
theorem okT_kids {f : Nat} {t : T} (h : okT f t) : ∀ k,k ∈ t.kids→okT (f - 1) k := by
  cases f with
  | zero => cases h; intro k hk; simp [T0] at hk
  | succ f =>
    rcases h with rfl | h
    · intro k hk; simp [T0] at hk
    · exact h.2.2.2.2
theorem okT_at {f : Nat} {t : T} (h : okT f t) (i : Nat) : okT (f - 1) (t.kids.getD i T0) := by
  by_cases hi : i < t.kids.length
  · have e : t.kids.getD i T0 = t.kids[i] := by simp [hi]
    rw [e]
    exact okT_kids h _ (List.getElem_mem hi)
  · have e : t.kids.getD i T0 = T0 := by simp [List.getElem?_eq_none (Nat.le_of_not_lt hi)]
    rw [e]
    exact okT_T0 _
theorem pOne_spec {most : Int} (hm : i64R most) : ∀ (f g : Nat) (a b : T),okT f a→okT g b→G.Spec Tryz.prog 26 [tX a,tX b,iv most] (eX (oneE most f a b))
  | 0,g,a,b,ha,hb => by
    obtain ⟨a1,a2,a3,a4⟩ := okT_facts ha
    obtain ⟨b1,b2,b3,b4⟩ := okT_facts hb
    have hk : a.kind = 0 := by cases ha; rfl
    have := one_step a1 b1 (X := E0) (Y := E0) (most := most) (fun h => by omega) (fun _ h => by omega)
    rw [if_neg (show ¬ (a.kind = 1∧b.kind = 1) by omega),if_neg (show ¬ (a.kind = b.kind∧2≤a.kind∧a.kind≤9) by omega)] at this
    exact this
  | f + 1,g,a,b,ha,hb => by
    obtain ⟨a1,a2,a3,a4⟩ := okT_facts ha
    obtain ⟨b1,b2,b3,b4⟩ := okT_facts hb
    refine one_step a1 b1 (fun h1 h2 => ?_) (fun h1 h2 h3 => ?_)
    · exact pStruct26_spec a1 b1 (by omega) (by omega) (by omega) (by omega) fun i => pOne_spec hm f (g - 1) _ _ (okT_at ha i) (okT_at hb i)
    · exact pList26_spec a1 b1 (fun t ht => (okT_facts (okT_kids ha t ht)).2.1) (fun t ht => (okT_facts (okT_kids hb t ht)).2.1) (by omega) (by omega) hm fun x hx y hy => pOne_spec hm f (g - 1) _ _ (okT_kids ha x hx) (okT_kids hb y hy)
end Go.Proofs.YtmeldaflhkiopaaGreat
namespace Go.PL
set_option linter.unusedVariables false
set_option linter.unusedSimpArgs false
theorem right_null (d : Nat) : rightT d T0 = true := by rw [rightT_mk]; simp
theorem right_to {d : Nat} {k : Int} {w : List Int} {l : List T} (h0 : k ≠ 0) (h10 : k ≠ 10) (hb : tooBig k d w.length l.length = false) (h : ∀ t,t ∈ l→rightT (d - 1) t = true∧kidOk k t = true) : rightT d (.mk k w l) = true := by
  rw [rightT_mk,if_neg h0,if_neg h10,if_neg (by rw [hb]; simp)]
  exact rightL_all.2 h
mutual
def partsT : T→Int
  | .mk _ w l => 1 + w.length + partsL l
def partsL : List T→Int
  | [] => 0
  | t :: l => partsT t + partsL l
end
@[simp] theorem partsT_mk (k : Int) (w : List Int) (l : List T) : partsT (.mk k w l) = 1 + w.length + partsL l := by rw [partsT]
@[simp] theorem partsL_nil : partsL [] = 0 := by rw [partsL]
@[simp] theorem partsL_cons (t : T) (l : List T) : partsL (t :: l) = partsT t + partsL l := by rw [partsL]
theorem partsL_len {l : List T} (h : ∀ t,t ∈ l→1≤partsT t) : (l.length : Int)≤partsL l := by
  induction l with
  | nil => simp
  | cons t l ih =>
    have := h t (by simp)
    have := ih fun u hu => h u (by simp [hu])
    simp
    omega
theorem partsT_pos : ∀ t : T,1≤partsT t := by
  refine T.ind fun k w l ih => ?_
  have := partsL_len ih
  simp
  omega
theorem partsL_pos (l : List T) : (l.length : Int)≤partsL l := partsL_len fun t _ => partsT_pos t
theorem parts_shallow : ∀ (t : T) (d : Nat) (n : Int),0≤shallow d n t→partsT t≤n - shallow d n t := by
  refine T.ind fun k w l ih d n h => ?_
  have hl : ∀ (m : List T) (d : Nat) (n : Int),(∀ t,t ∈ m→t ∈ l)→0≤shallowL d n m→partsL m≤n - shallowL d n m := by
    intro m
    induction m with
    | nil => intro d n _ _; simp
    | cons t m ihm =>
      intro d n hin h
      rw [shallowL_cons] at h ⊢
      split at h
      · omega
      · rename_i hc
        rw [if_neg hc]
        have h1 := ihm d (shallow d n t) (fun u hu => hin u (by simp [hu])) h
        have h3 : 0≤shallow d n t := by
          cases m with
          | nil => simpa using h
          | cons u m =>
            rw [shallowL_cons] at h
            split at h <;> omega
        have := ih t (hin t (by simp)) d n h3
        simp
        omega
  rw [shallow_mk] at h ⊢
  split at h
  · omega
  rename_i hc
  rw [if_neg hc]
  have := hl l (d - 1) _ (fun t ht => ht) h
  simp
  omega
end Go.PL
namespace Go.Proofs.YtmeldaflhkiopaaGreat
set_option linter.unusedVariables false
set_option linter.unusedSimpArgs false
open Go Go.G Go.Proofs Go.PL
theorem sumO_app (a b : List OP) : sumO (a ++ b) = sumO a + sumO b := by simp [sumO]
theorem sum_del26 (l : List T) : sumO (delO l) = l.length := by
  unfold delO
  split
  · rename_i h; subst h; rfl
  · simp [sumO]
theorem sum_ins26 (l : List T) : sumO (insO l) = l.length := by
  unfold insO
  split
  · rename_i h; subst h; rfl
  · simp [sumO]
theorem gapO_sum (one : T→T→E) (a b : List T) : ∀ (P : List Sc) (i j : Nat) (out : List OP),PkOk a.length b.length i j P→sumO (gapO one a b P i j out)≤sumO out + (a.length - i) + (b.length - j)
  | [],i,j,out,h => by
    rw [gapO,sumO_app,sumO_app,sum_del26,sum_ins26]
    simp
  | x :: P,i,j,out,h => by
    obtain ⟨k1,k2,k3,k4,k5⟩ := h
    have := gapO_sum one a b P _ _ (out ++ delO ((a.take x.i).drop i) ++ insO ((b.take x.j).drop j) ++ [.mk 3 0 [] (one (a.getD x.i T0) (b.getD x.j T0))]) k5
    rw [gapO]
    rw [sumO_app,sumO_app,sumO_app,sum_del26,sum_ins26,show sumO [OP.mk 3 0 [] (one (a.getD x.i T0) (b.getD x.j T0))] = 0 from rfl,List.length_drop,List.length_take,List.length_drop,List.length_take] at this
    omega
theorem gapE_sum (one : T→T→E) (a b : List T) : sumO (gapE one a b)≤a.length + b.length := by
  have := gapO_sum one a b (pkG (scR a b)) 0 0 [] (pkG_ok a b)
  rw [show sumO [] = 0 from rfl] at this
  unfold gapE
  omega
inductive GOp (one : T→T→E) (A B : List T) (N : Nat) : OP→Prop
  | keep (n : Nat) (h : n≤N) : GOp one A B N (.mk 0 n [] E0)
  | del (l : List T) (h : l ≠ []) (g : ∀ t,t ∈ l→t ∈ A) (k : l.length≤A.length) : GOp one A B N (.mk 1 0 l E0)
  | ins (l : List T) (h : l ≠ []) (g : ∀ t,t ∈ l→t ∈ B) (k : l.length≤B.length) : GOp one A B N (.mk 2 0 l E0)
  | desc (x y : T) (hx : x ∈ A) (hy : y ∈ B) : GOp one A B N (.mk 3 0 [] (one x y))
theorem gOp_mono {one : T→T→E} {A B A' B' : List T} {N : Nat} (hA : ∀ t,t ∈ A→t ∈ A') (hB : ∀ t,t ∈ B→t ∈ B') (lA : A.length≤A'.length) (lB : B.length≤B'.length) {o : OP} (h : GOp one A B N o) : GOp one A' B' N o := by
  cases h with
  | keep n h => exact .keep n h
  | del l h g k => exact .del l h (fun t ht => hA t (g t ht)) (by omega)
  | ins l h g k => exact .ins l h (fun t ht => hB t (g t ht)) (by omega)
  | desc x y hx hy => exact .desc x y (hA x hx) (hB y hy)
theorem gOp_del {one : T→T→E} {A B l : List T} {N : Nat} (h : ∀ t,t ∈ l→t ∈ A) (hl : l.length≤A.length) : ∀ o,o ∈ delO l→GOp one A B N o := by
  intro o ho
  unfold delO at ho
  split at ho
  · simp at ho
  · rename_i hne
    simp at ho
    subst ho
    exact .del l hne h hl
theorem gOp_ins {one : T→T→E} {A B l : List T} {N : Nat} (h : ∀ t,t ∈ l→t ∈ B) (hl : l.length≤B.length) : ∀ o,o ∈ insO l→GOp one A B N o := by
  intro o ho
  unfold insO at ho
  split at ho
  · simp at ho
  · rename_i hne
    simp at ho
    subst ho
    exact .ins l hne h hl
theorem gapO_mem (one : T→T→E) (a b : List T) (N : Nat) : ∀ (P : List Sc) (i j : Nat) (out : List OP),PkOk a.length b.length i j P→(∀ o,o ∈ out→GOp one a b N o)→∀ o,o ∈ gapO one a b P i j out→GOp one a b N o
  | [],i,j,out,h,g => by
    intro o ho
    rw [gapO] at ho
    rcases List.mem_append.1 ho with ho | ho
    · rcases List.mem_append.1 ho with ho | ho
      · exact g o ho
      · exact gOp_del (fun t ht => List.mem_of_mem_drop ht) (by simp) o ho
    · exact gOp_ins (fun t ht => List.mem_of_mem_drop ht) (by simp) o ho
  | x :: P,i,j,out,h,g => by
    obtain ⟨k1,k2,k3,k4,k5⟩ := h
    rw [gapO]
    refine gapO_mem one a b N P _ _ _ k5 fun o ho => ?_
    rcases List.mem_append.1 ho with ho | ho
    · rcases List.mem_append.1 ho with ho | ho
      · rcases List.mem_append.1 ho with ho | ho
        · exact g o ho
        · exact gOp_del (fun t ht => List.mem_of_mem_take (List.mem_of_mem_drop ht)) (by simp; omega) o ho
      · exact gOp_ins (fun t ht => List.mem_of_mem_take (List.mem_of_mem_drop ht)) (by simp; omega) o ho
    · rw [List.mem_singleton] at ho
      subst ho
      have e1 : a.getD x.i T0 = a[x.i] := by simp [k3]
      have e2 : b.getD x.j T0 = b[x.j] := by simp [k4]
      rw [e1,e2]
      exact .desc _ _ (List.getElem_mem k3) (List.getElem_mem k4)
theorem gapE_mem (one : T→T→E) (a b : List T) (N : Nat) : ∀ o,o ∈ gapE one a b→GOp one a b N o := gapO_mem one a b N _ 0 0 [] (pkG_ok a b) (by simp)
theorem opsG_inv {gap : List T→List T→List OP} {I : List T→List T→List OP→Prop} {S0 : List Sp} (h0 : ∀ s,s ∈ S0→∀ a b out,I a b out→I (a.drop s.n) (b.drop s.n) (out ++ [.mk 0 s.n [] E0])) (h1 : ∀ n a b out,I a b out→I (a.drop n) b (out ++ delO (a.take n))) (h2 : ∀ n a b out,I a b out→I a (b.drop n) (out ++ insO (b.take n))) (h3 : ∀ n m a b out,I a b out→I (a.drop n) (b.drop m) (out ++ gap (a.take n) (b.take m))) : ∀ (S : List Sp) (a b : List T) (out : List OP),(∀ s,s ∈ S→s ∈ S0)→I a b out→∃ a' b',I a' b' (opsG gap S a b out)
  | [],a,b,out,hS,h => ⟨a,b,by rw [opsG]; exact h⟩
  | [s],a,b,out,hS,h => by
    have hs := hS s (by simp)
    rw [opsG]
    split
    · exact ⟨_,_,h0 s hs a b out h⟩
    · split
      · exact ⟨_,_,h2 s.n a b out h⟩
      · exact ⟨_,_,h1 s.n a b out h⟩
  | s :: s2 :: ss,a,b,out,hS,h => by
    have hs := hS s (by simp)
    have hS1 : ∀ x,x ∈ s2 :: ss→x ∈ S0 := fun x hx => hS x (List.mem_cons_of_mem _ hx)
    have hS2 : ∀ x,x ∈ ss→x ∈ S0 := fun x hx => hS1 x (List.mem_cons_of_mem _ hx)
    rw [opsG]
    split
    · exact opsG_inv h0 h1 h2 h3 (s2 :: ss) _ _ _ hS1 (h0 s hs a b out h)
    · split
      · exact opsG_inv h0 h1 h2 h3 (s2 :: ss) _ _ _ hS1 (h2 s.n a b out h)
      · split
        · exact opsG_inv h0 h1 h2 h3 ss _ _ _ hS2 (h3 s.n s2.n a b out h)
        · exact opsG_inv h0 h1 h2 h3 (s2 :: ss) _ _ _ hS1 (h1 s.n a b out h)
theorem opsG_sum {gap : List T→List T→List OP} (hg : ∀ x y,sumO (gap x y)≤x.length + y.length) (S : List Sp) (a b : List T) : sumO (opsG gap S a b [])≤a.length + b.length := by
  obtain ⟨a',b',h⟩ := opsG_inv (gap := gap) (S0 := S) (I := fun a' b' out => sumO out + a'.length + b'.length≤a.length + b.length) (fun s hs a b out h => by
    rw [sumO_app,show sumO [OP.mk 0 (s.n : Nat) [] E0] = 0 from rfl,List.length_drop,List.length_drop]; omega) (fun n a b out h => by
    rw [sumO_app,sum_del26,List.length_drop,List.length_take]; omega) (fun n a b out h => by
    rw [sumO_app,sum_ins26,List.length_drop,List.length_take]; omega) (fun n m a b out h => by
    have := hg (a.take n) (b.take m)
    rw [List.length_take,List.length_take] at this
    rw [sumO_app,List.length_drop,List.length_drop]; omega) S a b [] (fun s hs => hs) (by rw [show sumO [] = 0 from rfl]; omega)
  omega
theorem opsG_mem {one : T→T→E} {gap : List T→List T→List OP} {N : Nat} (hg : ∀ x y,∀ o,o ∈ gap x y→GOp one x y N o) (S : List Sp) (hS : ∀ s,s ∈ S→s.n≤N) (a b : List T) : ∀ o,o ∈ opsG gap S a b []→GOp one a b N o := by
  have app : ∀ {out l : List OP},(∀ o,o ∈ out→GOp one a b N o)→(∀ o,o ∈ l→GOp one a b N o)→∀ o,o ∈ out ++ l→GOp one a b N o := fun h1 h2 o ho => by
    rcases List.mem_append.1 ho with ho | ho
    · exact h1 o ho
    · exact h2 o ho
  have dr : ∀ {x y : List T} (n : Nat),((∀ t,t ∈ x→t ∈ y)∧x.length≤y.length)→(∀ t,t ∈ x.drop n→t ∈ y)∧(x.drop n).length≤y.length := fun n h => ⟨fun t ht => h.1 t (List.mem_of_mem_drop ht),by rw [List.length_drop]; omega⟩
  have tk : ∀ {x y : List T} (n : Nat),((∀ t,t ∈ x→t ∈ y)∧x.length≤y.length)→(∀ t,t ∈ x.take n→t ∈ y)∧(x.take n).length≤y.length := fun n h => ⟨fun t ht => h.1 t (List.mem_of_mem_take ht),by rw [List.length_take]; omega⟩
  obtain ⟨a',b',_,_,h⟩ := opsG_inv (gap := gap) (S0 := S) (I := fun a' b' out => ((∀ t,t ∈ a'→t ∈ a)∧a'.length≤a.length)∧((∀ t,t ∈ b'→t ∈ b)∧b'.length≤b.length)∧∀ o,o ∈ out→GOp one a b N o) (fun s hs x y out h => ⟨dr _ h.1,dr _ h.2.1,app h.2.2 fun o ho => by
      simp at ho; subst ho; exact .keep s.n (hS s hs)⟩) (fun n x y out h => ⟨dr _ h.1,h.2.1,app h.2.2 (gOp_del (tk n h.1).1 (tk n h.1).2)⟩) (fun n x y out h => ⟨h.1,dr _ h.2.1,app h.2.2 (gOp_ins (tk n h.2.1).1 (tk n h.2.1).2)⟩) (fun n m x y out h => ⟨dr _ h.1,dr _ h.2.1,app h.2.2 fun o ho => gOp_mono (tk n h.1).1 (tk m h.2.1).1 (tk n h.1).2 (tk m h.2.1).2 (hg _ _ o ho)⟩) S a b [] (fun s hs => hs) ⟨⟨fun t ht => ht,Nat.le_refl _⟩,⟨fun t ht => ht,Nat.le_refl _⟩,by simp⟩
  exact h
theorem opsG_len {gap : List T→List T→List OP} (hg : ∀ x y,(gap x y).length≤50) : ∀ (S : List Sp) (a b : List T) (out : List OP),(opsG gap S a b out).length≤out.length + 50 * S.length
  | [],a,b,out => by rw [opsG]; omega
  | [s],a,b,out => by
    have d1 : (delO (a.take s.n)).length≤1 := by unfold delO; split <;> simp
    have d2 : (insO (b.take s.n)).length≤1 := by unfold insO; split <;> simp
    rw [opsG]
    split
    · simp
    · split <;> (rw [List.length_append]; simp only [List.length_cons,List.length_nil]; omega)
  | s :: s2 :: ss,a,b,out => by
    have d1 : (delO (a.take s.n)).length≤1 := by unfold delO; split <;> simp
    have d2 : (insO (b.take s.n)).length≤1 := by unfold insO; split <;> simp
    rw [opsG]
    split
    · have := opsG_len hg (s2 :: ss) (a.drop s.n) (b.drop s.n) (out ++ [.mk 0 s.n [] E0])
      simp only [List.length_append,List.length_cons,List.length_nil] at this ⊢
      omega
    · split
      · have := opsG_len hg (s2 :: ss) a (b.drop s.n) (out ++ insO (b.take s.n))
        simp only [List.length_append,List.length_cons,List.length_nil] at this ⊢
        omega
      · split
        · have := opsG_len hg ss (a.drop s.n) (b.drop s2.n) (out ++ gap (a.take s.n) (b.take s2.n))
          have := hg (a.take s.n) (b.take s2.n)
          simp only [List.length_append,List.length_cons,List.length_nil] at this ⊢
          simp only [List.length_append] at *
          omega
        · have := opsG_len hg (s2 :: ss) (a.drop s.n) b (out ++ delO (a.take s.n))
          simp only [List.length_append,List.length_cons,List.length_nil] at this ⊢
          omega
noncomputable def lstO (one : T→T→E) (most : Int) (a b : T) : List OP := if (distL (caL a) (cbL a b) : Int)≤most then opsG (gapE one) (nrmS (wayU (caL a) (cbL a b))) a.kids b.kids [] else gapE one a.kids b.kids
theorem listE_eq (one : T→T→E) (most : Int) (a b : T) : listE one most a b = .mk 3 T0 T0 [] [] a.kind (lstO one most a b) := rfl
theorem caL_len (a : T) : (caL a).length = a.kids.length := by simp [caL,zsN,clsL_length]
theorem cbL_len (a b : T) : (cbL a b).length = b.kids.length := by simp [cbL,zsN,clsL_length]
theorem units_mem_n : ∀ {l : List Sp} {s : Sp},s ∈ l→s.k ≠ 2→s.n≤dA (unitsS l)
  | x :: l,s,h,hk => by
    rw [units_cons,dA_app,dA_rep]
    rcases List.mem_cons.1 h with rfl | h
    · rw [if_neg hk]; omega
    · have := units_mem_n h hk; omega
theorem units_mem_n' : ∀ {l : List Sp} {s : Sp},s ∈ l→s.k ≠ 1→s.n≤dB (unitsS l)
  | x :: l,s,h,hk => by
    rw [units_cons,dB_app,dB_rep]
    rcases List.mem_cons.1 h with rfl | h
    · rw [if_neg hk]; omega
    · have := units_mem_n' h hk; omega
theorem nrm_n (a b : T) {s : Sp} (h : s ∈ nrmS (wayU (caL a) (cbL a b))) : s.n≤a.kids.length + b.kids.length := by
  have wd := wayU_d (caL a) (cbL a b)
  have wi := wayU_in (caL a) (cbL a b)
  have wn := nrmS_d _ wi
  rw [caL_len,cbL_len] at wd
  by_cases hk : s.k = 2
  · have := units_mem_n' h (by omega); omega
  · have := units_mem_n h hk; omega
theorem lstO_mem (one : T→T→E) (most : Int) (a b : T) : ∀ o,o ∈ lstO one most a b→GOp one a.kids b.kids (a.kids.length + b.kids.length) o := by
  unfold lstO
  split
  · exact opsG_mem (fun x y => gapE_mem one x y _) _ (fun s hs => nrm_n a b hs) _ _
  · exact gapE_mem one _ _ _
theorem lstO_sum (one : T→T→E) (most : Int) (a b : T) : sumO (lstO one most a b)≤a.kids.length + b.kids.length := by
  unfold lstO
  split
  · exact opsG_sum (fun x y => gapE_sum one x y) _ _ _
  · exact gapE_sum one _ _
theorem lstO_len (one : T→T→E) (most : Int) (a b : T) : (lstO one most a b).length≤50 * (a.kids.length + b.kids.length) + 50 := by
  unfold lstO
  split
  · have wd := wayU_d (caL a) (cbL a b)
    have wi := wayU_in (caL a) (cbL a b)
    have wn := nrmS_d _ wi
    have := steps_len _ (nrm_k wi)
    have h := opsG_len (gapE_len one) (nrmS (wayU (caL a) (cbL a b))) a.kids b.kids []
    rw [caL_len,cbL_len] at wd
    simp only [List.length_nil] at h
    omega
  · have := gapE_len one a.kids b.kids
    omega
theorem nOkK_of : ∀ {l : List KE},(∀ x,x ∈ l→nOk x.e)→nOkK l
  | [],_ => by rw [nOkK]; trivial
  | .mk a e :: l,h => by
    rw [nOkK]
    exact ⟨h _ (List.mem_cons_self ..),nOkK_of fun x hx => h x (List.mem_cons_of_mem _ hx)⟩
theorem nOkO_of : ∀ {l : List OP},(∀ x,x ∈ l→(x.kind = 0∨x.kind = 1∨x.kind = 2∨x.kind = 3)∧(∀ t,t ∈ x.l→wfT t)∧(x.kind = 3→nOk x.e))→nOkO l
  | [],_ => by rw [nOkO]; trivial
  | .mk k n t e :: l,h => by
    rw [nOkO]
    exact ⟨h _ (List.mem_cons_self ..),nOkO_of fun x hx => h x (List.mem_cons_of_mem _ hx)⟩
theorem nOk_E0 : nOk E0 := by
  unfold E0
  rw [nOk]
  exact ⟨.inl rfl,fun _ => rfl,fun h => absurd h (by decide),by simp,by simp,by simp,by simp [sumO],fun h => absurd h (by decide),fun h => absurd h (by decide)⟩
theorem nOk_rep {a b : T} (ha : wfT a) (hb : wfT b) : nOk (.mk 1 a b [] [] 0 []) := by
  rw [nOk]
  exact ⟨.inr (.inl rfl),fun _ => rfl,fun _ => ⟨ha,hb⟩,by simp,by simp,by simp,by simp [sumO],fun h => absurd h (by decide),fun h => absurd h (by decide)⟩
theorem kidL26_mem {one : T→T→E} {a b : T} {m : Nat} {x : KE} (h : x ∈ kidL26 one a b m) : ∃ i : Nat,i < m∧x = .mk i (one (a.kids.getD i T0) (b.kids.getD i T0))∧(one (a.kids.getD i T0) (b.kids.getD i T0)).kind ≠ 0 := by
  unfold kidL26 at h
  rw [List.mem_filterMap] at h
  obtain ⟨i,hi,e⟩ := h
  split at e
  · cases e
  · rename_i hk
    simp only [Option.some.injEq] at e
    exact ⟨i,by simpa using hi,e.symm,hk⟩
theorem nOk_str {one : T→T→E} {a b : T} (ha : a.words.length≤1000) (hb : b.words.length≤1000) (ha2 : a.kids.length≤1000) (hb2 : b.kids.length≤1000) (h : ∀ i,nOk (one (a.kids.getD i T0) (b.kids.getD i T0))) : nOk (strE one a b) := by
  have h1 := wrdL_len a b (max a.words.length b.words.length)
  have h2 := kidL26_len one a b (max a.kids.length b.kids.length)
  unfold strE
  rw [nOk]
  refine ⟨.inr (.inr (.inl rfl)),fun _ => rfl,fun h => absurd h (by decide),by omega,by omega,by simp,by simp [sumO],fun _ => nOkK_of fun x hx => ?_,fun h => absurd h (by decide)⟩
  obtain ⟨i,_,e,_⟩ := kidL26_mem hx
  subst e
  exact h i
theorem nOk_list {one : T→T→E} {most : Int} {a b : T} (ha : a.kids.length≤1000) (hb : b.kids.length≤1000) (wa : ∀ t,t ∈ a.kids→wfT t) (wb : ∀ t,t ∈ b.kids→wfT t) (h : ∀ x,x ∈ a.kids→∀ y,y ∈ b.kids→nOk (one x y)) : nOk (listE one most a b) := by
  have h1 := lstO_len one most a b
  have h2 := lstO_sum one most a b
  rw [listE_eq,nOk]
  refine ⟨.inr (.inr (.inr rfl)),fun h => absurd rfl h,fun h => absurd h (by decide),by simp,by simp,by omega,by omega,fun h => absurd h (by decide),fun _ => nOkO_of fun x hx => ?_⟩
  cases lstO_mem one most a b x hx with
  | keep n h => exact ⟨.inl rfl,fun t (ht : t ∈ ([] : List T)) => by simp at ht,fun h => absurd h (by show ¬ (0 : Int) = 3; decide)⟩
  | del l h g k => exact ⟨.inr (.inl rfl),fun t ht => wa t (g t ht),fun h => absurd h (by show ¬ (1 : Int) = 3; decide)⟩
  | ins l h g k => exact ⟨.inr (.inr (.inl rfl)),fun t ht => wb t (g t ht),fun h => absurd h (by show ¬ (2 : Int) = 3; decide)⟩
  | desc p q hp hq => exact ⟨.inr (.inr (.inr rfl)),fun t (ht : t ∈ ([] : List T)) => by simp at ht,fun _ => h p hp q hq⟩
theorem nOk_one (most : Int) : ∀ (f g : Nat) (a b : T),okT f a→okT g b→nOk (oneE most f a b)
  | 0,g,a,b,ha,hb => by
    rw [oneE]
    split
    · exact nOk_E0
    · exact nOk_rep (okT_facts ha).1 (okT_facts hb).1
  | f + 1,g,a,b,ha,hb => by
    obtain ⟨a1,a2,a3,a4⟩ := okT_facts ha
    obtain ⟨b1,b2,b3,b4⟩ := okT_facts hb
    rw [oneE]
    split
    · exact nOk_E0
    · split
      · exact nOk_str a3 b3 a4 b4 fun i => nOk_one most f (g - 1) _ _ (okT_at ha i) (okT_at hb i)
      · split
        · exact nOk_list a4 b4 (fun t ht => (okT_facts (okT_kids ha t ht)).1) (fun t ht => (okT_facts (okT_kids hb t ht)).1) fun x hx y hy => nOk_one most f (g - 1) x y (okT_kids ha x hx) (okT_kids hb y hy)
        · exact nOk_rep a1 b1
theorem partsL_mem {l : List T} {t : T} (h : t ∈ l) : partsT t≤partsL l := by
  induction l with
  | nil => simp at h
  | cons x l ih =>
    rw [partsL_cons]
    have hp := partsT_pos x
    have hl := partsL_pos l
    rcases List.mem_cons.1 h with rfl | h
    · omega
    · have := ih h; omega
theorem okT_norm26 : ∀ (t : T),wfT t→partsT t≤1000→∀ f : Nat,partsT t≤f→okT f (norm t) := by
  refine T.ind fun k w l ih hw hp f hf => ?_
  rw [partsT_mk] at hp hf
  have hl := partsL_pos l
  have hks := (wfT_iff.1 hw).ks
  cases f with
  | zero => omega
  | succ f =>
    have hk : ∀ t,t ∈ l→okT f (norm t) := fun t ht => by
      have := partsL_mem ht
      exact ih t ht (hks t ht) (by omega) f (by omega)
    rw [okT]
    refine .inr ⟨wf_norm _ hw,norm_norm _,?_,?_,?_⟩
    · rw [norm_mk]
      split
      · simp
      · split
        · have := trimW_le w
          show (trimW w).length≤1000
          omega
        · show w.length≤1000
          omega
    · rw [norm_mk]
      split
      · simp
      · split
        · have := trimK_le (l.map norm)
          rw [List.length_map] at this
          show (trimK (l.map norm)).length≤1000
          omega
        · show (l.map norm).length≤1000
          rw [List.length_map]
          omega
    · intro x hx
      have hx' : x ∈ l.map norm := by
        rw [norm_mk] at hx
        split at hx
        · simp at hx
        · split at hx
          · have hx2 : x ∈ trimK (l.map norm) := hx
            rw [trimK_take] at hx2
            exact List.mem_of_mem_take hx2
          · exact hx
      obtain ⟨t,ht,rfl⟩ := List.mem_map.1 hx'
      exact hk t ht
noncomputable def dfE (most : Int) (a b : T) : E := nEd (oneE most 1000 (norm a) (norm b))
theorem pTrees_spec {a b : T} (ha : wfT a) (hb : wfT b) (pa : partsT a≤1000) (pb : partsT b≤1000) {most : Int} (hm : i64R most) : G.Spec Tryz.prog 9 [tX a,tX b,iv most] (eX (dfE most a b)) := by
  have oa := okT_norm26 a ha pa 1000 pa
  have ob := okT_norm26 b hb pb 1000 pb
  have h1 := pOne_spec hm 1000 1000 _ _ oa ob
  have h2 := pEdit_spec _ (nOk_one most 1000 1000 _ _ oa ob)
  refine spec_of t_diff_Trees (by simp) fun w0 I0 => ?_
  unfold c_diff_Trees
  simp
  refine sc_call (tNorm_spec a ha) (by simp) ?_
  simp
  refine sc_call (tNorm_spec b hb) (by simp) ?_
  simp
  refine sc_call h1 (by simp) ?_
  simp
  refine sc_call h2 (by simp) ?_
  simp
  exact frz_bare (by simp)
def good26 (t : T) : Bool := decide (0≤shallow 70 400 t) && rightT 64 t && decide (t.kind ≠ 10)
theorem good26_spec {t : T} (h : wfT t) : G.Spec Tryz.prog 6 [tX t] (bv (good26 t)) := by
  refine spec_of t_centolaw26_Good (by simp) fun w0 I0 => ?_
  unfold c_centolaw26_Good
  simp
  refine sc_call (shallow_spec t h 70 400 (by omega) (by omega) (by omega)) (by simp) ?_
  unfold good26
  by_cases hs : 0≤shallow 70 400 t
  · simp [hs]
    refine sc_call_gt rfl (fun _ => rRight_spec t h 64 (by omega)) (fun _ => by simp) (by simp) ?_
    cases hr : rightT 64 t with
    | true =>
      simp
      exact frz_is rfl (by simp)
    | false =>
      simp
      exact frz_is rfl (by simp)
  · simp [hs]
    refine sc_call_off rfl ?_
    simp
    exact frz_is rfl (by simp)
theorem good26_parts {t : T} (h : good26 t = true) : partsT t≤400∧rightT 64 t = true∧t.kind ≠ 10 := by
  unfold good26 at h
  simp only [Bool.and_eq_true,decide_eq_true_eq] at h
  obtain ⟨⟨h1,h2⟩,h3⟩ := h
  have := parts_shallow t 70 400 h1
  exact ⟨by omega,h2,h3⟩
def wds (tw : List Int) : Nat→Nat→List WE→Option (List Int)
  | 0,_,_ => some []
  | m + 1,i,[] => (wds tw m (i + 1) []).map (tw.getD i 0 :: ·)
  | m + 1,i,x :: xs => if x.at_ = (i : Int) then (if mixZ 0 (tw.getD i 0) x.mask = x.old then (wds tw m (i + 1) xs).map (mixZ (tw.getD i 0) x.new x.mask :: ·) else none) else (wds tw m (i + 1) (x :: xs)).map (tw.getD i 0 :: ·)
def kds (tk : List T) : Nat→Nat→List (Int × (T→Option T))→Option (List T)
  | 0,_,_ => some []
  | m + 1,i,[] => (kds tk m (i + 1) []).map (tk.getD i T0 :: ·)
  | m + 1,i,x :: xs => if x.1 = (i : Int) then (match x.2 (tk.getD i T0) with | none => none | some u => (kds tk m (i + 1) xs).map (u :: ·)) else (kds tk m (i + 1) (x :: xs)).map (tk.getD i T0 :: ·)
noncomputable def opsR (tk : List T) : Nat→List (Int × Int × List T × (T→Option T))→Option (List T × Nat)
  | a,[] => some ([],a)
  | a,(k,n,l,f) :: os =>
    if k = 0 then (if a + n.toNat≤tk.length then (opsR tk (a + n.toNat) os).map (fun r => ((tk.drop a).take n.toNat ++ r.1,r.2)) else none)
    else if k = 1 then (if a + l.length≤tk.length∧(((tk.drop a).take l.length).zip l).all (fun p => eqT p.1 p.2) = true then opsR tk (a + l.length) os else none)
    else if k = 2 then (opsR tk a os).map (fun r => (l ++ r.1,r.2))
    else match tk[a]? with
      | none => none
      | some x => match f x with
        | none => none
        | some u => (opsR tk (a + 1) os).map (fun r => (u :: r.1,r.2))
def lastW (ws : List WE) (n : Nat) : Nat := match ws.getLast? with | none => n | some x => max n (x.at_ + 1).toNat
def lastK {β : Type} (ks : List (Int × β)) (n : Nat) : Nat := match ks.getLast? with | none => n | some x => max n (x.1 + 1).toNat
noncomputable def stepE (k : Int) (o n : T) (ws : List WE) (ks : List (Int × (T→Option T))) (list : Int) (os : List (Int × Int × List T × (T→Option T))) (t : T) : Option T :=
  if k = 0 then some (norm t)
  else if k = 1 then (if eqT o t = true then some (norm n) else none)
  else if k = 2 then (if t.kind = 1 then (match wds t.words (lastW ws t.words.length) 0 ws,kds t.kids (lastK ks t.kids.length) 0 ks with
    | some w,some l => some (norm (.mk 1 w l))
    | _,_ => none) else none)
  else if k = 3 then (if t.kind = list then (match opsR t.kids 0 os with
    | some (l,a) => if a = t.kids.length then some (norm (.mk t.kind [] l)) else none
    | none => none) else none)
  else none
mutual
noncomputable def apE : E→T→Option T
  | .mk k o n ws ks l os,t => stepE k o n ws (apKs ks) l (apOs os) t
noncomputable def apKs : List KE→List (Int × (T→Option T))
  | [] => []
  | .mk a e :: r => (a,apE e) :: apKs r
noncomputable def apOs : List OP→List (Int × Int × List T × (T→Option T))
  | [] => []
  | .mk k n t e :: r => (k,n,t,apE e) :: apOs r
end
section
variable {n0 : Nat} {w0 : World} {I0 : Nat→Prop} {Q : Exit→Sta→Prop}
end
section
variable {n0 : Nat} {w0 : World} {I0 : Nat→Prop} {Q : Exit→Sta→Prop}
end
theorem mixZ_in (a b mask : Int) : u64R (mixZ a b mask) := by
  have h := ofZ_range (mixL (bytesZ a) (bytesZ b) mask 8) mixL_range
  rw [mixL_length (by rw [bytesZ_length]; exact Nat.le_refl _),bytesZ_length] at h
  have e : (256 : Int) ^ 8 = 18446744073709551616 := by decide
  rw [e] at h
  exact ⟨h.1,h.2⟩
section
variable {n0 : Nat} {w0 : World} {I0 : Nat→Prop}
noncomputable def strO (e : E) (t : T) (n m : Nat) : Option T := match wds t.words n 0 e.words,kds t.kids m 0 (apKs e.kids) with
  | some w,some l => some (.mk 1 w l)
  | _,_ => none
end
noncomputable def strA (e : E) (t : T) : Option T := if t.kind = 1 then strO e t (lastW e.words t.words.length) (lastK (apKs e.kids) t.kids.length) else none
theorem wf_E026 : wfE E0 := wfE_iff.2 ⟨by simp [i64R],by simp [i64R],wf_T026,wf_T026,by simp,by simp,by simp,by simp,by simp,by simp⟩
theorem i64R_small {n : Int} (h1 : -1000000000≤n) (h2 : n≤1000000000) : i64R n := ⟨by omega,by omega⟩
theorem wd_wf26 {i : Nat} (hi : i≤1000000) (a b : Int) : WE.wf (wdE i a b) :=
  ⟨i64R_small (by show (-1000000000 : Int)≤i; omega) (by show (i : Int)≤1000000000; omega),unlZ_in a b,mixZ_in _ _ _,mixZ_in _ _ _⟩
theorem wf_str26 {one : T→T→E} {a b : T} (ha : a.words.length≤1000) (hb : b.words.length≤1000) (ha2 : a.kids.length≤1000) (hb2 : b.kids.length≤1000) (h : ∀ i,wfE (one (a.kids.getD i T0) (b.kids.getD i T0))) : wfE (strE one a b) := by
  have h1 := wrdL_len a b (max a.words.length b.words.length)
  have h2 := kidL26_len one a b (max a.kids.length b.kids.length)
  unfold strE
  refine wfE_iff.2 ⟨by simp [i64R],by simp [i64R],wf_T026,wf_T026,fun x hx => ?_,by show (wrdL a b _).length * 32≤_; omega,by show (kidL26 one a b _).length * 208≤_; omega,by simp,fun x hx => ?_,by simp⟩
  · have hx' : x ∈ wrdL a b (max a.words.length b.words.length) := hx
    unfold wrdL at hx'
    rw [List.mem_filterMap] at hx'
    obtain ⟨i,hi,e⟩ := hx'
    split at e
    · cases e
    · simp only [Option.some.injEq] at e
      subst e
      have : i < max a.words.length b.words.length := by simpa using hi
      exact wd_wf26 (by omega) _ _
  · obtain ⟨i,hi,e,_⟩ := kidL26_mem (show x ∈ kidL26 one a b _ from hx)
    subst e
    exact ⟨i64R_small (by show (-1000000000 : Int)≤i; omega) (by show (i : Int)≤1000000000; omega),h i⟩
theorem wfO_gop {one : T→T→E} {A B : List T} {N : Nat} (hN : N≤1000000) (lA : A.length≤1000000) (lB : B.length≤1000000) (hA : ∀ t,t ∈ A→wfT t) (hB : ∀ t,t ∈ B→wfT t) (h1 : ∀ x,x ∈ A→∀ y,y ∈ B→wfE (one x y)) {o : OP} (h : GOp one A B N o) : WfO o := by
  cases h with
  | keep n h => exact ⟨by simp [i64R],i64R_small (by show (-1000000000 : Int)≤n; omega) (by show (n : Int)≤1000000000; omega),by simp,by simp,wf_E026⟩
  | del l h g k => exact ⟨by simp [i64R],by simp [i64R],fun t ht => hA t (g t ht),by show l.length * 56≤_; omega,wf_E026⟩
  | ins l h g k => exact ⟨by simp [i64R],by simp [i64R],fun t ht => hB t (g t ht),by show l.length * 56≤_; omega,wf_E026⟩
  | desc x y hx hy => exact ⟨by simp [i64R],by simp [i64R],by simp,by simp,h1 x hx y hy⟩
theorem wf_rep26 {a b : T} (ha : wfT a) (hb : wfT b) : wfE (.mk 1 a b [] [] 0 []) := wfE_iff.2 ⟨by simp [i64R],by simp [i64R],ha,hb,by simp,by simp,by simp,by simp,by simp,by simp⟩
theorem wf_list26 {one : T→T→E} {most : Int} {a b : T} (wfa : wfT a) (ha : a.kids.length≤1000) (hb : b.kids.length≤1000) (wa : ∀ t,t ∈ a.kids→wfT t) (wb : ∀ t,t ∈ b.kids→wfT t) (h : ∀ x,x ∈ a.kids→∀ y,y ∈ b.kids→wfE (one x y)) : wfE (listE one most a b) := by
  have h1 := lstO_len one most a b
  rw [listE_eq]
  exact wfE_iff.2 ⟨by simp [i64R],(wfT_iff.1 wfa).k,wf_T026,wf_T026,by simp,by simp,by simp,by show (lstO one most a b).length * 240≤_; omega,by simp,fun x hx => wfO_gop (by omega) (by omega) (by omega) wa wb h (lstO_mem one most a b x hx)⟩
theorem wf_one26 (most : Int) : ∀ (f g : Nat) (a b : T),okT f a→okT g b→wfE (oneE most f a b)
  | 0,g,a,b,ha,hb => by
    rw [oneE]
    split
    · exact wf_E026
    · exact wf_rep26 (okT_facts ha).1 (okT_facts hb).1
  | f + 1,g,a,b,ha,hb => by
    obtain ⟨a1,a2,a3,a4⟩ := okT_facts ha
    obtain ⟨b1,b2,b3,b4⟩ := okT_facts hb
    rw [oneE]
    split
    · exact wf_E026
    · split
      · exact wf_str26 a3 b3 a4 b4 fun i => wf_one26 most f (g - 1) _ _ (okT_at ha i) (okT_at hb i)
      · split
        · exact wf_list26 a1 a4 b4 (fun t ht => (okT_facts (okT_kids ha t ht)).1) (fun t ht => (okT_facts (okT_kids hb t ht)).1) fun x hx y hy => wf_one26 most f (g - 1) x y (okT_kids ha x hx) (okT_kids hb y hy)
        · exact wf_rep26 a1 b1
theorem wrap_in26 (n : Int) : i64R (IntKind.i64.wrap n) := by
  rw [IntKind.wrap_i64]
  exact ⟨by omega,by omega⟩
theorem wfO_kp {out : List OP} {n : Int} (h : ∀ o,o ∈ out→WfO o) (hn : i64R n) : ∀ o,o ∈ kpO out n→WfO o := by
  unfold kpO
  split
  · rename_i m l e he
    intro o ho
    have hm := List.mem_of_getLast? he
    rcases List.mem_append.1 ho with ho | ho
    · exact h o (List.dropLast_subset _ ho)
    · rw [List.mem_singleton] at ho
      subst ho
      have := h _ hm
      exact ⟨this.k,wrap_in26 _,this.l,this.ll,this.e⟩
  · intro o ho
    rcases List.mem_append.1 ho with ho | ho
    · exact h o ho
    · rw [List.mem_singleton] at ho
      subst ho
      exact ⟨by simp [i64R],hn,by simp,by simp,wf_E026⟩
theorem wfO_fl {out : List OP} {g b : List T} (h : ∀ o,o ∈ out→WfO o) (hg : ∀ t,t ∈ g→wfT t) (hb : ∀ t,t ∈ b→wfT t) (lg : g.length≤1000000) (lb : b.length≤1000000) : ∀ o,o ∈ flO out g b→WfO o := by
  intro o ho
  unfold flO delO insO at ho
  rcases List.mem_append.1 ho with ho | ho
  · exact h o ho
  · rcases List.mem_append.1 ho with ho | ho
    · split at ho
      · simp at ho
      · rw [List.mem_singleton] at ho
        subst ho
        exact ⟨by simp [i64R],by simp [i64R],hg,by show g.length * 56≤_; omega,wf_E026⟩
    · split at ho
      · simp at ho
      · rw [List.mem_singleton] at ho
        subst ho
        exact ⟨by simp [i64R],by simp [i64R],hb,by show b.length * 56≤_; omega,wf_E026⟩
def WfS (o : OP) : Prop := i64R o.n∧(∀ t,t ∈ o.l→wfT t)∧(o.kind = 0∨o.kind = 1∨o.kind = 2∨o.kind = 3)∧(o.kind = 3→wfE o.e)
theorem opsW_wf (list : Int) : ∀ (os out : List OP) (g b : List T),(∀ o,o ∈ os→WfS o)→(∀ o,o ∈ out→WfO o)→(∀ t,t ∈ g→wfT t)→(∀ t,t ∈ b→wfT t)→g.length + b.length + sumO os≤1000000→∀ o,o ∈ opsW list os out g b→WfO o
  | [],out,g,b,h1,h2,h3,h4,h5 => by
    rw [opsW]
    exact wfO_fl h2 h3 h4 (by omega) (by omega)
  | x :: os,out,g,b,h1,h2,h3,h4,h5 => by
    rw [sumO_cons] at h5
    have hx := h1 x (by simp)
    have hos : ∀ o,o ∈ os→WfS o := fun o ho => h1 o (List.mem_cons_of_mem _ ho)
    have fl := wfO_fl h2 h3 h4 (by omega) (by omega)
    have nn : ∀ (l : List T),(∀ t,t ∈ l→wfT t)→∀ t,t ∈ l ++ x.l.map norm→wfT t := fun l hl t ht => by
      rcases List.mem_append.1 ht with ht | ht
      · exact hl t ht
      · obtain ⟨u,hu,rfl⟩ := List.mem_map.1 ht
        exact wf_norm _ (hx.2.1 u hu)
    have z : ∀ t : T,t ∈ ([] : List T)→wfT t := by simp
    rw [opsW]
    split
    · exact opsW_wf list os _ _ _ hos (wfO_kp fl hx.1) z z (by simp; omega)
    · split
      · exact opsW_wf list os _ _ _ hos h2 (nn g h3) h4 (by simp; omega)
      · split
        · exact opsW_wf list os _ _ _ hos h2 h3 (nn b h4) (by simp; omega)
        · split
          · exact opsW_wf list os _ _ _ hos (wfO_kp fl (by simp [i64R])) z z (by simp; omega)
          · refine opsW_wf list os _ _ _ hos (fun o ho => ?_) z z (by simp; omega)
            rcases List.mem_append.1 ho with ho | ho
            · exact fl o ho
            · rw [List.mem_singleton] at ho
              subst ho
              exact ⟨by simp [i64R],by simp [i64R],by simp,by simp,hx.2.2.2 (by have := hx.2.2.1; omega)⟩
theorem kpO_len (out : List OP) (n : Int) : (kpO out n).length≤out.length + 1 := by
  unfold kpO
  split
  · simp
    try omega
  · simp
theorem flO_len (out : List OP) (g b : List T) : (flO out g b).length≤out.length + 2 := by
  unfold flO delO insO
  split <;> split <;> simp
theorem opsW_len (list : Int) : ∀ (os out : List OP) (g b : List T),(opsW list os out g b).length≤out.length + 3 * os.length + 2
  | [],out,g,b => by
    rw [opsW]
    have := flO_len out g b
    simp; omega
  | x :: os,out,g,b => by
    have h1 := flO_len out g b
    have h2 := kpO_len (flO out g b)
    rw [opsW,List.length_cons]
    split
    · have := opsW_len list os (kpO (flO out g b) x.n) [] []
      have := h2 x.n
      omega
    · split
      · have := opsW_len list os out (g ++ x.l.map norm) b
        omega
      · split
        · have := opsW_len list os out g (b ++ x.l.map norm)
          omega
        · split
          · have := opsW_len list os (kpO (flO out g b) 1) [] []
            have := h2 1
            omega
          · have := opsW_len list os (flO out g b ++ [.mk 3 0 [] x.e]) [] []
            simp at this
            omega
theorem sumO_nOP (os : List OP) : sumO (os.map nOP) = sumO os := by
  unfold sumO
  rw [List.map_map]
  rfl
theorem wf_nEd : ∀ e : E,wfE e→nOk e→wfE (nEd e) := by
  refine E.ind fun k o n ws ks l os ihk iho hw h => ?_
  rw [nOk] at h
  obtain ⟨hk,hl,hon,hwl,hkl,hol,hsum,hks,hos⟩ := h
  have w := wfE_iff.1 hw
  rw [nEd_mk]
  split
  · exact wf_rep26 (wf_norm _ w.o) (wf_norm _ w.n)
  · split
    · rename_i h1 h2
      refine wfE_iff.2 ⟨by simp [i64R],by simp [i64R],wf_T026,wf_T026,w.w,w.wl,by show (ks.map nKE).length * 208≤_; simp; omega,by simp,fun x hx => ?_,by simp⟩
      obtain ⟨y,hy,rfl⟩ := List.mem_map.1 (show x ∈ ks.map nKE from hx)
      have := w.ks y hy
      exact ⟨this.1,ihk y hy this.2 (nOkK_all (hks h2) y hy)⟩
    · split
      · rename_i h1 h2 h3
        have hO : ∀ o,o ∈ os.map nOP→WfS o := fun o ho => by
          obtain ⟨y,hy,rfl⟩ := List.mem_map.1 ho
          have g1 := w.os y hy
          obtain ⟨g2,g3,g4⟩ := nOkO_all (hos h3) y hy
          exact ⟨g1.n,g3,g2,fun e => iho y hy g1.e (g4 e)⟩
        have hlen := opsW_len l (os.map nOP) [] [] []
        simp at hlen
        refine wfE_iff.2 ⟨by simp [i64R],w.l,wf_T026,wf_T026,by simp,by simp,by simp,by show (opsW l (os.map nOP) [] [] []).length * 240≤_; omega,by simp,fun x hx => opsW_wf l _ _ _ _ hO (by simp) (by simp) (by simp) (by rw [sumO_nOP]; simpa using hsum) x hx⟩
      · exact wf_E026
theorem wf_df {a b : T} (ha : wfT a) (hb : wfT b) (pa : partsT a≤1000) (pb : partsT b≤1000) {most : Int} : wfE (dfE most a b) := by
  have oa := okT_norm26 a ha pa 1000 pa
  have ob := okT_norm26 b hb pb 1000 pb
  exact wf_nEd _ (wf_one26 most 1000 1000 _ _ oa ob) (nOk_one most 1000 1000 _ _ oa ob)
inductive OkEl (list : Int) : OP→Prop
  | keep (n : Int) : OkEl list (.mk 0 n [] E0)
  | del (l : List T) (h : l ≠ []) (g : l.map norm = l) : OkEl list (.mk 1 0 l E0)
  | ins (l : List T) (h : l ≠ []) (g : l.map norm = l) : OkEl list (.mk 2 0 l E0)
  | desc (e : E) (h : idleE list e = false) (g : nEd e = e) : OkEl list (.mk 3 0 [] e)
def OkNx (s t : Int) : Prop := ¬ (s = 0∧t = 0)∧(t = 1→s ≠ 1∧s ≠ 2)∧(t = 2→s ≠ 2)
def Wr (list : Int) : Int→List OP→Prop
  | _,[] => True
  | s,o :: os => OkEl list o∧OkNx s o.kind∧Wr list o.kind os
def endK : Int→List OP→Int
  | s,[] => s
  | _,o :: os => endK o.kind os
theorem endK_snoc : ∀ (W : List OP) (s : Int) (o : OP),endK s (W ++ [o]) = o.kind
  | [],s,o => rfl
  | x :: W,s,o => endK_snoc W x.kind o
theorem wr_snoc {list : Int} : ∀ {W : List OP} {s : Int} {o : OP},Wr list s W→OkEl list o→OkNx (endK s W) o.kind→Wr list s (W ++ [o])
  | [],s,o,_,h2,h3 => ⟨h2,h3,trivial⟩
  | x :: W,s,o,h1,h2,h3 => ⟨h1.1,h1.2.1,wr_snoc h1.2.2 h2 h3⟩
theorem wr_split {list : Int} : ∀ {W : List OP} {s : Int} {o : OP},Wr list s (W ++ [o])→Wr list s W∧OkEl list o∧OkNx (endK s W) o.kind
  | [],s,o,h => ⟨trivial,h.1,h.2.1⟩
  | x :: W,s,o,h => by
    obtain ⟨h1,h2,h3⟩ := h
    obtain ⟨g1,g2,g3⟩ := wr_split h3
    exact ⟨⟨h1,h2,g1⟩,g2,g3⟩
theorem kp_app {out : List OP} {n : Int} (h : ∀ m l e,out.getLast? ≠ some (.mk 0 m l e)) : kpO out n = out ++ [.mk 0 n [] E0] := by
  unfold kpO
  split
  · rename_i m l e he
    exact absurd he (h m l e)
  · rfl
theorem flO_nil (out : List OP) : flO out [] [] = out := by simp [flO,delO,insO]
theorem flO_del {out : List OP} {l : List T} (h : l ≠ []) : flO out l [] = out ++ [.mk 1 0 l E0] := by simp [flO,delO,insO,h]
theorem flO_ins {out : List OP} (g : List T) {l : List T} (h : l ≠ []) : flO out g l = flO out g [] ++ [.mk 2 0 l E0] := by simp [flO,insO,h]
theorem flO_last {out : List OP} {g b : List T} (h : g ≠ []∨b ≠ []) : ∀ m l e,(flO out g b).getLast? ≠ some (.mk 0 m l e) := by
  intro m l e
  by_cases hb : b = []
  · subst hb
    have hg : g ≠ [] := by rcases h with h | h; exact h; exact absurd rfl h
    rw [flO_del hg]
    simp
  · rw [flO_ins g hb]
    simp
theorem wr_fix {list : Int} : ∀ (W : List OP) (s : Int) (out : List OP) (g b : List T),Wr list s W→(s = 1→g ≠ []∧b = [])→(s = 2→b ≠ [])→(s ≠ 1→s ≠ 2→g = []∧b = [])→(s ≠ 0→s ≠ 1→s ≠ 2→∀ m l e,out.getLast? ≠ some (.mk 0 m l e))→opsW list (W.map nOP) out g b = flO out g b ++ W
  | [],s,out,g,b,_,_,_,_,_ => by simp [opsW]
  | o :: W,s,out,g,b,h,c1,c2,c3,c4 => by
    obtain ⟨h1,h2,h3⟩ := h
    rw [List.map_cons,opsW]
    cases h1 with
    | keep n =>
      have hl : ∀ m l e,(flO out g b).getLast? ≠ some (.mk 0 m l e) := by
        have hs : s ≠ 0 := fun e => h2.1 ⟨e,rfl⟩
        by_cases e1 : s = 1
        · exact flO_last (.inl (c1 e1).1)
        · by_cases e2 : s = 2
          · exact flO_last (.inr (c2 e2))
          · obtain ⟨rfl,rfl⟩ := c3 e1 e2
            rw [flO_nil]
            exact c4 hs e1 e2
      rw [if_pos (show (nOP (.mk 0 n [] E0)).kind = 0 from rfl)]
      show opsW list (W.map nOP) (kpO (flO out g b) n) [] [] = _
      rw [kp_app hl,wr_fix W 0 _ [] [] h3 (fun h => absurd h (by decide)) (fun h => absurd h (by decide)) (fun _ _ => ⟨rfl,rfl⟩) (fun h => absurd rfl h),flO_nil]
      simp
    | del l hne hn =>
      obtain ⟨s1,s2⟩ := h2.2.1 rfl
      obtain ⟨rfl,rfl⟩ := c3 s1 s2
      rw [if_neg (show ¬ (nOP (.mk 1 0 l E0)).kind = 0 by show ¬ (1 : Int) = 0; decide),if_pos (show (nOP (.mk 1 0 l E0)).kind = 1 from rfl)]
      show opsW list (W.map nOP) out ([] ++ l.map norm) [] = _
      rw [List.nil_append,hn,wr_fix W 1 _ l [] h3 (fun _ => ⟨hne,rfl⟩) (fun h => absurd h (by decide)) (fun h => absurd rfl h) (fun _ h => absurd rfl h),flO_del hne,flO_nil]
      simp
    | ins l hne hn =>
      have s2 := h2.2.2 rfl
      have hb : b = [] := by
        by_cases e1 : s = 1
        · exact (c1 e1).2
        · exact (c3 e1 s2).2
      subst hb
      rw [if_neg (show ¬ (nOP (.mk 2 0 l E0)).kind = 0 by show ¬ (2 : Int) = 0; decide),if_neg (show ¬ (nOP (.mk 2 0 l E0)).kind = 1 by show ¬ (2 : Int) = 1; decide),if_pos (show (nOP (.mk 2 0 l E0)).kind = 2 from rfl)]
      show opsW list (W.map nOP) out g ([] ++ l.map norm) = _
      rw [List.nil_append,hn,wr_fix W 2 _ g l h3 (fun h => absurd h (by decide)) (fun _ => hne) (fun _ h => absurd rfl h) (fun _ _ h => absurd rfl h),flO_ins g hne]
      simp
    | desc e hi hn =>
      have hi' : idleE list (nOP (.mk 3 0 [] e)).e = false := by show idleE list (nEd e) = false; rw [hn]; exact hi
      rw [if_neg (show ¬ (nOP (.mk 3 0 [] e)).kind = 0 by show ¬ (3 : Int) = 0; decide),if_neg (show ¬ (nOP (.mk 3 0 [] e)).kind = 1 by show ¬ (3 : Int) = 1; decide),if_neg (show ¬ (nOP (.mk 3 0 [] e)).kind = 2 by show ¬ (3 : Int) = 2; decide),if_neg (by rw [hi']; decide)]
      show opsW list (W.map nOP) (flO out g b ++ [.mk 3 0 [] (nEd e)]) [] [] = _
      rw [hn,wr_fix W 3 _ [] [] h3 (fun h => absurd h (by decide)) (fun h => absurd h (by decide)) (fun _ _ => ⟨rfl,rfl⟩) (fun _ _ _ m l e => by simp),flO_nil]
      simp
theorem wr_fl {list : Int} {out : List OP} {g b : List T} (h : Wr list 4 out) (he : endK 4 out ≠ 1∧endK 4 out ≠ 2) (hg : g.map norm = g) (hb : b.map norm = b) : Wr list 4 (flO out g b) := by
  have h1 : Wr list 4 (flO out g [])∧endK 4 (flO out g []) ≠ 2 := by
    by_cases e : g = []
    · subst e; rw [flO_nil]; exact ⟨h,he.2⟩
    · rw [flO_del e]
      refine ⟨wr_snoc h (.del g e hg) ⟨fun h => absurd h.2 (by show ¬ (1 : Int) = 0; decide),fun _ => he,fun h => absurd h (by show ¬ (1 : Int) = 2; decide)⟩,?_⟩
      rw [endK_snoc]
      show ¬ (1 : Int) = 2
      decide
  by_cases e : b = []
  · subst e; exact h1.1
  · rw [flO_ins g e]
    exact wr_snoc h1.1 (.ins b e hb) ⟨fun h => absurd h.2 (by show ¬ (2 : Int) = 0; decide),fun h => absurd h (by show ¬ (2 : Int) = 1; decide),fun _ => h1.2⟩
theorem wr_kp {list : Int} {F : List OP} (n : Int) (h : Wr list 4 F) : Wr list 4 (kpO F n)∧endK 4 (kpO F n) = 0 := by
  rcases List.eq_nil_or_concat F with rfl | ⟨D,x,rfl⟩
  · exact ⟨⟨.keep n,⟨fun h => absurd h.1 (by decide),fun h => absurd h (by show ¬ (0 : Int) = 1; decide),fun h => absurd h (by show ¬ (0 : Int) = 2; decide)⟩,trivial⟩,rfl⟩
  · rw [List.concat_eq_append] at h ⊢
    obtain ⟨g1,g2,g3⟩ := wr_split h
    cases g2 with
    | keep m =>
      have e : kpO (D ++ [OP.mk 0 m [] E0]) n = D ++ [.mk 0 (IntKind.i64.wrap (m + n)) [] E0] := by
        unfold kpO
        rw [List.getLast?_concat]
        simp
      rw [e]
      exact ⟨wr_snoc g1 (.keep _) g3,endK_snoc _ _ _⟩
    | del l hne hn =>
      rw [kp_app (by simp)]
      refine ⟨wr_snoc h (.keep n) ?_,endK_snoc _ _ _⟩
      rw [endK_snoc]
      exact ⟨fun h => absurd h.1 (by show ¬ (1 : Int) = 0; decide),fun h => absurd h (by show ¬ (0 : Int) = 1; decide),fun h => absurd h (by show ¬ (0 : Int) = 2; decide)⟩
    | ins l hne hn =>
      rw [kp_app (by simp)]
      refine ⟨wr_snoc h (.keep n) ?_,endK_snoc _ _ _⟩
      rw [endK_snoc]
      exact ⟨fun h => absurd h.1 (by show ¬ (2 : Int) = 0; decide),fun h => absurd h (by show ¬ (0 : Int) = 1; decide),fun h => absurd h (by show ¬ (0 : Int) = 2; decide)⟩
    | desc e hi hn =>
      rw [kp_app (by simp)]
      refine ⟨wr_snoc h (.keep n) ?_,endK_snoc _ _ _⟩
      rw [endK_snoc]
      exact ⟨fun h => absurd h.1 (by show ¬ (3 : Int) = 0; decide),fun h => absurd h (by show ¬ (0 : Int) = 1; decide),fun h => absurd h (by show ¬ (0 : Int) = 2; decide)⟩
theorem norm_maps (l : List T) : (l.map norm).map norm = l.map norm := by
  rw [List.map_map]
  exact List.map_congr_left fun x _ => norm_norm x
theorem wr_out {list : Int} : ∀ (os out : List OP) (g b : List T),(∀ o,o ∈ os→o.kind ≠ 0→o.kind ≠ 1→o.kind ≠ 2→nEd o.e = o.e)→Wr list 4 out→(endK 4 out ≠ 1∧endK 4 out ≠ 2)→g.map norm = g→b.map norm = b→Wr list 4 (opsW list os out g b)
  | [],out,g,b,_,h,he,hg,hb => by
    rw [opsW]
    exact wr_fl h he hg hb
  | o :: os,out,g,b,ho,h,he,hg,hb => by
    have ho' : ∀ o,o ∈ os→o.kind ≠ 0→o.kind ≠ 1→o.kind ≠ 2→nEd o.e = o.e := fun x hx => ho x (List.mem_cons_of_mem _ hx)
    have hf := wr_fl h he hg hb
    have k := fun n => wr_kp n hf
    rw [opsW]
    split
    · exact wr_out os _ [] [] ho' (k o.n).1 (by rw [(k o.n).2]; decide) rfl rfl
    · split
      · exact wr_out os _ _ _ ho' h he (by rw [List.map_append,hg,norm_maps]) hb
      · split
        · exact wr_out os _ _ _ ho' h he hg (by rw [List.map_append,hb,norm_maps])
        · split
          · exact wr_out os _ [] [] ho' (k 1).1 (by rw [(k 1).2]; decide) rfl rfl
          · rename_i h0 h1 h2 hi
            have hlast : OkNx (endK 4 (flO out g b)) (OP.mk 3 0 [] o.e).kind := ⟨fun h => absurd h.2 (by show ¬ (3 : Int) = 0; decide),fun h => absurd h (by show ¬ (3 : Int) = 1; decide),fun h => absurd h (by show ¬ (3 : Int) = 2; decide)⟩
            refine wr_out os _ [] [] ho' (wr_snoc hf (.desc o.e (by simpa using hi) (ho o (by simp) h0 h1 h2)) hlast) ?_ rfl rfl
            rw [endK_snoc]
            show (3 : Int) ≠ 1∧(3 : Int) ≠ 2
            decide
theorem nEd_E0 : nEd E0 = E0 := by unfold E0; rw [nEd_mk]; simp
theorem nEd_nEd : ∀ e : E,nOk e→nEd (nEd e) = nEd e := by
  refine E.ind fun k o n ws ks l os ihk iho h => ?_
  rw [nOk] at h
  obtain ⟨hk,hl,hon,hwl,hkl,hol,hsum,hks,hos⟩ := h
  rw [nEd_mk]
  split
  · rw [nEd_mk,if_pos rfl,norm_norm,norm_norm]
  · split
    · rename_i h1 h2
      rw [nEd_mk,if_neg (by decide),if_pos rfl,List.map_map]
      congr 1
      refine List.map_congr_left fun x hx => ?_
      show KE.mk x.at_ (nEd (nEd x.e)) = nKE x
      rw [ihk x hx (nOkK_all (hks h2) x hx)]
      rfl
    · split
      · rename_i h1 h2 h3
        rw [nEd_mk,if_neg (by decide),if_neg (by decide),if_pos rfl]
        have hw := wr_out (list := l) (os.map nOP) [] [] [] (fun x hx e0 e1 e2 => by
          obtain ⟨y,hy,rfl⟩ := List.mem_map.1 hx
          obtain ⟨g1,g2,g3⟩ := nOkO_all (hos h3) y hy
          have : y.kind = 3 := by
            have e0' : y.kind ≠ 0 := e0
            have e1' : y.kind ≠ 1 := e1
            have e2' : y.kind ≠ 2 := e2
            omega
          exact iho y hy (g3 this)) trivial (by show (4 : Int) ≠ 1∧(4 : Int) ≠ 2; decide) rfl rfl
        have := wr_fix _ 4 [] [] [] hw (fun h => absurd h (by decide)) (fun h => absurd h (by decide)) (fun _ _ => ⟨rfl,rfl⟩) (fun _ _ _ m l e => by simp)
        rw [this,flO_nil,List.nil_append]
      · exact nEd_E0
def one26 (l : List T) : Nat := if l = [] then 0 else 1
theorem flO_len' (out : List OP) (g b : List T) : (flO out g b).length = out.length + one26 g + one26 b := by
  unfold flO delO insO one26
  split <;> split <;> simp
theorem one26_le (l : List T) : one26 l≤1 := by unfold one26; split <;> omega
theorem opsW_len2 (list : Int) : ∀ (os out : List OP) (g b : List T),(opsW list os out g b).length≤out.length + os.length + one26 g + one26 b
  | [],out,g,b => by
    rw [opsW,flO_len']
    simp
  | x :: os,out,g,b => by
    have h1 := flO_len' out g b
    have h2 := kpO_len (flO out g b)
    have z : one26 [] = 0 := rfl
    rw [opsW,List.length_cons]
    split
    · have := opsW_len2 list os (kpO (flO out g b) x.n) [] []
      have := h2 x.n
      omega
    · split
      · have := opsW_len2 list os out (g ++ x.l.map norm) b
        have g1 := one26_le (g ++ x.l.map norm)
        have g2 : one26 (g ++ x.l.map norm)≤one26 g + 1 := by omega
        omega
      · split
        · have := opsW_len2 list os out g (b ++ x.l.map norm)
          have g1 := one26_le (b ++ x.l.map norm)
          omega
        · split
          · have := opsW_len2 list os (kpO (flO out g b) 1) [] []
            have := h2 1
            omega
          · have := opsW_len2 list os (flO out g b ++ [.mk 3 0 [] x.e]) [] []
            rw [List.length_append,List.length_singleton] at this
            omega
theorem sumO_kp (out : List OP) (n : Int) : sumO (kpO out n) = sumO out := by
  unfold kpO
  split
  · rename_i m l e he
    rcases List.eq_nil_or_concat out with rfl | ⟨D,x,rfl⟩
    · simp at he
    · rw [List.concat_eq_append] at he ⊢
      rw [List.getLast?_concat] at he
      cases he
      rw [List.dropLast_concat,sumO_app,sumO_app]
      rfl
  · rw [sumO_app]; rfl
theorem sumO_fl (out : List OP) (g b : List T) : sumO (flO out g b) = sumO out + g.length + b.length := by
  unfold flO
  rw [sumO_app,sumO_app,sum_del26,sum_ins26]
  omega
theorem opsW_sum (list : Int) : ∀ (os out : List OP) (g b : List T),sumO (opsW list os out g b)≤sumO out + g.length + b.length + sumO os
  | [],out,g,b => by
    rw [opsW,sumO_fl]
    omega
  | x :: os,out,g,b => by
    rw [opsW,sumO_cons]
    split
    · have := opsW_sum list os (kpO (flO out g b) x.n) [] []
      rw [sumO_kp,sumO_fl] at this
      simp only [List.length_nil] at this
      omega
    · split
      · have := opsW_sum list os out (g ++ x.l.map norm) b
        rw [List.length_append,List.length_map] at this
        omega
      · split
        · have := opsW_sum list os out g (b ++ x.l.map norm)
          rw [List.length_append,List.length_map] at this
          omega
        · split
          · have := opsW_sum list os (kpO (flO out g b) 1) [] []
            rw [sumO_kp,sumO_fl] at this
            simp only [List.length_nil] at this
            omega
          · have := opsW_sum list os (flO out g b ++ [.mk 3 0 [] x.e]) [] []
            rw [sumO_app,sumO_fl,show sumO [OP.mk 3 0 [] x.e] = 0 from rfl] at this
            simp only [List.length_nil] at this
            omega
theorem opsW_all {list : Int} {P : OP→Prop} (hk : ∀ n,P (.mk 0 n [] E0)) (hk' : ∀ m n l e,P (.mk 0 m l e)→P (.mk 0 n l e)) (hd : ∀ l,(∀ t,t ∈ l→wfT t)→P (.mk 1 0 l E0)) (hi : ∀ l,(∀ t,t ∈ l→wfT t)→P (.mk 2 0 l E0)) : ∀ (os out : List OP) (g b : List T),(∀ o,o ∈ os→(∀ t,t ∈ o.l→wfT t)∧(o.kind ≠ 0→o.kind ≠ 1→o.kind ≠ 2→P (.mk 3 0 [] o.e)))→(∀ o,o ∈ out→P o)→(∀ t,t ∈ g→wfT t)→(∀ t,t ∈ b→wfT t)→∀ o,o ∈ opsW list os out g b→P o := by
  have kp : ∀ {out : List OP} (n : Int),(∀ o,o ∈ out→P o)→∀ o,o ∈ kpO out n→P o := fun {out} n h o ho => by
    unfold kpO at ho
    split at ho
    · rename_i m l e he
      rcases List.mem_append.1 ho with ho | ho
      · exact h o (List.dropLast_subset _ ho)
      · rw [List.mem_singleton] at ho
        subst ho
        exact hk' m _ l e (h _ (List.mem_of_getLast? he))
    · rcases List.mem_append.1 ho with ho | ho
      · exact h o ho
      · rw [List.mem_singleton] at ho
        subst ho
        exact hk n
  have fl : ∀ {out : List OP} {g b : List T},(∀ o,o ∈ out→P o)→(∀ t,t ∈ g→wfT t)→(∀ t,t ∈ b→wfT t)→∀ o,o ∈ flO out g b→P o := fun {out g b} h hg hb o ho => by
    unfold flO delO insO at ho
    rcases List.mem_append.1 ho with ho | ho
    · exact h o ho
    · rcases List.mem_append.1 ho with ho | ho
      · split at ho
        · simp at ho
        · rw [List.mem_singleton] at ho; subst ho; exact hd g hg
      · split at ho
        · simp at ho
        · rw [List.mem_singleton] at ho; subst ho; exact hi b hb
  have z : ∀ t : T,t ∈ ([] : List T)→wfT t := by simp
  intro os
  induction os with
  | nil =>
    intro out g b _ ho hg hb
    rw [opsW]
    exact fl ho hg hb
  | cons x os ih =>
    intro out g b hos ho hg hb
    have hos' := fun o (h : o ∈ os) => hos o (List.mem_cons_of_mem _ h)
    have hx := hos x (by simp)
    have nn : ∀ (l : List T),(∀ t,t ∈ l→wfT t)→∀ t,t ∈ l ++ x.l.map norm→wfT t := fun l hl t ht => by
      rcases List.mem_append.1 ht with ht | ht
      · exact hl t ht
      · obtain ⟨u,hu,rfl⟩ := List.mem_map.1 ht
        exact wf_norm _ (hx.1 u hu)
    rw [opsW]
    split
    · exact ih _ _ _ hos' (kp _ (fl ho hg hb)) z z
    · split
      · exact ih _ _ _ hos' ho (nn g hg) hb
      · split
        · exact ih _ _ _ hos' ho hg (nn b hb)
        · split
          · exact ih _ _ _ hos' (kp _ (fl ho hg hb)) z z
          · rename_i h0 h1 h2 _
            refine ih _ _ _ hos' (fun o h => ?_) z z
            rcases List.mem_append.1 h with h | h
            · exact fl ho hg hb o h
            · rw [List.mem_singleton] at h
              subst h
              exact hx.2 h0 h1 h2
theorem nOk_nEd : ∀ e : E,nOk e→nOk (nEd e) := by
  refine E.ind fun k o n ws ks l os ihk iho h => ?_
  rw [nOk] at h
  obtain ⟨hk,hl,hon,hwl,hkl,hol,hsum,hks,hos⟩ := h
  rw [nEd_mk]
  split
  · rename_i h1
    exact nOk_rep (wf_norm _ (hon h1).1) (wf_norm _ (hon h1).2)
  · split
    · rename_i h1 h2
      rw [nOk]
      refine ⟨.inr (.inr (.inl rfl)),fun _ => rfl,fun h => absurd h (by decide),hwl,by simpa using hkl,by simp,by simp [sumO],fun _ => nOkK_of fun x hx => ?_,fun h => absurd h (by decide)⟩
      obtain ⟨y,hy,rfl⟩ := List.mem_map.1 hx
      exact ihk y hy (nOkK_all (hks h2) y hy)
    · split
      · rename_i h1 h2 h3
        have l1 := opsW_len2 l (os.map nOP) [] [] []
        have l2 := opsW_sum l (os.map nOP) [] [] []
        rw [sumO_nOP,show sumO [] = 0 from rfl] at l2
        rw [List.length_map,show one26 [] = 0 from rfl] at l1
        simp only [List.length_nil] at l1 l2
        rw [nOk]
        refine ⟨.inr (.inr (.inr rfl)),fun h => absurd rfl h,fun h => absurd h (by decide),by simp,by simp,by omega,by omega,fun h => absurd h (by decide),fun _ => nOkO_of fun x hx => ?_⟩
        refine opsW_all (P := fun x => (x.kind = 0∨x.kind = 1∨x.kind = 2∨x.kind = 3)∧(∀ t,t ∈ x.l→wfT t)∧(x.kind = 3→nOk x.e)) (fun n => ⟨.inl rfl,fun t (h : t ∈ ([] : List T)) => by simp at h,fun h => absurd h (by show ¬ (0 : Int) = 3; decide)⟩) (fun m n l e h => ⟨.inl rfl,h.2.1,fun h => absurd h (by show ¬ (0 : Int) = 3; decide)⟩) (fun l hl => ⟨.inr (.inl rfl),hl,fun h => absurd h (by show ¬ (1 : Int) = 3; decide)⟩) (fun l hl => ⟨.inr (.inr (.inl rfl)),hl,fun h => absurd h (by show ¬ (2 : Int) = 3; decide)⟩) _ _ _ _ (fun o ho => ?_) (by simp) (by simp) (by simp) x hx
        obtain ⟨y,hy,rfl⟩ := List.mem_map.1 ho
        obtain ⟨g1,g2,g3⟩ := nOkO_all (hos h3) y hy
        refine ⟨g2,fun e0 e1 e2 => ⟨.inr (.inr (.inr rfl)),fun t (h : t ∈ ([] : List T)) => by simp at h,fun _ => ?_⟩⟩
        have : y.kind = 3 := by
          have e0' : y.kind ≠ 0 := e0
          have e1' : y.kind ≠ 1 := e1
          have e2' : y.kind ≠ 2 := e2
          omega
        exact iho y hy (g3 this)
      · exact nOk_E0
theorem df_once {a b : T} (ha : wfT a) (hb : wfT b) (pa : partsT a≤1000) (pb : partsT b≤1000) {most : Int} : nOk (dfE most a b)∧nEd (dfE most a b) = dfE most a b := by
  have h := nOk_one most 1000 1000 _ _ (okT_norm26 a ha pa 1000 pa) (okT_norm26 b hb pb 1000 pb)
  exact ⟨nOk_nEd _ h,nEd_nEd _ h⟩
inductive WOk {α β : Type} (R : α→β→Prop) : List Nat→List α→List β→Prop
  | nil : WOk R [] [] []
  | keep {us : List Nat} {a : List α} {b : List β} (x : α) (y : β) (h : R x y) : WOk R us a b→WOk R (0 :: us) (x :: a) (y :: b)
  | del {us : List Nat} {a : List α} {b : List β} (x : α) : WOk R us a b→WOk R (1 :: us) (x :: a) b
  | ins {us : List Nat} {a : List α} {b : List β} (y : β) : WOk R us a b→WOk R (2 :: us) a (y :: b)
section
variable {α β : Type} {R : α→β→Prop}
theorem wok_app {us vs : List Nat} {a c : List α} {b d : List β} (h : WOk R us a b) (g : WOk R vs c d) : WOk R (us ++ vs) (a ++ c) (b ++ d) := by
  induction h with
  | nil => exact g
  | keep x y h _ ih => exact .keep x y h ih
  | del x _ ih => exact .del x ih
  | ins y _ ih => exact .ins y ih
theorem wok_split : ∀ {us vs : List Nat} {a : List α} {b : List β},WOk R (us ++ vs) a b→∃ a1 a2 b1 b2,a = a1 ++ a2∧b = b1 ++ b2∧WOk R us a1 b1∧WOk R vs a2 b2
  | [],vs,a,b,h => ⟨[],a,[],b,rfl,rfl,.nil,h⟩
  | u :: us,vs,a,b,h => by
    cases h with
    | keep x y r h =>
      obtain ⟨a1,a2,b1,b2,rfl,rfl,h1,h2⟩ := wok_split h
      exact ⟨x :: a1,a2,y :: b1,b2,rfl,rfl,.keep x y r h1,h2⟩
    | del x h =>
      obtain ⟨a1,a2,b1,b2,rfl,rfl,h1,h2⟩ := wok_split h
      exact ⟨x :: a1,a2,b1,b2,rfl,rfl,.del x h1,h2⟩
    | ins y h =>
      obtain ⟨a1,a2,b1,b2,rfl,rfl,h1,h2⟩ := wok_split h
      exact ⟨a1,a2,y :: b1,b2,rfl,rfl,.ins y h1,h2⟩
theorem wok_ins : ∀ (b : List β),WOk R (List.replicate b.length 2) [] b
  | [] => .nil
  | y :: b => .ins y (wok_ins b)
theorem wok_comm : ∀ (i : Nat) {us : List Nat} {a : List α} {b : List β},WOk R (List.replicate i 2 ++ 1 :: us) a b→WOk R (1 :: (List.replicate i 2 ++ us)) a b
  | 0,us,a,b,h => h
  | i + 1,us,a,b,h => by
    cases h with
    | ins y h =>
      cases wok_comm i h with
      | del x h => exact .del x (.ins y h)
theorem wok_ins_inv : ∀ (n : Nat) {a : List α} {b : List β},WOk R (List.replicate n 2) a b→a = []∧b.length = n
  | 0,a,b,h => by cases h; exact ⟨rfl,rfl⟩
  | n + 1,a,b,h => by
    cases h with
    | ins y h =>
      obtain ⟨h1,h2⟩ := wok_ins_inv n h
      exact ⟨h1,by simp [h2]⟩
theorem wok_del_inv : ∀ (n : Nat) {a : List α} {b : List β},WOk R (List.replicate n 1) a b→b = []∧a.length = n
  | 0,a,b,h => by cases h; exact ⟨rfl,rfl⟩
  | n + 1,a,b,h => by
    cases h with
    | del y h =>
      obtain ⟨h1,h2⟩ := wok_del_inv n h
      exact ⟨h1,by simp [h2]⟩
theorem wok_goU : ∀ (us : List Nat) (k d i : Nat) {a : List α} {b : List β},(k = 0∨(d = 0∧i = 0))→WOk R (List.replicate k 0 ++ (List.replicate d 1 ++ (List.replicate i 2 ++ us))) a b→WOk R (unitsS (goU us k d i)) a b
  | [],k,d,i,a,b,hc,h => by
    simp only [goU,units_app,units_fl]
    simpa using h
  | x :: us,k,d,i,a,b,hc,h => by
    rw [goU]
    by_cases h0 : x = 0
    · subst h0
      rw [if_pos rfl]
      simp only [units_app,units_fl]
      have e : List.replicate k 0 ++ (List.replicate d 1 ++ (List.replicate i 2 ++ 0 :: us)) = (List.replicate d 1 ++ List.replicate i 2) ++ (List.replicate (k + 1) 0 ++ us) := by
        rcases hc with rfl | ⟨rfl,rfl⟩
        · simp
        · simp [List.replicate_succ']
      rw [e] at h
      obtain ⟨a1,a2,b1,b2,rfl,rfl,h1,h2⟩ := wok_split h
      rw [← List.append_assoc]
      exact wok_app h1 (wok_goU us (k + 1) 0 0 (.inr ⟨rfl,rfl⟩) (by simpa using h2))
    · rw [if_neg h0]
      simp only [units_app,units_fl]
      obtain ⟨a1,a2,b1,b2,rfl,rfl,h1,h2⟩ := wok_split h
      refine wok_app h1 ?_
      by_cases h3 : x = 1
      · subst h3
        rw [if_pos rfl]
        refine wok_goU us 0 (d + 1) i (.inl rfl) ?_
        obtain ⟨a3,a4,b3,b4,rfl,rfl,h4,h5⟩ := wok_split h2
        have := wok_app h4 (wok_comm i h5)
        have e : List.replicate d 1 ++ (1 :: (List.replicate i 2 ++ us)) = List.replicate (d + 1) 1 ++ (List.replicate i 2 ++ us) := by simp [List.replicate_succ']
        rw [e] at this
        simpa using this
      · rw [if_neg h3]
        obtain ⟨a3,a4,b3,b4,rfl,rfl,h4,h5⟩ := wok_split h2
        obtain ⟨a5,a6,b5,b6,rfl,rfl,h6,h7⟩ := wok_split h5
        clear h h2 h5
        cases h7 with
        | keep x y r w => exact absurd rfl h0
        | del x w => exact absurd rfl h3
        | ins y w =>
          refine wok_goU us 0 d (i + 1) (.inl rfl) ?_
          have := wok_app h4 (wok_app h6 (.ins y w))
          have e : List.replicate d 1 ++ (List.replicate i 2 ++ 2 :: us) = List.replicate d 1 ++ (List.replicate (i + 1) 2 ++ us) := by simp [List.replicate_succ']
          rw [e] at this
          simpa using this
theorem wok_nrm {us : List Nat} {a : List α} {b : List β} (h : WOk R us a b) : WOk R (unitsS (nrmS us)) a b := wok_goU us 0 0 0 (.inl rfl) (by simpa using h)
end
theorem wok_map {α β : Type} {f : α→β} : ∀ {us : List Nat} {a b : List α},WOk (fun x y : β => x = y) us (a.map f) (b.map f)→WOk (fun x y => f x = f y) us a b
  | us,[],[],h => by cases h; exact .nil
  | us,x :: a,[],h => by
    cases h with
    | del x h => exact .del _ (wok_map (b := []) h)
  | us,[],y :: b,h => by
    cases h with
    | ins x h => exact .ins _ (wok_map (a := []) h)
  | us,x :: a,y :: b,h => by
    cases h with
    | keep x y r h => exact .keep _ _ r (wok_map h)
    | del x h => exact .del _ (wok_map (b := y :: b) h)
    | ins x h => exact .ins _ (wok_map (a := x :: a) h)
theorem wok_imp {α β : Type} {R R' : α→β→Prop} {us : List Nat} {a : List α} {b : List β} (h : ∀ x,x ∈ a→∀ y,y ∈ b→R x y→R' x y) (w : WOk R us a b) : WOk R' us a b := by
  induction w with
  | nil => exact .nil
  | keep x y r _ ih => exact .keep x y (h x (by simp) y (by simp) r) (ih fun p hp q hq => h p (List.mem_cons_of_mem _ hp) q (List.mem_cons_of_mem _ hq))
  | del x _ ih => exact .del x (ih fun p hp q hq => h p (List.mem_cons_of_mem _ hp) q hq)
  | ins y _ ih => exact .ins y (ih fun p hp q hq => h p hp q (List.mem_cons_of_mem _ hq))
def cK (us : List Nat) : Nat := us.countP fun x => x == 0
theorem cK_app (a b : List Nat) : cK (a ++ b) = cK a + cK b := List.countP_append
theorem cK_rep (n k : Nat) : cK (List.replicate n k) = if k = 0 then n else 0 := by unfold cK; rw [List.countP_replicate]; by_cases h : k = 0 <;> simp [h]
theorem cK_cons (x : Nat) (us : List Nat) : cK (x :: us) = (if x = 0 then 1 else 0) + cK us := by
  unfold cK
  rw [List.countP_cons]
  by_cases h : x = 0 <;> simp [h]
  omega
theorem fstI_has (x : Int) : ∀ b : List Int,fstI x b < b.length ↔ x ∈ b := by
  intro b
  constructor
  · intro h
    have := fstI_at x h
    rw [← this]
    exact List.getElem_mem h
  · intro h
    apply Classical.byContradiction
    intro hn
    have hle := fstI_le x b
    have he : fstI x b = b.length := by omega
    have := fstI_not x (b := b) (j := b.length) (by omega)
    rw [List.take_of_length_le (Nat.le_refl _)] at this
    exact this h
theorem wok_one (x : Int) (b : List Int) : WOk (fun x y : Int => x = y) (wayU [x] b) [x] b := by
  rw [wayU_one]
  split
  · rename_i h
    have e : b = b.take (fstI x b) ++ (b[fstI x b] :: b.drop (fstI x b + 1)) := by
      conv => lhs; rw [← List.take_append_drop (fstI x b) b]
      rw [List.getElem_cons_drop]
    have h1 := wok_ins (R := fun x y : Int => x = y) (b.take (fstI x b))
    have h2 := wok_ins (R := fun x y : Int => x = y) (b.drop (fstI x b + 1))
    rw [List.length_take,Nat.min_eq_left (by omega)] at h1
    rw [List.length_drop,show b.length - (fstI x b + 1) = b.length - fstI x b - 1 by omega] at h2
    have := wok_app h1 (.keep x b[fstI x b] (fstI_at x h).symm h2)
    rw [← e] at this
    exact this
  · exact .del x (wok_ins b)
theorem cK_one (x : Int) (b : List Int) : cK (wayU [x] b) = lcsL [x] b := by
  rw [wayU_one,lcs_one]
  have := fstI_has x b
  split
  · rename_i h
    rw [if_pos (this.1 h),cK_app,cK_cons,cK_rep,cK_rep]
    simp
  · rename_i h
    rw [if_neg (fun hx => h (this.2 hx)),cK_cons,cK_rep]
    simp
theorem wok_way : ∀ (a b : List Int),WOk (fun x y : Int => x = y) (wayU a b) a b∧cK (wayU a b) = lcsL a b
  | [],b => by
    rw [wayU_nil]
    exact ⟨wok_ins b,by rw [cK_rep]; simp⟩
  | x :: a,b => by
    have hw := way_on (a := x :: a) (b := b) (i := 1) (by simp)
    rw [wayU_half (x :: a) b (h := 1) (by simp)]
    generalize wayN (x :: a) b 1 = w at *
    have e1 : (x :: a).take 1 = [x] := by simp
    have e2 : (x :: a).drop 1 = a := by simp
    rw [e1,e2]
    obtain ⟨g1,g2⟩ := wok_way a (b.drop w)
    constructor
    · have := wok_app (wok_one x (b.take w)) g1
      rw [List.take_append_drop] at this
      exact this
    · rw [cK_app,cK_one,g2]
      have h := hw.1
      unfold onW at h
      have h := of_decide_eq_true h
      unfold cmn at h
      rw [sg_zero,sg_zero,sg_end,sg_end,e1,e2] at h
      exact h
theorem clsK_mem {ks : List T} {n : T} (h : n ∈ ks) : clsK ks n = ks∧ks[clsI ks n]? = some n := by
  have h1 : clsI ks n < ks.length := by
    unfold clsI
    exact List.findIdx_lt_length_of_exists ⟨n,h,sameB_iff.2 rfl⟩
  have e : clsK ks n = ks := by unfold clsK; rw [if_pos h1]
  have := clsK_at ks n
  rw [e] at this
  exact ⟨e,this⟩
theorem clsL_all : ∀ (l K : List T),(∀ t,t ∈ l→norm t ∈ K)→clsL K l = (K,l.map fun t => clsI K (norm t))
  | [],K,_ => rfl
  | t :: l,K,h => by
    rw [clsL,(clsK_mem (h t (by simp))).1,clsL_all l K fun x hx => h x (List.mem_cons_of_mem _ hx)]
    rfl
theorem clsL_mem : ∀ (l ks : List T),∀ t,t ∈ l→norm t ∈ (clsL ks l).1
  | x :: l,ks,t,h => by
    rw [clsL]
    rcases List.mem_cons.1 h with rfl | h
    · have h1 := clsL_prefix l (clsK ks (norm t))
      have h2 := clsK_at ks (norm t)
      exact h1.subset (List.mem_of_getElem? h2)
    · exact clsL_mem l _ t h
theorem clsI_inj {K : List T} {s t : T} (hs : norm s ∈ K) (ht : norm t ∈ K) (h : clsI K (norm s) = clsI K (norm t)) : norm s = norm t := by
  have h1 := (clsK_mem hs).2
  have h2 := (clsK_mem ht).2
  rw [h,h2] at h1
  exact (Option.some.inj h1).symm
noncomputable def kAB (a b : List T) : List T := (clsL (clsL [] a).1 b).1
noncomputable def clZ (a b : List T) (t : T) : Int := (clsI (kAB a b) (norm t) : Nat)
theorem kAB_nodup (a b : List T) : (kAB a b).Nodup := clsL_nodup (clsL_nodup List.nodup_nil)
theorem kAB_a (a b : List T) : ∀ t,t ∈ a→norm t ∈ kAB a b := fun t ht => (clsL_prefix b (clsL [] a).1).subset (clsL_mem a [] t ht)
theorem kAB_b (a b : List T) : ∀ t,t ∈ b→norm t ∈ kAB a b := clsL_mem b _
theorem ca_map (a b : T) : caL a = a.kids.map (clZ a.kids b.kids) := by
  have h1 := clsL_stays (l := a.kids) (ks := []) (ks' := kAB a.kids b.kids) (clsL_prefix b.kids _) (kAB_nodup _ _)
  rw [clsL_all _ _ (kAB_a a.kids b.kids)] at h1
  have h2 : (clsL [] a.kids).2 = a.kids.map fun t => clsI (kAB a.kids b.kids) (norm t) := (Prod.mk.inj h1).2.symm
  unfold caL zsN
  rw [h2,List.map_map]
  rfl
theorem cb_map (a b : T) : cbL a b = b.kids.map (clZ a.kids b.kids) := by
  have h1 := clsL_stays (l := b.kids) (ks := (clsL [] a.kids).1) (ks' := kAB a.kids b.kids) List.prefix_rfl (kAB_nodup _ _)
  rw [clsL_all _ _ (kAB_b a.kids b.kids)] at h1
  have h2 : (clsL (clsL [] a.kids).1 b.kids).2 = b.kids.map fun t => clsI (kAB a.kids b.kids) (norm t) := (Prod.mk.inj h1).2.symm
  unfold cbL zsN
  rw [h2,List.map_map]
  rfl
theorem clZ_eq {a b : List T} {s t : T} (hs : norm s ∈ kAB a b) (ht : norm t ∈ kAB a b) : clZ a b s = clZ a b t ↔ norm s = norm t := by
  constructor
  · intro h
    unfold clZ at h
    exact clsI_inj hs ht (by omega)
  · intro h
    unfold clZ
    rw [h]
theorem wok_kids (a b : T) : WOk (fun x y => norm x = norm y) (unitsS (nrmS (wayU (caL a) (cbL a b)))) a.kids b.kids := by
  have h := (wok_way (caL a) (cbL a b)).1
  have h := wok_nrm h
  rw [ca_map a b,cb_map a b] at h ⊢
  refine wok_imp (fun x hx y hy e => ?_) (wok_map h)
  exact (clZ_eq (kAB_a _ _ x hx) (kAB_b _ _ y hy)).1 e
theorem unlM_same (a : Int) : ∀ k,unlM a a k = 0
  | 0 => rfl
  | k + 1 => by
    unfold unlM
    rw [unlM_same a k]
    simp
theorem unlM_zero {a b : Int} : ∀ k,unlM a b k = 0→∀ i,i < k→byteZ a i = byteZ b i
  | 0,_,i,h => by omega
  | k + 1,h,i,hi => by
    unfold unlM at h
    have h1 : unlM a b k = 0 := by omega
    have h2 : (if byteZ a k ≠ byteZ b k then 2 ^ k else 0) = 0 := by omega
    by_cases e : i = k
    · subst e
      apply Classical.byContradiction
      intro hne
      rw [if_pos hne] at h2
      have := Nat.pow_pos (n := i) (show 0 < 2 by omega)
      omega
    · exact unlM_zero k h1 i (by omega)
theorem unl_zero {a b : Int} (ha : u64R a) (hb : u64R b) : unlZ a b = 0 ↔ a = b := by
  constructor
  · intro h
    have h' : unlM a b 8 = 0 := by unfold unlZ at h; omega
    have g := unlM_zero 8 h'
    have g0 := g 0 (by omega)
    have g1 := g 1 (by omega)
    have g2 := g 2 (by omega)
    have g3 := g 3 (by omega)
    have g4 := g 4 (by omega)
    have g5 := g 5 (by omega)
    have g6 := g 6 (by omega)
    have g7 := g 7 (by omega)
    clear g h h'
    unfold byteZ at g0 g1 g2 g3 g4 g5 g6 g7
    simp only [show (256 : Int) ^ 0 = 1 from rfl,show (256 : Int) ^ 1 = 256 from rfl,show (256 : Int) ^ 2 = 65536 from rfl,show (256 : Int) ^ 3 = 16777216 from rfl,show (256 : Int) ^ 4 = 4294967296 from rfl,show (256 : Int) ^ 5 = 1099511627776 from rfl,show (256 : Int) ^ 6 = 281474976710656 from rfl,show (256 : Int) ^ 7 = 72057594037927936 from rfl] at g0 g1 g2 g3 g4 g5 g6 g7
    unfold u64R at ha hb
    omega
  · rintro rfl
    unfold unlZ
    rw [unlM_same]
    rfl
inductive LdO (R : E→T→T→Prop) : List OP→List T→List T→Prop
  | nil : LdO R [] [] []
  | keep {os : List OP} {a b : List T} (l m : List T) (hne : l ≠ []) (h : l.map norm = m.map norm) (g : LdO R os a b) : LdO R (.mk 0 (l.length : Nat) [] E0 :: os) (l ++ a) (m ++ b)
  | del {os : List OP} {a b : List T} (l m : List T) (hne : l ≠ []) (h : l.map norm = m.map norm) (g : LdO R os a b) : LdO R (.mk 1 0 l E0 :: os) (m ++ a) b
  | ins {os : List OP} {a b : List T} (l m : List T) (hne : l ≠ []) (h : l.map norm = m.map norm) (g : LdO R os a b) : LdO R (.mk 2 0 l E0 :: os) a (m ++ b)
  | desc {os : List OP} {a b : List T} (e : E) (x y : T) (h : R e x y) (g : LdO R os a b) : LdO R (.mk 3 0 [] e :: os) (x :: a) (y :: b)
inductive LdK (R : E→T→T→Prop) (a b : List T) : Nat→List KE→Prop
  | nil (p : Nat) (h : ∀ i,p≤i→norm (a.getD i T0) = norm (b.getD i T0)) : LdK R a b p []
  | cons (p i : Nat) (e : E) (ks : List KE) (hp : p≤i) (h : ∀ j,p≤j→j < i→norm (a.getD j T0) = norm (b.getD j T0)) (hi : i < max a.length b.length) (he : e.kind ≠ 0) (hr : R e (a.getD i T0) (b.getD i T0)) (g : LdK R a b (i + 1) ks) : LdK R a b p (.mk i e :: ks)
inductive LdW (a b : List Int) : Nat→List WE→Prop
  | nil (p : Nat) (h : ∀ i,p≤i→a.getD i 0 = b.getD i 0) : LdW a b p []
  | cons (p i : Nat) (m o n : Int) (ws : List WE) (hp : p≤i) (h : ∀ j,p≤j→j < i→a.getD j 0 = b.getD j 0) (hi : i < max a.length b.length) (hm : 0 < m∧m < 256) (ho : mixZ 0 (a.getD i 0) m = o) (hn : mixZ 0 (b.getD i 0) m = n) (h1 : mixZ (a.getD i 0) n m = b.getD i 0) (h2 : mixZ (b.getD i 0) o m = a.getD i 0) (g : LdW a b (i + 1) ws) : LdW a b p (⟨i,m,o,n⟩ :: ws)
def LdB (e : E) (a b : T) : Prop := (e = E0∧norm a = norm b)∨∃ o n,e = .mk 1 o n [] [] 0 []∧norm o = norm a∧norm n = norm b
def Ld : Nat→E→T→T→Prop
  | 0,e,a,b => LdB e a b
  | f + 1,e,a,b => LdB e a b∨(∃ ws ks,e = .mk 2 T0 T0 ws ks 0 []∧a.kind = 1∧b.kind = 1∧LdW a.words b.words 0 ws∧LdK (Ld f) a.kids b.kids 0 ks)∨(∃ os,e = .mk 3 T0 T0 [] [] a.kind os∧b.kind = a.kind∧(2≤a.kind∧a.kind≤9)∧(a.words = []∧b.words = [])∧LdO (Ld f) os a.kids b.kids)
theorem ld_kind0 {f : Nat} {e : E} {a b : T} (h : Ld f e a b) (hk : e.kind = 0) : e = E0∧norm a = norm b := by
  have base : LdB e a b→e = E0∧norm a = norm b := fun h => by
    rcases h with h | ⟨o,n,rfl,_⟩
    · exact h
    · cases hk
  cases f with
  | zero => exact base h
  | succ f =>
    rcases h with h | ⟨ws,ks,rfl,_⟩ | ⟨os,rfl,_⟩
    · exact base h
    · cases hk
    · cases hk
section
variable {R : E→T→T→Prop}
theorem ldO_app {os ps : List OP} {a b c d : List T} (h : LdO R os a b) (g : LdO R ps c d) : LdO R (os ++ ps) (a ++ c) (b ++ d) := by
  induction h with
  | nil => exact g
  | keep l m hne h _ ih => rw [List.append_assoc,List.append_assoc]; exact .keep l m hne h ih
  | del l m hne h _ ih => rw [List.append_assoc]; exact .del l m hne h ih
  | ins l m hne h _ ih => rw [List.append_assoc]; exact .ins l m hne h ih
  | desc e x y h _ ih => exact .desc e x y h ih
theorem ldO_split : ∀ {os ps : List OP} {a b : List T},LdO R (os ++ ps) a b→∃ a1 a2 b1 b2,a = a1 ++ a2∧b = b1 ++ b2∧LdO R os a1 b1∧LdO R ps a2 b2
  | [],ps,a,b,h => ⟨[],a,[],b,rfl,rfl,.nil,h⟩
  | o :: os,ps,a,b,h => by
    cases h with
    | keep l m hne h g =>
      obtain ⟨a1,a2,b1,b2,rfl,rfl,h1,h2⟩ := ldO_split g
      exact ⟨l ++ a1,a2,m ++ b1,b2,by simp,by simp,.keep l m hne h h1,h2⟩
    | del l m hne h g =>
      obtain ⟨a1,a2,b1,b2,rfl,rfl,h1,h2⟩ := ldO_split g
      exact ⟨m ++ a1,a2,b1,b2,by simp,rfl,.del l m hne h h1,h2⟩
    | ins l m hne h g =>
      obtain ⟨a1,a2,b1,b2,rfl,rfl,h1,h2⟩ := ldO_split g
      exact ⟨a1,a2,m ++ b1,b2,rfl,by simp,.ins l m hne h h1,h2⟩
    | desc e x y h g =>
      obtain ⟨a1,a2,b1,b2,rfl,rfl,h1,h2⟩ := ldO_split g
      exact ⟨x :: a1,a2,y :: b1,b2,rfl,rfl,.desc e x y h h1,h2⟩
theorem ldO_del {l m : List T} (h : l.map norm = m.map norm) : LdO R (delO l) m [] := by
  unfold delO
  split
  · rename_i e
    subst e
    have : m = [] := by simpa using h.symm
    subst this
    exact .nil
  · rename_i e
    have := LdO.del (R := R) l m e h .nil
    rwa [List.append_nil] at this
theorem ldO_ins {l m : List T} (h : l.map norm = m.map norm) : LdO R (insO l) [] m := by
  unfold insO
  split
  · rename_i e
    subst e
    have : m = [] := by simpa using h.symm
    subst this
    exact .nil
  · rename_i e
    have := LdO.ins (R := R) l m e h .nil
    rwa [List.append_nil] at this
end
theorem gapO_out (one : T→T→E) (a b : List T) : ∀ (P : List Sc) (i j : Nat) (out : List OP),gapO one a b P i j out = out ++ gapO one a b P i j []
  | [],i,j,out => by simp [gapO]
  | x :: P,i,j,out => by
    rw [gapO,gapO_out one a b P,gapO,gapO_out one a b P _ _ ([] ++ _ ++ _ ++ _)]
    simp
theorem ldO_gapO {R : E→T→T→Prop} {one : T→T→E} {a b : List T} (hone : ∀ x,x ∈ a→∀ y,y ∈ b→R (one x y) x y) : ∀ (P : List Sc) (i j : Nat),PkOk a.length b.length i j P→LdO R (gapO one a b P i j []) (a.drop i) (b.drop j)
  | [],i,j,_ => by
    rw [gapO,List.nil_append]
    have := ldO_app (ldO_del (R := R) (l := a.drop i) rfl) (ldO_ins (R := R) (l := b.drop j) rfl)
    simpa using this
  | x :: P,i,j,h => by
    obtain ⟨k1,k2,k3,k4,k5⟩ := h
    have ih := ldO_gapO hone P _ _ k5
    rw [gapO,gapO_out]
    have e1 : a.getD x.i T0 = a[x.i] := by simp [k3]
    have e2 : b.getD x.j T0 = b[x.j] := by simp [k4]
    rw [e1,e2]
    have d1 : a.drop i = (a.take x.i).drop i ++ (a[x.i] :: a.drop (x.i + 1)) := by
      rw [List.getElem_cons_drop,← List.drop_append_of_le_length (by simp; omega),List.take_append_drop]
    have d2 : b.drop j = (b.take x.j).drop j ++ (b[x.j] :: b.drop (x.j + 1)) := by
      rw [List.getElem_cons_drop,← List.drop_append_of_le_length (by simp; omega),List.take_append_drop]
    rw [d1,d2]
    have := ldO_app (ldO_del (R := R) (l := (a.take x.i).drop i) rfl) (ldO_app (ldO_ins (R := R) (l := (b.take x.j).drop j) rfl) (.desc _ _ _ (hone _ (List.getElem_mem k3) _ (List.getElem_mem k4)) ih))
    simpa using this
theorem ldO_gap {R : E→T→T→Prop} {one : T→T→E} {a b : List T} (hone : ∀ x,x ∈ a→∀ y,y ∈ b→R (one x y) x y) : LdO R (gapE one a b) a b := by
  have := ldO_gapO hone (pkG (scR a b)) 0 0 (pkG_ok a b)
  simpa [gapE] using this
theorem opsG_out (gap : List T→List T→List OP) : ∀ (S : List Sp) (a b : List T) (out : List OP),opsG gap S a b out = out ++ opsG gap S a b []
  | [],a,b,out => by simp [opsG]
  | [s],a,b,out => by
    rw [opsG,opsG]
    split
    · simp
    · split <;> simp
  | s :: s2 :: ss,a,b,out => by
    rw [opsG,opsG]
    split
    · rw [opsG_out gap (s2 :: ss),opsG_out gap (s2 :: ss) _ _ ([] ++ _)]; simp
    · split
      · rw [opsG_out gap (s2 :: ss),opsG_out gap (s2 :: ss) _ _ ([] ++ _)]; simp
      · split
        · rw [opsG_out gap ss,opsG_out gap ss _ _ ([] ++ _)]; simp
        · rw [opsG_out gap (s2 :: ss),opsG_out gap (s2 :: ss) _ _ ([] ++ _)]; simp
abbrev Nq : T→T→Prop := fun x y => norm x = norm y
theorem wok_keep_inv : ∀ (n : Nat) {a b : List T},WOk Nq (List.replicate n 0) a b→a.length = n∧b.length = n∧a.map norm = b.map norm
  | 0,a,b,h => by cases h; exact ⟨rfl,rfl,rfl⟩
  | n + 1,a,b,h => by
    cases h with
    | keep x y r w =>
      obtain ⟨h1,h2,h3⟩ := wok_keep_inv n w
      exact ⟨by simp [h1],by simp [h2],by simp [h3]; exact r⟩
theorem ldO_ops {R : E→T→T→Prop} {one : T→T→E} {A B : List T} (hone : ∀ x,x ∈ A→∀ y,y ∈ B→R (one x y) x y) : ∀ (S : List Sp) (a b : List T),(∀ s,s ∈ S→s.k≤2∧1≤s.n)→(∀ t,t ∈ a→t ∈ A)→(∀ t,t ∈ b→t ∈ B)→WOk Nq (unitsS S) a b→LdO R (opsG (gapE one) S a b []) a b
  | [],a,b,_,_,_,h => by
    cases h
    rw [opsG]
    exact .nil
  | [s],a,b,hS,hA,hB,h => by
    have hs := hS s (by simp)
    rw [units_cons,units_nil,List.append_nil] at h
    have hk : s.k = 0∨s.k = 1∨s.k = 2 := by omega
    rw [opsG]
    rcases hk with hk | hk | hk
    · rw [if_pos hk]
      rw [hk] at h
      obtain ⟨h1,h2,h3⟩ := wok_keep_inv _ h
      have := LdO.keep (R := R) a b (fun e => by subst e; simp at h1; omega) h3 .nil
      rw [h1] at this
      simpa using this
    · rw [if_neg (by omega),if_neg (by omega)]
      rw [hk] at h
      obtain ⟨rfl,h2⟩ := wok_del_inv _ h
      rw [List.take_of_length_le (by omega)]
      exact ldO_del rfl
    · rw [if_neg (by omega),if_pos hk]
      rw [hk] at h
      obtain ⟨rfl,h2⟩ := wok_ins_inv _ h
      rw [List.take_of_length_le (by omega)]
      exact ldO_ins rfl
  | s :: s2 :: ss,a,b,hS,hA,hB,h => by
    have hs := hS s (by simp)
    have hs2 := hS s2 (by simp)
    have hS1 : ∀ x,x ∈ s2 :: ss→x.k≤2∧1≤x.n := fun x hx => hS x (List.mem_cons_of_mem _ hx)
    have hS2 : ∀ x,x ∈ ss→x.k≤2∧1≤x.n := fun x hx => hS1 x (List.mem_cons_of_mem _ hx)
    rw [units_cons] at h
    obtain ⟨a1,a2,b1,b2,rfl,rfl,h1,h2⟩ := wok_split h
    have hA2 : ∀ t,t ∈ a2→t ∈ A := fun t ht => hA t (List.mem_append_right _ ht)
    have hB2 : ∀ t,t ∈ b2→t ∈ B := fun t ht => hB t (List.mem_append_right _ ht)
    have dr : ∀ {l m : List T} {n : Nat},l.length = n→(l ++ m).drop n = m∧(l ++ m).take n = l := fun h => by subst h; exact ⟨List.drop_left ..,List.take_left ..⟩
    have hk : s.k = 0∨s.k = 1∨s.k = 2 := by omega
    rw [opsG]
    rcases hk with hk | hk | hk
    · rw [if_pos hk,opsG_out]
      rw [hk] at h1
      obtain ⟨g1,g2,g3⟩ := wok_keep_inv _ h1
      rw [(dr g1).1,(dr g2).1]
      have := LdO.keep (R := R) a1 b1 (fun e => by subst e; simp at g1; omega) g3 (ldO_ops hone (s2 :: ss) a2 b2 hS1 hA2 hB2 h2)
      rw [g1] at this
      simpa using this
    · rw [if_neg (by omega),if_neg (by omega)]
      rw [hk] at h1
      obtain ⟨rfl,g2⟩ := wok_del_inv _ h1
      by_cases hk2 : s2.k = 2
      · rw [if_pos hk2]
        rw [units_cons,hk2] at h2
        obtain ⟨a3,a4,b3,b4,rfl,rfl,h3,h4⟩ := wok_split h2
        obtain ⟨rfl,g4⟩ := wok_ins_inv _ h3
        rw [opsG_out,List.nil_append,List.nil_append,List.nil_append,(dr g2).1,(dr g2).2,(dr g4).1,(dr g4).2]
        exact ldO_app (ldO_gap fun x hx y hy => hone x (hA x (by simp [hx])) y (hB y (by simp [hy]))) (ldO_ops hone ss a4 b4 hS2 (fun t ht => hA2 t (by simp [ht])) (fun t ht => hB2 t (by simp [ht])) h4)
      · rw [if_neg hk2,opsG_out,List.nil_append,(dr g2).1,(dr g2).2]
        have := ldO_app (ldO_del (R := R) (l := a1) rfl) (ldO_ops hone (s2 :: ss) a2 b2 hS1 hA2 hB2 h2)
        simpa using this
    · rw [if_neg (by omega),if_pos hk,opsG_out,List.nil_append]
      rw [hk] at h1
      obtain ⟨rfl,g2⟩ := wok_ins_inv _ h1
      rw [(dr g2).1,(dr g2).2]
      have := ldO_app (ldO_ins (R := R) (l := b1) rfl) (ldO_ops hone (s2 :: ss) a2 b2 hS1 hA2 hB2 h2)
      simpa using this
theorem ldO_lst {R : E→T→T→Prop} {one : T→T→E} {most : Int} {a b : T} (hone : ∀ x,x ∈ a.kids→∀ y,y ∈ b.kids→R (one x y) x y) : LdO R (lstO one most a b) a.kids b.kids := by
  unfold lstO
  split
  · exact ldO_ops hone _ _ _ (fun s hs => nrm_k (wayU_in _ _) s hs) (fun t ht => ht) (fun t ht => ht) (wok_kids a b)
  · exact ldO_gap hone
theorem testBit_unl (a b : Int) : ∀ (n i : Nat),i < n→(unlM a b n).testBit i = decide (byteZ a i ≠ byteZ b i)
  | 0,i,h => by omega
  | n + 1,i,h => by
    have hlt := unlM_lt a b n
    unfold unlM
    by_cases e : i = n
    · subst e
      by_cases c : byteZ a i ≠ byteZ b i
      · rw [if_pos c,Nat.add_comm,Nat.testBit_two_pow_add_eq,Nat.testBit_lt_two_pow hlt]
        simp [c]
      · rw [if_neg c,Nat.add_zero,Nat.testBit_lt_two_pow hlt]
        simp at c
        simp [c]
    · have hi : i < n := by omega
      by_cases c : byteZ a n ≠ byteZ b n
      · rw [if_pos c,Nat.add_comm,Nat.testBit_two_pow_add_gt hi]
        exact testBit_unl a b n i hi
      · rw [if_neg c,Nat.add_zero]
        exact testBit_unl a b n i hi
theorem named_unl (a b : Int) {i : Nat} (h : i < 8) : namedZ (unlZ a b) i = decide (byteZ a i ≠ byteZ b i) := by
  rw [← testBit_unl a b 8 i h,Nat.testBit_eq_decide_div_mod_eq]
  unfold namedZ unlZ
  rw [Bool.eq_iff_iff,decide_eq_true_iff,decide_eq_true_iff]
  have : ((unlM a b 8 : Nat) : Int) / 2 ^ i % 2 = ((unlM a b 8 / 2 ^ i % 2 : Nat) : Int) := by
    rw [Int.natCast_emod,Int.natCast_ediv,Int.natCast_pow]
    rfl
  rw [this]
  omega
theorem ofZ_bytes {b : Int} (h : u64R b) : ofZ (bytesZ b) = b := by
  unfold u64R at h
  simp only [bytesZ,bytesN,ofZ]
  omega
theorem bytesN_ofZ : ∀ (l : List Int),(∀ b,b ∈ l→0≤b∧b < 256)→bytesN l.length (ofZ l) = l
  | [],_ => rfl
  | x :: l,h => by
    have hx := h x (by simp)
    have ih := bytesN_ofZ l fun b hb => h b (List.mem_cons_of_mem _ hb)
    simp only [List.length_cons,bytesN,ofZ]
    have e1 : (x + 256 * ofZ l) % 256 = x := by omega
    have e2 : (x + 256 * ofZ l) / 256 = ofZ l := by omega
    rw [e1,e2,ih]
theorem mixL_get {xs ys : List Int} {m : Int} {i : Nat} (hx : xs.length = 8) (h : i < 8) : (mixL xs ys m 8).getD i 0 = if namedZ m i = true then ys.getD i 0 else xs.getD i 0 := by
  unfold mixL
  have e : xs.drop 8 = [] := List.drop_eq_nil_of_le (by omega)
  rw [e,List.append_nil,List.getD_eq_getElem?_getD,List.getElem?_map,List.getElem?_range h]
  rfl
theorem bytes_getD (x : Int) {i : Nat} (h : i < 8) : (bytesZ x).getD i 0 = byteZ x i := by
  rw [List.getD_eq_getElem?_getD]
  unfold bytesZ
  rw [bytN_get26 8 x i h]
  rfl
theorem bytes_mix (a b m : Int) : bytesZ (mixZ a b m) = mixL (bytesZ a) (bytesZ b) m 8 := by
  have hl : (mixL (bytesZ a) (bytesZ b) m 8).length = 8 := by rw [mixL_length (by rw [bytesZ_length]; omega),bytesZ_length]
  have := bytesN_ofZ (mixL (bytesZ a) (bytesZ b) m 8) mixL_range
  rw [hl] at this
  exact this
theorem mix_unl {a b : Int} (hb : u64R b) : mixZ a (mixZ 0 b (unlZ a b)) (unlZ a b) = b := by
  have e : mixL (bytesZ a) (bytesZ (mixZ 0 b (unlZ a b))) (unlZ a b) 8 = bytesZ b := by
    have hl : (mixL (bytesZ a) (bytesZ (mixZ 0 b (unlZ a b))) (unlZ a b) 8).length = 8 := by rw [mixL_length (by rw [bytesZ_length]; omega),bytesZ_length]
    refine List.ext_getElem (by rw [hl,bytesZ_length]) fun i h1 h2 => ?_
    have hi : i < 8 := by rw [hl] at h1; exact h1
    have g1 := mixL_get (xs := bytesZ a) (ys := bytesZ (mixZ 0 b (unlZ a b))) (m := unlZ a b) (bytesZ_length a) hi
    rw [bytes_mix 0 b,mixL_get (bytesZ_length 0) hi,bytes_getD b hi,bytes_getD a hi,named_unl a b hi] at g1
    have g2 := bytes_getD b hi
    have k1 : ∀ (l : List Int) (h : i < l.length),l.getD i 0 = l[i] := fun l h => by simp [h]
    rw [k1 _ (by rw [mixL_length (by rw [bytesZ_length]; omega),bytesZ_length]; exact hi)] at g1
    rw [k1 _ h2] at g2
    rw [g2]
    have g3 : (mixL (bytesZ a) (bytesZ (mixZ 0 b (unlZ a b))) (unlZ a b) 8)[i] = if decide (byteZ a i ≠ byteZ b i) = true then (if decide (byteZ a i ≠ byteZ b i) = true then byteZ b i else byteZ 0 i) else byteZ a i := by
      rw [← bytes_getD 0 hi,← g1]
      congr 1
      rw [bytes_mix 0 b]
    refine g3.trans ?_
    by_cases c : byteZ a i = byteZ b i
    · simp [c]
    · simp [c]
  have : mixZ a (mixZ 0 b (unlZ a b)) (unlZ a b) = ofZ (bytesZ b) := by
    unfold mixZ at e ⊢
    rw [e]
  rw [this,ofZ_bytes hb]
theorem unlM_comm (a b : Int) : ∀ k,unlM a b k = unlM b a k
  | 0 => rfl
  | k + 1 => by
    unfold unlM
    rw [unlM_comm a b k]
    by_cases c : byteZ a k = byteZ b k
    · simp [c]
    · simp [c,Ne.symm c]
theorem unlZ_comm (a b : Int) : unlZ a b = unlZ b a := by unfold unlZ; rw [unlM_comm]
theorem ldW_skip {a b : List Int} {p : Nat} {ws : List WE} (h : LdW a b (p + 1) ws) (e : a.getD p 0 = b.getD p 0) : LdW a b p ws := by
  cases h with
  | nil _ h =>
    refine .nil p fun i hi => ?_
    by_cases hp : i = p
    · subst hp; exact e
    · exact h i (by omega)
  | cons _ i m o n ws hp h hi hm ho hn h1 h2 g =>
    refine .cons p i m o n ws (by omega) (fun j h3 h4 => ?_) hi hm ho hn h1 h2 g
    by_cases hp : j = p
    · subst hp; exact e
    · exact h j (by omega) h4
theorem ldK_skip {R : E→T→T→Prop} {a b : List T} {p : Nat} {ks : List KE} (h : LdK R a b (p + 1) ks) (e : norm (a.getD p T0) = norm (b.getD p T0)) : LdK R a b p ks := by
  cases h with
  | nil _ h =>
    refine .nil p fun i hi => ?_
    by_cases hp : i = p
    · subst hp; exact e
    · exact h i (by omega)
  | cons _ i x ks hp h hi he hr g =>
    refine .cons p i x ks (by omega) (fun j h3 h4 => ?_) hi he hr g
    by_cases hp : j = p
    · subst hp; exact e
    · exact h j (by omega) h4
theorem u64_getD {l : List Int} (h : ∀ x,x ∈ l→u64R x) (i : Nat) : u64R (l.getD i 0) := by
  rw [List.getD_eq_getElem?_getD]
  cases e : l[i]? with
  | none => exact ⟨by simp,by simp⟩
  | some z => exact h z (List.mem_of_getElem? e)
theorem ldW_wrd {a b : T} (ha : ∀ x,x ∈ a.words→u64R x) (hb : ∀ x,x ∈ b.words→u64R x) : ∀ (n p : Nat),p + n = max a.words.length b.words.length→LdW a.words b.words p ((List.range' p n).filterMap fun i => if unlZ (a.words.getD i 0) (b.words.getD i 0) = 0 then none else some (wdE i (a.words.getD i 0) (b.words.getD i 0)))
  | 0,p,h => by
    refine .nil p fun i hi => ?_
    rw [List.getD_eq_getElem?_getD,List.getD_eq_getElem?_getD,List.getElem?_eq_none (by omega),List.getElem?_eq_none (by omega)]
  | n + 1,p,h => by
    have ih := ldW_wrd ha hb n (p + 1) (by omega)
    have ua := u64_getD ha p
    have ub := u64_getD hb p
    have ui := unlZ_in (a.words.getD p 0) (b.words.getD p 0)
    rw [List.range'_succ,List.filterMap_cons]
    by_cases c : unlZ (a.words.getD p 0) (b.words.getD p 0) = 0
    · rw [if_pos c]
      exact ldW_skip ih ((unl_zero ua ub).1 c)
    · rw [if_neg c]
      exact .cons p p _ _ _ _ (Nat.le_refl _) (fun j h1 h2 => by omega) (by omega) ⟨by omega,ui.2⟩ rfl rfl (mix_unl ub) (by rw [unlZ_comm]; exact mix_unl ua) ih
theorem ldK_kid {f : Nat} {one : T→T→E} {a b : T} (hone : ∀ i,Ld f (one (a.kids.getD i T0) (b.kids.getD i T0)) (a.kids.getD i T0) (b.kids.getD i T0)) : ∀ (n p : Nat),p + n = max a.kids.length b.kids.length→LdK (Ld f) a.kids b.kids p ((List.range' p n).filterMap fun i => if (one (a.kids.getD i T0) (b.kids.getD i T0)).kind = 0 then none else some (.mk i (one (a.kids.getD i T0) (b.kids.getD i T0))))
  | 0,p,h => by
    refine .nil p fun i hi => ?_
    rw [List.getD_eq_getElem?_getD,List.getD_eq_getElem?_getD,List.getElem?_eq_none (by omega),List.getElem?_eq_none (by omega)]
  | n + 1,p,h => by
    have ih := ldK_kid hone n (p + 1) (by omega)
    rw [List.range'_succ,List.filterMap_cons]
    by_cases c : (one (a.kids.getD p T0) (b.kids.getD p T0)).kind = 0
    · rw [if_pos c]
      exact ldK_skip ih (ld_kind0 (hone p) c).2
    · rw [if_neg c]
      exact .cons p p _ _ (Nat.le_refl _) (fun j h1 h2 => by omega) (by omega) c (hone p) ih
def NW : Nat→T→Prop
  | 0,_ => True
  | f + 1,t => (2≤t.kind→t.kind≤9→t.words = [])∧∀ k,k ∈ t.kids→NW f k
theorem nW_T0 : ∀ f,NW f T0
  | 0 => trivial
  | f + 1 => ⟨fun _ _ => rfl,fun k hk => by simp at hk⟩
theorem nW_at {f : Nat} {t : T} (h : NW (f + 1) t) (i : Nat) : NW f (t.kids.getD i T0) := by
  rw [List.getD_eq_getElem?_getD]
  cases e : t.kids[i]? with
  | none => exact nW_T0 f
  | some z => exact h.2 z (List.mem_of_getElem? e)
theorem nW_right : ∀ (f d : Nat) (t : T),rightT d t = true→NW f t
  | 0,d,t,_ => trivial
  | f + 1,d,t,h => by
    obtain ⟨k,w,l⟩ := t
    refine ⟨fun h2 h9 => ?_,fun x hx => nW_right f (d - 1) x (rightT_struct h x hx).1⟩
    have h2 : 2≤k := h2
    have h9 : k≤9 := h9
    rw [rightT_mk,if_neg (by omega),if_neg (by omega)] at h
    split at h
    · cases h
    · rename_i hb
      unfold tooBig at hb
      simp at hb
      exact hb.2 (by omega)
theorem ld_one (most : Int) : ∀ (f g : Nat) (a b : T),okT f a→okT g b→NW f a→NW f b→Ld f (oneE most f a b) a b
  | 0,g,a,b,ha,hb,na,nb => by
    rw [oneE]
    split
    · rename_i h; exact .inl ⟨rfl,eqT_iff.1 h⟩
    · exact .inr ⟨a,b,rfl,rfl,rfl⟩
  | f + 1,g,a,b,ha,hb,na,nb => by
    obtain ⟨a1,a2,a3,a4⟩ := okT_facts ha
    obtain ⟨b1,b2,b3,b4⟩ := okT_facts hb
    rw [oneE]
    split
    · rename_i h; exact .inl (.inl ⟨rfl,eqT_iff.1 h⟩)
    · split
      · rename_i h
        refine .inr (.inl ⟨_,_,rfl,h.1,h.2,?_,?_⟩)
        · have := ldW_wrd (a := a) (b := b) (wfT_iff.1 a1).w (wfT_iff.1 b1).w (max a.words.length b.words.length) 0 (by omega)
          rw [← List.range_eq_range'] at this
          exact this
        · have := ldK_kid (a := a) (b := b) (fun i => ld_one most f (g - 1) _ _ (okT_at ha i) (okT_at hb i) (nW_at na i) (nW_at nb i)) (max a.kids.length b.kids.length) 0 (by omega)
          rw [← List.range_eq_range'] at this
          exact this
      · split
        · rename_i h
          rw [listE_eq]
          exact .inr (.inr ⟨_,rfl,h.1.symm,h.2,⟨na.1 h.2.1 h.2.2,nb.1 (by omega) (by omega)⟩,ldO_lst fun x hx y hy => ld_one most f (g - 1) x y (okT_kids ha x hx) (okT_kids hb y hy) (na.2 x hx) (nb.2 y hy)⟩)
        · exact .inl (.inr ⟨a,b,rfl,rfl,rfl⟩)
theorem ld_idle {f : Nat} {e : E} {x y : T} {l : Int} (h : Ld f e x y) (hi : idleE l e = true) : norm x = norm y := by
  have base : LdB e x y→norm x = norm y := fun h => by
    rcases h with h | ⟨o,n,rfl,_⟩
    · exact h.2
    · unfold idleE at hi
      simp at hi
  cases f with
  | zero => exact base h
  | succ f =>
    rcases h with h | ⟨ws,ks,rfl,h1,h2,h3,h4⟩ | ⟨os,rfl,_⟩
    · exact base h
    · unfold idleE at hi
      simp at hi
      obtain ⟨⟨_,rfl⟩,rfl⟩ := hi
      cases h3 with
      | nil _ g3 =>
        cases h4 with
        | nil _ g4 =>
          obtain ⟨k,w,c⟩ := x
          obtain ⟨k',w',c'⟩ := y
          simp only [T.kind_mk] at h1 h2
          subst h1
          subst h2
          exact struct_eq.2 ⟨fun i => g3 i (by omega),fun i => g4 i (by omega)⟩
    · unfold idleE at hi
      simp at hi
section
variable {R : E→T→T→Prop}
theorem ldO_fl {out : List OP} {a b a2 b2 g d : List T} (h : LdO R out a b) (hg : g.map norm = a2.map norm) (hd : d.map norm = b2.map norm) : LdO R (flO out g d) (a ++ a2) (b ++ b2) := by
  unfold flO
  have := ldO_app h (ldO_app (ldO_del (R := R) hg) (ldO_ins hd))
  simpa using this
theorem ldO_kp {out : List OP} {a b l m : List T} (h : LdO R out a b) (hne : l ≠ []) (hl : l.map norm = m.map norm) (hb : a.length + l.length≤1000000000) : LdO R (kpO out (l.length : Nat)) (a ++ l) (b ++ m) := by
  rcases List.eq_nil_or_concat out with rfl | ⟨D,x,rfl⟩
  · cases h
    have := LdO.keep (R := R) l m hne hl .nil
    rw [kp_app (by simp)]
    simpa using this
  · rw [List.concat_eq_append] at h ⊢
    have app : (∀ m l e,x ≠ .mk 0 m l e)→LdO R (kpO (D ++ [x]) (l.length : Nat)) (a ++ l) (b ++ m) := fun hx => by
      rw [kp_app (by simpa using hx)]
      have := ldO_app h (LdO.keep (R := R) l m hne hl .nil)
      simpa using this
    obtain ⟨a1,a2,b1,b2,rfl,rfl,h1,h2⟩ := ldO_split h
    cases h2 with
    | keep l1 m1 hne1 hl1 g =>
      cases g
      have e : kpO (D ++ [OP.mk 0 ((l1.length : Nat) : Int) [] E0]) (l.length : Nat) = D ++ [.mk 0 (((l1 ++ l).length : Nat) : Int) [] E0] := by
        unfold kpO
        rw [List.getLast?_concat]
        simp only [List.dropLast_concat]
        have : IntKind.i64.wrap (((l1.length : Nat) : Int) + (l.length : Nat)) = (((l1 ++ l).length : Nat) : Int) := by
          simp only [List.length_append] at hb ⊢
          rw [i64_same (by omega) (by omega)]
          omega
        rw [this]
      rw [e]
      have := ldO_app h1 (LdO.keep (R := R) (l1 ++ l) (m1 ++ m) (by simp [hne1]) (by simp [hl1,hl]) .nil)
      simpa using this
    | del l1 m1 hne1 hl1 g => exact app (by simp)
    | ins l1 m1 hne1 hl1 g => exact app (by simp)
    | desc e x y r g => exact app (by simp)
end
theorem ldO_W {f : Nat} {list : Int} {P : T→Prop} (hR : ∀ e x y,P x→Ld f e x y→Ld f (nEd e) x y) {os : List OP} {a3 b3 : List T} (h : LdO (Ld f) os a3 b3) : (∀ t,t ∈ a3→P t)→∀ (out : List OP) (g d a1 b1 a2 b2 : List T),LdO (Ld f) out a1 b1→g.map norm = a2.map norm→d.map norm = b2.map norm→a1.length + a2.length + a3.length≤1000000000→LdO (Ld f) (opsW list (os.map nOP) out g d) (a1 ++ (a2 ++ a3)) (b1 ++ (b2 ++ b3)) := by
  induction h with
  | nil =>
    intro hP out g d a1 b1 a2 b2 h1 hg hd hb
    rw [List.map_nil,opsW]
    simpa using ldO_fl h1 hg hd
  | keep l m hne hl _ ih =>
    intro hP out g d a1 b1 a2 b2 h1 hg hd hb
    rw [List.length_append] at hb
    rw [List.map_cons,opsW,if_pos (show (nOP (.mk 0 ((l.length : Nat) : Int) [] E0)).kind = 0 from rfl)]
    have := ih (fun t ht => hP t (List.mem_append_right _ ht)) (kpO (flO out g d) ((l.length : Nat) : Int)) [] [] _ _ [] [] (ldO_kp (ldO_fl h1 hg hd) hne hl (by rw [List.length_append]; omega)) rfl rfl (by simp only [List.length_append,List.length_nil]; omega)
    simp at this ⊢
    exact this
  | del l m hne hl _ ih =>
    intro hP out g d a1 b1 a2 b2 h1 hg hd hb
    rw [List.length_append] at hb
    rw [List.map_cons,opsW,if_neg (show ¬ (nOP (.mk 1 0 l E0)).kind = 0 by show ¬ (1 : Int) = 0; decide),if_pos (show (nOP (.mk 1 0 l E0)).kind = 1 from rfl)]
    have := ih (fun t ht => hP t (List.mem_append_right _ ht)) out (g ++ l.map norm) d a1 b1 (a2 ++ m) b2 h1 (by rw [List.map_append,List.map_append,norm_maps,hg,hl]) hd (by rw [List.length_append]; omega)
    simp at this ⊢
    exact this
  | ins l m hne hl _ ih =>
    intro hP out g d a1 b1 a2 b2 h1 hg hd hb
    rw [List.map_cons,opsW,if_neg (show ¬ (nOP (.mk 2 0 l E0)).kind = 0 by show ¬ (2 : Int) = 0; decide),if_neg (show ¬ (nOP (.mk 2 0 l E0)).kind = 1 by show ¬ (2 : Int) = 1; decide),if_pos (show (nOP (.mk 2 0 l E0)).kind = 2 from rfl)]
    have := ih hP out g (d ++ l.map norm) a1 b1 a2 (b2 ++ m) h1 hg (by rw [List.map_append,List.map_append,norm_maps,hd,hl]) (by omega)
    simp at this ⊢
    exact this
  | desc e x y r _ ih =>
    intro hP out g d a1 b1 a2 b2 h1 hg hd hb
    rw [List.length_cons] at hb
    rw [List.map_cons,opsW,if_neg (show ¬ (nOP (.mk 3 0 [] e)).kind = 0 by show ¬ (3 : Int) = 0; decide),if_neg (show ¬ (nOP (.mk 3 0 [] e)).kind = 1 by show ¬ (3 : Int) = 1; decide),if_neg (show ¬ (nOP (.mk 3 0 [] e)).kind = 2 by show ¬ (3 : Int) = 2; decide)]
    have r' := hR e x y (hP x (by simp)) r
    split
    · rename_i hi
      have hn := ld_idle r' (show idleE list (nEd e) = true from hi)
      have := ih (fun t ht => hP t (List.mem_cons_of_mem _ ht)) (kpO (flO out g d) (([x] : List T).length : Nat)) [] [] _ _ [] [] (ldO_kp (l := [x]) (m := [y]) (ldO_fl h1 hg hd) (by simp) (by simp [hn]) (by rw [List.length_append]; simp; omega)) rfl rfl (by simp only [List.length_append,List.length_nil,List.length_cons]; omega)
      simp at this ⊢
      exact this
    · have := ih (fun t ht => hP t (List.mem_cons_of_mem _ ht)) (flO out g d ++ [.mk 3 0 [] (nEd e)]) [] [] _ _ [] [] (ldO_app (ldO_fl h1 hg hd) (.desc (nEd e) x y r' .nil)) rfl rfl (by simp only [List.length_append,List.length_nil,List.length_cons]; omega)
      simp at this ⊢
      exact this
def FewK : Nat→T→Prop
  | 0,_ => True
  | f + 1,t => t.kids.length≤1000000∧∀ k,k ∈ t.kids→FewK f k
theorem fewK_T0 : ∀ f,FewK f T0
  | 0 => trivial
  | f + 1 => ⟨by simp,fun k hk => by simp at hk⟩
theorem fewK_at {f : Nat} {t : T} (h : FewK (f + 1) t) (i : Nat) : FewK f (t.kids.getD i T0) := by
  rw [List.getD_eq_getElem?_getD]
  cases e : t.kids[i]? with
  | none => exact fewK_T0 f
  | some z => exact h.2 z (List.mem_of_getElem? e)
theorem fewK_parts : ∀ (f : Nat) (t : T),partsT t≤1000→FewK f t
  | 0,t,_ => trivial
  | f + 1,t,h => by
    obtain ⟨k,w,l⟩ := t
    rw [partsT_mk] at h
    have hl := partsL_pos l
    exact ⟨by show l.length≤1000000; omega,fun x hx => fewK_parts f x (by have := partsL_mem (show x ∈ l from hx); omega)⟩
theorem nEd_kind {f : Nat} {e : E} {a b : T} (h : Ld f e a b) : (nEd e).kind = e.kind := by
  have base : LdB e a b→(nEd e).kind = e.kind := fun h => by
    rcases h with ⟨rfl,_⟩ | ⟨o,n,rfl,_⟩
    · rw [nEd_E0]
    · rw [nEd_mk,if_pos rfl]; rfl
  cases f with
  | zero => exact base h
  | succ f =>
    rcases h with h | ⟨ws,ks,rfl,_⟩ | ⟨os,rfl,_⟩
    · exact base h
    · rw [nEd_mk,if_neg (by decide),if_pos rfl]; rfl
    · rw [nEd_mk,if_neg (by decide),if_neg (by decide),if_pos rfl]; rfl
theorem ldK_map {R R' : E→T→T→Prop} {a b : List T} (hR : ∀ e i,R e (a.getD i T0) (b.getD i T0)→R' (nEd e) (a.getD i T0) (b.getD i T0)∧(nEd e).kind = e.kind) : ∀ {ks : List KE} {p : Nat},LdK R a b p ks→LdK R' a b p (ks.map nKE) := by
  intro ks p h
  induction h with
  | nil p h => exact .nil p h
  | cons p i e ks hp h hi he hr _ ih =>
    have := hR e i hr
    exact .cons p i (nEd e) _ hp h hi (by rw [this.2]; exact he) this.1 ih
theorem ld_nEd : ∀ (f : Nat) (e : E) (a b : T),FewK f a→Ld f e a b→Ld f (nEd e) a b := by
  have base : ∀ {e a b},LdB e a b→LdB (nEd e) a b := fun {e a b} h => by
    rcases h with ⟨rfl,h⟩ | ⟨o,n,rfl,h1,h2⟩
    · rw [nEd_E0]; exact .inl ⟨rfl,h⟩
    · rw [nEd_mk,if_pos rfl]
      exact .inr ⟨norm o,norm n,rfl,by rw [norm_norm]; exact h1,by rw [norm_norm]; exact h2⟩
  intro f
  induction f with
  | zero => exact fun e a b _ h => base h
  | succ f ih =>
    intro e a b hF h
    rcases h with h | ⟨ws,ks,rfl,h1,h2,h3,h4⟩ | ⟨os,rfl,h1,h2,hw,h3⟩
    · exact .inl (base h)
    · rw [nEd_mk,if_neg (by decide),if_pos rfl]
      exact .inr (.inl ⟨ws,ks.map nKE,rfl,h1,h2,h3,ldK_map (fun e i r => ⟨ih e _ _ (fewK_at hF i) r,nEd_kind r⟩) h4⟩)
    · rw [nEd_mk,if_neg (by decide),if_neg (by decide),if_pos rfl]
      refine .inr (.inr ⟨_,rfl,h1,h2,hw,?_⟩)
      have := ldO_W (list := a.kind) (P := FewK f) (fun e x y hx r => ih e x y hx r) h3 hF.2 [] [] [] [] [] [] [] .nil rfl rfl (by have := hF.1; simp; omega)
      simpa using this
theorem ld_df {a b : T} (ha : wfT a) (hb : wfT b) (pa : partsT a≤1000) (pb : partsT b≤1000) {da db : Nat} (ra : rightT da a = true) (rb : rightT db b = true) {most : Int} : Ld 1000 (dfE most a b) (norm a) (norm b) := by
  have oa := okT_norm26 a ha pa 1000 pa
  have ob := okT_norm26 b hb pb 1000 pb
  refine ld_nEd 1000 _ _ _ ?_ (ld_one most 1000 1000 _ _ oa ob (nW_right 1000 da _ (right_norm a da ra)) (nW_right 1000 db _ (right_norm b db rb)))
  have key : ∀ (f g : Nat) (t : T),okT g t→FewK f t := fun f => by
    induction f with
    | zero => exact fun g t _ => trivial
    | succ f ih => exact fun g t h => ⟨by have := (okT_facts h).2.2.2; omega,fun k hk => ih (g - 1) k (okT_kids h k hk)⟩
  exact key 1000 1000 _ oa
end Go.Proofs.YtmeldaflhkiopaaGreat
namespace Go.Proofs.YtmeldaflhkiopaaGreat
set_option linter.unusedVariables false
set_option linter.unusedSimpArgs false
set_option maxRecDepth 20000
open Go Go.G Go.Proofs
def c_slices_Clone_api_Tree_api_Tree : CC := sR [oO 2 (.assign nS)] [0] (.seq (sR [mO 3 0,oO 4 (.binOp .eql 23 (xT 3) nS 23)] [0,4] (cD 4 (sR [oO 2 (.assign nS)] [2] (.ret)) (.skip))) (.keep [0] (sR [oO 5 (.buildSlice 23 0 #[]),mO 6 0,oN 7 (bC .append #[(xT 5),(xT 6)] #[23,23]) [0],aO 2 7] [2] (.ret))))
theorem t_slices_Clone_api_Tree_api_Tree : Txt Tryz.prog 80 8 [(.tmp 2)] c_slices_Clone_api_Tree_api_Tree := txt_of (code := Tryz.f80.body.getD .ret) mixed (by kernel_rfl) Tryz.func80 (by kernel_rfl) Tryz.ntmps80 (by kernel_rfl) (ls := lsOf c_slices_Clone_api_Tree_api_Tree) (by kernel_rfl)
def l1_slices_EqualFunc_api_Tree_api_Tree_api_Tree_api_Tree : CC := sR [oO 18 (bO .lss 3 17 16 3)] [1,2,15,16,17,18] (.seq (cD 18 (.skip) (.exit 0)) (.keep [1,2,15,16,17] (.seq (.block 1 (sR [mO 19 17,oO 20 (iA 23 15 17),lO 21 25 20,oN 8 (.alloc 25) [0],aO 7 19,oS (.store 25 (xT 8) (xT 21))] [1,2,7,8,15,16,17] (sR [mO 22 1,mO 23 7,oO 24 (iA 23 22 23),lO 25 25 24,oN 9 (.alloc 25) [1],oS (.store 25 (xT 9) (xT 25))] [1,2,8,9,15,16,17] (sR [mO 26 2,lO 27 25 8,lO 28 25 9,oO 29 (.call { callee := (.value (xT 26)),args := #[(xT 27),(xT 28)],argTypes := #[25,25] }),oO 30 (.unOp .not 4 (xT 29))] [1,2,15,16,17,30] (cD 30 (sR [oO 6 (.assign (nB false))] [6] (.ret)) (.skip)))))) (.keep [1,2,15,16,17] (.reg [oO 31 (.binOp .add 3 (xT 17) (nI 1) 3),mO 17 31] [1,2,15,16,17]))))) 
def c_slices_EqualFunc_api_Tree_api_Tree_api_Tree_api_Tree : CC := sR [oO 6 (.assign (nB false))] [0,1,2] (.seq (sR [mO 10 0,oO 11 (bL 10 23),mO 12 1,oO 13 (bL 12 23),oO 14 (bO .neq 3 11 13 3)] [0,1,2,14] (cD 14 (sR [oO 6 (.assign (nB false))] [6] (.ret)) (.skip))) (.keep [0,1,2] (.seq (sR [mO 15 0,oO 16 (bL 15 23),oO 17 (.move (nI 0))] [1,2,15,16,17] (.block 0 (.loop l1_slices_EqualFunc_api_Tree_api_Tree_api_Tree_api_Tree))) (.keep [] (sR [oO 6 (.assign (nB true))] [6] (.ret))))))
theorem t_slices_EqualFunc_api_Tree_api_Tree_api_Tree_api_Tree : Txt Tryz.prog 81 32 [(.tmp 6)] c_slices_EqualFunc_api_Tree_api_Tree_api_Tree_api_Tree := txt_of (code := Tryz.f81.body.getD .ret) mixed (by kernel_rfl) Tryz.func81 (by kernel_rfl) Tryz.ntmps81 (by kernel_rfl) (ls := lsOf c_slices_EqualFunc_api_Tree_api_Tree_api_Tree_api_Tree) (by kernel_rfl)
def c_invert_op : CC := sR [oN 1 (.box 54 (xT 0)) [0],oN 2 (.alloc 54) [1]] [1,2] (.seq (sR [fO 3 54 1 0,lO 4 3 3] [1,2,4] (.block 0 (sR [oO 6 (.binOp .eql 3 (xT 4) (nI 1) 3),aO 5 6] [1,2,4,5] (cD 5 (.reg [fO 7 54 1 0,oS (.store 3 (xT 7) (nI 2))] [1,2]) (sR [oO 9 (.binOp .eql 3 (xT 4) (nI 2) 3),aO 8 9] [1,2,4,8] (cD 8 (.reg [fO 10 54 1 0,oS (.store 3 (xT 10) (nI 1))] [1,2]) (sR [oO 12 (.binOp .eql 3 (xT 4) (nI 3) 3),aO 11 12] [1,2,11] (cD 11 (.reg [fO 13 54 1 3,lO 14 33 13,oO 15 (cL 36 #[(xT 14)] #[33]),fO 16 54 1 3,oS (.store 33 (xT 16) (xT 15))] [1,2]) (.skip))))))))) (.keep [1,2] (sR [lO 17 54 1,oS (.store 54 (xT 2) (xT 17))] [2] (.ret))))
theorem t_invert_op : Txt Tryz.prog 55 18 [(.cell 2 54)] c_invert_op := txt_of (code := Tryz.f55.body.getD .ret) mixed (by kernel_rfl) Tryz.func55 (by kernel_rfl) Tryz.ntmps55 (by kernel_rfl) (ls := lsOf c_invert_op) (by kernel_rfl)
def l1_invert_turned : CC := sR [oO 23 (bO .lss 3 22 21 3)] [1,2,3,20,21,22,23] (.seq (cD 23 (.skip) (.exit 0)) (.keep [1,2,3,20,21,22] (.seq (.block 1 (sR [oO 24 (iA 29 20 22),lO 25 38 24,oN 5 (.alloc 38) [3],oS (.store 38 (xT 5) (xT 25))] [1,2,3,5,20,21,22] (.reg [fO 26 33 3 3,lO 27 29 26,fO 28 38 5 0,lO 29 3 28,fO 30 38 5 1,lO 31 5 30,fO 32 38 5 3,lO 33 36 32,fO 34 38 5 2,lO 35 36 34,oO 36 (.build 38 #[(0,(xT 29)),(1,(xT 31)),(2,(xT 33)),(3,(xT 35))]),oO 37 (.buildSlice 29 1 #[(0,(xT 36))]),oN 38 (bC .append #[(xT 27),(xT 37)] #[29,29]) [4],fO 39 33 3 3,oS (.store 29 (xT 39) (xT 38))] [1,2,3,20,21,22]))) (.reg [oO 40 (.binOp .add 3 (xT 22) (nI 1) 3),mO 22 40] [1,2,3,20,21,22]))))
def l2_invert_turned : CC := sR [oO 45 (bO .lss 3 44 43 3)] [1,2,3,42,43,44,45] (.seq (cD 45 (.skip) (.exit 2)) (.keep [1,2,3,42,43,44] (.seq (.block 3 (sR [oO 46 (iA 30 42 44),lO 47 56 46,oN 7 (.alloc 56) [5],oS (.store 56 (xT 7) (xT 47))] [1,2,3,7,42,43,44] (.reg [fO 48 33 3 4,⟨some 49,(lD 30 48),none,[],1,[],true⟩,fO 50 56 7 0,⟨some 51,(lD 3 50),none,[],3,[],true⟩,fO 52 56 7 1,lO 53 33 52,⟨some 54,(cL 36 #[(xT 53)] #[33]),none,[],6,[1,3],false⟩,oO 55 (.build 56 #[(0,(xT 51)),(1,(xT 54))]),⟨some 56,(.buildSlice 30 1 #[(0,(xT 55))]),none,[],8,[1],false⟩,oN 57 (bC .append #[(xT 49),(xT 56)] #[30,30]) [6],fO 58 33 3 4,oS (.store 30 (xT 58) (xT 57))] [1,2,3,42,43,44]))) (.reg [oO 59 (.binOp .add 3 (xT 44) (nI 1) 3),mO 44 59] [1,2,3,42,43,44]))))
def l3_invert_turned : CC := sR [oO 64 (bO .lss 3 63 62 3)] [2,3,61,62,63,64] (.seq (cD 64 (.skip) (.exit 4)) (.keep [2,3,61,62,63] (.seq (.block 5 (sR [oO 65 (iA 31 61 63),lO 66 54 65,oN 9 (.alloc 54) [7],oS (.store 54 (xT 9) (xT 66))] [2,3,9,61,62,63] (.reg [fO 67 33 3 6,⟨some 68,(lD 31 67),none,[],1,[],true⟩,lO 69 54 9,⟨some 70,(cL 55 #[(xT 69)] #[54]),none,[],3,[1],false⟩,⟨some 71,(.buildSlice 31 1 #[(0,(xT 70))]),none,[],4,[1],false⟩,oN 72 (bC .append #[(xT 68),(xT 71)] #[31,31]) [8],fO 73 33 3 6,oS (.store 31 (xT 73) (xT 72))] [2,3,61,62,63]))) (.reg [oO 74 (.binOp .add 3 (xT 63) (nI 1) 3),mO 63 74] [2,3,61,62,63])))) 
def c_invert_turned : CC := sR [oN 1 (.box 33 (xT 0)) [0],oN 2 (.alloc 33) [1]] [1,2] (sR [fO 10 33 1 0,lO 11 3 10,fO 12 33 1 2,lO 13 25 12,fO 14 33 1 1,lO 15 25 14,fO 16 33 1 5,lO 17 3 16,oO 18 (.build 33 #[(0,(xT 11)),(1,(xT 13)),(2,(xT 15)),(5,(xT 17))]),oN 3 (.alloc 33) [2],oS (.store 33 (xT 3) (xT 18))] [1,2,3] (.seq (sR [fO 19 33 1 3,lO 20 29 19,oO 21 (bL 20 29),oO 22 (.move (nI 0))] [1,2,3,20,21,22] (.block 0 (.loop l1_invert_turned))) (.keep [1,2,3] (.seq (sR [fO 41 33 1 4,lO 42 30 41,oO 43 (bL 42 30),oO 44 (.move (nI 0))] [1,2,3,42,43,44] (.block 2 (.loop l2_invert_turned))) (.keep [1,2,3] (.seq (sR [fO 60 33 1 6,lO 61 31 60,oO 62 (bL 61 31),oO 63 (.move (nI 0))] [2,3,61,62,63] (.block 4 (.loop l3_invert_turned))) (.keep [2,3] (sR [lO 75 33 3,oS (.store 33 (xT 2) (xT 75))] [2] (.ret)))))))))
theorem t_invert_turned : Txt Tryz.prog 36 76 [(.cell 2 33)] c_invert_turned := txt_of (code := Tryz.f36.body.getD .ret) mixed (by kernel_rfl) Tryz.func36 (by kernel_rfl) Tryz.ntmps36 (by kernel_rfl) (ls := lsOf c_invert_turned) (by kernel_rfl)
def c_invert_Edit : CC := sR [oN 1 (.box 33 (xT 0)) [0],oN 2 (.alloc 33) [1]] [1,2] (sR [lO 3 33 1,oO 4 (cL 36 #[(xT 3)] #[33]),oO 5 (cL 25 #[(xT 4)] #[33]),oS (.store 33 (xT 2) (xT 5))] [2] (.ret))
theorem t_invert_Edit : Txt Tryz.prog 16 6 [(.cell 2 33)] c_invert_Edit := txt_of (code := Tryz.f16.body.getD .ret) mixed (by kernel_rfl) Tryz.func16 (by kernel_rfl) Tryz.ntmps16 (by kernel_rfl) (ls := lsOf c_invert_Edit) (by kernel_rfl)
def c_apply_one : CC := sR [oN 2 (.box 33 (xT 0)) [0],oN 3 (.box 25 (xT 1)) [1],oN 4 (.alloc 25) [2],oO 5 (.assign (nB false))] [2,3,4] (.seq (sR [fO 6 33 2 0,lO 7 3 6] [2,3,4,7] (.block 0 (sR [oO 9 (.binOp .eql 3 (xT 7) (nI 0) 3),aO 8 9] [2,3,4,7,8] (cD 8 (sR [lO 10 25 3,oS (.store 25 (xT 4) (xT 10)),oO 5 (.assign (nB true))] [4,5] (.ret)) (sR [oO 12 (.binOp .eql 3 (xT 7) (nI 1) 3),aO 11 12] [2,3,4,7,11] (cD 11 (sR [fO 13 33 2 2,⟨some 14,(lD 25 13),none,[],1,[],true⟩,fO 15 33 2 1,lO 16 25 15,lO 17 25 3,⟨some 18,(cL 42 #[(xT 16),(xT 17)] #[25,25]),none,[],5,[1],false⟩,oS (.store 25 (xT 4) (xT 14)),aO 5 18] [4,5] (.ret)) (sR [oO 20 (.binOp .eql 3 (xT 7) (nI 2) 3),aO 19 20] [2,3,4,7,19] (cD 19 (sR [lO 21 33 2,lO 22 25 3,oO 23 (cL 53 #[(xT 21),(xT 22)] #[33,25]),xO 24 23 0,xO 25 23 1,oS (.store 25 (xT 4) (xT 24)),aO 5 25] [4,5] (.ret)) (sR [oO 27 (.binOp .eql 3 (xT 7) (nI 3) 3),aO 26 27] [2,3,4,26] (cD 26 (sR [lO 28 33 2,lO 29 25 3,oO 30 (cL 54 #[(xT 28),(xT 29)] #[33,25]),xO 31 30 0,xO 32 30 1,oS (.store 25 (xT 4) (xT 31)),aO 5 32] [4,5] (.ret)) (.skip))))))))))) (.keep [4] (sR [oO 33 (.build 25 #[]),oS (.store 25 (xT 4) (xT 33)),oO 5 (.assign (nB false))] [4,5] (.ret))))
theorem t_apply_one : Txt Tryz.prog 35 34 [(.cell 4 25),(.tmp 5)] c_apply_one := txt_of (code := Tryz.f35.body.getD .ret) mixed (by kernel_rfl) Tryz.func35 (by kernel_rfl) Tryz.ntmps35 (by kernel_rfl) (ls := lsOf c_apply_one) (by kernel_rfl)
def l1_apply_structure : CC := .seq (sR [fO 44 25 6 1,lO 45 22 44,oO 46 (bL 45 22),fO 47 38 8 0,lO 48 3 47,oO 49 (bO .leq 3 46 48 3)] [2,3,4,6,8,9,26,27,28,49] (cD 49 (.skip) (.exit 2))) (.keep [2,3,4,6,8,9,26,27,28] (.block 3 (.reg [fO 50 25 6 1,lO 51 22 50,oO 52 (.buildSlice 22 1 #[(0,(.const (.int .u64 0)))]),oN 53 (bC .append #[(xT 51),(xT 52)] #[22,22]) [5],fO 54 25 6 1,oS (.store 22 (xT 54) (xT 53))] [2,3,4,6,8,9,26,27,28])))
def l2_apply_structure : CC := sR [oO 29 (bO .lss 3 28 27 3)] [2,3,4,6,26,27,28,29] (.seq (cD 29 (.skip) (.exit 0)) (.keep [2,3,4,6,26,27,28] (.seq (.block 1 (sR [oO 30 (iA 29 26 28),lO 31 38 30,oN 8 (.alloc 38) [4],oS (.store 38 (xT 8) (xT 31))] [2,3,4,6,8,26,27,28] (sR [lO 32 25 3,fO 33 38 8 0,lO 34 3 33,oO 35 (cL 67 #[(xT 32),(xT 34)] #[25,3]),aO 9 35] [2,3,4,6,8,9,26,27,28] (.seq (sR [mO 36 9,fO 37 38 8 1,lO 38 5 37,⟨some 39,(cL 30 #[(.const (.int .u64 0)),(xT 36),(xT 38)] #[36,36,5]),none,[],3,[],true⟩,fO 40 38 8 2,⟨some 41,(lD 36 40),none,[],5,[3],false⟩,oO 42 (bO .neq 36 39 41 36)] [2,3,4,6,8,9,26,27,28,42] (cD 42 (sR [oO 43 (.build 25 #[]),oS (.store 25 (xT 4) (xT 43)),oO 5 (.assign (nB false))] [4,5] (.ret)) (.skip))) (.keep [2,3,4,6,8,9,26,27,28] (.seq (.block 2 (.loop l1_apply_structure)) (.keep [2,3,4,6,8,9,26,27,28] (.reg [fO 55 25 6 1,⟨some 56,(lD 22 55),none,[],1,[],true⟩,fO 57 38 8 0,⟨some 58,(lD 3 57),none,[],3,[],true⟩,mO 59 9,fO 60 38 8 3,lO 61 36 60,fO 62 38 8 1,lO 63 5 62,⟨some 64,(cL 30 #[(xT 59),(xT 61),(xT 63)] #[36,36,5]),none,[],9,[1,3],false⟩,oO 65 (iA 22 56 58),oS (.store 36 (xT 65) (xT 64))] [2,3,4,6,26,27,28])))))))) (.keep [2,3,4,6,26,27,28] (.reg [oO 66 (.binOp .add 3 (xT 28) (nI 1) 3),mO 28 66] [2,3,4,6,26,27,28])))))
def l3_apply_structure : CC := .seq (sR [fO 87 25 6 2,lO 88 23 87,oO 89 (bL 88 23),fO 90 56 11 0,lO 91 3 90,oO 92 (bO .leq 3 89 91 3)] [3,4,6,11,12,68,69,70,92] (cD 92 (.skip) (.exit 6))) (.keep [3,4,6,11,12,68,69,70] (.block 7 (.reg [fO 93 25 6 2,lO 94 23 93,oO 95 (.build 25 #[]),oO 96 (.buildSlice 23 1 #[(0,(xT 95))]),oN 97 (bC .append #[(xT 94),(xT 96)] #[23,23]) [8],fO 98 25 6 2,oS (.store 23 (xT 98) (xT 97))] [3,4,6,11,12,68,69,70])))
def l4_apply_structure : CC := sR [oO 71 (bO .lss 3 70 69 3)] [3,4,6,68,69,70,71] (.seq (cD 71 (.skip) (.exit 4)) (.keep [3,4,6,68,69,70] (.seq (.block 5 (sR [oO 72 (iA 30 68 70),lO 73 56 72,oN 11 (.alloc 56) [6],oS (.store 56 (xT 11) (xT 73))] [3,4,6,11,68,69,70] (sR [fO 75 56 11 1,⟨some 76,(lD 33 75),none,[],1,[],true⟩,⟨some 77,(lD 25 3),none,[],2,[],true⟩,fO 78 56 11 0,⟨some 79,(lD 3 78),none,[],4,[],true⟩,⟨some 80,(cL 68 #[(xT 77),(xT 79)] #[25,3]),none,[],5,[1],true⟩,⟨some 81,(cL 35 #[(xT 76),(xT 80)] #[33,25]),none,[],6,[],true⟩,mO 74 81,xO 82 74 0,xO 83 74 1,⟨some 12,(.alloc 25),none,[7],10,[1,2,4,5,6],false⟩,oS (.store 25 (xT 12) (xT 82)),aO 13 83] [3,4,6,11,12,13,68,69,70] (.seq (sR [mO 84 13,oO 85 (.unOp .not 4 (xT 84))] [3,4,6,11,12,68,69,70,85] (cD 85 (sR [oO 86 (.build 25 #[]),oS (.store 25 (xT 4) (xT 86)),oO 5 (.assign (nB false))] [4,5] (.ret)) (.skip))) (.keep [3,4,6,11,12,68,69,70] (.seq (.block 6 (.loop l3_apply_structure)) (.keep [3,4,6,11,12,68,69,70] (.reg [fO 99 25 6 2,lO 100 23 99,fO 101 56 11 0,lO 102 3 101,lO 103 25 12,oO 104 (iA 23 100 102),oS (.store 25 (xT 104) (xT 103))] [3,4,6,68,69,70])))))))) (.keep [3,4,6,68,69,70] (.reg [oO 105 (.binOp .add 3 (xT 70) (nI 1) 3),mO 70 105] [3,4,6,68,69,70]))))) 
def c_apply_structure : CC := sR [oN 2 (.box 33 (xT 0)) [0],oN 3 (.box 25 (xT 1)) [1],oN 4 (.alloc 25) [2],oO 5 (.assign (nB false))] [2,3,4] (.seq (sR [fO 14 25 3 0,lO 15 3 14,oO 16 (.binOp .neq 3 (xT 15) (nI 1) 3)] [2,3,4,16] (cD 16 (sR [oO 17 (.build 25 #[]),oS (.store 25 (xT 4) (xT 17)),oO 5 (.assign (nB false))] [4,5] (.ret)) (.skip))) (.keep [2,3,4] (sR [fO 18 25 3 1,⟨some 19,(lD 22 18),none,[],1,[],true⟩,⟨some 20,(cL 46 #[(xT 19)] #[22]),none,[],2,[],true⟩,fO 21 25 3 2,⟨some 22,(lD 23 21),none,[],4,[2],true⟩,⟨some 23,(cL 80 #[(xT 22)] #[23]),none,[],5,[],true⟩,oO 24 (.build 25 #[(0,(nI 1)),(1,(xT 20)),(2,(xT 23))]),⟨some 6,(.alloc 25),none,[3],7,[1,2,4,5],false⟩,oS (.store 25 (xT 6) (xT 24))] [2,3,4,6] (.seq (sR [fO 25 33 2 3,lO 26 29 25,oO 27 (bL 26 29),oO 28 (.move (nI 0))] [2,3,4,6,26,27,28] (.block 0 (.loop l2_apply_structure))) (.keep [2,3,4,6] (.seq (sR [fO 67 33 2 4,lO 68 30 67,oO 69 (bL 68 30),oO 70 (.move (nI 0))] [3,4,6,68,69,70] (.block 4 (.loop l4_apply_structure))) (.keep [4,6] (sR [lO 106 25 6,oS (.store 25 (xT 4) (xT 106)),oO 5 (.assign (nB true))] [4,5] (.ret)))))))))
theorem t_apply_structure : Txt Tryz.prog 53 107 [(.cell 4 25),(.tmp 5)] c_apply_structure := txt_of (code := Tryz.f53.body.getD .ret) mixed (by kernel_rfl) Tryz.func53 (by kernel_rfl) Tryz.ntmps53 (by kernel_rfl) (ls := lsOf c_apply_structure) (by kernel_rfl)
def k1_apply_list : CC := .seq (sR [mO 51 10,mO 52 7,oO 53 (bL 52 23),oO 54 (bO .gtr 3 51 53 3)] [4,6,7,9,10,26,27,28,54] (cD 54 (sR [oO 55 (.build 25 #[]),oS (.store 25 (xT 4) (xT 55)),oO 5 (.assign (nB false))] [4,5] (.ret)) (.skip))) (.keep [4,6,7,9,10,26,27,28] (sR [oO 11 (.assign nS)] [4,6,7,9,10,26,27,28] (sR [mO 56 7,mO 57 10,oO 58 (.slice 23 (xT 56) none (some (xT 57)) none),mO 59 7,mO 60 10,oO 61 (.slice 23 (xT 59) (some (xT 60)) none none),aO 11 58,aO 7 61] [4,6,7,9,11,26,27,28] (.block 3 (sR [fO 81 54 9 0,lO 82 3 81,oO 83 (.binOp .eql 3 (xT 82) (nI 0) 3),aO 80 83] [4,6,7,9,11,26,27,28,80] (cD 80 (.reg [fO 84 25 6 2,lO 85 23 84,mO 86 11,oN 87 (bC .append #[(xT 85),(xT 86)] #[23,23]) [6],fO 88 25 6 2,oS (.store 23 (xT 88) (xT 87))] [4,6,7,26,27,28]) (sR [fO 90 54 9 0,lO 91 3 90,oO 92 (.binOp .eql 3 (xT 91) (nI 1) 3),aO 89 92] [4,6,7,9,11,26,27,28,89] (cD 89 (sR [fO 93 54 9 2,lO 94 23 93,mO 95 11,oO 96 (cL 81 #[(xT 94),(xT 95),(.func 42)] #[23,23,49]),oO 97 (.unOp .not 4 (xT 96))] [4,6,7,26,27,28,97] (cD 97 (sR [oO 98 (.build 25 #[]),oS (.store 25 (xT 4) (xT 98)),oO 5 (.assign (nB false))] [4,5] (.ret)) (.skip))) (sR [fO 63 54 9 3,⟨some 64,(lD 33 63),none,[],1,[],true⟩,mO 65 11,oO 66 (.indexAddr 23 (xT 65) (nI 0)),⟨some 67,(lD 25 66),none,[],4,[],true⟩,⟨some 68,(cL 35 #[(xT 64),(xT 67)] #[33,25]),none,[],5,[],true⟩,mO 62 68,xO 69 62 0,xO 70 62 1,⟨some 12,(.alloc 25),none,[7],9,[1,4,5],false⟩,oS (.store 25 (xT 12) (xT 69)),aO 13 70] [4,6,7,12,13,26,27,28] (.seq (sR [mO 71 13,oO 72 (.unOp .not 4 (xT 71))] [4,6,7,12,26,27,28,72] (cD 72 (sR [oO 73 (.build 25 #[]),oS (.store 25 (xT 4) (xT 73)),oO 5 (.assign (nB false))] [4,5] (.ret)) (.skip))) (.keep [4,6,7,12,26,27,28] (.reg [fO 74 25 6 2,lO 75 23 74,lO 76 25 12,oO 77 (.buildSlice 23 1 #[(0,(xT 76))]),oN 78 (bC .append #[(xT 75),(xT 77)] #[23,23]) [8],fO 79 25 6 2,oS (.store 23 (xT 79) (xT 78))] [4,6,7,26,27,28]))))))))))))
def l1_apply_list : CC := sR [oO 29 (bO .lss 3 28 27 3)] [4,6,7,26,27,28,29] (.seq (cD 29 (.skip) (.exit 0)) (.keep [4,6,7,26,27,28] (.seq (.block 1 (sR [oO 30 (iA 31 26 28),lO 31 54 30,oN 9 (.alloc 54) [4],oS (.store 54 (xT 9) (xT 31))] [4,6,7,9,26,27,28] (sR [fO 32 54 9 1,lO 33 3 32,aO 10 33] [4,6,7,9,10,26,27,28] (.seq (sR [fO 34 54 9 0,lO 35 3 34] [4,6,7,9,10,26,27,28,35] (.block 2 (sR [oO 37 (.binOp .eql 3 (xT 35) (nI 2) 3),aO 36 37] [4,6,7,9,10,26,27,28,35,36] (cD 36 (sR [fO 38 25 6 2,lO 39 23 38,fO 40 54 9 2,lO 41 23 40,oN 42 (bC .append #[(xT 39),(xT 41)] #[23,23]) [5],fO 43 25 6 2,oS (.store 23 (xT 43) (xT 42))] [4,6,7,26,27,28] (.exit 1)) (sR [oO 45 (.binOp .eql 3 (xT 35) (nI 1) 3),aO 44 45] [4,6,7,9,10,26,27,28,35,44] (cD 44 (.reg [fO 46 54 9 2,lO 47 23 46,oO 48 (bL 47 23),aO 10 48] [4,6,7,9,10,26,27,28]) (sR [oO 50 (.binOp .eql 3 (xT 35) (nI 3) 3),aO 49 50] [4,6,7,9,10,26,27,28,49] (cD 49 (.reg [oO 10 (.assign (nI 1))] [4,6,7,9,10,26,27,28]) (.skip))))))))) (.keep [4,6,7,9,10,26,27,28] k1_apply_list))))) (.keep [4,6,7,26,27,28] (.reg [oO 99 (.binOp .add 3 (xT 28) (nI 1) 3),mO 28 99] [4,6,7,26,27,28]))))) 
def c_apply_list : CC := sR [oN 2 (.box 33 (xT 0)) [0],oN 3 (.box 25 (xT 1)) [1],oN 4 (.alloc 25) [2],oO 5 (.assign (nB false))] [2,3,4] (.seq (sR [fO 14 25 3 0,lO 15 3 14,fO 16 33 2 5,lO 17 3 16,oO 18 (bO .neq 3 15 17 3)] [2,3,4,18] (cD 18 (sR [oO 19 (.build 25 #[]),oS (.store 25 (xT 4) (xT 19)),oO 5 (.assign (nB false))] [4,5] (.ret)) (.skip))) (.keep [2,3,4] (sR [fO 20 25 3 0,lO 21 3 20,oO 22 (.build 25 #[(0,(xT 21))]),oN 6 (.alloc 25) [3],oS (.store 25 (xT 6) (xT 22))] [2,3,4,6] (sR [fO 23 25 3 2,lO 24 23 23,aO 7 24] [2,4,6,7] (.seq (sR [fO 25 33 2 6,lO 26 31 25,oO 27 (bL 26 31),oO 28 (.move (nI 0))] [4,6,7,26,27,28] (.block 0 (.loop l1_apply_list))) (.keep [4,6,7] (sR [lO 100 25 6,mO 101 7,oO 102 (bL 101 23),oO 103 (.binOp .eql 3 (xT 102) (nI 0) 3),oS (.store 25 (xT 4) (xT 100)),aO 5 103] [4,5] (.ret))))))))
theorem t_apply_list : Txt Tryz.prog 54 104 [(.cell 4 25),(.tmp 5)] c_apply_list := txt_of (code := Tryz.f54.body.getD .ret) mixed (by kernel_rfl) Tryz.func54 (by kernel_rfl) Tryz.ntmps54 (by kernel_rfl) (ls := lsOf c_apply_list) (by kernel_rfl)
def c_apply_Edit : CC := sR [oN 2 (.box 33 (xT 0)) [0],oN 3 (.box 25 (xT 1)) [1],oN 4 (.alloc 25) [2],oO 5 (.assign (nB false))] [2,3,4] (sR [lO 9 33 2,lO 10 25 3,oO 11 (cL 35 #[(xT 9),(xT 10)] #[33,25]),mO 8 11,xO 12 8 0,xO 13 8 1,oN 6 (.alloc 25) [3],oS (.store 25 (xT 6) (xT 12)),aO 7 13] [4,6,7] (.seq (sR [mO 14 7,oO 15 (.unOp .not 4 (xT 14))] [4,6,15] (cD 15 (sR [oO 16 (.build 25 #[]),oS (.store 25 (xT 4) (xT 16)),oO 5 (.assign (nB false))] [4,5] (.ret)) (.skip))) (.keep [4,6] (sR [lO 17 25 6,oO 18 (cL 27 #[(xT 17)] #[25]),oS (.store 25 (xT 4) (xT 18)),oO 5 (.assign (nB true))] [4,5] (.ret)))))
theorem t_apply_Edit : Txt Tryz.prog 15 19 [(.cell 4 25),(.tmp 5)] c_apply_Edit := txt_of (code := Tryz.f15.body.getD .ret) mixed (by kernel_rfl) Tryz.func15 (by kernel_rfl) Tryz.ntmps15 (by kernel_rfl) (ls := lsOf c_apply_Edit) (by kernel_rfl)
def c_centolaw26_DiffLeads : CC := sR [oN 3 (.box 25 (xT 0)) [0],oN 4 (.box 25 (xT 1)) [1],oO 6 (.assign (nB false))] [2,3,4] (.seq (sR [lO 13 25 3,oO 14 (cL 6 #[(xT 13)] #[25]),oO 15 (.unOp .not 4 (xT 14)),mO 16 15,oG 17 (lD 25 4) 16 false,oG 18 (cL 6 #[(xT 17)] #[25]) 16 false,oG 19 (.unOp .not 4 (xT 18)) 16 false,oO 20 (.pick (xT 16) (nB true) (xT 19))] [2,3,4,20] (cD 20 (sR [oO 21 (cL 7 #[] #[]),aO 6 21] [6] (.ret)) (.skip))) (.keep [2,3,4] (sR [lO 22 25 3,lO 23 25 4,mO 24 2,oO 25 (cL 9 #[(xT 22),(xT 23),(xT 24)] #[25,25,3]),oN 7 (.alloc 33) [2],oS (.store 33 (xT 7) (xT 25))] [2,3,4,7] (sR [lO 27 33 7,lO 28 25 3,oO 29 (cL 15 #[(xT 27),(xT 28)] #[33,25]),mO 26 29,xO 30 26 0,xO 31 26 1,oN 8 (.alloc 25) [3],oS (.store 25 (xT 8) (xT 30)),aO 9 31] [2,3,4,7,8,9] (sR [⟨some 33,(lD 33 7),none,[],0,[],true⟩,⟨some 34,(cL 16 #[(xT 33)] #[33]),none,[],1,[],true⟩,⟨some 35,(lD 25 4),none,[],2,[1],true⟩,⟨some 36,(cL 15 #[(xT 34),(xT 35)] #[33,25]),none,[],3,[],true⟩,mO 32 36,xO 37 32 0,xO 38 32 1,⟨some 10,(.alloc 25),none,[4],7,[0,1,2,3],false⟩,oS (.store 25 (xT 10) (xT 37)),aO 11 38] [2,3,4,7,8,9,10,11] (sR [⟨some 39,(lD 25 3),none,[],0,[],true⟩,⟨some 40,(lD 25 3),none,[],1,[],true⟩,⟨some 41,(cL 17 #[(xT 40)] #[25]),none,[],2,[0],true⟩,mO 42 2,⟨some 43,(cL 9 #[(xT 39),(xT 41),(xT 42)] #[25,25,3]),none,[],4,[],true⟩,⟨some 12,(.alloc 33),none,[5],5,[0,1,2,4],false⟩,oS (.store 33 (xT 12) (xT 43))] [3,4,7,8,9,10,11,12] (.seq (sR [lO 44 33 7,oO 45 (cL 18 #[(xT 44)] #[33]),oO 46 (.unOp .not 4 (xT 45)),mO 47 46,oG 48 (mV 9) 47 false,oG 49 (.unOp .not 4 (xT 48)) 47 false,oO 50 (.pick (xT 47) (nB true) (xT 49)),mO 51 50,⟨some 52,(lD 25 8),(some (51,false)),[],8,[],true⟩,oG 53 (lD 25 4) 51 false,⟨some 54,(cL 17 #[(xT 53)] #[25]),(some (51,false)),[],10,[8],false⟩,oG 55 (cL 19 #[(xT 52),(xT 54)] #[25,25]) 51 false,oG 56 (.unOp .not 4 (xT 55)) 51 false,oO 57 (.pick (xT 51) (nB true) (xT 56)),mO 58 57,oG 59 (mV 11) 58 false,oG 60 (.unOp .not 4 (xT 59)) 58 false,oO 61 (.pick (xT 58) (nB true) (xT 60)),mO 62 61,⟨some 63,(lD 25 10),(some (62,false)),[],19,[],true⟩,oG 64 (lD 25 3) 62 false,⟨some 65,(cL 17 #[(xT 64)] #[25]),(some (62,false)),[],21,[19],false⟩,oG 66 (cL 19 #[(xT 63),(xT 65)] #[25,25]) 62 false,oG 67 (.unOp .not 4 (xT 66)) 62 false,oO 68 (.pick (xT 62) (nB true) (xT 67)),mO 69 68,oG 70 (fA 33 12 0) 69 false,oG 71 (lD 3 70) 69 false,oG 72 (.binOp .neq 3 (xT 71) (nI 0) 3) 69 false,oO 73 (.pick (xT 69) (nB true) (xT 72))] [3,4,7,73] (cD 73 (sR [oO 6 (.assign (nB false))] [6] (.ret)) (.skip))) (.keep [3,4,7] (sR [fO 74 33 7 0,⟨some 75,(lD 3 74),none,[],1,[],true⟩,oO 76 (.binOp .eql 3 (xT 75) (nI 0) 3),lO 77 25 3,lO 78 25 4,⟨some 79,(cL 20 #[(xT 77),(xT 78)] #[25,25]),none,[],5,[1],false⟩,oO 80 (bO .eql 4 76 79 4),mO 81 80,oG 82 (cL 7 #[] #[]) 81 true,oO 83 (.pick (xT 81) (xT 82) (nB false)),aO 6 83] [6] (.ret))))))))))
theorem t_centolaw26_DiffLeads : Txt Tryz.prog 5 84 [(.tmp 6)] c_centolaw26_DiffLeads := txt_of (code := Tryz.f5.body.getD .ret) mixed (by kernel_rfl) Tryz.func5 (by kernel_rfl) Tryz.ntmps5 (by kernel_rfl) (ls := lsOf c_centolaw26_DiffLeads) (by kernel_rfl)
end Go.Proofs.YtmeldaflhkiopaaGreat
namespace Go.Proofs.YtmeldaflhkiopaaGreat
set_option linter.unusedVariables false
set_option linter.unusedSimpArgs false
open Go Go.G Go.Proofs Go.PL
theorem uvs_fam {l : List Int} : ∀ x,x ∈ l.map uv→FamA (fun _ => x) := fun x hx => by
  obtain ⟨n,_,rfl⟩ := List.mem_map.1 hx
  exact famA_v
abbrev uvM (u : Nat) (l : List Int) : Fam := rowM u 1 (l.map uv) uvs_fam
section
variable {n0 : Nat} {w0 : World} {I0 : Nat→Prop} {M0 : Nm→Nat→Prop} {m0 : Mu} {Q : Exit→Sta→Prop}
end
end Go.Proofs.YtmeldaflhkiopaaGreat
namespace Go.G
open Go
theorem specH_nil {P : Program} {f : FuncId} {k : Nat} {fl : Bool} {r : A} {Hc Hr : Hp} (h1 : ∀ cap,SpecH P f k [.v (.slice none 0 cap)] Hc r Hr) (h2 : ∀ a cap,SpecH P f k [.v (.slice (some a) 0 cap)] Hc r Hr) : SpecH P f k [.sl fl []] Hc r Hr := by
  refine ⟨(h1 0).1,fun w I M0 n μ vs hM hs hl hr => ?_⟩
  have h := hr 0 _ rfl
  have go : ∀ x,vs.getD 0 undef = x→∀ (k : Nat) (y : A),[A.v x][k]? = some y→Rel w I μ y (vs.getD k undef) := fun x hx k y hk => by
    cases k with
    | zero => cases hk; rw [hx]; exact .v _ _
    | succ k => simp at hk
  generalize hq : vs.getD 0 undef = x at h
  cases h with
  | slN _ _ a cap _ =>
    cases a with
    | none => exact (h1 cap).2 w I M0 n μ vs hM hs hl (go _ hq)
    | some a => exact (h2 a cap).2 w I M0 n μ vs hM hs hl (go _ hq)
  | sl _ _ b off n0 cap sz _ g k1 k2 =>
    have : n0 = 0 := k2
    subst this
    exact (h2 _ cap).2 w I M0 n μ vs hM hs hl (go _ hq)
end Go.G
namespace Go.Proofs.YtmeldaflhkiopaaGreat
set_option linter.unusedVariables false
set_option linter.unusedSimpArgs false
open Go Go.G Go.Proofs Go.PL
theorem cloneW_spec (l : List Int) (h : l.length * 8≤140737488355328) : SpecF Tryz.prog 46 (fun _ => [uws l]) Fam.no (fun r => .osl [r] 1 1 0 l.length) (uvM 1 l) := by
  cases l with
  | nil =>
    refine ⟨famL_cons famA_sl famL_nil,famA_osl,specH_nil (fun cap => ?_) (fun a cap => ?_)⟩
    · refine @SpecF.h _ _ (fun _ => [.v (.slice none 0 cap)]) Fam.no (fun r => .osl [r] 1 1 0 0) (uvM 1 []) (specF_of t_slices_Clone_uint64_uint64 (by simp) (famL_cons famA_v famL_nil) famA_osl fun w0 I0 M0 m0 => ?_)
      unfold c_slices_Clone_uint64_uint64
      simp
      refine reth_le (le_blank 2 [0] 1 (by simp)) (reth_fam (r0 := .osl [0] 1 1 0 0) (by simp [upd]) rfl fun p => ?_)
      by_cases hp : p = []
      · subst hp; simp [updF_app]
      · simp [updF_app,hp]
    · refine @SpecF.h _ _ (fun _ => [.v (.slice (some a) 0 cap)]) Fam.no (fun r => .osl [r] 1 1 0 0) (uvM 1 []) (specF_of t_slices_Clone_uint64_uint64 (by simp) (famL_cons famA_v famL_nil) famA_osl fun w0 I0 M0 m0 => ?_)
      unfold c_slices_Clone_uint64_uint64
      simp
      refine reth_fam rfl rfl fun p => ?_
      by_cases hp : p = []
      · subst hp; simp [updF_app]
      · simp [updF_app,hp,Ne.symm hp]
  | cons x l =>
    refine specF_of t_slices_Clone_uint64_uint64 (by simp) (famL_cons famA_sl famL_nil) famA_osl fun w0 I0 M0 m0 => ?_
    unfold c_slices_Clone_uint64_uint64
    rw [List.length_cons] at h
    simp [h,uws]
    refine reth_fam rfl rfl fun p => ?_
    by_cases hp : p = []
    · subst hp; simp [updF_app]
    · simp [updF_app,hp,Ne.symm hp]
theorem cloneK_spec (l : List T) (h : l.length * 56≤140737488355328) : SpecF Tryz.prog 80 (fun _ => [tKs l]) Fam.no (fun r => .osl [r] 1 3 0 l.length) (trM 1 l) := by
  cases l with
  | nil =>
    refine ⟨famL_cons famA_sl famL_nil,famA_osl,specH_nil (fun cap => ?_) (fun a cap => ?_)⟩
    · refine @SpecF.h _ _ (fun _ => [.v (.slice none 0 cap)]) Fam.no (fun r => .osl [r] 1 3 0 0) (trM 1 []) (specF_of t_slices_Clone_api_Tree_api_Tree (by simp) (famL_cons famA_v famL_nil) famA_osl fun w0 I0 M0 m0 => ?_)
      unfold c_slices_Clone_api_Tree_api_Tree
      simp
      refine reth_le (le_blank 2 [0] 3 (by simp)) (reth_fam (r0 := .osl [0] 1 3 0 0) (by simp [upd]) rfl fun p => ?_)
      by_cases hp : p = []
      · subst hp; simp [updF_app]
      · simp [updF_app,hp]
    · refine @SpecF.h _ _ (fun _ => [.v (.slice (some a) 0 cap)]) Fam.no (fun r => .osl [r] 1 3 0 0) (trM 1 []) (specF_of t_slices_Clone_api_Tree_api_Tree (by simp) (famL_cons famA_v famL_nil) famA_osl fun w0 I0 M0 m0 => ?_)
      unfold c_slices_Clone_api_Tree_api_Tree
      simp
      refine reth_fam rfl rfl fun p => ?_
      by_cases hp : p = []
      · subst hp; simp [updF_app]
      · simp [updF_app,hp,Ne.symm hp]
  | cons x l =>
    refine specF_of t_slices_Clone_api_Tree_api_Tree (by simp) (famL_cons famA_sl famL_nil) famA_osl fun w0 I0 M0 m0 => ?_
    unfold c_slices_Clone_api_Tree_api_Tree
    rw [List.length_cons] at h
    simp [h,tKs]
    refine reth_fam rfl rfl fun p => ?_
    by_cases hp : p = []
    · subst hp; simp [updF_app]
    · simp [updF_app,hp,Ne.symm hp]
section
variable {n0 : Nat} {w0 : World} {I0 : Nat→Prop} {Q : Exit→Sta→Prop}
theorem eqF_l1 {l m : List T} (hl : ∀ t,t ∈ l→wfT t) (hm : ∀ t,t ∈ m→wfT t) (h : l.map norm = m.map norm) (hb : l.length≤10000000000000) (hq : ∀ st H,Q (.exit 0) ⟨lk ([(1,tKs m),(2,.fnc 42 [] [])] ++ st),H⟩) : ∀ (j i : Nat) (H : Hp),i + j = l.length →
    LoopC (cx Tryz.prog w0 I0 n0) l1_slices_EqualFunc_api_Tree_api_Tree_api_Tree_api_Tree Q ⟨lk [(1,tKs m),(2,.fnc 42 [] []),(15,tKs l),(16,iv l.length),(17,iv i)],H⟩ := by
  have hlen : l.length = m.length := by simpa using congrArg List.length h
  intro j
  induction j with
  | zero =>
    intro i H hj
    have : i = l.length := by omega
    subst this
    refine loopC_once mixed l1_slices_EqualFunc_api_Tree_api_Tree_api_Tree_api_Tree.eq_1 ?_
    simp
    have := hq [(15,tKs l),(16,iv l.length),(17,iv l.length),(18,bv false)] H
    simpa using this
  | succ j ih =>
    intro i H hj
    have h1 : i < l.length := by omega
    have h2 : i < m.length := by omega
    have ew : IntKind.i64.wrap ((i : Int) + 1) = ((i + 1 : Nat) : Int) := by rw [i64_same (by omega) (by omega)]; omega
    have he : eqT l[i] m[i] = true := by
      rw [eqT_iff]
      have : (l.map norm)[i]? = (m.map norm)[i]? := by rw [h]
      simpa [h1,h2] using this
    have E := eqG_spec (hl _ (List.getElem_mem h1)) (hm _ (List.getElem_mem h2))
    rw [he] at E
    refine loopC_once mixed l1_slices_EqualFunc_api_Tree_api_Tree_api_Tree_api_Tree.eq_1 ?_
    simp [h1,h2,updF_app]
    refine sc_callv rfl E (by simp) ?_
    simp [ew]
    exact ih (i + 1) _ (by omega)
end
theorem eqF_spec {l m : List T} (hl : ∀ t,t ∈ l→wfT t) (hm : ∀ t,t ∈ m→wfT t) (h : l.map norm = m.map norm) (hb : l.length≤10000000000000) : G.Spec Tryz.prog 81 [tKs l,tKs m,.fnc 42 [] []] (bv true) := by
  have hlen : l.length = m.length := by simpa using congrArg List.length h
  refine spec_of t_slices_EqualFunc_api_Tree_api_Tree_api_Tree_api_Tree (by simp) fun w0 I0 => ?_
  unfold c_slices_EqualFunc_api_Tree_api_Tree_api_Tree_api_Tree
  simp [hlen]
  refine LoopC.le (le_list [(1,tKs m),(2,.fnc 42 [] []),(15,tKs l),(16,iv l.length),(17,iv (0 : Nat))] (by simp [hlen])) ?_
  refine eqF_l1 hl hm h hb (fun st H => ?_) l.length 0 _ (by omega)
  simp
  exact frz_bare rfl
def trW (w : WE) : WE := ⟨w.at_,w.mask,w.new,w.old⟩
mutual
def trn : E→E
  | .mk k o n ws ks l os => .mk k n o (ws.map trW) (trnK ks) l (trnO os)
def trnK : List KE→List KE
  | [] => []
  | .mk a e :: l => .mk a (trn e) :: trnK l
def trnO : List OP→List OP
  | [] => []
  | .mk k n t e :: l => (if k = 1 then .mk 2 n t e else if k = 2 then .mk 1 n t e else if k = 3 then .mk 3 n t (trn e) else .mk k n t e) :: trnO l
end
def trKE (x : KE) : KE := .mk x.at_ (trn x.e)
def trOP (x : OP) : OP := if x.kind = 1 then .mk 2 x.n x.l x.e else if x.kind = 2 then .mk 1 x.n x.l x.e else if x.kind = 3 then .mk 3 x.n x.l (trn x.e) else x
theorem trnK_map : ∀ l,trnK l = l.map trKE
  | [] => by simp [trnK]
  | .mk a e :: l => by rw [trnK,trnK_map l]; rfl
theorem trnO_map : ∀ l,trnO l = l.map trOP
  | [] => by simp [trnO]
  | .mk k n t e :: l => by rw [trnO,trnO_map l]; rfl
theorem trn_mk (k : Int) (o n : T) (ws : List WE) (ks : List KE) (l : Int) (os : List OP) : trn (.mk k o n ws ks l os) = .mk k n o (ws.map trW) (ks.map trKE) l (os.map trOP) := by
  rw [trn,trnK_map,trnO_map]
theorem trn_E0 : trn E0 = E0 := by unfold E0; rw [trn_mk]; rfl
theorem ldW_turn {a b : List Int} : ∀ {p : Nat} {ws : List WE},LdW a b p ws→LdW b a p (ws.map trW) := by
  intro p ws h
  induction h with
  | nil p h => exact .nil p fun i hi => (h i hi).symm
  | cons p i m o n ws hp h hi hm ho hn h1 h2 _ ih => exact .cons p i m n o _ hp (fun j g1 g2 => (h j g1 g2).symm) (by omega) hm hn ho h2 h1 ih
theorem trn_kind (e : E) : (trn e).kind = e.kind := by
  obtain ⟨k,o,n,ws,ks,l,os⟩ := e
  rw [trn_mk]
  rfl
theorem ldK_turn {R R' : E→T→T→Prop} (hR : ∀ e x y,R e x y→R' (trn e) y x) {a b : List T} {p : Nat} {ks : List KE} (h : LdK R a b p ks) : LdK R' b a p (ks.map trKE) := by
  induction h with
  | nil p h => exact .nil p fun i hi => (h i hi).symm
  | cons p i e ks hp h hi he hr _ ih => exact .cons p i (trn e) _ hp (fun j g1 g2 => (h j g1 g2).symm) (by omega) (by rw [trn_kind]; exact he) (hR e _ _ hr) ih
theorem ldO_turn {R R' : E→T→T→Prop} (hR : ∀ e x y,R e x y→R' (trn e) y x) {a b : List T} {os : List OP} (h : LdO R os a b) : LdO R' (os.map trOP) b a := by
  induction h with
  | nil => exact .nil
  | keep l m hne hl _ ih =>
    have hlen : l.length = m.length := by simpa using congrArg List.length hl
    have := LdO.keep (R := R') m l (fun e => hne (by subst e; simpa using hlen)) hl.symm ih
    rw [← hlen] at this
    exact this
  | del l m hne hl _ ih => exact .ins l m hne hl ih
  | ins l m hne hl _ ih => exact .del l m hne hl ih
  | desc e x y r _ ih => exact .desc (trn e) y x (hR e x y r) ih
theorem ld_trn : ∀ (f : Nat) (e : E) (a b : T),Ld f e a b→Ld f (trn e) b a := by
  have base : ∀ {e a b},LdB e a b→LdB (trn e) b a := fun {e a b} h => by
    rcases h with ⟨rfl,h⟩ | ⟨o,n,rfl,h1,h2⟩
    · rw [trn_E0]; exact .inl ⟨rfl,h.symm⟩
    · rw [trn_mk]; exact .inr ⟨n,o,rfl,h2,h1⟩
  intro f
  induction f with
  | zero => exact fun e a b h => base h
  | succ f ih =>
    intro e a b h
    rcases h with h | ⟨ws,ks,rfl,h1,h2,h3,h4⟩ | ⟨os,rfl,h1,h2,hw,h3⟩
    · exact .inl (base h)
    · rw [trn_mk]
      exact .inr (.inl ⟨_,_,rfl,h2,h1,ldW_turn h3,ldK_turn ih h4⟩)
    · rw [trn_mk]
      refine .inr (.inr ⟨_,?_,h1.symm,by omega,⟨hw.2,hw.1⟩,ldO_turn ih h3⟩)
      rw [h1]
      rfl
theorem iop_spec {o : OP} (hT : o.kind = 3→G.Spec Tryz.prog 36 [eX o.e] (eX (trn o.e))) : G.Spec Tryz.prog 55 [oX o] (oX (trOP o)) := by
  obtain ⟨k,n,l,e⟩ := o
  refine spec_of t_invert_op (by simp) fun w0 I0 => ?_
  unfold c_invert_op trOP
  by_cases h1 : k = 1
  · subst h1
    simp
    exact frz_bare (by simp)
  · by_cases h2 : k = 2
    · subst h2
      simp
      exact frz_bare (by simp)
    · by_cases h3 : k = 3
      · subst h3
        simp
        refine sc_call (hT rfl) (by simp) ?_
        simp
        exact frz_bare (by simp)
      · simp [h1,h2,h3]
        exact frz_bare (by simp)
section
variable {n0 : Nat} {w0 : World} {I0 : Nat→Prop} {Q : Exit→Sta→Prop}
theorem tn_l1 {ws : List WE} (hl : ws.length * 32≤140737488355328) {v0 v1 : VOb} {n1 n2 n3 o1 o2 o3 : A} {k l : Int}
    (hq : ∀ (H' : Hp) (v : Nat) (st : List (Nat × A)),H' [0] = v0→H' [1] = v1→H' [2] = ⟨1,.cells [iv k,n1,n2,n3,o1,o2,o3,.osl [4] v 4 0 ws.length,.sl true [],iv l,.sl true []]⟩→H' [4] = ⟨v,.arr 4 (ws.map (wA ∘ trW))⟩→H' [6] = ⟨0,.none⟩→H' [8] = ⟨0,.none⟩→Q (.exit 0) ⟨lk ([(1,.pob [0] 1 0),(2,.pob [1] 1 0),(3,.pob [2] 1 0)] ++ st),H'⟩) :
    ∀ (m i v : Nat) (H : Hp),i + m = ws.length→H [0] = v0→H [1] = v1→H [2] = ⟨1,.cells [iv k,n1,n2,n3,o1,o2,o3,.osl [4] v 4 0 i,.sl true [],iv l,.sl true []]⟩→H [4] = ⟨v,.arr 4 ((ws.take i).map (wA ∘ trW))⟩→H [6] = ⟨0,.none⟩→H [8] = ⟨0,.none⟩ →
    LoopC (cx Tryz.prog w0 I0 n0) l1_invert_turned Q ⟨lk [(1,.pob [0] 1 0),(2,.pob [1] 1 0),(3,.pob [2] 1 0),(20,wKs ws),(21,iv ws.length),(22,iv i)],H⟩ := by
  intro m
  induction m with
  | zero =>
    intro i v H hm h0 h1 h2 h4 h6 h8
    have : i = ws.length := by omega
    subst this
    rw [List.take_of_length_le (Nat.le_refl _)] at h4
    refine loopC_once mixed l1_invert_turned.eq_1 ?_
    simp
    have := hq H v [(20,wKs ws),(21,iv ws.length),(22,iv ws.length),(23,bv false)] h0 h1 h2 h4 h6 h8
    simpa using this
  | succ m ih =>
    intro i v H hm h0 h1 h2 h4 h6 h8
    have hlt : i < ws.length := by omega
    have ew : IntKind.i64.wrap ((i : Int) + 1) = ((i + 1 : Nat) : Int) := by rw [i64_same (by omega) (by omega)]; omega
    have htk : (ws.take (i + 1)).map (wA ∘ trW) = (ws.take i).map (wA ∘ trW) ++ [wA (trW ws[i])] := by rw [List.take_succ_eq_append_getElem hlt,List.map_append]; rfl
    have next := ih (i + 1) (v + 1)
    rw [htk] at next
    generalize hx : ws[i] = x at *
    refine loopC_once mixed l1_invert_turned.eq_1 ?_
    simp [hlt,hx,updF_app,h2,h4,ew]
    refine ⟨by omega,?_⟩
    refine next _ (by omega) (by simp [updF_app,h0]) (by simp [updF_app,h1]) (by simp [updF_app]) ?_ (by simp [updF_app,h6]) (by simp [updF_app,h8])
    rw [List.take_of_length_le (by simp; omega)]
    simp [updF_app,trW]
theorem tn_l2 {ks : List KE} (hl : ks.length * 208≤140737488355328) (hk : ∀ x,x ∈ ks→G.Spec Tryz.prog 36 [eX x.e] (eX (trn x.e))) {v0 v1 v4 : VOb} {n1 n2 n3 o1 o2 o3 W : A} {k l : Int}
    (hq : ∀ (H' : Hp) (v : Nat) (st : List (Nat × A)),H' [0] = v0→H' [1] = v1→H' [2] = ⟨1,.cells [iv k,n1,n2,n3,o1,o2,o3,W,.osl [6] v 12 0 ks.length,iv l,.sl true []]⟩→H' [4] = v4→H' [6] = ⟨v,.arr 12 (ks.map (kA ∘ trKE))⟩→H' [8] = ⟨0,.none⟩→Q (.exit 2) ⟨lk ([(1,.pob [0] 1 0),(2,.pob [1] 1 0),(3,.pob [2] 1 0)] ++ st),H'⟩) :
    ∀ (m i v : Nat) (H : Hp),i + m = ks.length→H [0] = v0→H [1] = v1→H [2] = ⟨1,.cells [iv k,n1,n2,n3,o1,o2,o3,W,.osl [6] v 12 0 i,iv l,.sl true []]⟩→H [4] = v4→H [6] = ⟨v,.arr 12 ((ks.take i).map (kA ∘ trKE))⟩→H [8] = ⟨0,.none⟩ →
    LoopC (cx Tryz.prog w0 I0 n0) l2_invert_turned Q ⟨lk [(1,.pob [0] 1 0),(2,.pob [1] 1 0),(3,.pob [2] 1 0),(42,kKs ks),(43,iv ks.length),(44,iv i)],H⟩ := by
  intro m
  induction m with
  | zero =>
    intro i v H hm h0 h1 h2 h4 h6 h8
    have : i = ks.length := by omega
    subst this
    rw [List.take_of_length_le (Nat.le_refl _)] at h6
    refine loopC_once mixed l2_invert_turned.eq_1 ?_
    simp
    have := hq H v [(42,kKs ks),(43,iv ks.length),(44,iv ks.length),(45,bv false)] h0 h1 h2 h4 h6 h8
    simpa using this
  | succ m ih =>
    intro i v H hm h0 h1 h2 h4 h6 h8
    have hlt : i < ks.length := by omega
    have ew : IntKind.i64.wrap ((i : Int) + 1) = ((i + 1 : Nat) : Int) := by rw [i64_same (by omega) (by omega)]; omega
    have htk : (ks.take (i + 1)).map (kA ∘ trKE) = (ks.take i).map (kA ∘ trKE) ++ [kA (trKE ks[i])] := by rw [List.take_succ_eq_append_getElem hlt,List.map_append]; rfl
    have hE := hk _ (List.getElem_mem hlt)
    have next := ih (i + 1) (v + 1)
    rw [htk] at next
    generalize hx : ks[i] = x at *
    refine loopC_once mixed l2_invert_turned.eq_1 ?_
    simp [hlt,hx,updF_app,h2]
    refine sc_call hE (by simp [updF_app]) ?_
    simp [updF_app,h2,h6,ew]
    refine ⟨by omega,?_⟩
    refine next _ (by omega) (by simp [updF_app,h0]) (by simp [updF_app,h1]) (by simp [updF_app]) (by simp [updF_app,h4]) ?_ (by simp [updF_app,h8])
    rw [List.take_of_length_le (by simp; omega)]
    simp [updF_app,trKE]
theorem tn_l3 {os : List OP} (hl : os.length * 240≤140737488355328) (hk : ∀ x,x ∈ os→G.Spec Tryz.prog 55 [oX x] (oX (trOP x))) {v1 v4 v6 : VOb} {n1 n2 n3 o1 o2 o3 W K : A} {k l : Int}
    (hq : ∀ (H' : Hp) (v : Nat) (st : List (Nat × A)),H' [1] = v1→H' [2] = ⟨1,.cells [iv k,n1,n2,n3,o1,o2,o3,W,K,iv l,.osl [8] v 14 0 os.length]⟩→H' [4] = v4→H' [6] = v6→H' [8] = ⟨v,.arr 14 (os.map (oA ∘ trOP))⟩→Q (.exit 4) ⟨lk ([(2,.pob [1] 1 0),(3,.pob [2] 1 0)] ++ st),H'⟩) :
    ∀ (m i v : Nat) (H : Hp),i + m = os.length→H [1] = v1→H [2] = ⟨1,.cells [iv k,n1,n2,n3,o1,o2,o3,W,K,iv l,.osl [8] v 14 0 i]⟩→H [4] = v4→H [6] = v6→H [8] = ⟨v,.arr 14 ((os.take i).map (oA ∘ trOP))⟩ →
    LoopC (cx Tryz.prog w0 I0 n0) l3_invert_turned Q ⟨lk [(2,.pob [1] 1 0),(3,.pob [2] 1 0),(61,oKs os),(62,iv os.length),(63,iv i)],H⟩ := by
  intro m
  induction m with
  | zero =>
    intro i v H hm h1 h2 h4 h6 h8
    have : i = os.length := by omega
    subst this
    rw [List.take_of_length_le (Nat.le_refl _)] at h8
    refine loopC_once mixed l3_invert_turned.eq_1 ?_
    simp
    have := hq H v [(61,oKs os),(62,iv os.length),(63,iv os.length),(64,bv false)] h1 h2 h4 h6 h8
    simpa using this
  | succ m ih =>
    intro i v H hm h1 h2 h4 h6 h8
    have hlt : i < os.length := by omega
    have ew : IntKind.i64.wrap ((i : Int) + 1) = ((i + 1 : Nat) : Int) := by rw [i64_same (by omega) (by omega)]; omega
    have htk : (os.take (i + 1)).map (oA ∘ trOP) = (os.take i).map (oA ∘ trOP) ++ [oA (trOP os[i])] := by rw [List.take_succ_eq_append_getElem hlt,List.map_append]; rfl
    have hE := hk _ (List.getElem_mem hlt)
    have next := ih (i + 1) (v + 1)
    rw [htk] at next
    generalize hx : os[i] = x at *
    refine loopC_once mixed l3_invert_turned.eq_1 ?_
    simp [hlt,hx,updF_app,h2]
    refine sc_call hE (by simp [updF_app]) ?_
    simp [updF_app,h2,h8,ew]
    refine ⟨by omega,?_⟩
    refine next _ (by omega) (by simp [updF_app,h1]) (by simp [updF_app]) (by simp [updF_app,h4]) (by simp [updF_app,h6]) ?_
    rw [List.take_of_length_le (by simp; omega)]
    simp [updF_app]
end
theorem frz_rowO {α : Type} {H : Hp} {o : Nm} {u n sz : Nat} {l : List α} {f : α→A} (h : H o = ⟨u,.arr sz (l.map f)⟩) (hn : n = l.length) (hf : ∀ x,((f x).cells.length == sz && (f x).cells.all fun y => A.bare1 y && y.one) = true) : Frz H (.osl o u sz 0 n) (.sl false (l.map f)) := frz_row (f := f) (by rw [h]; simp) hn hf
theorem iturned_spec : ∀ e : E,wfE e→G.Spec Tryz.prog 36 [eX e] (eX (trn e)) := by
  refine E.ind fun k o n ws ks l os ihk iho h => ?_
  have W := wfE_iff.1 h
  have hw : ws.length * 32≤140737488355328 := W.wl
  have hk : ks.length * 208≤140737488355328 := W.kl
  have ho : os.length * 240≤140737488355328 := W.ol
  have tk : ∀ x,x ∈ ks→G.Spec Tryz.prog 36 [eX x.e] (eX (trn x.e)) := fun x hx => ihk x hx (W.ks x hx).2
  have to : ∀ x,x ∈ os→G.Spec Tryz.prog 55 [oX x] (oX (trOP x)) := fun x hx => iop_spec fun _ => iho x hx (W.os x hx).e
  rw [trn_mk]
  refine spec_of t_invert_turned (by simp) fun w0 I0 => ?_
  unfold c_invert_turned
  simp
  refine LoopC.le (le_blankC (d := [2]) (u := 1) 7 [4] 4 (by simp [updF_app]; rfl) rfl (by simp)) ?_
  refine LoopC.le (le_list [(1,.pob [0] 1 0),(2,.pob [1] 1 0),(3,.pob [2] 1 0),(20,wKs ws),(21,iv ws.length),(22,iv (0 : Nat))] (by simp)) ?_
  refine tn_l1 (v0 := ⟨1,.cells (eL (.mk k o n ws ks l os))⟩) (v1 := ⟨1,.cells rawE⟩) (k := k) (l := l) (n1 := iv n.kind) (n2 := uws n.words) (n3 := tKs n.kids) (o1 := iv o.kind) (o2 := uws o.words) (o3 := tKs o.kids) hw (fun H4 v4 st g0 g1 g2 g4 g6 g8 => ?_) ws.length 0 1 _ (by omega) (by simp [updF_app]) (by simp [updF_app,rawE]) (by simp [updF_app]) (by simp [updF_app]) (by simp [updF_app]) (by simp [updF_app])
  simp [g0]
  refine LoopC.le (le_blankC (d := [2]) (u := 1) 8 [6] 12 g2 rfl (by simp)) ?_
  refine LoopC.le (le_list [(1,.pob [0] 1 0),(2,.pob [1] 1 0),(3,.pob [2] 1 0),(42,kKs ks),(43,iv ks.length),(44,iv (0 : Nat))] (by simp)) ?_
  refine tn_l2 (v0 := ⟨1,.cells (eL (.mk k o n ws ks l os))⟩) (v1 := ⟨1,.cells rawE⟩) (v4 := ⟨v4,.arr 4 (ws.map (wA ∘ trW))⟩) (k := k) (l := l) (n1 := iv n.kind) (n2 := uws n.words) (n3 := tKs n.kids) (o1 := iv o.kind) (o2 := uws o.words) (o3 := tKs o.kids) (W := .osl [4] v4 4 0 ws.length) hk tk (fun H6 v6 st6 k0 k1 k2 k4 k6 k8 => ?_) ks.length 0 1 _ (by omega) (by simp [updF_app,g0]) (by simp [updF_app,g1]) (by simp [updF_app,g6]) (by simp [updF_app,g4]) (by simp [updF_app,g6]) (by simp [updF_app,g8])
  simp [k0]
  refine LoopC.le (le_blankC (d := [2]) (u := 1) 10 [8] 14 k2 rfl (by simp)) ?_
  refine LoopC.le (le_list [(2,.pob [1] 1 0),(3,.pob [2] 1 0),(61,oKs os),(62,iv os.length),(63,iv (0 : Nat))] (by simp)) ?_
  refine tn_l3 (v1 := ⟨1,.cells rawE⟩) (v4 := ⟨v4,.arr 4 (ws.map (wA ∘ trW))⟩) (v6 := ⟨v6,.arr 12 (ks.map (kA ∘ trKE))⟩) (k := k) (l := l) (n1 := iv n.kind) (n2 := uws n.words) (n3 := tKs n.kids) (o1 := iv o.kind) (o2 := uws o.words) (o3 := tKs o.kids) (W := .osl [4] v4 4 0 ws.length) (K := .osl [6] v6 12 0 ks.length) ho to (fun H8 v8 st8 j1 j2 j4 j6 j8 => ?_) os.length 0 1 _ (by omega) (by simp [updF_app,k1]) (by simp [updF_app,k8]) (by simp [updF_app,k4]) (by simp [updF_app,k6]) (by simp [updF_app,k8])
  simp [j1,j2,rawE]
  refine frz_agg ⟨frz_bare rfl,frz_bare rfl,frz_bare rfl,frz_bare rfl,frz_bare rfl,frz_bare rfl,frz_bare rfl,?_,?_,frz_bare rfl,?_,trivial⟩
  · have := frz_rowO (H := updF H8 [1] ⟨1,.cells [iv k,iv n.kind,uws n.words,tKs n.kids,iv o.kind,uws o.words,tKs o.kids,.osl [4] v4 4 0 ws.length,.osl [6] v6 12 0 ks.length,iv l,.osl [8] v8 14 0 os.length]⟩) (o := [4]) (u := v4) (sz := 4) (n := ws.length) (l := ws) (f := wA ∘ trW) (by simp [updF_app,j4]) rfl (fun x => by simp)
    rw [← List.map_map] at this
    exact this
  · have := frz_rowO (H := updF H8 [1] ⟨1,.cells [iv k,iv n.kind,uws n.words,tKs n.kids,iv o.kind,uws o.words,tKs o.kids,.osl [4] v4 4 0 ws.length,.osl [6] v6 12 0 ks.length,iv l,.osl [8] v8 14 0 os.length]⟩) (o := [6]) (u := v6) (sz := 12) (n := ks.length) (l := ks) (f := kA ∘ trKE) (by simp [updF_app,j6]) rfl (fun x => by simp)
    rw [← List.map_map] at this
    exact this
  · have := frz_rowO (H := updF H8 [1] ⟨1,.cells [iv k,iv n.kind,uws n.words,tKs n.kids,iv o.kind,uws o.words,tKs o.kids,.osl [4] v4 4 0 ws.length,.osl [6] v6 12 0 ks.length,iv l,.osl [8] v8 14 0 os.length]⟩) (o := [8]) (u := v8) (sz := 14) (n := os.length) (l := os) (f := oA ∘ trOP) (by simp [updF_app,j8]) rfl (fun x => by simp)
    rw [← List.map_map] at this
    exact this
theorem invert_spec {e : E} (hw : wfE e) (h : nOk (trn e)) : G.Spec Tryz.prog 16 [eX e] (eX (nEd (trn e))) := by
  refine spec_of t_invert_Edit (by simp) fun w0 I0 => ?_
  unfold c_invert_Edit
  simp
  refine sc_call (iturned_spec e hw) (by simp) ?_
  simp
  refine sc_call (pEdit_spec _ h) (by simp) ?_
  simp
  exact frz_bare (by simp)
inductive ApO (P : E→T→T→Prop) : List OP→List T→List T→Prop
  | nil : ApO P [] [] []
  | keep {os : List OP} {a u : List T} (l : List T) (g : ApO P os a u) : ApO P (.mk 0 (l.length : Nat) [] E0 :: os) (l ++ a) (l ++ u)
  | del {os : List OP} {a u : List T} (l m : List T) (h : l.map norm = m.map norm) (g : ApO P os a u) : ApO P (.mk 1 0 l E0 :: os) (m ++ a) u
  | ins {os : List OP} {a u : List T} (l : List T) (g : ApO P os a u) : ApO P (.mk 2 0 l E0 :: os) a (l ++ u)
  | desc {os : List OP} {a u : List T} (e : E) (x y : T) (h : P e x y) (g : ApO P os a u) : ApO P (.mk 3 0 [] e :: os) (x :: a) (y :: u)
theorem apO_of {R P : E→T→T→Prop} {os : List OP} {a b : List T} (h : LdO R os a b) : (∀ o,o ∈ os→o.kind = 3→∀ x,x ∈ a→∀ y,y ∈ b→R o.e x y→∃ u,P o.e x u∧norm u = norm y)→∃ u,ApO P os a u∧u.map norm = b.map norm := by
  induction h with
  | nil => exact fun _ => ⟨[],.nil,rfl⟩
  | keep l m hne hl _ ih =>
    intro hP
    obtain ⟨u,h1,h2⟩ := ih fun o ho hk x hx y hy => hP o (List.mem_cons_of_mem _ ho) hk x (List.mem_append_right _ hx) y (List.mem_append_right _ hy)
    exact ⟨l ++ u,.keep l h1,by rw [List.map_append,List.map_append,hl,h2]⟩
  | del l m hne hl _ ih =>
    intro hP
    obtain ⟨u,h1,h2⟩ := ih fun o ho hk x hx y hy => hP o (List.mem_cons_of_mem _ ho) hk x (List.mem_append_right _ hx) y hy
    exact ⟨u,.del l m hl h1,h2⟩
  | ins l m hne hl _ ih =>
    intro hP
    obtain ⟨u,h1,h2⟩ := ih fun o ho hk x hx y hy => hP o (List.mem_cons_of_mem _ ho) hk x hx y (List.mem_append_right _ hy)
    exact ⟨l ++ u,.ins l h1,by rw [List.map_append,List.map_append,hl,h2]⟩
  | desc e x y r _ ih =>
    intro hP
    obtain ⟨u,h1,h2⟩ := ih fun o ho hk x hx y hy => hP o (List.mem_cons_of_mem _ ho) hk x (List.mem_cons_of_mem _ hx) y (List.mem_cons_of_mem _ hy)
    obtain ⟨v,k1,k2⟩ := hP (.mk 3 0 [] e) (by simp) rfl x (by simp) y (by simp) r
    exact ⟨v :: u,.desc e x v k1 h1,by rw [List.map_cons,List.map_cons,k2,h2]⟩
abbrev OneS (e : E) (x u : T) : Prop := wfT u∧G.Spec Tryz.prog 35 [eX e,tX x] (.tup [tX u,bv true])
theorem apO_wf {os : List OP} {a u : List T} (h : ApO OneS os a u) : (∀ t,t ∈ a→wfT t)→(∀ o,o ∈ os→∀ t,t ∈ o.l→wfT t)→∀ t,t ∈ u→wfT t := by
  induction h with
  | nil => intro _ _ t ht; simp at ht
  | keep l _ ih =>
    intro ha ho t ht
    rcases List.mem_append.1 ht with ht | ht
    · exact ha t (List.mem_append_left _ ht)
    · exact ih (fun t ht => ha t (List.mem_append_right _ ht)) (fun o h => ho o (List.mem_cons_of_mem _ h)) t ht
  | del l m _ _ ih =>
    intro ha ho t ht
    exact ih (fun t ht => ha t (List.mem_append_right _ ht)) (fun o h => ho o (List.mem_cons_of_mem _ h)) t ht
  | ins l _ ih =>
    intro ha ho t ht
    rcases List.mem_append.1 ht with ht | ht
    · exact ho (.mk 2 0 l E0) (by simp) t ht
    · exact ih ha (fun o h => ho o (List.mem_cons_of_mem _ h)) t ht
  | desc e x y r _ ih =>
    intro ha ho t ht
    rcases List.mem_cons.1 ht with rfl | ht
    · exact r.1
    · exact ih (fun t ht => ha t (List.mem_cons_of_mem _ ht)) (fun o h => ho o (List.mem_cons_of_mem _ h)) t ht
section
variable {n0 : Nat} {w0 : World} {I0 : Nat→Prop} {Q : Exit→Sta→Prop}
theorem al_l1 {k0 : Int} {os : List OP} {R : List T} (hR : R.length≤1000000) (hol : os.length≤1000000000000) (how : ∀ o,o ∈ os→∀ t,t ∈ o.l→wfT t) (hos : ∀ o,o ∈ os→o.l.length≤10000000000000)
    (hq : ∀ (H' : Hp) (v : Nat) (st : List (Nat × A)),H' [2] = ⟨1,.cells [iv 0,.sl true [],.sl true []]⟩→H' [3] = ⟨1,.cells [iv k0,.sl true [],.osl [5] v 3 0 R.length]⟩→H' [5] = ⟨v,.arr 3 (R.map tA)⟩→Q (.exit 0) ⟨lk ([(4,.pob [2] 1 0),(6,.pob [3] 1 0),(7,tKs [])] ++ st),H'⟩) :
    ∀ (m k v : Nat) (a u X : List T) (H : Hp),k + m = os.length→ApO OneS (os.drop k) a u→(∀ t,t ∈ a→wfT t)→a.length≤1000000→R = X ++ u→H [2] = ⟨1,.cells [iv 0,.sl true [],.sl true []]⟩→H [3] = ⟨1,.cells [iv k0,.sl true [],.osl [5] v 3 0 X.length]⟩→H [5] = ⟨v,.arr 3 (X.map tA)⟩ →
    LoopC (cx Tryz.prog w0 I0 n0) l1_apply_list Q ⟨lk [(4,.pob [2] 1 0),(6,.pob [3] 1 0),(7,tKs a),(26,oKs os),(27,iv os.length),(28,iv k)],H⟩ := by
  intro m
  induction m with
  | zero =>
    intro k v a u X H hm h ha hal hX h2 h3 h5
    have : k = os.length := by omega
    subst this
    rw [List.drop_length] at h
    cases h
    rw [List.append_nil] at hX
    subst hX
    refine loopC_once mixed l1_apply_list.eq_1 ?_
    simp
    have := hq H v [(26,oKs os),(27,iv os.length),(28,iv os.length),(29,bv false)] h2 h3 h5
    simpa using this
  | succ m ih =>
    intro k v a u X H hm h ha hal hX h2 h3 h5
    have hlt : k < os.length := by omega
    have ew : IntKind.i64.wrap ((k : Int) + 1) = ((k + 1 : Nat) : Int) := by rw [i64_same (by omega) (by omega)]; omega
    have hd : os.drop k = os[k] :: os.drop (k + 1) := (List.getElem_cons_drop hlt).symm
    have hol1 := hos _ (List.getElem_mem hlt)
    have how1 := how _ (List.getElem_mem hlt)
    rw [hd] at h
    have next := ih (k + 1) (v + 1)
    generalize hx : os[k] = o at *
    refine loopC_once mixed l1_apply_list.eq_1 ?_
    have eX : List.take X.length (X.map tA) = X.map tA := List.take_of_length_le (by simp)
    cases h with
    | keep l g =>
      rename_i a u
      have nx := next a u (X ++ l)
      rw [List.length_append] at nx hal
      have c1 : (l.length : Int)≤(l.length : Int) + a.length := by omega
      have c2 : ¬ ((l.length : Int) + a.length < (l.length : Int)) := by omega
      have hR2 : R.length = X.length + (l.length + u.length) := by rw [hX]; simp
      have ea : List.take a.length (a.map tA) = a.map tA := List.take_of_length_le (by simp)
      simp [hlt,hx,updF_app,h3,h5]
      rw [k1_apply_list.eq_1]
      simp [hlt,hx,updF_app,h3,h5,ew,c1,c2,eX,ea]
      refine ⟨by omega,?_⟩
      exact nx _ (by omega) g (fun t ht => ha t (List.mem_append_right _ ht)) (by omega) (by rw [hX]; simp) (by simp [updF_app,h2]) (by simp [updF_app]) (by simp [updF_app])
    | del l mm hn g =>
      rename_i a
      have hlen : l.length = mm.length := by simpa using congrArg List.length hn
      have nx := ih (k + 1) v a u X
      rw [List.length_append] at hal
      have c1 : (l.length : Int)≤(mm.length : Int) + a.length := by omega
      have c2 : ¬ ((mm.length : Int) + a.length < (l.length : Int)) := by omega
      have ea : List.take a.length (a.map tA) = a.map tA := List.take_of_length_le (by simp)
      have et : List.take l.length (mm.map tA ++ a.map tA) = mm.map tA := by rw [hlen]; exact List.take_left' (by simp)
      have ed : List.drop l.length (mm.map tA ++ a.map tA) = a.map tA := by rw [hlen]; exact List.drop_left' (by simp)
      have eL : mm.length + a.length - l.length = a.length := by omega
      have E := eqF_spec (l := l) (m := mm) (fun t ht => how1 t ht) (fun t ht => ha t (List.mem_append_left _ ht)) hn (by have := hol1; show l.length≤_; have h' : l.length≤10000000000000 := hol1; omega)
      simp [hlt,hx,updF_app,h3,h5]
      rw [k1_apply_list.eq_1]
      simp [hlt,hx,updF_app,h3,h5,ew,c1,c2,eX,ea,et,ed,eL]
      refine sc_call E (by simp) ?_
      simp [ew]
      exact nx _ (by omega) g (fun t ht => ha t (List.mem_append_right _ ht)) (by omega) hX (by simp [updF_app,h2]) (by simp [updF_app,h3]) (by simp [updF_app,h5])
    | ins l g =>
      rename_i u
      have nx := next a u (X ++ l)
      rw [List.length_append] at nx
      have hR2 : R.length = X.length + (l.length + u.length) := by rw [hX]; simp
      simp [hlt,hx,updF_app,h3,h5,ew,eX]
      refine ⟨by omega,?_⟩
      simp [InBlock,ew]
      exact nx _ (by omega) g ha (by omega) (by rw [hX]; simp) (by simp [updF_app,h2]) (by simp [updF_app]) (by simp [updF_app])
    | desc e x y r g =>
      rename_i a u
      have nx := next a u (X ++ [y])
      rw [List.length_append,List.length_singleton] at nx
      rw [List.length_cons] at hal
      have hR2 : R.length = X.length + (1 + u.length) := by rw [hX]; simp; omega
      have c1 : (1 : Int)≤(a.length : Int) + 1 := by omega
      have c2 : ¬ ((a.length : Int) + 1 < 1) := by omega
      have ea : List.take a.length (a.map tA) = a.map tA := List.take_of_length_le (by simp)
      simp [hlt,hx,updF_app,h3,h5]
      rw [k1_apply_list.eq_1]
      simp [hlt,hx,updF_app,h3,h5,ew,c1,c2,eX,ea]
      refine sc_call r.2 (by simp) ?_
      simp [hlt,hx,updF_app,h3,h5,ew,c1,c2,eX,ea]
      refine ⟨by omega,?_⟩
      exact nx _ (by omega) g (fun t ht => ha t (List.mem_cons_of_mem _ ht)) (by omega) (by rw [hX]; simp) (by simp [updF_app,h2]) (by simp [updF_app]) (by simp [updF_app])
end
theorem apList_spec {l : Int} {os : List OP} {t : T} {u : List T} (hw : wfT t) (hol : os.length≤1000000000000) (how : ∀ o,o ∈ os→∀ t,t ∈ o.l→wfT t) (hos : ∀ o,o ∈ os→o.l.length≤10000000000000) (hu : u.length≤1000000) (ht : t.kids.length≤1000000) (hk : t.kind = l) (h : ApO OneS os t.kids u) : G.Spec Tryz.prog 54 [eX (.mk 3 T0 T0 [] [] l os),tX t] (.tup [tX (.mk l [] u),bv true]) := by
  obtain ⟨k,w,ks⟩ := t
  have hk : k = l := hk
  subst hk
  refine spec_of t_apply_list (by simp) fun w0 I0 => ?_
  unfold c_apply_list
  simp
  refine LoopC.le (le_blankC (d := [3]) (u := 1) 2 [5] 3 (by simp [updF_app]; rfl) rfl (by simp)) ?_
  refine LoopC.le (le_list [(4,.pob [2] 1 0),(6,.pob [3] 1 0),(7,tKs ks),(26,oKs os),(27,iv os.length),(28,iv (0 : Nat))] (by simp)) ?_
  refine al_l1 (k0 := k) (R := u) hu hol how hos (fun H' v st h2 h3 h5 => ?_) os.length 0 1 ks u [] _ (by omega) (by simpa using h) (fun t ht => (wfT_iff.1 hw).ks t ht) ht rfl (by simp [updF_app]) (by simp [updF_app]) (by simp [updF_app])
  simp [h2,h3]
  refine frz_tup ⟨frz_agg ⟨frz_bare rfl,frz_sl,?_,trivial⟩,frz_bare rfl,trivial⟩
  have := frz_row (H := updF H' [2] ⟨1,.cells [iv k,.sl true [],.osl [5] v 3 0 u.length]⟩) (o := [5]) (u := v) (n := u.length) (sz := 3) (l := u) (f := tA) (by simp [updF_app,h5]) rfl (fun x => by simp)
  exact this
def padW (X : List Int) (i : Nat) : List Int := X ++ List.replicate (i + 1 - X.length) 0
theorem padW_len (X : List Int) (i : Nat) : (padW X i).length = max X.length (i + 1) := by simp [padW]; omega
theorem getD_pad {α : Type} (X : List α) (n : Nat) (z : α) (j : Nat) : (X ++ List.replicate n z).getD j z = X.getD j z := by
  rw [List.getD_eq_getElem?_getD,List.getD_eq_getElem?_getD]
  by_cases h : j < X.length
  · rw [List.getElem?_append_left h]
  · rw [List.getElem?_append_right (by omega),List.getElem?_eq_none (l := X) (by omega)]
    by_cases h2 : j - X.length < n
    · rw [List.getElem?_replicate,if_pos h2]; rfl
    · rw [List.getElem?_replicate,if_neg h2]
theorem getD_set {α : Type} (X : List α) (i : Nat) (u z : α) (hi : i < X.length) (j : Nat) : (X.set i u).getD j z = if j = i then u else X.getD j z := by
  rw [List.getD_eq_getElem?_getD,List.getD_eq_getElem?_getD,List.getElem?_set]
  by_cases h : i = j
  · subst h
    rw [if_pos rfl,if_pos hi,if_pos rfl]; rfl
  · rw [if_neg h,if_neg (Ne.symm h)]
def apW (a : List Int) : List WE→List Int→List Int
  | [],X => X
  | w :: ws,X => apW a ws ((padW X w.at_.toNat).set w.at_.toNat (mixZ (a.getD w.at_.toNat 0) w.new w.mask))
theorem apW_ld {a b : List Int} {p : Nat} {ws : List WE} (h : LdW a b p ws) : ∀ X : List Int,(∀ j,j < p→X.getD j 0 = b.getD j 0)→(∀ j,p≤j→X.getD j 0 = a.getD j 0)→(∀ j,(apW a ws X).getD j 0 = b.getD j 0)∧(apW a ws X).length≤max X.length (max a.length b.length) := by
  induction h with
  | nil p h =>
    intro X h1 h2
    refine ⟨fun j => ?_,by show X.length≤_; omega⟩
    by_cases hj : j < p
    · exact h1 j hj
    · rw [show (apW a [] X) = X from rfl,h2 j (by omega),h j (by omega)]
  | cons p i m o n ws hp h hi hm ho hn g1 g2 _ ih =>
    intro X h1 h2
    have hl : i < (padW X i).length := by rw [padW_len]; omega
    have e : apW a (⟨i,m,o,n⟩ :: ws) X = apW a ws ((padW X i).set i (b.getD i 0)) := by
      show apW a ws ((padW X ((i : Int)).toNat).set ((i : Int)).toNat (mixZ (a.getD ((i : Int)).toNat 0) n m)) = _
      rw [Int.toNat_natCast,g1]
    have gs : ∀ j,((padW X i).set i (b.getD i 0)).getD j 0 = if j = i then b.getD i 0 else X.getD j 0 := fun j => by
      rw [getD_set _ _ _ _ hl]
      unfold padW
      rw [getD_pad]
    obtain ⟨k1,k2⟩ := ih ((padW X i).set i (b.getD i 0)) (fun j hj => by
      rw [gs]
      by_cases e : j = i
      · rw [if_pos e,e]
      · rw [if_neg e]
        by_cases hjp : j < p
        · exact h1 j hjp
        · rw [h2 j (by omega),h j (by omega) (by omega)]) (fun j hj => by
      rw [gs,if_neg (by omega)]
      exact h2 j (by omega))
    rw [e]
    refine ⟨k1,Nat.le_trans k2 ?_⟩
    rw [List.length_set,padW_len]
    omega
theorem apW_u64 {a : List Int} : ∀ (ws : List WE) (X : List Int),(∀ x,x ∈ X→u64R x)→∀ x,x ∈ apW a ws X→u64R x
  | [],X,h => h
  | w :: ws,X,h => by
    refine apW_u64 ws _ fun x hx => ?_
    rcases List.mem_or_eq_of_mem_set hx with hx | rfl
    · unfold padW at hx
      rcases List.mem_append.1 hx with hx | hx
      · exact h x hx
      · rw [List.eq_of_mem_replicate hx]
        exact ⟨by omega,by omega⟩
    · exact mixZ_in _ _ _
abbrev KI := Bool × T
def kiT (x : KI) : T := if x.1 = true then T0 else x.2
def kiC (x : KI) : List A := if x.1 = true then [iv 0,.sl true [],.sl true []] else [iv x.2.kind,uws x.2.words,tKs x.2.kids]
def kiA (x : KI) : A := .agg (kiC x)
@[simp] theorem kiA_cells {x : KI} : (kiA x).cells = kiC x := rfl
@[simp] theorem kiC_len {x : KI} : (kiC x).length = 3 := by unfold kiC; split <;> rfl
def padK (Z : List KI) (i : Nat) : List KI := Z ++ List.replicate (i + 1 - Z.length) (true,T0)
theorem padK_len (Z : List KI) (i : Nat) : (padK Z i).length = max Z.length (i + 1) := by simp [padK]; omega
def apK : List KE→List T→List KI→List KI
  | x :: ks,u :: us,Z => apK ks us ((padK Z x.at_.toNat).set x.at_.toNat (false,u))
  | _,_,Z => Z
inductive ApK (P : E→T→T→Prop) (a : List T) : List KE→List T→Prop
  | nil : ApK P a [] []
  | cons (i : Nat) (e : E) (u : T) (ks : List KE) (us : List T) (h : P e (a.getD i T0) u) (g : ApK P a ks us) : ApK P a (.mk i e :: ks) (u :: us)
theorem apK_ld {R P : E→T→T→Prop} {a b : List T} {p : Nat} {ks : List KE} (h : LdK R a b p ks) : (∀ x,x ∈ ks→∀ i,R x.e (a.getD i T0) (b.getD i T0)→∃ u,P x.e (a.getD i T0) u∧norm u = norm (b.getD i T0))→∃ us,ApK P a ks us∧∀ Z : List KI,(∀ j,j < p→norm ((Z.map kiT).getD j T0) = norm (b.getD j T0))→(∀ j,p≤j→norm ((Z.map kiT).getD j T0) = norm (a.getD j T0))→(∀ j,norm (((apK ks us Z).map kiT).getD j T0) = norm (b.getD j T0))∧(apK ks us Z).length≤max Z.length (max a.length b.length) := by
  induction h with
  | nil p h =>
    intro _
    refine ⟨[],.nil,fun Z h1 h2 => ⟨fun j => ?_,by show Z.length≤_; omega⟩⟩
    by_cases hj : j < p
    · exact h1 j hj
    · rw [show apK [] [] Z = Z from rfl,h2 j (by omega),h j (by omega)]
  | cons p i e ks hp h hi he hr _ ih =>
    intro hP
    obtain ⟨u,k1,k2⟩ := hP (.mk i e) (by simp) i hr
    obtain ⟨us,k3,k4⟩ := ih fun x hx => hP x (List.mem_cons_of_mem _ hx)
    refine ⟨u :: us,.cons i e u ks us k1 k3,fun Z h1 h2 => ?_⟩
    have hl : i < (padK Z i).length := by rw [padK_len]; omega
    have ee : apK (.mk i e :: ks) (u :: us) Z = apK ks us ((padK Z i).set i (false,u)) := by
      show apK ks us ((padK Z ((i : Int)).toNat).set ((i : Int)).toNat (false,u)) = _
      rw [Int.toNat_natCast]
    have gs : ∀ j,(((padK Z i).set i (false,u)).map kiT).getD j T0 = if j = i then u else (Z.map kiT).getD j T0 := fun j => by
      rw [List.map_set,getD_set _ _ _ _ (by rw [List.length_map]; exact hl)]
      have e1 : (padK Z i).map kiT = Z.map kiT ++ List.replicate (i + 1 - Z.length) T0 := by
        unfold padK
        rw [List.map_append,List.map_replicate]
        rfl
      rw [e1,getD_pad]
      rfl
    obtain ⟨g1,g2⟩ := k4 ((padK Z i).set i (false,u)) (fun j hj => by
      rw [gs]
      by_cases ej : j = i
      · rw [if_pos ej,ej,k2]
      · rw [if_neg ej]
        by_cases hjp : j < p
        · exact h1 j hjp
        · rw [h2 j (by omega),h j (by omega) (by omega)]) (fun j hj => by
      rw [gs,if_neg (by omega)]
      exact h2 j (by omega))
    rw [ee]
    refine ⟨g1,Nat.le_trans g2 ?_⟩
    rw [List.length_set,padK_len]
    omega
theorem apK_all {Q : T→Prop} (h0 : Q T0) : ∀ (ks : List KE) (us : List T) (Z : List KI),(∀ u,u ∈ us→Q u)→(∀ z,z ∈ Z→Q (kiT z))→∀ z,z ∈ apK ks us Z→Q (kiT z)
  | [],_,Z,_,h => by
    intro z hz
    exact h z (by simpa [apK] using hz)
  | x :: ks,[],Z,_,h => by
    intro z hz
    exact h z (by simpa [apK] using hz)
  | x :: ks,u :: us,Z,hu,h => by
    refine apK_all h0 ks us _ (fun v hv => hu v (List.mem_cons_of_mem _ hv)) fun z hz => ?_
    rcases List.mem_or_eq_of_mem_set hz with hz | rfl
    · unfold padK at hz
      rcases List.mem_append.1 hz with hz | hz
      · exact h z hz
      · rw [List.eq_of_mem_replicate hz]
        exact h0
    · exact hu u (by simp)
section
variable {n0 : Nat} {w0 : World} {I0 : Nat→Prop} {Q : Exit→Sta→Prop}
theorem as_l1 {X0 : List Int} {i w : Nat} {c0 c1 c2 : A} {K B L : A} {N k : Nat} (hX : X0.length≤1000000) (hi : i≤1000000) {H0 : Hp} (h4 : H0 [4] = ⟨w,.cells [iv i,c0,c1,c2]⟩)
    (hq : ∀ (H' : Hp) (v : Nat),H' [3] = ⟨1,.cells [iv 1,.osl [15] v 1 0 (padW X0 i).length,K]⟩→H' [15] = ⟨v,.arr 1 ((padW X0 i).map uv)⟩→(∀ o,o ≠ [3]→o ≠ [15]→H' o = H0 o)→Q (.exit 2) ⟨lk [(2,.pob [0] 1 0),(3,.pob [1] 1 0),(4,.pob [2] 1 0),(6,.pob [3] 1 0),(8,.pob [4] w 0),(9,B),(26,L),(27,iv N),(28,iv k),(49,bv false)],H'⟩) :
    ∀ (j n v : Nat) (H : Hp),n + j = i + 1 - X0.length→H [3] = ⟨1,.cells [iv 1,.osl [15] v 1 0 (X0.length + n),K]⟩→H [15] = ⟨v,.arr 1 ((X0 ++ List.replicate n 0).map uv)⟩→(∀ o,o ≠ [3]→o ≠ [15]→H o = H0 o) →
    LoopC (cx Tryz.prog w0 I0 n0) l1_apply_structure Q ⟨lk [(2,.pob [0] 1 0),(3,.pob [1] 1 0),(4,.pob [2] 1 0),(6,.pob [3] 1 0),(8,.pob [4] w 0),(9,B),(26,L),(27,iv N),(28,iv k)],H⟩ := by
  intro j
  induction j with
  | zero =>
    intro n v H hm h3 h15 hH
    have g4 := hH [4] (by simp) (by simp)
    rw [h4] at g4
    have hp : padW X0 i = X0 ++ List.replicate n 0 := by unfold padW; rw [← hm]; rfl
    have hc : ¬ ((X0.length : Int) + n≤i) := by omega
    refine loopC_once mixed l1_apply_structure.eq_1 ?_
    simp [h3,g4,hc]
    refine hq H v (by rw [hp]; simpa using h3) (by rw [hp]; exact h15) hH
  | succ j ih =>
    intro n v H hm h3 h15 hH
    have g4 := hH [4] (by simp) (by simp)
    rw [h4] at g4
    have hc : (X0.length : Int) + n≤i := by omega
    refine loopC_once mixed l1_apply_structure.eq_1 ?_
    simp [h3,g4,hc,h15,updF_app]
    refine ⟨by omega,?_⟩
    refine ih (n + 1) (v + 1) _ (by omega) (by simp [updF_app]; omega) ?_ (fun o h1 h2 => by simp [updF_app,h1,h2,hH])
    simp [updF_app,List.replicate_succ']
    rw [List.take_of_length_le (by simp)]
    simp
theorem as_l2 {t : T} (ht : wfT t) {ws : List WE} (hwl : ws.length≤10000000000000) {b R : List Int} {K : A} {v0 v2 v16 : VOb} (hb : max t.words.length b.length≤900000) (hws : ∀ x,x ∈ ws→u64R x.old∧u64R x.new)
    (hq : ∀ (H' : Hp) (v : Nat) (st : List (Nat × A)),H' [0] = v0→H' [1] = ⟨1,.cells (tL t)⟩→H' [2] = v2→H' [3] = ⟨1,.cells [iv 1,.osl [15] v 1 0 R.length,K]⟩→H' [15] = ⟨v,.arr 1 (R.map uv)⟩→H' [16] = v16→Q (.exit 0) ⟨lk ([(2,.pob [0] 1 0),(3,.pob [1] 1 0),(4,.pob [2] 1 0),(6,.pob [3] 1 0)] ++ st),H'⟩) :
    ∀ (m k p v : Nat) (X : List Int) (H : Hp),k + m = ws.length→LdW t.words b p (ws.drop k)→R = apW t.words (ws.drop k) X→X.length≤900000→H [0] = v0→H [1] = ⟨1,.cells (tL t)⟩→H [2] = v2→H [3] = ⟨1,.cells [iv 1,.osl [15] v 1 0 X.length,K]⟩→H [15] = ⟨v,.arr 1 (X.map uv)⟩→H [16] = v16 →
    LoopC (cx Tryz.prog w0 I0 n0) l2_apply_structure Q ⟨lk [(2,.pob [0] 1 0),(3,.pob [1] 1 0),(4,.pob [2] 1 0),(6,.pob [3] 1 0),(26,wKs ws),(27,iv ws.length),(28,iv k)],H⟩ := by
  have z0 : u64R 0 := ⟨by decide,by decide⟩
  intro m
  induction m with
  | zero =>
    intro k p v X H hm hL hR hX h0 h1 h2 h3 h15 h16
    have : k = ws.length := by omega
    subst this
    rw [List.drop_length] at hR
    have hR : R = X := hR
    subst hR
    refine loopC_once mixed l2_apply_structure.eq_1 ?_
    simp
    have := hq H v [(26,wKs ws),(27,iv ws.length),(28,iv ws.length),(29,bv false)] h0 h1 h2 h3 h15 h16
    simpa using this
  | succ m ih =>
    intro k p v X H hm hL hR hX h0 h1 h2 h3 h15 h16
    have hlt : k < ws.length := by omega
    have ew : IntKind.i64.wrap ((k : Int) + 1) = ((k + 1 : Nat) : Int) := by rw [i64_same (by omega) (by omega)]; omega
    have hd : ws.drop k = ws[k] :: ws.drop (k + 1) := (List.getElem_cons_drop hlt).symm
    rw [hd] at hL hR
    have hwo := hws _ (List.getElem_mem hlt)
    have next := ih (k + 1)
    generalize hx : ws[k] = x at *
    cases hL with
    | cons _ i mk o n _ hp hh hi hmk ho hn g1 g2 g =>
      have hwa := u64_getD (wfT_iff.1 ht).w i
      have M1 := pMix_spec (mask := mk) z0 hwa (by omega) (by omega)
      have M2 := pMix_spec (mask := mk) hwa hwo.2 (by omega) (by omega)
      have W1 := treeWord_spec t i
      simp only at M2
      rw [ho] at M1
      rw [g1] at M2
      have hl : i < (padW X i).length := by rw [padW_len]; omega
      have hR' : R = apW t.words (ws.drop (k + 1)) ((padW X i).set i (b.getD i 0)) := by
        rw [hR]
        show apW t.words _ ((padW X ((i : Int)).toNat).set ((i : Int)).toNat (mixZ (t.words.getD ((i : Int)).toNat 0) n mk)) = _
        rw [Int.toNat_natCast,g1]
      refine loopC_once mixed l2_apply_structure.eq_1 ?_
      simp [hlt,hx,updF_app,h1]
      refine sc_call W1 (by simp) ?_
      simp [updF_app]
      refine sc_call M1 (by simp) ?_
      simp [updF_app]
      refine as_l1 (X0 := X) (i := i) (w := (H [4]).u + 1) (c0 := u8 mk) (c1 := uv o) (c2 := uv n) (K := K) (by omega) (by omega) (H0 := updF H [4] ⟨(H [4]).u + 1,.cells [iv i,u8 mk,uv o,uv n]⟩) (by simp [updF_app]) (fun H' v' k3 k15 kH => ?_) (i + 1 - X.length) 0 v _ (by omega) (by simp [updF_app,h3]) (by simp [updF_app,h15]) (fun o _ _ => rfl)
      have k4 := kH [4] (by simp) (by simp)
      have k0 := kH [0] (by simp) (by simp)
      have k1 := kH [1] (by simp) (by simp)
      have k2 := kH [2] (by simp) (by simp)
      have k16 := kH [16] (by simp) (by simp)
      simp [updF_app] at k4 k0 k1 k2 k16
      simp [k3,k4]
      refine sc_call M2 (by simp) ?_
      simp [k3,k15,k4,hl,ew]
      refine next (i + 1) v' ((padW X i).set i (b.getD i 0)) _ (by omega) g hR' (by rw [List.length_set,padW_len]; omega) (by simp [updF_app,k0,h0]) (by simp [updF_app,k1,h1]) (by simp [updF_app,k2,h2]) (by simp [updF_app,k3]) (by simp [updF_app,List.map_set]) (by simp [updF_app,k16,h16])
theorem as_l3 {Z0 : List KI} {i w w7 : Nat} {c4 : List A} {K : A} {L : A} {N k : Nat} (hZ : Z0.length≤1000000) (hi : i≤1000000) {H0 : Hp} (h6 : H0 [6] = ⟨w,.cells (iv i :: c4)⟩)
    (hq : ∀ (H' : Hp) (v : Nat),H' [3] = ⟨1,.cells [iv 1,K,.osl [16] v 3 0 (padK Z0 i).length]⟩→H' [16] = ⟨v,.arr 3 ((padK Z0 i).map kiA)⟩→(∀ o,o ≠ [3]→o ≠ [16]→H' o = H0 o)→Q (.exit 6) ⟨lk [(3,.pob [1] 1 0),(4,.pob [2] 1 0),(6,.pob [3] 1 0),(11,.pob [6] w 0),(12,.pob [7] w7 0),(68,L),(69,iv N),(70,iv k),(92,bv false)],H'⟩) :
    ∀ (j n v : Nat) (H : Hp),n + j = i + 1 - Z0.length→H [3] = ⟨1,.cells [iv 1,K,.osl [16] v 3 0 (Z0.length + n)]⟩→H [16] = ⟨v,.arr 3 ((Z0 ++ List.replicate n (true,T0)).map kiA)⟩→(∀ o,o ≠ [3]→o ≠ [16]→H o = H0 o) →
    LoopC (cx Tryz.prog w0 I0 n0) l3_apply_structure Q ⟨lk [(3,.pob [1] 1 0),(4,.pob [2] 1 0),(6,.pob [3] 1 0),(11,.pob [6] w 0),(12,.pob [7] w7 0),(68,L),(69,iv N),(70,iv k)],H⟩ := by
  intro j
  induction j with
  | zero =>
    intro n v H hm h3 h16 hH
    have g6 := hH [6] (by simp) (by simp)
    rw [h6] at g6
    have hp : padK Z0 i = Z0 ++ List.replicate n (true,T0) := by unfold padK; rw [← hm]; rfl
    have hc : ¬ ((Z0.length : Int) + n≤i) := by omega
    refine loopC_once mixed l3_apply_structure.eq_1 ?_
    simp [h3,g6,hc]
    refine hq H v (by rw [hp]; simpa using h3) (by rw [hp]; exact h16) hH
  | succ j ih =>
    intro n v H hm h3 h16 hH
    have g6 := hH [6] (by simp) (by simp)
    rw [h6] at g6
    have hc : (Z0.length : Int) + n≤i := by omega
    refine loopC_once mixed l3_apply_structure.eq_1 ?_
    simp [h3,g6,hc,h16,updF_app]
    refine ⟨by omega,?_⟩
    refine ih (n + 1) (v + 1) _ (by omega) (by simp [updF_app]; omega) ?_ (fun o h1 h2 => by simp [updF_app,h1,h2,hH])
    simp [updF_app,List.replicate_succ']
    rw [List.take_of_length_le (by simp)]
    simp [kiA,kiC]
theorem as_l4 {t : T} {ks : List KE} (hkl : ks.length≤10000000000000) {Z1 : List KI} {K : A} {v2 v15 : VOb} (hat : ∀ x,x ∈ ks→0≤x.at_∧x.at_≤900000)
    (hq : ∀ (H' : Hp) (v : Nat) (st : List (Nat × A)),H' [2] = v2→H' [3] = ⟨1,.cells [iv 1,K,.osl [16] v 3 0 Z1.length]⟩→H' [16] = ⟨v,.arr 3 (Z1.map kiA)⟩→H' [15] = v15→Q (.exit 4) ⟨lk ([(3,.pob [1] 1 0),(4,.pob [2] 1 0),(6,.pob [3] 1 0)] ++ st),H'⟩) :
    ∀ (m k v : Nat) (us : List T) (Z : List KI) (H : Hp),k + m = ks.length→ApK OneS t.kids (ks.drop k) us→Z1 = apK (ks.drop k) us Z→Z.length≤900001→H [1] = ⟨1,.cells (tL t)⟩→H [2] = v2→H [3] = ⟨1,.cells [iv 1,K,.osl [16] v 3 0 Z.length]⟩→H [16] = ⟨v,.arr 3 (Z.map kiA)⟩→H [15] = v15 →
    LoopC (cx Tryz.prog w0 I0 n0) l4_apply_structure Q ⟨lk [(3,.pob [1] 1 0),(4,.pob [2] 1 0),(6,.pob [3] 1 0),(68,kKs ks),(69,iv ks.length),(70,iv k)],H⟩ := by
  intro m
  induction m with
  | zero =>
    intro k v us Z H hm hA hR hZ h1 h2 h3 h16 h15
    have : k = ks.length := by omega
    subst this
    rw [List.drop_length] at hR hA
    cases hA
    have hR : Z1 = Z := hR
    subst hR
    refine loopC_once mixed l4_apply_structure.eq_1 ?_
    simp
    have := hq H v [(68,kKs ks),(69,iv ks.length),(70,iv ks.length),(71,bv false)] h2 h3 h16 h15
    simpa using this
  | succ m ih =>
    intro k v us Z H hm hA hR hZ h1 h2 h3 h16 h15
    have hlt : k < ks.length := by omega
    have ew : IntKind.i64.wrap ((k : Int) + 1) = ((k + 1 : Nat) : Int) := by rw [i64_same (by omega) (by omega)]; omega
    have hd : ks.drop k = ks[k] :: ks.drop (k + 1) := (List.getElem_cons_drop hlt).symm
    rw [hd] at hA hR
    have ha := hat _ (List.getElem_mem hlt)
    have next := ih (k + 1)
    generalize hx : ks[k] = x at *
    cases hA with
    | cons i e u _ us h g =>
      have ha : (0 : Int)≤(i : Nat)∧((i : Nat) : Int)≤900000 := ha
      have K1 := treeKid_spec t i
      have hl : i < (padK Z i).length := by rw [padK_len]; omega
      have hR' : Z1 = apK (ks.drop (k + 1)) us ((padK Z i).set i (false,u)) := by
        rw [hR]
        show apK _ us ((padK Z ((i : Int)).toNat).set ((i : Int)).toNat (false,u)) = _
        rw [Int.toNat_natCast]
      refine loopC_once mixed l4_apply_structure.eq_1 ?_
      simp [hlt,hx,updF_app,h1]
      refine sc_call K1 (by simp) ?_
      simp [updF_app]
      refine sc_call h.2 (by simp) ?_
      simp [updF_app]
      refine as_l3 (Z0 := Z) (i := i) (w := (H [6]).u + 1) (w7 := (H [7]).u + 1) (c4 := eL e) (K := K) (by omega) (by omega) (H0 := updF (updF H [6] ⟨(H [6]).u + 1,.cells (iv i :: eL e)⟩) [7] ⟨(H [7]).u + 1,.cells (tL u)⟩) (by simp [updF_app]) (fun H' v' k3 k16 kH => ?_) (i + 1 - Z.length) 0 v _ (by omega) (by simp [updF_app,h3]) (by simp [updF_app,h16]) (fun o _ _ => by rfl)
      have k6 := kH [6] (by simp) (by simp)
      have k7 := kH [7] (by simp) (by simp)
      have k1 := kH [1] (by simp) (by simp)
      have k2 := kH [2] (by simp) (by simp)
      have k15 := kH [15] (by simp) (by simp)
      simp [updF_app] at k6 k7 k1 k2 k15
      simp [k3,k6,k7,k16,hl,ew]
      refine next v' us ((padK Z i).set i (false,u)) _ (by omega) g hR' (by rw [List.length_set,padK_len]; omega) (by simp [updF_app,k1,h1]) (by simp [updF_app,k2,h2]) (by simp [updF_app,k3]) (by simp [updF_app,List.map_set]; rfl) (by simp [updF_app,k15,h15])
end
theorem ki_raw (l : List T) : (l.map fun k => ((false,k) : KI)).map kiA = l.map tA := by
  rw [List.map_map]
  exact List.map_congr_left fun k _ => by simp [kiA,kiC]
theorem ki_rawT (l : List T) : (l.map fun k => ((false,k) : KI)).map kiT = l := by
  rw [List.map_map]
  exact List.map_id'' (fun k => by simp [kiT]) l
theorem apStr_spec {ws : List WE} {ks : List KE} {t : T} {b : List Int} {us : List T} (ht : wfT t) (hk : t.kind = 1) (hwl : ws.length≤10000000000000) (hkl : ks.length≤10000000000000) (hl : t.kids.length≤900000) (hb : max t.words.length b.length≤900000) (hws : ∀ x,x ∈ ws→u64R x.old∧u64R x.new) (hat : ∀ x,x ∈ ks→0≤x.at_∧x.at_≤900000) (hW : LdW t.words b 0 ws) (hK : ApK OneS t.kids ks us) :
    G.Spec Tryz.prog 53 [eX (.mk 2 T0 T0 ws ks 0 []),tX t] (.tup [tX (.mk 1 (apW t.words ws t.words) ((apK ks us (t.kids.map fun k => (false,k))).map kiT)),bv true]) := by
  have C1 := cloneW_spec t.words (by omega)
  have C2 := cloneK_spec t.kids (by omega)
  have hkr := ki_raw t.kids
  generalize hZ : (t.kids.map fun k => ((false,k) : KI)) = Z at *
  have hZl : Z.length = t.kids.length := by rw [← hZ]; simp
  refine spec_of t_apply_structure (by simp) fun w0 I0 => ?_
  unfold c_apply_structure
  simp [hk]
  refine sc_fam 15 C1 (fun p => by simp) (by simp) (by simp) ?_
  simp
  refine ⟨by decide,?_⟩
  refine sc_fam 16 C2 (fun p => by simp) (by simp) (by simp) ?_
  simp
  refine ⟨⟨by decide,by decide⟩,?_⟩
  refine LoopC.le (le_list [(2,.pob [0] 1 0),(3,.pob [1] 1 0),(4,.pob [2] 1 0),(6,.pob [3] 1 0),(26,wKs ws),(27,iv ws.length),(28,iv (0 : Nat))] (by simp)) ?_
  refine as_l2 (t := t) (b := b) (R := apW t.words ws t.words) (K := .osl [16] 1 3 0 t.kids.length) (v0 := ⟨1,.cells (eL (.mk 2 T0 T0 ws ks 0 []))⟩) (v2 := ⟨1,.cells [iv 0,.sl true [],.sl true []]⟩) (v16 := ⟨1,.arr 3 (Z.map kiA)⟩) ht hwl hb hws (fun H' v st h0 h1 h2 h3 h15 h16 => ?_) ws.length 0 0 1 t.words _ (by omega) (by simpa using hW) (by simp) (by omega) (by simp [updF_app]) (by simp [updF_app,hk]) (by simp [updF_app]) (by simp [updF_app]) (by simp [updF_app]) (by simp [updF_app,hkr])
  simp [h0]
  refine LoopC.le (le_list [(3,.pob [1] 1 0),(4,.pob [2] 1 0),(6,.pob [3] 1 0),(68,kKs ks),(69,iv ks.length),(70,iv (0 : Nat))] (by simp)) ?_
  rw [← hZl] at h3
  refine as_l4 (t := t) (Z1 := apK ks us Z) (K := .osl [15] v 1 0 (apW t.words ws t.words).length) (v2 := ⟨1,.cells [iv 0,.sl true [],.sl true []]⟩) (v15 := ⟨v,.arr 1 ((apW t.words ws t.words).map uv)⟩) hkl hat (fun H2 v2 st2 k2 k3 k16 k15 => ?_) ks.length 0 1 us Z _ (by omega) (by simpa using hK) (by simp) (by omega) h1 h2 h3 h16 h15
  simp [k2,k3]
  refine frz_tup ⟨frz_agg ⟨frz_bare rfl,?_,?_,trivial⟩,frz_bare rfl,trivial⟩
  · exact frz_row (o := [15]) (u := v) (n := (apW t.words ws t.words).length) (sz := 1) (l := apW t.words ws t.words) (f := uv) (by simp [updF_app,k15]) rfl (fun x => by simp)
  · have := frz_rowS (H := updF H2 [2] ⟨1,.cells [iv 1,.osl [15] v 1 0 (apW t.words ws t.words).length,.osl [16] v2 3 0 (apK ks us Z).length]⟩) (o := [16]) (u := v2) (n := (apK ks us Z).length) (sz := 3) (l := apK ks us Z) (f := kiA) (g := fun z => tA (kiT z)) (by simp [updF_app,k16]) rfl (fun x _ => by
      obtain ⟨c,t⟩ := x
      cases c <;> simp [kiC,kiT,A.soft,A.softL,soft_uv,soft_tKs])
    show Frz _ _ (.sl false (((apK ks us Z).map kiT).map tA))
    rw [List.map_map]
    exact this
abbrev at26 (x : Int) : T := .mk 10 [x] []
abbrev ls26 (l : List Int) : T := .mk 4 [] (l.map at26)
theorem same_at26 (x y : Int) : sameB (at26 x) (at26 y) = decide (x = y) := by
  rw [Bool.eq_iff_iff,sameB_iff]
  simp
theorem norm_at26 (x : Int) : norm (at26 x) = at26 x := by simp [norm_mk]
theorem norm_ls26 (l : List Int) : norm (ls26 l) = ls26 l := by
  rw [norm_mk]
  simp [Function.comp_def,norm_at26]
theorem eq_ls26 : eqT (ls26 [1,2,3]) (ls26 [1,9,3]) = false := by
  rw [Bool.eq_false_iff]
  intro h
  rw [eqT_iff,norm_ls26,norm_ls26] at h
  simp at h
theorem cls_a26 : clsL [] [at26 1,at26 2,at26 3] = ([at26 1,at26 2,at26 3],[0,1,2]) := by
  simp [clsL,clsI,clsK,norm_at26,same_at26,List.findIdx_cons]
theorem cls_b26 : clsL [at26 1,at26 2,at26 3] [at26 1,at26 9,at26 3] = ([at26 1,at26 2,at26 3,at26 9],[0,3,2]) := by
  simp [clsL,clsI,clsK,norm_at26,same_at26,List.findIdx_cons]
theorem ca_26 : caL (ls26 [1,2,3]) = [0,1,2] := by
  show zsN (clsL [] [at26 1,at26 2,at26 3]).2 = _
  rw [cls_a26]; rfl
theorem cb_26 : cbL (ls26 [1,2,3]) (ls26 [1,9,3]) = [0,3,2] := by
  show zsN (clsL (clsL [] [at26 1,at26 2,at26 3]).1 [at26 1,at26 9,at26 3]).2 = _
  rw [cls_a26]
  show zsN (clsL [at26 1,at26 2,at26 3] [at26 1,at26 9,at26 3]).2 = _
  rw [cls_b26]; rfl
theorem dist_26 : distL [0,1,2] [0,3,2] = 2 := by decide
theorem way_26 : nrmS (wayU [0,1,2] [0,3,2]) = [⟨0,1⟩,⟨1,1⟩,⟨2,1⟩,⟨0,1⟩] := by rfl
theorem gap_26 (one : T→T→E) : gapE one [at26 2] [at26 9] = [.mk 1 0 [at26 2] E0,.mk 2 0 [at26 9] E0] := by
  have hs : scR [at26 2] [at26 9] = [[0]] := by simp [scR,scoreT]
  have hp : pkG (scR [at26 2] [at26 9]) = [] := by
    obtain ⟨h,_⟩ := pkO_ok (scR [at26 2] [at26 9])
    have h2 := (picks_facts h).2
    have : pkO (scR [at26 2] [at26 9]) = [] := by
      apply List.eq_nil_iff_forall_not_mem.2
      intro x hx
      have := h2 x hx
      rw [hs] at this
      simp [candS,candR] at this
    unfold pkG
    rw [this]; rfl
  unfold gapE
  rw [hp]
  simp [gapO,delO,insO]
theorem df_26 : dfE 9 (ls26 [1,2,3]) (ls26 [1,9,3]) = .mk 3 T0 T0 [] [] 4 [.mk 0 1 [] E0,.mk 1 0 [at26 2] E0,.mk 2 0 [at26 9] E0,.mk 0 1 [] E0] := by
  unfold dfE
  rw [norm_ls26,norm_ls26,show (1000 : Nat) = 999 + 1 from rfl,oneE,eq_ls26]
  rw [if_neg (by simp),if_neg (by simp),if_pos (by simp),listE_eq]
  unfold lstO
  rw [ca_26,cb_26,dist_26,way_26,if_pos (by omega)]
  rw [opsG_keep rfl,opsG_gap rfl rfl,opsG_keep rfl]
  have e : gapE (oneE 9 999) (((ls26 [1,2,3]).kids.drop 1).take 1) (((ls26 [1,9,3]).kids.drop 1).take 1) = [.mk 1 0 [at26 2] E0,.mk 2 0 [at26 9] E0] := gap_26 _
  show nEd (E.mk 3 T0 T0 [] [] 4 (opsG (gapE (oneE 9 999)) [] _ _ ([] ++ [OP.mk 0 ((1 : Nat) : Int) [] E0] ++ gapE (oneE 9 999) (((ls26 [1,2,3]).kids.drop 1).take 1) (((ls26 [1,9,3]).kids.drop 1).take 1) ++ [OP.mk 0 ((1 : Nat) : Int) [] E0]))) = _
  rw [e,opsG,nEd_mk]
  simp [nOP,opsW,kpO,flO,delO,insO,norm_at26,nEd_mk]
def at26R (x : Int) : A := .agg [iv 10,.sl true [uv x],.sl true []]
@[simp] theorem at26R_cells (x : Int) : (at26R x).cells = [iv 10,.sl true [uv x],.sl true []] := rfl
theorem lens_at26 {l : List Int} : lens 3 (l.map at26R) = true := by rw [lens_all]; simp
section
variable {n0 : Nat} {w0 : World} {I0 : Nat→Prop} {Q : Exit→Sta→Prop}
theorem aw26_l1 {l : List Int} (hl : l.length≤1000) (hq : ∀ (H' : Hp) (v : Nat) (st : List (Nat × A)),H' [0] = ⟨1,.cells [iv 0,.sl true [],.sl true []]⟩→H' [1] = ⟨1,.cells [iv 4,.sl true [],.osl [2] v 3 0 l.length]⟩→H' [2] = ⟨v,.arr 3 (l.map at26R)⟩→Q (.exit 0) ⟨lk ([(0,uws l),(2,.pob [0] 1 0),(3,.pob [1] 1 0)] ++ st),H'⟩) :
    ∀ (m i v : Nat) (H : Hp),i + m = l.length→H [0] = ⟨1,.cells [iv 0,.sl true [],.sl true []]⟩→H [1] = ⟨1,.cells [iv 4,.sl true [],.osl [2] v 3 0 i]⟩→H [2] = ⟨v,.arr 3 ((l.take i).map at26R)⟩ →
    LoopC (cx Tryz.prog w0 I0 n0) l1_centolaw26_awake_1 Q ⟨lk [(0,uws l),(2,.pob [0] 1 0),(3,.pob [1] 1 0),(4,iv i)],H⟩ := by
  intro m
  induction m with
  | zero =>
    intro i v H hm h0 h1 h2
    have : i = l.length := by omega
    subst this
    rw [List.take_of_length_le (Nat.le_refl _)] at h2
    refine loopC_once mixed l1_centolaw26_awake_1.eq_1 ?_
    simp
    have := hq H v [(4,iv l.length),(9,bv false)] h0 h1 h2
    simpa using this
  | succ m ih =>
    intro i v H hm h0 h1 h2
    have hlt : i < l.length := by omega
    have ew : IntKind.i64.wrap ((i : Int) + 1) = ((i + 1 : Nat) : Int) := by rw [i64_same (by omega) (by omega)]; omega
    have htk : l.take (i + 1) = l.take i ++ [l[i]] := List.take_succ_eq_append_getElem hlt
    have next := ih (i + 1) (v + 1)
    rw [htk,List.map_append] at next
    refine loopC_once mixed l1_centolaw26_awake_1.eq_1 ?_
    simp [hlt,h1,h2,ew,updF_app,lens_at26]
    refine ⟨by omega,?_⟩
    refine next _ (by omega) (by simp [updF_app,h0]) (by simp [updF_app]) ?_
    rw [List.take_of_length_le (by simp; omega)]
    simp [updF_app,at26R]
end
theorem aw26_one {l : List Int} (hl : l.length≤1000) : G.Spec Tryz.prog 23 [uws l] (tX (ls26 l)) := by
  refine spec_of t_centolaw26_awake_1 (by simp) fun w0 I0 => ?_
  unfold c_centolaw26_awake_1
  simp
  refine LoopC.le (le_blankC (d := [1]) (u := 1) 2 [2] 3 (by simp [updF_app]; rfl) rfl (by simp)) ?_
  refine LoopC.le (le_list [(0,uws l),(2,.pob [0] 1 0),(3,.pob [1] 1 0),(4,iv (0 : Nat))] (by simp [upd])) ?_
  refine aw26_l1 hl (fun H' v st h0 h1 h2 => ?_) l.length 0 1 _ (by omega) (by simp [updF_app]) (by simp [updF_app]) (by simp [updF_app])
  simp [h0,h1]
  refine frz_agg ⟨frz_bare rfl,frz_sl,?_,trivial⟩
  have := frz_rowF (H := updF H' [0] ⟨1,.cells [iv 4,.sl true [],.osl [2] v 3 0 l.length]⟩) (o := [2]) (u := v) (n := l.length) (sz := 3) (l := l) (f := at26R) (g := fun x => tA (at26 x)) (by simp [updF_app,h2]) rfl (fun x _ => by simp [A.soft,A.softL])
  show Frz _ _ (.sl false ((l.map at26).map tA))
  rw [List.map_map]
  exact this
theorem awake26_spec : G.Spec Tryz.prog 7 [] (bv true) := by
  have wf1 : ∀ x : Int,0≤x→x < 100→wfT (at26 x) := fun x h1 h2 => wfT_iff.2 ⟨by simp [i64R],by simp [u64R]; omega,by simp,by simp,by simp⟩
  have w1 : wfT (ls26 [1,2,3]) := wfT_iff.2 ⟨by simp [i64R],by simp,by simp,by simp,by simp [wf1]⟩
  have w2 : wfT (ls26 [1,9,3]) := wfT_iff.2 ⟨by simp [i64R],by simp,by simp,by simp,by simp [wf1]⟩
  have T := pTrees_spec w1 w2 (by simp) (by simp) (most := 9) (by simp [i64R])
  rw [df_26] at T
  refine spec_of t_centolaw26_awake (by simp) fun w0 I0 => ?_
  unfold c_centolaw26_awake
  simp
  refine sc_callv rfl ((aw26_one (l := [1,2,3]) (by simp)).soft (by simp [A.softL,A.soft])) (by simp) ?_
  simp
  refine sc_callv rfl ((aw26_one (l := [1,9,3]) (by simp)).soft (by simp [A.softL,A.soft])) (by simp) ?_
  simp
  refine sc_call T (by simp) ?_
  simp
  exact frz_is rfl (by simp)
theorem norm_list {t : T} (h0 : t.kind ≠ 0) (h1 : t.kind ≠ 1) : (norm t).kids = t.kids.map norm := by
  obtain ⟨k,w,l⟩ := t
  have h0 : k ≠ 0 := h0
  have h1 : k ≠ 1 := h1
  rw [norm_mk,if_neg h0,if_neg h1]
  rfl
section
variable {n0 : Nat} {w0 : World} {I0 : Nat→Prop} {Q : Exit→Sta→Prop}
end
theorem apOne_base {e : E} {a b : T} (hw : wfE e) (ha : wfT a) (h : LdB e a b) : ∃ u,OneS e a u∧norm u = norm b := by
  rcases h with ⟨rfl,h⟩ | ⟨o,n,rfl,h1,h2⟩
  · refine ⟨a,⟨ha,?_⟩,h⟩
    refine spec_of t_apply_one (by simp) fun w0 I0 => ?_
    unfold c_apply_one
    simp
    exact frz_tup ⟨frz_bare (by simp),frz_bare rfl,trivial⟩
  · have W := wfE_iff.1 hw
    have E1 := eqG_spec (t := o) (u := a) W.o ha
    rw [show eqT o a = true from eqT_iff.2 h1] at E1
    refine ⟨n,⟨W.n,?_⟩,h2⟩
    refine spec_of t_apply_one (by simp) fun w0 I0 => ?_
    unfold c_apply_one
    simp
    refine sc_call E1 (by simp) ?_
    simp
    exact frz_tup ⟨frz_bare (by simp),frz_bare rfl,trivial⟩
theorem apOne_str {e : E} {t u : T} (hk : e.kind = 2) (h : G.Spec Tryz.prog 53 [eX e,tX t] (.tup [tX u,bv true])) : G.Spec Tryz.prog 35 [eX e,tX t] (.tup [tX u,bv true]) := by
  obtain ⟨k,o,n,ws,ks,l,os⟩ := e
  have hk : k = 2 := hk
  subst hk
  refine spec_of t_apply_one (by simp) fun w0 I0 => ?_
  unfold c_apply_one
  simp
  refine sc_call h (by simp) ?_
  simp
  exact frz_tup ⟨frz_bare (by simp),frz_bare rfl,trivial⟩
theorem apOne_list {e : E} {t u : T} (hk : e.kind = 3) (h : G.Spec Tryz.prog 54 [eX e,tX t] (.tup [tX u,bv true])) : G.Spec Tryz.prog 35 [eX e,tX t] (.tup [tX u,bv true]) := by
  obtain ⟨k,o,n,ws,ks,l,os⟩ := e
  have hk : k = 3 := hk
  subst hk
  refine spec_of t_apply_one (by simp) fun w0 I0 => ?_
  unfold c_apply_one
  simp
  refine sc_call h (by simp) ?_
  simp
  exact frz_tup ⟨frz_bare (by simp),frz_bare rfl,trivial⟩
theorem ldK_at {R : E→T→T→Prop} {a b : List T} {p : Nat} {ks : List KE} (h : LdK R a b p ks) : ∀ x,x ∈ ks→0≤x.at_∧x.at_ < max a.length b.length := by
  induction h with
  | nil p h => intro x hx; simp at hx
  | cons p i e ks hp h hi he hr _ ih =>
    intro x hx
    rcases List.mem_cons.1 hx with rfl | hx
    · show (0 : Int)≤(i : Nat)∧((i : Nat) : Int) < _
      omega
    · exact ih x hx
def Sz : Nat→T→Prop
  | 0,_ => True
  | f + 1,t => t.words.length≤900000∧t.kids.length≤900000∧∀ k,k ∈ t.kids→Sz f k
theorem sz_T0 : ∀ f,Sz f T0
  | 0 => trivial
  | f + 1 => ⟨by simp,by simp,fun k hk => by simp at hk⟩
theorem sz_at {f : Nat} {t : T} (h : Sz (f + 1) t) (i : Nat) : Sz f (t.kids.getD i T0) := by
  rw [List.getD_eq_getElem?_getD]
  cases e : t.kids[i]? with
  | none => exact sz_T0 f
  | some z => exact h.2.2 z (List.mem_of_getElem? e)
theorem sz_parts : ∀ (f : Nat) (t : T),partsT t≤1000→Sz f t
  | 0,t,_ => trivial
  | f + 1,t,h => by
    obtain ⟨k,w,l⟩ := t
    rw [partsT_mk] at h
    have hl := partsL_pos l
    exact ⟨by show w.length≤900000; omega,by show l.length≤900000; omega,fun x hx => sz_parts f x (by have := partsL_mem (show x ∈ l from hx); omega)⟩
theorem wf_at26 {t : T} (h : wfT t) (i : Nat) : wfT (t.kids.getD i T0) := by
  rw [List.getD_eq_getElem?_getD]
  cases e : t.kids[i]? with
  | none => exact wf_T026
  | some z => exact (wfT_iff.1 h).ks z (List.mem_of_getElem? e)
theorem apK_us {a : List T} {ks : List KE} {us : List T} (h : ApK OneS a ks us) : ∀ u,u ∈ us→wfT u := by
  induction h with
  | nil => intro u hu; simp at hu
  | cons i e u ks us h _ ih =>
    intro v hv
    rcases List.mem_cons.1 hv with rfl | hv
    · exact h.1
    · exact ih v hv
theorem apOne : ∀ (f : Nat) (e : E) (a b : T),wfE e→wfT a→wfT b→Sz f a→Sz f b→Ld f e a b→∃ u,OneS e a u∧norm u = norm b := by
  intro f
  induction f with
  | zero => exact fun e a b hw ha hb _ _ h => apOne_base hw ha h
  | succ f ih =>
    intro e a b hw ha hb sa sb h
    have A := wfT_iff.1 ha
    have B := wfT_iff.1 hb
    rcases h with h | ⟨ws,ks,rfl,h1,h2,h3,h4⟩ | ⟨os,rfl,h1,h2,hv,h3⟩
    · exact apOne_base hw ha h
    · have W := wfE_iff.1 hw
      have hwl : ws.length * 32≤140737488355328 := W.wl
      have hkl : ks.length * 208≤140737488355328 := W.kl
      obtain ⟨us,k1,k2⟩ := apK_ld (P := OneS) h4 fun x hx i r => ih x.e _ _ (W.ks x hx).2 (wf_at26 ha i) (wf_at26 hb i) (sz_at sa i) (sz_at sb i) r
      obtain ⟨g1,g2⟩ := apW_ld h3 a.words (fun j hj => by omega) (fun j _ => rfl)
      have e0 := ki_rawT a.kids
      obtain ⟨g3,g4⟩ := k2 (a.kids.map fun k => (false,k)) (fun j hj => by omega) (fun j _ => by rw [e0])
      rw [List.length_map] at g4
      have l1 := sa.1
      have l2 := sb.1
      have l3 := sa.2.1
      have l4 := sb.2.1
      have hat := ldK_at h4
      have S := apStr_spec (ws := ws) (ks := ks) (us := us) (b := b.words) ha h1 (by omega) (by omega) l3 (by omega) (fun x hx => ⟨(W.w x hx).2.2.1,(W.w x hx).2.2.2⟩) (fun x hx => by have := hat x hx; omega) h3 k1
      have hu := apK_all (Q := wfT) wf_T026 ks us (a.kids.map fun k => (false,k)) (apK_us k1) (fun z hz => by
        obtain ⟨k,hk,rfl⟩ := List.mem_map.1 hz
        exact A.ks k hk)
      generalize hZ : apK ks us (a.kids.map fun k => ((false,k) : KI)) = Z at *
      refine ⟨.mk 1 (apW a.words ws a.words) (Z.map kiT),⟨wfT_iff.2 ⟨by simp [i64R],apW_u64 ws a.words A.w,by show (apW a.words ws a.words).length * 8≤_; omega,by show (Z.map kiT).length * 56≤_; rw [List.length_map]; omega,fun x hx => ?_⟩,apOne_str rfl S⟩,?_⟩
      · obtain ⟨z,hz,rfl⟩ := List.mem_map.1 (show x ∈ Z.map kiT from hx)
        exact hu z hz
      · obtain ⟨kb,wb,lb⟩ := b
        have h2 : kb = 1 := h2
        subst h2
        exact struct_eq.2 ⟨g1,g3⟩
    · have W := wfE_iff.1 hw
      have hol : os.length * 240≤140737488355328 := W.ol
      obtain ⟨U,k1,k2⟩ := apO_of (P := OneS) h3 fun o ho hk x hx y hy r => ih o.e x y (W.os o ho).e (A.ks x hx) (B.ks y hy) (sa.2.2 x hx) (sb.2.2 y hy) r
      have hUl : U.length = b.kids.length := by simpa using congrArg List.length k2
      have l3 := sa.2.1
      have l4 := sb.2.1
      have hUw := apO_wf k1 A.ks (fun o ho => (W.os o ho).l)
      have S := apList_spec (l := a.kind) (os := os) (u := U) ha (by omega) (fun o ho => (W.os o ho).l) (fun o ho => by have := (W.os o ho).ll; omega) (by omega) (by omega) rfl k1
      refine ⟨.mk a.kind [] U,⟨wfT_iff.2 ⟨A.k,by simp,by simp,by show U.length * 56≤_; omega,hUw⟩,apOne_list rfl S⟩,?_⟩
      obtain ⟨kb,wb,lb⟩ := b
      have h1 : kb = a.kind := h1
      have hv2 : wb = [] := hv.2
      subst h1
      subst hv2
      exact (other_eq (k := a.kind) (by omega) (by omega)).2 ⟨rfl,k2⟩
theorem ldO_un {R R' : E→T→T→Prop} {as' : List T} (hR : ∀ e x y,x ∈ as'→R e (norm x) y→R' e x y) {os : List OP} {a b : List T} (h : LdO R os a b) : ∀ l : List T,(∀ t,t ∈ l→t ∈ as')→a = l.map norm→LdO R' os l b := by
  induction h with
  | nil =>
    intro l _ e
    have : l = [] := by simpa using e.symm
    subst this
    exact .nil
  | keep p m hne hl _ ih =>
    intro l hl2 e
    obtain ⟨l1,l2,rfl,e1,e2⟩ := List.map_eq_append_iff.1 e.symm
    have hp : p.length = l1.length := by rw [← e1]; simp
    rw [hp]
    refine .keep l1 m (fun h => hne (by rw [← e1,h]; rfl)) ?_ (ih l2 (fun t ht => hl2 t (List.mem_append_right _ ht)) e2.symm)
    rw [← hl,← e1,norm_maps]
  | del p m hne hl _ ih =>
    intro l hl2 e
    obtain ⟨l1,l2,rfl,e1,e2⟩ := List.map_eq_append_iff.1 e.symm
    refine .del p l1 hne ?_ (ih l2 (fun t ht => hl2 t (List.mem_append_right _ ht)) e2.symm)
    rw [hl,← e1,norm_maps]
  | ins p m hne hl _ ih =>
    intro l hl2 e
    exact .ins p m hne hl (ih l hl2 e)
  | desc e0 x y r _ ih =>
    intro l hl2 e
    cases l with
    | nil => simp at e
    | cons z l =>
      rw [List.map_cons] at e
      have e1 := (List.cons.inj e).1
      have e2 := (List.cons.inj e).2
      refine .desc e0 z y (hR e0 z y (hl2 z (by simp)) ?_) (ih l (fun t ht => hl2 t (List.mem_cons_of_mem _ ht)) e2)
      rw [← e1]
      exact r
theorem kids_norm1 (t : T) (h : t.kind = 1) (i : Nat) : (norm t).kids.getD i T0 = norm (t.kids.getD i T0)∧(norm t).words.getD i 0 = t.words.getD i 0∧(norm t).kids.length≤t.kids.length∧(norm t).words.length≤t.words.length := by
  obtain ⟨k,w,l⟩ := t
  have h : k = 1 := h
  subst h
  rw [norm_mk,if_neg (by decide),if_pos rfl]
  refine ⟨?_,?_,?_,trimW_le w⟩
  · show (trimK (l.map norm)).getD i T0 = _
    rw [trimK_G,trimG_getD _ (fun x hx h0 => ?_) i,getD_norm]
    · rfl
    · obtain ⟨y,_,rfl⟩ := List.mem_map.1 hx
      simp at h0
      exact norm_kind0 h0
  · show (trimW w).getD i 0 = _
    rw [trimW_G]
    exact trimG_getD w (fun x _ h => by simpa using h) i
  · have := trimK_le (l.map norm)
    rw [List.length_map] at this
    exact this
theorem ldW_un {a a' b : List Int} (ha : ∀ i,a.getD i 0 = a'.getD i 0) (hl : a.length≤a'.length) {p : Nat} {ws : List WE} (h : LdW a b p ws) : LdW a' b p ws := by
  induction h with
  | nil p h => exact .nil p fun i hi => by rw [← ha]; exact h i hi
  | cons p i m o n ws hp h hi hm ho hn h1 h2 _ ih => exact .cons p i m o n ws hp (fun j g1 g2 => by rw [← ha]; exact h j g1 g2) (by omega) hm (by rw [← ha]; exact ho) hn (by rw [← ha]; exact h1) (by rw [← ha]; exact h2) ih
theorem ldK_un {R R' : E→T→T→Prop} {a a' b : List T} (ha : ∀ i,a.getD i T0 = norm (a'.getD i T0)) (hl : a.length≤a'.length) (hR : ∀ e i y,R e (norm (a'.getD i T0)) y→R' e (a'.getD i T0) y) {p : Nat} {ks : List KE} (h : LdK R a b p ks) : LdK R' a' b p ks := by
  have hn : ∀ i,norm (a.getD i T0) = norm (a'.getD i T0) := fun i => by rw [ha,norm_norm]
  induction h with
  | nil p h => exact .nil p fun i hi => by rw [← hn]; exact h i hi
  | cons p i e ks hp h hi he hr _ ih => exact .cons p i e ks hp (fun j g1 g2 => by rw [← hn]; exact h j g1 g2) (by omega) he (hR e i _ (by rw [← ha]; exact hr)) ih
theorem ld_un : ∀ (f : Nat) (e : E) (a b : T),NW f a→Ld f e (norm a) b→Ld f e a b := by
  have base : ∀ {e a b},LdB e (norm a) b→LdB e a b := fun {e a b} h => by
    rcases h with ⟨rfl,h⟩ | ⟨o,n,rfl,h1,h2⟩
    · exact .inl ⟨rfl,by rw [← h,norm_norm]⟩
    · exact .inr ⟨o,n,rfl,by rw [h1,norm_norm],h2⟩
  intro f
  induction f with
  | zero => exact fun e a b _ h => base h
  | succ f ih =>
    intro e a b hN h
    rcases h with h | ⟨ws,ks,rfl,h1,h2,h3,h4⟩ | ⟨os,rfl,h1,h2,hv,h3⟩
    · exact .inl (base h)
    · rw [norm_kind] at h1
      have N := kids_norm1 a h1
      refine .inr (.inl ⟨ws,ks,rfl,h1,h2,ldW_un (fun i => (N i).2.1) (N 0).2.2.2 h3,ldK_un (fun i => (N i).1) (N 0).2.2.1 (fun e i y r => ih e _ _ (nW_at hN i) r) h4⟩)
    · rw [norm_kind] at h1 h2 ⊢
      rw [norm_list (t := a) (by omega) (by omega)] at h3
      refine .inr (.inr ⟨os,rfl,h1,h2,⟨hN.1 h2.1 h2.2,hv.2⟩,?_⟩)
      exact ldO_un (as' := a.kids) (fun e x y hx r => ih e x y (hN.2 x hx) r) h3 a.kids (fun t ht => ht) rfl
theorem within_mix (x m : Int) : withinZ (mixZ 0 x m) m = true := by
  unfold withinZ
  rw [List.all_eq_true]
  intro i hi
  have h8 : i < 8 := by simpa using hi
  have g := bytes_getD (mixZ 0 x m) h8
  rw [bytes_mix,mixL_get (bytesZ_length 0) h8] at g
  by_cases c : m / 2 ^ i % 2 = 1
  · simp [c]
  · have hn : namedZ m i = false := by simp [namedZ,c]
    rw [hn,if_neg (by simp),bytes_getD 0 h8] at g
    have z : byteZ 0 i = 0 := by simp [byteZ]
    rw [z] at g
    simp only [Bool.or_eq_true,decide_eq_true_eq]
    exact .inr g.symm
theorem wordsOk_wrd {a b : T} : ∀ (n p : Nat) (last : Int),p + n≤60000→last < p→wordsOk last ((List.range' p n).filterMap fun i => if unlZ (a.words.getD i 0) (b.words.getD i 0) = 0 then none else some (wdE i (a.words.getD i 0) (b.words.getD i 0))) = true
  | 0,p,last,_,_ => rfl
  | n + 1,p,last,h,hl => by
    rw [List.range'_succ,List.filterMap_cons]
    by_cases c : unlZ (a.words.getD p 0) (b.words.getD p 0) = 0
    · rw [if_pos c]
      exact wordsOk_wrd n (p + 1) last (by omega) (by omega)
    · rw [if_neg c]
      have ih := wordsOk_wrd (a := a) (b := b) n (p + 1) p (by omega) (by omega)
      show (wordOk last (wdE p _ _) && wordsOk (wdE p _ _).at_ _) = true
      rw [Bool.and_eq_true]
      refine ⟨?_,ih⟩
      unfold wordOk wdE
      simp only [within_mix,Bool.not_true,Bool.or_false,Bool.not_eq_true',Bool.or_eq_false_iff,decide_eq_false_iff_not]
      exact ⟨⟨by omega,by omega⟩,c⟩
theorem rightKs_kid {one : T→T→E} {a b : T} {d : Nat} (hk : ∀ i,(nEd (one (a.kids.getD i T0) (b.kids.getD i T0))).kind = (one (a.kids.getD i T0) (b.kids.getD i T0)).kind) (hone : ∀ i,i < max a.kids.length b.kids.length→(one (a.kids.getD i T0) (b.kids.getD i T0)).kind ≠ 0→rightE d (nEd (one (a.kids.getD i T0) (b.kids.getD i T0))) = true) : ∀ (n p : Nat) (last : Int),p + n≤max a.kids.length b.kids.length→p + n≤60000→last < p→rightKs d last (((List.range' p n).filterMap fun i => if (one (a.kids.getD i T0) (b.kids.getD i T0)).kind = 0 then none else some (.mk i (one (a.kids.getD i T0) (b.kids.getD i T0)))).map nKE) = true
  | 0,p,last,_,_,_ => by simp
  | n + 1,p,last,h,h2,hl => by
    rw [List.range'_succ,List.filterMap_cons]
    by_cases c : (one (a.kids.getD p T0) (b.kids.getD p T0)).kind = 0
    · rw [if_pos c]
      exact rightKs_kid hk hone n (p + 1) last (by omega) (by omega) (by omega)
    · rw [if_neg c]
      have ih := rightKs_kid hk hone n (p + 1) p (by omega) (by omega) (by omega)
      simp only [List.map_cons]
      rw [rightKs_cons]
      have e1 : (nKE (.mk p (one (a.kids.getD p T0) (b.kids.getD p T0)))).at_ = p := rfl
      have e2 : (nKE (.mk p (one (a.kids.getD p T0) (b.kids.getD p T0)))).e = nEd (one (a.kids.getD p T0) (b.kids.getD p T0)) := rfl
      rw [e1,e2,hone p (by omega) c,hk p,ih]
      simp
      exact ⟨⟨by omega,by omega⟩,c⟩
theorem ldO_lens {R : E→T→T→Prop} {os : List OP} {a b : List T} (h : LdO R os a b) : ∀ (n m : Nat),n + a.length≤1048576→m + b.length≤1048576→lengths n m os = (((n + a.length : Nat) : Int),((m + b.length : Nat) : Int)) := by
  induction h with
  | nil => intro n m _ _; rfl
  | keep l mm hne hl _ ih =>
    intro n m h1 h2
    have hlen : l.length = mm.length := by simpa using congrArg List.length hl
    rw [List.length_append] at h1 h2
    have := ih (n + l.length) (m + mm.length) (by omega) (by omega)
    rw [lengths]
    have e1 : sat (if (OP.mk 0 ((l.length : Nat) : Int) [] E0).kind ≠ 2 then (n : Int) + opLen (OP.mk 0 ((l.length : Nat) : Int) [] E0) else (n : Int)) = ((n + l.length : Nat) : Int) := by
      simp [opLen,sat]
      omega
    have e2 : sat (if (OP.mk 0 ((l.length : Nat) : Int) [] E0).kind ≠ 1 then (m : Int) + opLen (OP.mk 0 ((l.length : Nat) : Int) [] E0) else (m : Int)) = ((m + mm.length : Nat) : Int) := by
      simp [opLen,sat]
      omega
    rw [e1,e2,this]
    simp
    omega
  | del l mm hne hl _ ih =>
    intro n m h1 h2
    have hlen : l.length = mm.length := by simpa using congrArg List.length hl
    rw [List.length_append] at h1
    have := ih (n + mm.length) m (by omega) (by omega)
    rw [lengths]
    have e1 : sat (if (OP.mk 1 0 l E0).kind ≠ 2 then (n : Int) + opLen (OP.mk 1 0 l E0) else (n : Int)) = ((n + mm.length : Nat) : Int) := by
      simp [opLen,sat]
      omega
    have e2 : sat (if (OP.mk 1 0 l E0).kind ≠ 1 then (m : Int) + opLen (OP.mk 1 0 l E0) else (m : Int)) = ((m : Nat) : Int) := by
      simp [sat]
      omega
    rw [e1,e2,this]
    simp
    omega
  | ins l mm hne hl _ ih =>
    intro n m h1 h2
    have hlen : l.length = mm.length := by simpa using congrArg List.length hl
    rw [List.length_append] at h2
    have := ih n (m + mm.length) (by omega) (by omega)
    rw [lengths]
    have e1 : sat (if (OP.mk 2 0 l E0).kind ≠ 2 then (n : Int) + opLen (OP.mk 2 0 l E0) else (n : Int)) = ((n : Nat) : Int) := by
      simp [sat]
      omega
    have e2 : sat (if (OP.mk 2 0 l E0).kind ≠ 1 then (m : Int) + opLen (OP.mk 2 0 l E0) else (m : Int)) = ((m + mm.length : Nat) : Int) := by
      simp [opLen,sat]
      omega
    rw [e1,e2,this]
    simp
    omega
  | desc e x y r _ ih =>
    intro n m h1 h2
    rw [List.length_cons] at h1 h2
    have := ih (n + 1) (m + 1) (by omega) (by omega)
    rw [lengths]
    have e1 : sat (if (OP.mk 3 0 [] e).kind ≠ 2 then (n : Int) + opLen (OP.mk 3 0 [] e) else (n : Int)) = ((n + 1 : Nat) : Int) := by
      simp [opLen,sat]
      omega
    have e2 : sat (if (OP.mk 3 0 [] e).kind ≠ 1 then (m : Int) + opLen (OP.mk 3 0 [] e) else (m : Int)) = ((m + 1 : Nat) : Int) := by
      simp [opLen,sat]
      omega
    rw [e1,e2,this]
    simp
    omega
theorem ldO_keep {R : E→T→T→Prop} {os : List OP} {a b : List T} (h : LdO R os a b) : ∀ o,o ∈ os→o.kind = 0→1≤o.n∧o.n≤a.length := by
  induction h with
  | nil => intro o ho; simp at ho
  | keep l m hne hl _ ih =>
    intro o ho hk
    rw [List.length_append]
    rcases List.mem_cons.1 ho with rfl | ho
    · have := List.length_pos_iff.2 hne
      show (1 : Int)≤(l.length : Nat)∧((l.length : Nat) : Int)≤_
      omega
    · have := ih o ho hk; omega
  | del l m hne hl _ ih =>
    intro o ho hk
    rw [List.length_append]
    rcases List.mem_cons.1 ho with rfl | ho
    · cases hk
    · have := ih o ho hk; omega
  | ins l m hne hl _ ih =>
    intro o ho hk
    rcases List.mem_cons.1 ho with rfl | ho
    · cases hk
    · exact ih o ho hk
  | desc e x y r _ ih =>
    intro o ho hk
    rw [List.length_cons]
    rcases List.mem_cons.1 ho with rfl | ho
    · cases hk
    · have := ih o ho hk; omega
theorem wr_mem {list : Int} : ∀ {W : List OP} {s : Int},Wr list s W→∀ o,o ∈ W→OkEl list o
  | [],_,_,o,h => by simp at h
  | x :: W,s,h,o,ho => by
    rcases List.mem_cons.1 ho with rfl | ho
    · exact h.1
    · exact wr_mem h.2.2 o ho
theorem opsW_allG {list : Int} {G : T→Prop} {P : OP→Prop} (hG : ∀ t,G t→G (norm t)) (hk : ∀ n l e,P (.mk 0 n l e)) (hd : ∀ l,(∀ t,t ∈ l→G t)→P (.mk 1 0 l E0)) (hi : ∀ l,(∀ t,t ∈ l→G t)→P (.mk 2 0 l E0)) : ∀ (os out : List OP) (g b : List T),(∀ o,o ∈ os→(o.kind = 1∨o.kind = 2→∀ t,t ∈ o.l→G t)∧(o.kind ≠ 0→o.kind ≠ 1→o.kind ≠ 2→P (.mk 3 0 [] o.e)))→(∀ o,o ∈ out→P o)→(∀ t,t ∈ g→G t)→(∀ t,t ∈ b→G t)→∀ o,o ∈ opsW list os out g b→P o := by
  have kp : ∀ {out : List OP} (n : Int),(∀ o,o ∈ out→P o)→∀ o,o ∈ kpO out n→P o := fun {out} n h o ho => by
    unfold kpO at ho
    split at ho
    · rename_i m l e he
      rcases List.mem_append.1 ho with ho | ho
      · exact h o (List.dropLast_subset _ ho)
      · rw [List.mem_singleton] at ho
        subst ho
        exact hk _ l e
    · rcases List.mem_append.1 ho with ho | ho
      · exact h o ho
      · rw [List.mem_singleton] at ho
        subst ho
        exact hk n [] E0
  have fl : ∀ {out : List OP} {g b : List T},(∀ o,o ∈ out→P o)→(∀ t,t ∈ g→G t)→(∀ t,t ∈ b→G t)→∀ o,o ∈ flO out g b→P o := fun {out g b} h hg hb o ho => by
    unfold flO delO insO at ho
    rcases List.mem_append.1 ho with ho | ho
    · exact h o ho
    · rcases List.mem_append.1 ho with ho | ho
      · split at ho
        · simp at ho
        · rw [List.mem_singleton] at ho; subst ho; exact hd g hg
      · split at ho
        · simp at ho
        · rw [List.mem_singleton] at ho; subst ho; exact hi b hb
  have z : ∀ t : T,t ∈ ([] : List T)→G t := by simp
  intro os
  induction os with
  | nil =>
    intro out g b _ ho hg hb
    rw [opsW]
    exact fl ho hg hb
  | cons x os ih =>
    intro out g b hos ho hg hb
    have hos' := fun o (h : o ∈ os) => hos o (List.mem_cons_of_mem _ h)
    have hx := hos x (by simp)
    have nn : (x.kind = 1∨x.kind = 2)→∀ (l : List T),(∀ t,t ∈ l→G t)→∀ t,t ∈ l ++ x.l.map norm→G t := fun hk l hl t ht => by
      rcases List.mem_append.1 ht with ht | ht
      · exact hl t ht
      · obtain ⟨u,hu,rfl⟩ := List.mem_map.1 ht
        exact hG _ (hx.1 hk u hu)
    rw [opsW]
    split
    · exact ih _ _ _ hos' (kp _ (fl ho hg hb)) z z
    · split
      · rename_i h1
        exact ih _ _ _ hos' ho (nn (.inl h1) g hg) hb
      · split
        · rename_i h2
          exact ih _ _ _ hos' ho hg (nn (.inr h2) b hb)
        · split
          · exact ih _ _ _ hos' (kp _ (fl ho hg hb)) z z
          · rename_i h0 h1 h2 _
            refine ih _ _ _ hos' (fun o h => ?_) z z
            rcases List.mem_append.1 h with h | h
            · exact fl ho hg hb o h
            · rw [List.mem_singleton] at h
              subst h
              exact hx.2 h0 h1 h2
def ScP (one : T→T→E) (a b : List T) (o : OP) : Prop := o.kind = 3→∃ x y,x ∈ a∧y ∈ b∧scoreT x y ≠ 0∧o.e = one x y
theorem scP_del (one : T→T→E) (a b l : List T) : ∀ o,o ∈ delO l→ScP one a b o := fun o ho hk => by
  unfold delO at ho
  split at ho
  · simp at ho
  · rw [List.mem_singleton] at ho; subst ho; cases hk
theorem scP_ins (one : T→T→E) (a b l : List T) : ∀ o,o ∈ insO l→ScP one a b o := fun o ho hk => by
  unfold insO at ho
  split at ho
  · simp at ho
  · rw [List.mem_singleton] at ho; subst ho; cases hk
theorem scP_mono {one : T→T→E} {a b a' b' : List T} (hA : ∀ t,t ∈ a→t ∈ a') (hB : ∀ t,t ∈ b→t ∈ b') {o : OP} (h : ScP one a b o) : ScP one a' b' o := fun hk => by
  obtain ⟨x,y,hx,hy,hs,e⟩ := h hk
  exact ⟨x,y,hA x hx,hB y hy,hs,e⟩
theorem gapO_sc (one : T→T→E) (a b : List T) : ∀ (P : List Sc) (i j : Nat) (out : List OP),PkOk a.length b.length i j P→(∀ x,x ∈ P→scoreT (a.getD x.i T0) (b.getD x.j T0) ≠ 0)→(∀ o,o ∈ out→ScP one a b o)→∀ o,o ∈ gapO one a b P i j out→ScP one a b o
  | [],i,j,out,h,_,g => by
    intro o ho
    rw [gapO] at ho
    rcases List.mem_append.1 ho with ho | ho
    · rcases List.mem_append.1 ho with ho | ho
      · exact g o ho
      · exact scP_del _ _ _ _ o ho
    · exact scP_ins _ _ _ _ o ho
  | x :: P,i,j,out,h,hs,g => by
    obtain ⟨k1,k2,k3,k4,k5⟩ := h
    rw [gapO]
    refine gapO_sc one a b P _ _ _ k5 (fun y hy => hs y (List.mem_cons_of_mem _ hy)) fun o ho => ?_
    rcases List.mem_append.1 ho with ho | ho
    · rcases List.mem_append.1 ho with ho | ho
      · rcases List.mem_append.1 ho with ho | ho
        · exact g o ho
        · exact scP_del _ _ _ _ o ho
      · exact scP_ins _ _ _ _ o ho
    · rw [List.mem_singleton] at ho
      subst ho
      intro _
      refine ⟨_,_,?_,?_,hs x (by simp),rfl⟩
      · rw [List.getD_eq_getElem?_getD,List.getElem?_eq_getElem k3]; exact List.getElem_mem k3
      · rw [List.getD_eq_getElem?_getD,List.getElem?_eq_getElem k4]; exact List.getElem_mem k4
theorem gapE_sc (one : T→T→E) (a b : List T) : ∀ o,o ∈ gapE one a b→ScP one a b o := by
  refine gapO_sc one a b _ 0 0 [] (pkG_ok a b) (fun x hx => ?_) (by simp)
  obtain ⟨h,_⟩ := pkO_ok (scR a b)
  obtain ⟨h1,h2⟩ := picks_facts h
  obtain ⟨g1,g2⟩ := srt_ok h1
  obtain ⟨_,_,_,hn,r,k1,k2⟩ := candS_mem (h2 x (g2.subset hx))
  simp [scR] at k1
  obtain ⟨t,e1,e2⟩ := k1
  rw [← e2] at k2
  simp at k2
  obtain ⟨u,e3,e4⟩ := k2
  rw [List.getD_eq_getElem?_getD,List.getD_eq_getElem?_getD,e1,e3]
  show scoreT t u ≠ 0
  omega
theorem opsG_sc {one : T→T→E} (S : List Sp) (a b : List T) : ∀ o,o ∈ opsG (gapE one) S a b []→ScP one a b o := by
  have app : ∀ {out l : List OP},(∀ o,o ∈ out→ScP one a b o)→(∀ o,o ∈ l→ScP one a b o)→∀ o,o ∈ out ++ l→ScP one a b o := fun h1 h2 o ho => by
    rcases List.mem_append.1 ho with ho | ho
    · exact h1 o ho
    · exact h2 o ho
  obtain ⟨a',b',_,_,h⟩ := opsG_inv (gap := gapE one) (S0 := S) (I := fun a' b' out => (∀ t,t ∈ a'→t ∈ a)∧(∀ t,t ∈ b'→t ∈ b)∧∀ o,o ∈ out→ScP one a b o) (fun s hs x y out h => ⟨fun t ht => h.1 t (List.mem_of_mem_drop ht),fun t ht => h.2.1 t (List.mem_of_mem_drop ht),app h.2.2 fun o ho hk => by
      simp at ho; subst ho; cases hk⟩) (fun n x y out h => ⟨fun t ht => h.1 t (List.mem_of_mem_drop ht),h.2.1,app h.2.2 (scP_del _ _ _ _)⟩) (fun n x y out h => ⟨h.1,fun t ht => h.2.1 t (List.mem_of_mem_drop ht),app h.2.2 (scP_ins _ _ _ _)⟩) (fun n m x y out h => ⟨fun t ht => h.1 t (List.mem_of_mem_drop ht),fun t ht => h.2.1 t (List.mem_of_mem_drop ht),app h.2.2 fun o ho => scP_mono (fun t ht => h.1 t (List.mem_of_mem_take ht)) (fun t ht => h.2.1 t (List.mem_of_mem_take ht)) (gapE_sc one _ _ o ho)⟩) S a b [] (fun s hs => hs) ⟨fun t ht => ht,fun t ht => ht,by simp⟩
  exact h
theorem lstO_sc (one : T→T→E) (most : Int) (a b : T) : ∀ o,o ∈ lstO one most a b→ScP one a.kids b.kids o := by
  unfold lstO
  split
  · exact opsG_sc _ _ _
  · exact gapE_sc one _ _
theorem right_E0 {d : Nat} (h : d ≠ 0) : rightE d E0 = true := by
  unfold E0
  exact rightE_iff.2 ⟨h,by omega,by omega,fun _ => ⟨rfl,rfl⟩,fun _ => ⟨rfl,rfl⟩,fun _ => ⟨rfl,rfl⟩,fun h => absurd h (by decide),rfl,by simp,fun h => absurd h (by decide),by simp,by simp [lengths]⟩
theorem right_rep {d : Nat} (h : d ≠ 0) {a b : T} (ha : rightT 64 a = true) (hb : rightT 64 b = true) (ka : a.kind ≠ 10) (kb : b.kind ≠ 10) : rightE d (.mk 1 a b [] [] 0 []) = true :=
  rightE_iff.2 ⟨h,by omega,by omega,fun h => absurd rfl h,fun _ => ⟨rfl,rfl⟩,fun _ => ⟨rfl,rfl⟩,fun _ => ⟨ha,hb,ka,kb⟩,rfl,by simp,fun h => absurd h (by decide),by simp,by simp [lengths]⟩
end Go.Proofs.YtmeldaflhkiopaaGreat
