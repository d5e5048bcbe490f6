/-
  Texts, merged, without what is not reached.
-/
import Derived.Test.YthfiijdbnkaabaaGreatKYd
namespace Go.PL
set_option linter.unusedVariables false
set_option linter.unusedSimpArgs false
mutual
def normEd : E→E
  | .mk k o n ws ks l os => .mk k (norm o) (norm n) ws (normKs ks) l (normOs os)
def normKs : List KE→List KE
  | [] => []
  | .mk a e :: l => .mk a (normEd e) :: normKs l
def normOs : List OP→List OP
  | [] => []
  | .mk k n t e :: l => .mk k n (t.map norm) (normEd e) :: normOs l
end
def normKe (x : KE) : KE := .mk x.at_ (normEd x.e)
def normOp (x : OP) : OP := .mk x.kind x.n (x.l.map norm) (normEd x.e)
theorem normKs_map : ∀ l,normKs l = l.map normKe
  | [] => by rw [normKs]; rfl
  | .mk a e :: l => by rw [normKs,normKs_map l]; rfl
theorem normOs_map : ∀ l,normOs l = l.map normOp
  | [] => by rw [normOs]; rfl
  | .mk k n t e :: l => by rw [normOs,normOs_map l]; rfl
theorem normEd_mk (k : Int) (o n : T) (ws : List WE) (ks : List KE) (l : Int) (os : List OP) : normEd (.mk k o n ws ks l os) = .mk k (norm o) (norm n) ws (ks.map normKe) l (os.map normOp) := by rw [normEd,normKs_map,normOs_map]
theorem normEd_E0 : normEd E0 = E0 := by rw [normEd_mk]; simp [norm_T0]
@[simp] theorem normEd_kind (e : E) : (normEd e).kind = e.kind := by cases e; rw [normEd_mk]; rfl
theorem wd_norm {t : T} (h : t.kind = 1) (i : Nat) : wdT (norm t) i = wdT t i := by
  obtain ⟨k,w,l⟩ := t
  simp at h
  subst h
  unfold wdT
  rw [norm_mk]
  simp only [if_neg (show ¬ (1 : Int) = 0 by decide),if_true,T.words_mk]
  rw [trimW_G]
  exact trimG_getD w (fun x _ h => by simpa using h) i
theorem kd_norm {t : T} (h : t.kind = 1) (i : Nat) : kdT (norm t) i = norm (kdT t i) := by
  obtain ⟨k,w,l⟩ := t
  simp at h
  subst h
  unfold kdT
  rw [norm_mk]
  simp only [if_neg (show ¬ (1 : Int) = 0 by decide),if_true,T.kids_mk]
  have hz : ∀ x,x ∈ l.map norm→(x.kind == 0) = true→x = T0 := fun x hx h0 => by
    obtain ⟨y,_,rfl⟩ := List.mem_map.1 hx
    simp at h0
    exact norm_kind0 h0
  rw [trimK_G,trimG_getD _ hz i,getD_norm]
theorem rowT'_norm (l : List T) : (norm (rowT' l)).kids = l.map norm := by
  cases l with
  | nil => simp [norm_T0]
  | cons t l => rw [rowT'_cons,norm_mk]; simp
theorem kidsOf_norm {k : Int} (h : 2≤k) (w : List Int) (l : List T) : (norm (.mk k w l)).kids = l.map norm := by
  rw [norm_mk,if_neg (by omega),if_neg (by omega)]; rfl
theorem map_map_eq {α β γ : Type} {f : α→β} {g : β→γ} {h : α→γ} {l : List α} (e : ∀ x,x ∈ l→g (f x) = h x) : (l.map f).map g = l.map h := by
  rw [List.map_map]
  exact List.map_congr_left e
theorem treeW_norm {w : WE} (h : 0≤w.at_∧w.at_≤65534) (hm : 0≤w.mask∧w.mask < 256) : wordG (norm (treeW w)) = w := by
  have hk : (treeW w).kind = 1 := rfl
  have := wordG_tree h hm
  unfold wordG at this ⊢
  rw [wd_norm hk,wd_norm hk,wd_norm hk]
  exact this
theorem treeE_one {e : E} (h : e.kind ≠ 0) : (treeE e).kind = 1 := by
  cases e; rw [treeE_mk]
  simp at h
  rw [if_neg h]
  repeat' split
  all_goals rfl
theorem treeE_zero {e : E} (h : e.kind = 0) : treeE e = T0 := by
  cases e; rw [treeE_mk]
  simp at h
  rw [if_pos h]
theorem wd_treeE {k : Int} {o n : T} {ws : List WE} {ks : List KE} {l : Int} {os : List OP} (k0 : 1≤k) (k3 : k≤3) (hl : 0≤l∧l≤9) : wdT (treeE (.mk k o n ws ks l os)) 0 = k + 256 * l := by
  have e : u64m (k + 256 * l) = k + 256 * l := u64m_of (by omega) (by omega)
  unfold wdT
  rw [treeE_mk,if_neg (by omega),e]
  repeat' split
  all_goals rfl
theorem kdT_0 (k : Int) (w : List Int) (a : T) (l : List T) : kdT (.mk k w (a :: l)) 0 = a := rfl
theorem kdT_1 (k : Int) (w : List Int) (a b : T) (l : List T) : kdT (.mk k w (a :: b :: l)) 1 = b := rfl
theorem guess_norm : ∀ (e : E) (d : Nat),maskE e→rightE d e = true→guess (norm (treeE e)) = normEd e := by
  refine E.ind fun k o n ws ks l os ihk iho d hm h => ?_
  have R := rightE_iff.1 h
  rw [maskE_mk] at hm
  obtain ⟨m1,m2,m3⟩ := hm
  have hk : k = 0∨k = 1∨k = 2∨k = 3 := by have := R.k0; have := R.k3; omega
  have hl : 0≤l∧l≤9 := by
    by_cases q : k = 3
    · have := R.lst q; omega
    · have := (R.three q).1; omega
  by_cases k0 : k = 0
  · subst k0
    obtain ⟨rfl,rfl⟩ := R.one (by omega)
    obtain ⟨rfl,rfl⟩ := R.two (by omega)
    obtain ⟨rfl,rfl⟩ := R.three (by omega)
    rw [treeE_zero rfl,norm_T0,guess_T0,normEd_E0]
  have hw : wdT (norm (treeE (.mk k o n ws ks l os))) 0 = k + 256 * l := by rw [wd_norm (treeE_one (by simpa using k0)),wd_treeE (by omega) (by omega) hl]
  have hkd : ∀ i,kdT (norm (treeE (.mk k o n ws ks l os))) i = norm (kdT (treeE (.mk k o n ws ks l os)) i) := kd_norm (treeE_one (by simpa using k0))
  have a1 : (k + 256 * l) % 256 = k := by omega
  have a2 : (k + 256 * l) / 256 % 256 = l := by omega
  rw [guess_eq,if_neg (by rw [norm_kind,treeE_one (by simpa using k0)]; simp)]
  simp only [hw,hkd,a1,a2]
  rw [normEd_mk,treeE_mk,if_neg k0]
  rcases hk with rfl | rfl | rfl | rfl
  · exact absurd rfl k0
  · obtain ⟨rfl,rfl⟩ := R.two (by omega)
    obtain ⟨rfl,rfl⟩ := R.three (by omega)
    simp [kdT_0,kdT_1]
  · obtain ⟨rfl,rfl⟩ := R.one (by omega)
    obtain ⟨rfl,rfl⟩ := R.three (by omega)
    have e1 : (ws.map treeW).map (fun x => wordG (norm x)) = ws := map_same (g := fun x => wordG (norm x)) fun w hw => treeW_norm (by have := wordsOk_in (by omega) R.wok w hw; omega) (m1 w hw)
    have e2 : (ks.map treeK).map (fun x => kidG (norm x)) = ks.map normKe := map_map_eq fun x hx => by
      obtain ⟨g1,g2,g3,g4⟩ := rightKs_allE (by omega) R.kok x hx
      have := ihk x hx _ (maskKs_all.1 m2 x hx) g4
      have hk : (treeK x).kind = 1 := rfl
      unfold kidG normKe
      rw [wd_norm hk,kd_norm hk]
      unfold treeK wdT
      simp only [T.words_mk,kdT_0]
      rw [u64m_of g1 (by omega),this]
      have : x.at_ % 4294967296 = x.at_ := by omega
      simp [this]
    simp only [if_neg (show ¬ (2 : Int) = 1 by decide),if_true,kdT_0,kdT_1,rowT'_norm,treeKs_map,List.map_map]
    have e1' : ws.map (wordG ∘ norm ∘ treeW) = ws := by rw [List.map_map] at e1; exact e1
    have e2' : ks.map (kidG ∘ norm ∘ treeK) = ks.map normKe := by rw [List.map_map] at e2; exact e2
    rw [e1',e2']
    simp [norm_T0]
  · obtain ⟨rfl,rfl⟩ := R.one (by omega)
    obtain ⟨rfl,rfl⟩ := R.two (by omega)
    obtain ⟨l2,l9⟩ := R.lst rfl
    have e3 : (os.map (treeO l)).map (fun x => stpG (norm x)) = os.map normOp := map_map_eq fun x hx => by
      have O := rightO_of (rightOs_all.1 R.ook x hx)
      have ih := fun q => iho x hx _ (maskOs_all.1 m3 x hx) (O.down q).2.2.2.1
      have hk : (treeO l x).kind = 1 := rfl
      obtain ⟨xk,xn,xl,xe⟩ := x
      obtain ⟨k0,k3,keep,nn,same,some,down⟩ := O
      simp only [OP.kind_mk,OP.n_mk,OP.l_mk,OP.e_mk] at *
      have hn : 0≤xn∧xn≤1048576 := by
        by_cases q : xk = 0
        · have := keep q; omega
        · have := nn q; omega
      have hw : wdT (norm (treeO l (OP.mk xk xn xl xe))) 0 = xk + 256 * xn := by
        rw [wd_norm hk]
        unfold treeO wdT
        simp only [T.words_mk,OP.kind_mk,OP.n_mk]
        rw [u64m_of (by omega) (by omega)]
        rfl
      have a1 : (xk + 256 * xn) % 256 = xk := by omega
      have a2 : (xk + 256 * xn) / 256 % 1099511627776 = xn := by omega
      unfold stpG normOp
      simp only [hw,a1,a2,kd_norm hk]
      unfold treeO kdT
      simp only [T.kids_mk,OP.kind_mk,OP.n_mk,OP.l_mk,OP.e_mk]
      have hk : xk = 0∨xk = 1∨xk = 2∨xk = 3 := by omega
      rcases hk with rfl | rfl | rfl | rfl
      · simp [same (by omega),(keep rfl).2.2,normEd_E0]
      · simp [same (by omega),normEd_E0,kidsOf_norm l2]
      · simp [same (by omega),normEd_E0,kidsOf_norm l2]
      · simp [(down rfl).1,ih rfl]
    simp only [if_neg (show ¬ (3 : Int) = 1 by decide),if_neg (show ¬ (3 : Int) = 2 by decide),if_true,kdT_0,rowT'_norm,treeOs_map,List.map_map]
    have e3' : os.map (stpG ∘ norm ∘ treeO l) = os.map normOp := by rw [List.map_map] at e3; exact e3
    rw [e3']
    simp [norm_T0]
theorem right_norm : ∀ (t : T) (d : Nat),rightT d t = true→rightT d (norm t) = true := by
  refine T.ind fun k w l ih d h => ?_
  have hk := rightT_struct h
  rw [rightT_mk] at h
  rw [norm_mk]
  by_cases h0 : k = 0
  · rw [if_pos h0,rightT_mk]; rfl
  rw [if_neg h0] at h ⊢
  by_cases h10 : k = 10
  · subst h10
    rw [if_pos rfl] at h
    simp at h
    obtain ⟨hw,rfl⟩ := h
    rw [if_neg (by decide),rightT_mk]
    simp [hw]
  rw [if_neg h10] at h
  by_cases hb : tooBig k d w.length l.length = true
  · rw [if_pos hb] at h; cases h
  have hm : ∀ (m : List T),(∀ t,t ∈ m→∃ u,u ∈ l∧t = norm u)→rightL (d - 1) k m = true := fun m hm => rightL_all.2 fun t ht => by
    obtain ⟨u,hu,rfl⟩ := hm t ht
    obtain ⟨g1,g2⟩ := hk u hu
    refine ⟨ih u hu _ g1,?_⟩
    unfold kidOk at g2 ⊢
    rw [norm_kind]
    cases hd : isData k with
    | false => rw [hd] at g2; simpa using g2
    | true =>
      rw [hd] at g2
      simp at g2
      obtain ⟨⟨g3,g4⟩,g5⟩ := g2
      obtain ⟨uk,uw,ul⟩ := u
      simp at g3
      subst g3
      rw [norm_mk]
      simp at g4 g5 ⊢
      exact ⟨g4,g5⟩
  by_cases h1 : k = 1
  · subst h1
    have hw := trimW_le w
    have hl := trimK_le (l.map norm)
    rw [List.length_map] at hl
    have hb' : ¬ tooBig 1 d (trimW w).length (trimK (l.map norm)).length = true := by
      simp [tooBig] at hb ⊢
      omega
    rw [if_pos rfl,rightT_mk,if_neg (by decide),if_neg (by decide),if_neg hb']
    refine hm _ fun t ht => ?_
    rw [trimK_take] at ht
    obtain ⟨u,hu,rfl⟩ := List.mem_map.1 (List.mem_of_mem_take ht)
    exact ⟨u,hu,rfl⟩
  · rw [if_neg h1,rightT_mk,if_neg h0,if_neg h10,if_neg (by rw [List.length_map]; exact hb)]
    refine hm _ fun t ht => ?_
    obtain ⟨u,hu,rfl⟩ := List.mem_map.1 ht
    exact ⟨u,hu,rfl⟩
theorem lengths_norm : ∀ (os : List OP) (n m : Int),lengths n m (os.map normOp) = lengths n m os
  | [],n,m => rfl
  | x :: os,n,m => by
    have e : opLen (normOp x) = opLen x := by simp [opLen,normOp]
    have e2 : (normOp x).kind = x.kind := rfl
    rw [List.map_cons,lengths,lengths,e,e2,lengths_norm os]
theorem norm_rightE : ∀ (e : E) (d : Nat),rightE d e = true→rightE d (normEd e) = true := by
  refine E.ind fun k o n ws ks l os ihk iho d h => ?_
  have R := rightE_iff.1 h
  rw [normEd_mk,rightE_iff]
  refine ⟨R.d0,R.k0,R.k3,fun q => ?_,fun q => ?_,fun q => ?_,fun q => ?_,R.wok,?_,R.lst,?_,by rw [lengths_norm]; exact R.len⟩
  · obtain ⟨rfl,rfl⟩ := R.one q; exact ⟨norm_T0,norm_T0⟩
  · obtain ⟨rfl,rfl⟩ := R.two q; exact ⟨rfl,rfl⟩
  · obtain ⟨rfl,rfl⟩ := R.three q; exact ⟨rfl,rfl⟩
  · obtain ⟨a,b,c,f⟩ := R.rep q
    exact ⟨right_norm _ _ a,right_norm _ _ b,by rw [norm_kind]; exact c,by rw [norm_kind]; exact f⟩
  · have : ∀ (m : List KE) (last : Int),(∀ x,x ∈ m→x ∈ ks)→rightKs (d - 1) last m = true→rightKs (d - 1) last (m.map normKe) = true := by
      intro m
      induction m with
      | nil => intros; simp
      | cons x m ih =>
        intro last hs hr
        rw [rightKs_cons,Bool.and_eq_true,Bool.and_eq_true] at hr
        rw [List.map_cons,rightKs_cons,Bool.and_eq_true,Bool.and_eq_true]
        have e1 : (normKe x).at_ = x.at_ := rfl
        have e2 : (normKe x).e = normEd x.e := rfl
        rw [e1,e2,normEd_kind]
        exact ⟨⟨hr.1.1,ihk x (hs x (by simp)) _ hr.1.2⟩,ih _ (fun y hy => hs y (by simp [hy])) hr.2⟩
    exact this ks _ (fun x hx => hx) R.kok
  · refine rightOs_all.2 fun y hy => ?_
    obtain ⟨x,hx,rfl⟩ := List.mem_map.1 hy
    have O := rightO_of (rightOs_all.1 R.ook x hx)
    have hl : 2≤l∧l≤9 := R.lst (by
      by_cases q : k = 3
      · exact q
      · rw [(R.three q).2] at hx; cases hx)
    refine rightO_to ⟨O.k0,O.k3,fun q => ?_,O.nn,fun q => ?_,fun q => ?_,fun q => ?_⟩
    · obtain ⟨a,b,c⟩ := O.keep q
      exact ⟨a,b,by show x.l.map norm = []; rw [c]; rfl⟩
    · show normEd x.e = E0
      rw [O.same q,normEd_E0]
    · obtain ⟨a,b⟩ := O.some q
      refine ⟨fun e => a (List.map_eq_nil_iff.1 e),fun t ht => ?_⟩
      obtain ⟨u,hu,rfl⟩ := List.mem_map.1 ht
      have := right_norm _ _ (b u hu)
      rw [norm_mk,if_neg (by omega),if_neg (by omega)] at this
      exact this
    · obtain ⟨a,b,c,e,f⟩ := O.down q
      refine ⟨by show x.l.map norm = []; rw [a]; rfl,by show (normEd x.e).kind ≠ 0; rw [normEd_kind]; exact b,c,iho x hx _ e,?_⟩
      have g : ∀ y : E,opFit l (.mk x.kind x.n x.l y) = (decide (l = 8) || decide (y.kind = 2) || decide (y.kind = 1) && decide (y.old.kind = 1) && decide (y.new.kind = 1)) := fun y => rfl
      have f' : opFit l (.mk x.kind x.n x.l x.e) = true := f
      have e' : opFit l (.mk x.kind x.n x.l (normEd x.e)) = true := by
        rw [g] at f' ⊢
        generalize x.e = y at f'
        obtain ⟨ek,eo,en,ew,eks,el,eos⟩ := y
        rw [normEd_mk]
        show (decide (l = 8) || decide (ek = 2) || decide (ek = 1) && decide ((norm eo).kind = 1) && decide ((norm en).kind = 1)) = true
        rw [norm_kind,norm_kind]
        exact f'
      exact e'
theorem rowT'_normEq {a b : List T} (h : a.map norm = b.map norm) : norm (rowT' a) = norm (rowT' b) := by
  cases a with
  | nil =>
    cases b with
    | nil => rfl
    | cons y b => simp at h
  | cons x a =>
    cases b with
    | nil => simp at h
    | cons y b =>
      rw [rowT'_cons,rowT'_cons,norm_mk,norm_mk]
      simp only [if_neg (show ¬ (9 : Int) = 0 by decide),if_neg (show ¬ (9 : Int) = 1 by decide)]
      rw [h]
theorem norm_one_eq {w : List Int} {a b : List T} (h : a.map norm = b.map norm) : norm (.mk 1 w a) = norm (.mk 1 w b) := by
  rw [norm_mk,norm_mk,h]
theorem tree_normEd : ∀ (e : E),norm (treeE (normEd e)) = norm (treeE e) := by
  refine E.ind fun k o n ws ks l os ihk iho => ?_
  rw [normEd_mk,treeE_mk,treeE_mk]
  split
  · rfl
  split
  · exact norm_one_eq (by simp [norm_norm])
  split
  · refine norm_one_eq ?_
    simp only [List.map_cons,List.map_nil]
    rw [rowT'_normEq (a := treeKs (ks.map normKe)) (b := treeKs ks)]
    rw [treeKs_map,treeKs_map,List.map_map,List.map_map,List.map_map]
    refine List.map_congr_left fun x hx => ?_
    exact norm_one_eq (by simpa [normKe] using ihk x hx)
  · refine norm_one_eq ?_
    simp only [List.map_cons,List.map_nil]
    rw [rowT'_normEq (a := treeOs l (os.map normOp)) (b := treeOs l os)]
    rw [treeOs_map,treeOs_map,List.map_map,List.map_map,List.map_map]
    refine List.map_congr_left fun x hx => ?_
    have := iho x hx
    obtain ⟨xk,xn,xl,xe⟩ := x
    have e1 : ((norm ∘ treeO l) ∘ normOp) (OP.mk xk xn xl xe) = norm (.mk 1 [u64m (xk + 256 * xn)] (if xk = 3 then [treeE (normEd xe)] else if xk > 0 then [.mk l [] (xl.map norm)] else [])) := rfl
    have e2 : (norm ∘ treeO l) (OP.mk xk xn xl xe) = norm (.mk 1 [u64m (xk + 256 * xn)] (if xk = 3 then [treeE xe] else if xk > 0 then [.mk l [] xl] else [])) := rfl
    rw [e1,e2]
    refine norm_one_eq ?_
    by_cases q : xk = 3
    · rw [if_pos q,if_pos q]
      simpa using this
    · rw [if_neg q,if_neg q]
      split
      · simp only [List.map_cons,List.map_nil]
        rw [norm_mk,norm_mk,List.map_map,show (norm ∘ norm) = norm from funext norm_norm]
      · rfl
inductive SmT : T→Prop
  | mk (k : Int) (w : List Int) (l : List T) : l.length≤1048576→(∀ t,t ∈ l→SmT t)→SmT (.mk k w l)
theorem SmT.len {t : T} (h : SmT t) : t.kids.length≤1048576 := by cases h; assumption
theorem SmT.kid {t : T} (h : SmT t) : ∀ c,c ∈ t.kids→SmT c := by cases h; assumption
theorem sm_T0 : SmT T0 := .mk _ _ _ (Nat.zero_le _) (fun t h => by cases h)
theorem SmT.kd {t : T} (h : SmT t) (i : Nat) : SmT (kdT t i) := by
  unfold kdT
  rw [List.getD_eq_getElem?_getD]
  cases e : t.kids[i]? with
  | none => exact sm_T0
  | some x => exact h.kid x (List.mem_of_getElem? e)
theorem sm_right : ∀ (t : T) (d : Nat),rightT d t = true→SmT t := by
  refine T.ind fun k w l ih d h => ?_
  have hk := rightT_struct h
  rw [rightT_mk] at h
  refine .mk _ _ _ ?_ fun t ht => ih t ht _ (hk t ht).1
  by_cases h0 : k = 0
  · rw [if_pos h0] at h; simp at h; rw [h.2]; exact Nat.zero_le _
  rw [if_neg h0] at h
  by_cases h10 : k = 10
  · rw [if_pos h10] at h; simp at h; rw [h.2]; exact Nat.zero_le _
  rw [if_neg h10] at h
  split at h
  · cases h
  · rename_i hb
    simp [tooBig] at hb
    omega
theorem sat_le {n : Int} : sat n≤1048576 := by unfold sat; split <;> omega
theorem lengths_mono : ∀ (os : List OP) (n m : Int),(∀ x,x ∈ os→0≤opLen x)→n≤1048576→m≤1048576→n≤(lengths n m os).1∧m≤(lengths n m os).2
  | [],n,m,_,_,_ => ⟨Int.le_refl _,Int.le_refl _⟩
  | x :: os,n,m,h,hn,hm => by
    have h0 := h x (by simp)
    rw [lengths]
    have := lengths_mono os (sat (if x.kind ≠ 2 then n + opLen x else n)) (sat (if x.kind ≠ 1 then m + opLen x else m)) (fun y hy => h y (by simp [hy])) sat_le sat_le
    have a : n≤sat (if x.kind ≠ 2 then n + opLen x else n) := by unfold sat; split <;> split <;> omega
    have b : m≤sat (if x.kind ≠ 1 then m + opLen x else m) := by unfold sat; split <;> split <;> omega
    omega
theorem lengths_each (os : List OP) : ∀ (n m : Int),(∀ x,x ∈ os→0≤opLen x)→0≤n→n≤1048576→0≤m→m≤1048576→(lengths n m os).1 < 1048576→(lengths n m os).2 < 1048576→∀ x,x ∈ os→opLen x < 1048576 := by
  induction os with
  | nil => intro n m _ _ _ _ _ _ _ x hx; cases hx
  | cons y os ih =>
    intro n m h n0 n1 m0 m1 g1 g2 x hx
    have h0 := h y (by simp)
    rw [lengths] at g1 g2
    have mono := lengths_mono os (sat (if y.kind ≠ 2 then n + opLen y else n)) (sat (if y.kind ≠ 1 then m + opLen y else m)) (fun z hz => h z (by simp [hz])) sat_le sat_le
    have a : 0≤sat (if y.kind ≠ 2 then n + opLen y else n) := by unfold sat; split <;> split <;> omega
    have b : 0≤sat (if y.kind ≠ 1 then m + opLen y else m) := by unfold sat; split <;> split <;> omega
    rcases List.mem_cons.1 hx with rfl | hx
    · by_cases k2 : x.kind = 2
      · have e : sat (if x.kind ≠ 1 then m + opLen x else m) = sat (m + opLen x) := by rw [if_pos (by omega)]
        have : sat (m + opLen x) < 1048576 := by rw [← e]; omega
        unfold sat at this
        split at this <;> omega
      · have e : sat (if x.kind ≠ 2 then n + opLen x else n) = sat (n + opLen x) := by rw [if_pos k2]
        have : sat (n + opLen x) < 1048576 := by rw [← e]; omega
        unfold sat at this
        split at this <;> omega
    · exact ih _ _ (fun z hz => h z (by simp [hz])) a sat_le b sat_le g1 g2 x hx
end Go.PL

namespace Go.Proofs.YthfiijdbnkaabaaGreat
set_option linter.unusedVariables false
set_option linter.unusedSimpArgs false
set_option maxRecDepth 20000
open Go Go.G Go.Proofs
@[simp] theorem zeroT_30 : zeroT Tryz.prog 30 = some (Value.agg #[Value.int IntKind.i64 0,Value.int IntKind.i64 0,Value.slice none 0 0,Value.slice none 0 0,Value.int IntKind.i64 0,Value.slice none 0 0,Value.slice none 0 0,Value.slice none 0 0,Value.slice none 0 0,Value.int IntKind.i64 0,Value.slice none 0 0]) := by kernel_rfl
@[simp] theorem fieldOffT_88_0 : fieldOffT Tryz.prog 88 0 = some 0 := by kernel_rfl
@[simp] theorem fieldOffT_98_0 : fieldOffT Tryz.prog 98 0 = some 0 := by kernel_rfl
@[simp] theorem fieldOffT_98_1 : fieldOffT Tryz.prog 98 1 = some 1 := by kernel_rfl
@[simp] theorem buildA_63 (ps : List (Nat × A)) : buildA Tryz.prog 63 ps = (fillA (fun i => ([(0,1),(1,1),(2,1),(3,1)] : List (Nat × Nat))[i]?) [A.v (Value.int IntKind.i64 0),A.v (Value.int IntKind.u8 0),A.v (Value.int IntKind.u64 0),A.v (Value.int IntKind.u64 0)] ps).map A.agg := by kernel_rfl
@[simp] theorem buildA_66 (ps : List (Nat × A)) : buildA Tryz.prog 66 ps = (fillA (fun i => ([(0,1),(1,11)] : List (Nat × Nat))[i]?) [A.v (Value.int IntKind.i64 0),A.v (Value.int IntKind.i64 0),A.v (Value.int IntKind.i64 0),A.sl true [],A.sl true [],A.v (Value.int IntKind.i64 0),A.sl true [],A.sl true [],A.sl true [],A.sl true [],A.v (Value.int IntKind.i64 0),A.sl true []] ps).map A.agg := by kernel_rfl
@[simp] theorem buildA_69 (ps : List (Nat × A)) : buildA Tryz.prog 69 ps = (fillA (fun i => ([(0,1),(1,1),(2,1),(3,11)] : List (Nat × Nat))[i]?) [A.v (Value.int IntKind.i64 0),A.v (Value.int IntKind.i64 0),A.sl true [],A.v (Value.int IntKind.i64 0),A.v (Value.int IntKind.i64 0),A.sl true [],A.sl true [],A.v (Value.int IntKind.i64 0),A.sl true [],A.sl true [],A.sl true [],A.sl true [],A.v (Value.int IntKind.i64 0),A.sl true []] ps).map A.agg := by kernel_rfl
@[simp] theorem buildA_88 (ps : List (Nat × A)) : buildA Tryz.prog 88 ps = (fillA (fun i => ([(0,1)] : List (Nat × Nat))[i]?) [A.sl true []] ps).map A.agg := by kernel_rfl
@[simp] theorem buildA_98 (ps : List (Nat × A)) : buildA Tryz.prog 98 ps = (fillA (fun i => ([(0,1),(1,1)] : List (Nat × Nat))[i]?) [A.v (Value.int IntKind.i64 0),A.v (Value.int IntKind.i64 0)] ps).map A.agg := by kernel_rfl
@[simp] theorem eqA_63 (x0 y0 : Int) (x1 y1 : Int) (x2 y2 : Int) (x3 y3 : Int) : eqA Tryz.prog 100 63 (.agg [A.v (.int .i64 x0),A.v (.int .u8 x1),A.v (.int .u64 x2),A.v (.int .u64 x3)]) (.agg [A.v (.int .i64 y0),A.v (.int .u8 y1),A.v (.int .u64 y2),A.v (.int .u64 y3)]) = some (((x0 == y0) && ((x1 == y1) && ((x2 == y2) && ((x3 == y3) && (true)))))) := by kernel_rfl
@[simp] theorem eqG_63 : Tryz.prog.eqGuardType Tryz.prog.depth 63 = false := by kernel_rfl
@[simp] theorem fieldT_25_2 : fieldT Tryz.prog 25 2 = some (23,2) := by kernel_rfl
def c_word_Fits : CC := sR [oO 4 (.assign (nB false))] [0,1] (sR [mO 8 0,oO 9 (cL 133 #[(xT 8)] #[3]),mO 7 9,xO 10 7 0,xO 11 7 1,aO 5 10,aO 6 11] [1,5,6] (sR [mO 12 6,mO 13 12,oG 14 (mV 5) 13 true,oG 15 (.binOp .eql 3 (xT 14) (nI 64) 3) 13 true,oG 16 (mV 15) 13 true,oG 17 (mV 1) 16 false,oG 18 (mV 5) 16 false,oG 19 (bO .shr 60 17 18 3) 16 false,oG 20 (.binOp .eql 60 (xT 19) (.const (.int .u64 0)) 60) 16 false,oG 21 (.pick (xT 16) (nB true) (xT 20)) 13 true,oO 22 (.pick (xT 13) (xT 21) (nB false)),aO 4 22] [4] (.ret)))
theorem t_word_Fits : Txt Tryz.prog 134 23 [(.tmp 4)] c_word_Fits := txt_of (code := Tryz.f134.body.getD .ret) mixed (by kernel_rfl) Tryz.func134 (by kernel_rfl) Tryz.ntmps134 (by kernel_rfl) (ls := lsOf c_word_Fits) (by kernel_rfl)
def l1_word_Put : CC := sR [oO 26 (bO .lss 3 25 24 3)] [0,6,8,23,24,25,26] (.seq (cD 26 (.skip) (.exit 0)) (.keep [0,6,8,23,24,25] (.seq (.block 1 (sR [mO 27 25,oO 28 (iA 22 23 25),lO 29 60 28,aO 9 27,aO 10 29] [0,6,8,9,10,23,24,25] (.seq (sR [mO 30 0,mO 31 10,oO 32 (cL 134 #[(xT 30),(xT 31)] #[3,60]),oO 33 (.unOp .not 4 (xT 32))] [0,6,8,9,10,23,24,25,33] (cD 33 (sR [oO 4 (.assign nS),oO 5 (.assign (nB false))] [4,5] (.ret)) (.skip))) (.keep [0,6,8,9,10,23,24,25] (sR [mO 34 6,oO 35 (.binOp .gtr 3 (xT 34) (nI 0) 3)] [0,6,8,9,10,23,24,25,35] (cD 35 (.reg [mO 36 8,mO 37 9,mO 38 6,oO 39 (bO .mul 3 37 38 3),oO 40 (.binOp .quo 3 (xT 39) (nI 64) 3),oO 41 (iA 22 36 40),lO 42 60 41,mO 43 10,mO 44 9,mO 45 6,oO 46 (bO .mul 3 44 45 3),oO 47 (.binOp .rem 3 (xT 46) (nI 64) 3),oO 48 (bO .shl 60 43 47 3),oO 49 (bO .or 60 42 48 60),oO 50 (iA 22 36 40),oS (.store 60 (xT 50) (xT 49))] [0,6,8,23,24,25]) (.skip))))))) (.keep [0,6,8,23,24,25] (.reg [oO 51 (.binOp .add 3 (xT 25) (nI 1) 3),mO 25 51] [0,6,8,23,24,25]))))) 
def c_word_Put : CC := sR [oO 4 (.assign nS),oO 5 (.assign (nB false))] [0,1] (sR [mO 12 0,oO 13 (cL 133 #[(xT 12)] #[3]),mO 11 13,xO 14 11 0,xO 15 11 1,aO 6 14,aO 7 15] [0,1,6,7] (.seq (sR [mO 16 7,oO 17 (.unOp .not 4 (xT 16))] [0,1,6,17] (cD 17 (sR [oO 4 (.assign nS),oO 5 (.assign (nB false))] [4,5] (.ret)) (.skip))) (.keep [0,1,6] (sR [mO 18 0,mO 19 1,oO 20 (bL 19 22),oO 21 (cL 130 #[(xT 18),(xT 20)] #[3,3]),oN 22 (.makeSlice 22 (xT 21) (xT 21)) [0],aO 8 22] [0,1,6,8] (.seq (sR [mO 23 1,oO 24 (bL 23 22),oO 25 (.move (nI 0))] [0,6,8,23,24,25] (.block 0 (.loop l1_word_Put))) (.keep [8] (sR [mO 52 8,aO 4 52,oO 5 (.assign (nB true))] [4,5] (.ret))))))))
theorem t_word_Put : Txt Tryz.prog 99 53 [(.tmp 4),(.tmp 5)] c_word_Put := txt_of (code := Tryz.f99.body.getD .ret) mixed (by kernel_rfl) Tryz.func99 (by kernel_rfl) Tryz.ntmps99 (by kernel_rfl) (ls := lsOf c_word_Put) (by kernel_rfl)
def c_tree_List : CC := sR [oO 2 (.assign (nB false))] [0] (sR [mO 3 0,oO 4 (.binOp .geq 3 (xT 3) (nI 2) 3),mO 5 4,oG 6 (mV 0) 5 true,oG 7 (.binOp .leq 3 (xT 6) (nI 9) 3) 5 true,oO 8 (.pick (xT 5) (xT 7) (nB false)),aO 2 8] [2] (.ret))
theorem t_tree_List : Txt Tryz.prog 91 9 [(.tmp 2)] c_tree_List := txt_of (code := Tryz.f91.body.getD .ret) mixed (by kernel_rfl) Tryz.func91 (by kernel_rfl) Tryz.ntmps91 (by kernel_rfl) (ls := lsOf c_tree_List) (by kernel_rfl)
def c_tree_kid : CC := sR [oN 3 (.box 25 (xT 1)) [0],oO 4 (.assign (nB false))] [0,3] (.seq (.block 0 (sR [mO 6 0,oO 7 (cL 105 #[(xT 6)] #[3]),aO 5 7] [0,3,5] (cD 5 (sR [fO 8 25 3 0,lO 9 3 8,oO 10 (.binOp .eql 3 (xT 9) (nI 10) 3),mO 11 10,oG 12 (fA 25 3 2) 11 true,oG 13 (lD 23 12) 11 true,oG 14 (bL 13 23) 11 true,oG 15 (.binOp .eql 3 (xT 14) (nI 0) 3) 11 true,oO 16 (.pick (xT 11) (xT 15) (nB false)),mO 17 16,oG 18 (fA 25 3 1) 17 true,oG 19 (lD 22 18) 17 true,oG 20 (bL 19 22) 17 true,oG 21 (.binOp .eql 3 (xT 20) (nI 1) 3) 17 true,oO 22 (.pick (xT 17) (xT 21) (nB false)),mO 23 22,oG 24 (mV 0) 23 true,oG 25 (.binOp .sub 3 (xT 24) (nI 2) 3) 23 true,oG 26 (fA 25 3 1) 23 true,oG 27 (lD 22 26) 23 true,oG 28 (.indexAddr 22 (xT 27) (nI 0)) 23 true,oG 29 (lD 60 28) 23 true,oG 30 (cL 134 #[(xT 25),(xT 29)] #[3,60]) 23 true,oO 31 (.pick (xT 23) (xT 30) (nB false)),aO 4 31] [4] (.ret)) (sR [mO 33 0,oO 34 (.binOp .eql 3 (xT 33) (nI 9) 3),aO 32 34] [3,32] (cD 32 (sR [fO 35 25 3 0,lO 36 3 35,oO 37 (.binOp .eql 3 (xT 36) (nI 1) 3),aO 4 37] [4] (.ret)) (.skip)))))) (.keep [3] (sR [fO 38 25 3 0,lO 39 3 38,oO 40 (.binOp .neq 3 (xT 39) (nI 10) 3),aO 4 40] [4] (.ret))))
theorem t_tree_kid : Txt Tryz.prog 129 41 [(.tmp 4)] c_tree_kid := txt_of (code := Tryz.f129.body.getD .ret) mixed (by kernel_rfl) Tryz.func129 (by kernel_rfl) Tryz.ntmps129 (by kernel_rfl) (ls := lsOf c_tree_kid) (by kernel_rfl)
def k1_tree_right : CC := sR [mO 87 7,oO 88 (.unOp .not 4 (xT 87)),mO 89 88,oG 90 (lD 25 6) 89 false,oG 91 (mV 1) 89 false,oG 92 (.binOp .sub 3 (xT 91) (nI 1) 3) 89 false,oG 93 (cL 93 #[(xT 90),(xT 92)] #[25,3]) 89 false,oG 94 (.unOp .not 4 (xT 93)) 89 false,oO 95 (.pick (xT 89) (nB true) (xT 94))] [1,2,71,72,73,95] (cD 95 (sR [oO 4 (.assign (nB false))] [4] (.ret)) (.skip))
def l1_tree_right : CC := sR [oO 74 (bO .lss 3 73 72 3)] [1,2,71,72,73,74] (.seq (cD 74 (.skip) (.exit 1)) (.keep [1,2,71,72,73] (.seq (.block 2 (sR [oO 75 (iA 23 71 73),lO 76 25 75,oN 6 (.alloc 25) [1],oS (.store 25 (xT 6) (xT 76))] [1,2,6,71,72,73] (sR [fO 77 25 6 0,lO 78 3 77,oO 79 (.binOp .neq 3 (xT 78) (nI 10) 3),aO 7 79] [1,2,6,7,71,72,73] (.seq (sR [fO 80 25 2 0,lO 81 3 80,oO 82 (.binOp .neq 3 (xT 81) (nI 1) 3)] [1,2,6,7,71,72,73,82] (cD 82 (.reg [fO 83 25 2 0,lO 84 3 83,lO 85 25 6,oO 86 (cL 129 #[(xT 84),(xT 85)] #[3,25]),aO 7 86] [1,2,6,7,71,72,73]) (.skip))) (.keep [1,2,6,7,71,72,73] k1_tree_right))))) (.keep [1,2,71,72,73] (.reg [oO 96 (.binOp .add 3 (xT 73) (nI 1) 3),mO 73 96] [1,2,71,72,73])))))
def k2_tree_right : CC := .seq (sR [fO 70 25 2 2,lO 71 23 70,oO 72 (bL 71 23),oO 73 (.move (nI 0))] [1,2,71,72,73] (.block 1 (.loop l1_tree_right))) (.keep [] (sR [oO 4 (.assign (nB true))] [4] (.ret))) 
def c_tree_right : CC := sR [oN 2 (.box 25 (xT 0)) [0],oO 4 (.assign (nB false))] [1,2] (.seq (.block 0 (sR [fO 9 25 2 0,lO 10 3 9,oO 11 (.binOp .eql 3 (xT 10) (nI 0) 3),aO 8 11] [1,2,8] (cD 8 (sR [fO 12 25 2 1,lO 13 22 12,oO 14 (bL 13 22),oO 15 (.binOp .eql 3 (xT 14) (nI 0) 3),mO 16 15,oG 17 (fA 25 2 2) 16 true,oG 18 (lD 23 17) 16 true,oG 19 (bL 18 23) 16 true,oG 20 (.binOp .eql 3 (xT 19) (nI 0) 3) 16 true,oO 21 (.pick (xT 16) (xT 20) (nB false)),aO 4 21] [4] (.ret)) (sR [fO 23 25 2 0,lO 24 3 23,oO 25 (.binOp .eql 3 (xT 24) (nI 10) 3),aO 22 25] [1,2,22] (cD 22 (sR [fO 26 25 2 1,lO 27 22 26,oO 28 (bL 27 22),oO 29 (.binOp .eql 3 (xT 28) (nI 1) 3),mO 30 29,oG 31 (fA 25 2 2) 30 true,oG 32 (lD 23 31) 30 true,oG 33 (bL 32 23) 30 true,oG 34 (.binOp .eql 3 (xT 33) (nI 0) 3) 30 true,oO 35 (.pick (xT 30) (xT 34) (nB false)),aO 4 35] [4] (.ret)) (sR [mO 37 1,oO 38 (.binOp .eql 3 (xT 37) (nI 0) 3),aO 36 38] [1,2,36] (cD 36 (sR [oO 4 (.assign (nB false))] [4] (.ret)) (sR [fO 40 25 2 0,lO 41 3 40,oO 42 (.binOp .eql 3 (xT 41) (nI 1) 3),aO 39 42] [1,2,39] (cD 39 (sR [fO 43 25 2 1,lO 44 22 43,oO 45 (bL 44 22),oO 46 (.binOp .geq 3 (xT 45) (nI 65536) 3),mO 47 46,oG 48 (fA 25 2 2) 47 false,oG 49 (lD 23 48) 47 false,oG 50 (bL 49 23) 47 false,oG 51 (.binOp .geq 3 (xT 50) (nI 65536) 3) 47 false,oO 52 (.pick (xT 47) (nB true) (xT 51))] [1,2,52] (cD 52 (sR [oO 4 (.assign (nB false))] [4] (.ret)) (.skip))) (sR [fO 54 25 2 0,lO 55 3 54,oO 56 (cL 91 #[(xT 55)] #[3]),oO 57 (.unOp .not 4 (xT 56)),mO 58 57,oG 59 (fA 25 2 1) 58 false,oG 60 (lD 22 59) 58 false,oG 61 (bL 60 22) 58 false,oG 62 (.binOp .gtr 3 (xT 61) (nI 0) 3) 58 false,oO 63 (.pick (xT 58) (nB true) (xT 62)),mO 64 63,oG 65 (fA 25 2 2) 64 false,oG 66 (lD 23 65) 64 false,oG 67 (bL 66 23) 64 false,oG 68 (.binOp .geq 3 (xT 67) (nI 1048576) 3) 64 false,oO 69 (.pick (xT 64) (nB true) (xT 68)),aO 53 69] [1,2,53] (cD 53 (sR [oO 4 (.assign (nB false))] [4] (.ret)) (.skip)))))))))))) (.keep [1,2] k2_tree_right))
theorem t_tree_right : Txt Tryz.prog 93 97 [(.tmp 4)] c_tree_right := txt_of (code := Tryz.f93.body.getD .ret) mixed (by kernel_rfl) Tryz.func93 (by kernel_rfl) Tryz.ntmps93 (by kernel_rfl) (ls := lsOf c_tree_right) (by kernel_rfl)
def c_tree_Right : CC := sR [oN 1 (.box 25 (xT 0)) [0],oO 2 (.assign (nB false))] [1] (sR [lO 3 25 1,oO 4 (cL 93 #[(xT 3),(nI 64)] #[25,3]),aO 2 4] [2] (.ret))
theorem t_tree_Right : Txt Tryz.prog 58 5 [(.tmp 2)] c_tree_Right := txt_of (code := Tryz.f58.body.getD .ret) mixed (by kernel_rfl) Tryz.func58 (by kernel_rfl) Tryz.ntmps58 (by kernel_rfl) (ls := lsOf c_tree_Right) (by kernel_rfl)
def l1_slices_Equal_uint64_uint64 : CC := sR [oO 14 (bO .lss 3 13 12 3)] [0,1,12,13,14] (.seq (cD 14 (.skip) (.exit 0)) (.keep [0,1,12,13] (.seq (.block 1 (sR [mO 15 13,aO 5 15] [0,1,5,12,13] (sR [mO 16 0,mO 17 5,oO 18 (iA 22 16 17),lO 19 60 18,mO 20 1,mO 21 5,oO 22 (iA 22 20 21),lO 23 60 22,oO 24 (bO .neq 60 19 23 60)] [0,1,12,13,24] (cD 24 (sR [oO 4 (.assign (nB false))] [4] (.ret)) (.skip))))) (.keep [0,1,12,13] (.reg [oO 25 (.binOp .add 3 (xT 13) (nI 1) 3),mO 13 25] [0,1,12,13]))))) 
def c_slices_Equal_uint64_uint64 : CC := sR [oO 4 (.assign (nB false))] [0,1] (.seq (sR [mO 6 0,oO 7 (bL 6 22),mO 8 1,oO 9 (bL 8 22),oO 10 (bO .neq 3 7 9 3)] [0,1,10] (cD 10 (sR [oO 4 (.assign (nB false))] [4] (.ret)) (.skip))) (.keep [0,1] (.seq (sR [mO 11 0,oO 12 (bL 11 22),oO 13 (.move (nI 0))] [0,1,12,13] (.block 0 (.loop l1_slices_Equal_uint64_uint64))) (.keep [] (sR [oO 4 (.assign (nB true))] [4] (.ret))))))
theorem t_slices_Equal_uint64_uint64 : Txt Tryz.prog 74 26 [(.tmp 4)] c_slices_Equal_uint64_uint64 := txt_of (code := Tryz.f74.body.getD .ret) mixed (by kernel_rfl) Tryz.func74 (by kernel_rfl) Tryz.ntmps74 (by kernel_rfl) (ls := lsOf c_slices_Equal_uint64_uint64) (by kernel_rfl)
def l1_tree_Equal : CC := sR [oO 50 (bO .lss 3 49 48 3)] [2,3,48,49,50] (.seq (cD 50 (.skip) (.exit 0)) (.keep [2,3,48,49] (.seq (.block 1 (sR [mO 51 49,aO 5 51] [2,3,5,48,49] (sR [lO 52 25 2,mO 53 5,⟨some 54,(cL 70 #[(xT 52),(xT 53)] #[25,3]),none,[],2,[],true⟩,⟨some 55,(lD 25 3),none,[],3,[2],false⟩,mO 56 5,oO 57 (cL 70 #[(xT 55),(xT 56)] #[25,3]),oO 58 (bO .neq 60 54 57 60)] [2,3,48,49,58] (cD 58 (sR [oO 4 (.assign (nB false))] [4] (.ret)) (.skip))))) (.keep [2,3,48,49] (.reg [oO 59 (.binOp .add 3 (xT 49) (nI 1) 3),mO 49 59] [2,3,48,49])))))
def l2_tree_Equal : CC := sR [oO 68 (bO .lss 3 67 66 3)] [2,3,66,67,68] (.seq (cD 68 (.skip) (.exit 2)) (.keep [2,3,66,67] (.seq (.block 3 (sR [mO 69 67,aO 6 69] [2,3,6,66,67] (sR [lO 70 25 2,mO 71 6,⟨some 72,(cL 72 #[(xT 70),(xT 71)] #[25,3]),none,[],2,[],true⟩,⟨some 73,(lD 25 3),none,[],3,[2],false⟩,mO 74 6,oO 75 (cL 72 #[(xT 73),(xT 74)] #[25,3]),oO 76 (cL 41 #[(xT 72),(xT 75)] #[25,25]),oO 77 (.unOp .not 4 (xT 76))] [2,3,66,67,77] (cD 77 (sR [oO 4 (.assign (nB false))] [4] (.ret)) (.skip))))) (.keep [2,3,66,67] (.reg [oO 78 (.binOp .add 3 (xT 67) (nI 1) 3),mO 67 78] [2,3,66,67])))))
def k1_tree_Equal : CC := .seq (sR [fO 42 25 2 1,lO 43 22 42,oO 44 (bL 43 22),fO 45 25 3 1,lO 46 22 45,oO 47 (bL 46 22),oO 48 (bC .max #[(xT 44),(xT 47)] #[3,3]),oO 49 (.move (nI 0))] [2,3,48,49] (.block 0 (.loop l1_tree_Equal))) (.keep [2,3] (.seq (sR [fO 60 25 2 2,lO 61 23 60,oO 62 (bL 61 23),fO 63 25 3 2,lO 64 23 63,oO 65 (bL 64 23),oO 66 (bC .max #[(xT 62),(xT 65)] #[3,3]),oO 67 (.move (nI 0))] [2,3,66,67] (.block 2 (.loop l2_tree_Equal))) (.keep [] (sR [oO 4 (.assign (nB true))] [4] (.ret))))) 
def c_tree_Equal : CC := sR [oN 2 (.box 25 (xT 0)) [0],oN 3 (.box 25 (xT 1)) [1],oO 4 (.assign (nB false))] [2,3] (.seq (sR [fO 7 25 2 0,lO 8 3 7,fO 9 25 3 0,lO 10 3 9,oO 11 (bO .neq 3 8 10 3),mO 12 11,oG 13 (fA 25 2 0) 12 false,oG 14 (lD 3 13) 12 false,oG 15 (.binOp .eql 3 (xT 14) (nI 0) 3) 12 false,oO 16 (.pick (xT 12) (nB true) (xT 15))] [2,3,16] (cD 16 (sR [fO 17 25 2 0,lO 18 3 17,fO 19 25 3 0,lO 20 3 19,oO 21 (bO .eql 3 18 20 3),aO 4 21] [4] (.ret)) (.skip))) (.keep [2,3] (.seq (sR [fO 22 25 2 0,lO 23 3 22,oO 24 (.binOp .neq 3 (xT 23) (nI 1) 3),mO 25 24,oG 26 (fA 25 2 2) 25 true,oG 27 (lD 23 26) 25 true,oG 28 (bL 27 23) 25 true,oG 29 (fA 25 3 2) 25 true,oG 30 (lD 23 29) 25 true,oG 31 (bL 30 23) 25 true,oG 32 (bO .neq 3 28 31 3) 25 true,oG 33 (mV 32) 25 true,oG 34 (fA 25 2 1) 33 false,oG 35 (lD 22 34) 33 false,oG 36 (fA 25 3 1) 33 false,oG 37 (lD 22 36) 33 false,oG 38 (cL 74 #[(xT 35),(xT 37)] #[22,22]) 33 false,oG 39 (.unOp .not 4 (xT 38)) 33 false,oG 40 (.pick (xT 33) (nB true) (xT 39)) 25 true,oO 41 (.pick (xT 25) (xT 40) (nB false))] [2,3,41] (cD 41 (sR [oO 4 (.assign (nB false))] [4] (.ret)) (.skip))) (.keep [2,3] (.stop k1_tree_Equal)))))
theorem t_tree_Equal : Txt Tryz.prog 41 79 [(.tmp 4)] c_tree_Equal := txt_of (code := Tryz.f41.body.getD .ret) mixed (by kernel_rfl) Tryz.func41 (by kernel_rfl) Tryz.ntmps41 (by kernel_rfl) (ls := lsOf c_tree_Equal) (by kernel_rfl)
def c_edit_bare_1 : CC := sR [oN 1 (.box 25 (xT 0)) [0],oO 2 (.assign (nB false))] [1] (sR [fO 3 25 1 0,lO 4 3 3,oO 5 (.binOp .eql 3 (xT 4) (nI 0) 3),mO 6 5,oG 7 (fA 25 1 1) 6 true,oG 8 (lD 22 7) 6 true,oG 9 (bL 8 22) 6 true,oG 10 (fA 25 1 2) 6 true,oG 11 (lD 23 10) 6 true,oG 12 (bL 11 23) 6 true,oG 13 (bO .add 3 9 12 3) 6 true,oG 14 (.binOp .eql 3 (xT 13) (nI 0) 3) 6 true,oO 15 (.pick (xT 6) (xT 14) (nB false)),aO 2 15] [2] (.ret))
theorem t_edit_bare_1 : Txt Tryz.prog 125 16 [(.tmp 2)] c_edit_bare_1 := txt_of (code := Tryz.f125.body.getD .ret) mixed (by kernel_rfl) Tryz.func125 (by kernel_rfl) Tryz.ntmps125 (by kernel_rfl) (ls := lsOf c_edit_bare_1) (by kernel_rfl)
def c_edit_bare : CC := sR [oN 1 (.box 30 (xT 0)) [0],oO 2 (.assign (nB false))] [1] (sR [oO 3 (.assign (.func 125))] [1,3] (.seq (.block 0 (sR [fO 5 30 1 0,lO 6 3 5,oO 7 (.binOp .neq 3 (xT 6) (nI 1) 3),mO 8 7,oG 9 (mV 3) 8 true,oG 10 (fA 30 1 1) 8 true,oG 11 (lD 25 10) 8 true,oG 12 (.call { callee := (.value (xT 9)),args := #[(xT 11)],argTypes := #[25] }) 8 true,oG 13 (mV 12) 8 true,oG 14 (mV 3) 13 true,oG 15 (fA 30 1 2) 13 true,oG 16 (lD 25 15) 13 true,oG 17 (.call { callee := (.value (xT 14)),args := #[(xT 16)],argTypes := #[25] }) 13 true,oG 18 (.pick (xT 13) (xT 17) (nB false)) 8 true,oG 19 (.unOp .not 4 (xT 18)) 8 true,oO 20 (.pick (xT 8) (xT 19) (nB false)),aO 4 20] [1,4] (cD 4 (sR [oO 2 (.assign (nB false))] [2] (.ret)) (sR [fO 22 30 1 0,lO 23 3 22,oO 24 (.binOp .neq 3 (xT 23) (nI 2) 3),mO 25 24,oG 26 (fA 30 1 3) 25 true,oG 27 (lD 26 26) 25 true,oG 28 (bL 27 26) 25 true,oG 29 (fA 30 1 4) 25 true,oG 30 (lD 27 29) 25 true,oG 31 (bL 30 27) 25 true,oG 32 (bO .add 3 28 31 3) 25 true,oG 33 (.binOp .gtr 3 (xT 32) (nI 0) 3) 25 true,oO 34 (.pick (xT 25) (xT 33) (nB false)),aO 21 34] [1,21] (cD 21 (sR [oO 2 (.assign (nB false))] [2] (.ret)) (.skip)))))) (.keep [1] (sR [fO 35 30 1 0,lO 36 3 35,oO 37 (.binOp .eql 3 (xT 36) (nI 3) 3),mO 38 37,oG 39 (fA 30 1 5) 38 false,oG 40 (lD 3 39) 38 false,oG 41 (.binOp .eql 3 (xT 40) (nI 0) 3) 38 false,oG 42 (mV 41) 38 false,oG 43 (fA 30 1 6) 42 true,oG 44 (lD 28 43) 42 true,oG 45 (bL 44 28) 42 true,oG 46 (.binOp .eql 3 (xT 45) (nI 0) 3) 42 true,oG 47 (.pick (xT 42) (xT 46) (nB false)) 38 false,oO 48 (.pick (xT 38) (nB true) (xT 47)),aO 2 48] [2] (.ret)))))
theorem t_edit_bare : Txt Tryz.prog 87 49 [(.tmp 2)] c_edit_bare := txt_of (code := Tryz.f87.body.getD .ret) mixed (by kernel_rfl) Tryz.func87 (by kernel_rfl) Tryz.ntmps87 (by kernel_rfl) (ls := lsOf c_edit_bare) (by kernel_rfl)
def c_edit_value : CC := sR [oN 1 (.box 25 (xT 0)) [0],oO 2 (.assign (nB false))] [1] (sR [fO 3 25 1 0,lO 4 3 3,oO 5 (.binOp .neq 3 (xT 4) (nI 10) 3),mO 6 5,oG 7 (lD 25 1) 6 true,oG 8 (cL 58 #[(xT 7)] #[25]) 6 true,oO 9 (.pick (xT 6) (xT 8) (nB false)),aO 2 9] [2] (.ret))
theorem t_edit_value : Txt Tryz.prog 88 10 [(.tmp 2)] c_edit_value := txt_of (code := Tryz.f88.body.getD .ret) mixed (by kernel_rfl) Tryz.func88 (by kernel_rfl) Tryz.ntmps88 (by kernel_rfl) (ls := lsOf c_edit_value) (by kernel_rfl)
def k1_edit_words : CC := sR [fO 40 63 4 2,lO 41 60 40,fO 42 63 4 1,lO 43 5 42,oO 44 (cL 126 #[(xT 41),(.const (.int .u64 0)),(xT 43)] #[60,60,5]),oO 45 (.binOp .neq 60 (xT 44) (.const (.int .u64 0)) 60),mO 46 45,oG 47 (fA 63 4 3) 46 false,oG 48 (lD 60 47) 46 false,oG 49 (fA 63 4 1) 46 false,oG 50 (lD 5 49) 46 false,oG 51 (cL 126 #[(xT 48),(.const (.int .u64 0)),(xT 50)] #[60,60,5]) 46 false,oG 52 (.binOp .neq 60 (xT 51) (.const (.int .u64 0)) 60) 46 false,oO 53 (.pick (xT 46) (nB true) (xT 52))] [0,5,6,7,53] (cD 53 (sR [oO 2 (.assign (nB false))] [2] (.ret)) (.skip))
def l1_edit_words : CC := sR [oO 8 (bO .lss 3 7 6 3)] [0,5,6,7,8] (.seq (cD 8 (.skip) (.exit 0)) (.keep [0,5,6,7] (.seq (.block 1 (sR [mO 9 7,oO 10 (iA 26 5 7),lO 11 63 10,oN 4 (.alloc 63) [0],aO 3 9,oS (.store 63 (xT 4) (xT 11))] [0,3,4,5,6,7] (.seq (sR [fO 12 63 4 0,lO 13 3 12,oO 14 (.binOp .lss 3 (xT 13) (nI 0) 3),mO 15 14,oG 16 (fA 63 4 0) 15 false,oG 17 (lD 3 16) 15 false,oG 18 (.binOp .geq 3 (xT 17) (nI 65535) 3) 15 false,oO 19 (.pick (xT 15) (nB true) (xT 18)),mO 20 19,oG 21 (mV 3) 20 false,oG 22 (.binOp .gtr 3 (xT 21) (nI 0) 3) 20 false,oG 23 (mV 22) 20 false,oG 24 (mV 0) 23 true,oG 25 (mV 3) 23 true,oG 26 (.binOp .sub 3 (xT 25) (nI 1) 3) 23 true,oG 27 (iA 26 24 26) 23 true,oG 28 (fA 63 27 0) 23 true,oG 29 (lD 3 28) 23 true,oG 30 (fA 63 4 0) 23 true,oG 31 (lD 3 30) 23 true,oG 32 (bO .geq 3 29 31 3) 23 true,oG 33 (.pick (xT 23) (xT 32) (nB false)) 20 false,oO 34 (.pick (xT 20) (nB true) (xT 33)),mO 35 34,oG 36 (fA 63 4 1) 35 false,oG 37 (lD 5 36) 35 false,oG 38 (.binOp .eql 5 (xT 37) (.const (.int .u8 0)) 5) 35 false,oO 39 (.pick (xT 35) (nB true) (xT 38))] [0,4,5,6,7,39] (cD 39 (sR [oO 2 (.assign (nB false))] [2] (.ret)) (.skip))) (.keep [0,4,5,6,7] (.stop k1_edit_words))))) (.keep [0,5,6,7] (.reg [oO 54 (.binOp .add 3 (xT 7) (nI 1) 3),mO 7 54] [0,5,6,7]))))) 
def c_edit_words : CC := sR [oO 2 (.assign (nB false))] [0] (.seq (sR [mO 5 0,oO 6 (bL 5 26),oO 7 (.move (nI 0))] [0,5,6,7] (.block 0 (.loop l1_edit_words))) (.keep [] (sR [oO 2 (.assign (nB true))] [2] (.ret))))
theorem t_edit_words : Txt Tryz.prog 89 55 [(.tmp 2)] c_edit_words := txt_of (code := Tryz.f89.body.getD .ret) mixed (by kernel_rfl) Tryz.func89 (by kernel_rfl) Tryz.ntmps89 (by kernel_rfl) (ls := lsOf c_edit_words) (by kernel_rfl)
def l1_edit_kids : CC := sR [oO 10 (bO .lss 3 9 8 3)] [0,1,7,8,9,10] (.seq (cD 10 (.skip) (.exit 0)) (.keep [0,1,7,8,9] (.seq (.block 1 (sR [mO 11 9,oO 12 (iA 27 7 9),lO 13 66 12,oN 6 (.alloc 66) [0],aO 5 11,oS (.store 66 (xT 6) (xT 13))] [0,1,5,6,7,8,9] (sR [fO 14 66 6 0,lO 15 3 14,oO 16 (.binOp .lss 3 (xT 15) (nI 0) 3),mO 17 16,oG 18 (fA 66 6 0) 17 false,oG 19 (lD 3 18) 17 false,oG 20 (.binOp .geq 3 (xT 19) (nI 65535) 3) 17 false,oO 21 (.pick (xT 17) (nB true) (xT 20)),mO 22 21,oG 23 (mV 5) 22 false,oG 24 (.binOp .gtr 3 (xT 23) (nI 0) 3) 22 false,oG 25 (mV 24) 22 false,oG 26 (mV 0) 25 true,oG 27 (mV 5) 25 true,oG 28 (.binOp .sub 3 (xT 27) (nI 1) 3) 25 true,oG 29 (iA 27 26 28) 25 true,oG 30 (fA 66 29 0) 25 true,oG 31 (lD 3 30) 25 true,oG 32 (fA 66 6 0) 25 true,oG 33 (lD 3 32) 25 true,oG 34 (bO .geq 3 31 33 3) 25 true,oG 35 (.pick (xT 25) (xT 34) (nB false)) 22 false,oO 36 (.pick (xT 22) (nB true) (xT 35)),mO 37 36,oG 38 (fA 66 6 1) 37 false,oG 39 (fA 30 38 0) 37 false,oG 40 (lD 3 39) 37 false,oG 41 (.binOp .eql 3 (xT 40) (nI 0) 3) 37 false,oO 42 (.pick (xT 37) (nB true) (xT 41)),mO 43 42,oG 44 (fA 66 6 1) 43 false,oG 45 (lD 30 44) 43 false,oG 46 (mV 1) 43 false,oG 47 (cL 57 #[(xT 45),(xT 46)] #[30,3]) 43 false,oG 48 (.unOp .not 4 (xT 47)) 43 false,oO 49 (.pick (xT 43) (nB true) (xT 48))] [0,1,7,8,9,49] (cD 49 (sR [oO 4 (.assign (nB false))] [4] (.ret)) (.skip))))) (.keep [0,1,7,8,9] (.reg [oO 50 (.binOp .add 3 (xT 9) (nI 1) 3),mO 9 50] [0,1,7,8,9]))))) 
def c_edit_kids : CC := sR [oO 4 (.assign (nB false))] [0,1] (.seq (sR [mO 7 0,oO 8 (bL 7 27),oO 9 (.move (nI 0))] [0,1,7,8,9] (.block 0 (.loop l1_edit_kids))) (.keep [] (sR [oO 4 (.assign (nB true))] [4] (.ret))))
theorem t_edit_kids : Txt Tryz.prog 90 51 [(.tmp 4)] c_edit_kids := txt_of (code := Tryz.f90.body.getD .ret) mixed (by kernel_rfl) Tryz.func90 (by kernel_rfl) Tryz.ntmps90 (by kernel_rfl) (ls := lsOf c_edit_kids) (by kernel_rfl)
def c_edit_kid : CC := sR [oN 3 (.box 25 (xT 1)) [0],oO 4 (.assign (nB false))] [0,3] (sR [mO 5 0,lO 6 25 3,oO 7 (.buildSlice 23 1 #[(0,(xT 6))]),oO 8 (.build 25 #[(0,(xT 5)),(2,(xT 7))]),oO 9 (cL 58 #[(xT 8)] #[25]),aO 4 9] [4] (.ret))
theorem t_edit_kid : Txt Tryz.prog 149 10 [(.tmp 4)] c_edit_kid := txt_of (code := Tryz.f149.body.getD .ret) mixed (by kernel_rfl) Tryz.func149 (by kernel_rfl) Tryz.ntmps149 (by kernel_rfl) (ls := lsOf c_edit_kid) (by kernel_rfl)
def c_edit_within : CC := sR [oN 3 (.box 30 (xT 1)) [0],oO 4 (.assign (nB false))] [0,3] (.seq (.block 0 (sR [mO 6 0,oO 7 (cL 105 #[(xT 6)] #[3]),mO 8 7,oG 9 (fA 30 3 0) 8 false,oG 10 (lD 3 9) 8 false,oG 11 (.binOp .eql 3 (xT 10) (nI 0) 3) 8 false,oO 12 (.pick (xT 8) (nB true) (xT 11)),aO 5 12] [0,3,5] (cD 5 (sR [oO 4 (.assign (nB false))] [4] (.ret)) (sR [mO 14 0,oO 15 (.binOp .eql 3 (xT 14) (nI 8) 3),mO 16 15,oG 17 (fA 30 3 0) 16 false,oG 18 (lD 3 17) 16 false,oG 19 (.binOp .eql 3 (xT 18) (nI 2) 3) 16 false,oO 20 (.pick (xT 16) (nB true) (xT 19)),aO 13 20] [3,13] (cD 13 (sR [oO 4 (.assign (nB true))] [4] (.ret)) (.skip)))))) (.keep [3] (sR [fO 21 30 3 0,lO 22 3 21,oO 23 (.binOp .eql 3 (xT 22) (nI 1) 3),mO 24 23,oG 25 (fA 30 3 1) 24 true,oG 26 (fA 25 25 0) 24 true,oG 27 (lD 3 26) 24 true,oG 28 (.binOp .eql 3 (xT 27) (nI 1) 3) 24 true,oO 29 (.pick (xT 24) (xT 28) (nB false)),mO 30 29,oG 31 (fA 30 3 2) 30 true,oG 32 (fA 25 31 0) 30 true,oG 33 (lD 3 32) 30 true,oG 34 (.binOp .eql 3 (xT 33) (nI 1) 3) 30 true,oO 35 (.pick (xT 30) (xT 34) (nB false)),aO 4 35] [4] (.ret))))
theorem t_edit_within : Txt Tryz.prog 150 36 [(.tmp 4)] c_edit_within := txt_of (code := Tryz.f150.body.getD .ret) mixed (by kernel_rfl) Tryz.func150 (by kernel_rfl) Tryz.ntmps150 (by kernel_rfl) (ls := lsOf c_edit_within) (by kernel_rfl)
def c_edit_op_1 : CC := sR [oN 2 (.box 25 (xT 0)) [0],oO 3 (.assign (nB false))] [1,2] (sR [lO 4 3 1,lO 5 25 2,oO 6 (cL 149 #[(xT 4),(xT 5)] #[3,25]),oO 7 (.unOp .not 4 (xT 6)),aO 3 7] [3] (.ret))
theorem t_edit_op_1 : Txt Tryz.prog 148 8 [(.tmp 3)] c_edit_op_1 := txt_of (code := Tryz.f148.body.getD .ret) mixed (by kernel_rfl) Tryz.func148 (by kernel_rfl) Tryz.ntmps148 (by kernel_rfl) (ls := lsOf c_edit_op_1) (by kernel_rfl)
def l1_slices_IndexFunc_api_Tree_api_Tree : CC := sR [oO 9 (bO .lss 3 8 7 3)] [0,1,7,8,9] (.seq (cD 9 (.skip) (.exit 0)) (.keep [0,1,7,8] (.seq (.block 1 (sR [mO 10 8,aO 5 10] [0,1,5,7,8] (sR [mO 11 1,mO 12 0,mO 13 5,oO 14 (iA 23 12 13),lO 15 25 14,oO 16 (.call { callee := (.value (xT 11)),args := #[(xT 15)],argTypes := #[25] })] [0,1,5,7,8,16] (cD 16 (sR [mO 17 5,aO 4 17] [4] (.ret)) (.skip))))) (.keep [0,1,7,8] (.reg [oO 18 (.binOp .add 3 (xT 8) (nI 1) 3),mO 8 18] [0,1,7,8]))))) 
def c_slices_IndexFunc_api_Tree_api_Tree : CC := sR [oO 4 (.assign (nI 0))] [0,1] (.seq (sR [mO 6 0,oO 7 (bL 6 23),oO 8 (.move (nI 0))] [0,1,7,8] (.block 0 (.loop l1_slices_IndexFunc_api_Tree_api_Tree))) (.keep [] (sR [oO 4 (.assign (.const (.int .i64 (-1))))] [4] (.ret))))
theorem t_slices_IndexFunc_api_Tree_api_Tree : Txt Tryz.prog 161 19 [(.tmp 4)] c_slices_IndexFunc_api_Tree_api_Tree := txt_of (code := Tryz.f161.body.getD .ret) mixed (by kernel_rfl) Tryz.func161 (by kernel_rfl) Tryz.ntmps161 (by kernel_rfl) (ls := lsOf c_slices_IndexFunc_api_Tree_api_Tree) (by kernel_rfl)
def c_slices_ContainsFunc_api_Tree_api_Tree : CC := sR [oO 4 (.assign (nB false))] [0,1] (sR [mO 5 0,mO 6 1,oO 7 (cL 161 #[(xT 5),(xT 6)] #[23,42]),oO 8 (.binOp .geq 3 (xT 7) (nI 0) 3),aO 4 8] [4] (.ret))
theorem t_slices_ContainsFunc_api_Tree_api_Tree : Txt Tryz.prog 147 9 [(.tmp 4)] c_slices_ContainsFunc_api_Tree_api_Tree := txt_of (code := Tryz.f147.body.getD .ret) mixed (by kernel_rfl) Tryz.func147 (by kernel_rfl) Tryz.ntmps147 (by kernel_rfl) (ls := lsOf c_slices_ContainsFunc_api_Tree_api_Tree) (by kernel_rfl)
def k1_edit_op : CC := .seq (sR [fO 42 69 4 1,lO 43 3 42,oO 44 (.binOp .eql 3 (xT 43) (nI 0) 3),mO 45 44,oG 46 (fA 69 4 2) 45 true,oG 47 (lD 23 46) 45 true,oG 48 (bL 47 23) 45 true,oG 49 (.binOp .gtr 3 (xT 48) (nI 0) 3) 45 true,oO 50 (.pick (xT 45) (xT 49) (nB false)),mO 51 50,oG 52 (fA 69 4 3) 51 true,oG 53 (lD 30 52) 51 true,oG 54 (cL 57 #[(xT 53),(nI 1)] #[30,3]) 51 true,oO 55 (.pick (xT 51) (xT 54) (nB false)),mO 56 55,oG 57 (fA 69 4 3) 56 true,oG 58 (fA 30 57 0) 56 true,oG 59 (lD 3 58) 56 true,oG 60 (.binOp .eql 3 (xT 59) (nI 0) 3) 56 true,oO 61 (.pick (xT 56) (xT 60) (nB false)),mO 62 61,oG 63 (fA 69 4 2) 62 true,oG 64 (lD 23 63) 62 true,oG 65 (.makeFunc (.func 148) #[] #[(xT 3)]) 62 true,oG 66 (cL 147 #[(xT 64),(xT 65)] #[23,42]) 62 true,oG 67 (.unOp .not 4 (xT 66)) 62 true,oO 68 (.pick (xT 62) (xT 67) (nB false)),aO 6 68] [6] (.ret)) (.exit 0) 
def c_edit_op : CC := sR [oN 3 (.box 3 (xT 0)) [0],oN 4 (.box 69 (xT 1)) [1],oO 6 (.assign (nB false))] [2,3,4] (.seq (sR [fO 7 69 4 0,lO 8 3 7] [2,3,4,8] (.block 0 (.seq (.block 4 (.seq (.block 3 (.block 2 (.seq (.block 1 (.seq (.seq (sR [oO 10 (.binOp .eql 3 (xT 8) (nI 0) 3),aO 9 10] [2,3,4,8,9] (cD 9 (.exit 1) (.skip))) (.keep [2,3,4,8] (.seq (sR [oO 12 (.binOp .eql 3 (xT 8) (nI 1) 3),aO 11 12] [2,3,4,8,11] (cD 11 (.exit 2) (.skip))) (.keep [2,3,4,8] (.seq (sR [oO 14 (.binOp .eql 3 (xT 8) (nI 2) 3),aO 13 14] [2,3,4,8,13] (cD 13 (.exit 3) (.skip))) (.keep [2,3,4,8] (sR [oO 16 (.binOp .eql 3 (xT 8) (nI 3) 3),aO 15 16] [2,3,4,15] (cD 15 (.exit 4) (.skip))))))))) (.exit 0))) (.keep [4] (.seq (sR [fO 17 69 4 1,lO 18 3 17,oO 19 (.binOp .geq 3 (xT 18) (nI 1) 3),mO 20 19,oG 21 (fA 69 4 1) 20 true,oG 22 (lD 3 21) 20 true,oG 23 (.binOp .leq 3 (xT 22) (nI 1048576) 3) 20 true,oO 24 (.pick (xT 20) (xT 23) (nB false)),mO 25 24,oG 26 (fA 69 4 2) 25 true,oG 27 (lD 23 26) 25 true,oG 28 (bL 27 23) 25 true,oG 29 (.binOp .eql 3 (xT 28) (nI 0) 3) 25 true,oO 30 (.pick (xT 25) (xT 29) (nB false)),mO 31 30,oG 32 (fA 69 4 3) 31 true,oG 33 (lD 30 32) 31 true,oG 34 (cL 57 #[(xT 33),(nI 1)] #[30,3]) 31 true,oO 35 (.pick (xT 31) (xT 34) (nB false)),mO 36 35,oG 37 (fA 69 4 3) 36 true,oG 38 (fA 30 37 0) 36 true,oG 39 (lD 3 38) 36 true,oG 40 (.binOp .eql 3 (xT 39) (nI 0) 3) 36 true,oO 41 (.pick (xT 36) (xT 40) (nB false)),aO 6 41] [6] (.ret)) (.exit 0)))))) (.keep [3,4] (.stop k1_edit_op)))) (.keep [2,3,4] (.seq (sR [fO 69 69 4 1,lO 70 3 69,oO 71 (.binOp .eql 3 (xT 70) (nI 0) 3),mO 72 71,oG 73 (fA 69 4 2) 72 true,oG 74 (lD 23 73) 72 true,oG 75 (bL 74 23) 72 true,oG 76 (.binOp .eql 3 (xT 75) (nI 0) 3) 72 true,oO 77 (.pick (xT 72) (xT 76) (nB false)),mO 78 77,oG 79 (lD 3 3) 78 true,oG 80 (fA 69 4 3) 78 true,oG 81 (lD 30 80) 78 true,oG 82 (cL 150 #[(xT 79),(xT 81)] #[3,30]) 78 true,oO 83 (.pick (xT 78) (xT 82) (nB false)),mO 84 83,oG 85 (fA 69 4 3) 84 true,oG 86 (lD 30 85) 84 true,oG 87 (mV 2) 84 true,oG 88 (cL 57 #[(xT 86),(xT 87)] #[30,3]) 84 true,oO 89 (.pick (xT 84) (xT 88) (nB false)),aO 6 89] [6] (.ret)) (.exit 0)))))) (.keep [] (sR [oO 6 (.assign (nB false))] [6] (.ret))))
theorem t_edit_op : Txt Tryz.prog 127 90 [(.tmp 6)] c_edit_op := txt_of (code := Tryz.f127.body.getD .ret) mixed (by kernel_rfl) Tryz.func127 (by kernel_rfl) Tryz.ntmps127 (by kernel_rfl) (ls := lsOf c_edit_op) (by kernel_rfl)
def k1_edit_Lengths : CC := sR [fO 32 69 7 0,lO 33 3 32,oO 34 (.binOp .neq 3 (xT 33) (nI 1) 3)] [4,5,8,10,11,12,34] (cD 34 (.reg [mO 35 5,mO 36 8,oO 37 (bO .add 3 35 36 3),oO 38 (bC .min #[(xT 37),(nI 1048576)] #[3,3]),aO 5 38] [4,5,10,11,12]) (.skip))
def k2_edit_Lengths : CC := .seq (sR [fO 25 69 7 0,lO 26 3 25,oO 27 (.binOp .neq 3 (xT 26) (nI 2) 3)] [4,5,7,8,10,11,12,27] (cD 27 (.reg [mO 28 4,mO 29 8,oO 30 (bO .add 3 28 29 3),oO 31 (bC .min #[(xT 30),(nI 1048576)] #[3,3]),aO 4 31] [4,5,7,8,10,11,12]) (.skip))) (.keep [4,5,7,8,10,11,12] k1_edit_Lengths)
def l1_edit_Lengths : CC := sR [oO 13 (bO .lss 3 12 11 3)] [4,5,10,11,12,13] (.seq (cD 13 (.skip) (.exit 0)) (.keep [4,5,10,11,12] (.seq (.block 1 (sR [oO 14 (iA 28 10 12),lO 15 69 14,oN 7 (.alloc 69) [1],oS (.store 69 (xT 7) (xT 15))] [4,5,7,10,11,12] (sR [fO 16 69 7 1,lO 17 3 16,fO 18 69 7 2,lO 19 23 18,oO 20 (bL 19 23),oO 21 (bO .add 3 17 20 3),aO 8 21] [4,5,7,8,10,11,12] (.seq (sR [fO 22 69 7 0,lO 23 3 22,oO 24 (.binOp .eql 3 (xT 23) (nI 3) 3)] [4,5,7,8,10,11,12,24] (cD 24 (.reg [oO 8 (.assign (nI 1))] [4,5,7,8,10,11,12]) (.skip))) (.keep [4,5,7,8,10,11,12] k2_edit_Lengths))))) (.keep [4,5,10,11,12] (.reg [oO 39 (.binOp .add 3 (xT 12) (nI 1) 3),mO 12 39] [4,5,10,11,12]))))) 
def c_edit_Lengths : CC := sR [oN 1 (.box 30 (xT 0)) [0],oO 2 (.assign (nI 0)),oO 3 (.assign (nI 0))] [1] (sR [oO 4 (.assign (nI 0)),oO 5 (.assign (nI 0))] [1,4,5] (.seq (sR [fO 9 30 1 6,lO 10 28 9,oO 11 (bL 10 28),oO 12 (.move (nI 0))] [4,5,10,11,12] (.block 0 (.loop l1_edit_Lengths))) (.keep [4,5] (sR [mO 40 4,mO 41 5,aO 2 40,aO 3 41] [2,3] (.ret)))))
theorem t_edit_Lengths : Txt Tryz.prog 128 42 [(.tmp 2),(.tmp 3)] c_edit_Lengths := txt_of (code := Tryz.f128.body.getD .ret) mixed (by kernel_rfl) Tryz.func128 (by kernel_rfl) Tryz.ntmps128 (by kernel_rfl) (ls := lsOf c_edit_Lengths) (by kernel_rfl)
def l1_edit_ops : CC := sR [oO 13 (bO .lss 3 12 11 3)] [1,2,10,11,12,13] (.seq (cD 13 (.skip) (.exit 0)) (.keep [1,2,10,11,12] (.seq (.block 1 (sR [oO 14 (iA 28 10 12),lO 15 69 14,oN 6 (.alloc 69) [1],oS (.store 69 (xT 6) (xT 15))] [1,2,6,10,11,12] (sR [fO 16 30 2 5,lO 17 3 16,lO 18 69 6,mO 19 1,oO 20 (cL 127 #[(xT 17),(xT 18),(xT 19)] #[3,69,3]),oO 21 (.unOp .not 4 (xT 20))] [1,2,10,11,12,21] (cD 21 (sR [oO 4 (.assign (nB false))] [4] (.ret)) (.skip))))) (.keep [1,2,10,11,12] (.reg [oO 22 (.binOp .add 3 (xT 12) (nI 1) 3),mO 12 22] [1,2,10,11,12]))))) 
def c_edit_ops : CC := sR [oN 2 (.box 30 (xT 0)) [0],oO 4 (.assign (nB false))] [1,2] (.seq (sR [fO 9 30 2 6,lO 10 28 9,oO 11 (bL 10 28),oO 12 (.move (nI 0))] [1,2,10,11,12] (.block 0 (.loop l1_edit_ops))) (.keep [2] (sR [lO 24 30 2,oO 25 (cL 128 #[(xT 24)] #[30]),mO 23 25,xO 26 23 0,xO 27 23 1,aO 7 26,aO 8 27] [7,8] (sR [mO 28 7,oO 29 (.binOp .lss 3 (xT 28) (nI 1048576) 3),mO 30 29,oG 31 (mV 8) 30 true,oG 32 (.binOp .lss 3 (xT 31) (nI 1048576) 3) 30 true,oO 33 (.pick (xT 30) (xT 32) (nB false)),aO 4 33] [4] (.ret)))))
theorem t_edit_ops : Txt Tryz.prog 92 34 [(.tmp 4)] c_edit_ops := txt_of (code := Tryz.f92.body.getD .ret) mixed (by kernel_rfl) Tryz.func92 (by kernel_rfl) Tryz.ntmps92 (by kernel_rfl) (ls := lsOf c_edit_ops) (by kernel_rfl)
def c_edit_right : CC := sR [oN 2 (.box 30 (xT 0)) [0],oO 4 (.assign (nB false))] [1,2] (.seq (sR [lO 5 30 2,oO 6 (cL 87 #[(xT 5)] #[30]),oO 7 (.unOp .not 4 (xT 6)),mO 8 7,oG 9 (mV 1) 8 false,oG 10 (.binOp .eql 3 (xT 9) (nI 0) 3) 8 false,oO 11 (.pick (xT 8) (nB true) (xT 10))] [1,2,11] (cD 11 (sR [oO 4 (.assign (nB false))] [4] (.ret)) (.skip))) (.keep [1,2] (.seq (sR [fO 12 30 2 0,lO 13 3 12] [1,2,13] (.block 0 (sR [oO 15 (.binOp .eql 3 (xT 13) (nI 0) 3),aO 14 15] [1,2,13,14] (cD 14 (sR [oO 4 (.assign (nB true))] [4] (.ret)) (sR [oO 17 (.binOp .eql 3 (xT 13) (nI 1) 3),aO 16 17] [1,2,13,16] (cD 16 (sR [fO 18 30 2 1,lO 19 25 18,oO 20 (cL 88 #[(xT 19)] #[25]),mO 21 20,oG 22 (fA 30 2 2) 21 true,oG 23 (lD 25 22) 21 true,oG 24 (cL 88 #[(xT 23)] #[25]) 21 true,oO 25 (.pick (xT 21) (xT 24) (nB false)),aO 4 25] [4] (.ret)) (sR [oO 27 (.binOp .eql 3 (xT 13) (nI 2) 3),aO 26 27] [1,2,13,26] (cD 26 (sR [fO 28 30 2 3,lO 29 26 28,oO 30 (cL 89 #[(xT 29)] #[26]),mO 31 30,oG 32 (fA 30 2 4) 31 true,oG 33 (lD 27 32) 31 true,oG 34 (mV 1) 31 true,oG 35 (.binOp .sub 3 (xT 34) (nI 1) 3) 31 true,oG 36 (cL 90 #[(xT 33),(xT 35)] #[27,3]) 31 true,oO 37 (.pick (xT 31) (xT 36) (nB false)),aO 4 37] [4] (.ret)) (sR [oO 39 (.binOp .eql 3 (xT 13) (nI 3) 3),aO 38 39] [1,2,38] (cD 38 (sR [fO 40 30 2 5,lO 41 3 40,oO 42 (cL 91 #[(xT 41)] #[3]),mO 43 42,oG 44 (lD 30 2) 43 true,oG 45 (mV 1) 43 true,oG 46 (.binOp .sub 3 (xT 45) (nI 1) 3) 43 true,oG 47 (cL 92 #[(xT 44),(xT 46)] #[30,3]) 43 true,oO 48 (.pick (xT 43) (xT 47) (nB false)),aO 4 48] [4] (.ret)) (.skip))))))))))) (.keep [] (sR [oO 4 (.assign (nB false))] [4] (.ret))))))
theorem t_edit_right : Txt Tryz.prog 57 49 [(.tmp 4)] c_edit_right := txt_of (code := Tryz.f57.body.getD .ret) mixed (by kernel_rfl) Tryz.func57 (by kernel_rfl) Tryz.ntmps57 (by kernel_rfl) (ls := lsOf c_edit_right) (by kernel_rfl)
def c_edit_Right : CC := sR [oN 1 (.box 30 (xT 0)) [0],oO 2 (.assign (nB false))] [1] (sR [lO 3 30 1,oO 4 (cL 57 #[(xT 3),(nI 64)] #[30,3]),aO 2 4] [2] (.ret))
theorem t_edit_Right : Txt Tryz.prog 29 5 [(.tmp 2)] c_edit_Right := txt_of (code := Tryz.f29.body.getD .ret) mixed (by kernel_rfl) Tryz.func29 (by kernel_rfl) Tryz.ntmps29 (by kernel_rfl) (ls := lsOf c_edit_Right) (by kernel_rfl)
def c_patch_number : CC := sR [oO 6 (.assign (.const (.int .u64 0)))] [0,1,2] (sR [mO 7 0,oO 8 (.convert 3 60 (xT 7)),mO 9 1,oO 10 (.convert 3 60 (xT 9)),mO 11 2,oO 12 (bO .shl 60 10 11 3),oO 13 (bO .or 60 8 12 60),aO 6 13] [6] (.ret))
theorem t_patch_number : Txt Tryz.prog 36 14 [(.tmp 6)] c_patch_number := txt_of (code := Tryz.f36.body.getD .ret) mixed (by kernel_rfl) Tryz.func36 (by kernel_rfl) Tryz.ntmps36 (by kernel_rfl) (ls := lsOf c_patch_number) (by kernel_rfl)
def c_patch_structure : CC := sR [oN 4 (.alloc 25) [0]] [0,1,4] (sR [mO 5 0,mO 6 1,oO 7 (.build 25 #[(0,(nI 1)),(1,(xT 5)),(2,(xT 6))]),oS (.store 25 (xT 4) (xT 7))] [4] (.ret))
theorem t_patch_structure : Txt Tryz.prog 35 8 [(.cell 4 25)] c_patch_structure := txt_of (code := Tryz.f35.body.getD .ret) mixed (by kernel_rfl) Tryz.func35 (by kernel_rfl) Tryz.ntmps35 (by kernel_rfl) (ls := lsOf c_patch_structure) (by kernel_rfl)
def c_patch_row : CC := sR [oN 2 (.alloc 25) [0]] [0,2] (.seq (sR [mO 3 0,oO 4 (bL 3 23),oO 5 (.binOp .eql 3 (xT 4) (nI 0) 3)] [0,2,5] (cD 5 (sR [oO 6 (.build 25 #[]),oS (.store 25 (xT 2) (xT 6))] [2] (.ret)) (.skip))) (.keep [0,2] (sR [mO 7 0,oO 8 (.build 25 #[(0,(nI 9)),(2,(xT 7))]),oS (.store 25 (xT 2) (xT 8))] [2] (.ret))))
theorem t_patch_row : Txt Tryz.prog 37 9 [(.cell 2 25)] c_patch_row := txt_of (code := Tryz.f37.body.getD .ret) mixed (by kernel_rfl) Tryz.func37 (by kernel_rfl) Tryz.ntmps37 (by kernel_rfl) (ls := lsOf c_patch_row) (by kernel_rfl)
def l1_patch_Tree : CC := sR [oO 29 (bO .lss 3 28 27 3)] [1,2,3,4,26,27,28,29] (.seq (cD 29 (.skip) (.exit 1)) (.keep [1,2,3,4,26,27,28] (.seq (.block 2 (sR [oO 30 (iA 26 26 28),lO 31 63 30,oN 6 (.alloc 63) [2],oS (.store 63 (xT 6) (xT 31))] [1,2,3,4,6,26,27,28] (.reg [mO 32 3,fO 33 63 6 0,lO 34 3 33,fO 35 63 6 1,lO 36 5 35,oO 37 (.convert 5 3 (xT 36)),⟨some 38,(cL 36 #[(xT 34),(xT 37),(nI 32)] #[3,3,3]),none,[],6,[],true⟩,fO 39 63 6 2,⟨some 40,(lD 60 39),none,[],8,[6],false⟩,fO 41 63 6 3,⟨some 42,(lD 60 41),none,[],10,[6],false⟩,oO 43 (.buildSlice 22 3 #[(0,(xT 38)),(1,(xT 40)),(2,(xT 42))]),oO 44 (cL 35 #[(xT 43),nS] #[22,23]),oO 45 (.buildSlice 23 1 #[(0,(xT 44))]),oN 46 (bC .append #[(xT 32),(xT 45)] #[23,23]) [3],aO 3 46] [1,2,3,4,26,27,28]))) (.reg [oO 47 (.binOp .add 3 (xT 28) (nI 1) 3),mO 28 47] [1,2,3,4,26,27,28]))))
def l2_patch_Tree : CC := sR [oO 52 (bO .lss 3 51 50 3)] [2,3,4,49,50,51,52] (.seq (cD 52 (.skip) (.exit 3)) (.keep [2,3,4,49,50,51] (.seq (.block 4 (sR [oO 53 (iA 27 49 51),lO 54 66 53,oN 8 (.alloc 66) [4],oS (.store 66 (xT 8) (xT 54))] [2,3,4,8,49,50,51] (.reg [mO 55 4,fO 56 66 8 0,⟨some 57,(lD 3 56),none,[],2,[],true⟩,oO 58 (.convert 3 60 (xT 57)),⟨some 59,(.buildSlice 22 1 #[(0,(xT 58))]),none,[],4,[],true⟩,fO 60 66 8 1,⟨some 61,(lD 30 60),none,[],6,[4],false⟩,⟨some 62,(cL 13 #[(xT 61)] #[30]),none,[],7,[2,4],false⟩,⟨some 63,(.buildSlice 23 1 #[(0,(xT 62))]),none,[],8,[2,4],false⟩,oO 64 (cL 35 #[(xT 59),(xT 63)] #[22,23]),oO 65 (.buildSlice 23 1 #[(0,(xT 64))]),oN 66 (bC .append #[(xT 55),(xT 65)] #[23,23]) [5],aO 4 66] [2,3,4,49,50,51]))) (.reg [oO 67 (.binOp .add 3 (xT 51) (nI 1) 3),mO 51 67] [2,3,4,49,50,51]))))
def l3_patch_Tree : CC := sR [oO 81 (bO .lss 3 80 79 3)] [1,2,9,78,79,80,81] (.seq (cD 81 (.skip) (.exit 5)) (.keep [1,2,9,78,79,80] (.seq (.block 6 (sR [oO 82 (iA 28 78 80),lO 83 69 82,oN 11 (.alloc 69) [6],oS (.store 69 (xT 11) (xT 83))] [1,2,9,11,78,79,80] (.reg [mO 84 9,fO 85 30 1 5,lO 86 3 85,lO 87 69 11,oO 88 (cL 38 #[(xT 86),(xT 87)] #[3,69]),oO 89 (.buildSlice 23 1 #[(0,(xT 88))]),oN 90 (bC .append #[(xT 84),(xT 89)] #[23,23]) [7],aO 9 90] [1,2,9,78,79,80]))) (.reg [oO 91 (.binOp .add 3 (xT 80) (nI 1) 3),mO 80 91] [1,2,9,78,79,80])))) 
def c_patch_Tree : CC := sR [oN 1 (.box 30 (xT 0)) [0],oN 2 (.alloc 25) [1]] [1,2] (.seq (sR [fO 12 30 1 0,lO 13 3 12] [1,2,13] (.block 0 (sR [oO 15 (.binOp .eql 3 (xT 13) (nI 1) 3),aO 14 15] [1,2,13,14] (cD 14 (sR [oO 16 (.buildSlice 22 1 #[(0,(.const (.int .u64 1)))]),fO 17 30 1 1,lO 18 25 17,fO 19 30 1 2,lO 20 25 19,oO 21 (.buildSlice 23 2 #[(0,(xT 18)),(1,(xT 20))]),oO 22 (cL 35 #[(xT 16),(xT 21)] #[22,23]),oS (.store 25 (xT 2) (xT 22))] [2] (.ret)) (sR [oO 24 (.binOp .eql 3 (xT 13) (nI 2) 3),aO 23 24] [1,2,13,23] (cD 23 (sR [oO 3 (.assign nS),oO 4 (.assign nS)] [1,2,3,4] (.seq (sR [fO 25 30 1 3,lO 26 26 25,oO 27 (bL 26 26),oO 28 (.move (nI 0))] [1,2,3,4,26,27,28] (.block 1 (.loop l1_patch_Tree))) (.keep [1,2,3,4] (.seq (sR [fO 48 30 1 4,lO 49 27 48,oO 50 (bL 49 27),oO 51 (.move (nI 0))] [2,3,4,49,50,51] (.block 3 (.loop l2_patch_Tree))) (.keep [2,3,4] (.stop (sR [oO 68 (.buildSlice 22 1 #[(0,(.const (.int .u64 2)))]),mO 69 3,oO 70 (cL 37 #[(xT 69)] #[23]),mO 71 4,oO 72 (cL 37 #[(xT 71)] #[23]),oO 73 (.buildSlice 23 2 #[(0,(xT 70)),(1,(xT 72))]),oO 74 (cL 35 #[(xT 68),(xT 73)] #[22,23]),oS (.store 25 (xT 2) (xT 74))] [2] (.ret)))))))) (sR [oO 76 (.binOp .eql 3 (xT 13) (nI 3) 3),aO 75 76] [1,2,75] (cD 75 (sR [oO 9 (.assign nS)] [1,2,9] (.seq (sR [fO 77 30 1 6,lO 78 28 77,oO 79 (bL 78 28),oO 80 (.move (nI 0))] [1,2,9,78,79,80] (.block 5 (.loop l3_patch_Tree))) (.keep [1,2,9] (.stop (sR [fO 92 30 1 5,lO 93 3 92,oO 94 (cL 36 #[(nI 3),(xT 93),(nI 8)] #[3,3,3]),oO 95 (.buildSlice 22 1 #[(0,(xT 94))]),mO 96 9,oO 97 (cL 37 #[(xT 96)] #[23]),oO 98 (.buildSlice 23 1 #[(0,(xT 97))]),oO 99 (cL 35 #[(xT 95),(xT 98)] #[22,23]),oS (.store 25 (xT 2) (xT 99))] [2] (.ret)))))) (.skip))))))))) (.keep [2] (sR [oO 100 (.build 25 #[]),oS (.store 25 (xT 2) (xT 100))] [2] (.ret))))
theorem t_patch_Tree : Txt Tryz.prog 13 101 [(.cell 2 25)] c_patch_Tree := txt_of (code := Tryz.f13.body.getD .ret) mixed (by kernel_rfl) Tryz.func13 (by kernel_rfl) Tryz.ntmps13 (by kernel_rfl) (ls := lsOf c_patch_Tree) (by kernel_rfl)
def k1_patch_op : CC := cD 14 (sR [mO 17 5,mO 18 0,fO 19 69 3 2,lO 20 23 19,oO 21 (.build 25 #[(0,(xT 18)),(2,(xT 20))]),oO 22 (.buildSlice 23 1 #[(0,(xT 21))]),oO 23 (cL 35 #[(xT 17),(xT 22)] #[22,23]),oS (.store 25 (xT 4) (xT 23))] [4] (.ret)) (sR [oO 25 (.binOp .eql 3 (xT 13) (nI 3) 3),aO 24 25] [3,4,5,24] (cD 24 (sR [mO 26 5,fO 27 69 3 3,lO 28 30 27,oO 29 (cL 13 #[(xT 28)] #[30]),oO 30 (.buildSlice 23 1 #[(0,(xT 29))]),oO 31 (cL 35 #[(xT 26),(xT 30)] #[22,23]),oS (.store 25 (xT 4) (xT 31))] [4] (.ret)) (.skip))) 
def c_patch_op : CC := sR [oN 3 (.box 69 (xT 1)) [0],oN 4 (.alloc 25) [1]] [0,3,4] (sR [fO 6 69 3 0,lO 7 3 6,fO 8 69 3 1,lO 9 3 8,oO 10 (cL 36 #[(xT 7),(xT 9),(nI 8)] #[3,3,3]),oO 11 (.buildSlice 22 1 #[(0,(xT 10))]),aO 5 11] [0,3,4,5] (.seq (sR [fO 12 69 3 0,lO 13 3 12] [0,3,4,5,13] (.block 0 (.seq (sR [oO 15 (.binOp .eql 3 (xT 13) (nI 1) 3),aO 14 15] [0,3,4,5,13,14] (cD 14 (.skip) (.reg [oO 16 (.binOp .eql 3 (xT 13) (nI 2) 3),aO 14 16] [0,3,4,5,13,14]))) (.keep [0,3,4,5,13,14] k1_patch_op)))) (.keep [4,5] (sR [mO 32 5,oO 33 (cL 35 #[(xT 32),nS] #[22,23]),oS (.store 25 (xT 4) (xT 33))] [4] (.ret)))))
theorem t_patch_op : Txt Tryz.prog 38 34 [(.cell 4 25)] c_patch_op := txt_of (code := Tryz.f38.body.getD .ret) mixed (by kernel_rfl) Tryz.func38 (by kernel_rfl) Tryz.ntmps38 (by kernel_rfl) (ls := lsOf c_patch_op) (by kernel_rfl)
def c_patch_part : CC := sR [oO 6 (.assign (nI 0))] [0,1,2] (sR [mO 7 0,mO 8 1,oO 9 (bO .shr 60 7 8 3),mO 10 2,oO 11 (.binOp .shl 60 (.const (.int .u64 1)) (xT 10) 3),oO 12 (.binOp .sub 60 (xT 11) (.const (.int .u64 1)) 60),oO 13 (bO .and 60 9 12 60),oO 14 (.convert 60 3 (xT 13)),aO 6 14] [6] (.ret))
theorem t_patch_part : Txt Tryz.prog 71 15 [(.tmp 6)] c_patch_part := txt_of (code := Tryz.f71.body.getD .ret) mixed (by kernel_rfl) Tryz.func71 (by kernel_rfl) Tryz.ntmps71 (by kernel_rfl) (ls := lsOf c_patch_part) (by kernel_rfl)
def l1_patch_read : CC := sR [oO 43 (bO .lss 3 42 41 3)] [2,4,6,40,41,42,43] (.seq (cD 43 (.skip) (.exit 1)) (.keep [2,4,6,40,41,42] (.seq (.block 2 (sR [oO 44 (iA 23 40 42),lO 45 25 44,oN 8 (.alloc 25) [5],oS (.store 25 (xT 8) (xT 45))] [2,4,6,8,40,41,42] (sR [lO 46 25 8,oO 47 (cL 70 #[(xT 46),(nI 0)] #[25,3]),aO 9 47] [2,4,6,8,9,40,41,42] (.reg [fO 48 30 4 3,⟨some 49,(lD 26 48),none,[],1,[],true⟩,mO 50 9,⟨some 51,(cL 71 #[(xT 50),(nI 0),(nI 32)] #[60,3,3]),none,[],3,[1],true⟩,mO 52 9,⟨some 53,(cL 71 #[(xT 52),(nI 32),(nI 8)] #[60,3,3]),none,[],5,[1],true⟩,oO 54 (.convert 3 5 (xT 53)),⟨some 55,(lD 25 8),none,[],7,[3,5],false⟩,⟨some 56,(cL 70 #[(xT 55),(nI 1)] #[25,3]),none,[],8,[1],true⟩,⟨some 57,(lD 25 8),none,[],9,[3,5,8],false⟩,⟨some 58,(cL 70 #[(xT 57),(nI 2)] #[25,3]),none,[],10,[1],false⟩,oO 59 (.build 63 #[(0,(xT 51)),(1,(xT 54)),(2,(xT 56)),(3,(xT 58))]),⟨some 60,(.buildSlice 26 1 #[(0,(xT 59))]),none,[],12,[1],false⟩,oN 61 (bC .append #[(xT 49),(xT 60)] #[26,26]) [6],fO 62 30 4 3,oS (.store 26 (xT 62) (xT 61))] [2,4,6,40,41,42])))) (.reg [oO 63 (.binOp .add 3 (xT 42) (nI 1) 3),mO 42 63] [2,4,6,40,41,42]))))
def l2_patch_read : CC := sR [oO 68 (bO .lss 3 67 66 3)] [2,4,65,66,67,68] (.seq (cD 68 (.skip) (.exit 3)) (.keep [2,4,65,66,67] (.seq (.block 4 (sR [oO 69 (iA 23 65 67),lO 70 25 69,oN 11 (.alloc 25) [7],oS (.store 25 (xT 11) (xT 70))] [2,4,11,65,66,67] (.reg [fO 71 30 4 4,⟨some 72,(lD 27 71),none,[],1,[],true⟩,lO 73 25 11,⟨some 74,(cL 70 #[(xT 73),(nI 0)] #[25,3]),none,[],3,[1],true⟩,⟨some 75,(cL 71 #[(xT 74),(nI 0),(nI 32)] #[60,3,3]),none,[],4,[1],true⟩,⟨some 76,(lD 25 11),none,[],5,[3,4],false⟩,⟨some 77,(cL 72 #[(xT 76),(nI 0)] #[25,3]),none,[],6,[1],false⟩,⟨some 78,(cL 40 #[(xT 77)] #[25]),none,[],7,[1],false⟩,oO 79 (.build 66 #[(0,(xT 75)),(1,(xT 78))]),⟨some 80,(.buildSlice 27 1 #[(0,(xT 79))]),none,[],9,[1],false⟩,oN 81 (bC .append #[(xT 72),(xT 80)] #[27,27]) [8],fO 82 30 4 4,oS (.store 27 (xT 82) (xT 81))] [2,4,65,66,67]))) (.reg [oO 83 (.binOp .add 3 (xT 67) (nI 1) 3),mO 67 83] [2,4,65,66,67]))))
def l3_patch_read : CC := sR [oO 90 (bO .lss 3 89 88 3)] [2,4,87,88,89,90] (.seq (cD 90 (.skip) (.exit 5)) (.keep [2,4,87,88,89] (.seq (.block 6 (sR [oO 91 (iA 23 87 89),lO 92 25 91,oN 13 (.alloc 25) [9],oS (.store 25 (xT 13) (xT 92))] [2,4,13,87,88,89] (.reg [fO 93 30 4 6,⟨some 94,(lD 28 93),none,[],1,[],true⟩,lO 95 25 13,⟨some 96,(cL 73 #[(xT 95)] #[25]),none,[],3,[1],false⟩,⟨some 97,(.buildSlice 28 1 #[(0,(xT 96))]),none,[],4,[1],false⟩,oN 98 (bC .append #[(xT 94),(xT 97)] #[28,28]) [10],fO 99 30 4 6,oS (.store 28 (xT 99) (xT 98))] [2,4,87,88,89]))) (.reg [oO 100 (.binOp .add 3 (xT 89) (nI 1) 3),mO 89 100] [2,4,87,88,89])))) 
def c_patch_read : CC := sR [oN 1 (.box 25 (xT 0)) [0],oN 2 (.alloc 30) [1]] [1,2] (sR [lO 14 25 1,oO 15 (cL 70 #[(xT 14),(nI 0)] #[25,3]),aO 3 15] [1,2,3] (sR [mO 16 3,oO 17 (cL 71 #[(xT 16),(nI 0),(nI 8)] #[60,3,3]),mO 18 3,oO 19 (cL 71 #[(xT 18),(nI 8),(nI 8)] #[60,3,3]),oO 20 (.build 30 #[(0,(xT 17)),(5,(xT 19))]),oN 4 (.alloc 30) [2],oS (.store 30 (xT 4) (xT 20))] [1,2,4] (.seq (sR [fO 21 25 1 0,lO 22 3 21,oO 23 (.binOp .neq 3 (xT 22) (nI 1) 3)] [1,2,4,23] (cD 23 (sR [oO 24 (.build 30 #[]),oS (.store 30 (xT 2) (xT 24))] [2] (.ret)) (.skip))) (.keep [1,2,4] (sR [⟨some 25,(lD 25 1),none,[],0,[],true⟩,⟨some 26,(cL 72 #[(xT 25),(nI 0)] #[25,3]),none,[],1,[],true⟩,⟨some 27,(lD 25 1),none,[],2,[1],true⟩,⟨some 28,(cL 72 #[(xT 27),(nI 1)] #[25,3]),none,[],3,[],true⟩,⟨some 5,(.alloc 25),none,[3],4,[0,1,2,3],true⟩,⟨some 6,(.alloc 25),none,[4],5,[0,1,2,3,4],false⟩,oS (.store 25 (xT 5) (xT 26)),oS (.store 25 (xT 6) (xT 28))] [2,4,5,6] (.seq (sR [fO 29 30 4 0,lO 30 3 29] [2,4,5,6,30] (.block 0 (sR [oO 32 (.binOp .eql 3 (xT 30) (nI 1) 3),aO 31 32] [2,4,5,6,30,31] (cD 31 (.reg [lO 33 25 5,⟨some 34,(lD 25 6),none,[],1,[],true⟩,fO 35 30 4 1,⟨none,(.store 25 (xT 35) (xT 33)),none,[],3,[1],false⟩,fO 36 30 4 2,oS (.store 25 (xT 36) (xT 34))] [2,4]) (sR [oO 38 (.binOp .eql 3 (xT 30) (nI 2) 3),aO 37 38] [2,4,5,6,30,37] (cD 37 (.seq (sR [fO 39 25 5 2,lO 40 23 39,oO 41 (bL 40 23),oO 42 (.move (nI 0))] [2,4,6,40,41,42] (.block 1 (.loop l1_patch_read))) (.keep [2,4,6] (sR [fO 64 25 6 2,lO 65 23 64,oO 66 (bL 65 23),oO 67 (.move (nI 0))] [2,4,65,66,67] (.block 3 (.loop l2_patch_read))))) (sR [oO 85 (.binOp .eql 3 (xT 30) (nI 3) 3),aO 84 85] [2,4,5,84] (cD 84 (sR [fO 86 25 5 2,lO 87 23 86,oO 88 (bL 87 23),oO 89 (.move (nI 0))] [2,4,87,88,89] (.block 5 (.loop l3_patch_read))) (.skip))))))))) (.keep [2,4] (sR [lO 101 30 4,oS (.store 30 (xT 2) (xT 101))] [2] (.ret)))))))))
theorem t_patch_read : Txt Tryz.prog 40 102 [(.cell 2 30)] c_patch_read := txt_of (code := Tryz.f40.body.getD .ret) mixed (by kernel_rfl) Tryz.func40 (by kernel_rfl) Tryz.ntmps40 (by kernel_rfl) (ls := lsOf c_patch_read) (by kernel_rfl)
def k1_patch_step : CC := cD 14 (.reg [lO 17 25 1,oO 18 (cL 72 #[(xT 17),(nI 0)] #[25,3]),oO 19 (.field 25 (xT 18) 2),fO 20 69 4 2,oS (.store 23 (xT 20) (xT 19))] [2,4]) (sR [oO 22 (.binOp .eql 3 (xT 13) (nI 3) 3),aO 21 22] [1,2,4,21] (cD 21 (.reg [lO 23 25 1,oO 24 (cL 72 #[(xT 23),(nI 0)] #[25,3]),oO 25 (cL 40 #[(xT 24)] #[25]),fO 26 69 4 3,oS (.store 30 (xT 26) (xT 25))] [2,4]) (.skip))) 
def c_patch_step : CC := sR [oN 1 (.box 25 (xT 0)) [0],oN 2 (.alloc 69) [1]] [1,2] (sR [lO 5 25 1,oO 6 (cL 70 #[(xT 5),(nI 0)] #[25,3]),aO 3 6] [1,2,3] (sR [mO 7 3,oO 8 (cL 71 #[(xT 7),(nI 0),(nI 8)] #[60,3,3]),mO 9 3,oO 10 (cL 71 #[(xT 9),(nI 8),(nI 40)] #[60,3,3]),oO 11 (.build 69 #[(0,(xT 8)),(1,(xT 10))]),oN 4 (.alloc 69) [2],oS (.store 69 (xT 4) (xT 11))] [1,2,4] (.seq (sR [fO 12 69 4 0,lO 13 3 12] [1,2,4,13] (.block 0 (.seq (sR [oO 15 (.binOp .eql 3 (xT 13) (nI 1) 3),aO 14 15] [1,2,4,13,14] (cD 14 (.skip) (.reg [oO 16 (.binOp .eql 3 (xT 13) (nI 2) 3),aO 14 16] [1,2,4,13,14]))) (.keep [1,2,4,13,14] k1_patch_step)))) (.keep [2,4] (sR [lO 27 69 4,oS (.store 69 (xT 2) (xT 27))] [2] (.ret))))))
theorem t_patch_step : Txt Tryz.prog 73 28 [(.cell 2 69)] c_patch_step := txt_of (code := Tryz.f73.body.getD .ret) mixed (by kernel_rfl) Tryz.func73 (by kernel_rfl) Tryz.ntmps73 (by kernel_rfl) (ls := lsOf c_patch_step) (by kernel_rfl)
def c_patch_Read : CC := sR [oN 1 (.box 25 (xT 0)) [0],oN 2 (.alloc 30) [1],oO 3 (.assign (nB false))] [1,2] (sR [lO 5 25 1,oO 6 (cL 40 #[(xT 5)] #[25]),oN 4 (.alloc 30) [2],oS (.store 30 (xT 4) (xT 6))] [1,2,4] (.seq (sR [lO 7 30 4,oO 8 (cL 29 #[(xT 7)] #[30]),oO 9 (.unOp .not 4 (xT 8)),mO 10 9,oG 11 (lD 30 4) 10 false,⟨some 12,(cL 13 #[(xT 11)] #[30]),(some (10,false)),[],5,[],true⟩,⟨some 13,(lD 25 1),(some (10,false)),[],6,[5],false⟩,oG 14 (cL 41 #[(xT 12),(xT 13)] #[25,25]) 10 false,oG 15 (.unOp .not 4 (xT 14)) 10 false,oO 16 (.pick (xT 10) (nB true) (xT 15))] [2,4,16] (cD 16 (sR [oO 17 (.build 30 #[]),oS (.store 30 (xT 2) (xT 17)),oO 3 (.assign (nB false))] [2,3] (.ret)) (.skip))) (.keep [2,4] (sR [lO 18 30 4,oS (.store 30 (xT 2) (xT 18)),oO 3 (.assign (nB true))] [2,3] (.ret)))))
theorem t_patch_Read : Txt Tryz.prog 16 19 [(.cell 2 30),(.tmp 3)] c_patch_Read := txt_of (code := Tryz.f16.body.getD .ret) mixed (by kernel_rfl) Tryz.func16 (by kernel_rfl) Tryz.ntmps16 (by kernel_rfl) (ls := lsOf c_patch_Read) (by kernel_rfl)
def c_patch_limits : CC := sR [oN 0 (.alloc 58) [0]] [0] (sR [oO 1 (.build 58 #[(0,(nI 64)),(1,(nI 65536))]),oS (.store 58 (xT 0) (xT 1))] [0] (.ret))
theorem t_patch_limits : Txt Tryz.prog 33 2 [(.cell 0 58)] c_patch_limits := txt_of (code := Tryz.f33.body.getD .ret) mixed (by kernel_rfl) Tryz.func33 (by kernel_rfl) Tryz.ntmps33 (by kernel_rfl) (ls := lsOf c_patch_limits) (by kernel_rfl)
def c_patch_Encode : CC := sR [oN 2 (.box 30 (xT 0)) [0],oO 4 (.assign nS),oO 5 (.assign (nB false))] [1,2] (.seq (sR [lO 10 30 2,oO 11 (cL 29 #[(xT 10)] #[30]),oO 12 (.unOp .not 4 (xT 11))] [1,2,12] (cD 12 (sR [oO 4 (.assign nS),oO 5 (.assign (nB false))] [4,5] (.ret)) (.skip))) (.keep [1,2] (sR [lO 14 30 2,oO 15 (cL 13 #[(xT 14)] #[30]),mO 16 1,oO 17 (cL 30 #[(xT 15),(xT 16)] #[25,3]),mO 13 17,xO 18 13 0,xO 19 13 1,aO 6 18,aO 7 19] [6,7] (.seq (sR [mO 20 7,oO 21 (.unOp .not 4 (xT 20))] [6,21] (cD 21 (sR [oO 4 (.assign nS),oO 5 (.assign (nB false))] [4,5] (.ret)) (.skip))) (.keep [6] (.seq (sR [mO 23 6,oO 24 (.buildSlice 56 1 #[(0,(xT 23))]),oO 25 (cL 32 #[(xT 24)] #[56]),oO 26 (cL 33 #[] #[]),oO 27 (cL 31 #[(xT 25),(xT 26)] #[54,58]),mO 22 27,xO 28 22 0,xO 29 22 1,aO 8 28,aO 9 29] [6,9] (sR [mO 30 9,oO 31 (.binOp .neq 45 (xT 30) (nI 0) 45)] [6,31] (cD 31 (sR [oO 4 (.assign nS),oO 5 (.assign (nB false))] [4,5] (.ret)) (.skip)))) (.keep [6] (sR [mO 32 6,aO 4 32,oO 5 (.assign (nB true))] [4,5] (.ret)))))))))
theorem t_patch_Encode : Txt Tryz.prog 10 33 [(.tmp 4),(.tmp 5)] c_patch_Encode := txt_of (code := Tryz.f10.body.getD .ret) mixed (by kernel_rfl) Tryz.func10 (by kernel_rfl) Tryz.ntmps10 (by kernel_rfl) (ls := lsOf c_patch_Encode) (by kernel_rfl)
def c_patch_Decode : CC := sR [oN 2 (.alloc 30) [0],oO 3 (.assign (nI 0))] [0,2] (sR [mO 9 0,oO 10 (cL 33 #[] #[]),oO 11 (cL 55 #[(xT 9),(xT 10)] #[22,58]),mO 8 11,xO 12 8 0,xO 13 8 1,oN 4 (.alloc 25) [1],oS (.store 25 (xT 4) (xT 12)),aO 5 13] [2,4,5] (.seq (sR [mO 14 5,oO 15 (.binOp .neq 45 (xT 14) (nI 0) 45)] [2,4,5,15] (cD 15 (sR [oO 16 (.build 30 #[]),mO 17 5,oS (.store 30 (xT 2) (xT 16)),aO 3 17] [2,3] (.ret)) (.skip))) (.keep [2,4] (sR [lO 19 25 4,oO 20 (cL 16 #[(xT 19)] #[25]),mO 18 20,xO 21 18 0,xO 22 18 1,oN 6 (.alloc 30) [2],oS (.store 30 (xT 6) (xT 21)),aO 7 22] [2,6,7] (.seq (sR [mO 23 7,oO 24 (.unOp .not 4 (xT 23))] [2,6,24] (cD 24 (sR [oO 25 (.build 30 #[]),oS (.store 30 (xT 2) (xT 25)),oO 3 (.assign (nI 12))] [2,3] (.ret)) (.skip))) (.keep [2,6] (sR [lO 26 30 6,oS (.store 30 (xT 2) (xT 26)),oO 3 (.assign (nI 0))] [2,3] (.ret))))))))
theorem t_patch_Decode : Txt Tryz.prog 27 27 [(.cell 2 30),(.tmp 3)] c_patch_Decode := txt_of (code := Tryz.f27.body.getD .ret) mixed (by kernel_rfl) Tryz.func27 (by kernel_rfl) Tryz.ntmps27 (by kernel_rfl) (ls := lsOf c_patch_Decode) (by kernel_rfl)
def c_canon_writer_give : CC := sR [oO 4 (.assign (nI 0))] [0,1] (sR [mO 6 0,oO 7 (.nilCheck (xT 6)),fO 8 88 7 0,lO 9 22 8,oO 10 (bL 9 22),aO 5 10] [0,1,5] (sR [mO 11 0,mO 12 0,oO 13 (.nilCheck (xT 12)),fO 14 88 13 0,lO 15 22 14,mO 16 1,oN 17 (bC .append #[(xT 15),(xT 16)] #[22,3]) [1],oO 18 (.nilCheck (xT 11)),fO 19 88 18 0,oS (.store 22 (xT 19) (xT 17))] [5] (sR [mO 20 5,aO 4 20] [4] (.ret))))
theorem t_canon_writer_give : Txt Tryz.prog 62 21 [(.tmp 4)] c_canon_writer_give := txt_of (code := Tryz.f62.body.getD .ret) mixed (by kernel_rfl) Tryz.func62 (by kernel_rfl) Tryz.ntmps62 (by kernel_rfl) (ls := lsOf c_canon_writer_give) (by kernel_rfl)
def k1_canon_writer_point : CC := sR [lO 29 121 7,oO 30 (cL 132 #[(xT 29)] #[121]),mO 28 30,xO 31 28 0,xO 32 28 1,aO 9 31,aO 10 32] [0,1,9,10] (sR [mO 33 0,oO 34 (.nilCheck (xT 33)),fO 35 88 34 0,lO 36 22 35,mO 37 1,mO 38 9,oO 39 (iA 22 36 37),oS (.store 60 (xT 39) (xT 38))] [10] (sR [mO 40 10,aO 8 40] [8] (.ret))) 
def c_canon_writer_point : CC := sR [oN 7 (.box 121 (xT 3)) [1],oO 8 (.assign (nB false))] [0,1,2,7] (sR [mO 11 2,mO 12 1,oO 13 (bO .sub 3 11 12 3),oO 14 (.binOp .sub 3 (xT 13) (nI 1) 3),fO 15 121 7 1,oS (.store 3 (xT 15) (xT 14))] [0,1,7] (.seq (sR [fO 16 121 7 0,lO 17 3 16,oO 18 (.binOp .eql 3 (xT 17) (nI 1) 3),mO 19 18,oG 20 (fA 121 7 2) 19 true,oG 21 (lD 3 20) 19 true,oG 22 (fA 121 7 3) 19 true,oG 23 (lD 3 22) 19 true,oG 24 (bO .add 3 21 23 3) 19 true,oG 25 (.binOp .eql 3 (xT 24) (nI 0) 3) 19 true,oO 26 (.pick (xT 19) (xT 25) (nB false))] [0,1,7,26] (cD 26 (.reg [fO 27 121 7 1,oS (.store 3 (xT 27) (.const (.int .i64 (-1))))] [0,1,7]) (.skip))) (.keep [0,1,7] k1_canon_writer_point)))
theorem t_canon_writer_point : Txt Tryz.prog 95 41 [(.tmp 8)] c_canon_writer_point := txt_of (code := Tryz.f95.body.getD .ret) mixed (by kernel_rfl) Tryz.func95 (by kernel_rfl) Tryz.ntmps95 (by kernel_rfl) (ls := lsOf c_canon_writer_point) (by kernel_rfl)
def l1_canon_writer_tree : CC := sR [oO 91 (bO .lss 3 90 89 3)] [0,1,5,9,10,88,89,90,91] (.seq (cD 91 (.skip) (.exit 1)) (.keep [0,1,5,9,10,88,89,90] (.seq (.block 2 (sR [oO 92 (iA 23 88 90),lO 93 25 92,oN 12 (.alloc 25) [2],oS (.store 25 (xT 12) (xT 93))] [0,1,5,9,10,12,88,89,90] (.reg [mO 94 10,lO 95 25 12,oO 96 (cL 70 #[(xT 95),(nI 0)] #[25,3]),oO 97 (.buildSlice 22 1 #[(0,(xT 96))]),oN 98 (bC .append #[(xT 94),(xT 97)] #[22,22]) [3],aO 10 98] [0,1,5,9,10,88,89,90]))) (.reg [oO 99 (.binOp .add 3 (xT 90) (nI 1) 3),mO 90 99] [0,1,5,9,10,88,89,90])))) 
def c_canon_writer_tree : CC := sR [oN 5 (.box 25 (xT 2)) [1],oO 6 (.assign (nB false))] [0,1,5] (.seq (.block 0 (sR [fO 17 25 5 0,lO 18 3 17,oO 19 (.binOp .eql 3 (xT 18) (nI 0) 3),aO 16 19] [0,1,5,16] (cD 16 (sR [oO 6 (.assign (nB true))] [6] (.ret)) (sR [fO 21 25 5 0,lO 22 3 21,oO 23 (.binOp .eql 3 (xT 22) (nI 1) 3),aO 20 23] [0,1,5,20] (cD 20 (sR [mO 24 0,fO 25 25 5 1,lO 26 22 25,oO 27 (bL 26 22),fO 28 25 5 2,lO 29 23 28,oO 30 (bL 29 23),oO 31 (bO .add 3 27 30 3),oO 32 (cL 62 #[(xT 24),(xT 31)] #[86,3]),aO 7 32] [0,1,5,7] (sR [mO 33 0,mO 34 1,mO 35 7,fO 36 25 5 1,lO 37 22 36,oO 38 (bL 37 22),fO 39 25 5 2,lO 40 23 39,oO 41 (bL 40 23),oO 42 (.build 121 #[(0,(nI 1)),(2,(xT 38)),(3,(xT 41))]),oO 43 (cL 95 #[(xT 33),(xT 34),(xT 35),(xT 42)] #[86,3,3,121]),mO 44 43,oG 45 (mV 0) 44 true,oG 46 (mV 7) 44 true,oG 47 (fA 25 5 1) 44 true,oG 48 (lD 22 47) 44 true,oG 49 (bL 48 22) 44 true,oG 50 (lD 25 5) 44 true,oG 51 (cL 96 #[(xT 45),(xT 46),(xT 49),(xT 50)] #[86,3,3,25]) 44 true,oO 52 (.pick (xT 44) (xT 51) (nB false)),aO 6 52] [6] (.ret))) (sR [fO 54 25 5 0,lO 55 3 54,oO 56 (.binOp .eql 3 (xT 55) (nI 9) 3),aO 53 56] [0,1,5,53] (cD 53 (sR [mO 57 0,mO 58 1,lO 59 25 5,oO 60 (cL 97 #[(xT 57),(xT 58),(xT 59)] #[86,3,25]),aO 6 60] [6] (.ret)) (sR [fO 62 25 5 0,lO 63 3 62,oO 64 (.binOp .eql 3 (xT 63) (nI 8) 3),aO 61 64] [0,1,5,61] (cD 61 (sR [mO 65 0,fO 66 25 5 2,lO 67 23 66,oO 68 (bL 67 23),oO 69 (cL 62 #[(xT 65),(xT 68)] #[86,3]),aO 8 69] [0,1,5,8] (sR [mO 70 0,mO 71 1,mO 72 8,fO 73 25 5 2,lO 74 23 73,oO 75 (bL 74 23),oO 76 (.build 121 #[(0,(nI 2)),(4,(nI 6)),(5,(xT 75))]),oO 77 (cL 95 #[(xT 70),(xT 71),(xT 72),(xT 76)] #[86,3,3,121]),mO 78 77,oG 79 (mV 0) 78 true,oG 80 (mV 8) 78 true,oG 81 (lD 25 5) 78 true,oG 82 (cL 98 #[(xT 79),(xT 80),(xT 81)] #[86,3,25]) 78 true,oO 83 (.pick (xT 78) (xT 82) (nB false)),aO 6 83] [6] (.ret))) (.skip)))))))))) (.keep [0,1,5] (sR [fO 84 25 5 0,lO 85 3 84,oO 86 (.binOp .sub 3 (xT 85) (nI 2) 3),aO 9 86] [0,1,5,9] (sR [oO 10 (.assign nS)] [0,1,5,9,10] (.seq (sR [fO 87 25 5 2,lO 88 23 87,oO 89 (bL 88 23),oO 90 (.move (nI 0))] [0,1,5,9,10,88,89,90] (.block 1 (.loop l1_canon_writer_tree))) (.keep [0,1,5,9,10] (.stop (sR [mO 101 9,mO 102 10,oO 103 (cL 99 #[(xT 101),(xT 102)] #[3,22]),mO 100 103,xO 104 100 0,xO 105 100 1,aO 13 104,aO 14 105] [0,1,5,9,13,14] (sR [mO 106 0,mO 107 13,oO 108 (bL 107 22),oO 109 (cL 62 #[(xT 106),(xT 108)] #[86,3]),aO 15 109] [0,1,5,9,13,14,15] (sR [mO 110 0,oO 111 (.nilCheck (xT 110)),fO 112 88 111 0,lO 113 22 112,mO 114 15,oO 115 (.slice 22 (xT 113) (some (xT 114)) none none),mO 116 13,oO 117 (bC .copy #[(xT 115),(xT 116)] #[22,22])] [0,1,5,9,14,15] (sR [mO 118 14,mO 119 118,oG 120 (mV 0) 119 true,oG 121 (mV 1) 119 true,oG 122 (mV 15) 119 true,oG 123 (mV 9) 119 true,oG 124 (fA 25 5 2) 119 true,oG 125 (lD 23 124) 119 true,oG 126 (bL 125 23) 119 true,oG 127 (.build 121 #[(0,(nI 2)),(4,(xT 123)),(5,(xT 126))]) 119 true,oG 128 (cL 95 #[(xT 120),(xT 121),(xT 122),(xT 127)] #[86,3,3,121]) 119 true,oO 129 (.pick (xT 119) (xT 128) (nB false)),aO 6 129] [6] (.ret))))))))))))
theorem t_canon_writer_tree : Txt Tryz.prog 61 130 [(.tmp 6)] c_canon_writer_tree := txt_of (code := Tryz.f61.body.getD .ret) mixed (by kernel_rfl) Tryz.func61 (by kernel_rfl) Tryz.ntmps61 (by kernel_rfl) (ls := lsOf c_canon_writer_tree) (by kernel_rfl)
def l1_canon_writer_kids : CC := sR [oO 13 (bO .lss 3 12 11 3)] [0,1,10,11,12,13] (.seq (cD 13 (.skip) (.exit 0)) (.keep [0,1,10,11,12] (.seq (.block 1 (sR [mO 14 12,oO 15 (iA 23 10 12),lO 16 25 15,oN 8 (.alloc 25) [2],aO 7 14,oS (.store 25 (xT 8) (xT 16))] [0,1,7,8,10,11,12] (sR [mO 17 0,mO 18 1,mO 19 7,oO 20 (bO .add 3 18 19 3),lO 21 25 8,oO 22 (cL 61 #[(xT 17),(xT 20),(xT 21)] #[86,3,25]),oO 23 (.unOp .not 4 (xT 22))] [0,1,10,11,12,23] (cD 23 (sR [oO 6 (.assign (nB false))] [6] (.ret)) (.skip))))) (.keep [0,1,10,11,12] (.reg [oO 24 (.binOp .add 3 (xT 12) (nI 1) 3),mO 12 24] [0,1,10,11,12]))))) 
def c_canon_writer_kids : CC := sR [oN 5 (.box 25 (xT 2)) [1],oO 6 (.assign (nB false))] [0,1,5] (.seq (sR [fO 9 25 5 2,lO 10 23 9,oO 11 (bL 10 23),oO 12 (.move (nI 0))] [0,1,10,11,12] (.block 0 (.loop l1_canon_writer_kids))) (.keep [] (sR [oO 6 (.assign (nB true))] [6] (.ret))))
theorem t_canon_writer_kids : Txt Tryz.prog 98 25 [(.tmp 6)] c_canon_writer_kids := txt_of (code := Tryz.f98.body.getD .ret) mixed (by kernel_rfl) Tryz.func98 (by kernel_rfl) Tryz.ntmps98 (by kernel_rfl) (ls := lsOf c_canon_writer_kids) (by kernel_rfl)
def c_canon_writer_structure : CC := sR [oN 7 (.box 25 (xT 3)) [1],oO 8 (.assign (nB false))] [0,1,2,7] (sR [mO 9 0,oO 10 (.nilCheck (xT 9)),fO 11 88 10 0,lO 12 22 11,mO 13 1,oO 14 (.slice 22 (xT 12) (some (xT 13)) none none),fO 15 25 7 1,lO 16 22 15,oO 17 (bC .copy #[(xT 14),(xT 16)] #[22,22])] [0,1,2,7] (sR [mO 18 0,mO 19 1,mO 20 2,oO 21 (bO .add 3 19 20 3),lO 22 25 7,oO 23 (cL 98 #[(xT 18),(xT 21),(xT 22)] #[86,3,25]),aO 8 23] [8] (.ret)))
theorem t_canon_writer_structure : Txt Tryz.prog 96 24 [(.tmp 8)] c_canon_writer_structure := txt_of (code := Tryz.f96.body.getD .ret) mixed (by kernel_rfl) Tryz.func96 (by kernel_rfl) Tryz.ntmps96 (by kernel_rfl) (ls := lsOf c_canon_writer_structure) (by kernel_rfl)
def l1_canon_writer_composite : CC := sR [oO 65 (bO .lss 3 64 63 3)] [0,5,7,9,11,12,62,63,64,65] (.seq (cD 65 (.skip) (.exit 0)) (.keep [0,5,7,9,11,12,62,63,64] (.seq (.block 1 (sR [mO 66 64,oO 67 (iA 23 62 64),lO 68 25 67,oN 14 (.alloc 25) [2],aO 13 66,oS (.store 25 (xT 14) (xT 68))] [0,5,7,9,11,12,13,14,62,63,64] (sR [mO 69 0,mO 70 12,oO 71 (.binOp .add 3 (xT 70) (nI 1) 3),mO 72 13,mO 73 9,oO 74 (bO .mul 3 72 73 3),oO 75 (bO .add 3 71 74 3),mO 76 7,lO 77 25 14,oO 78 (cL 96 #[(xT 69),(xT 75),(xT 76),(xT 77)] #[86,3,3,25]),oO 79 (.unOp .not 4 (xT 78))] [0,5,7,9,11,12,62,63,64,79] (cD 79 (sR [oO 6 (.assign (nB false))] [6] (.ret)) (.skip))))) (.keep [0,5,7,9,11,12,62,63,64] (.reg [oO 80 (.binOp .add 3 (xT 64) (nI 1) 3),mO 64 80] [0,5,7,9,11,12,62,63,64])))))
def k1_canon_writer_composite : CC := sR [mO 35 0,fO 36 25 5 2,lO 37 23 36,oO 38 (bL 37 23),mO 39 9,oO 40 (bO .mul 3 38 39 3),oO 41 (.binOp .add 3 (nI 1) (xT 40) 3),oO 42 (cL 62 #[(xT 35),(xT 41)] #[86,3]),aO 12 42] [0,1,5,7,9,10,11,12] (sR [mO 43 0,oO 44 (.nilCheck (xT 43)),fO 45 88 44 0,lO 46 22 45,mO 47 12,mO 48 10,oO 49 (iA 22 46 47),oS (.store 60 (xT 49) (xT 48))] [0,1,5,7,9,11,12] (.seq (sR [mO 50 0,mO 51 1,mO 52 12,fO 53 25 5 2,lO 54 23 53,oO 55 (bL 54 23),mO 56 9,oO 57 (bO .mul 3 55 56 3),oO 58 (.build 121 #[(0,(nI 2)),(4,(nI 7)),(5,(xT 57))]),oO 59 (cL 95 #[(xT 50),(xT 51),(xT 52),(xT 58)] #[86,3,3,121]),oO 60 (.unOp .not 4 (xT 59))] [0,5,7,9,11,12,60] (cD 60 (sR [oO 6 (.assign (nB false))] [6] (.ret)) (.skip))) (.keep [0,5,7,9,11,12] (.seq (sR [fO 61 25 5 2,lO 62 23 61,oO 63 (bL 62 23),oO 64 (.move (nI 0))] [0,5,7,9,11,12,62,63,64] (.block 0 (.loop l1_canon_writer_composite))) (.keep [5,9,11] (sR [mO 81 11,mO 82 81,oG 83 (fA 25 5 2) 82 false,oG 84 (lD 23 83) 82 false,oG 85 (bL 84 23) 82 false,oG 86 (mV 9) 82 false,oG 87 (bO .add 3 85 86 3) 82 false,oG 88 (.binOp .eql 3 (xT 87) (nI 0) 3) 82 false,oO 89 (.pick (xT 82) (nB true) (xT 88)),aO 6 89] [6] (.ret))))))) 
def c_canon_writer_composite : CC := sR [oN 5 (.box 25 (xT 2)) [1],oO 6 (.assign (nB false))] [0,1,5] (sR [lO 16 25 5,oO 17 (cL 131 #[(xT 16)] #[25]),mO 15 17,xO 18 15 0,xO 19 15 1,aO 7 18,aO 8 19] [0,1,5,7,8] (sR [mO 20 7,mO 21 8,oO 22 (bO .add 3 20 21 3),aO 9 22] [0,1,5,7,8,9] (sR [fO 24 25 5 2,lO 25 23 24,oO 26 (bL 25 23),mO 27 7,mO 28 8,oO 29 (.build 121 #[(0,(nI 1)),(1,(xT 26)),(2,(xT 27)),(3,(xT 28))]),oO 30 (cL 132 #[(xT 29)] #[121]),mO 23 30,xO 31 23 0,xO 32 23 1,aO 10 31,aO 11 32] [0,1,5,7,9,10,11] (.seq (sR [mO 33 11,oO 34 (.unOp .not 4 (xT 33))] [0,1,5,7,9,10,11,34] (cD 34 (.reg [oO 10 (.assign (.const (.int .u64 0)))] [0,1,5,7,9,10,11]) (.skip))) (.keep [0,1,5,7,9,10,11] k1_canon_writer_composite)))))
theorem t_canon_writer_composite : Txt Tryz.prog 97 90 [(.tmp 6)] c_canon_writer_composite := txt_of (code := Tryz.f97.body.getD .ret) mixed (by kernel_rfl) Tryz.func97 (by kernel_rfl) Tryz.ntmps97 (by kernel_rfl) (ls := lsOf c_canon_writer_composite) (by kernel_rfl)
def c_canon_Encode : CC := sR [oN 2 (.box 25 (xT 0)) [0],oO 4 (.assign nS),oO 5 (.assign (nB false))] [1,2] (.seq (sR [lO 9 25 2,oO 10 (cL 58 #[(xT 9)] #[25]),oO 11 (.unOp .not 4 (xT 10)),mO 12 11,oG 13 (fA 25 2 0) 12 false,oG 14 (lD 3 13) 12 false,oG 15 (.binOp .eql 3 (xT 14) (nI 10) 3) 12 false,oO 16 (.pick (xT 12) (nB true) (xT 15))] [1,2,16] (cD 16 (sR [oO 4 (.assign nS),oO 5 (.assign (nB false))] [4,5] (.ret)) (.skip))) (.keep [1,2] (sR [lO 17 25 2,oO 18 (cL 59 #[(xT 17)] #[25]),oS (.store 25 (xT 2) (xT 18))] [1,2] (.seq (sR [lO 19 25 2,oO 20 (cL 60 #[(xT 19)] #[25]),aO 6 20] [1,2,6] (sR [mO 21 6,mO 22 1,oO 23 (bO .geq 3 21 22 3),mO 24 23,oG 25 (mV 6) 24 false,oG 26 (.binOp .geq 3 (xT 25) (nI 131072) 3) 24 false,oO 27 (.pick (xT 24) (nB true) (xT 26))] [2,27] (cD 27 (sR [oO 4 (.assign nS),oO 5 (.assign (nB false))] [4,5] (.ret)) (.skip)))) (.keep [2] (sR [oO 28 (.build 88 #[]),oN 29 (.box 88 (xT 28)) [1],aO 7 29] [2,7] (.stop (sR [mO 30 7,mO 31 7,⟨some 32,(cL 62 #[(xT 31),(nI 1)] #[86,3]),none,[],2,[],true⟩,⟨some 33,(lD 25 2),none,[],3,[2],false⟩,oO 34 (cL 61 #[(xT 30),(xT 32),(xT 33)] #[86,3,25]),aO 8 34] [7,8] (sR [mO 35 7,oO 36 (.nilCheck (xT 35)),fO 37 88 36 0,lO 38 22 37,mO 39 8,aO 4 38,aO 5 39] [4,5] (.ret))))))))))
theorem t_canon_Encode : Txt Tryz.prog 30 40 [(.tmp 4),(.tmp 5)] c_canon_Encode := txt_of (code := Tryz.f30.body.getD .ret) mixed (by kernel_rfl) Tryz.func30 (by kernel_rfl) Tryz.ntmps30 (by kernel_rfl) (ls := lsOf c_canon_Encode) (by kernel_rfl)
def c_canon_Decode : CC := sR [oN 3 (.box 58 (xT 1)) [0],oN 4 (.alloc 25) [1],oO 5 (.assign (nI 0))] [0,3,4] (sR [mO 11 0,⟨some 12,(.buildSlice 56 1 #[(0,(xT 11))]),none,[],1,[],true⟩,⟨some 13,(cL 32 #[(xT 12)] #[56]),none,[],2,[],true⟩,⟨some 14,(lD 58 3),none,[],3,[1,2],true⟩,⟨some 15,(cL 85 #[(xT 13),(xT 14)] #[54,58]),none,[],4,[],true⟩,mO 10 15,xO 16 10 0,xO 17 10 1,⟨some 6,(.alloc 25),none,[2],8,[1,2,3,4],false⟩,oS (.store 25 (xT 6) (xT 16)),aO 7 17] [0,4,6,7] (.seq (sR [mO 18 7,oO 19 (.binOp .neq 45 (xT 18) (nI 0) 45)] [0,4,6,7,19] (cD 19 (sR [oO 20 (.build 25 #[]),mO 21 7,oS (.store 25 (xT 4) (xT 20)),aO 5 21] [4,5] (.ret)) (.skip))) (.keep [0,4,6] (.seq (sR [lO 23 25 6,oO 24 (cL 30 #[(xT 23),(nI 131072)] #[25,3]),mO 22 24,xO 25 22 0,xO 26 22 1,aO 8 25,aO 9 26] [0,4,6,8,9] (sR [mO 27 9,oO 28 (.unOp .not 4 (xT 27)),mO 29 28,oG 30 (mV 0) 29 false,oG 31 (mV 8) 29 false,oG 32 (cL 74 #[(xT 30),(xT 31)] #[22,22]) 29 false,oG 33 (.unOp .not 4 (xT 32)) 29 false,oO 34 (.pick (xT 29) (nB true) (xT 33))] [4,6,34] (cD 34 (sR [oO 35 (.build 25 #[]),oS (.store 25 (xT 4) (xT 35)),oO 5 (.assign (nI 5))] [4,5] (.ret)) (.skip)))) (.keep [4,6] (sR [lO 36 25 6,oS (.store 25 (xT 4) (xT 36)),oO 5 (.assign (nI 0))] [4,5] (.ret)))))))
theorem t_canon_Decode : Txt Tryz.prog 55 37 [(.cell 4 25),(.tmp 5)] c_canon_Decode := txt_of (code := Tryz.f55.body.getD .ret) mixed (by kernel_rfl) Tryz.func55 (by kernel_rfl) Tryz.ntmps55 (by kernel_rfl) (ls := lsOf c_canon_Decode) (by kernel_rfl)
def c_valid_meter_spend : CC := sR [oO 4 (.assign (nB false))] [0,1] (.seq (sR [mO 5 1,mO 6 0,oO 7 (.nilCheck (xT 6)),fO 8 98 7 1,lO 9 3 8,mO 10 0,oO 11 (.nilCheck (xT 10)),fO 12 98 11 0,lO 13 3 12,oO 14 (bO .sub 3 9 13 3),oO 15 (bO .gtr 3 5 14 3)] [0,1,15] (cD 15 (sR [oO 4 (.assign (nB false))] [4] (.ret)) (.skip))) (.keep [0,1] (sR [mO 16 0,oO 17 (.nilCheck (xT 16)),fO 18 98 17 0,lO 19 3 18,mO 20 1,oO 21 (bO .add 3 19 20 3),oO 22 (.nilCheck (xT 16)),fO 23 98 22 0,oS (.store 3 (xT 23) (xT 21))] [] (sR [oO 4 (.assign (nB true))] [4] (.ret)))))
theorem t_valid_meter_spend : Txt Tryz.prog 103 24 [(.tmp 4)] c_valid_meter_spend := txt_of (code := Tryz.f103.body.getD .ret) mixed (by kernel_rfl) Tryz.func103 (by kernel_rfl) Tryz.ntmps103 (by kernel_rfl) (ls := lsOf c_valid_meter_spend) (by kernel_rfl)
def c_valid_own : CC := sR [oN 1 (.box 93 (xT 0)) [0],oO 2 (.assign (nI 0))] [1] (.seq (.block 0 (sR [lO 6 93 1,oO 7 (cL 101 #[(xT 6)] #[93]),oO 8 (.binOp .eql 3 (xT 7) (nI 1) 3),aO 5 8] [1,5] (cD 5 (sR [lO 9 93 1,⟨some 10,(cL 137 #[(xT 9)] #[93]),none,[],1,[],true⟩,oO 11 (.binOp .add 3 (nI 1) (xT 10) 3),⟨some 12,(lD 93 1),none,[],3,[1],false⟩,oO 13 (cL 102 #[(xT 12)] #[93]),oO 14 (bO .add 3 11 13 3),aO 2 14] [2] (.ret)) (sR [lO 16 93 1,oO 17 (cL 101 #[(xT 16)] #[93]),oO 18 (.binOp .eql 3 (xT 17) (nI 9) 3),aO 15 18] [1,15] (cD 15 (sR [lO 20 93 1,oO 21 (cL 138 #[(xT 20)] #[93]),mO 19 21,xO 22 19 0,xO 23 19 1,aO 3 22,aO 4 23] [1,3,4] (sR [lO 24 93 1,oO 25 (cL 102 #[(xT 24)] #[93]),mO 26 3,oO 27 (.binOp .add 3 (nI 1) (xT 26) 3),mO 28 4,oO 29 (bO .add 3 27 28 3),oO 30 (bO .mul 3 25 29 3),oO 31 (.binOp .add 3 (nI 1) (xT 30) 3),aO 2 31] [2] (.ret))) (.skip)))))) (.keep [1] (sR [lO 32 93 1,oO 33 (cL 102 #[(xT 32)] #[93]),oO 34 (.binOp .add 3 (nI 1) (xT 33) 3),aO 2 34] [2] (.ret))))
theorem t_valid_own : Txt Tryz.prog 104 35 [(.tmp 2)] c_valid_own := txt_of (code := Tryz.f104.body.getD .ret) mixed (by kernel_rfl) Tryz.func104 (by kernel_rfl) Tryz.ntmps104 (by kernel_rfl) (ls := lsOf c_valid_own) (by kernel_rfl)
def l1_valid_meter_walk : CC := sR [oO 44 (bO .lss 3 43 42 3)] [0,4,7,42,43,44] (.seq (cD 44 (.skip) (.exit 0)) (.keep [0,4,7,42,43] (.seq (.block 1 (sR [mO 45 43,aO 8 45] [0,4,7,8,42,43] (sR [mO 46 0,lO 47 93 4,mO 48 8,mO 49 7,oO 50 (cL 106 #[(xT 46),(xT 47),(xT 48),(xT 49)] #[96,93,3,3]),aO 9 50] [0,4,7,9,42,43] (sR [mO 51 9,oO 52 (.binOp .neq 45 (xT 51) (nI 0) 45)] [0,4,7,9,42,43,52] (cD 52 (sR [mO 53 9,aO 6 53] [6] (.ret)) (.skip)))))) (.keep [0,4,7,42,43] (.reg [oO 54 (.binOp .add 3 (xT 43) (nI 1) 3),mO 43 54] [0,4,7,42,43])))))
def k1_valid_meter_walk : CC := .seq (sR [mO 25 2,oO 26 (.binOp .lss 3 (xT 25) (nI 1) 3),mO 27 26,oG 28 (mV 7) 27 false,oG 29 (.binOp .lss 3 (xT 28) (nI 0) 3) 27 false,oO 30 (.pick (xT 27) (nB true) (xT 29)),mO 31 30,oG 32 (mV 0) 31 false,oG 33 (lD 93 4) 31 false,oG 34 (cL 104 #[(xT 33)] #[93]) 31 false,oG 35 (cL 103 #[(xT 32),(xT 34)] #[96,3]) 31 false,oG 36 (.unOp .not 4 (xT 35)) 31 false,oO 37 (.pick (xT 31) (nB true) (xT 36))] [0,4,7,37] (cD 37 (sR [oO 6 (.assign (nI 3))] [6] (.ret)) (.skip))) (.keep [0,4,7] (.seq (sR [lO 38 93 4,oO 39 (cL 101 #[(xT 38)] #[93]),oO 40 (cL 105 #[(xT 39)] #[3])] [0,4,7,40] (cD 40 (sR [oO 6 (.assign (nI 0))] [6] (.ret)) (.skip))) (.keep [0,4,7] (.seq (sR [lO 41 93 4,oO 42 (cL 102 #[(xT 41)] #[93]),oO 43 (.move (nI 0))] [0,4,7,42,43] (.block 0 (.loop l1_valid_meter_walk))) (.keep [] (sR [oO 6 (.assign (nI 0))] [6] (.ret))))))) 
def c_valid_meter_walk : CC := sR [oN 4 (.box 93 (xT 1)) [1],oO 6 (.assign (nI 0))] [0,2,4] (.seq (sR [lO 10 93 4,oO 11 (cL 101 #[(xT 10)] #[93]),oO 12 (.binOp .eql 3 (xT 11) (nI 0) 3)] [0,2,4,12] (cD 12 (sR [oO 6 (.assign (nI 0))] [6] (.ret)) (.skip))) (.keep [0,2,4] (sR [mO 13 2,oO 14 (.binOp .sub 3 (xT 13) (nI 1) 3),aO 7 14] [0,2,4,7] (.seq (sR [lO 15 93 4,oO 16 (cL 101 #[(xT 15)] #[93]),oO 17 (.binOp .eql 3 (xT 16) (nI 9) 3),mO 18 17,oG 19 (lD 93 4) 18 true,oG 20 (cL 102 #[(xT 19)] #[93]) 18 true,oG 21 (.binOp .gtr 3 (xT 20) (nI 0) 3) 18 true,oO 22 (.pick (xT 18) (xT 21) (nB false))] [0,2,4,7,22] (cD 22 (.reg [mO 23 7,oO 24 (.binOp .sub 3 (xT 23) (nI 1) 3),aO 7 24] [0,2,4,7]) (.skip))) (.keep [0,2,4,7] k1_valid_meter_walk)))))
theorem t_valid_meter_walk : Txt Tryz.prog 65 55 [(.tmp 6)] c_valid_meter_walk := txt_of (code := Tryz.f65.body.getD .ret) mixed (by kernel_rfl) Tryz.func65 (by kernel_rfl) Tryz.ntmps65 (by kernel_rfl) (ls := lsOf c_valid_meter_walk) (by kernel_rfl)
def l1_valid_meter_kid : CC := sR [oO 32 (bO .lss 3 31 30 3)] [0,3,9,30,31,32] (.seq (cD 32 (.skip) (.exit 0)) (.keep [0,3,9,30,31] (.seq (.block 1 (sR [mO 33 31,aO 11 33] [0,3,9,11,30,31] (sR [mO 34 0,lO 35 93 9,mO 36 11,mO 37 3,oO 38 (cL 106 #[(xT 34),(xT 35),(xT 36),(xT 37)] #[96,93,3,3]),aO 12 38] [0,3,9,12,30,31] (sR [mO 39 12,oO 40 (.binOp .neq 45 (xT 39) (nI 0) 45)] [0,3,9,12,30,31,40] (cD 40 (sR [mO 41 12,aO 8 41] [8] (.ret)) (.skip)))))) (.keep [0,3,9,30,31] (.reg [oO 42 (.binOp .add 3 (xT 31) (nI 1) 3),mO 31 42] [0,3,9,30,31]))))) 
def c_valid_meter_kid : CC := sR [oN 5 (.box 93 (xT 1)) [1],oO 8 (.assign (nI 0))] [0,2,3,5] (sR [lO 14 93 5,mO 15 2,oO 16 (cL 139 #[(xT 14),(xT 15)] #[93,3]),mO 13 16,xO 17 13 0,xO 18 13 1,oN 9 (.alloc 93) [2],oS (.store 93 (xT 9) (xT 17)),aO 10 18] [0,3,5,9,10] (.seq (sR [mO 19 10,oO 20 (.binOp .neq 45 (xT 19) (nI 0) 45)] [0,3,5,9,10,20] (cD 20 (sR [mO 21 10,aO 8 21] [8] (.ret)) (.skip))) (.keep [0,3,5,9] (.seq (sR [lO 22 93 5,oO 23 (cL 101 #[(xT 22)] #[93]),oO 24 (.binOp .neq 3 (xT 23) (nI 9) 3)] [0,3,9,24] (cD 24 (sR [mO 25 0,lO 26 93 9,mO 27 3,oO 28 (cL 65 #[(xT 25),(xT 26),(xT 27)] #[96,93,3]),aO 8 28] [8] (.ret)) (.skip))) (.keep [0,3,9] (.seq (sR [lO 29 93 9,oO 30 (cL 102 #[(xT 29)] #[93]),oO 31 (.move (nI 0))] [0,3,9,30,31] (.block 0 (.loop l1_valid_meter_kid))) (.keep [] (sR [oO 8 (.assign (nI 0))] [8] (.ret)))))))))
theorem t_valid_meter_kid : Txt Tryz.prog 106 43 [(.tmp 8)] c_valid_meter_kid := txt_of (code := Tryz.f106.body.getD .ret) mixed (by kernel_rfl) Tryz.func106 (by kernel_rfl) Tryz.ntmps106 (by kernel_rfl) (ls := lsOf c_valid_meter_kid) (by kernel_rfl)
def c_valid_Limits : CC := sR [oN 1 (.box 58 (xT 0)) [0],oN 2 (.alloc 58) [1]] [1,2] (sR [fO 3 58 1 0,lO 4 3 3,oO 5 (bC .max #[(xT 4),(nI 0)] #[3,3]),oO 6 (bC .min #[(xT 5),(nI 64)] #[3,3]),fO 7 58 1 1,lO 8 3 7,oO 9 (bC .max #[(xT 8),(nI 0)] #[3,3]),oO 10 (bC .min #[(xT 9),(nI 65536)] #[3,3]),fO 11 58 1 2,lO 12 3 11,oO 13 (bC .max #[(xT 12),(nI 0)] #[3,3]),oO 14 (bC .min #[(xT 13),(nI 4096)] #[3,3]),fO 15 58 1 3,lO 16 3 15,oO 17 (bC .max #[(xT 16),(nI 0)] #[3,3]),oO 18 (bC .min #[(xT 17),(nI 131072)] #[3,3]),oO 19 (.build 58 #[(0,(xT 6)),(1,(xT 10)),(2,(xT 14)),(3,(xT 18))]),oS (.store 58 (xT 2) (xT 19))] [2] (.ret))
theorem t_valid_Limits : Txt Tryz.prog 63 20 [(.cell 2 58)] c_valid_Limits := txt_of (code := Tryz.f63.body.getD .ret) mixed (by kernel_rfl) Tryz.func63 (by kernel_rfl) Tryz.ntmps63 (by kernel_rfl) (ls := lsOf c_valid_Limits) (by kernel_rfl)
def c_valid_Check : CC := sR [oN 3 (.box 58 (xT 1)) [0],oO 4 (.assign (nI 0)),oO 5 (.assign (nI 0))] [0,3] (sR [lO 10 58 3,oO 11 (cL 63 #[(xT 10)] #[58]),oS (.store 58 (xT 3) (xT 11))] [0,3] (sR [mO 13 0,oO 14 (cL 64 #[(xT 13)] #[54]),mO 12 14,xO 15 12 0,xO 16 12 1,oN 6 (.alloc 93) [1],oS (.store 93 (xT 6) (xT 15)),aO 7 16] [3,6,7] (.seq (sR [mO 17 7,oO 18 (.binOp .neq 45 (xT 17) (nI 0) 45)] [3,6,7,18] (cD 18 (sR [mO 19 7,oO 4 (.assign (nI 0)),aO 5 19] [4,5] (.ret)) (.skip))) (.keep [3,6] (sR [fO 20 58 3 1,lO 21 3 20,oO 22 (.build 98 #[(1,(xT 21))]),oN 23 (.box 98 (xT 22)) [2],aO 8 23] [3,6,8] (.seq (sR [mO 24 8,lO 25 93 6,fO 26 58 3 0,lO 27 3 26,oO 28 (cL 65 #[(xT 24),(xT 25),(xT 27)] #[96,93,3]),aO 9 28] [8,9] (sR [mO 29 9,oO 30 (.binOp .neq 45 (xT 29) (nI 0) 45)] [8,9,30] (cD 30 (sR [mO 31 9,oO 4 (.assign (nI 0)),aO 5 31] [4,5] (.ret)) (.skip)))) (.keep [8] (sR [mO 32 8,oO 33 (.nilCheck (xT 32)),fO 34 98 33 0,lO 35 3 34,aO 4 35,oO 5 (.assign (nI 0))] [4,5] (.ret)))))))))
theorem t_valid_Check : Txt Tryz.prog 31 36 [(.tmp 4),(.tmp 5)] c_valid_Check := txt_of (code := Tryz.f31.body.getD .ret) mixed (by kernel_rfl) Tryz.func31 (by kernel_rfl) Tryz.ntmps31 (by kernel_rfl) (ls := lsOf c_valid_Check) (by kernel_rfl)
def c_reader_Ref_Frame : CC := sR [oN 1 (.box 93 (xT 0)) [0],oO 2 (.assign (nI 0)),oO 3 (.assign (nI 0))] [1] (.seq (sR [fO 4 93 1 1,lO 5 3 4,oO 6 (.binOp .neq 3 (xT 5) (nI 9) 3)] [1,6] (cD 6 (sR [oO 2 (.assign (nI 0)),oO 3 (.assign (nI 0))] [2,3] (.ret)) (.skip))) (.keep [1] (sR [fO 7 93 1 4,lO 8 3 7,fO 9 93 1 5,lO 10 3 9,aO 2 8,aO 3 10] [2,3] (.ret))))
theorem t_reader_Ref_Frame : Txt Tryz.prog 138 11 [(.tmp 2),(.tmp 3)] c_reader_Ref_Frame := txt_of (code := Tryz.f138.body.getD .ret) mixed (by kernel_rfl) Tryz.func138 (by kernel_rfl) Tryz.ntmps138 (by kernel_rfl) (ls := lsOf c_reader_Ref_Frame) (by kernel_rfl)
def c_unfold_Message : CC := sR [oN 3 (.box 58 (xT 1)) [0],oN 4 (.alloc 25) [1],oO 5 (.assign (nI 0))] [0,3,4] (.seq (sR [mO 12 0,lO 13 58 3,oO 14 (cL 31 #[(xT 12),(xT 13)] #[54,58]),mO 11 14,xO 15 11 0,xO 16 11 1,aO 6 15,aO 7 16] [0,4,7] (sR [mO 17 7,oO 18 (.binOp .neq 45 (xT 17) (nI 0) 45)] [0,4,7,18] (cD 18 (sR [oO 19 (.build 25 #[]),mO 20 7,oS (.store 25 (xT 4) (xT 19)),aO 5 20] [4,5] (.ret)) (.skip)))) (.keep [0,4] (sR [mO 22 0,oO 23 (cL 64 #[(xT 22)] #[54]),mO 21 23,xO 24 21 0,xO 25 21 1,oN 8 (.alloc 93) [2],oS (.store 93 (xT 8) (xT 24)),aO 9 25] [4,8,9] (.seq (sR [mO 26 9,oO 27 (.binOp .neq 45 (xT 26) (nI 0) 45)] [4,8,9,27] (cD 27 (sR [oO 28 (.build 25 #[]),mO 29 9,oS (.store 25 (xT 4) (xT 28)),aO 5 29] [4,5] (.ret)) (.skip))) (.keep [4,8] (sR [lO 31 93 8,oO 32 (cL 124 #[(xT 31)] #[93]),mO 30 32,xO 33 30 0,xO 34 30 1,oN 10 (.alloc 25) [3],oS (.store 25 (xT 10) (xT 33)),aO 9 34] [4,9,10] (sR [lO 35 25 10,oO 36 (cL 59 #[(xT 35)] #[25]),mO 37 9,oS (.store 25 (xT 4) (xT 36)),aO 5 37] [4,5] (.ret))))))))
theorem t_unfold_Message : Txt Tryz.prog 85 38 [(.cell 4 25),(.tmp 5)] c_unfold_Message := txt_of (code := Tryz.f85.body.getD .ret) mixed (by kernel_rfl) Tryz.func85 (by kernel_rfl) Tryz.ntmps85 (by kernel_rfl) (ls := lsOf c_unfold_Message) (by kernel_rfl)
def l1_centoref22_sameTrees : CC := .seq (sR [mO 11 5,mO 12 0,oO 13 (bL 12 23),oO 14 (bO .lss 3 11 13 3)] [0,1,5,14] (cD 14 (.skip) (.exit 0))) (.keep [0,1,5] (.seq (.block 1 (sR [mO 17 0,mO 18 5,oO 19 (iA 23 17 18),lO 20 25 19,mO 21 1,mO 22 5,oO 23 (iA 23 21 22),lO 24 25 23,oO 25 (cL 14 #[(xT 20),(xT 24)] #[25,25]),oO 26 (.unOp .not 4 (xT 25))] [0,1,5,26] (cD 26 (sR [oO 4 (.assign (nB false))] [4] (.ret)) (.skip)))) (.keep [0,1,5] (.reg [mO 15 5,oO 16 (.binOp .add 3 (xT 15) (nI 1) 3),aO 5 16] [0,1,5])))) 
def c_centoref22_sameTrees : CC := sR [oO 4 (.assign (nB false))] [0,1] (.seq (sR [mO 6 0,oO 7 (bL 6 23),mO 8 1,oO 9 (bL 8 23),oO 10 (bO .neq 3 7 9 3)] [0,1,10] (cD 10 (sR [oO 4 (.assign (nB false))] [4] (.ret)) (.skip))) (.keep [0,1] (.seq (sR [oO 5 (.assign (nI 0))] [0,1,5] (.block 0 (.loop l1_centoref22_sameTrees))) (.keep [] (sR [oO 4 (.assign (nB true))] [4] (.ret))))))
theorem t_centoref22_sameTrees : Txt Tryz.prog 47 27 [(.tmp 4)] c_centoref22_sameTrees := txt_of (code := Tryz.f47.body.getD .ret) mixed (by kernel_rfl) Tryz.func47 (by kernel_rfl) Tryz.ntmps47 (by kernel_rfl) (ls := lsOf c_centoref22_sameTrees) (by kernel_rfl)
def l1_centoref22_Same : CC := .seq (sR [mO 65 5,fO 66 30 2 3,lO 67 26 66,oO 68 (bL 67 26),oO 69 (bO .lss 3 65 68 3)] [2,3,5,69] (cD 69 (.skip) (.exit 0))) (.keep [2,3,5] (.seq (.block 1 (sR [fO 72 30 2 3,lO 73 26 72,mO 74 5,oO 75 (iA 26 73 74),lO 76 63 75,fO 77 30 3 3,lO 78 26 77,mO 79 5,oO 80 (iA 26 78 79),lO 81 63 80,oO 82 (bO .neq 63 76 81 63)] [2,3,5,82] (cD 82 (sR [oO 4 (.assign (nB false))] [4] (.ret)) (.skip)))) (.keep [2,3,5] (.reg [mO 70 5,oO 71 (.binOp .add 3 (xT 70) (nI 1) 3),aO 5 71] [2,3,5]))))
def l2_centoref22_Same : CC := .seq (sR [mO 83 6,fO 84 30 2 4,lO 85 27 84,oO 86 (bL 85 27),oO 87 (bO .lss 3 83 86 3)] [2,3,6,87] (cD 87 (.skip) (.exit 2))) (.keep [2,3,6] (.seq (.block 3 (sR [fO 90 30 2 4,lO 91 27 90,mO 92 6,oO 93 (iA 27 91 92),fO 94 66 93 0,lO 95 3 94,fO 96 30 3 4,lO 97 27 96,mO 98 6,oO 99 (iA 27 97 98),fO 100 66 99 0,lO 101 3 100,oO 102 (bO .neq 3 95 101 3),mO 103 102,oG 104 (fA 30 2 4) 103 false,oG 105 (lD 27 104) 103 false,oG 106 (mV 6) 103 false,oG 107 (iA 27 105 106) 103 false,oG 108 (fA 66 107 1) 103 false,oG 109 (lD 30 108) 103 false,oG 110 (fA 30 3 4) 103 false,oG 111 (lD 27 110) 103 false,oG 112 (mV 6) 103 false,oG 113 (iA 27 111 112) 103 false,oG 114 (fA 66 113 1) 103 false,oG 115 (lD 30 114) 103 false,oG 116 (cL 21 #[(xT 109),(xT 115)] #[30,30]) 103 false,oG 117 (.unOp .not 4 (xT 116)) 103 false,oO 118 (.pick (xT 103) (nB true) (xT 117))] [2,3,6,118] (cD 118 (sR [oO 4 (.assign (nB false))] [4] (.ret)) (.skip)))) (.keep [2,3,6] (.reg [mO 88 6,oO 89 (.binOp .add 3 (xT 88) (nI 1) 3),aO 6 89] [2,3,6]))))
def l3_centoref22_Same : CC := .seq (sR [mO 119 7,fO 120 30 2 6,lO 121 28 120,oO 122 (bL 121 28),oO 123 (bO .lss 3 119 122 3)] [2,3,7,123] (cD 123 (.skip) (.exit 4))) (.keep [2,3,7] (.seq (.block 5 (sR [fO 126 30 2 6,⟨some 127,(lD 28 126),none,[],1,[],true⟩,mO 128 7,oO 129 (iA 28 127 128),⟨some 130,(lD 69 129),none,[],4,[],true⟩,fO 131 30 3 6,⟨some 132,(lD 28 131),none,[],6,[],true⟩,mO 133 7,oO 134 (iA 28 132 133),⟨some 135,(lD 69 134),none,[],9,[],true⟩,⟨some 8,(.alloc 69),none,[2],10,[1,4,6,9],true⟩,⟨some 9,(.alloc 69),none,[3],11,[1,4,6,9,10],false⟩,⟨none,(.store 69 (xT 8) (xT 130)),none,[],12,[6,9],false⟩,oS (.store 69 (xT 9) (xT 135))] [2,3,7,8,9] (sR [fO 136 69 8 0,lO 137 3 136,fO 138 69 9 0,lO 139 3 138,oO 140 (bO .neq 3 137 139 3),mO 141 140,oG 142 (fA 69 8 1) 141 false,oG 143 (lD 3 142) 141 false,oG 144 (fA 69 9 1) 141 false,oG 145 (lD 3 144) 141 false,oG 146 (bO .neq 3 143 145 3) 141 false,oO 147 (.pick (xT 141) (nB true) (xT 146)),mO 148 147,oG 149 (fA 69 8 2) 148 false,oG 150 (lD 23 149) 148 false,oG 151 (fA 69 9 2) 148 false,oG 152 (lD 23 151) 148 false,oG 153 (cL 47 #[(xT 150),(xT 152)] #[23,23]) 148 false,oG 154 (.unOp .not 4 (xT 153)) 148 false,oO 155 (.pick (xT 148) (nB true) (xT 154)),mO 156 155,oG 157 (fA 69 8 3) 156 false,oG 158 (lD 30 157) 156 false,oG 159 (fA 69 9 3) 156 false,oG 160 (lD 30 159) 156 false,oG 161 (cL 21 #[(xT 158),(xT 160)] #[30,30]) 156 false,oG 162 (.unOp .not 4 (xT 161)) 156 false,oO 163 (.pick (xT 156) (nB true) (xT 162))] [2,3,7,163] (cD 163 (sR [oO 4 (.assign (nB false))] [4] (.ret)) (.skip))))) (.keep [2,3,7] (.reg [mO 124 7,oO 125 (.binOp .add 3 (xT 124) (nI 1) 3),aO 7 125] [2,3,7])))) 
def c_centoref22_Same : CC := sR [oN 2 (.box 30 (xT 0)) [0],oN 3 (.box 30 (xT 1)) [1],oO 4 (.assign (nB false))] [2,3] (.seq (sR [fO 10 30 2 0,lO 11 3 10,fO 12 30 3 0,lO 13 3 12,oO 14 (bO .neq 3 11 13 3),mO 15 14,oG 16 (fA 30 2 5) 15 false,oG 17 (lD 3 16) 15 false,oG 18 (fA 30 3 5) 15 false,oG 19 (lD 3 18) 15 false,oG 20 (bO .neq 3 17 19 3) 15 false,oO 21 (.pick (xT 15) (nB true) (xT 20)),mO 22 21,oG 23 (fA 30 2 1) 22 false,oG 24 (lD 25 23) 22 false,oG 25 (fA 30 3 1) 22 false,oG 26 (lD 25 25) 22 false,oG 27 (cL 14 #[(xT 24),(xT 26)] #[25,25]) 22 false,oG 28 (.unOp .not 4 (xT 27)) 22 false,oO 29 (.pick (xT 22) (nB true) (xT 28)),mO 30 29,oG 31 (fA 30 2 2) 30 false,oG 32 (lD 25 31) 30 false,oG 33 (fA 30 3 2) 30 false,oG 34 (lD 25 33) 30 false,oG 35 (cL 14 #[(xT 32),(xT 34)] #[25,25]) 30 false,oG 36 (.unOp .not 4 (xT 35)) 30 false,oO 37 (.pick (xT 30) (nB true) (xT 36)),mO 38 37,oG 39 (fA 30 2 3) 38 false,oG 40 (lD 26 39) 38 false,oG 41 (bL 40 26) 38 false,oG 42 (fA 30 3 3) 38 false,oG 43 (lD 26 42) 38 false,oG 44 (bL 43 26) 38 false,oG 45 (bO .neq 3 41 44 3) 38 false,oO 46 (.pick (xT 38) (nB true) (xT 45)),mO 47 46,oG 48 (fA 30 2 4) 47 false,oG 49 (lD 27 48) 47 false,oG 50 (bL 49 27) 47 false,oG 51 (fA 30 3 4) 47 false,oG 52 (lD 27 51) 47 false,oG 53 (bL 52 27) 47 false,oG 54 (bO .neq 3 50 53 3) 47 false,oO 55 (.pick (xT 47) (nB true) (xT 54)),mO 56 55,oG 57 (fA 30 2 6) 56 false,oG 58 (lD 28 57) 56 false,oG 59 (bL 58 28) 56 false,oG 60 (fA 30 3 6) 56 false,oG 61 (lD 28 60) 56 false,oG 62 (bL 61 28) 56 false,oG 63 (bO .neq 3 59 62 3) 56 false,oO 64 (.pick (xT 56) (nB true) (xT 63))] [2,3,64] (cD 64 (sR [oO 4 (.assign (nB false))] [4] (.ret)) (.skip))) (.keep [2,3] (.seq (sR [oO 5 (.assign (nI 0))] [2,3,5] (.block 0 (.loop l1_centoref22_Same))) (.keep [2,3] (.seq (sR [oO 6 (.assign (nI 0))] [2,3,6] (.block 2 (.loop l2_centoref22_Same))) (.keep [2,3] (.seq (sR [oO 7 (.assign (nI 0))] [2,3,7] (.block 4 (.loop l3_centoref22_Same))) (.keep [] (sR [oO 4 (.assign (nB true))] [4] (.ret))))))))))
theorem t_centoref22_Same : Txt Tryz.prog 21 164 [(.tmp 4)] c_centoref22_Same := txt_of (code := Tryz.f21.body.getD .ret) mixed (by kernel_rfl) Tryz.func21 (by kernel_rfl) Tryz.ntmps21 (by kernel_rfl) (ls := lsOf c_centoref22_Same) (by kernel_rfl)
def c_centoref27_word : CC := sR [oN 2 (.box 25 (xT 0)) [0],oO 4 (.assign (.const (.int .u64 0)))] [1,2] (.seq (sR [mO 5 1,fO 6 25 2 1,lO 7 22 6,oO 8 (bL 7 22),oO 9 (bO .lss 3 5 8 3)] [1,2,9] (cD 9 (sR [fO 10 25 2 1,lO 11 22 10,mO 12 1,oO 13 (iA 22 11 12),lO 14 60 13,aO 4 14] [4] (.ret)) (.skip))) (.keep [] (sR [oO 4 (.assign (.const (.int .u64 0)))] [4] (.ret))))
theorem t_centoref27_word : Txt Tryz.prog 76 15 [(.tmp 4)] c_centoref27_word := txt_of (code := Tryz.f76.body.getD .ret) mixed (by kernel_rfl) Tryz.func76 (by kernel_rfl) Tryz.ntmps76 (by kernel_rfl) (ls := lsOf c_centoref27_word) (by kernel_rfl)
def c_centoref27_kid : CC := sR [oN 2 (.box 25 (xT 0)) [0],oN 4 (.alloc 25) [1]] [1,2,4] (.seq (sR [mO 5 1,fO 6 25 2 2,lO 7 23 6,oO 8 (bL 7 23),oO 9 (bO .lss 3 5 8 3)] [1,2,4,9] (cD 9 (sR [fO 10 25 2 2,lO 11 23 10,mO 12 1,oO 13 (iA 23 11 12),lO 14 25 13,oS (.store 25 (xT 4) (xT 14))] [4] (.ret)) (.skip))) (.keep [4] (sR [oO 15 (.build 25 #[]),oS (.store 25 (xT 4) (xT 15))] [4] (.ret))))
theorem t_centoref27_kid : Txt Tryz.prog 77 16 [(.cell 4 25)] c_centoref27_kid := txt_of (code := Tryz.f77.body.getD .ret) mixed (by kernel_rfl) Tryz.func77 (by kernel_rfl) Tryz.ntmps77 (by kernel_rfl) (ls := lsOf c_centoref27_kid) (by kernel_rfl)
def l1_centoref27_Guess : CC := .seq (sR [mO 39 7,fO 40 25 5 2,lO 41 23 40,oO 42 (bL 41 23),oO 43 (bO .lss 3 39 42 3),mO 44 43,oG 45 (fA 30 4 0) 44 true,oG 46 (lD 3 45) 44 true,oG 47 (.binOp .eql 3 (xT 46) (nI 2) 3) 44 true,oO 48 (.pick (xT 44) (xT 47) (nB false))] [2,4,5,6,7,48] (cD 48 (.skip) (.exit 0))) (.keep [2,4,5,6,7] (.seq (.block 1 (sR [fO 51 25 5 2,lO 52 23 51,mO 53 7,oO 54 (iA 23 52 53),lO 55 25 54,oN 8 (.alloc 25) [5],oS (.store 25 (xT 8) (xT 55))] [2,4,5,6,7,8] (.reg [fO 56 30 4 3,⟨some 57,(lD 26 56),none,[],1,[],true⟩,lO 58 25 8,⟨some 59,(cL 76 #[(xT 58),(nI 0)] #[25,3]),none,[],3,[1],true⟩,oO 60 (.binOp .rem 60 (xT 59) (.const (.int .u64 4294967296)) 60),oO 61 (.convert 60 3 (xT 60)),⟨some 62,(lD 25 8),none,[],6,[3],false⟩,⟨some 63,(cL 76 #[(xT 62),(nI 0)] #[25,3]),none,[],7,[1],true⟩,oO 64 (.binOp .quo 60 (xT 63) (.const (.int .u64 4294967296)) 60),oO 65 (.binOp .rem 60 (xT 64) (.const (.int .u64 256)) 60),oO 66 (.convert 60 5 (xT 65)),⟨some 67,(lD 25 8),none,[],11,[3,7],false⟩,⟨some 68,(cL 76 #[(xT 67),(nI 1)] #[25,3]),none,[],12,[1],true⟩,⟨some 69,(lD 25 8),none,[],13,[3,7,12],false⟩,⟨some 70,(cL 76 #[(xT 69),(nI 2)] #[25,3]),none,[],14,[1],false⟩,oO 71 (.build 63 #[(0,(xT 61)),(1,(xT 66)),(2,(xT 68)),(3,(xT 70))]),⟨some 72,(.buildSlice 26 1 #[(0,(xT 71))]),none,[],16,[1],false⟩,oN 73 (bC .append #[(xT 57),(xT 72)] #[26,26]) [6],fO 74 30 4 3,oS (.store 26 (xT 74) (xT 73))] [2,4,5,6,7]))) (.reg [mO 49 7,oO 50 (.binOp .add 3 (xT 49) (nI 1) 3),aO 7 50] [2,4,5,6,7])))
def l2_centoref27_Guess : CC := .seq (sR [mO 75 9,fO 76 25 6 2,lO 77 23 76,oO 78 (bL 77 23),oO 79 (bO .lss 3 75 78 3),mO 80 79,oG 81 (fA 30 4 0) 80 true,oG 82 (lD 3 81) 80 true,oG 83 (.binOp .eql 3 (xT 82) (nI 2) 3) 80 true,oO 84 (.pick (xT 80) (xT 83) (nB false))] [2,4,5,6,9,84] (cD 84 (.skip) (.exit 2))) (.keep [2,4,5,6,9] (.seq (.block 3 (sR [fO 87 25 6 2,lO 88 23 87,mO 89 9,oO 90 (iA 23 88 89),lO 91 25 90,oN 10 (.alloc 25) [7],oS (.store 25 (xT 10) (xT 91))] [2,4,5,6,9,10] (.reg [fO 92 30 4 4,⟨some 93,(lD 27 92),none,[],1,[],true⟩,lO 94 25 10,⟨some 95,(cL 76 #[(xT 94),(nI 0)] #[25,3]),none,[],3,[1],true⟩,oO 96 (.binOp .rem 60 (xT 95) (.const (.int .u64 4294967296)) 60),oO 97 (.convert 60 3 (xT 96)),⟨some 98,(lD 25 10),none,[],6,[3],false⟩,⟨some 99,(cL 77 #[(xT 98),(nI 0)] #[25,3]),none,[],7,[1],false⟩,⟨some 100,(cL 46 #[(xT 99)] #[25]),none,[],8,[1],false⟩,oO 101 (.build 66 #[(0,(xT 97)),(1,(xT 100))]),⟨some 102,(.buildSlice 27 1 #[(0,(xT 101))]),none,[],10,[1],false⟩,oN 103 (bC .append #[(xT 93),(xT 102)] #[27,27]) [8],fO 104 30 4 4,oS (.store 27 (xT 104) (xT 103))] [2,4,5,6,9]))) (.reg [mO 85 9,oO 86 (.binOp .add 3 (xT 85) (nI 1) 3),aO 9 86] [2,4,5,6,9])))
def l3_centoref27_Guess : CC := .seq (sR [mO 105 11,fO 106 25 5 2,lO 107 23 106,oO 108 (bL 107 23),oO 109 (bO .lss 3 105 108 3),mO 110 109,oG 111 (fA 30 4 0) 110 true,oG 112 (lD 3 111) 110 true,oG 113 (.binOp .eql 3 (xT 112) (nI 3) 3) 110 true,oO 114 (.pick (xT 110) (xT 113) (nB false))] [2,4,5,11,114] (cD 114 (.skip) (.exit 4))) (.keep [2,4,5,11] (.seq (.block 5 (sR [fO 117 25 5 2,lO 118 23 117,mO 119 11,oO 120 (iA 23 118 119),lO 121 25 120,oN 12 (.alloc 25) [9],oS (.store 25 (xT 12) (xT 121))] [2,4,5,11,12] (sR [⟨some 122,(lD 25 12),none,[],0,[],true⟩,⟨some 123,(cL 76 #[(xT 122),(nI 0)] #[25,3]),none,[],1,[],true⟩,oO 124 (.binOp .rem 60 (xT 123) (.const (.int .u64 256)) 60),oO 125 (.convert 60 3 (xT 124)),⟨some 126,(lD 25 12),none,[],4,[1],true⟩,⟨some 127,(cL 76 #[(xT 126),(nI 0)] #[25,3]),none,[],5,[],true⟩,oO 128 (.binOp .quo 60 (xT 127) (.const (.int .u64 256)) 60),oO 129 (.binOp .rem 60 (xT 128) (.const (.int .u64 1099511627776)) 60),oO 130 (.convert 60 3 (xT 129)),oO 131 (.build 69 #[(0,(xT 125)),(1,(xT 130))]),⟨some 13,(.alloc 69),none,[10],10,[0,1,4,5],false⟩,oS (.store 69 (xT 13) (xT 131))] [2,4,5,11,12,13] (.seq (sR [fO 132 69 13 0,lO 133 3 132,oO 134 (.binOp .eql 3 (xT 133) (nI 3) 3)] [2,4,5,11,12,13,134] (cD 134 (.reg [lO 135 25 12,oO 136 (cL 77 #[(xT 135),(nI 0)] #[25,3]),oO 137 (cL 46 #[(xT 136)] #[25]),fO 138 69 13 3,oS (.store 30 (xT 138) (xT 137))] [2,4,5,11,13]) (sR [fO 139 69 13 0,lO 140 3 139,oO 141 (.binOp .eql 3 (xT 140) (nI 1) 3),mO 142 141,oG 143 (fA 69 13 0) 142 false,oG 144 (lD 3 143) 142 false,oG 145 (.binOp .eql 3 (xT 144) (nI 2) 3) 142 false,oO 146 (.pick (xT 142) (nB true) (xT 145))] [2,4,5,11,12,13,146] (cD 146 (.reg [lO 147 25 12,oO 148 (cL 77 #[(xT 147),(nI 0)] #[25,3]),oO 149 (.field 25 (xT 148) 2),fO 150 69 13 2,oS (.store 23 (xT 150) (xT 149))] [2,4,5,11,13]) (.skip))))) (.keep [2,4,5,11,13] (.reg [fO 151 30 4 6,lO 152 28 151,lO 153 69 13,oO 154 (.buildSlice 28 1 #[(0,(xT 153))]),oN 155 (bC .append #[(xT 152),(xT 154)] #[28,28]) [11],fO 156 30 4 6,oS (.store 28 (xT 156) (xT 155))] [2,4,5,11])))))) (.keep [2,4,5,11] (.reg [mO 115 11,oO 116 (.binOp .add 3 (xT 115) (nI 1) 3),aO 11 116] [2,4,5,11]))))
def k1_centoref27_Guess : CC := .seq (sR [oO 7 (.assign (nI 0))] [2,4,5,6,7] (.block 0 (.loop l1_centoref27_Guess))) (.keep [2,4,5,6] (.seq (sR [oO 9 (.assign (nI 0))] [2,4,5,6,9] (.block 2 (.loop l2_centoref27_Guess))) (.keep [2,4,5] (.seq (sR [oO 11 (.assign (nI 0))] [2,4,5,11] (.block 4 (.loop l3_centoref27_Guess))) (.keep [2,4] (sR [lO 157 30 4,oS (.store 30 (xT 2) (xT 157))] [2] (.ret))))))) 
def c_centoref27_Guess : CC := sR [oN 1 (.box 25 (xT 0)) [0],oN 2 (.alloc 30) [1]] [1,2] (.seq (sR [fO 14 25 1 0,lO 15 3 14,oO 16 (.binOp .neq 3 (xT 15) (nI 1) 3)] [1,2,16] (cD 16 (sR [oO 17 (.build 30 #[]),oS (.store 30 (xT 2) (xT 17))] [2] (.ret)) (.skip))) (.keep [1,2] (sR [lO 18 25 1,oO 19 (cL 76 #[(xT 18),(nI 0)] #[25,3]),aO 3 19] [1,2,3] (sR [mO 20 3,oO 21 (.binOp .rem 60 (xT 20) (.const (.int .u64 256)) 60),oO 22 (.convert 60 3 (xT 21)),mO 23 3,oO 24 (.binOp .quo 60 (xT 23) (.const (.int .u64 256)) 60),oO 25 (.binOp .rem 60 (xT 24) (.const (.int .u64 256)) 60),oO 26 (.convert 60 3 (xT 25)),oO 27 (.build 30 #[(0,(xT 22)),(5,(xT 26))]),oN 4 (.alloc 30) [2],oS (.store 30 (xT 4) (xT 27))] [1,2,4] (sR [⟨some 28,(lD 25 1),none,[],0,[],true⟩,⟨some 29,(cL 77 #[(xT 28),(nI 0)] #[25,3]),none,[],1,[],true⟩,⟨some 30,(lD 25 1),none,[],2,[1],true⟩,⟨some 31,(cL 77 #[(xT 30),(nI 1)] #[25,3]),none,[],3,[],true⟩,⟨some 5,(.alloc 25),none,[3],4,[0,1,2,3],true⟩,⟨some 6,(.alloc 25),none,[4],5,[0,1,2,3,4],false⟩,oS (.store 25 (xT 5) (xT 29)),oS (.store 25 (xT 6) (xT 31))] [2,4,5,6] (.seq (sR [fO 32 30 4 0,lO 33 3 32,oO 34 (.binOp .eql 3 (xT 33) (nI 1) 3)] [2,4,5,6,34] (cD 34 (sR [lO 35 25 5,fO 36 30 4 1,oS (.store 25 (xT 36) (xT 35))] [2,4,5,6] (.reg [lO 37 25 6,fO 38 30 4 2,oS (.store 25 (xT 38) (xT 37))] [2,4,5,6])) (.skip))) (.keep [2,4,5,6] k1_centoref27_Guess)))))))
theorem t_centoref27_Guess : Txt Tryz.prog 46 158 [(.cell 2 30)] c_centoref27_Guess := txt_of (code := Tryz.f46.body.getD .ret) mixed (by kernel_rfl) Tryz.func46 (by kernel_rfl) Tryz.ntmps46 (by kernel_rfl) (ls := lsOf c_centoref27_Guess) (by kernel_rfl)
def c_centoref27_Read : CC := sR [oN 1 (.box 25 (xT 0)) [0],oN 2 (.alloc 30) [1],oO 3 (.assign (nB false))] [1,2] (sR [lO 5 25 1,oO 6 (cL 46 #[(xT 5)] #[25]),oN 4 (.alloc 30) [2],oS (.store 30 (xT 4) (xT 6))] [1,2,4] (.seq (sR [lO 7 30 4,oO 8 (cL 23 #[(xT 7),(nI 64)] #[30,3]),oO 9 (.unOp .not 4 (xT 8)),mO 10 9,oG 11 (lD 30 4) 10 false,⟨some 12,(cL 15 #[(xT 11)] #[30]),(some (10,false)),[],5,[],true⟩,⟨some 13,(lD 25 1),(some (10,false)),[],6,[5],false⟩,oG 14 (cL 43 #[(xT 12),(xT 13)] #[25,25]) 10 false,oG 15 (.unOp .not 4 (xT 14)) 10 false,oO 16 (.pick (xT 10) (nB true) (xT 15))] [2,4,16] (cD 16 (sR [oO 17 (.build 30 #[]),oS (.store 30 (xT 2) (xT 17)),oO 3 (.assign (nB false))] [2,3] (.ret)) (.skip))) (.keep [2,4] (sR [lO 18 30 4,oS (.store 30 (xT 2) (xT 18)),oO 3 (.assign (nB true))] [2,3] (.ret)))))
theorem t_centoref27_Read : Txt Tryz.prog 20 19 [(.cell 2 30),(.tmp 3)] c_centoref27_Read := txt_of (code := Tryz.f20.body.getD .ret) mixed (by kernel_rfl) Tryz.func20 (by kernel_rfl) Tryz.ntmps20 (by kernel_rfl) (ls := lsOf c_centoref27_Read) (by kernel_rfl)
def l1_centoref27_Decode : CC := .seq (sR [mO 41 9,mO 42 0,oO 43 (bL 42 22),oO 44 (bO .lss 3 41 43 3)] [0,2,4,7,9,44] (cD 44 (.skip) (.exit 0))) (.keep [0,2,4,7,9] (.seq (.block 1 (sR [mO 47 0,mO 48 9,oO 49 (iA 22 47 48),lO 50 60 49,mO 51 7,mO 52 9,oO 53 (iA 22 51 52),lO 54 60 53,oO 55 (bO .neq 60 50 54 60)] [0,2,4,7,9,55] (cD 55 (sR [oO 56 (.build 30 #[]),oS (.store 30 (xT 2) (xT 56)),oO 3 (.assign (nI 5))] [2,3] (.ret)) (.skip)))) (.keep [0,2,4,7,9] (.reg [mO 45 9,oO 46 (.binOp .add 3 (xT 45) (nI 1) 3),aO 9 46] [0,2,4,7,9])))) 
def c_centoref27_Decode : CC := sR [oN 2 (.alloc 30) [0],oO 3 (.assign (nI 0))] [0,2] (sR [mO 13 0,oO 14 (.buildSlice 56 1 #[(0,(xT 13))]),oO 15 (.build 58 #[(0,(nI 64)),(1,(nI 65536))]),oO 16 (cL 54 #[(xT 14),(xT 15)] #[56,58]),mO 12 16,xO 17 12 0,xO 18 12 1,xO 19 12 2,oN 4 (.alloc 25) [1],oS (.store 25 (xT 4) (xT 17)),aO 5 18,aO 6 19] [0,2,4,6] (.seq (sR [mO 20 6,oO 21 (.binOp .neq 3 (xT 20) (nI 0) 3)] [0,2,4,6,21] (cD 21 (sR [oO 22 (.build 30 #[]),mO 23 6,oS (.store 30 (xT 2) (xT 22)),aO 3 23] [2,3] (.ret)) (.skip))) (.keep [0,2,4] (sR [lO 24 25 4,oO 25 (cL 56 #[(xT 24)] #[25]),oS (.store 25 (xT 4) (xT 25))] [0,2,4] (sR [lO 27 25 4,oO 28 (cL 53 #[(xT 27),(nI 131072)] #[25,3]),mO 26 28,xO 29 26 0,xO 30 26 1,aO 7 29,aO 8 30] [0,2,4,7,8] (.seq (sR [mO 31 8,oO 32 (.unOp .not 4 (xT 31)),mO 33 32,oG 34 (mV 7) 33 false,oG 35 (bL 34 22) 33 false,oG 36 (mV 0) 33 false,oG 37 (bL 36 22) 33 false,oG 38 (bO .neq 3 35 37 3) 33 false,oO 39 (.pick (xT 33) (nB true) (xT 38))] [0,2,4,7,39] (cD 39 (sR [oO 40 (.build 30 #[]),oS (.store 30 (xT 2) (xT 40)),oO 3 (.assign (nI 5))] [2,3] (.ret)) (.skip))) (.keep [0,2,4,7] (.seq (sR [oO 9 (.assign (nI 0))] [0,2,4,7,9] (.block 0 (.loop l1_centoref27_Decode))) (.keep [2,4] (sR [lO 58 25 4,oO 59 (cL 20 #[(xT 58)] #[25]),mO 57 59,xO 60 57 0,xO 61 57 1,oN 10 (.alloc 30) [2],oS (.store 30 (xT 10) (xT 60)),aO 11 61] [2,10,11] (.seq (sR [mO 62 11,oO 63 (.unOp .not 4 (xT 62))] [2,10,63] (cD 63 (sR [oO 64 (.build 30 #[]),oS (.store 30 (xT 2) (xT 64)),oO 3 (.assign (nI 12))] [2,3] (.ret)) (.skip))) (.keep [2,10] (sR [lO 65 30 10,oS (.store 30 (xT 2) (xT 65)),oO 3 (.assign (nI 0))] [2,3] (.ret))))))))))))))
theorem t_centoref27_Decode : Txt Tryz.prog 28 66 [(.cell 2 30),(.tmp 3)] c_centoref27_Decode := txt_of (code := Tryz.f28.body.getD .ret) mixed (by kernel_rfl) Tryz.func28 (by kernel_rfl) Tryz.ntmps28 (by kernel_rfl) (ls := lsOf c_centoref27_Decode) (by kernel_rfl)
def c_centolaw27_awake : CC := sR [oO 0 (.assign (nB false))] [] (sR [oO 8 (.build 30 #[]),oO 9 (cL 10 #[(xT 8),(nI 1)] #[30,3]),mO 7 9,xO 10 7 0,xO 11 7 1,aO 1 10,aO 2 11] [1,2] (sR [oO 13 (.build 30 #[(0,(nI 2))]),oO 14 (cL 10 #[(xT 13),(nI 2)] #[30,3]),mO 12 14,xO 15 12 0,xO 16 12 1,aO 3 15,aO 4 16] [1,2,3,4] (sR [oO 18 (.buildSlice 22 2 #[(0,(.const (.int .u64 4294967296))),(1,(.const (.int .u64 2)))]),oO 19 (cL 27 #[(xT 18)] #[22]),mO 17 19,xO 20 17 0,xO 21 17 1,oN 5 (.alloc 30) [0],oS (.store 30 (xT 5) (xT 20)),aO 6 21] [1,2,3,4,5,6] (sR [mO 22 2,mO 23 22,oG 24 (mV 4) 23 true,oO 25 (.pick (xT 23) (xT 24) (nB false)),mO 26 25,oG 27 (mV 1) 26 true,oG 28 (.buildSlice 22 1 #[(0,(.const (.int .u64 0)))]) 26 true,oG 29 (cL 26 #[(xT 27),(xT 28)] #[22,22]) 26 true,oO 30 (.pick (xT 26) (xT 29) (nB false)),mO 31 30,oG 32 (mV 3) 31 true,oG 33 (.buildSlice 22 2 #[(0,(.const (.int .u64 4294967296))),(1,(.const (.int .u64 2)))]) 31 true,oG 34 (cL 26 #[(xT 32),(xT 33)] #[22,22]) 31 true,oO 35 (.pick (xT 31) (xT 34) (nB false)),mO 36 35,oG 37 (mV 6) 36 true,oG 38 (.binOp .eql 45 (xT 37) (nI 0) 45) 36 true,oO 39 (.pick (xT 36) (xT 38) (nB false)),mO 40 39,oG 41 (fA 30 5 0) 40 true,oG 42 (lD 3 41) 40 true,oG 43 (.binOp .eql 3 (xT 42) (nI 2) 3) 40 true,oO 44 (.pick (xT 40) (xT 43) (nB false)),aO 0 44] [0] (.ret)))))
theorem t_centolaw27_awake : Txt Tryz.prog 12 45 [(.tmp 0)] c_centolaw27_awake := txt_of (code := Tryz.f12.body.getD .ret) mixed (by kernel_rfl) Tryz.func12 (by kernel_rfl) Tryz.ntmps12 (by kernel_rfl) (ls := lsOf c_centolaw27_awake) (by kernel_rfl)
def k1_centolaw27_PatchDecodes : CC := sR [mO 15 0,oO 16 (cL 27 #[(xT 15)] #[22]),mO 14 16,xO 17 14 0,xO 18 14 1,oN 3 (.alloc 30) [0],oS (.store 30 (xT 3) (xT 17)),aO 4 18] [0,3,4] (sR [mO 20 0,oO 21 (cL 28 #[(xT 20)] #[22]),mO 19 21,xO 22 19 0,xO 23 19 1,oN 5 (.alloc 30) [1],oS (.store 30 (xT 5) (xT 22)),aO 6 23] [0,3,4,5,6] (.seq (sR [mO 24 4,mO 25 6,oO 26 (bO .neq 3 24 25 3),mO 27 26,oG 28 (lD 30 3) 27 false,oG 29 (lD 30 5) 27 false,oG 30 (cL 21 #[(xT 28),(xT 29)] #[30,30]) 27 false,oG 31 (.unOp .not 4 (xT 30)) 27 false,oO 32 (.pick (xT 27) (nB true) (xT 31))] [0,3,4,32] (cD 32 (sR [oO 2 (.assign (nB false))] [2] (.ret)) (.skip))) (.keep [0,3,4] (.seq (sR [mO 33 4,oO 34 (.binOp .neq 45 (xT 33) (nI 0) 45)] [0,3,34] (cD 34 (sR [oO 35 (cL 12 #[] #[]),aO 2 35] [2] (.ret)) (.skip))) (.keep [0,3] (sR [lO 37 30 3,oO 38 (cL 10 #[(xT 37),(nI 131072)] #[30,3]),mO 36 38,xO 39 36 0,xO 40 36 1,aO 7 39,aO 8 40] [0,7,8] (sR [mO 41 8,mO 42 41,oG 43 (mV 7) 42 true,oG 44 (mV 0) 42 true,oG 45 (cL 26 #[(xT 43),(xT 44)] #[22,22]) 42 true,oO 46 (.pick (xT 42) (xT 45) (nB false)),mO 47 46,oG 48 (cL 12 #[] #[]) 47 true,oO 49 (.pick (xT 47) (xT 48) (nB false)),aO 2 49] [2] (.ret)))))))) 
def c_centolaw27_PatchDecodes : CC := sR [oO 2 (.assign (nB false))] [0] (.seq (sR [mO 9 0,oO 10 (bL 9 22),oO 11 (.binOp .gtr 3 (xT 10) (nI 400) 3)] [0,11] (cD 11 (.reg [mO 12 0,oO 13 (.slice 22 (xT 12) none (some (nI 400)) none),aO 0 13] [0]) (.skip))) (.keep [0] k1_centolaw27_PatchDecodes))
theorem t_centolaw27_PatchDecodes : Txt Tryz.prog 7 50 [(.tmp 2)] c_centolaw27_PatchDecodes := txt_of (code := Tryz.f7.body.getD .ret) mixed (by kernel_rfl) Tryz.func7 (by kernel_rfl) Tryz.ntmps7 (by kernel_rfl) (ls := lsOf c_centolaw27_PatchDecodes) (by kernel_rfl)
end Go.Proofs.YthfiijdbnkaabaaGreat

namespace Go.Proofs.YthfiijdbnkaabaaGreat
set_option linter.unusedVariables false
set_option linter.unusedSimpArgs false
open Go Go.G Go.Proofs Go.PL
theorem pFits_spec {c n : Int} (h : u64R n) : G.Spec Tryz.prog 134 [iv c,uv n] (bv (fitsZ c n)) := by
  refine spec_of t_word_Fits (by simp) fun w0 I0 => ?_
  unfold c_word_Fits
  simp
  refine sc_call (width_spec c) rfl ?_
  have hw := widthZ_cases c
  unfold fitsZ
  rcases hw with h1 | h1 | h1 | h1 | h1 | h1 | h1
  all_goals
    rw [h1]
    simp
    refine frz_bool ?_
  all_goals try rfl
  all_goals
    obtain ⟨n0,n1⟩ := h
    have hb : IntKind.u64.bits = 64 := rfl
    simp [hb]
  all_goals omega
theorem tList_spec (k : Int) : G.Spec Tryz.prog 91 [iv k] (bv (decide (2≤k) && decide (k≤9))) := by
  refine spec_of t_tree_List (by simp) fun w0 I0 => ?_
  unfold c_tree_List
  simp
  exact frz_bare rfl
def pkid (list : Int) (t : T) : Bool := if isData list = true then decide (t.kind = 10) && t.kids.isEmpty && decide (t.words.length = 1) && fitsZ (list - 2) (t.words.headD 0) else if list = 9 then decide (t.kind = 1) else !decide (t.kind = 10)
theorem pkid_eq {list : Int} {t : T} {d : Nat} (h1 : list ≠ 1) : (pkid list t && rightT d t) = (rightT d t && kidOk list t) := by
  unfold pkid kidOk
  cases hd : isData list with
  | true =>
    simp only [if_true]
    by_cases h10 : t.kind = 10
    · have e : rightT d t = (decide (t.words.length = 1) && t.kids.isEmpty) := by
        obtain ⟨k,w,l⟩ := t
        simp at h10
        subst h10
        rw [rightT_mk]
        rfl
      have n9 : list ≠ 9 := fun e => by subst e; simp [isData] at hd
      rw [e]
      simp [h10,n9]
      cases decide (t.words.length = 1) <;> cases t.kids.isEmpty <;> simp
    · simp [h10]
  | false =>
    simp
    by_cases h9 : list = 9
    · subst h9
      simp
      cases h : rightT d t <;> simp
      by_cases h1 : t.kind = 1 <;> simp [h1]
    · simp [h9]
      cases h : rightT d t <;> simp
theorem pKid_spec (list : Int) (hl : i64R list) {t : T} (h : wfT t) : G.Spec Tryz.prog 129 [iv list,tX t] (bv (pkid list t)) := by
  have hw := wfT_iff.1 h
  refine spec_of t_tree_kid (by simp) fun w0 I0 => ?_
  unfold c_tree_kid
  simp
  refine sc_call (data_spec list) rfl ?_
  cases hd : isData list with
  | false =>
    simp
    by_cases h9 : list = 9
    · simp [h9]
      refine frz_bool ?_
      simp [pkid,isData]
    · simp [h9]
      refine frz_bool ?_
      simp [pkid,hd,h9]
  | true =>
    have hd' := hd
    simp [isData] at hd'
    by_cases hc : t.kind = 10∧t.kids = []∧t.words.length = 1
    · obtain ⟨c1,c2,c3⟩ := hc
      obtain ⟨x,hx⟩ : ∃ x,t.words = [x] := List.length_eq_one_iff.1 c3
      have hxr : u64R x := hw.w x (by rw [hx]; simp)
      have e2 : IntKind.i64.wrap (list - 2) = list - 2 := i64_same (by omega) (by omega)
      simp [c1,c2,hx,e2]
      refine sc_call_gt rfl (fun _ => pFits_spec hxr) (fun _ => rfl) rfl ?_
      simp
      refine frz_bool ?_
      simp [pkid,hd,c1,c2,hx]
    · have hp : pkid list t = false := by
        unfold pkid
        rw [if_pos hd]
        rw [Bool.eq_false_iff]
        intro e
        simp at e
        exact hc ⟨e.1.1.1,e.1.1.2,e.1.2⟩
      by_cases c1 : t.kind = 10
      · by_cases c2 : t.kids = []
        · have c3 : ¬ t.words.length = 1 := fun e => hc ⟨c1,c2,e⟩
          have c3' : ¬ (t.words.length : Int) = 1 := by omega
          simp [c1,c2,c3,c3']
          refine sc_call_off rfl ?_
          simp
          rw [hp]
          exact frz_bare rfl
        · have c2' : ¬ (t.kids.length : Int) = 0 := fun e => c2 (List.length_eq_zero_iff.1 (by omega))
          simp [c1,c2,c2']
          refine sc_call_off rfl ?_
          simp
          rw [hp]
          exact frz_bare rfl
      · simp [c1]
        refine sc_call_off rfl ?_
        simp
        rw [hp]
        exact frz_bare rfl
section
variable {n0 : Nat} {w0 : World} {I0 : Nat→Prop} {Q : Exit→Sta→Prop}
theorem pright_k1 {Q' : Exit→Sta→Prop} {c : T} {d : Nat} {b : Bool} {u : Nat} {p x y z : A} {H : Hp} (hd : 1≤d) (hd1 : d≤1000) (ihc : G.Spec Tryz.prog 93 [tX c,iv (d - 1 : Nat)] (bv (rightT (d - 1) c))) (hB : H [1] = ⟨u,.cells (tL c)⟩)
    (h1 : (b && rightT (d - 1) c) = true→Q' .normal ⟨lk [(1,iv d),(2,p),(71,x),(72,y),(73,z),(95,bv false)],H⟩) (h2 : (b && rightT (d - 1) c) = false→Q' .ret ⟨lk [(4,bv false)],H⟩) :
    WPC (cx Tryz.prog w0 I0 n0) k1_tree_right Q' ⟨lk [(1,iv d),(2,p),(6,.pob [1] u 0),(7,bv b),(71,x),(72,y),(73,z)],H⟩ := by
  rw [k1_tree_right.eq_1]
  have ed : IntKind.i64.wrap ((d : Int) - 1) = ((d - 1 : Nat) : Int) := by rw [i64_same (by omega) (by omega)]; omega
  cases b with
  | false =>
    simp
    refine sc_call_off rfl ?_
    simp
    exact h2 rfl
  | true =>
    simp [hB,ed]
    refine sc_call_gf rfl (fun _ => ihc) (fun _ => rfl) rfl ?_
    cases hr : rightT (d - 1) c with
    | false => simp; exact h2 (by simp [hr])
    | true => simp; exact h1 (by simp [hr])
theorem pright_l1 {t : T} (hk : i64R t.kind) (hl : t.kids.length * 56≤140737488355328) {d : Nat} (hd : 1≤d) (hd1 : d≤1000) (hw : ∀ c,c ∈ t.kids→wfT c) (ih : ∀ c,c ∈ t.kids→∀ d : Nat,d≤1000→G.Spec Tryz.prog 93 [tX c,iv d] (bv (rightT d c))) : ∀ (m i : Nat) (H : Hp),i + m = t.kids.length→H [0] = ⟨1,.cells (tL t)⟩ →
    (rightL (d - 1) t.kind (t.kids.drop i) = true→∀ i' q H',Q (.exit 1) ⟨lk [(1,iv d),(2,.pob [0] 1 0),(71,tKs t.kids),(72,iv t.kids.length),(73,iv i'),(74,bv q)],H'⟩)→(rightL (d - 1) t.kind (t.kids.drop i) = false→∀ H',Q .ret ⟨lk [(4,bv false)],H'⟩) →
    LoopC (cx Tryz.prog w0 I0 n0) l1_tree_right Q ⟨lk [(1,iv d),(2,.pob [0] 1 0),(71,tKs t.kids),(72,iv t.kids.length),(73,iv i)],H⟩ := by
  intro m
  induction m with
  | zero =>
    intro i H hi hA h1 h2
    have : i = t.kids.length := by omega
    subst this
    refine loopC_once mixed l1_tree_right.eq_1 ?_
    simp
    exact h1 (by simp) _ _ _
  | succ m ihm =>
    intro i H hi hA h1 h2
    have hlt : i < t.kids.length := by omega
    have e : t.kids.drop i = t.kids[i] :: t.kids.drop (i + 1) := List.drop_eq_getElem_cons hlt
    have ei : IntKind.i64.wrap ((i : Int) + 1) = ((i + 1 : Nat) : Int) := i64_same (by omega) (by omega)
    rw [e,rightL_cons] at h1 h2
    have hwc := hw _ (List.getElem_mem hlt)
    have ihc := ih _ (List.getElem_mem hlt) (d - 1) (by omega)
    generalize hc : t.kids[i] = c at *
    refine loopC_once mixed l1_tree_right.eq_1 ?_
    simp [hA,hlt,hc,updF_app]
    refine ⟨fun h10 => ?_,fun h10 => ?_⟩
    · have ek : kidOk t.kind c = !decide (c.kind = 10) := by
        unfold kidOk
        rw [h10]
        by_cases e : c.kind = 10 <;> simp [isData,e]
      try simp [hA,updF_app,h10]
      refine pright_k1 (c := c) hd hd1 ihc (by simp [updF_app]) (fun hr => ?_) (fun hr => ?_)
      · simp [ei]
        refine ihm (i + 1) _ (by omega) (by simp [updF_app,hA]) (fun hh => h1 ?_) (fun hh => h2 ?_)
        · rw [ek,hh]; simpa using And.comm.1 (by simpa using hr)
        · rw [hh]; simp
      · simp
        refine h2 ?_ _
        rw [ek]
        have : (rightT (d - 1) c && !decide (c.kind = 10)) = false := by rw [Bool.and_comm]; simpa using hr
        rw [this]; rfl
    · have ek := pkid_eq (t := c) (d := d - 1) h10
      simp [hA,updF_app,h10]
      refine sc_call (pKid_spec t.kind hk hwc) rfl ?_
      simp
      refine pright_k1 (c := c) hd hd1 ihc (by simp [updF_app]) (fun hr => ?_) (fun hr => ?_)
      · simp [ei]
        rw [ek] at hr
        refine ihm (i + 1) _ (by omega) (by simp [updF_app,hA]) (fun hh => h1 ?_) (fun hh => h2 ?_)
        · rw [hr,hh]; rfl
        · rw [hh]; simp
      · simp
        refine h2 ?_ _
        rw [ek] at hr
        rw [hr]; rfl
end
theorem pRight_spec : ∀ (t : T),wfT t→∀ d : Nat,d≤1000→G.Spec Tryz.prog 93 [tX t,iv d] (bv (rightT d t)) := by
  refine T.ind fun k w l ih hw d hd => ?_
  have hw' := wfT_iff.1 hw
  have hwl := hw'.wl
  have hkl := hw'.kl
  have hk := hw'.k
  simp at hwl hkl hk
  refine spec_of t_tree_right (by simp) fun w0 I0 => ?_
  unfold c_tree_right
  rw [rightT_mk]
  by_cases h0 : k = 0
  · simp [h0]
    exact frz_bool (by cases w <;> cases l <;> simp <;> (rw [← List.length_eq_zero_iff]; omega))
  by_cases h10 : k = 10
  · simp [h10]
    exact frz_bool (by cases w <;> cases l <;> simp <;> (rw [← List.length_eq_zero_iff]; omega))
  rw [if_neg h0,if_neg h10]
  obtain ⟨R,hR⟩ : ∃ R,R = (if tooBig k d w.length l.length = true then false else rightL (d - 1) k l) := ⟨_,rfl⟩
  rw [← hR]
  have bad : tooBig k d w.length l.length = true→R = false := fun h => by rw [hR,if_pos h]
  by_cases hd0 : d = 0
  · subst hd0
    simp [h0,h10]
    exact frz_bool (bad (by simp [tooBig])).symm
  have fin : tooBig k d w.length l.length = false→WPC (cx Tryz.prog w0 I0 97) k2_tree_right (RetC Tryz.prog [.tmp 4] (bv R)) ⟨lk [(1,iv d),(2,.pob [0] 1 0)],lkH [([0],⟨1,.cells [iv k,uws w,tKs l]⟩)]⟩ := fun hb => by
    rw [if_neg (by rw [hb]; simp)] at hR
    subst hR
    rw [k2_tree_right.eq_1]
    simp
    refine pright_l1 (t := .mk k w l) (by simpa using hk) (by simpa using hkl) (by omega) hd (fun c hc => hw'.ks c hc) (fun c hc => ih c hc (hw'.ks c hc)) l.length 0 _ (by simp) (by simp) (fun hr i' q H' => ?_) (fun hr H' => ?_)
    · simp
      exact frz_bool (by simpa using hr.symm)
    · simp
      exact frz_bool (by simpa using hr.symm)
  by_cases h1 : k = 1
  · subst h1
    by_cases hb : 65536≤w.length∨65536≤l.length
    · have hb' : (decide (65536≤(w.length : Int)) || decide (65536≤(l.length : Int))) = true := by simp; omega
      simp [hd0,hb']
      exact frz_bool (bad (by simp [tooBig]; omega)).symm
    · have hb' : (decide (65536≤(w.length : Int)) || decide (65536≤(l.length : Int))) = false := by simp; omega
      simp [hd0,hb']
      exact fin (by simp [tooBig]; omega)
  · simp [h0,h10,h1,hd0]
    refine sc_call (tList_spec k) rfl ?_
    simp
    refine ⟨fun hc => ?_,fun a b c e => ?_⟩
    · exact frz_bool (bad (by simp [tooBig]; omega)).symm
    · refine fin ?_
      rw [Bool.eq_false_iff]
      unfold tooBig
      simp only [Bool.or_eq_true,Bool.and_eq_true,decide_eq_true_eq,ne_eq]
      have hl0 : w.length = 0 := by first | omega | simp [c]
      omega
theorem ptRight_spec {t : T} (h : wfT t) : G.Spec Tryz.prog 58 [tX t] (bv (rightT 64 t)) := by
  refine spec_of t_tree_Right (by simp) fun w0 I0 => ?_
  unfold c_tree_Right
  simp
  refine sc_call (pRight_spec t h 64 (by omega)) (by simp) ?_
  simp
  exact frz_bare rfl
end Go.Proofs.YthfiijdbnkaabaaGreat

namespace Go.G
set_option linter.unusedVariables false
set_option linter.unusedSimpArgs false
open Go.RowKit
theorem Sim.move {c : Cx} {w : World} {I : Nat→Prop} {μ : Mu} {H : Hp} (hs : Sim c w I μ H) {d d' : Nm} (hne : d ≠ d') (h0 : (H d').u = 0) (h1 : 1≤(H d).u) (hM : ∀ b,¬ c.M0 d b) :
    Ext I μ w I (updF μ d' (μ d)) w∧Sim c w I (updF μ d' (μ d)) (updF (updF H d' (H d)) d ⟨(H d).u,.none⟩) := by
  have hu0 : (μ d').u = 0 := by rw [hs.ver,h0]
  have hu1 : 1≤(μ d).u := by rw [hs.ver]; exact h1
  have hm : MuLe μ (updF μ d' (μ d)) := fun o => by
    by_cases e : o = d'
    · subst e
      rw [updF_self]
      exact ⟨by omega,fun e => by omega⟩
    · rw [updF_ne e]
      exact ⟨Nat.le_refl _,fun _ => rfl⟩
  have hx : Ext I μ w I (updF μ d' (μ d)) w := ⟨fun b h => h,fun b h => rfl,hm⟩
  have hd : (updF (updF H d' (H d)) d ⟨(H d).u,.none⟩ : Hp) d = ⟨(H d).u,.none⟩ := updF_self
  have hd' : (updF (updF H d' (H d)) d ⟨(H d).u,.none⟩ : Hp) d' = H d := by rw [updF_ne (Ne.symm hne),updF_self]
  have hoth : ∀ o,o ≠ d→o ≠ d'→(updF (updF H d' (H d)) d ⟨(H d).u,.none⟩ : Hp) o = H o := fun o e1 e2 => by rw [updF_ne e1,updF_ne e2]
  -- who has a block has it in the old state,under an old name
  have old : ∀ o,hasB (updF μ d' (μ d) o) ((updF (updF H d' (H d)) d ⟨(H d).u,.none⟩ : Hp) o).ob = true→∃ p,hasB (μ p) (H p).ob = true∧(updF μ d' (μ d) o) = μ p∧(o = d'∧p = d∨o ≠ d'∧o ≠ d∧p = o) := fun o h => by
    by_cases e1 : o = d
    · subst e1
      rw [hd] at h
      cases h
    · by_cases e2 : o = d'
      · subst e2
        rw [hd',updF_self] at h
        exact ⟨d,h,updF_self,.inl ⟨rfl,rfl⟩⟩
      · rw [hoth o e1 e2,updF_ne e2] at h
        exact ⟨o,h,updF_ne e2,.inr ⟨e2,e1,rfl⟩⟩
  refine ⟨hx,hs.kept,hs.lt,hs.old,hs.new,fun o => ?_,fun o => ?_,fun o o' k k' hoo => ?_,fun o k => ?_,hs.mle.trans hm⟩
  · by_cases e1 : o = d
    · subst e1
      rw [hd,updF_ne hne]
      exact hs.ver o
    · by_cases e2 : o = d'
      · subst e2
        rw [hd',updF_self]
        exact hs.ver d
      · rw [hoth o e1 e2,updF_ne e2]
        exact hs.ver o
  · by_cases e1 : o = d
    · subst e1
      rw [hd]
      trivial
    · by_cases e2 : o = d'
      · subst e2
        rw [hd',updF_self]
        exact OSim.keep hx (fun _ => rfl) (hs.ob d)
      · rw [hoth o e1 e2,updF_ne e2]
        exact OSim.keep hx (fun _ => rfl) (hs.ob o)
  · obtain ⟨p,k1,k2,k3⟩ := old o k
    obtain ⟨p',g1,g2,g3⟩ := old o' k'
    rw [k2,g2]
    refine hs.apart p p' k1 g1 fun e => hoo ?_
    rcases k3 with ⟨a1,a2⟩ | ⟨a1,a2,a3⟩ <;> rcases g3 with ⟨b1,b2⟩ | ⟨b1,b2,b3⟩
    · rw [a1,b1]
    · exact absurd (by rw [← b3,← e,a2]) b2
    · exact absurd (by rw [← a3,e,b2]) a2
    · rw [← a3,← b3,e]
  · obtain ⟨p,k1,k2,k3⟩ := old o k
    rw [k2]
    obtain ⟨q1,q2,q3⟩ := hs.own p k1
    refine ⟨q1,?_,q3⟩
    rcases k3 with ⟨a1,a2⟩ | ⟨a1,a2,a3⟩
    · subst a2
      rcases q2 with h | h
      · exact (hM _ h).elim
      · exact .inr h
    · subst a3
      exact q2
theorem specF_of' {P : Program} {f : FuncId} {n : Nat} {rs : List ResultVar} {cc : CC} {as' : Nat→List A} {F F' : Fam} {x : Nat→A} (t : Txt P f n rs cc) (ha : (as' 0).length≤n) (h0 : FamL as') (h1 : FamA x)
    (h : ∀ w0 I0 M0 m0,(∀ r p b,1≤r→¬ M0 (r :: p) b)→WPC (cxh P w0 I0 M0 n m0) cc (RetH (cxh P w0 I0 M0 n m0) rs 1 (x 0) (ov 0 (F'.F 0) (lkH []))) ⟨argS (as' 0),ov 0 (F.F 0) (lkH [])⟩) : SpecF P f as' F x F' :=
  ⟨h0,h1,specH_of' t ha fun w0 I0 M0 m0 hM => h w0 I0 M0 m0 fun r p b hr => hM (r :: p) b (by
    simp only [ov_cons]
    rw [if_neg (by omega)]
    rfl)⟩
end Go.G

namespace Go.Proofs.YthfiijdbnkaabaaGreat
set_option linter.unusedVariables false
set_option linter.unusedSimpArgs false
open Go Go.G Go.Proofs Go.PL
abbrev z0 : List A := [iv 0,.sl true [],.sl true []]
theorem famA_pa (l : List (List Int)) (r : Rf) : FamA (fun _ => paX l r) := famL_ref l r
end Go.Proofs.YthfiijdbnkaabaaGreat

namespace Go.Proofs.YthfiijdbnkaabaaGreat
set_option linter.unusedVariables false
set_option linter.unusedSimpArgs false
open Go Go.G Go.Proofs Go.PL
structure ShT (t : T) : Prop where
  z : t.kind = 0→t.words = []∧t.kids = []
  a : t.kind = 10→t.words.length = 1∧t.kids = []
  o : t.kind ≠ 0→t.kind ≠ 1→t.kind ≠ 10→t.words = []
theorem shp_right {d : Nat} {t : T} (h : rightT d t = true) : ShT t := by
  obtain ⟨k,w,ks⟩ := t
  rw [rightT_mk] at h
  by_cases h0 : k = 0
  · subst h0
    simp at h
    exact ⟨fun _ => h,fun h => by simp at h,fun h => absurd rfl h⟩
  rw [if_neg h0] at h
  by_cases h1 : k = 10
  · subst h1
    simp at h
    exact ⟨fun h => by simp at h,fun _ => h,fun _ _ h => absurd rfl h⟩
  rw [if_neg h1] at h
  refine ⟨fun h => absurd h h0,fun h => absurd h h1,fun _ h2 _ => ?_⟩
  have htb : tooBig k d w.length ks.length = false := by
    cases e : tooBig k d w.length ks.length with
    | false => rfl
    | true => rw [e] at h; simp at h
  simp [tooBig] at htb
  have h3 : ¬ k = 1 := h2
  by_cases h4 : 1 < k
  · have := htb.2
    simp only [T.words_mk]
    first | exact this h4 | exact List.eq_nil_of_length_eq_zero (this h4) | exact List.eq_nil_of_length_eq_zero (by omega)
  · exfalso; omega
theorem kids_same {a b : List T} (hl : a.length = b.length) : a.map norm = b.map norm ↔ ∀ i,norm (a.getD i T0) = norm (b.getD i T0) := by
  constructor
  · intro h i; rw [← getD_norm,h,getD_norm]
  · intro h
    apply List.ext_getElem (by simpa using hl)
    intro i h1 h2
    have := h i
    simp at h1 h2
    simpa [List.getD_eq_getElem?_getD,h1,h2] using this
theorem words_same {a b : List Int} (hl : a.length = b.length) : a = b ↔ ∀ i,a.getD i 0 = b.getD i 0 := by
  constructor
  · intro h i; rw [h]
  · intro h
    apply List.ext_getElem hl
    intro i h1 h2
    have := h i
    simpa [List.getD_eq_getElem?_getD,h1,h2] using this
theorem eqT_shp {t u : T} (ht : ShT t) (hu : ShT u) : eqT t u = true ↔ t.kind = u.kind∧(t.kind = 1∨t.kids.length = u.kids.length)∧(∀ i,t.words.getD i 0 = u.words.getD i 0)∧∀ i,norm (t.kids.getD i T0) = norm (u.kids.getD i T0) := by
  rw [eqT_iff]
  obtain ⟨k,w,a⟩ := t
  obtain ⟨k',w',b⟩ := u
  by_cases hk : k = k'
  rotate_left
  · constructor
    · intro h
      have := congrArg T.kind h
      simp at this
      exact absurd this hk
    · intro h; exact absurd h.1 hk
  subst hk
  by_cases h0 : k = 0
  · subst h0
    obtain ⟨e1,e2⟩ := ht.z rfl
    obtain ⟨e3,e4⟩ := hu.z rfl
    simp at e1 e2 e3 e4
    subst e1 e2 e3 e4
    simp
  by_cases h1 : k = 1
  · subst h1
    rw [struct_eq]
    simp
  rw [other_eq h0 h1]
  have hwl : w.length = w'.length := by
    by_cases h10 : k = 10
    · subst h10
      have := (ht.a rfl).1
      have := (hu.a rfl).1
      simp at *
      omega
    · have e1 := ht.o h0 h1 h10
      have e2 := hu.o h0 h1 h10
      simp at e1 e2
      rw [e1,e2]
  rw [words_same hwl]
  constructor
  · rintro ⟨g1,g2⟩
    have hl : a.length = b.length := by have := congrArg List.length g2; simpa using this
    exact ⟨rfl,.inr hl,g1,(kids_same hl).1 g2⟩
  · rintro ⟨_,g0,g1,g2⟩
    rcases g0 with g0 | g0
    · exact absurd g0 h1
    · exact ⟨g1,(kids_same g0).2 g2⟩
section
variable {n0 : Nat} {w0 : World} {I0 : Nat→Prop} {Q : Exit→Sta→Prop}
end
end Go.Proofs.YthfiijdbnkaabaaGreat

namespace Go.Proofs.YthfiijdbnkaabaaGreat
set_option linter.unusedVariables false
set_option linter.unusedSimpArgs false
open Go Go.G Go.Proofs Go.PL
section
variable {n0 : Nat} {w0 : World} {I0 : Nat→Prop} {Q : Exit→Sta→Prop}
theorem seq_l1 {a b : List Int} (hl : a.length = b.length) (hb : a.length * 8≤140737488355328) {H : Hp} : ∀ (m i : Nat),i + m = a.length→a.take i = b.take i→(a = b→∀ q,Q (.exit 0) ⟨lk [(0,uws a),(1,uws b),(12,iv a.length),(13,iv a.length),(14,bv q)],H⟩)→(a ≠ b→Q .ret ⟨lk [(4,bv false)],H⟩) →
    LoopC (cx Tryz.prog w0 I0 n0) l1_slices_Equal_uint64_uint64 Q ⟨lk [(0,uws a),(1,uws b),(12,iv a.length),(13,iv i)],H⟩ := by
  intro m
  induction m with
  | zero =>
    intro i hi ht h1 h2
    have : i = a.length := by omega
    subst this
    rw [List.take_of_length_le (Nat.le_refl _),List.take_of_length_le (by omega)] at ht
    refine loopC_once mixed l1_slices_Equal_uint64_uint64.eq_1 ?_
    simp
    exact h1 ht _
  | succ m ih =>
    intro i hi ht h1 h2
    have hlt : i < a.length := by omega
    have hlt' : i < b.length := by omega
    have ei : IntKind.i64.wrap ((i : Int) + 1) = ((i + 1 : Nat) : Int) := i64_same (by omega) (by omega)
    refine loopC_once mixed l1_slices_Equal_uint64_uint64.eq_1 ?_
    by_cases e : a[i] = b[i]
    · simp [hlt,hlt',e,ei]
      refine ih (i + 1) (by omega) ?_ h1 h2
      rw [List.take_succ_eq_append_getElem hlt,List.take_succ_eq_append_getElem hlt',ht,e]
    · simp [hlt,hlt',e]
      exact h2 fun q => e (by simp [q])
end
theorem sEqual_spec (a b : List Int) (hb : a.length * 8≤140737488355328) : G.Spec Tryz.prog 74 [uws a,uws b] (bv (decide (a = b))) := by
  refine spec_of t_slices_Equal_uint64_uint64 (by simp) fun w0 I0 => ?_
  unfold c_slices_Equal_uint64_uint64
  by_cases hl : a.length = b.length
  · simp [hl]
    have := seq_l1 (n0 := 26) (w0 := w0) (I0 := I0) (a := a) (b := b) (H := lkH []) (Q := InBlock 0 (ThenC (WPC (cx Tryz.prog w0 I0 26) (.keep [] (.seq (.reg [co (some 4) (.assign (.const (.bool true))) none] [4]) .ret)) (RetC Tryz.prog [.tmp 4] (bv (decide (a = b))))) (RetC Tryz.prog [.tmp 4] (bv (decide (a = b)))))) hl hb a.length 0 (by simp) rfl (fun e q => ?_) (fun e => ?_)
    · rw [hl] at this
      simpa using this
    · simp
      exact frz_bool (by simp [e])
    · simp
      exact frz_bool (by simp [e])
  · have hl' : ¬ (a.length : Int) = b.length := by omega
    simp [hl,hl']
    exact frz_bool (by simp; intro e; exact absurd (by rw [e]) hl)
theorem right_getD {u : T} (hr : ∃ d,rightT d u = true) (hw : wfT u) (i : Nat) : (∃ d,rightT d (u.kids.getD i T0) = true)∧wfT (u.kids.getD i T0) := by
  obtain ⟨d,hd⟩ := hr
  obtain ⟨k,w,ks⟩ := u
  by_cases hi' : i < ks.length
  · have e : (T.mk k w ks).kids.getD i T0 = ks[i] := by simp [List.getD_eq_getElem?_getD,hi']
    rw [e]
    exact ⟨⟨_,(rightT_struct hd _ (List.getElem_mem hi')).1⟩,(wfT_iff.1 hw).ks _ (List.getElem_mem hi')⟩
  · have e : (T.mk k w ks).kids.getD i T0 = T0 := by rw [List.getD_eq_getElem?_getD,List.getElem?_eq_none (by simpa using hi')]; rfl
    rw [e]
    exact ⟨⟨0,by rw [rightT_mk]; rfl⟩,wfT_iff.2 ⟨by simp [i64R],by simp,by simp,by simp,by simp⟩⟩
def EqS (t : T) : Prop := ∀ u : T,wfT t→(∃ d,rightT d t = true)→wfT u→(∃ d,rightT d u = true)→G.Spec Tryz.prog 41 [tX t,tX u] (bv (eqT t u))
theorem eqS_kind {t u : T} (h : t.kind ≠ u.kind∨t.kind = 0) : eqT t u = decide (t.kind = u.kind) := by
  rw [Bool.eq_iff_iff,eqT_iff,decide_eq_true_eq]
  constructor
  · intro e; rw [← norm_kind t,e,norm_kind]
  · intro e
    rcases h with h | h
    · exact absurd e h
    · rw [norm_kind0 h,norm_kind0 (by omega)]
theorem pEqual_null {t u : T} (h : t.kind ≠ u.kind∨t.kind = 0) : G.Spec Tryz.prog 41 [tX t,tX u] (bv (eqT t u)) := by
  refine spec_of t_tree_Equal (by simp) fun w0 I0 => ?_
  unfold c_tree_Equal
  rw [eqS_kind h]
  by_cases e : t.kind = u.kind
  · have h0 : u.kind = 0 := by omega
    simp [e,h0]
    exact frz_bare rfl
  · simp [e]
    exact frz_bool (by simp [e])
section
variable {n0 : Nat} {w0 : World} {I0 : Nat→Prop} {Q : Exit→Sta→Prop}
theorem pequal_l1 {t u : T} {n : Nat} (hN : n≤100000000000000) {H : Hp} (h0 : H [0] = ⟨1,.cells (tL t)⟩) (h1 : H [1] = ⟨1,.cells (tL u)⟩)
    (hq : (∀ i,i < n→t.words.getD i 0 = u.words.getD i 0)→∀ (q : Bool),Q (.exit 0) ⟨lk [(2,.pob [0] 1 0),(3,.pob [1] 1 0),(48,iv n),(49,iv n),(50,bv q)],H⟩)
    (hf : (∃ i,t.words.getD i 0 ≠ u.words.getD i 0)→Q .ret ⟨lk [(4,bv false)],H⟩) :
    ∀ (j i : Nat),i + j = n→(∀ i',i' < i→t.words.getD i' 0 = u.words.getD i' 0) →
    LoopC (cx Tryz.prog w0 I0 n0) l1_tree_Equal Q ⟨lk [(2,.pob [0] 1 0),(3,.pob [1] 1 0),(48,iv n),(49,iv i)],H⟩ := by
  intro j
  induction j with
  | zero =>
    intro i hi he
    have : i = n := by omega
    subst this
    refine loopC_once mixed l1_tree_Equal.eq_1 ?_
    simp
    exact hq he _
  | succ j ih =>
    intro i hi he
    have hlt : i < n := by omega
    have ei : IntKind.i64.wrap ((i : Int) + 1) = ((i + 1 : Nat) : Int) := i64_same (by omega) (by omega)
    refine loopC_once mixed l1_tree_Equal.eq_1 ?_
    simp [hlt,h0,h1]
    refine sc_call (treeWord_spec t i) (by simp) ?_
    simp [h0,h1]
    refine sc_call (treeWord_spec u i) (by simp) ?_
    by_cases hw : t.words.getD i 0 = u.words.getD i 0
    · have hw' := hw
      simp only [List.getD_eq_getElem?_getD] at hw'
      simp [hw',ei]
      refine ih (i + 1) (by omega) (fun i' hi' => ?_)
      by_cases e : i' = i
      · rw [e]; exact hw
      · exact he i' (by omega)
    · have hw' := hw
      simp only [List.getD_eq_getElem?_getD] at hw'
      simp [hw']
      exact hf ⟨i,hw⟩
theorem pequal_l2 {t u : T} {n : Nat} (hn : n≤100000000000000) (hw : wfT t) (hr : ∃ d,rightT d t = true) (hwu : wfT u) (hru : ∃ d,rightT d u = true) (hk : ∀ i,i < n→EqS (t.kids.getD i T0)) {H : Hp} (h0 : H [0] = ⟨1,.cells (tL t)⟩) (h1 : H [1] = ⟨1,.cells (tL u)⟩)
    (hq : (∀ i,i < n→norm (t.kids.getD i T0) = norm (u.kids.getD i T0))→∀ (q : Bool),Q (.exit 2) ⟨lk [(2,.pob [0] 1 0),(3,.pob [1] 1 0),(66,iv n),(67,iv n),(68,bv q)],H⟩)
    (hf : (∃ i,norm (t.kids.getD i T0) ≠ norm (u.kids.getD i T0))→Q .ret ⟨lk [(4,bv false)],H⟩) :
    ∀ (j i : Nat),i + j = n→(∀ i',i' < i→norm (t.kids.getD i' T0) = norm (u.kids.getD i' T0)) →
    LoopC (cx Tryz.prog w0 I0 n0) l2_tree_Equal Q ⟨lk [(2,.pob [0] 1 0),(3,.pob [1] 1 0),(66,iv n),(67,iv i)],H⟩ := by
  intro j
  induction j with
  | zero =>
    intro i hi he
    have : i = n := by omega
    subst this
    refine loopC_once mixed l2_tree_Equal.eq_1 ?_
    simp
    exact hq he _
  | succ j ih =>
    intro i hi he
    have hlt : i < n := by omega
    have ei : IntKind.i64.wrap ((i : Int) + 1) = ((i + 1 : Nat) : Int) := i64_same (by omega) (by omega)
    have g1 := right_getD hr hw i
    have g2 := right_getD hru hwu i
    have hrec := hk i hlt (u.kids.getD i T0) g1.2 g1.1 g2.2 g2.1
    refine loopC_once mixed l2_tree_Equal.eq_1 ?_
    simp [hlt,h0,h1]
    refine sc_call (treeKid_spec t i) (by simp) ?_
    simp [h0,h1]
    refine sc_call (treeKid_spec u i) (by simp) ?_
    simp [h0,h1]
    refine sc_call hrec (by simp) ?_
    cases hb : eqT (t.kids.getD i T0) (u.kids.getD i T0) with
    | true =>
      simp [ei]
      refine ih (i + 1) (by omega) (fun i' hi' => ?_)
      by_cases e : i' = i
      · rw [e]; exact eqT_iff.1 hb
      · exact he i' (by omega)
    | false =>
      simp
      exact hf ⟨i,fun e => by rw [eqT_iff.2 e] at hb; cases hb⟩
end
theorem getD_none {α : Type} {l : List α} {i : Nat} {z : α} (h : l.length≤i) : l.getD i z = z := by rw [List.getD_eq_getElem?_getD,List.getElem?_eq_none h]; rfl
set_option maxRecDepth 8000 in
theorem pEqual_all : ∀ t : T,EqS t := by
  refine T.ind fun k w ks ih u hw hr hwu hru => ?_
  have hw' := wfT_iff.1 hw
  have hu' := wfT_iff.1 hwu
  have hwl := hw'.wl
  have hkl := hw'.kl
  have hul := hu'.wl
  have huk := hu'.kl
  simp only [T.words_mk,T.kids_mk] at hwl hkl
  have hk0 : ∀ i,EqS ((T.mk k w ks).kids.getD i T0) := fun i => by
    by_cases hi : i < ks.length
    · have e : (T.mk k w ks).kids.getD i T0 = ks[i] := by simp [List.getD_eq_getElem?_getD,hi]
      rw [e]; exact ih _ (List.getElem_mem hi)
    · have e : (T.mk k w ks).kids.getD i T0 = T0 := getD_none (by simpa using hi)
      rw [e]
      intro u _ _ _ _
      exact pEqual_null (.inr rfl)
  by_cases hkk : k ≠ u.kind∨k = 0
  · exact pEqual_null hkk
  have h1 : k = u.kind := by omega
  have h0 : ¬ u.kind = 0 := by omega
  have hb := eqT_shp (t := .mk k w ks) (u := u) (by obtain ⟨d,hd⟩ := hr; exact shp_right hd) (by obtain ⟨d,hd⟩ := hru; exact shp_right hd)
  simp only [T.kind_mk,T.words_mk,T.kids_mk] at hb hk0
  have yes : (k = 1∨ks.length = u.kids.length)→(∀ i,w.getD i 0 = u.words.getD i 0)→(∀ i,norm (ks.getD i T0) = norm (u.kids.getD i T0))→eqT (.mk k w ks) u = true := fun a b c => hb.2 ⟨h1,a,b,c⟩
  have no : ¬ ((k = 1∨ks.length = u.kids.length)∧(∀ i,w.getD i 0 = u.words.getD i 0)∧(∀ i,norm (ks.getD i T0) = norm (u.kids.getD i T0)))→eqT (.mk k w ks) u = false := fun h => by
    rw [Bool.eq_false_iff]
    intro e
    exact h (hb.1 e).2
  obtain ⟨N,hN⟩ : ∃ N : Nat,N = max w.length u.words.length := ⟨_,rfl⟩
  obtain ⟨M,hM⟩ : ∃ M : Nat,M = max ks.length u.kids.length := ⟨_,rfl⟩
  have eN : max (w.length : Int) (u.words.length : Int) = (N : Int) := by omega
  have eM : max (ks.length : Int) (u.kids.length : Int) = (M : Int) := by omega
  refine spec_of t_tree_Equal (by simp) fun w0 I0 => ?_
  have main : (k = 1∨ks.length = u.kids.length)→WPC (cx Tryz.prog w0 I0 79) k1_tree_Equal (RetC Tryz.prog [.tmp 4] (bv (eqT (.mk k w ks) u))) ⟨lk [(2,.pob [0] 1 0),(3,.pob [1] 1 0)],lkH [([0],⟨1,.cells [iv k,uws w,tKs ks]⟩),([1],⟨1,.cells [iv u.kind,uws u.words,tKs u.kids]⟩)]⟩ := fun hc => by
    rw [k1_tree_Equal.eq_1]
    simp [eN]
    refine pequal_l1 (t := .mk k w ks) (u := u) (by omega) (by simp) (by simp) (fun he q => ?_) (fun hf => ?_) N 0 (by omega) (fun i hi => by omega)
    · have heq : ∀ i,w.getD i 0 = u.words.getD i 0 := fun i => by
        by_cases hi : i < N
        · exact he i hi
        · rw [getD_none (by omega),getD_none (by omega)]
      simp [eM]
      refine pequal_l2 (t := .mk k w ks) (u := u) (by omega) hw hr hwu hru (fun i _ => hk0 i) (by simp) (by simp) (fun he2 q => ?_) (fun hf => ?_) M 0 (by omega) (fun i hi => by omega)
      · simp
        refine frz_bool (yes hc heq fun i => ?_).symm
        by_cases hi : i < M
        · exact he2 i hi
        · rw [getD_none (by omega),getD_none (by omega)]
      · simp
        refine frz_bool (no fun h => ?_).symm
        obtain ⟨i,hi⟩ := hf
        exact hi (h.2.2 i)
    · simp
      refine frz_bool (no fun h => ?_).symm
      obtain ⟨i,hi⟩ := hf
      exact hi (h.2.1 i)
  unfold c_tree_Equal
  by_cases k1 : k = 1
  · have u1 : u.kind = 1 := by omega
    have hm := main (.inl k1)
    rw [u1] at hm
    subst k1
    simp [u1]
    refine sc_call_off rfl ?_
    simp
    exact stop_go hm
  · have u1 : ¬ u.kind = 1 := by omega
    by_cases hl : ks.length = u.kids.length
    · have hl' : (ks.length : Int) = u.kids.length := by omega
      simp [h1,h0,u1,hl']
      refine sc_call_gf rfl (fun _ => sEqual_spec w u.words (by omega)) (fun _ => rfl) rfl ?_
      by_cases hww : w = u.words
      · simp [hww]
        have := main (.inr hl)
        rw [h1,hww] at this
        exact stop_go this
      · simp [hww]
        refine frz_bool ?_
        rw [← h1]
        refine (no fun h => hww ?_).symm
        have hlen : w.length = u.words.length := by
          have a1 := (shp_right (Classical.choose_spec hr))
          have a2 := (shp_right (Classical.choose_spec hru))
          by_cases k10 : k = 10
          · have c1 : w.length = 1 := (a1.a k10).1
            rw [c1,(a2.a (by omega)).1]
          · have c1 : w = [] := a1.o (show k ≠ 0 by omega) k1 k10
            rw [c1,a2.o h0 u1 (by omega)]
        exact (words_same hlen).2 h.2.1
    · have hl' : ¬ (ks.length : Int) = u.kids.length := by omega
      simp [h1,h0,u1,hl,hl']
      refine sc_call_off rfl ?_
      simp
      refine frz_bool ?_
      rw [← h1]
      exact (no fun h => by
        rcases h.1 with h | h
        · exact k1 h
        · exact hl h).symm
theorem ptEqual_spec {t u : T} (hw : wfT t) (hr : ∃ d,rightT d t = true) (hwu : wfT u) (hru : ∃ d,rightT d u = true) : G.Spec Tryz.prog 41 [tX t,tX u] (bv (eqT t u)) := pEqual_all t u hw hr hwu hru
end Go.Proofs.YthfiijdbnkaabaaGreat

namespace Go.Proofs.YthfiijdbnkaabaaGreat
set_option linter.unusedVariables false
set_option linter.unusedSimpArgs false
open Go Go.G Go.Proofs Go.PL
section
variable {n0 : Nat} {w0 : World} {I0 : Nat→Prop} {Q : Exit→Sta→Prop}
theorem tframe_l1 {l : List T} (hl : l.length * 56≤140737488355328) : ∀ (m i a b : Nat) (H : Hp),i + m = l.length →
    (∀ i' q (x y : Nat) H',x = max a (frameW (l.drop i))→y = max b (frameK (l.drop i))→Q (.exit 0) ⟨lk [(4,iv x),(5,iv y),(9,tKs l),(10,iv l.length),(11,iv i'),(12,bv q)],H'⟩) →
    LoopC (cx Tryz.prog w0 I0 n0) l1_tree_Frame Q ⟨lk [(4,iv a),(5,iv b),(9,tKs l),(10,iv l.length),(11,iv i)],H⟩ := by
  intro m
  induction m with
  | zero =>
    intro i a b H hi hq
    have : i = l.length := by omega
    subst this
    refine loopC_once mixed l1_tree_Frame.eq_1 ?_
    simp
    exact hq _ false _ _ _ (by simp [frameW]) (by simp [frameK])
  | succ m ih =>
    intro i a b H hi hq
    have hlt : i < l.length := by omega
    have e : l.drop i = l[i] :: l.drop (i + 1) := List.drop_eq_getElem_cons hlt
    have ei : IntKind.i64.wrap ((i : Int) + 1) = ((i + 1 : Nat) : Int) := i64_same (by omega) (by omega)
    refine loopC_once mixed l1_tree_Frame.eq_1 ?_
    simp [hlt,ei]
    have em : ∀ (x y : Nat),max (x : Int) (y : Int) = ((max x y : Nat) : Int) := fun x y => by omega
    rw [em,em]
    exact ih (i + 1) _ _ _ (by omega) fun i' q x y H' hx hy => hq i' q x y H' (by rw [hx,e,frameW]; omega) (by rw [hy,e,frameK]; omega)
end
theorem tFrame_spec (t : T) (hl : t.kids.length * 56≤140737488355328) : G.Spec Tryz.prog 131 [tX t] (.tup [iv (frameW t.kids),iv (frameK t.kids)]) := by
  refine spec_of t_tree_Frame (by simp) fun w0 I0 => ?_
  unfold c_tree_Frame
  simp
  refine tframe_l1 hl t.kids.length 0 0 0 _ (by omega) fun i' q x y H' hx hy => ?_
  simp
  refine frz_is rfl ?_
  simp [hx,hy]
section
variable {n0 : Nat} {w0 : World} {I0 : Nat→Prop} {Q : Exit→Sta→Prop}
theorem tnorm_l1 {t : T} (hl : t.kids.length * 56≤140737488355328) (ih : ∀ c,c ∈ t.kids→G.Spec Tryz.prog 59 [tX c] (tX (norm c))) {v v0 : VOb} {k w : A} : ∀ (m i : Nat) (u : Nat) (H : Hp),i + m = t.kids.length→H [0] = v0→H [1] = v→H [2] = ⟨1,.cells [k,w,.osl [4] u 3 0 i]⟩→H [4] = ⟨u,.arr 3 ((t.kids.take i).map (tA ∘ norm))⟩ →
    (∀ i' q (u' : Nat) (H' : Hp),H' [0] = v0→H' [1] = v→H' [2] = ⟨1,.cells [k,w,.osl [4] u' 3 0 t.kids.length]⟩→H' [4] = ⟨u',.arr 3 (t.kids.map (tA ∘ norm))⟩→Q (.exit 0) ⟨lk [(1,.pob [0] 1 0),(2,.pob [1] 1 0),(3,.pob [2] 1 0),(17,tKs t.kids),(18,iv t.kids.length),(19,iv i'),(20,bv q)],H'⟩) →
    LoopC (cx Tryz.prog w0 I0 n0) l1_tree_Norm Q ⟨lk [(1,.pob [0] 1 0),(2,.pob [1] 1 0),(3,.pob [2] 1 0),(17,tKs t.kids),(18,iv t.kids.length),(19,iv i)],H⟩ := by
  intro m
  induction m with
  | zero =>
    intro i u H hi hA hR hO hB hq
    have : i = t.kids.length := by omega
    subst this
    refine loopC_once mixed l1_tree_Norm.eq_1 ?_
    simp
    exact hq _ _ u H hA hR hO (by rw [hB]; simp)
  | succ m ihm =>
    intro i u H hi hA hR hO hB hq
    have hlt : i < t.kids.length := by omega
    have ei : IntKind.i64.wrap ((i : Int) + 1) = ((i + 1 : Nat) : Int) := i64_same (by omega) (by omega)
    refine loopC_once mixed l1_tree_Norm.eq_1 ?_
    simp [hlt,updF_app,hO]
    refine sc_call (ih _ (List.getElem_mem hlt)) rfl ?_
    simp [updF_app,hO,hB]
    have hrow := row_succ (f := tA ∘ norm) hlt (x := tX (norm t.kids[i])) (by simp)
    rw [hrow,ei]
    refine ⟨⟨by omega,by omega⟩,?_⟩
    exact ihm (i + 1) (u + 1) _ (by omega) (by simp [updF_app,hA]) (by simp [updF_app,hR]) (by simp [updF_app]) (by simp [updF_app]) hq
theorem tnorm_l2 {w : List Int} (hl : w.length * 8≤140737488355328) {v v4 : VOb} {K : A} : ∀ (n : Nat) (H : Hp),n≤w.length→trimW (w.take n) = trimW w→H [1] = v→H [2] = ⟨1,.cells [iv 1,uws (w.take n),K]⟩→H [4] = v4 →
    (∀ q (H' : Hp),H' [1] = v→H' [2] = ⟨1,.cells [iv 1,uws (trimW w),K]⟩→H' [4] = v4→Q (.exit 2) ⟨lk [(2,.pob [1] 1 0),(3,.pob [2] 1 0),(48,bv q)],H'⟩) →
    LoopC (cx Tryz.prog w0 I0 n0) l2_tree_Norm Q ⟨lk [(2,.pob [1] 1 0),(3,.pob [2] 1 0)],H⟩ := by
  intro n
  induction n with
  | zero =>
    intro H hn ht hR hO hB hq
    refine loopC_once mixed l2_tree_Norm.eq_1 ?_
    simp [hO]
    refine hq _ H hR ?_ hB
    rw [← ht]
    simpa using hO
  | succ n ihn =>
    intro H hn ht hR hO hB hq
    have hlt : n < w.length := by omega
    have en : IntKind.i64.wrap (n : Int) = n := i64_same (by omega) (by omega)
    have emin : min (n + 1) w.length = n + 1 := by omega
    refine loopC_once mixed l2_tree_Norm.eq_1 ?_
    by_cases h0 : w[n] = 0
    · have hnn : (n : Int) < n + 1 := by omega
      have hnn' : (n : Int)≤n + 1 := by omega
      have hs : List.take n (List.take (n + 1) (List.map uv w)) = (w.take n).map uv := by rw [List.take_take,Nat.min_eq_left (by omega),List.map_take]
      simp [hO,emin,en,hlt,h0,hnn,hnn',hs]
      exact ihn _ (by omega) (by rw [← trimW_zero hlt h0]; exact ht) (by simp [updF_app,hR]) (by simp [updF_app]) (by simp [updF_app,hB]) hq
    · have hnn : (n : Int) < n + 1 := by omega
      simp [hO,emin,en,hlt,h0,hnn]
      refine hq _ H hR ?_ hB
      rw [hO,← ht,trimW_stop hlt h0]
theorem tnorm_l3 {l : List T} (hl : l.length * 56≤140737488355328) {v : VOb} {W : A} {u : Nat} : ∀ (n : Nat) (H : Hp),n≤l.length→trimK (l.take n) = trimK l→H [1] = v→H [2] = ⟨1,.cells [iv 1,W,.osl [4] u 3 0 n]⟩→H [4] = ⟨u,.arr 3 (l.map (tA ∘ norm))⟩ →
    (∀ q (H' : Hp),H' [1] = v→H' [2] = ⟨1,.cells [iv 1,W,.osl [4] u 3 0 (trimK l).length]⟩→H' [4] = ⟨u,.arr 3 (l.map (tA ∘ norm))⟩→Q (.exit 4) ⟨lk [(2,.pob [1] 1 0),(3,.pob [2] 1 0),(72,bv q)],H'⟩) →
    LoopC (cx Tryz.prog w0 I0 n0) l3_tree_Norm Q ⟨lk [(2,.pob [1] 1 0),(3,.pob [2] 1 0)],H⟩ := by
  intro n
  induction n with
  | zero =>
    intro H hn ht hR hO hB hq
    refine loopC_once mixed l3_tree_Norm.eq_1 ?_
    simp [hO]
    refine hq _ H hR ?_ hB
    rw [← ht]
    simpa using hO
  | succ n ihn =>
    intro H hn ht hR hO hB hq
    have hlt : n < l.length := by omega
    have en : IntKind.i64.wrap (n : Int) = n := i64_same (by omega) (by omega)
    have hnn : (n : Int) < n + 1 := by omega
    have hnn' : (n : Int)≤n + 1 := by omega
    refine loopC_once mixed l3_tree_Norm.eq_1 ?_
    by_cases h0 : l[n].kind = 0
    · simp [hO,hB,en,hlt,h0,hnn,hnn']
      exact ihn _ (by omega) (by rw [← trimK_zero hlt h0]; exact ht) (by simp [updF_app,hR]) (by simp [updF_app]) (by simp [updF_app,hB]) hq
    · simp [hO,hB,en,hlt,h0,hnn]
      refine hq _ H hR ?_ hB
      rw [hO,← ht,trimK_stop hlt h0]
      simp; omega
end
theorem tNorm_spec : ∀ (t : T),wfT t→G.Spec Tryz.prog 59 [tX t] (tX (norm t)) := by
  refine T.ind fun k w l ih hw => ?_
  have hw' := wfT_iff.1 hw
  have hwl := hw'.wl
  have hkl := hw'.kl
  simp at hwl hkl
  refine spec_of t_tree_Norm (by simp) fun w0 I0 => ?_
  unfold c_tree_Norm
  rw [norm_mk]
  by_cases h0 : k = 0
  · simp [h0]
    exact frz_T0
  · simp [h0]
    refine sc_call (clone_spec false w hwl).spec rfl ?_
    simp
    refine LoopC.le (le_blankC (d := [2]) 2 [4] 3 rfl rfl (by simp)) ?_
    simp
    refine tnorm_l1 (t := .mk k w l) (k := iv k) (w := uws w) (by simpa using hkl) (fun c hc => ih c hc (hw'.ks c hc)) l.length 0 1 _ (by simp) rfl rfl (by simp) (by simp) fun i' q u' H' hA hR hO hB => ?_
    by_cases h1 : k = 1
    · subst h1
      simp at hA hR hO hB
      simp [hA,hR,hO,hB]
      refine LoopC.le (le_list [(2,.pob [1] 1 0),(3,.pob [2] 1 0)] (by simp)) ?_
      refine tnorm_l2 hwl w.length _ (Nat.le_refl _) (by rw [List.take_of_length_le (Nat.le_refl _)]) hR (by rw [hO,List.take_of_length_le (Nat.le_refl _)]) hB fun q H2 hR2 hO2 hB2 => ?_
      simp
      refine tnorm_l3 hkl l.length _ (Nat.le_refl _) (by rw [List.take_of_length_le (Nat.le_refl _)]) hR2 hO2 hB2 fun q H3 hR3 hO3 hB3 => ?_
      simp [hO3,hR3,updF_app]
      refine frz_agg ?_
      simp
      rw [trimK_map]
      refine ⟨frz_bare rfl,frz_bare rfl,?_⟩
      have := frz_rowT (H := updF H3 [1] ⟨1,.cells [iv 1,uws (trimW w),A.osl [4] u' 3 0 (trimK l).length]⟩) (o := [4]) (u := u') (sz := 3) (l := l) (f := tA ∘ norm) (by simp [updF_app,hB3]) (trimK_le l) (by simp)
      rw [← List.map_take]
      show Frz _ _ (A.sl false (((l.take (trimK l).length).map norm).map tA))
      rw [List.map_map]
      exact this
    · simp at hA hR hO hB
      simp [hA,hR,hO,hB,h1,updF_app]
      refine frz_agg ?_
      simp
      refine ⟨frz_bare rfl,frz_bare rfl,?_⟩
      have := frz_row (H := updF H' [1] ⟨1,.cells [iv k,uws w,A.osl [4] u' 3 0 l.length]⟩) (o := [4]) (u := u') (sz := 3) (l := l) (f := tA ∘ norm) (by simp [updF_app,hB]) rfl (by simp)
      show Frz _ _ (A.sl false ((l.map norm).map tA))
      rw [List.map_map]
      exact this
section
variable {n0 : Nat} {w0 : World} {I0 : Nat→Prop} {Q : Exit→Sta→Prop}
theorem tsize_l1 {l : List T} (hl : l.length * 56≤140737488355328) (ih : ∀ c,c ∈ l→G.Spec Tryz.prog 94 [tX c] (iv (i64w (sizeP c)))) : ∀ (m i : Nat) (x y : Int) (H : Hp),i + m = l.length→y = i64w x →
    (∀ i' q H',Q (.exit 1) ⟨lk [(3,iv (i64w (x + sizePC (l.drop i)))),(57,tKs l),(58,iv l.length),(59,iv i'),(60,bv q)],H'⟩) →
    LoopC (cx Tryz.prog w0 I0 n0) l1_tree_size Q ⟨lk [(3,iv y),(57,tKs l),(58,iv l.length),(59,iv i)],H⟩ := by
  intro m
  induction m with
  | zero =>
    intro i x y H hi hy hq
    have : i = l.length := by omega
    subst this hy
    refine loopC_once mixed l1_tree_size.eq_1 ?_
    simp
    simpa using hq l.length false H
  | succ m ihm =>
    intro i x y H hi hy hq
    subst hy
    have hlt : i < l.length := by omega
    have e : l.drop i = l[i] :: l.drop (i + 1) := List.drop_eq_getElem_cons hlt
    have ei : IntKind.i64.wrap ((i : Int) + 1) = ((i + 1 : Nat) : Int) := i64_same (by omega) (by omega)
    refine loopC_once mixed l1_tree_size.eq_1 ?_
    simp [hlt,updF_app]
    refine sc_call (ih _ (List.getElem_mem hlt)) rfl ?_
    simp [ei,updF_app,i64_add_l,i64_add_r,i64_sub_l]
    refine ihm (i + 1) (x + (sizeP l[i] - l[i].words.length - l[i].kids.length)) _ _ (by omega) rfl fun i' q H' => ?_
    have := hq i' q H'
    rw [e,sizePC_cons,← Int.add_assoc] at this
    exact this
theorem tsize_l2 {l : List T} (hl : l.length * 56≤140737488355328) (ih : ∀ c,c ∈ l→G.Spec Tryz.prog 94 [tX c] (iv (i64w (sizeP c)))) : ∀ (m i : Nat) (x y : Int) (H : Hp),i + m = l.length→y = i64w x →
    (∀ i' q H',Q (.exit 3) ⟨lk [(3,iv (i64w (x + sizePL (l.drop i)))),(78,tKs l),(79,iv l.length),(80,iv i'),(81,bv q)],H'⟩) →
    LoopC (cx Tryz.prog w0 I0 n0) l2_tree_size Q ⟨lk [(3,iv y),(78,tKs l),(79,iv l.length),(80,iv i)],H⟩ := by
  intro m
  induction m with
  | zero =>
    intro i x y H hi hy hq
    have : i = l.length := by omega
    subst this hy
    refine loopC_once mixed l2_tree_size.eq_1 ?_
    simp
    simpa using hq l.length false H
  | succ m ihm =>
    intro i x y H hi hy hq
    subst hy
    have hlt : i < l.length := by omega
    have e : l.drop i = l[i] :: l.drop (i + 1) := List.drop_eq_getElem_cons hlt
    have ei : IntKind.i64.wrap ((i : Int) + 1) = ((i + 1 : Nat) : Int) := i64_same (by omega) (by omega)
    refine loopC_once mixed l2_tree_size.eq_1 ?_
    simp [hlt,updF_app]
    refine sc_call (ih _ (List.getElem_mem hlt)) rfl ?_
    simp [ei,i64_add_l,i64_add_r]
    refine ihm (i + 1) (x + sizeP l[i]) _ _ (by omega) rfl fun i' q H' => ?_
    have := hq i' q H'
    rw [e,sizePL_cons,← Int.add_assoc] at this
    exact this
end
set_option maxRecDepth 8000 in
theorem tsize_spec : ∀ (t : T),wfT t→G.Spec Tryz.prog 94 [tX t] (iv (i64w (sizeP t))) := by
  refine T.ind fun k w l ih hw => ?_
  have hw' := wfT_iff.1 hw
  have hwl := hw'.wl
  have hkl := hw'.kl
  simp at hwl hkl
  have ih1 : ∀ c,c ∈ l→G.Spec Tryz.prog 94 [tX c] (iv (i64w (sizeP c))) := fun c hc => ih c hc (hw'.ks c hc)
  refine spec_of t_tree_size (by simp) fun w0 I0 => ?_
  unfold c_tree_size
  rw [sizeP_mk]
  have fin : ∀ (x y : Int) (H : Hp) (r : Int),y = i64w x→H [0] = ⟨1,.cells [iv k,uws w,tKs l]⟩→r = x + sizePL l→WPC (cx Tryz.prog w0 I0 90) k1_tree_size (RetC Tryz.prog [.tmp 2] (iv (i64w r))) ⟨lk [(1,.pob [0] 1 0),(3,iv y)],H⟩ := fun x y H r hy hH hr => by
    subst hy
    rw [k1_tree_size.eq_1]
    simp [hH]
    refine tsize_l2 hkl ih1 l.length 0 x _ _ (by simp) rfl fun i' q H' => ?_
    simp [hr]
    exact frz_bare rfl
  have room : 2≤k∧k≤7→i64w (roomZ (k - 2) l.length) = roomZ (k - 2) l.length := fun hk => by
    have : 0≤roomZ (k - 2) l.length∧roomZ (k - 2) l.length≤1099511627776 := by
      unfold roomZ bitsZ
      repeat' split
      all_goals omega
    exact i64_same (by omega) (by omega)
  by_cases h1 : k = 1
  · simp [h1]
    exact fin _ _ _ _ rfl (by simp [h1]) rfl
  by_cases h8 : k = 8
  · simp [h8]
    exact fin _ _ _ _ (i64_same (by omega) (by omega)).symm (by simp [h8]) rfl
  rw [if_neg h1,if_neg h8]
  by_cases h27 : 2≤k∧k≤7
  · have hd : isData k = true := by simp [isData,h27]
    have e2 : IntKind.i64.wrap (k - 2) = k - 2 := i64_same (by omega) (by omega)
    simp [h1,h8]
    refine sc_call (data_spec k) rfl ?_
    simp [hd,e2]
    refine sc_call (room_spec' _ _) rfl ?_
    simp
    rw [if_pos h27,room h27]
    exact frz_bare rfl
  · have hd : isData k = false := by simp [isData]; omega
    simp [h1,h8]
    refine sc_call (data_spec k) rfl ?_
    rw [if_neg h27]
    by_cases h9 : k = 9
    · subst h9
      simp [hd]
      refine sc_call (tFrame_spec (.mk 9 w l) (by simpa using hkl)) rfl ?_
      simp [i64_add_r,i64_mul_r]
      refine tsize_l1 hkl ih1 l.length 0 _ _ _ (by simp) rfl fun i' q H' => ?_
      simp
      exact frz_bare rfl
    · simp [hd,h9]
      exact fin 0 _ _ _ (by decide) (by simp) (by simp)
theorem tSize_spec (t : T) (h : wfT t) : G.Spec Tryz.prog 60 [tX t] (iv (i64w (sizeP (norm t)))) := by
  refine spec_of t_tree_Size (by simp) fun w0 I0 => ?_
  unfold c_tree_Size
  simp
  refine sc_call (tNorm_spec t h) rfl ?_
  simp
  refine sc_call (tsize_spec (norm t) (wf_norm t h)) rfl ?_
  simp
  exact frz_bare rfl
end Go.Proofs.YthfiijdbnkaabaaGreat

namespace Go.Proofs.YthfiijdbnkaabaaGreat
set_option linter.unusedVariables false
set_option linter.unusedSimpArgs false
open Go Go.G Go.Proofs Go.PL
theorem none_spec (t : T) (hw : t.words.length * 8≤140737488355328) (hk : t.kids.length * 56≤140737488355328) : G.Spec Tryz.prog 49 [tX t] (bv (noneT t)) := by
  refine spec_of t_centoref20_none (by simp) fun w0 I0 => ?_
  unfold c_centoref20_none
  simp
  have e : IntKind.i64.wrap ((t.words.length : Int) + t.kids.length) = (t.words.length : Int) + t.kids.length := i64_same (by omega) (by omega)
  simp [e]
  refine frz_bool ?_
  rw [Bool.eq_iff_iff]
  simp [noneT,List.isEmpty_iff,← List.length_eq_zero_iff]
  omega
theorem none_spec' {t : T} (h : wfT t) : G.Spec Tryz.prog 49 [tX t] (bv (noneT t)) := none_spec t (wfT_iff.1 h).wl (wfT_iff.1 h).kl
theorem bytesN_get : ∀ (m : Nat) (x : Int) (i : Nat),i < m→(bytesN m x).getD i 0 = x / 256 ^ i % 256
  | m + 1,x,0,_ => by simp [bytesN]
  | m + 1,x,i + 1,h => by
    have := bytesN_get m (x / 256) i (by omega)
    simp only [bytesN,List.getD_cons_succ,this]
    rw [Int.ediv_ediv_of_nonneg (by decide),← Int.pow_succ']
theorem ofZ_zero : ∀ (l : List Int),(∀ b,b ∈ l→0≤b∧b < 256)→(ofZ l = 0 ↔ ∀ b,b ∈ l→b = 0)
  | [],_ => by simp [ofZ]
  | b :: l,h => by
    have h1 := h b (by simp)
    have h2 := ofZ_range l fun x hx => h x (by simp [hx])
    have ih := ofZ_zero l fun x hx => h x (by simp [hx])
    simp only [ofZ,List.mem_cons,forall_eq_or_imp,← ih]
    omega
theorem mix_zero (w mask : Int) : decide (mixZ w 0 mask = 0) = withinZ w mask := by
  rw [Bool.eq_iff_iff]
  unfold mixZ
  rw [decide_eq_true_eq,ofZ_zero _ mixL_range]
  have e : mixL (bytesZ w) (bytesZ 0) mask 8 = (List.range 8).map fun i => if namedZ mask i = true then (bytesZ 0).getD i 0 else (bytesZ w).getD i 0 := by
    unfold mixL
    rw [List.drop_of_length_le (by rw [bytesZ_length]; omega),List.append_nil]
  rw [e]
  simp only [withinZ,List.all_eq_true,List.mem_map,List.mem_range,Bool.or_eq_true,decide_eq_true_eq]
  have hz : ∀ i,i < 8→(bytesZ 0).getD i 0 = 0 := fun i hi => by
    unfold bytesZ
    rw [bytesN_get 8 0 i hi]; simp
  constructor
  · intro h i hi
    by_cases hn : namedZ mask i = true
    · left; simpa [namedZ] using hn
    · right
      have := h _ ⟨i,hi,rfl⟩
      rw [if_neg hn] at this
      unfold bytesZ at this
      rwa [bytesN_get 8 w i hi] at this
  · rintro h b ⟨i,hi,rfl⟩
    by_cases hn : namedZ mask i = true
    · rw [if_pos hn]; exact hz i hi
    · rw [if_neg hn]
      rcases h i hi with h | h
      · exact absurd (by simpa [namedZ] using h) hn
      · unfold bytesZ
        rw [bytesN_get 8 w i hi]; exact h
theorem within_spec' {w mask : Int} (h : u64R w) (h0 : 0≤mask) (h1 : mask < 256) : G.Spec Tryz.prog 50 [uv w,u8 mask] (bv (withinZ w mask)) := by
  refine spec_of t_centoref20_within (by simp) fun w0 I0 => ?_
  unfold c_centoref20_within
  simp
  refine sc_call (rMix_spec h ⟨by omega,by omega⟩ h0 h1) rfl ?_
  simp
  exact frz_bool (mix_zero w mask)
set_option maxRecDepth 8000 in
theorem same_spec {e : E} (h : WfE e) : G.Spec Tryz.prog 79 [eX e] (bv (sameE e)) := by
  have hwl := h.wl
  have hkl := h.kl
  have hol := h.ol
  refine spec_of t_centoref20_same (by simp) fun w0 I0 => ?_
  unfold c_centoref20_same
  simp
  refine sc_call_gt rfl (fun _ => none_spec' h.o) (fun e => by simp [e]) rfl ?_
  simp
  refine sc_call_gt rfl (fun _ => none_spec' h.n) (fun e => by simp at e; simp [e]) rfl ?_
  have e1 : IntKind.i64.wrap ((e.words.length : Int) + e.kids.length) = (e.words.length : Int) + e.kids.length := i64_same (by omega) (by omega)
  have e2 : IntKind.i64.wrap ((e.words.length : Int) + e.kids.length + e.ops.length) = (e.words.length : Int) + e.kids.length + e.ops.length := i64_same (by omega) (by omega)
  simp [e1,e2]
  refine frz_bool ?_
  rw [Bool.eq_iff_iff]
  simp [sameE,List.isEmpty_iff,← List.length_eq_zero_iff]
  omega
theorem sat_range {n : Int} (h : 0≤n) : 0≤sat n∧sat n≤1048576 := by unfold sat; split <;> omega
section
variable {n0 : Nat} {w0 : World} {I0 : Nat→Prop} {Q : Exit→Sta→Prop}
theorem len_k1 {Q' : Exit→Sta→Prop} {p i : A} {x y : Int} {H : Hp} (h : ∀ l,Q' .normal ⟨lk ((1,p) :: (4,iv (sat x)) :: (5,iv (sat y)) :: (6,i) :: l),H⟩) : WPC (cx Tryz.prog w0 I0 n0) k1_centoref20_Lengths Q' ⟨lk [(1,p),(4,iv x),(5,iv y),(6,i)],H⟩ := by
  rw [k1_centoref20_Lengths.eq_1]
  have h0 := h []
  have h1 := h [(45,bv false)]
  by_cases hx : 1048576 < x <;> by_cases hy : 1048576 < y <;> simp [hx,hy] <;> first
    | (simpa [sat,hx,hy] using h0)
    | (simpa [sat,hx,hy] using h1)
theorem len_k3 {Q' : Exit→Sta→Prop} {p i : A} {a b z : Int} {H : Hp} {o : OP} {u : Nat} (hz : z = opLen o) (a0 : 0≤a) (a1 : a≤1048576) (b0 : 0≤b) (b1 : b≤1048576) (z0 : 0≤z) (z1 : z < 100000000000000) (hO : H [1] = ⟨u,.cells (iv o.kind :: iv o.n :: tKs o.l :: eL o.e)⟩)
    (h : ∀ l,Q' .normal ⟨lk ((1,p) :: (4,iv (sat (if o.kind ≠ 2 then a + opLen o else a))) :: (5,iv (sat (if o.kind ≠ 1 then b + opLen o else b))) :: (6,i) :: l),H⟩) : WPC (cx Tryz.prog w0 I0 n0) k3_centoref20_Lengths Q' ⟨lk [(1,p),(4,iv a),(5,iv b),(6,i),(7,.pob [1] u 0),(8,iv z)],H⟩ := by
  subst hz
  rw [k3_centoref20_Lengths.eq_1]
  have ea : IntKind.i64.wrap (a + opLen o) = a + opLen o := i64_same (by omega) (by omega)
  have eb : IntKind.i64.wrap (b + opLen o) = b + opLen o := i64_same (by omega) (by omega)
  by_cases h2 : o.kind = 2
  · simp [hO,h2]
    rw [k2_centoref20_Lengths.eq_1]
    simp [hO,h2,eb]
    refine len_k1 fun l => ?_
    simpa [h2] using h l
  · by_cases h1 : o.kind = 1
    · simp [hO,h1,ea]
      rw [k2_centoref20_Lengths.eq_1]
      simp [hO,h1]
      refine len_k1 fun l => ?_
      simpa [h1] using h l
    · simp [hO,h2,ea]
      rw [k2_centoref20_Lengths.eq_1]
      simp [hO,h1,eb]
      refine len_k1 fun l => ?_
      simpa [h1,h2] using h l
theorem lengths_l1 {e : E} (hl : e.ops.length * 240≤140737488355328) (ho : ∀ x,x ∈ e.ops→0≤x.n∧x.n≤1048576∧x.l.length * 56≤140737488355328) : ∀ (m i : Nat) (a b : Int) (H : Hp),i + m = e.ops.length→H [0] = ⟨1,.cells (eL e)⟩→0≤a→a≤1048576→0≤b→b≤1048576 →
    (∀ i' q H',Q (.exit 0) ⟨lk [(1,.pob [0] 1 0),(4,iv (lengths a b (e.ops.drop i)).1),(5,iv (lengths a b (e.ops.drop i)).2),(6,iv i'),(13,bv q)],H'⟩) →
    LoopC (cx Tryz.prog w0 I0 n0) l1_centoref20_Lengths Q ⟨lk [(1,.pob [0] 1 0),(4,iv a),(5,iv b),(6,iv i)],H⟩ := by
  intro m
  induction m with
  | zero =>
    intro i a b H hi hA a0 a1 b0 b1 hq
    have : i = e.ops.length := by omega
    subst this
    refine loopC_once mixed l1_centoref20_Lengths.eq_1 ?_
    simp [hA]
    simpa [lengths] using hq e.ops.length false H
  | succ m ih =>
    intro i a b H hi hA a0 a1 b0 b1 hq
    have hlt : i < e.ops.length := by omega
    have ed : e.ops.drop i = e.ops[i] :: e.ops.drop (i + 1) := List.drop_eq_getElem_cons hlt
    have ei : IntKind.i64.wrap ((i : Int) + 1) = ((i + 1 : Nat) : Int) := i64_same (by omega) (by omega)
    obtain ⟨n1,n2,n3⟩ := ho _ (List.getElem_mem hlt)
    rw [ed] at hq
    generalize ho' : e.ops[i] = o at *
    have h0 : 0≤opLen o∧opLen o < 100000000000000 := by unfold opLen; split <;> omega
    have next : ∀ (a' b' : Int) H',H' [0] = ⟨1,.cells (eL e)⟩→a' = sat (if o.kind ≠ 2 then a + opLen o else a)→b' = sat (if o.kind ≠ 1 then b + opLen o else b)→LoopC (cx Tryz.prog w0 I0 n0) l1_centoref20_Lengths Q ⟨lk [(1,.pob [0] 1 0),(4,iv a'),(5,iv b'),(6,iv ((i + 1 : Nat) : Int))],H'⟩ := fun a' b' H' hA' ha hb => by
      have s1 := sat_range (n := if o.kind ≠ 2 then a + opLen o else a) (by split <;> omega)
      have s2 := sat_range (n := if o.kind ≠ 1 then b + opLen o else b) (by split <;> omega)
      refine ih (i + 1) a' b' H' (by omega) hA' (by omega) (by omega) (by omega) (by omega) fun i' q H2 => ?_
      have := hq i' q H2
      rw [lengths,← ha,← hb] at this
      exact this
    refine loopC_once mixed l1_centoref20_Lengths.eq_1 ?_
    have e1 : IntKind.i64.wrap (o.n + (o.l.length : Int)) = o.n + o.l.length := i64_same (by omega) (by omega)
    simp [hlt,hA,ho',updF_app,e1]
    refine ⟨fun h3 => ?_,fun h3 => ?_⟩
    · refine len_k3 (o := o) (u := (H [1]).u + 1) (z := 1) (by simp [opLen,h3]) (by omega) (by omega) (by omega) (by omega) (by omega) (by omega) (by simp [updF_app]) fun l => ?_
      simp [ei]
      exact next _ _ _ (by simp [updF_app,hA]) (by simp) (by simp)
    · refine len_k3 (o := o) (u := (H [1]).u + 1) (z := o.n + o.l.length) (by simp [opLen,h3]) (by omega) (by omega) (by omega) (by omega) (by omega) (by omega) (by simp [updF_app]) fun l => ?_
      simp [ei]
      exact next _ _ _ (by simp [updF_app,hA]) (by simp) (by simp)
end
theorem rLengths_spec {e : E} (hl : e.ops.length * 240≤140737488355328) (ho : ∀ x,x ∈ e.ops→0≤x.n∧x.n≤1048576∧x.l.length * 56≤140737488355328) : G.Spec Tryz.prog 52 [eX e] (.tup [iv (lengths 0 0 e.ops).1,iv (lengths 0 0 e.ops).2]) := by
  refine spec_of t_centoref20_Lengths (by simp) fun w0 I0 => ?_
  unfold c_centoref20_Lengths
  simp
  refine lengths_l1 hl ho e.ops.length 0 0 0 _ (by omega) (by simp) (by omega) (by omega) (by omega) (by omega) fun i' q H' => ?_
  simp
  exact frz_bare rfl
section
variable {n0 : Nat} {w0 : World} {I0 : Nat→Prop} {Q : Exit→Sta→Prop}
end
end Go.Proofs.YthfiijdbnkaabaaGreat

namespace Go.PL
set_option linter.unusedVariables false
set_option linter.unusedSimpArgs false
theorem treeE_kind (e : E) : (treeE e).kind = if e.kind = 0 then 0 else 1 := by
  cases e; rw [treeE_mk]
  repeat' split
  all_goals simp_all
theorem noneT_eq {t : T} (h : noneT t = true) : t = T0 := by
  obtain ⟨k,w,l⟩ := t
  simp [noneT] at h
  obtain ⟨⟨h1,rfl⟩,rfl⟩ := h
  rw [of_decide_eq_true h1]
theorem headOk_spec {d : Nat} {k : Int} {o n : T} {nw nk : Nat} {l : Int} {no : Nat} (h : ¬ headOk d k o n nw nk l no = false) : d ≠ 0∧0≤k∧k≤3∧(k ≠ 1→o = T0∧n = T0)∧(k ≠ 2→nw = 0∧nk = 0)∧(k ≠ 3→l = 0∧no = 0) := by
  have h : headOk d k o n nw nk l no = true := by simpa using h
  unfold headOk at h
  simp only [Bool.and_eq_true,Bool.not_eq_true',Bool.or_eq_false_iff,Bool.and_eq_false_iff,decide_eq_false_iff_not,decide_eq_true_eq,Bool.not_eq_false'] at h
  obtain ⟨⟨⟨a,b⟩,c⟩,⟨d1,e⟩,f⟩ := h
  refine ⟨a,by omega,by omega,fun h1 => ?_,fun h2 => ?_,fun h3 => ?_⟩
  · rcases d1 with d1 | d1
    · exact absurd d1 h1
    · exact ⟨noneT_eq d1.1,noneT_eq d1.2⟩
  · rcases e with e | e
    · exact absurd e h2
    · omega
  · rcases f with f | f
    · exact absurd f h3
    · exact ⟨f.1,by omega⟩
def masks (ws : List WE) : Prop := ∀ w,w ∈ ws→0≤w.mask∧w.mask < 256
end Go.PL

namespace Go.Proofs.YthfiijdbnkaabaaGreat
set_option linter.unusedVariables false
set_option linter.unusedSimpArgs false
open Go Go.G Go.Proofs Go.PL
abbrev RightS (e : E) : Prop := ∀ d : Nat,d≤1000→G.Spec Tryz.prog 23 [eX e,iv d] (bv (rightE d e))
section
variable {n0 : Nat} {w0 : World} {I0 : Nat→Prop} {Q : Exit→Sta→Prop}
theorem op_l1 {o : OP} {list : Int} (hk : i64R list) (hl : o.l.length * 56≤140737488355328) (hw : ∀ t,t ∈ o.l→wfT t) {H : Hp} (hO : H [0] = ⟨1,.cells (iv o.kind :: iv o.n :: tKs o.l :: eL o.e)⟩) : ∀ (m i : Nat),i + m = o.l.length →
    (((o.l.drop i).all fun t => rightT 64 (.mk list [] [t])) = true→∀ i' q,Q (.exit 0) ⟨lk [(0,iv list),(4,.pob [0] 1 0),(7,iv i'),(50,bv q)],H⟩)→(((o.l.drop i).all fun t => rightT 64 (.mk list [] [t])) = false→Q .ret ⟨lk [(6,bv false)],H⟩) →
    LoopC (cx Tryz.prog w0 I0 n0) l1_centoref20_op Q ⟨lk [(0,iv list),(4,.pob [0] 1 0),(7,iv i)],H⟩ := by
  intro m
  induction m with
  | zero =>
    intro i hi h1 h2
    have : i = o.l.length := by omega
    subst this
    refine loopC_once mixed l1_centoref20_op.eq_1 ?_
    simp [hO]
    exact h1 (by simp) _ _
  | succ m ihm =>
    intro i hi h1 h2
    have hlt : i < o.l.length := by omega
    have ed : o.l.drop i = o.l[i] :: o.l.drop (i + 1) := List.drop_eq_getElem_cons hlt
    have ei : IntKind.i64.wrap ((i : Int) + 1) = ((i + 1 : Nat) : Int) := i64_same (by omega) (by omega)
    have et : List.take 1 (List.drop i (o.l.map tA)) = [tX o.l[i]] := by rw [← List.map_drop,ed,List.map_cons,List.take_succ_cons,List.take_zero,tA_eq]
    have hwt : wfT (.mk list [] [o.l[i]]) := wfT_iff.2 ⟨hk,by simp,by simp,by simp,fun x hx => by simp at hx; rw [hx]; exact hw _ (List.getElem_mem hlt)⟩
    have h01 : (i : Int)≤(i : Int) + 1 := by omega
    have h02 : (i : Int) + 1≤o.l.length := by omega
    rw [ed] at h1 h2
    refine loopC_once mixed l1_centoref20_op.eq_1 ?_
    have h03 : (0 : Int)≤(i : Int) + 1 := by omega
    simp [hO,hlt,ei,h01,h02,h03,et]
    refine sc_calle rfl ((rRight_spec (.mk list [] [o.l[i]]) hwt 64 (by omega)).soft (by simp [A.softL,A.soft,soft_uv,soft_tKs])) rfl ?_
    cases hr : rightT 64 (.mk list [] [o.l[i]]) with
    | false =>
      simp
      exact h2 (by simp only [List.all_cons,hr,Bool.false_and])
    | true =>
      simp [ei]
      exact ihm (i + 1) (by omega) (fun hh => h1 (by simp only [List.all_cons,hr,Bool.true_and]; exact hh)) (fun hh => h2 (by simp only [List.all_cons,hr,Bool.true_and]; exact hh))
end
set_option maxRecDepth 8000 in
theorem op_spec {list : Int} (hk : i64R list) {o : OP} (h : WfO o) (ih : RightS o.e) {d : Nat} (hd : d≤1000) : G.Spec Tryz.prog 51 [iv list,oX o,iv d] (bv (rightO d list o)) := by
  have he := wfE_iff.1 h.e
  have hll := h.ll
  refine spec_of t_centoref20_op (by simp) fun w0 I0 => ?_
  unfold c_centoref20_op
  rw [rightO_eq]
  by_cases h0 : o.kind = 0
  · have h3 : ¬ o.kind = 3 := by omega
    simp [h0]
    refine sc_call_gt rfl (fun _ => same_spec he) (fun e => by simp at e; simp [e]) rfl ?_
    simp
    refine frz_bool ?_
    cases hl : o.l <;> simp [opFlat,h0,hl]
  · have h3n : (o.kind < 3→¬ o.kind = 3) := fun h => by omega
    simp [h0]
    refine ⟨fun hc => ?_,fun n0 k0 k3 => ⟨fun hlt => ?_,fun hge => ?_⟩⟩
    · have : opFlat list o = false := by
        unfold opFlat
        rw [if_neg h0,if_pos (by omega)]
      exact frz_bool (by simp [this])
    · have hk3 : ¬ o.kind = 3 := by omega
      have hf : opFlat list o = ((o.l.all fun t => rightT 64 (.mk list [] [t])) && !o.l.isEmpty && sameE o.e) := by
        unfold opFlat
        rw [if_neg h0,if_neg (by omega),if_pos hlt]
      refine op_l1 (o := o) hk hll h.l (by simp) o.l.length 0 (by omega) (fun hr i' q => ?_) (fun hr => ?_)
      · simp at hr
        simp
        refine sc_call_gt rfl (fun _ => same_spec he) (fun e => by simp at e; simp [e]) rfl ?_
        simp
        refine frz_bool ?_
        have hr' : (o.l.all fun t => rightT 64 (.mk list [] [t])) = true := by simpa using hr
        rw [hf,hr']
        cases hl : o.l <;> simp [hk3]
      · simp
        refine frz_bool ?_
        simp only [List.drop_zero] at hr
        rw [hf,hr]
        simp
    · have hk3 : o.kind = 3 := by omega
      have hf : opFlat list o = true := by
        unfold opFlat
        rw [if_neg h0,if_neg (by omega),if_neg (by omega)]
      refine sc_call_gf rfl (fun _ => ih d hd) (fun e => by simp at e; have := Int.not_le.2 e.2; simp [this,e.1.1,e.1.2]) rfl ?_
      have hop : opDeep list o = (!decide (0 < o.l.length) && !decide (o.e.kind = 0) && !decide (list≤7)) := by
        cases hl : o.l <;> simp [opDeep,hl]
      simp
      refine ⟨fun hc => ?_,fun a b c hr => ?_⟩
      · refine frz_bool ?_
        rw [hop,hf]
        cases hr : rightE d o.e
        · simp [hk3]
        · simp only [hr,Bool.true_eq_false,or_false] at hc
          rcases hc with (hc | hc) | hc <;> simp [hk3,hc]
      · have hl0 : ¬ 0 < o.l.length := by simp [a]
        have hfit : Frz (lkH [([0],{ u := 1,ob := Ob.cells (iv o.kind :: iv o.n :: tKs o.l :: eL o.e) })]) (bv (opFit list o)) (bv (opFlat list o && (!decide (o.kind = 3) || opDeep list o && rightE d o.e && opFit list o))) := by
          refine frz_bool ?_
          rw [hop,hf,hr]
          have c' := Int.not_le.2 c
          simp [hk3,hl0,b,c']
        by_cases l8 : list = 8
        · simp [l8]
          simpa [l8,opFit] using hfit
        · by_cases k2 : o.e.kind = 2
          · simp [l8,k2]
            simpa [l8,k2,opFit] using hfit
          · by_cases k1 : o.e.kind = 1
            · by_cases x1 : o.e.old.kind = 1
              · simp [l8,k2,k1,x1]
                simpa [l8,k2,k1,x1,opFit] using hfit
              · simp [l8,k2,k1,x1]
                simpa [l8,k2,k1,x1,opFit] using hfit
            · simp [l8,k2,k1]
              simpa [l8,k2,k1,opFit] using hfit
section
variable {n0 : Nat} {w0 : World} {I0 : Nat→Prop} {Q : Exit→Sta→Prop}
theorem eright_l1 {e : E} {d : Nat} (hl : e.words.length * 32≤140737488355328) (hw : ∀ x,x ∈ e.words→WE.wf x) : ∀ (m i : Nat) (last : Int) (H : Hp),i + m = e.words.length→H [0] = ⟨1,.cells (eL e)⟩ →
    (wordsOk last (e.words.drop i) = true→∀ i' z q H',H' [0] = ⟨1,.cells (eL e)⟩→Q (.exit 0) ⟨lk [(1,iv d),(2,.pob [0] 1 0),(5,iv z),(6,iv i'),(97,bv q)],H'⟩)→(wordsOk last (e.words.drop i) = false→∀ H',Q .ret ⟨lk [(4,bv false)],H'⟩) →
    LoopC (cx Tryz.prog w0 I0 n0) l1_centoref20_Right Q ⟨lk [(1,iv d),(2,.pob [0] 1 0),(5,iv last),(6,iv i)],H⟩ := by
  intro m
  induction m with
  | zero =>
    intro i last H hi hA h1 h2
    have : i = e.words.length := by omega
    subst this
    refine loopC_once mixed l1_centoref20_Right.eq_1 ?_
    simp [hA]
    exact h1 (by simp [wordsOk]) _ _ _ _ hA
  | succ m ihm =>
    intro i last H hi hA h1 h2
    have hlt : i < e.words.length := by omega
    have ed : e.words.drop i = e.words[i] :: e.words.drop (i + 1) := List.drop_eq_getElem_cons hlt
    have ei : IntKind.i64.wrap ((i : Int) + 1) = ((i + 1 : Nat) : Int) := i64_same (by omega) (by omega)
    obtain ⟨w1,w2,w3,w4⟩ := hw _ (List.getElem_mem hlt)
    rw [ed,wordsOk] at h1 h2
    generalize hx : e.words[i] = x at *
    refine loopC_once mixed l1_centoref20_Right.eq_1 ?_
    simp [hA,hlt,hx,updF_app]
    refine sc_call_gf rfl (fun _ => within_spec' w3 w2.1 w2.2) (fun e => by simp only [Bool.or_eq_false_iff] at e; simp [e]) rfl ?_
    simp
    refine sc_call_gf rfl (fun _ => within_spec' w4 w2.1 w2.2) (fun e => by simp only [Bool.or_eq_false_iff] at e; simp [e]) rfl ?_
    simp
    have hok : wordOk last x = !(decide (x.at_≤last) || decide (65534 < x.at_) || decide (x.mask = 0) || !withinZ x.old x.mask || !withinZ x.new x.mask) := rfl
    refine ⟨fun hc => h2 ?_ _,fun a b c d e => ?_⟩
    · have : wordOk last x = false := by
        rw [hok]
        rcases hc with (((hc | hc) | hc) | hc) | hc <;> simp [hc]
      simp [this]
    · have : wordOk last x = true := by
        rw [hok]
        simp [c,d,e]
        omega
      simp [this] at h1 h2
      simp [ei,updF_app]
      exact ihm (i + 1) x.at_ _ (by omega) (by simp [updF_app,hA]) (fun hh i' z q H' hh' => by have := h1 hh i' z; cases q; exact this.1 H' hh'; exact this.2 H' hh') (fun hh => h2 hh)
theorem eright_l2 {e : E} {d : Nat} (hd : 1≤d) (hd1 : d≤1000) (hl : e.kids.length * 208≤140737488355328) (ih : ∀ x,x ∈ e.kids→RightS x.e) : ∀ (m i : Nat) (last : Int) (H : Hp),i + m = e.kids.length→H [0] = ⟨1,.cells (eL e)⟩ →
    (rightKs (d - 1) last (e.kids.drop i) = true→∀ i' z q H',H' [0] = ⟨1,.cells (eL e)⟩→Q (.exit 2) ⟨lk [(1,iv d),(2,.pob [0] 1 0),(5,iv z),(8,iv i'),(141,bv q)],H'⟩)→(rightKs (d - 1) last (e.kids.drop i) = false→∀ H',Q .ret ⟨lk [(4,bv false)],H'⟩) →
    LoopC (cx Tryz.prog w0 I0 n0) l2_centoref20_Right Q ⟨lk [(1,iv d),(2,.pob [0] 1 0),(5,iv last),(8,iv i)],H⟩ := by
  intro m
  induction m with
  | zero =>
    intro i last H hi hA h1 h2
    have : i = e.kids.length := by omega
    subst this
    refine loopC_once mixed l2_centoref20_Right.eq_1 ?_
    simp [hA]
    exact h1 (by simp) _ _ _ _ hA
  | succ m ihm =>
    intro i last H hi hA h1 h2
    have hlt : i < e.kids.length := by omega
    have ed : e.kids.drop i = e.kids[i] :: e.kids.drop (i + 1) := List.drop_eq_getElem_cons hlt
    have ei : IntKind.i64.wrap ((i : Int) + 1) = ((i + 1 : Nat) : Int) := i64_same (by omega) (by omega)
    have edd : IntKind.i64.wrap ((d : Int) - 1) = ((d - 1 : Nat) : Int) := by rw [i64_same (by omega) (by omega)]; omega
    have ihx := ih _ (List.getElem_mem hlt) (d - 1) (by omega)
    rw [ed,rightKs_cons] at h1 h2
    generalize hx : e.kids[i] = x at *
    refine loopC_once mixed l2_centoref20_Right.eq_1 ?_
    simp [hA,hlt,hx,updF_app,edd]
    refine sc_call_gf rfl (fun _ => ihx) (fun e => by simp only [Bool.or_eq_false_iff] at e; simp [e]) rfl ?_
    simp
    refine ⟨fun hc => h2 ?_ _,fun a b c hr => ?_⟩
    · rcases hc with ((hc | hc) | hc) | hc <;> simp [hc]
    · have c' : ¬ x.e.kind = 0 := c
      have a' : ¬ x.at_≤last := by omega
      have b' : ¬ 65534 < x.at_ := by omega
      simp [a',b',c',hr] at h1 h2
      simp [ei,updF_app]
      exact ihm (i + 1) x.at_ _ (by omega) (by simp [updF_app,hA]) (fun hh i' z q H' hh' => by have := h1 hh i' z; cases q; exact this.1 H' hh'; exact this.2 H' hh') (fun hh => h2 hh)
theorem eright_l3 {e : E} {d : Nat} (hd : 1≤d) (hd1 : d≤1000) (hl : e.ops.length * 240≤140737488355328) (hk : i64R e.list) (hw : ∀ x,x ∈ e.ops→WfO x) (ih : ∀ x,x ∈ e.ops→RightS x.e) {H : Hp} (hA : H [0] = ⟨1,.cells (eL e)⟩) : ∀ (m i : Nat),i + m = e.ops.length →
    (rightOs (d - 1) e.list (e.ops.drop i) = true→∀ i' q,Q (.exit 4) ⟨lk [(1,iv d),(2,.pob [0] 1 0),(10,iv i'),(191,bv q)],H⟩)→(rightOs (d - 1) e.list (e.ops.drop i) = false→Q .ret ⟨lk [(4,bv false)],H⟩) →
    LoopC (cx Tryz.prog w0 I0 n0) l3_centoref20_Right Q ⟨lk [(1,iv d),(2,.pob [0] 1 0),(10,iv i)],H⟩ := by
  intro m
  induction m with
  | zero =>
    intro i hi h1 h2
    have : i = e.ops.length := by omega
    subst this
    refine loopC_once mixed l3_centoref20_Right.eq_1 ?_
    simp [hA]
    exact h1 (by simp) _ _
  | succ m ihm =>
    intro i hi h1 h2
    have hlt : i < e.ops.length := by omega
    have ed : e.ops.drop i = e.ops[i] :: e.ops.drop (i + 1) := List.drop_eq_getElem_cons hlt
    have ei : IntKind.i64.wrap ((i : Int) + 1) = ((i + 1 : Nat) : Int) := i64_same (by omega) (by omega)
    have edd : IntKind.i64.wrap ((d : Int) - 1) = ((d - 1 : Nat) : Int) := by rw [i64_same (by omega) (by omega)]; omega
    have hop := op_spec hk (hw _ (List.getElem_mem hlt)) (ih _ (List.getElem_mem hlt)) (d := d - 1) (by omega)
    rw [ed,rightOs_cons] at h1 h2
    refine loopC_once mixed l3_centoref20_Right.eq_1 ?_
    simp [hA,hlt,edd]
    refine sc_call hop rfl ?_
    cases hr : rightO (d - 1) e.list e.ops[i] with
    | false =>
      simp
      exact h2 (by simp [hr])
    | true =>
      simp [ei]
      exact ihm (i + 1) (by omega) (fun hh => h1 (by simp [hr,hh])) (fun hh => h2 (by simp [hh]))
end
theorem op_n {d : Nat} {list : Int} {o : OP} (h : rightO d list o = true) : 0≤o.n∧o.n≤1048576 := by
  rw [rightO_eq,Bool.and_eq_true] at h
  have h1 := h.1
  unfold opFlat at h1
  split at h1
  · simp at h1; omega
  · split at h1
    · cases h1
    · omega
theorem headOk_of {d : Nat} {k : Int} {o n : T} {nw nk : Nat} {l : Int} {no : Nat} (hd : ¬ d = 0) (k0 : 0≤k) (k3 : k≤3) (c1 : k ≠ 1→noneT o = true∧noneT n = true) (c2 : k ≠ 2→nw + nk = 0) (c3 : k ≠ 3→l = 0∧no = 0) : headOk d k o n nw nk l no = true := by
  unfold headOk
  have h1 : decide (d = 0) = false := by simpa using hd
  have h2 : decide (k < 0) = false := by simp; omega
  have h3 : decide (k > 3) = false := by simp; omega
  rw [h1,h2,h3]
  have a1 : (!decide (k = 1) && !(noneT o && noneT n)) = false := by
    by_cases e : k = 1
    · simp [e]
    · simp [c1 e]
  have a2 : (!decide (k = 2) && decide (nw + nk > 0)) = false := by
    by_cases e : k = 2
    · simp [e]
    · simp [c2 e]
  have a3 : (!decide (k = 3) && (!decide (l = 0) || decide (no > 0))) = false := by
    by_cases e : k = 3
    · simp [e]
    · simp [c3 e]
  rw [a1,a2,a3]; rfl
set_option maxRecDepth 10000 in
theorem eright_spec : ∀ (e : E),wfE e→RightS e := by
  refine E.ind fun k o nn ws ks l os ihk iho hw d hd => ?_
  have h := wfE_iff.1 hw
  have hwl := h.wl
  have hkl := h.kl
  have hol := h.ol
  simp at hwl hkl hol
  refine spec_of t_centoref20_Right (by simp) fun w0 I0 => ?_
  unfold c_centoref20_Right
  rw [rightE_mk]
  by_cases hd0 : d = 0∨k < 0∨3 < k
  · have hb : (decide (d = 0) || decide (k < 0) || decide (3 < k)) = true := by simp; omega
    simp [hb]
    refine frz_bool ?_
    have : headOk d k o nn ws.length ks.length l os.length = false := by simp only [headOk,hb,gt_iff_lt,Bool.not_true,Bool.false_and]
    simp [this]
  have hb : (decide (d = 0) || decide (k < 0) || decide (3 < k)) = false := by simp; omega
  have e1 : IntKind.i64.wrap ((ws.length : Int) + ks.length) = (ws.length : Int) + ks.length := i64_same (by omega) (by omega)
  have hd00 : ¬ d = 0 := by omega
  have wz : IntKind.i64.wrap 0 = 0 := by decide
  have ihk' : ∀ x,x ∈ (E.mk k o nn ws ks l os).kids→RightS x.e := fun x hx => ihk x hx (h.ks x hx).2
  have iho' : ∀ x,x ∈ (E.mk k o nn ws ks l os).ops→RightS x.e := fun x hx => iho x hx (h.os x hx).e
  have fz : ∀ (b : Bool) (H : Hp),b = false→Frz H (.v (.bool false)) (bv b) := fun b H hb => frz_bool hb.symm
  cases hh : headOk d k o nn ws.length ks.length l os.length with
  | false =>
    rw [if_pos rfl]
    by_cases h1 : k = 1
    · subst h1
      simp [e1,hd00]
      refine sc_call_off rfl ?_
      simp
      refine sc_call_off rfl ?_
      by_cases a1 : (0 : Int) < (ws.length : Int) + ks.length
      · simp [e1,a1]; exact fz _ _ rfl
      · by_cases a2 : l = 0
        · by_cases a3 : 0 < os.length
          · simp [e1,a1,a2,a3]; exact fz _ _ rfl
          · have : headOk d 1 o nn ws.length ks.length l os.length = true := headOk_of hd00 (by omega) (by omega) (fun h => absurd rfl h) (fun _ => by omega) (fun _ => ⟨a2,by omega⟩)
            rw [hh] at this; cases this
        · simp [e1,a1,a2]; exact fz _ _ rfl
    · simp [hb,h1,e1]
      refine sc_call_gt rfl (fun _ => none_spec' h.o) (fun _ => rfl) rfl ?_
      simp [h1,e1]
      refine sc_call_gt rfl (fun _ => none_spec' h.n) (fun e => by simp [e]) rfl ?_
      cases n1 : noneT o with
      | false => cases n2 : noneT nn <;> (simp [n1,n2,e1]; exact fz _ _ rfl)
      | true =>
        cases n2 : noneT nn with
        | false => simp [n1,n2,e1]; exact fz _ _ rfl
        | true =>
          by_cases k2 : k = 2
          · subst k2
            by_cases a2 : l = 0
            · by_cases a3 : 0 < os.length
              · simp [e1,a2,a3]; exact fz _ _ rfl
              · have : headOk d 2 o nn ws.length ks.length l os.length = true := headOk_of hd00 (by omega) (by omega) (fun _ => ⟨n1,n2⟩) (fun h => absurd rfl h) (fun _ => ⟨a2,by omega⟩)
                rw [hh] at this; cases this
            · simp [e1,a2]; exact fz _ _ rfl
          · by_cases a1 : (0 : Int) < (ws.length : Int) + ks.length
            · simp [e1,k2,a1]; exact fz _ _ rfl
            · by_cases k3 : k = 3
              · have : headOk d k o nn ws.length ks.length l os.length = true := headOk_of hd00 (by omega) (by omega) (fun _ => ⟨n1,n2⟩) (fun _ => by omega) (fun h => absurd k3 h)
                rw [hh] at this; cases this
              · by_cases a2 : l = 0
                · by_cases a3 : 0 < os.length
                  · simp [e1,k2,k3,a1,a2,a3]; exact fz _ _ rfl
                  · have : headOk d k o nn ws.length ks.length l os.length = true := headOk_of hd00 (by omega) (by omega) (fun _ => ⟨n1,n2⟩) (fun _ => by omega) (fun _ => ⟨a2,by omega⟩)
                    rw [hh] at this; cases this
                · simp [e1,k2,k3,a1,a2]; exact fz _ _ rfl
  | true =>
    rw [if_neg (by simp)]
    obtain ⟨_,k0,k3,c1,c2,c3⟩ := headOk_spec (by rw [hh]; simp)
    by_cases h1 : k = 1
    · subst h1
      obtain ⟨w0',s0⟩ := c2 (by omega)
      obtain ⟨l0,o0⟩ := c3 (by omega)
      have hws : ws = [] := List.eq_nil_of_length_eq_zero w0'
      have hks : ks = [] := List.eq_nil_of_length_eq_zero s0
      have hos : os = [] := List.eq_nil_of_length_eq_zero o0
      subst hws hks hos l0
      simp [e1,hd00]
      refine sc_call_off rfl ?_
      simp
      refine sc_call_off rfl ?_
      simp [wz]
      refine sc_call (rRight_spec o h.o 64 (by omega)) rfl ?_
      simp
      refine sc_call_gt rfl (fun _ => rRight_spec nn h.n 64 (by omega)) (fun e => by simp [e]) rfl ?_
      simp
      exact frz_bool (by simp [Bool.and_assoc])
    · obtain ⟨rfl,rfl⟩ := c1 h1
      have nT : noneT T0 = true := rfl
      have cases3 : k = 2∧l = 0∧os = []∨k = 3∧ws = []∧ks = []∨k = 0∧ws = []∧ks = []∧l = 0∧os = [] := by
        by_cases k2 : k = 2
        · obtain ⟨l0,o0⟩ := c3 (by omega)
          exact .inl ⟨k2,l0,List.eq_nil_of_length_eq_zero o0⟩
        · obtain ⟨w0',s0⟩ := c2 k2
          by_cases k3 : k = 3
          · exact .inr (.inl ⟨k3,List.eq_nil_of_length_eq_zero w0',List.eq_nil_of_length_eq_zero s0⟩)
          · obtain ⟨l0,o0⟩ := c3 k3
            exact .inr (.inr ⟨by omega,List.eq_nil_of_length_eq_zero w0',List.eq_nil_of_length_eq_zero s0,l0,List.eq_nil_of_length_eq_zero o0⟩)
      rw [if_neg h1]
      clear c1 c2 c3 hh h1 k0 k3 ihk iho
      rcases cases3 with ⟨rfl,rfl,rfl⟩ | ⟨rfl,rfl,rfl⟩ | ⟨rfl,rfl,rfl,rfl,rfl⟩
      all_goals
        simp [hd00,e1]
        refine sc_call_gt rfl (fun _ => none_spec' h.o) (fun _ => rfl) rfl ?_
        simp [nT,e1]
        refine sc_call_gt rfl (fun _ => none_spec' h.n) (fun e => by simp [e]) rfl ?_
        simp [nT,e1,wz]
        refine eright_l1 (hl := h.wl) (hw := h.w) _ 0 (-1) _ (by simp; rfl) (by simp) (fun hr i' z q H' hA => ?_) (fun hr H' => ?_)
        rotate_left
        · first
            | (simp [wordsOk] at hr; done)
            | (simp at hr; simp; exact fz _ _ (by simp [hr]))
        simp at hr
        simp
        refine eright_l2 (by omega) hd (hl := h.kl) (ih := ihk') _ 0 (-1) _ (by simp; rfl) hA (fun hr2 i' z q H' hA => ?_) (fun hr2 H' => ?_)
        rotate_left
        · first
            | (simp at hr2; done)
            | (simp at hr2; simp; exact fz _ _ (by simp [hr2]))
        try simp at hr2
      · simp [hA]
        refine eright_l3 (by omega) hd (hl := h.ol) h.l h.os iho' hA _ 0 (by simp; rfl) (fun hr3 i' q => ?_) (fun hr3 => ?_)
        rotate_left
        · simp at hr3
        simp [hA]
        refine sc_call (rLengths_spec (e := .mk 2 T0 T0 ws ks 0 []) h.ol (fun x hx => by simp at hx)) rfl ?_
        simp
        refine frz_bool ?_
        simp [hr,hr2,lengths]
      · by_cases hl : l < 2∨9 < l
        · have hl' : (decide (l < 2) || decide (9 < l)) = true := by simpa using hl
          simp [hA,hl']
          exact fz _ _ (by simp [hr]; intro a b; omega)
        · have hl' : (decide (l < 2) || decide (9 < l)) = false := by simpa using hl
          simp [hA,hl']
          refine eright_l3 (by omega) hd (hl := h.ol) h.l h.os iho' hA _ 0 (by simp; rfl) (fun hr3 i' q => ?_) (fun hr3 => ?_)
          rotate_left
          · simp at hr3
            simp
            exact fz _ _ (by simp [hr3])
          simp at hr3
          simp [hA]
          refine sc_call (rLengths_spec (e := .mk 3 T0 T0 [] [] l os) h.ol (fun x hx => ⟨(op_n (rightOs_all.1 hr3 x hx)).1,(op_n (rightOs_all.1 hr3 x hx)).2,(h.os x hx).ll⟩)) rfl ?_
          simp
          refine frz_bool ?_
          have hl2 : ¬ (l < 2∨l > 9) := hl
          simp [hr,hr3,hl2]
          intro _ _
          omega
      · simp [hA]
        refine eright_l3 (by omega) hd (hl := h.ol) h.l h.os iho' hA _ 0 (by simp; rfl) (fun hr3 i' q => ?_) (fun hr3 => ?_)
        rotate_left
        · simp at hr3
        simp [hA]
        refine sc_call (rLengths_spec (e := .mk 0 T0 T0 [] [] 0 []) h.ol (fun x hx => by simp at hx)) rfl ?_
        simp
        refine frz_bool ?_
        simp [wordsOk,lengths]
end Go.Proofs.YthfiijdbnkaabaaGreat

namespace Go.Proofs.YthfiijdbnkaabaaGreat
set_option linter.unusedVariables false
set_option linter.unusedSimpArgs false
open Go Go.G Go.Proofs Go.PL
def mixN : Nat→Nat→Nat→Nat→Nat
  | 0,_,_,_ => 0
  | k + 1,a,b,m => (if m % 2 = 1 then b % 256 else a % 256) + 256 * mixN k (a / 256) (b / 256) (m / 2)
def wideN : Nat→Nat→Nat
  | 0,_ => 0
  | k + 1,m => (if m % 2 = 1 then 255 else 0) + 256 * wideN k (m / 2)
theorem wideN_lt : ∀ k m,wideN k m < 256 ^ k
  | 0,m => by simp [wideN]
  | k + 1,m => by
    have := wideN_lt k (m / 2)
    simp only [wideN,Nat.pow_succ]
    split <;> omega
theorem mixN_bits : ∀ k a b m,a < 256 ^ k→b < 256 ^ k→(a &&& (256 ^ k - 1 - wideN k m)) ||| (b &&& wideN k m) = mixN k a b m
  | 0,a,b,m,ha,hb => by
    simp at ha hb
    subst ha hb
    simp [mixN,wideN]
  | k + 1,a,b,m,ha,hb => by
    have hw := wideN_lt k (m / 2)
    rw [Nat.pow_succ] at ha hb
    have ih := mixN_bits k (a / 256) (b / 256) (m / 2) (by omega) (by omega)
    have p0 : 0 < 256 ^ k := Nat.pow_pos (by decide)
    generalize hx : (a &&& (256 ^ (k + 1) - 1 - wideN (k + 1) m)) ||| (b &&& wideN (k + 1) m) = x
    have d1 : wideN (k + 1) m / 256 = wideN k (m / 2) := by simp only [wideN]; split <;> omega
    have d2 : (256 ^ (k + 1) - 1 - wideN (k + 1) m) / 256 = 256 ^ k - 1 - wideN k (m / 2) := by simp only [wideN,Nat.pow_succ]; split <;> omega
    have m1 : wideN (k + 1) m % 256 = if m % 2 = 1 then 255 else 0 := by simp only [wideN]; split <;> omega
    have m2 : (256 ^ (k + 1) - 1 - wideN (k + 1) m) % 256 = if m % 2 = 1 then 0 else 255 := by simp only [wideN,Nat.pow_succ]; split <;> omega
    have e1 : x / 256 = mixN k (a / 256) (b / 256) (m / 2) := by
      have q1 := @Nat.or_div_two_pow (a &&& (256 ^ (k + 1) - 1 - wideN (k + 1) m)) (b &&& wideN (k + 1) m) 8
      have q2 := @Nat.and_div_two_pow a (256 ^ (k + 1) - 1 - wideN (k + 1) m) 8
      have q3 := @Nat.and_div_two_pow b (wideN (k + 1) m) 8
      have c : (2 : Nat) ^ 8 = 256 := rfl
      rw [q2,q3,c,d1,d2,hx] at q1
      rw [q1,ih]
    have e2 : x % 256 = if m % 2 = 1 then b % 256 else a % 256 := by
      have h : x % 2 ^ 8 = (a % 2 ^ 8 &&& (256 ^ (k + 1) - 1 - wideN (k + 1) m) % 2 ^ 8) ||| (b % 2 ^ 8 &&& wideN (k + 1) m % 2 ^ 8) := by
        rw [← hx,Nat.or_mod_two_pow,Nat.and_mod_two_pow,Nat.and_mod_two_pow]
      have c : (2 : Nat) ^ 8 = 256 := rfl
      rw [c,m1,m2] at h
      rw [h]
      have h255 : (255 : Nat) = 2 ^ 8 - 1 := rfl
      split
      · rw [h255,Nat.and_two_pow_sub_one_eq_mod]; simp
      · rw [h255,Nat.and_two_pow_sub_one_eq_mod]; simp
    simp only [mixN]
    omega
theorem mx_range : ∀ (k : Nat) (a b mask : Int),0≤a→0≤b→0≤mask→ofZ ((List.range k).map fun i => if namedZ mask i = true then (bytesN k b).getD i 0 else (bytesN k a).getD i 0) = (mixN k a.toNat b.toNat mask.toNat : Nat)
  | 0,a,b,mask,_,_,_ => by simp [ofZ,mixN]
  | k + 1,a,b,mask,ha,hb,hm => by
    have ih := mx_range k (a / 256) (b / 256) (mask / 2) (by omega) (by omega) (by omega)
    have e1 : (a / 256).toNat = a.toNat / 256 := by omega
    have e2 : (b / 256).toNat = b.toNat / 256 := by omega
    have e3 : (mask / 2).toNat = mask.toNat / 2 := by omega
    rw [e1,e2,e3] at ih
    rw [List.range_succ_eq_map,List.map_cons,List.map_map,ofZ]
    have h : (List.range k).map ((fun i => if namedZ mask i = true then (bytesN (k + 1) b).getD i 0 else (bytesN (k + 1) a).getD i 0) ∘ Nat.succ) = (List.range k).map fun i => if namedZ (mask / 2) i = true then (bytesN k (b / 256)).getD i 0 else (bytesN k (a / 256)).getD i 0 := by
      refine List.map_congr_left fun i _ => ?_
      have hn : namedZ mask (i + 1) = namedZ (mask / 2) i := by
        unfold namedZ
        have : mask / 2 ^ (i + 1) = mask / 2 / 2 ^ i := by
          rw [Int.ediv_ediv_of_nonneg (by decide),Int.pow_succ,Int.mul_comm]
        rw [this]
      simp [bytesN,hn]
    rw [h,ih]
    have h0 : (namedZ mask 0 = true) = (mask.toNat % 2 = 1) := by
      simp [namedZ]
      omega
    simp only [h0,mixN,bytesN,List.getD_cons_zero]
    split <;> omega
theorem mixZ_nat {a b mask : Int} (ha : u64R a) (hb : u64R b) (h0 : 0≤mask) : mixZ a b mask = (mixN 8 a.toNat b.toNat mask.toNat : Nat) := by
  rw [← mx_range 8 a b mask ha.1 hb.1 h0]
  unfold mixZ mixL bytesZ
  rw [List.drop_eq_nil_of_le (by simp),List.append_nil]
def wS (mask : Int) : Nat→Int
  | 0 => 0
  | i + 1 => if bits .and .u8 (mask / 2 ^ min i 8) 1 = 1 then bits .or .u64 (wS mask i) (IntKind.u64.wrap (255 * 2 ^ min (8 * i) 64)) else wS mask i
theorem wS_all : ∀ m : Nat,m < 256→wS m 8 = (wideN 8 m : Nat) := by decide +kernel
section
variable {n0 : Nat} {w0 : World} {I0 : Nat→Prop} {Q : Exit→Sta→Prop}
theorem mxwide_l1 {mask : Int} (hq : ∀ q,Q (.exit 0) ⟨lk [(0,u8 mask),(3,uv (wS mask 8)),(5,iv 8),(6,bv q)],lkH []⟩) :
    ∀ (j i : Nat),i + j = 8→LoopC (cx Tryz.prog w0 I0 n0) l1_word_Wide Q ⟨lk [(0,u8 mask),(3,uv (wS mask i)),(5,iv i)],lkH []⟩ := by
  intro j
  induction j with
  | zero =>
    intro i hi
    have : i = 8 := by omega
    subst this
    refine loopC_once mixed l1_word_Wide.eq_1 ?_
    simp
    exact hq _
  | succ j ih =>
    intro i hi
    refine loopC_once mixed l1_word_Wide.eq_1 ?_
    have hlt : i < 8 := by omega
    have hlt2 : (i : Int) < 8 := by omega
    have e8 : IntKind.i64.wrap (8 * (i : Int)) = ((8 * i : Nat) : Int) := (i64_same (by omega) (by omega)).trans (by omega)
    have ei : IntKind.i64.wrap ((i : Int) + 1) = ((i + 1 : Nat) : Int) := i64_same (by omega) (by omega)
    have b8 : IntKind.u8.bits = 8 := rfl
    have b64 : IntKind.u64.bits = 64 := rfl
    have hs := ih (i + 1) (by omega)
    rw [wS] at hs
    have e9 : (8 * (i : Int)).toNat = 8 * i := by omega
    simp [hlt,hlt2,e8,ei,b8,b64,e9]
    refine ⟨fun hc => ⟨by omega,?_⟩,fun hc => ?_⟩
    · rw [if_pos hc] at hs
      exact hs
    · rw [if_neg hc] at hs
      exact hs
end
theorem pWide_spec {mask : Int} (h0 : 0≤mask) (h1 : mask < 256) : G.Spec Tryz.prog 146 [u8 mask] (uv (wideN 8 mask.toNat : Nat)) := by
  refine spec_of t_word_Wide (by simp) fun w0 I0 => ?_
  unfold c_word_Wide
  simp
  obtain ⟨m,rfl⟩ := Int.eq_ofNat_of_zero_le h0
  refine mxwide_l1 (fun q => ?_) 8 0 rfl
  simp
  rw [wS_all m (by omega)]
  exact frz_bare rfl
theorem mx_nat {x : Nat} (h : x < 2 ^ 64) : (BitVec.ofInt 64 (x : Int)).toNat = x := by
  rw [BitVec.toNat_ofInt]
  omega
theorem mx_and {x y : Nat} (hx : x < 2 ^ 64) (hy : y < 2 ^ 64) : bits .and .u64 x y = (x &&& y : Nat) := by
  have h := Nat.lt_of_le_of_lt (Nat.and_le_left (n := x) (m := y)) hx
  show IntKind.u64.wrap ((BitVec.ofInt 64 x &&& BitVec.ofInt 64 y).toNat : Nat) = _
  rw [BitVec.toNat_and,mx_nat hx,mx_nat hy]
  exact u64_same (by omega) (by omega)
theorem mx_or {x y : Nat} (hx : x < 2 ^ 64) (hy : y < 2 ^ 64) : bits .or .u64 x y = (x ||| y : Nat) := by
  have h := Nat.or_lt_two_pow hx hy
  show IntKind.u64.wrap ((BitVec.ofInt 64 x ||| BitVec.ofInt 64 y).toNat : Nat) = _
  rw [BitVec.toNat_or,mx_nat hx,mx_nat hy]
  exact u64_same (by omega) (by omega)
theorem mx_andN {x y : Nat} (hx : x < 2 ^ 64) (hy : y < 2 ^ 64) : bits .andNot .u64 x y = (x &&& (256 ^ 8 - 1 - y) : Nat) := by
  have h := Nat.lt_of_le_of_lt (Nat.and_le_left (n := x) (m := 256 ^ 8 - 1 - y)) hx
  show IntKind.u64.wrap ((BitVec.ofInt 64 x &&& ~~~ BitVec.ofInt 64 y).toNat : Nat) = _
  rw [BitVec.toNat_and,BitVec.toNat_not,mx_nat hx,mx_nat hy]
  have e : (2 : Nat) ^ 64 - 1 - y = 256 ^ 8 - 1 - y := rfl
  rw [e]
  exact u64_same (by omega) (by omega)
theorem pMix_spec {a b mask : Int} (ha : u64R a) (hb : u64R b) (h0 : 0≤mask) (h1 : mask < 256) : G.Spec Tryz.prog 126 [uv a,uv b,u8 mask] (uv (mixZ a b mask)) := by
  refine spec_of t_word_Mix (by simp) fun w0 I0 => ?_
  unfold c_word_Mix
  simp
  refine sc_call (pWide_spec h0 h1) (by simp) ?_
  simp
  refine sc_call (pWide_spec h0 h1) (by simp) ?_
  simp
  refine frz_int ?_
  rw [mixZ_nat ha hb h0]
  obtain ⟨x,rfl⟩ := Int.eq_ofNat_of_zero_le ha.1
  obtain ⟨y,rfl⟩ := Int.eq_ofNat_of_zero_le hb.1
  have hx : x < 2 ^ 64 := by have := ha.2; omega
  have hy : y < 2 ^ 64 := by have := hb.2; omega
  have hw : wideN 8 mask.toNat < 2 ^ 64 := wideN_lt 8 _
  rw [mx_andN hx hw,mx_and hy hw,mx_or (Nat.lt_of_le_of_lt Nat.and_le_left hx) (Nat.lt_of_le_of_lt Nat.and_le_left hy)]
  have := mixN_bits 8 x y mask.toNat hx hy
  simp only [Int.toNat_natCast]
  rw [← this]
end Go.Proofs.YthfiijdbnkaabaaGreat

namespace Go.Proofs.YthfiijdbnkaabaaGreat
set_option linter.unusedVariables false
set_option linter.unusedSimpArgs false
open Go Go.G Go.Proofs Go.PL
theorem pNone_spec {t : T} (h : wfT t) : G.Spec Tryz.prog 125 [tX t] (bv (noneT t)) := by
  have hw := (wfT_iff.1 h).wl
  have hk := (wfT_iff.1 h).kl
  refine spec_of t_edit_bare_1 (by simp) fun w0 I0 => ?_
  unfold c_edit_bare_1
  simp
  have e : IntKind.i64.wrap ((t.words.length : Int) + t.kids.length) = (t.words.length : Int) + t.kids.length := i64_same (by omega) (by omega)
  simp [e]
  refine frz_bool ?_
  rw [Bool.eq_iff_iff]
  simp [noneT,List.isEmpty_iff,← List.length_eq_zero_iff]
  omega
def bareB (k : Int) (o n : T) (nw nk : Nat) (l : Int) (no : Nat) : Bool := !(!decide (k = 1) && !(noneT o && noneT n)) && !(!decide (k = 2) && decide (0 < nw + nk)) && (decide (k = 3) || decide (l = 0) && decide (no = 0))
def bareE (e : E) : Bool := bareB e.kind e.old e.new e.words.length e.kids.length e.list e.ops.length
theorem headOk_bare {d : Nat} {k : Int} {o n : T} {nw nk : Nat} {l : Int} {no : Nat} : headOk d k o n nw nk l no = (!(decide (d = 0) || decide (k < 0) || decide (k > 3)) && bareB k o n nw nk l no) := by
  rw [Bool.eq_iff_iff,headOk_iff]
  unfold bareB
  simp only [Bool.and_eq_true,Bool.not_eq_true',Bool.or_eq_false_iff,Bool.or_eq_true,Bool.and_eq_false_iff,decide_eq_false_iff_not,Bool.not_eq_false',decide_eq_true_eq]
  constructor
  · rintro ⟨h1,h2,h3,h4,h5,h6⟩
    refine ⟨⟨⟨h1,by omega⟩,by omega⟩,⟨?_,?_⟩,?_⟩
    · by_cases hk : k = 1
      · exact .inl hk
      · exact .inr (h4 hk)
    · by_cases hk : k = 2
      · exact .inl hk
      · exact .inr (by have := h5 hk; omega)
    · by_cases hk : k = 3
      · exact .inl hk
      · exact .inr (h6 hk)
  · rintro ⟨⟨⟨h1,h2⟩,h3⟩,⟨h4,h5⟩,h6⟩
    refine ⟨h1,by omega,by omega,fun hk => ?_,fun hk => ?_,fun hk => ?_⟩
    · rcases h4 with h4 | h4
      · exact absurd h4 hk
      · exact h4
    · rcases h5 with h5 | h5
      · exact absurd h5 hk
      · omega
    · rcases h6 with h6 | h6
      · exact absurd h6 hk
      · exact h6
set_option maxRecDepth 8000 in
theorem pBare_spec {e : E} (h : WfE e) : G.Spec Tryz.prog 87 [eX e] (bv (bareE e)) := by
  have hwl := h.wl
  have hkl := h.kl
  have hol := h.ol
  have e1 : IntKind.i64.wrap ((e.words.length : Int) + e.kids.length) = (e.words.length : Int) + e.kids.length := i64_same (by omega) (by omega)
  obtain ⟨R,hR⟩ : ∃ R,R = bareE e := ⟨_,rfl⟩
  rw [← hR]
  have c2 : (decide (0 < (e.words.length : Int) + e.kids.length)) = decide (0 < e.words.length + e.kids.length) := by rw [Bool.eq_iff_iff]; simp; omega
  refine spec_of t_edit_bare (by simp) fun w0 I0 => ?_
  unfold c_edit_bare
  unfold bareE at hR
  have cl : decide (e.ops.length = 0) = decide (e.ops = []) := by rw [Bool.eq_iff_iff]; simp
  by_cases k1 : e.kind = 1
  · have k2 : ¬ e.kind = 2 := by omega
    have k3 : ¬ e.kind = 3 := by omega
    have hR' : R = (!decide (0 < e.words.length + e.kids.length) && (decide (e.list = 0) && decide (e.ops = []))) := by
      rw [hR,← cl]; simp [bareB,k1]
    simp [k1]
    rw [sc_guard]; simp
    rw [sc_guard]; simp
    simp [e1,k2,k3]
    refine ⟨fun hc => ?_,fun hc => ?_⟩
    · have a1 : 0 < e.words.length + e.kids.length := by omega
      exact frz_bool (by rw [hR']; simp [a1])
    · have a1 : ¬ 0 < e.words.length + e.kids.length := by omega
      exact frz_bool (by rw [hR']; simp [a1])
  · simp [k1]
    rw [sc_guard]; simp
    refine sc_callv rfl (pNone_spec h.o) rfl ?_
    cases n1 : noneT e.old with
    | false =>
      simp
      rw [sc_guard]; simp
      exact frz_bool (by rw [hR]; simp [bareB,k1,n1])
    | true =>
      simp
      rw [sc_guard]; simp
      refine sc_callv rfl (pNone_spec h.n) rfl ?_
      cases n2 : noneT e.new with
      | false =>
        simp
        exact frz_bool (by rw [hR]; simp [bareB,k1,n1,n2])
      | true =>
        simp
        have hR' : R = (!(!decide (e.kind = 2) && decide (0 < e.words.length + e.kids.length)) && (decide (e.kind = 3) || decide (e.list = 0) && decide (e.ops = []))) := by
          rw [hR,← cl]; simp [bareB,k1,n1,n2]
        by_cases k2 : e.kind = 2
        · have k3 : ¬ e.kind = 3 := by omega
          simp [e1,k2]
          exact frz_bool (by rw [hR']; simp [k2])
        · by_cases k3 : e.kind = 3
          · simp [e1,k3]
            refine ⟨fun hc => ?_,fun hc => ?_⟩
            · have a1 : 0 < e.words.length + e.kids.length := by omega
              exact frz_bool (by rw [hR']; simp [a1,k2])
            · have a1 : ¬ 0 < e.words.length + e.kids.length := by omega
              exact frz_bool (by rw [hR']; simp [a1,k3])
          · simp [e1,k2,k3]
            refine ⟨fun hc => ?_,fun hc => ?_⟩
            · have a1 : 0 < e.words.length + e.kids.length := by omega
              exact frz_bool (by rw [hR']; simp [a1,k2])
            · have a1 : ¬ 0 < e.words.length + e.kids.length := by omega
              exact frz_bool (by rw [hR']; simp [a1,k3,k2])
theorem pValue_spec {t : T} (h : wfT t) : G.Spec Tryz.prog 88 [tX t] (bv (!decide (t.kind = 10) && rightT 64 t)) := by
  refine spec_of t_edit_value (by simp) fun w0 I0 => ?_
  unfold c_edit_value
  by_cases k1 : t.kind = 10
  · simp [k1]
    refine sc_call_off rfl ?_
    simp
    exact frz_bare rfl
  · simp [k1]
    refine sc_call_gt rfl (fun _ => ptRight_spec h) (fun _ => rfl) rfl ?_
    simp
    exact frz_bare rfl
section
variable {n0 : Nat} {w0 : World} {I0 : Nat→Prop} {Q : Exit→Sta→Prop}
theorem pwords_k1 {Q' : Exit→Sta→Prop} {x : WE} (hw : WE.wf x) {a b c d : A} {u : Nat} {H : Hp} (hH : H [0] = ⟨u,.cells [iv x.at_,u8 x.mask,uv x.old,uv x.new]⟩)
    (h1 : (withinZ x.old x.mask && withinZ x.new x.mask) = true→Q' .normal ⟨lk [(0,a),(5,b),(6,c),(7,d),(53,bv false)],H⟩) (h2 : (withinZ x.old x.mask && withinZ x.new x.mask) = false→Q' .ret ⟨lk [(2,bv false)],H⟩) :
    WPC (cx Tryz.prog w0 I0 n0) k1_edit_words Q' ⟨lk [(0,a),(4,.pob [0] u 0),(5,b),(6,c),(7,d)],H⟩ := by
  obtain ⟨w1,w2,w3,w4⟩ := hw
  have z := mix_zero x.old x.mask
  have z2 := mix_zero x.new x.mask
  have u0 : u64R 0 := ⟨by omega,by omega⟩
  rw [k1_edit_words.eq_1]
  simp [hH]
  refine sc_call (pMix_spec w3 u0 w2.1 w2.2) rfl ?_
  by_cases m1 : mixZ x.old 0 x.mask = 0
  · rw [m1] at z ⊢
    simp [hH]
    refine sc_call_gf rfl (fun _ => pMix_spec w4 u0 w2.1 w2.2) (fun _ => rfl) rfl ?_
    by_cases m2 : mixZ x.new 0 x.mask = 0
    · rw [m2] at z2 ⊢
      simp
      exact h1 (by rw [← z,← z2]; simp)
    · simp [m2]
      exact h2 (by rw [← z,← z2]; simp [m2])
  · simp [m1]
    refine sc_call_off rfl ?_
    simp
    exact h2 (by rw [← z]; simp [m1])
theorem pwords_l1 {ws : List WE} (hl : ws.length * 32≤140737488355328) (hw : ∀ x,x ∈ ws→WE.wf x) : ∀ (m i : Nat) (last : Int) (H : Hp),i + m = ws.length→-1≤last→(i = 0→last = -1)→(∀ h : 0 < i∧i≤ws.length,ws[i - 1].at_ = last) →
    (wordsOk last (ws.drop i) = true→∀ q H',Q (.exit 0) ⟨lk [(0,wKs ws),(5,wKs ws),(6,iv ws.length),(7,iv ws.length),(8,bv q)],H'⟩)→(wordsOk last (ws.drop i) = false→∀ H',Q .ret ⟨lk [(2,bv false)],H'⟩) →
    LoopC (cx Tryz.prog w0 I0 n0) l1_edit_words Q ⟨lk [(0,wKs ws),(5,wKs ws),(6,iv ws.length),(7,iv i)],H⟩ := by
  intro m
  induction m with
  | zero =>
    intro i last H hi hm h0 hp h1 h2
    have : i = ws.length := by omega
    subst this
    refine loopC_once mixed l1_edit_words.eq_1 ?_
    simp
    exact h1 (by simp [wordsOk]) _ _
  | succ m ihm =>
    intro i last H hi hm h0 hp h1 h2
    have hlt : i < ws.length := by omega
    have ed : ws.drop i = ws[i] :: ws.drop (i + 1) := List.drop_eq_getElem_cons hlt
    have ei : IntKind.i64.wrap ((i : Int) + 1) = ((i + 1 : Nat) : Int) := i64_same (by omega) (by omega)
    obtain ⟨w1,w2,w3,w4⟩ := hw _ (List.getElem_mem hlt)
    have next := fun H' (hr : wordOk last ws[i] = true) => ihm (i + 1) ws[i].at_ H' (by omega) (by
      simp [wordOk] at hr
      omega) (fun h => by omega) (fun h => rfl) (fun hh => h1 (by rw [ed,wordsOk,hr,hh]; rfl)) (fun hh => h2 (by rw [ed,wordsOk,hr,hh]; rfl))
    have bad : wordOk last ws[i] = false→∀ H',Q .ret ⟨lk [(2,bv false)],H'⟩ := fun hr => h2 (by rw [ed,wordsOk,hr]; rfl)
    clear h1 h2 ed ihm
    generalize hx : ws[i] = x at *
    have hok : wordOk last x = !(decide (x.at_≤last) || decide (65534 < x.at_) || decide (x.mask = 0) || !withinZ x.old x.mask || !withinZ x.new x.mask) := rfl
    refine loopC_once mixed l1_edit_words.eq_1 ?_
    by_cases hA : x.at_ < 0∨65535≤x.at_∨x.at_≤last∨x.mask = 0
    · have hb : wordOk last x = false := by
        rw [hok]
        rcases hA with h | h | h | h
        · have : x.at_≤last := by omega
          simp [this]
        · have : 65534 < x.at_ := by omega
          simp [this]
        · simp [h]
        · simp [h]
      by_cases i0 : i = 0
      · have hl1 := h0 i0
        subst i0
        have : (decide (x.at_ < 0) || decide (65535≤x.at_) || decide (x.mask = 0)) = true := by simp; omega
        simp [hx,hlt,updF_app,this]
        exact bad hb _
      · have i1 : 0 < i := by omega
        have hpi := hp ⟨i1,by omega⟩
        have em : IntKind.i64.wrap ((i : Int) - 1) = ((i - 1 : Nat) : Int) := by rw [i64_same (by omega) (by omega)]; omega
        have : (decide (x.at_ < 0) || decide (65535≤x.at_) || decide (x.at_≤last) || decide (x.mask = 0)) = true := by simp; omega
        have hlt1 : i - 1 < ws.length := by omega
        simp [hx,hlt,i1,em,hlt1,hpi,updF_app,this]
        exact bad hb _
    · have c1 : ¬ x.at_ < 0 := by omega
      have c2 : ¬ 65535≤x.at_ := by omega
      have c3 : ¬ x.at_≤last := by omega
      have c4 : ¬ x.mask = 0 := by omega
      have c2' : ¬ 65534 < x.at_ := by omega
      have hok' : wordOk last x = (withinZ x.old x.mask && withinZ x.new x.mask) := by rw [hok]; simp [c2',c3,c4]
      have wfx : WE.wf x := ⟨w1,w2,w3,w4⟩
      by_cases i0 : i = 0
      · subst i0
        simp [hx,hlt,updF_app,c1,c2,c4]
        refine stop_go (pwords_k1 wfx (by simp [updF_app]) (fun hr => ?_) (fun hr => ?_))
        · simp at ei
          simp [ei]
          exact next _ (by rw [hok',hr])
        · simp
          exact bad (by rw [hok',hr]) _
      · have i1 : 0 < i := by omega
        have hpi := hp ⟨i1,by omega⟩
        have em : IntKind.i64.wrap ((i : Int) - 1) = ((i - 1 : Nat) : Int) := by rw [i64_same (by omega) (by omega)]; omega
        have hlt1 : i - 1 < ws.length := by omega
        simp [hx,hlt,i1,em,hlt1,hpi,updF_app,c1,c2,c3,c4]
        refine stop_go (pwords_k1 wfx (by simp [updF_app]) (fun hr => ?_) (fun hr => ?_))
        · simp [ei]
          exact next _ (by rw [hok',hr])
        · simp
          exact bad (by rw [hok',hr]) _
end
theorem pWords_spec {ws : List WE} (hl : ws.length * 32≤140737488355328) (hw : ∀ x,x ∈ ws→WE.wf x) : G.Spec Tryz.prog 89 [wKs ws] (bv (wordsOk (-1) ws)) := by
  refine spec_of t_edit_words (by simp) fun w0 I0 => ?_
  unfold c_edit_words
  simp
  refine pwords_l1 hl hw ws.length 0 (-1) _ (by simp) (by omega) (fun _ => rfl) (fun h => by omega) (fun hr q H' => ?_) (fun hr H' => ?_)
  · simp
    exact frz_bool (by simpa using hr.symm)
  · simp
    exact frz_bool (by simpa using hr.symm)
end Go.Proofs.YthfiijdbnkaabaaGreat

namespace Go.Proofs.YthfiijdbnkaabaaGreat
set_option linter.unusedVariables false
set_option linter.unusedSimpArgs false
open Go Go.G Go.Proofs Go.PL
abbrev PRightS (e : E) : Prop := ∀ d : Nat,d≤1000→G.Spec Tryz.prog 57 [eX e,iv d] (bv (rightE d e))
section
variable {n0 : Nat} {w0 : World} {I0 : Nat→Prop} {Q : Exit→Sta→Prop}
theorem pkids_l1 {ks : List KE} {d : Nat} (hd : d≤1000) (hl : ks.length * 208≤140737488355328) (ih : ∀ x,x ∈ ks→PRightS x.e) : ∀ (m i : Nat) (last : Int) (H : Hp),i + m = ks.length→-1≤last→(i = 0→last = -1)→(∀ h : 0 < i∧i≤ks.length,ks[i - 1].at_ = last) →
    (rightKs d last (ks.drop i) = true→∀ q H',Q (.exit 0) ⟨lk [(0,kKs ks),(1,iv d),(7,kKs ks),(8,iv ks.length),(9,iv ks.length),(10,bv q)],H'⟩)→(rightKs d last (ks.drop i) = false→∀ H',Q .ret ⟨lk [(4,bv false)],H'⟩) →
    LoopC (cx Tryz.prog w0 I0 n0) l1_edit_kids Q ⟨lk [(0,kKs ks),(1,iv d),(7,kKs ks),(8,iv ks.length),(9,iv i)],H⟩ := by
  intro m
  induction m with
  | zero =>
    intro i last H hi hm h0 hp h1 h2
    have : i = ks.length := by omega
    subst this
    refine loopC_once mixed l1_edit_kids.eq_1 ?_
    simp
    exact h1 (by simp) _ _
  | succ m ihm =>
    intro i last H hi hm h0 hp h1 h2
    have hlt : i < ks.length := by omega
    have ed : ks.drop i = ks[i] :: ks.drop (i + 1) := List.drop_eq_getElem_cons hlt
    have ei : IntKind.i64.wrap ((i : Int) + 1) = ((i + 1 : Nat) : Int) := i64_same (by omega) (by omega)
    have ihx := ih _ (List.getElem_mem hlt) d hd
    have next := fun H' (ha : last < ks[i].at_∧ks[i].at_≤65534) (hk : ¬ ks[i].e.kind = 0) (hr : rightE d ks[i].e = true) => ihm (i + 1) ks[i].at_ H' (by omega) (by omega) (fun h => by omega) (fun h => rfl)
      (fun hh => h1 (by rw [ed,rightKs_cons,hr,hh]; simp [hk]; omega)) (fun hh => h2 (by rw [ed,rightKs_cons,hr,hh]; simp))
    have bad : (ks[i].at_≤last∨65534 < ks[i].at_∨ks[i].e.kind = 0∨rightE d ks[i].e = false)→∀ H',Q .ret ⟨lk [(4,bv false)],H'⟩ := fun hr => h2 (by
      rw [ed,rightKs_cons]
      rcases hr with h | h | h | h <;> simp [h])
    clear h1 h2 ed ihm
    generalize hx : ks[i] = x at *
    refine loopC_once mixed l1_edit_kids.eq_1 ?_
    by_cases hA : x.at_ < 0∨65535≤x.at_∨x.at_≤last∨x.e.kind = 0
    · have hb := bad (by omega)
      by_cases i0 : i = 0
      · have hl1 := h0 i0
        subst i0
        have : (decide (x.at_ < 0) || decide (65535≤x.at_) || decide (x.e.kind = 0)) = true := by simp; omega
        simp [hx,hlt,updF_app,this]
        refine sc_call_off rfl ?_
        simp [this]
        exact hb _
      · have i1 : 0 < i := by omega
        have hpi := hp ⟨i1,by omega⟩
        have em : IntKind.i64.wrap ((i : Int) - 1) = ((i - 1 : Nat) : Int) := by rw [i64_same (by omega) (by omega)]; omega
        have : (decide (x.at_ < 0) || decide (65535≤x.at_) || decide (x.at_≤last) || decide (x.e.kind = 0)) = true := by simp; omega
        have hlt1 : i - 1 < ks.length := by omega
        simp [hx,hlt,i1,em,hlt1,hpi,updF_app,this]
        refine sc_call_off rfl ?_
        simp [this]
        exact hb _
    · have c1 : ¬ x.at_ < 0 := by omega
      have c2 : ¬ 65535≤x.at_ := by omega
      have c3 : ¬ x.at_≤last := by omega
      have c4 : ¬ x.e.kind = 0 := by omega
      by_cases i0 : i = 0
      · subst i0
        simp [hx,hlt,updF_app,c1,c2,c4]
        refine sc_call_gf rfl (fun _ => ihx) (fun _ => rfl) rfl ?_
        cases hr : rightE d x.e with
        | false => simp; exact bad (.inr (.inr (.inr hr))) _
        | true =>
          simp at ei
          simp [ei]
          exact next _ (by omega) c4 hr
      · have i1 : 0 < i := by omega
        have hpi := hp ⟨i1,by omega⟩
        have em : IntKind.i64.wrap ((i : Int) - 1) = ((i - 1 : Nat) : Int) := by rw [i64_same (by omega) (by omega)]; omega
        have hlt1 : i - 1 < ks.length := by omega
        simp [hx,hlt,i1,em,hlt1,hpi,updF_app,c1,c2,c3,c4]
        refine sc_call_gf rfl (fun _ => ihx) (fun _ => rfl) rfl ?_
        cases hr : rightE d x.e with
        | false => simp; exact bad (.inr (.inr (.inr hr))) _
        | true => simp [ei]; exact next _ (by omega) c4 hr
end
theorem pKids_spec {ks : List KE} {d : Nat} (hd : d≤1000) (hl : ks.length * 208≤140737488355328) (ih : ∀ x,x ∈ ks→PRightS x.e) : G.Spec Tryz.prog 90 [kKs ks,iv d] (bv (rightKs d (-1) ks)) := by
  refine spec_of t_edit_kids (by simp) fun w0 I0 => ?_
  unfold c_edit_kids
  simp
  refine pkids_l1 hd hl ih ks.length 0 (-1) _ (by simp) (by omega) (fun _ => rfl) (fun h => by omega) (fun hr q H' => ?_) (fun hr H' => ?_)
  · simp
    exact frz_bool (by simpa using hr.symm)
  · simp
    exact frz_bool (by simpa using hr.symm)
theorem wf_one {list : Int} (hk : i64R list) {t : T} (h : wfT t) : wfT (.mk list [] [t]) := wfT_iff.2 ⟨hk,by simp,by simp,by simp,fun x hx => by simp at hx; rw [hx]; exact h⟩
theorem peKid_spec {list : Int} (hk : i64R list) {t : T} (h : wfT t) : G.Spec Tryz.prog 149 [iv list,tX t] (bv (rightT 64 (.mk list [] [t]))) := by
  refine spec_of t_edit_kid (by simp) fun w0 I0 => ?_
  unfold c_edit_kid
  simp
  refine sc_calle rfl ((ptRight_spec (wf_one hk h)).soft (by simp [A.softL,A.soft,soft_uv,soft_tKs])) rfl ?_
  simp
  exact frz_bare rfl
def withinB (list : Int) (e : E) : Bool := !(isData list || decide (e.kind = 0)) && ((decide (list = 8) || decide (e.kind = 2)) || (decide (e.kind = 1) && decide (e.old.kind = 1) && decide (e.new.kind = 1)))
set_option maxRecDepth 8000 in
theorem pWithin_spec (list : Int) (e : E) : G.Spec Tryz.prog 150 [iv list,eX e] (bv (withinB list e)) := by
  obtain ⟨R,hR⟩ : ∃ R,R = withinB list e := ⟨_,rfl⟩
  rw [← hR]
  unfold withinB at hR
  refine spec_of t_edit_within (by simp) fun w0 I0 => ?_
  unfold c_edit_within
  simp
  refine sc_call (data_spec list) rfl ?_
  cases hd : isData list with
  | true => simp; exact frz_bool (by rw [hR]; simp [hd])
  | false =>
    by_cases k0 : e.kind = 0
    · simp [k0]; exact frz_bool (by rw [hR]; simp [k0])
    · by_cases l8 : list = 8
      · simp [k0,l8]; exact frz_bool (by rw [hR]; simp [hd,k0,l8,isData])
      · by_cases k2 : e.kind = 2
        · simp [l8,k2]; exact frz_bool (by rw [hR]; simp [hd,k2])
        · by_cases k1 : e.kind = 1
          · simp [l8,k1]; exact frz_bool (by rw [hR]; simp [hd,k1,l8])
          · simp [k0,l8,k2,k1]; exact frz_bool (by rw [hR]; simp [hd,k0,k1,k2,l8])
abbrev boxI (list : Int) : A := .pim [iv list]
theorem opKid_spec {list : Int} (hk : i64R list) {t : T} (h : wfT t) : G.Spec Tryz.prog 148 [tX t,boxI list] (bv (!rightT 64 (.mk list [] [t]))) := by
  refine spec_of t_edit_op_1 (by simp) fun w0 I0 => ?_
  unfold c_edit_op_1
  simp
  refine sc_call (peKid_spec hk h) rfl ?_
  simp
  exact frz_bare rfl
def idxZ (p : T→Bool) : Nat→List T→Int
  | _,[] => -1
  | i,t :: l => if p t = true then i else idxZ p (i + 1) l
theorem idxZ_any (p : T→Bool) : ∀ (l : List T) (i : Nat),decide (0≤idxZ p i l) = l.any p
  | [],i => rfl
  | t :: l,i => by
    rw [idxZ,List.any_cons]
    cases h : p t with
    | true => simp
    | false => simp only [Bool.false_eq_true,if_false,Bool.false_or]; exact idxZ_any p l (i + 1)
abbrev clo (list : Int) : A := .fnc 148 [] [boxI list]
section
variable {n0 : Nat} {w0 : World} {I0 : Nat→Prop} {Q : Exit→Sta→Prop}
theorem index_l1 {list : Int} (hk : i64R list) {l : List T} (hl : l.length * 56≤140737488355328) (hw : ∀ t,t ∈ l→wfT t) {R : Int} {H : Hp} : ∀ (m i : Nat),i + m = l.length→R = idxZ (fun t => !rightT 64 (.mk list [] [t])) i (l.drop i) →
    (R = -1→∀ q,Q (.exit 0) ⟨lk [(0,tKs l),(1,clo list),(7,iv l.length),(8,iv l.length),(9,bv q)],H⟩)→(Q .ret ⟨lk [(4,iv R)],H⟩) →
    LoopC (cx Tryz.prog w0 I0 n0) l1_slices_IndexFunc_api_Tree_api_Tree Q ⟨lk [(0,tKs l),(1,clo list),(7,iv l.length),(8,iv i)],H⟩ := by
  intro m
  induction m with
  | zero =>
    intro i hi hR h1 h2
    have : i = l.length := by omega
    subst this
    refine loopC_once mixed l1_slices_IndexFunc_api_Tree_api_Tree.eq_1 ?_
    simp
    exact h1 (by rw [hR]; simp [idxZ]) _
  | succ m ih =>
    intro i hi hR h1 h2
    have hlt : i < l.length := by omega
    have ed : l.drop i = l[i] :: l.drop (i + 1) := List.drop_eq_getElem_cons hlt
    have ei : IntKind.i64.wrap ((i : Int) + 1) = ((i + 1 : Nat) : Int) := i64_same (by omega) (by omega)
    rw [ed,idxZ] at hR
    refine loopC_once mixed l1_slices_IndexFunc_api_Tree_api_Tree.eq_1 ?_
    simp [hlt]
    refine sc_callv rfl (opKid_spec hk (hw _ (List.getElem_mem hlt))) rfl ?_
    cases hr : rightT 64 (.mk list [] [l[i]]) with
    | false =>
      rw [if_pos (by rw [hr]; rfl)] at hR
      simp
      rw [← hR]
      exact h2
    | true =>
      rw [if_neg (by rw [hr]; simp)] at hR
      simp [ei]
      exact ih (i + 1) (by omega) hR h1 h2
end
theorem pIndex_spec {list : Int} (hk : i64R list) {l : List T} (hl : l.length * 56≤140737488355328) (hw : ∀ t,t ∈ l→wfT t) : G.Spec Tryz.prog 161 [tKs l,clo list] (iv (idxZ (fun t => !rightT 64 (.mk list [] [t])) 0 l)) := by
  refine spec_of t_slices_IndexFunc_api_Tree_api_Tree (by simp) fun w0 I0 => ?_
  unfold c_slices_IndexFunc_api_Tree_api_Tree
  simp
  refine index_l1 hk hl hw l.length 0 (by simp) rfl (fun hR q => ?_) ?_
  · simp
    exact frz_int (by simpa using hR.symm)
  · simp
    exact frz_int (by simp)
theorem pContains_spec {list : Int} (hk : i64R list) {l : List T} (hl : l.length * 56≤140737488355328) (hw : ∀ t,t ∈ l→wfT t) : G.Spec Tryz.prog 147 [tKs l,clo list] (bv (l.any fun t => !rightT 64 (.mk list [] [t]))) := by
  refine spec_of t_slices_ContainsFunc_api_Tree_api_Tree (by simp) fun w0 I0 => ?_
  unfold c_slices_ContainsFunc_api_Tree_api_Tree
  simp
  refine sc_call (pIndex_spec hk hl hw) rfl ?_
  simp
  exact frz_bool (idxZ_any _ l 0)
theorem same_right {e : E} : (rightE 1 e && decide (e.kind = 0)) = sameE e := by
  rw [Bool.eq_iff_iff,Bool.and_eq_true,decide_eq_true_eq]
  constructor
  · rintro ⟨h,h0⟩
    obtain ⟨k,o,n,ws,ks,l,os⟩ := e
    have R := rightE_iff.1 h
    have h0 : k = 0 := h0
    subst h0
    obtain ⟨rfl,rfl⟩ := R.one (by omega)
    obtain ⟨rfl,rfl⟩ := R.two (by omega)
    obtain ⟨rfl,rfl⟩ := R.three (by omega)
    rfl
  · intro h
    rw [sameE_eq h]
    refine ⟨rightE_iff.2 ⟨by omega,by omega,by omega,fun _ => ⟨rfl,rfl⟩,fun _ => ⟨rfl,rfl⟩,fun _ => ⟨rfl,rfl⟩,fun h => by omega,rfl,by simp,fun h => by omega,by simp,by simp [lengths]⟩,rfl⟩
end Go.Proofs.YthfiijdbnkaabaaGreat

namespace Go.Proofs.YthfiijdbnkaabaaGreat
set_option linter.unusedVariables false
set_option linter.unusedSimpArgs false
open Go Go.G Go.Proofs Go.PL
abbrev oL (o : OP) : List A := iv o.kind :: iv o.n :: tKs o.l :: eL o.e
section
variable {n0 : Nat} {w0 : World} {I0 : Nat→Prop} {Q : Exit→Sta→Prop}
theorem pop_k1 {list : Int} (hk : i64R list) {o : OP} (h : WfO o) (ih : PRightS o.e) {H : Hp} (hH : H [1] = ⟨1,.cells (oL o)⟩) {R : Bool} (hR : R = (decide (o.n = 0) && !o.l.isEmpty && sameE o.e && (o.l.all fun t => rightT 64 (.mk list [] [t])))) :
    WPC (cx Tryz.prog w0 I0 n0) k1_edit_op (RetC Tryz.prog [.tmp 6] (bv R)) ⟨lk [(3,boxI list),(4,.pob [1] 1 0)],H⟩ := by
  have hll := h.ll
  rw [k1_edit_op.eq_1]
  have ih1 := ih 1 (by omega)
  rw [← same_right] at hR
  by_cases c1 : o.n = 0
  rotate_left
  · simp [hH,c1]
    refine sc_call_off rfl ?_
    simp [hH]
    refine sc_call_off rfl ?_
    simp
    exact frz_bool (by rw [hR]; simp [c1])
  by_cases c2 : o.l = []
  · simp [hH,c1,c2]
    refine sc_call_off rfl ?_
    simp [hH,c2]
    refine sc_call_off rfl ?_
    simp
    exact frz_bool (by rw [hR]; simp [c2])
  have c2' : 0 < o.l.length := List.length_pos_iff.2 c2
  have c2e : o.l.isEmpty = false := by cases hh : o.l <;> simp_all
  simp [hH,c1,c2']
  refine sc_call_gt rfl (fun _ => ih1) (fun _ => rfl) rfl ?_
  cases hr : rightE 1 o.e with
  | false =>
    simp [hH,c1,c2']
    refine sc_call_off rfl ?_
    simp
    exact frz_bool (by rw [hR,hr]; simp)
  | true =>
    by_cases c4 : o.e.kind = 0
    · simp [hH,c4]
      refine sc_call_gt rfl (fun _ => pContains_spec hk hll h.l) (fun _ => rfl) rfl ?_
      simp
      refine frz_bool ?_
      rw [hR,hr,c1,c4,c2e]
      simp [List.all_eq_not_any_not]
    · simp [hH,c4]
      refine sc_call_off rfl ?_
      simp
      exact frz_bool (by rw [hR]; simp [c4])
end
set_option maxRecDepth 8000 in
theorem pOp_spec {list : Int} (hk : 2≤list∧list≤9) {o : OP} (h : WfO o) (ih : PRightS o.e) {d : Nat} (hd : d≤1000) : G.Spec Tryz.prog 127 [iv list,oX o,iv d] (bv (rightO d list o)) := by
  have he := wfE_iff.1 h.e
  have hll := h.ll
  have hk64 : i64R list := ⟨by omega,by omega⟩
  obtain ⟨R,hR⟩ : ∃ R,R = rightO d list o := ⟨_,rfl⟩
  rw [← hR]
  rw [rightO_eq] at hR
  unfold opFlat at hR
  refine spec_of t_edit_op (by simp) fun w0 I0 => ?_
  unfold c_edit_op
  have stopper : (o.kind = 1∨o.kind = 2)→StopK (cx Tryz.prog w0 I0 90) (WPC (cx Tryz.prog w0 I0 90) k1_edit_op (RetC Tryz.prog [.tmp 6] (bv R))) ⟨lk [(3,.pob [0] 1 0),(4,.pob [1] 1 0)],lkH [([0],⟨1,.cells [iv list]⟩),([1],⟨1,.cells (oL o)⟩)]⟩ := fun hkk => by
    refine stop_le (le_freezeL (c := cx Tryz.prog w0 I0 90) [[0]] 3 (boxI list) (fun _ _ h => h) ?_) (stop_le (le_list [(3,boxI list),(4,.pob [1] 1 0)] (by simp [upd])) (stop_go ?_))
    · exact frz_pob (cs := [iv list]) (by simp [onlyH]) ⟨frz_bare rfl,trivial⟩ rfl
    · simp [lessH]
      refine pop_k1 hk64 h ih ?_ ?_
      · first | rfl | simp
      rw [hR,if_neg (by omega)]
      by_cases c1 : o.n = 0
      · rw [if_neg (by omega),if_pos (by omega),if_neg (by omega)]
        simp [c1]
        cases o.l.isEmpty <;> simp [Bool.and_comm]
      · rw [if_pos (by omega)]
        simp [c1]
  by_cases k0 : o.kind = 0
  · rw [if_pos k0,if_neg (by omega),Bool.and_true,← same_right] at hR
    simp [k0]
    by_cases c : 1≤o.n∧o.n≤1048576∧o.l = []
    · obtain ⟨a,b,c⟩ := c
      simp [a,b,c]
      refine sc_call_gt rfl (fun _ => ih 1 (by omega)) (fun _ => rfl) rfl ?_
      simp
      refine frz_bool ?_
      rw [hR]
      simp [a,b,c]
    · have hc : (decide (1≤o.n) && decide (o.n≤1048576) && decide (o.l = [])) = false := by
        rw [Bool.eq_false_iff]; intro e; simp at e; exact c ⟨e.1.1,e.1.2,e.2⟩
      simp [hc]
      refine sc_call_off rfl ?_
      simp [hc]
      refine frz_bool ?_
      rw [hR]
      have : (decide (1≤o.n) && decide (o.n≤1048576) && o.l.isEmpty) = false := by
        rw [← hc]; cases o.l <;> simp
      rw [this]
      rfl
  by_cases k1 : o.kind = 1
  · simp [k1]
    repeat rw [InBlock_other (by decide)]
    try simp
    repeat rw [InBlock_other (by decide)]
    try simp
    repeat rw [InBlock_other (by decide)]
    try simp
    have := stopper (.inl k1)
    unfold oL at this
    rw [k1] at this
    exact this
  by_cases k2 : o.kind = 2
  · simp [k2]
    repeat rw [InBlock_other (by decide)]
    try simp
    repeat rw [InBlock_other (by decide)]
    try simp
    repeat rw [InBlock_other (by decide)]
    try simp
    have := stopper (.inr k2)
    unfold oL at this
    rw [k2] at this
    exact this
  by_cases k3 : o.kind = 3
  · rw [if_neg k0,if_pos k3] at hR
    simp [k3]
    repeat rw [InBlock_other (by decide)]
    try simp
    repeat rw [InBlock_other (by decide)]
    try simp
    repeat rw [InBlock_other (by decide)]
    try simp
    have hfit : withinB list o.e = (!decide (o.e.kind = 0) && !decide (list≤7) && opFit list o) := by
      have hd7 : isData list = decide (list≤7) := by rw [Bool.eq_iff_iff]; simp [isData]; omega
      unfold withinB opFit
      rw [hd7]
      cases decide (list≤7) <;> cases decide (o.e.kind = 0) <;> simp [Bool.or_assoc]
    by_cases c : o.n = 0∧o.l = []
    · obtain ⟨c1,c2⟩ := c
      have hR' : R = (withinB list o.e && rightE d o.e) := by
        rw [hR,if_neg (by omega),if_neg (by omega),hfit]
        unfold opDeep
        rw [c2]
        cases rightE d o.e <;> simp
      simp [c1,c2]
      refine sc_call_gt rfl (fun _ => pWithin_spec list o.e) (fun _ => rfl) rfl ?_
      cases hw : withinB list o.e with
      | false =>
        simp
        refine sc_call_off rfl ?_
        simp
        exact frz_bool (by rw [hR',hw]; rfl)
      | true =>
        simp
        refine sc_call_gt rfl (fun _ => ih d hd) (fun _ => rfl) rfl ?_
        simp
        exact frz_bool (by rw [hR',hw]; simp)
    · have hc : (decide (o.n = 0) && decide (o.l = [])) = false := by
        rw [Bool.eq_false_iff]; intro e; simp at e; exact c e
      simp [hc]
      refine sc_call_off rfl ?_
      simp [hc]
      refine sc_call_off rfl ?_
      simp [hc]
      refine frz_bool ?_
      rw [hR]
      by_cases c1 : o.n = 0
      · have c2 : o.l.isEmpty = false := by
          cases hh : o.l with
          | nil => exact absurd ⟨c1,hh⟩ c
          | cons x l => rfl
        unfold opDeep
        rw [c2]
        simp
      · rw [if_pos (by omega)]
        rfl
  · simp [k0,k1,k2,k3]
    repeat rw [InBlock_other (by decide)]
    try simp
    repeat rw [InBlock_other (by decide)]
    try simp
    repeat rw [InBlock_other (by decide)]
    try simp
    refine frz_bool ?_
    rw [hR,if_neg k0,if_pos (by omega)]
    rfl
theorem sat_min (n : Int) : min n 1048576 = sat n := by unfold sat; split <;> omega
section
variable {n0 : Nat} {w0 : World} {I0 : Nat→Prop} {Q : Exit→Sta→Prop}
theorem plen_k2 {Q' : Exit→Sta→Prop} {o : OP} {a b z : Int} {x y i : A} {u : Nat} {H : Hp} (hH : H [1] = ⟨u,.cells (oL o)⟩) (a0 : 0≤a) (a1 : a≤1048576) (b0 : 0≤b) (b1 : b≤1048576) (z0 : 0≤z) (z1 : z < 100000000000000)
    (h : Q' .normal ⟨lk [(4,iv (sat (if o.kind = 2 then a else a + z))),(5,iv (sat (if o.kind = 1 then b else b + z))),(10,x),(11,y),(12,i)],H⟩)
    (h' : Q' .normal ⟨lk [(4,iv (sat (if o.kind = 2 then a else a + z))),(5,iv (sat (if o.kind = 1 then b else b + z))),(8,iv z),(10,x),(11,y),(12,i),(34,bv false)],H⟩) :
    WPC (cx Tryz.prog w0 I0 n0) k2_edit_Lengths Q' ⟨lk [(4,iv a),(5,iv b),(7,.pob [1] u 0),(8,iv z),(10,x),(11,y),(12,i)],H⟩ := by
  have ea : IntKind.i64.wrap (a + z) = a + z := i64_same (by omega) (by omega)
  have eb : IntKind.i64.wrap (b + z) = b + z := i64_same (by omega) (by omega)
  have sa : sat a = a := by unfold sat; rw [if_neg (by omega)]
  have sb : sat b = b := by unfold sat; rw [if_neg (by omega)]
  rw [k2_edit_Lengths.eq_1]
  by_cases h2 : o.kind = 2
  · have h1 : ¬ o.kind = 1 := by omega
    simp [hH,h2]
    rw [k1_edit_Lengths.eq_1]
    simp [hH,h2,eb,sat_min]
    simpa [h2,sa] using h
  · by_cases h1 : o.kind = 1
    · simp [hH,h1,ea,sat_min]
      rw [k1_edit_Lengths.eq_1]
      simp [hH,h1]
      simpa [h1,sb] using h'
    · simp [hH,h2,ea,sat_min]
      rw [k1_edit_Lengths.eq_1]
      simp [hH,h1,eb,sat_min]
      simpa [h1,h2] using h
theorem plen_l1 {os : List OP} (hl : os.length * 240≤140737488355328) (ho : ∀ x,x ∈ os→0≤x.n∧x.n≤1048576∧x.l.length * 56≤140737488355328) : ∀ (m i : Nat) (a b : Int) (H : Hp),i + m = os.length→0≤a→a≤1048576→0≤b→b≤1048576 →
    (∀ q H',Q (.exit 0) ⟨lk [(4,iv (lengths a b (os.drop i)).1),(5,iv (lengths a b (os.drop i)).2),(10,oKs os),(11,iv os.length),(12,iv os.length),(13,bv q)],H'⟩) →
    LoopC (cx Tryz.prog w0 I0 n0) l1_edit_Lengths Q ⟨lk [(4,iv a),(5,iv b),(10,oKs os),(11,iv os.length),(12,iv i)],H⟩ := by
  intro m
  induction m with
  | zero =>
    intro i a b H hi a0 a1 b0 b1 hq
    have : i = os.length := by omega
    subst this
    refine loopC_once mixed l1_edit_Lengths.eq_1 ?_
    simp
    simpa [lengths] using hq false H
  | succ m ih =>
    intro i a b H hi a0 a1 b0 b1 hq
    have hlt : i < os.length := by omega
    have ed : os.drop i = os[i] :: os.drop (i + 1) := List.drop_eq_getElem_cons hlt
    have ei : IntKind.i64.wrap ((i : Int) + 1) = ((i + 1 : Nat) : Int) := i64_same (by omega) (by omega)
    obtain ⟨n1,n2,n3⟩ := ho _ (List.getElem_mem hlt)
    rw [ed] at hq
    generalize ho' : os[i] = o at *
    have next : ∀ (a' b' : Int) H',a' = sat (if o.kind = 2 then a else a + opLen o)→b' = sat (if o.kind = 1 then b else b + opLen o)→LoopC (cx Tryz.prog w0 I0 n0) l1_edit_Lengths Q ⟨lk [(4,iv a'),(5,iv b'),(10,oKs os),(11,iv os.length),(12,iv ((i + 1 : Nat) : Int))],H'⟩ := fun a' b' H' ha hb => by
      have h0 : 0≤opLen o∧opLen o < 100000000000000 := by unfold opLen; split <;> omega
      have s1 := sat_range (n := if o.kind = 2 then a else a + opLen o) (by split <;> omega)
      have s2 := sat_range (n := if o.kind = 1 then b else b + opLen o) (by split <;> omega)
      refine ih (i + 1) a' b' H' (by omega) (by omega) (by omega) (by omega) (by omega) fun q H2 => ?_
      have := hq q H2
      have f1 : (if o.kind ≠ 2 then a + opLen o else a) = if o.kind = 2 then a else a + opLen o := by by_cases e : o.kind = 2 <;> simp [e]
      have f2 : (if o.kind ≠ 1 then b + opLen o else b) = if o.kind = 1 then b else b + opLen o := by by_cases e : o.kind = 1 <;> simp [e]
      rw [lengths,f1,f2,← ha,← hb] at this
      exact this
    have h0 : 0≤opLen o∧opLen o < 100000000000000 := by unfold opLen; split <;> omega
    refine loopC_once mixed l1_edit_Lengths.eq_1 ?_
    have e1 : IntKind.i64.wrap (o.n + (o.l.length : Int)) = o.n + o.l.length := i64_same (by omega) (by omega)
    simp [hlt,ho',updF_app,e1]
    refine ⟨fun h3 => ?_,fun h3 => ?_⟩
    · have ez : opLen o = 1 := by simp [opLen,h3]
      refine plen_k2 (o := o) (u := (H [1]).u + 1) (z := 1) (by simp [updF_app]) (by omega) (by omega) (by omega) (by omega) (by omega) (by omega) ?_ ?_
      all_goals
        simp [ei]
        rw [ez] at next
        exact next _ _ _ rfl rfl
    · have ez : opLen o = o.n + o.l.length := by simp [opLen,h3]
      rw [← ez]
      refine plen_k2 (o := o) (u := (H [1]).u + 1) (z := opLen o) (by simp [updF_app]) (by omega) (by omega) (by omega) (by omega) (by omega) (by omega) ?_ ?_
      all_goals
        simp [ei]
        exact next _ _ _ rfl rfl
end
theorem pLengths_spec {e : E} (hl : e.ops.length * 240≤140737488355328) (ho : ∀ x,x ∈ e.ops→0≤x.n∧x.n≤1048576∧x.l.length * 56≤140737488355328) : G.Spec Tryz.prog 128 [eX e] (.tup [iv (lengths 0 0 e.ops).1,iv (lengths 0 0 e.ops).2]) := by
  refine spec_of t_edit_Lengths (by simp) fun w0 I0 => ?_
  unfold c_edit_Lengths
  simp
  refine plen_l1 (os := e.ops) hl ho e.ops.length 0 0 0 _ (by omega) (by omega) (by omega) (by omega) (by omega) fun q H' => ?_
  simp
  exact frz_bare rfl
section
variable {n0 : Nat} {w0 : World} {I0 : Nat→Prop} {Q : Exit→Sta→Prop}
theorem pops_l1 {e : E} {d : Nat} (hd : d≤1000) (hk : 2≤e.list∧e.list≤9) (hl : e.ops.length * 240≤140737488355328) (hw : ∀ x,x ∈ e.ops→WfO x) (ih : ∀ x,x ∈ e.ops→PRightS x.e) : ∀ (m i : Nat) (H : Hp),i + m = e.ops.length→H [0] = ⟨1,.cells (eL e)⟩ →
    (rightOs d e.list (e.ops.drop i) = true→∀ q H',H' [0] = ⟨1,.cells (eL e)⟩→Q (.exit 0) ⟨lk [(1,iv d),(2,.pob [0] 1 0),(10,oKs e.ops),(11,iv e.ops.length),(12,iv e.ops.length),(13,bv q)],H'⟩)→(rightOs d e.list (e.ops.drop i) = false→∀ H',Q .ret ⟨lk [(4,bv false)],H'⟩) →
    LoopC (cx Tryz.prog w0 I0 n0) l1_edit_ops Q ⟨lk [(1,iv d),(2,.pob [0] 1 0),(10,oKs e.ops),(11,iv e.ops.length),(12,iv i)],H⟩ := by
  intro m
  induction m with
  | zero =>
    intro i H hi hA h1 h2
    have : i = e.ops.length := by omega
    subst this
    refine loopC_once mixed l1_edit_ops.eq_1 ?_
    simp
    exact h1 (by simp) _ _ hA
  | succ m ihm =>
    intro i H hi hA h1 h2
    have hlt : i < e.ops.length := by omega
    have ed : e.ops.drop i = e.ops[i] :: e.ops.drop (i + 1) := List.drop_eq_getElem_cons hlt
    have ei : IntKind.i64.wrap ((i : Int) + 1) = ((i + 1 : Nat) : Int) := i64_same (by omega) (by omega)
    have hop := pOp_spec hk (hw _ (List.getElem_mem hlt)) (ih _ (List.getElem_mem hlt)) hd
    rw [ed,rightOs_cons] at h1 h2
    refine loopC_once mixed l1_edit_ops.eq_1 ?_
    simp [hA,hlt,updF_app]
    refine sc_call hop rfl ?_
    cases hr : rightO d e.list e.ops[i] with
    | false =>
      simp
      exact h2 (by simp [hr]) _
    | true =>
      simp [ei]
      exact ihm (i + 1) _ (by omega) (by simp [updF_app,hA]) (fun hh => h1 (by simp [hr,hh])) (fun hh => h2 (by simp [hh]))
end
theorem pOps_spec {e : E} (hw : WfE e) {d : Nat} (hd : d≤1000) (hk : 2≤e.list∧e.list≤9) (ih : ∀ x,x ∈ e.ops→PRightS x.e) : G.Spec Tryz.prog 92 [eX e,iv d] (bv (rightOs d e.list e.ops && (decide ((lengths 0 0 e.ops).1 < 1048576) && decide ((lengths 0 0 e.ops).2 < 1048576)))) := by
  refine spec_of t_edit_ops (by simp) fun w0 I0 => ?_
  unfold c_edit_ops
  simp
  refine pops_l1 hd hk hw.ol hw.os ih e.ops.length 0 _ (by omega) (by simp) (fun hr q H' hA => ?_) (fun hr H' => ?_)
  · simp only [List.drop_zero] at hr
    simp [hA]
    refine sc_call (pLengths_spec hw.ol (fun x hx => ⟨(op_n (rightOs_all.1 hr x hx)).1,(op_n (rightOs_all.1 hr x hx)).2,(hw.os x hx).ll⟩)) rfl ?_
    simp
    refine frz_bool ?_
    rw [hr]
    simp
  · simp only [List.drop_zero] at hr
    simp
    exact frz_bool (by rw [hr]; rfl)
set_option maxRecDepth 10000 in
theorem pright_all : ∀ (e : E),wfE e→PRightS e := by
  refine E.ind fun k o nn ws ks l os ihk iho hw d hd => ?_
  have h := wfE_iff.1 hw
  have hb := pBare_spec h
  obtain ⟨R,hR⟩ : ∃ R,R = rightE d (.mk k o nn ws ks l os) := ⟨_,rfl⟩
  rw [← hR]
  rw [rightE_mk,headOk_bare] at hR
  have eb : bareE (.mk k o nn ws ks l os) = bareB k o nn ws.length ks.length l os.length := rfl
  rw [eb] at hb
  have ed : 1≤d→IntKind.i64.wrap ((d : Int) - 1) = ((d - 1 : Nat) : Int) := fun h => by rw [i64_same (by omega) (by omega)]; omega
  refine spec_of t_edit_right (by simp) fun w0 I0 => ?_
  unfold c_edit_right
  simp
  refine sc_call hb rfl ?_
  generalize hB : bareB k o nn ws.length ks.length l os.length = B at hR
  cases B with
  | false =>
    simp
    refine frz_bool ?_
    rw [hR]
    simp
  | true =>
    by_cases hd0 : d = 0
    · subst hd0
      simp
      refine frz_bool ?_
      rw [hR]
      simp
    have ed' := ed (by omega)
    have hh := headOk_bare (d := d) (k := k) (o := o) (n := nn) (nw := ws.length) (nk := ks.length) (l := l) (no := os.length)
    rw [hB] at hh
    simp only [Bool.and_true] at hR hh
    by_cases kr : k < 0∨3 < k
    · have k0 : ¬ k = 0 := by omega
      have k1 : ¬ k = 1 := by omega
      have k2 : ¬ k = 2 := by omega
      have k3 : ¬ k = 3 := by omega
      simp [hd0,k0,k1,k2,k3]
      refine frz_bool ?_
      rw [hR,if_pos]
      simp
      omega
    have hh1 : headOk d k o nn ws.length ks.length l os.length = true := by
      rw [hh]
      simp
      omega
    obtain ⟨_,k0,k3,c1,c2,c3⟩ := headOk_iff.1 hh1
    rw [← hh,if_neg (by rw [hh1]; simp)] at hR
    have hk : k = 0∨k = 1∨k = 2∨k = 3 := by omega
    rcases hk with rfl | rfl | rfl | rfl
    · obtain ⟨w0',s0⟩ := c2 (by omega)
      obtain ⟨l0,o0⟩ := c3 (by omega)
      obtain rfl := List.eq_nil_of_length_eq_zero w0'
      obtain rfl := List.eq_nil_of_length_eq_zero s0
      obtain rfl := List.eq_nil_of_length_eq_zero o0
      simp [hd0]
      refine frz_bool ?_
      rw [hR]
      simp [wordsOk,lengths]
    · simp [hd0]
      refine sc_call (pValue_spec h.o) rfl ?_
      simp
      refine sc_call_gt rfl (fun _ => pValue_spec h.n) (fun e => by simp [e]) rfl ?_
      simp
      refine frz_bool ?_
      rw [hR]
      simp
      cases rightT 64 o <;> cases rightT 64 nn <;> simp <;> rfl
    · obtain ⟨l0,o0⟩ := c3 (by omega)
      obtain rfl := List.eq_nil_of_length_eq_zero o0
      simp [hd0]
      refine sc_call (pWords_spec h.wl h.w) rfl ?_
      simp [ed']
      refine sc_call_gt rfl (fun _ => pKids_spec (d := d - 1) (by omega) h.kl (fun x hx => ihk x hx (h.ks x hx).2)) (fun e => by simp [e]) rfl ?_
      simp
      refine frz_bool ?_
      rw [hR]
      cases wordsOk (-1) ws <;> cases rightKs (d - 1) (-1) ks <;> simp [lengths]
    · obtain ⟨w0',s0⟩ := c2 (by omega)
      obtain rfl := List.eq_nil_of_length_eq_zero w0'
      obtain rfl := List.eq_nil_of_length_eq_zero s0
      simp [hd0]
      refine sc_call (tList_spec l) rfl ?_
      by_cases hl : 2≤l∧l≤9
      · have hl' : ¬ (l < 2∨l > 9) := by omega
        simp [hl.1,hl.2,ed']
        refine sc_call_gt rfl (fun _ => pOps_spec (e := .mk 3 o nn [] [] l os) (d := d - 1) h (by omega) hl (fun x hx => iho x hx (h.os x hx).e)) (fun e => rfl) rfl ?_
        simp
        refine frz_bool ?_
        rw [hR]
        simp [wordsOk,hl']
        cases rightOs (d - 1) l os <;> simp <;> rfl
      · have hl' : l < 2∨l > 9 := by omega
        have hf : (decide (2≤l) && decide (l≤9)) = false := by rw [Bool.eq_false_iff]; intro e; simp at e; omega
        simp [hf]
        refine sc_call_off rfl ?_
        simp
        refine frz_bool ?_
        rw [hR]
        simp [wordsOk,hl']
theorem peRight_spec {e : E} (h : wfE e) : G.Spec Tryz.prog 29 [eX e] (bv (rightE 64 e)) := by
  refine spec_of t_edit_Right (by simp) fun w0 I0 => ?_
  unfold c_edit_Right
  simp
  refine sc_call (pright_all e h 64 (by omega)) rfl ?_
  simp
  exact frz_bare rfl
end Go.Proofs.YthfiijdbnkaabaaGreat
