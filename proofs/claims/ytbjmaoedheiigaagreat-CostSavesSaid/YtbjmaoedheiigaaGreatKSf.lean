/-
  Texts, merged, without what is not reached.
-/
import Derived.Test.YtbjmaoedheiigaaGreatKSe
namespace Go.Proofs.YtbjmaoedheiigaaGreat
set_option linter.unusedVariables false
set_option linter.unusedSimpArgs false
open Go Go.G Go.Proofs Go.PL
theorem wi_at (l : List WI) (r : Nat) (x : A) : (l.map (wiA r) ++ [x])[l.length]? = some x := by rw [List.getElem?_append_right (by simp)]; simp
theorem wi_take (l : List WI) (r : Nat) : List.take l.length (l.map (wiA r)) = l.map (wiA r) := List.take_of_length_le (by simp)
theorem wi_take1 (l : List WI) (r : Nat) (x : A) : List.take (l.length + 1) (l.map (wiA r) ++ [x]) = l.map (wiA r) ++ [x] := List.take_of_length_le (by simp)
theorem delI_len : ∀ g,(delI g).length≤1
  | (a,b,c) => by
    by_cases h : c = [] <;> simp [delI,h]
theorem insI22_len : ∀ g,(insI22 g).length≤1
  | (a,b,c) => by
    by_cases h : c = [] <;> simp [insI22,h]
theorem keepM_spec (its i0 : List WI) (vo : Nat) (m n : Int) (g b : Nat × Nat × List T) (R : Rws) (hl : its.length≤1000000) (hg : R g.1 = some (g.2.1,g.2.2)) (hb : R b.1 = some (b.2.1,b.2.2)) (hg0 : 1≤g.1) (hb0 : 1≤b.1) (hi : its ++ (delI g ++ insI22 b) = i0 ++ [.keep m]) : SpecF Tryz.prog 110 (fun r => [wrP r,iv n]) (wlF its vo (some g) (some b) R) (fun _ => .tup []) (wlF (i0 ++ [.keep (IntKind.i64.wrap (m + n))]) (vo + (delI g ++ insI22 b).length) none none R) := by
  have F1 := flush_spec22 its vo g b R hl hg hb hg0 hb0
  rw [hi] at F1
  have hlen : i0.length≤1000002 := by
    have e := congrArg List.length hi
    have := delI_len g
    have := insI22_len b
    simp at e
    omega
  generalize vo + (delI g ++ insI22 b).length = v at *
  have e1 : IntKind.i64.wrap (i0.length : Int) = i0.length := i64_same (by omega) (by omega)
  refine specF_of t_normal_writer_keep (by simp) (famL_cons famA_pob (famL_cons famA_v famL_nil)) (famA_tup famL_nil) fun w0 I0 M0 m0 => ?_
  unfold c_normal_writer_keep
  simp
  refine sc_fam 0 F1 (fun p => by simp) (by simp) (by simp) ?_
  simp [e1,wi_at,wiA,wiC]
  refine ⟨by omega,rfl,?_⟩
  refine reth_fam rfl rfl (fun p => ?_)
  by_cases p1 : p = []
  · subst p1; simp [updF_app,wtV]
  · by_cases p2 : p = [0]
    · subst p2; simp [updF_app,wiA,wiC,rawE,A.remake,wi_take1]
    · simp [p1,p2,updF_app]
theorem keepA_spec (its : List WI) (vo : Nat) (n : Int) (g b : Nat × Nat × List T) (R : Rws) (hl : its.length≤1000000) (hg : R g.1 = some (g.2.1,g.2.2)) (hb : R b.1 = some (b.2.1,b.2.2)) (hg0 : 1≤g.1) (hb0 : 1≤b.1) (hi : its ++ (delI g ++ insI22 b) = []∨∃ i0 x,its ++ (delI g ++ insI22 b) = i0 ++ [x]∧x.op.kind ≠ 0) : SpecF Tryz.prog 110 (fun r => [wrP r,iv n]) (wlF its vo (some g) (some b) R) (fun _ => .tup []) (wlF (its ++ (delI g ++ insI22 b) ++ [.keep n]) (vo + (delI g ++ insI22 b).length + 1) none none R) := by
  have F1 := flush_spec22 its vo g b R hl hg hb hg0 hb0
  have hlen : (its ++ (delI g ++ insI22 b)).length≤1000002 := by
    have := delI_len g
    have := insI22_len b
    simp
    omega
  generalize vo + (delI g ++ insI22 b).length = v at *
  generalize its ++ (delI g ++ insI22 b) = J at *
  refine specF_of t_normal_writer_keep (by simp) (famL_cons famA_pob (famL_cons famA_v famL_nil)) (famA_tup famL_nil) fun w0 I0 M0 m0 => ?_
  unfold c_normal_writer_keep
  simp
  refine sc_fam 0 F1 (fun p => by simp) (by simp) (by simp) ?_
  rcases hi with rfl | ⟨i0,x,rfl,hx⟩
  · simp [updF_app,show IntKind.i64.wrap (-1) = -1 from rfl]
    refine reth_famN rfl rfl (fun p => ?_)
    by_cases p1 : p = []
    · subst p1; simp [updF_app,wtV]
    · by_cases p2 : p = [0]
      · subst p2; simp [updF_app,wiA,wiC,rawE,A.remake,wi_take1]
      · simp [p1,p2,updF_app]
  · simp at hlen
    have e1 : IntKind.i64.wrap (i0.length : Int) = i0.length := i64_same (by omega) (by omega)
    cases x with
    | keep m => exact absurd rfl hx
    | del a b c =>
      simp [e1,wi_at,wiA,wiC,updF_app]
      refine ⟨by omega,by omega,⟨by omega,by omega⟩,?_⟩
      refine reth_famN rfl rfl (fun p => ?_)
      by_cases p1 : p = []
      · subst p1; simp [updF_app,wtV]
      · by_cases p2 : p = [0]
        · subst p2; simp [updF_app,wiA,wiC,rawE,A.remake,wi_take1]
        · simp [p1,p2,updF_app]
    | ins a b c =>
      simp [e1,wi_at,wiA,wiC,updF_app]
      refine ⟨by omega,by omega,⟨by omega,by omega⟩,?_⟩
      refine reth_famN rfl rfl (fun p => ?_)
      by_cases p1 : p = []
      · subst p1; simp [updF_app,wtV]
      · by_cases p2 : p = [0]
        · subst p2; simp [updF_app,wiA,wiC,rawE,A.remake,wi_take1]
        · simp [p1,p2,updF_app]
    | desc e =>
      simp [e1,wi_at,wiA,wiC,updF_app]
      refine ⟨by omega,by omega,⟨by omega,by omega⟩,?_⟩
      refine reth_famN rfl rfl (fun p => ?_)
      by_cases p1 : p = []
      · subst p1; simp [updF_app,wtV]
      · by_cases p2 : p = [0]
        · subst p2; simp [updF_app,wiA,wiC,rawE,A.remake,wi_take1]
        · simp [p1,p2,updF_app]
def WI.row : WI→Option (Nat × Nat × List T)
  | .del k v l => some (k,v,l)
  | .ins k v l => some (k,v,l)
  | _ => none
def ItR (R : Rws) (its : List WI) : Prop := ∀ x,x ∈ its→∀ k v l,x.row = some (k,v,l)→R k = some (v,l)∧1≤k
theorem le_wr {c : Cx} {s : Nat→A} {H : Hp} {its : List WI} {v K : Nat} {R : Rws} (hH : ∀ p,H (0 :: p) = (wlF its v none none R).F 0 p) (hK : ∀ q,K≤q→R q = none) (hK1 : 1≤K) : ∃ H',Le c ⟨s,H⟩ ⟨s,H'⟩∧(∀ p,H' (0 :: p) = (wlF its v (some (K,1,[])) (some (K + 1,1,[])) (setR (setR R K 1 []) (K + 1) 1 [])).F 0 p) := by
  have h0 := hH []
  simp [wtV] at h0
  have hK0 : H [0,K] = ⟨0,.none⟩ := by rw [hH]; simp [show ¬ K = 0 by omega,hK K (Nat.le_refl _),rwB]
  have hK2 : H [0,K + 1] = ⟨0,.none⟩ := by rw [hH]; simp [hK (K + 1) (by omega),rwB]
  have l1 := le_blankC (c := c) (s := s) (H := H) (d := [0]) (u := 1) (cs := [.osl [0,0] v 14 0 its.length,.sl true [],.sl true []]) 1 [0,K] 3 h0 rfl (by simp)
  refine ⟨_,l1.trans (le_blankC (d := [0]) (u := 1) (cs := [.osl [0,0] v 14 0 its.length,.osl [0,K] 1 3 0 0,.sl true []]) 2 [0,K + 1] 3 (by simp [updF_app,hK0]) rfl (by simp)),fun p => ?_⟩
  by_cases p1 : p = []
  · subst p1; simp [updF_app,wtV,hK0,hK2]
  · by_cases p2 : p = [0]
    · subst p2; simp [updF_app,hH,show ¬ 0 = K by omega]
    · match p,p1,p2 with
      | [q],p1,p2 =>
        have hq0 : ¬ q = 0 := fun e => p2 (by rw [e])
        by_cases e1 : q = K
        · subst e1; simp [updF_app,setR,rwB,hK0,hq0]
        · by_cases e2 : q = K + 1
          · subst e2; simp [updF_app,setR,rwB,hK2]
          · simp [updF_app,setR,hH,e1,e2,hq0]
      | _ :: _ :: _,p1,p2 => simp [updF_app,hH,rowAt]
theorem frz_wi {H : Hp} {R : Rws} {its : List WI} {v : Nat} {g b : Option (Nat × Nat × List T)} (hH : ∀ p,H (0 :: p) = (wlF its v g b R).F 0 p) (x : WI) (hx : ∀ k v l,x.row = some (k,v,l)→R k = some (v,l)∧1≤k) : FrzL H (wiC 0 x) (oA x.op).cells := by
  have key : ∀ k v' l,x.row = some (k,v',l)→Frz H (.osl [0,k] v' 3 0 l.length) (tKs l) := fun k v' l h => by
    obtain ⟨h1,h2⟩ := hx k v' l h
    have := hH [k]
    simp [show ¬ k = 0 by omega,h1,rwB] at this
    exact frz_row (f := tA) (by rw [this]; simp) rfl (by simp)
  have hraw : FrzL H rawE (eL E0) := ⟨frz_bare rfl,frz_bare rfl,frz_sl,frz_sl,frz_bare rfl,frz_sl,frz_sl,frz_sl,frz_sl,frz_bare rfl,frz_sl,trivial⟩
  rw [oA_eq]
  cases x with
  | keep n => exact ⟨frz_bare rfl,frz_bare rfl,frz_sl,hraw⟩
  | del k v' l => exact ⟨frz_bare rfl,frz_bare rfl,key k v' l rfl,hraw⟩
  | ins k v' l => exact ⟨frz_bare rfl,frz_bare rfl,key k v' l rfl,hraw⟩
  | desc e => exact ⟨frz_bare rfl,frz_bare rfl,frz_sl,frz_bare rfl,frz_bare rfl,frz_bare rfl,frz_bare rfl,frz_bare rfl,frz_bare rfl,frz_bare rfl,frz_bare rfl,frz_bare rfl,frz_bare rfl,frz_bare rfl,trivial⟩
theorem frzL_app {H : Hp} : ∀ {a b a' b' : List A},FrzL H a a'→FrzL H b b'→a.length = a'.length→FrzL H (a ++ b) (a' ++ b')
  | [],b,[],b',_,h,_ => h
  | x :: a,b,y :: a',b',h1,h,hl => ⟨h1.1,frzL_app h1.2 h (by simpa using hl)⟩
  | [],b,y :: a',b',_,_,hl => by simp at hl
  | x :: a,b,[],b',_,_,hl => by simp at hl
theorem frz_wis {H : Hp} {R : Rws} {its : List WI} {v : Nat} {g b : Option (Nat × Nat × List T)} (hH : ∀ p,H (0 :: p) = (wlF its v g b R).F 0 p) (hx : ItR R its) : Frz H (.osl [0,0] v 14 0 its.length) (oKs (its.map WI.op)) := by
  have h1 := hH [0]
  simp at h1
  refine frz_osl' (o := [0,0]) (u := v) (off := 0) (len := its.length) (sz := 14) (xs := its.map (wiA 0)) (ys := (its.map WI.op).map oA) (by rw [getR_at,h1]; simp) (by simp) (by simp) (fun y hy => by
    obtain ⟨x,_,rfl⟩ := List.mem_map.1 hy
    simp) ?_ ?_
  · have : ∀ l : List OP,A.ones ((l.map oA).flatMap A.cells) = true := fun l => by
      induction l with
      | nil => rfl
      | cons x l ih => simp [A.ones] at ih ⊢
    exact this _
  · rw [List.drop_zero,List.take_of_length_le (by simp),List.map_map]
    have : ∀ l : List WI,(∀ x,x ∈ l→x ∈ its)→FrzL H ((l.map (wiA 0)).flatMap A.cells) ((l.map (oA ∘ WI.op)).flatMap A.cells) := fun l hl => by
      induction l with
      | nil => trivial
      | cons x l ih =>
        simp only [List.map_cons,List.flatMap_cons]
        exact frzL_app (frz_wi hH x fun k v l h => hx x (hl x (by simp)) k v l h) (ih fun y hy => hl y (by simp [hy])) (by simp)
    exact this its fun x h => h
theorem idle_spec (list : Int) (e : E) (h1 : e.words.length≤100000000000000) (h2 : e.kids.length≤100000000000000) : G.Spec Tryz.prog 112 [iv list,eX e] (bv (idleE list e)) := by
  have e1 : IntKind.i64.wrap ((e.words.length : Int) + e.kids.length) = ((e.words.length + e.kids.length : Nat) : Int) := by rw [i64_same (by omega) (by omega)]; omega
  refine spec_of t_normal_Idle (by simp) fun w0 I0 => ?_
  unfold c_normal_Idle
  by_cases k0 : e.kind = 0
  · simp [k0,idleE]
    exact frz_bare rfl
  · by_cases k9 : list = 9
    · by_cases k2 : e.kind = 2
      · simp [k0,k9,k2,idleE,e1]
        refine frz_bool ?_
        rw [Bool.eq_iff_iff]
        simp only [decide_eq_true_eq,Bool.and_eq_true,List.isEmpty_iff]
        constructor
        · intro h
          exact ⟨List.eq_nil_of_length_eq_zero (by omega),List.eq_nil_of_length_eq_zero (by omega)⟩
        · rintro ⟨h1,h2⟩
          rw [h1,h2]; rfl
      · simp [k0,k9,k2,idleE]
        exact frz_bare rfl
    · simp [k0,k9,idleE]
      exact frz_bare rfl
theorem flO_map (its : List WI) (g b : Nat × Nat × List T) : (its ++ (delI g ++ insI22 b)).map WI.op = flO (its.map WI.op) g.2.2 b.2.2 := by
  obtain ⟨a,c,l⟩ := g
  obtain ⟨a',c',l'⟩ := b
  by_cases h1 : l = [] <;> by_cases h2 : l' = [] <;> simp [delI,insI22,flO,delO,insO,h1,h2,WI.op]
theorem last_wi (J : List WI) : (∃ i0 m,J = i0 ++ [.keep m])∨(J = []∨∃ i0 x,J = i0 ++ [x]∧x.op.kind ≠ 0) := by
  rcases List.eq_nil_or_concat J with h | ⟨i0,x,h⟩
  · exact .inr (.inl h)
  · rw [List.concat_eq_append] at h
    cases x with
    | keep m => exact .inl ⟨i0,m,h⟩
    | del a b c => exact .inr (.inr ⟨i0,.del a b c,h,by simp [WI.op]⟩)
    | ins a b c => exact .inr (.inr ⟨i0,.ins a b c,h,by simp [WI.op]⟩)
    | desc e => exact .inr (.inr ⟨i0,.desc e,h,by simp [WI.op]⟩)
theorem kpO_keep (l : List OP) (m n : Int) (t : List T) (e : E) : kpO (l ++ [.mk 0 m t e]) n = l ++ [.mk 0 (IntKind.i64.wrap (m + n)) t e] := by simp [kpO]
theorem kpO_nil (n : Int) : kpO [] n = [.mk 0 n [] E0] := rfl
theorem kpO_else (l : List OP) (x : OP) (n : Int) (h : x.kind ≠ 0) : kpO (l ++ [x]) n = l ++ [x] ++ [.mk 0 n [] E0] := by
  obtain ⟨k,m,t,e⟩ := x
  unfold kpO
  rw [List.getLast?_append]
  simp only [List.getLast?_singleton,Option.some_or]
  split
  · rename_i h2; injection h2 with h2; injection h2 with h2; exact absurd h2 h
  · rfl
structure WrI (its : List WI) (g b : Nat × Nat × List T) (R : Rws) (K : Nat) : Prop where
  g1 : 1≤g.1
  b1 : 1≤b.1
  gb : g.1 ≠ b.1
  gK : g.1 < K
  bK : b.1 < K
  Rg : R g.1 = some (g.2.1,g.2.2)
  Rb : R b.1 = some (b.2.1,b.2.2)
  rK : ∀ q,K≤q→R q = none
  it : ItR R its
  ng : ∀ x,x ∈ its→∀ k v l,x.row = some (k,v,l)→k ≠ g.1∧k ≠ b.1
theorem WrI.flushed {its : List WI} {g b : Nat × Nat × List T} {R : Rws} {K : Nat} (h : WrI its g b R K) : ItR R (its ++ (delI g ++ insI22 b)) := by
  intro x hx k v l hr
  rcases List.mem_append.1 hx with hx | hx
  · exact h.it x hx k v l hr
  · rcases List.mem_append.1 hx with hx | hx
    · obtain ⟨a,c,d⟩ := g
      by_cases e : d = [] <;> simp [delI,e] at hx
      subst hx
      simp [WI.row] at hr
      obtain ⟨rfl,rfl,rfl⟩ := hr
      exact ⟨h.Rg,h.g1⟩
    · obtain ⟨a,c,d⟩ := b
      by_cases e : d = [] <;> simp [insI22,e] at hx
      subst hx
      simp [WI.row] at hr
      obtain ⟨rfl,rfl,rfl⟩ := hr
      exact ⟨h.Rb,h.b1⟩
theorem keep_all {its : List WI} {g b : Nat × Nat × List T} {R : Rws} {K : Nat} (h : WrI its g b R K) (hl : its.length≤1000000) (vo : Nat) (n : Int) : ∃ its2 v2,SpecF Tryz.prog 110 (fun r => [wrP r,iv n]) (wlF its vo (some g) (some b) R) (fun _ => .tup []) (wlF its2 v2 none none R)∧its2.map WI.op = kpO (flO (its.map WI.op) g.2.2 b.2.2) n∧its2.length≤its.length + 3∧ItR R its2 := by
  have hF := h.flushed
  have d1 := delI_len g
  have d2 := insI22_len b
  rcases last_wi (its ++ (delI g ++ insI22 b)) with ⟨i0,m,hi⟩ | hi
  · have hlen := congrArg List.length hi
    simp at hlen
    refine ⟨_,_,keepM_spec its i0 vo m n g b R hl h.Rg h.Rb h.g1 h.b1 hi,?_,?_,?_⟩
    · rw [← flO_map,hi]
      simp [WI.op,kpO_keep]
    · simp; omega
    · rw [hi] at hF
      intro x hx k v l hr
      rcases List.mem_append.1 hx with hx | hx
      · exact hF x (by simp [hx]) k v l hr
      · simp at hx; subst hx; simp [WI.row] at hr
  · refine ⟨_,_,keepA_spec its vo n g b R hl h.Rg h.Rb h.g1 h.b1 hi,?_,?_,?_⟩
    · rw [← flO_map]
      rcases hi with hi | ⟨i0,x,hi,hx⟩
      · rw [hi]; simp [kpO_nil,WI.op]
      · rw [hi]
        simp only [List.map_append,List.map_cons,List.map_nil]
        rw [kpO_else _ _ _ hx]
        simp [WI.op]
    · simp; omega
    · intro x hx k v l hr
      rcases List.mem_append.1 hx with hx | hx
      · exact hF x hx k v l hr
      · simp at hx; subst hx; simp [WI.row] at hr
structure OpG (o : OP) : Prop where
  k : o.kind = 0∨o.kind = 1∨o.kind = 2∨o.kind = 3
  l : ∀ t,t ∈ o.l→wfT t
  e : o.kind = 3→G.Spec Tryz.prog 29 [eX o.e] (eX (nEd o.e))∧(nEd o.e).words.length≤100000000000000∧(nEd o.e).kids.length≤100000000000000
def sumO (os : List OP) : Nat := (os.map fun o => o.l.length).sum
theorem sumO_cons (o : OP) (os : List OP) : sumO (o :: os) = o.l.length + sumO os := by simp [sumO]
section
variable {n0 : Nat} {w0 : World} {I0 : Nat→Prop} {Q : Exit→Sta→Prop}
theorem ops_l1 {list : Int} {os : List OP} (hos : ∀ o,o ∈ os→OpG o) (hol : os.length≤300000) {res : List OP}
    (hq : ∀ (H : Hp) (its : List WI) (v : Nat) (g b : Nat × Nat × List T) (R : Rws) (K : Nat) st,(∀ p,H (0 :: p) = (wlF its v (some g) (some b) R).F 0 p)→WrI its g b R K→flO (its.map WI.op) g.2.2 b.2.2 = res→its.length≤1000000→Q (.exit 0) ⟨lk ([(0,iv list),(5,wrP 0)] ++ st),H⟩) : ∀ (m i : Nat) (its : List WI) (v : Nat) (g b : Nat × Nat × List T) (R : Rws) (K : Nat) (H : Hp),i + m = os.length→its.length≤3 * i→g.2.2.length + b.2.2.length + sumO (os.drop i)≤1000000→WrI its g b R K→(∀ p,H (0 :: p) = (wlF its v (some g) (some b) R).F 0 p)→opsW list ((os.drop i).map nOP) (its.map WI.op) g.2.2 b.2.2 = res →
    LoopC (cx Tryz.prog w0 I0 n0) l1_normal_Ops Q ⟨lk [(0,iv list),(5,wrP 0),(11,oKs os),(12,iv os.length),(13,iv i)],H⟩ := by
  intro m
  induction m with
  | zero =>
    intro i its v g b R K H hm hil hsum hW hH hres
    refine loopC_once mixed l1_normal_Ops.eq_1 ?_
    have : i = os.length := by omega
    subst this
    rw [List.drop_length,List.map_nil,opsW] at hres
    simp
    exact hq H its v g b R K [(11,oKs os),(12,iv os.length),(13,iv os.length),(14,bv false)] hH hW hres (by omega)
  | succ m ih =>
    intro i its v g b R K H hm hil hsum hW hH hres
    have hi : i < os.length := by omega
    have ew : IntKind.i64.wrap ((i : Int) + 1) = ((i + 1 : Nat) : Int) := by rw [i64_same (by omega) (by omega)]; omega
    have hd : os.drop i = os[i] :: os.drop (i + 1) := (List.getElem_cons_drop hi).symm
    have hO := hos _ (List.getElem_mem hi)
    rw [hd,List.map_cons,opsW] at hres
    rw [hd,sumO_cons] at hsum
    have hoi : (os.map oA)[i]? = some (oX os[i]) := by simp [hi]
    generalize ho : os[i] = o at *
    have hnk : (nOP o).kind = o.kind := rfl
    have hnn : (nOP o).n = o.n := rfl
    have hnl : (nOP o).l = o.l := rfl
    have hne : (nOP o).e = nEd o.e := rfl
    rw [hnk,hnn,hnl,hne] at hres
    -- what goes on when all is laid
    have next : ∀ (its2 : List WI) (v2 : Nat) (H2 : Hp),its2.length≤its.length + 3→(∀ p,H2 (0 :: p) = (wlF its2 v2 none none R).F 0 p)→ItR R its2→opsW list ((os.drop (i + 1)).map nOP) (its2.map WI.op) [] [] = res→LoopC (cx Tryz.prog w0 I0 n0) l1_normal_Ops Q ⟨lk [(0,iv list),(5,wrP 0),(11,oKs os),(12,iv os.length),(13,iv (i + 1 : Nat))],H2⟩ := fun its2 v2 H2 h1 h2 h3 h4 => by
      obtain ⟨H3,hle,hF⟩ := le_wr (c := cx Tryz.prog w0 I0 n0) (s := lk [(0,iv list),(5,wrP 0),(11,oKs os),(12,iv os.length),(13,iv (i + 1 : Nat))]) h2 hW.rK (by have := hW.gK; omega)
      refine LoopC.le hle ?_
      refine ih (i + 1) its2 v2 (K,1,[]) (K + 1,1,[]) _ (K + 2) H3 (by omega) (by omega) (by simp; omega) ?_ hF h4
      have hg := hW.g1
      have hgK := hW.gK
      refine ⟨by simp; omega,by simp,by simp,by simp,by simp,by simp [setR],by simp [setR],fun q hq => ?_,fun x hx k v' l hr => ?_,fun x hx k v' l hr => ?_⟩
      · simp [setR,show ¬ q = K + 1 by omega,show ¬ q = K by omega]
        exact hW.rK q (by omega)
      · obtain ⟨a1,a2⟩ := h3 x hx k v' l hr
        have hkK : k < K := by
          by_cases e : K≤k
          · rw [hW.rK k e] at a1; cases a1
          · omega
        exact ⟨by simp [setR,show ¬ k = K + 1 by omega,show ¬ k = K by omega,a1],a2⟩
      · obtain ⟨a1,a2⟩ := h3 x hx k v' l hr
        have hkK : k < K := by
          by_cases e : K≤k
          · rw [hW.rK k e] at a1; cases a1
          · omega
        exact ⟨by simp; omega,by simp; omega⟩
    refine loopC_once mixed l1_normal_Ops.eq_1 ?_
    rcases hO.k with h0 | h0 | h0 | h0
    · rw [if_pos h0] at hres
      obtain ⟨its2,v2,S1,S2,S3,S4⟩ := keep_all hW (by omega) v o.n
      rw [← S2] at hres
      simp [hi,ho,h0,updF_app]
      refine sc_fam 0 S1 (fun p => by simp [updF_app,hH]) (by simp) (by simp) ?_
      simp [ew]
      exact next its2 v2 _ S3 (fun p => by simp) S4 hres
    · rw [if_neg (by omega),if_pos h0] at hres
      have hF := waitG_spec its v g.1 g.2.1 g.2.2 (some b) R hW.Rg hW.g1 (fun x hx => by cases hx; exact Ne.symm hW.gb) hO.l (by omega)
      simp [hi,ho,h0,updF_app]
      refine sc_fam 0 hF (fun p => by simp [updF_app,hH]) (by simp) (by simp) ?_
      simp [ew]
      refine ih (i + 1) its v (g.1,g.2.1 + o.l.length,g.2.2 ++ o.l.map norm) b (setR R g.1 (g.2.1 + o.l.length) (g.2.2 ++ o.l.map norm)) K _ (by omega) (by omega) (by simp; omega) ?_ (fun p => by simp) hres
      have w1 := hW.g1
      have w2 := hW.gK
      refine ⟨hW.g1,hW.b1,hW.gb,hW.gK,hW.bK,by simp [setR],?_,fun q hq => ?_,fun x hx k v' l hr => ?_,fun x hx k v' l hr => hW.ng x hx k v' l hr⟩
      · simp only [setR,if_neg (Ne.symm hW.gb)]; exact hW.Rb
      · simp only [setR,if_neg (show ¬ q = g.1 by omega)]; exact hW.rK q hq
      · obtain ⟨a1,a2⟩ := hW.it x hx k v' l hr
        exact ⟨by simp only [setR,if_neg (hW.ng x hx k v' l hr).1]; exact a1,a2⟩
    · rw [if_neg (by omega),if_neg (by omega),if_pos h0] at hres
      have hF := waitB_spec its v b.1 b.2.1 b.2.2 (some g) R hW.Rb hW.b1 hO.l (by omega)
      simp [hi,ho,h0,updF_app]
      refine sc_fam 0 hF (fun p => by simp [updF_app,hH]) (by simp) (by simp) ?_
      simp [ew]
      refine ih (i + 1) its v g (b.1,b.2.1 + o.l.length,b.2.2 ++ o.l.map norm) (setR R b.1 (b.2.1 + o.l.length) (b.2.2 ++ o.l.map norm)) K _ (by omega) (by omega) (by simp; omega) ?_ (fun p => by simp) hres
      have w2 := hW.bK
      refine ⟨hW.g1,hW.b1,hW.gb,hW.gK,hW.bK,?_,by simp [setR],fun q hq => ?_,fun x hx k v' l hr => ?_,fun x hx k v' l hr => hW.ng x hx k v' l hr⟩
      · simp only [setR,if_neg hW.gb]; exact hW.Rg
      · simp only [setR,if_neg (show ¬ q = b.1 by omega)]; exact hW.rK q hq
      · obtain ⟨a1,a2⟩ := hW.it x hx k v' l hr
        exact ⟨by simp only [setR,if_neg (hW.ng x hx k v' l hr).2]; exact a1,a2⟩
    · rw [if_neg (by omega),if_neg (by omega),if_neg (by omega)] at hres
      obtain ⟨E1,E2,E3⟩ := hO.e h0
      have hI := idle_spec list (nEd o.e) E2 E3
      simp [hi,ho,h0,updF_app]
      refine sc_call E1 (by simp) ?_
      simp [updF_app]
      refine sc_call hI (by simp) ?_
      cases hid : idleE list (nEd o.e) with
      | true =>
        rw [if_pos hid] at hres
        obtain ⟨its2,v2,S1,S2,S3,S4⟩ := keep_all hW (by omega) v 1
        rw [← S2] at hres
        simp
        refine sc_fam 0 S1 (fun p => by simp [updF_app,hH]) (by simp) (by simp) ?_
        simp [ew]
        exact next its2 v2 _ S3 (fun p => by simp) S4 hres
      | false =>
        rw [if_neg (by rw [hid]; decide),← flO_map] at hres
        have F1 := flush_spec22 its v g b R (by omega) hW.Rg hW.Rb hW.g1 hW.b1
        have d1 := delI_len g
        have d2 := insI22_len b
        simp
        refine sc_fam 0 F1 (fun p => by simp [updF_app,hH]) (by simp) (by simp) ?_
        have hJl : (its ++ (delI g ++ insI22 b)).length≤its.length + 2 := by simp; omega
        have hJr := hW.flushed
        have next' := next (its ++ (delI g ++ insI22 b) ++ [.desc (nEd o.e)]) (v + (delI g ++ insI22 b).length + 1)
        generalize its ++ (delI g ++ insI22 b) = J at *
        generalize v + (delI g ++ insI22 b).length = v1 at *
        simp [updF_app,lens_wi,wi_take,wi_at,ew]
        refine ⟨by omega,by omega,?_⟩
        refine next' _ (by simp; omega) (fun p => ?_) (fun x hx k v' l hr => ?_) ?_
        · by_cases p1 : p = []
          · subst p1; simp [updF_app,wtV]
          · by_cases p2 : p = [0]
            · subst p2; simp [updF_app,wiA,wiC]
            · simp [p1,p2,updF_app]
        · rcases List.mem_append.1 hx with hx | hx
          · exact hJr x hx k v' l hr
          · simp at hx; subst hx; simp [WI.row] at hr
        · simpa [WI.op] using hres
end
theorem pOps22_spec {list : Int} {os : List OP} (hos : ∀ o,o ∈ os→OpG o) (hol : os.length≤300000) (hsum : sumO os≤1000000) : G.Spec Tryz.prog 58 [iv list,oKs os] (oKs (opsW list (os.map nOP) [] [] [])) := by
  refine spec_of t_normal_Ops (by simp) fun w0 I0 => ?_
  unfold c_normal_Ops
  simp
  refine LoopC.le (le_blankC (d := [0]) (u := 1) (cs := [.sl true [],.sl true [],.sl true []]) 0 [0,0] 14 rfl rfl (by simp)) ?_
  obtain ⟨H3,hle,hF⟩ := le_wr (c := cx Tryz.prog w0 I0 72) (s := lk [(0,iv list),(5,wrP 0),(11,oKs os),(12,iv os.length),(13,iv (0 : Nat))]) (H := updF (updF (lkH [([0],⟨1,.cells [.sl true [],.sl true [],.sl true []]⟩)]) [0,0] ⟨1,.arr 14 []⟩) [0] ⟨1,.cells [.osl [0,0] 1 14 0 0,.sl true [],.sl true []]⟩) (its := []) (v := 1) (K := 1) (R := fun _ => none) (fun p => by
    by_cases p1 : p = []
    · subst p1; simp [updF_app,wtV]
    · by_cases p2 : p = [0]
      · subst p2; simp [updF_app]
      · match p,p1,p2 with
        | [q],p1,p2 =>
          have hq0 : ¬ q = 0 := fun e => p2 (by rw [e])
          simp [updF_app,rwB,hq0,Ne.symm hq0]
        | _ :: _ :: _,p1,p2 => simp [updF_app,rowAt]) (fun q _ => rfl) (by omega)
  refine LoopC.le hle ?_
  refine ops_l1 hos hol (res := opsW list (os.map nOP) [] [] []) (fun H its v g b R K st hH hW hres hil => ?_) os.length 0 [] 1 (1,1,[]) (1 + 1,1,[]) _ 3 H3 (by omega) (by simp) (by simpa using hsum) ?_ hF (by simp)
  · have F1 := flush_spec22 its v g b R hil hW.Rg hW.Rb hW.g1 hW.b1
    have hJr := hW.flushed
    have hm := flO_map its g b
    rw [hres] at hm
    simp
    refine sc_fam 0 F1 hH (by simp) (by simp) ?_
    simp
    rw [← hm]
    have := frz_wis (H := ov 0 ((wlF (its ++ (delI g ++ insI22 b)) (v + (delI g ++ insI22 b).length) none none R).F 0) H) (its := its ++ (delI g ++ insI22 b)) (v := v + (delI g ++ insI22 b).length) (g := none) (b := none) (R := R) (fun p => by simp) hJr
    simpa using this
  · refine ⟨by simp,by simp,by simp,by simp,by simp,by simp [setR],by simp [setR],fun q hq => ?_,fun x hx => by simp at hx,fun x hx => by simp at hx⟩
    simp [setR,show ¬ q = 1 by omega,show ¬ q = 2 by omega]
mutual
def nOk : E→Prop
  | .mk k o n ws ks l os => (k = 0∨k = 1∨k = 2∨k = 3)∧(k ≠ 3→l = 0)∧(k = 1→wfT o∧wfT n)∧ws.length≤1000000∧ks.length≤1000000∧os.length≤300000∧sumO os≤1000000∧(k = 2→nOkK ks)∧(k = 3→nOkO os)
def nOkK : List KE→Prop
  | [] => True
  | .mk a e :: l => nOk e∧nOkK l
def nOkO : List OP→Prop
  | [] => True
  | .mk k n t e :: l => ((k = 0∨k = 1∨k = 2∨k = 3)∧(∀ x,x ∈ t→wfT x)∧(k = 3→nOk e))∧nOkO l
end
theorem nOkK_all : ∀ {l : List KE},nOkK l→∀ x,x ∈ l→nOk x.e
  | [],_,x,hx => by simp at hx
  | .mk a e :: l,h,x,hx => by
    rw [nOkK] at h
    rcases List.mem_cons.1 hx with rfl | hx
    · exact h.1
    · exact nOkK_all h.2 x hx
theorem nOkO_all : ∀ {l : List OP},nOkO l→∀ x,x ∈ l→(x.kind = 0∨x.kind = 1∨x.kind = 2∨x.kind = 3)∧(∀ t,t ∈ x.l→wfT t)∧(x.kind = 3→nOk x.e)
  | [],_,x,hx => by simp at hx
  | .mk k n t e :: l,h,x,hx => by
    rw [nOkO] at h
    rcases List.mem_cons.1 hx with rfl | hx
    · exact h.1
    · exact nOkO_all h.2 x hx
theorem nEd_size (e : E) (h : nOk e) : (nEd e).words.length≤100000000000000∧(nEd e).kids.length≤100000000000000 := by
  obtain ⟨k,o,n,ws,ks,l,os⟩ := e
  rw [nOk] at h
  rw [nEd_mk]
  split
  · simp
  · split
    · simp; omega
    · split <;> simp
section
variable {n0 : Nat} {w0 : World} {I0 : Nat→Prop} {Q : Exit→Sta→Prop}
theorem nedit_l1 {ks : List KE} (hl : ks.length≤1000000) (hk : ∀ x,x ∈ ks→G.Spec Tryz.prog 29 [eX x.e] (eX (nEd x.e))) {v1 v3 : VOb} {W : A}
    (hq : ∀ H u st,H [1] = v1→H [3] = v3→H [2] = ⟨1,.cells [iv 2,iv 0,.sl true [],.sl true [],iv 0,.sl true [],.sl true [],W,.osl [5] u 12 0 ks.length,iv 0,.sl true []]⟩→H [5] = ⟨u,.arr 12 (ks.map (kA ∘ nKE))⟩→Q (.exit 1) ⟨lk ([(2,.pob [1] 1 0),(3,.pob [2] 1 0)] ++ st),H⟩) : ∀ (m i u : Nat) (H : Hp),i + m = ks.length→H [1] = v1→H [3] = v3→H [2] = ⟨1,.cells [iv 2,iv 0,.sl true [],.sl true [],iv 0,.sl true [],.sl true [],W,.osl [5] u 12 0 i,iv 0,.sl true []]⟩→H [5] = ⟨u,.arr 12 ((ks.take i).map (kA ∘ nKE))⟩ →
    LoopC (cx Tryz.prog w0 I0 n0) l1_normal_Edit Q ⟨lk [(2,.pob [1] 1 0),(3,.pob [2] 1 0),(32,kKs ks),(33,iv ks.length),(34,iv i)],H⟩ := by
  intro m
  induction m with
  | zero =>
    intro i u H hm h1 h3 h2 h5
    refine loopC_once mixed l1_normal_Edit.eq_1 ?_
    have : i = ks.length := by omega
    subst this
    rw [List.take_of_length_le (Nat.le_refl _)] at h5
    simp
    exact hq H u [(32,kKs ks),(33,iv ks.length),(34,iv ks.length),(35,bv false)] h1 h3 h2 h5
  | succ m ih =>
    intro i u H hm h1 h3 h2 h5
    have hi : i < ks.length := by omega
    have ew : IntKind.i64.wrap ((i : Int) + 1) = ((i + 1 : Nat) : Int) := by rw [i64_same (by omega) (by omega)]; omega
    have hE := hk _ (List.getElem_mem hi)
    have htk : (ks.take (i + 1)).map (kA ∘ nKE) = (ks.take i).map (kA ∘ nKE) ++ [kA (nKE ks[i])] := by rw [List.take_succ_eq_append_getElem hi,List.map_append]; rfl
    have next := ih (i + 1) (u + 1)
    rw [htk] at next
    generalize hx : ks[i] = x at *
    refine loopC_once mixed l1_normal_Edit.eq_1 ?_
    simp [hi,hx,updF_app,h2]
    refine sc_call hE (by simp [updF_app]) ?_
    simp [updF_app,h2,h5,ew]
    refine ⟨⟨by omega,by omega⟩,?_⟩
    refine next _ (by omega) (by simp [updF_app,h1]) (by simp [updF_app,h3]) (by simp [updF_app]) ?_
    simp [updF_app,List.take_take,nKE]
end
theorem pEdit_spec : ∀ e : E,nOk e→G.Spec Tryz.prog 29 [eX e] (eX (nEd e)) := by
  refine E.ind fun k o n ws ks l os ihk iho h => ?_
  rw [nOk] at h
  obtain ⟨hk,hl,hon,hwl,hkl,hol,hsum,hks,hos⟩ := h
  refine spec_of t_normal_Edit (by simp) fun w0 I0 => ?_
  unfold c_normal_Edit
  rw [nEd_mk]
  rcases hk with rfl | rfl | rfl | rfl
  · simp [hl (by decide)]
    exact frz_agg ⟨frz_bare rfl,frz_bare rfl,frz_sl,frz_sl,frz_bare rfl,frz_sl,frz_sl,frz_sl,frz_sl,frz_bare rfl,frz_sl,trivial⟩
  · obtain ⟨ho,hn⟩ := hon rfl
    simp [hl (by decide)]
    refine sc_call (tNorm_spec o ho) (by simp) ?_
    simp [updF_app]
    refine sc_call (tNorm_spec n hn) (by simp) ?_
    simp [updF_app]
    exact frz_agg ⟨frz_bare rfl,frz_int (norm_kind o).symm,frz_bare rfl,frz_bare rfl,frz_int (norm_kind n).symm,frz_bare rfl,frz_bare rfl,frz_sl,frz_sl,frz_bare rfl,frz_sl,trivial⟩
  · simp [hl (by decide)]
    refine ⟨by omega,?_⟩
    refine LoopC.le (le_blankC (d := [2]) (u := 1) (cs := [iv 2,iv 0,.sl true [],.sl true [],iv 0,.sl true [],.sl true [],.osl [3] 1 4 0 ws.length,.sl true [],iv 0,.sl true []]) 8 [5] 12 rfl rfl (by simp)) ?_
    refine LoopC.le (le_list [(2,.pob [1] 1 0),(3,.pob [2] 1 0),(32,kKs ks),(33,iv ks.length),(34,iv (0 : Nat))] (by simp)) ?_
    refine nedit_l1 hkl (fun x hx => ihk x hx (nOkK_all (hks rfl) x hx)) (W := .osl [3] 1 4 0 ws.length) (fun H u st h1 h3 h2 h5 => ?_) ks.length 0 1 _ (by omega) rfl rfl (by simp [updF_app]) (by simp [updF_app])
    have h3' : H [3] = ⟨1,.arr 4 (ws.map wA)⟩ := by rw [h3]; simp [updF_app]
    simp [h2,h1,updF_app]
    have fw := frz_row (H := updF H [1] ⟨1,.cells [iv 2,iv 0,.sl true [],.sl true [],iv 0,.sl true [],.sl true [],.osl [3] 1 4 0 ws.length,.osl [5] u 12 0 ks.length,iv 0,.sl true []]⟩) (o := [3]) (u := 1) (sz := 4) (l := ws) (f := wA) (n := ws.length) (by simp [updF_app,h3']) rfl (fun x => rfl)
    have fk := frz_row (H := updF H [1] ⟨1,.cells [iv 2,iv 0,.sl true [],.sl true [],iv 0,.sl true [],.sl true [],.osl [3] 1 4 0 ws.length,.osl [5] u 12 0 ks.length,iv 0,.sl true []]⟩) (o := [5]) (u := u) (sz := 12) (l := ks) (f := kA ∘ nKE) (n := ks.length) (by simp [updF_app,h5]) rfl (fun x => by simp)
    rw [← List.map_map] at fk
    exact frz_agg ⟨frz_bare rfl,frz_bare rfl,frz_sl,frz_sl,frz_bare rfl,frz_sl,frz_sl,fw,fk,frz_bare rfl,frz_sl,trivial⟩
  · have hO := pOps22_spec (list := l) (os := os) (fun x hx => by
      obtain ⟨a,b,c⟩ := nOkO_all (hos rfl) x hx
      exact ⟨a,b,fun h => ⟨iho x hx (c h),nEd_size _ (c h)⟩⟩) hol hsum
    simp
    refine sc_call hO (by simp [updF_app]) ?_
    simp [updF_app]
    exact frz_agg ⟨frz_bare rfl,frz_bare rfl,frz_sl,frz_sl,frz_bare rfl,frz_sl,frz_sl,frz_sl,frz_sl,frz_bare rfl,frz_sl,trivial⟩
section
variable {n0 : Nat} {w0 : World} {I0 : Nat→Prop} {Q : Exit→Sta→Prop}
end
section
variable {n0 : Nat} {w0 : World} {I0 : Nat→Prop} {Q : Exit→Sta→Prop}
end
inductive RI where
  | keep (n : Int)
  | del (l : List T)
  | ins (l : List T)
  | desc (e : E)
def RI.op : RI→OP
  | .keep n => .mk 0 n [] E0
  | .del l => .mk 1 0 l E0
  | .ins l => .mk 2 0 l E0
  | .desc e => .mk 3 0 [] e
def riC : RI→List A
  | .keep n => iv 0 :: iv n :: .sl true [] :: rawE
  | .del l => iv 1 :: iv 0 :: tKs l :: rawE
  | .ins l => iv 2 :: iv 0 :: tKs l :: rawE
  | .desc e => iv 3 :: iv 0 :: .sl true [] :: eL e
@[simp] theorem riC_len {x : RI} : (riC x).length = 14 := by cases x <;> rfl
theorem frz_ri {H : Hp} (x : RI) : FrzL H (riC x) (oA x.op).cells := by
  have hraw : FrzL H rawE (eL E0) := ⟨frz_bare rfl,frz_bare rfl,frz_sl,frz_sl,frz_bare rfl,frz_sl,frz_sl,frz_sl,frz_sl,frz_bare rfl,frz_sl,trivial⟩
  rw [oA_eq]
  cases x with
  | keep n => exact ⟨frz_bare rfl,frz_bare rfl,frz_sl,hraw⟩
  | del l => exact ⟨frz_bare rfl,frz_bare rfl,frz_bare rfl,hraw⟩
  | ins l => exact ⟨frz_bare rfl,frz_bare rfl,frz_bare rfl,hraw⟩
  | desc e => exact ⟨frz_bare rfl,frz_bare rfl,frz_sl,frz_bare rfl,frz_bare rfl,frz_bare rfl,frz_bare rfl,frz_bare rfl,frz_bare rfl,frz_bare rfl,frz_bare rfl,frz_bare rfl,frz_bare rfl,frz_bare rfl,trivial⟩
inductive IT where
  | r (x : RI)
  | got (o : OP)
def IT.op : IT→OP
  | .r x => x.op
  | .got o => o
def itC : IT→List A
  | .r x => riC x
  | .got o => (oA o).cells
def itA (x : IT) : A := .agg (itC x)
@[simp] theorem itA_cells {x : IT} : (itA x).cells = itC x := rfl
@[simp] theorem itC_len {x : IT} : (itC x).length = 14 := by
  cases x with
  | r x => simp [itC]
  | got o => simp [itC]
theorem lens_it {l : List IT} : lens 14 (l.map itA) = true := by rw [lens_all]; simp
theorem frz_it {H : Hp} (x : IT) : FrzL H (itC x) (oA x.op).cells := by
  cases x with
  | r x => exact frz_ri x
  | got o => exact frzL_bare (by simp [itC])
theorem frz_its {H : Hp} {o : Nm} {u n : Nat} {its : List IT} (h1 : H o = ⟨u,.arr 14 (its.map itA)⟩) (hn : n = its.length) : Frz H (.osl o u 14 0 n) (oKs (its.map IT.op)) := by
  subst hn
  refine frz_osl' (o := o) (u := u) (off := 0) (len := its.length) (sz := 14) (xs := its.map itA) (ys := (its.map IT.op).map oA) (by rw [getR_at,h1]; simp) (by simp) (by simp) (fun y hy => by
    obtain ⟨x,_,rfl⟩ := List.mem_map.1 hy
    simp) ?_ ?_
  · have : ∀ l : List OP,A.ones ((l.map oA).flatMap A.cells) = true := fun l => by
      induction l with
      | nil => rfl
      | cons x l ih => simp [A.ones] at ih ⊢
    exact this _
  · rw [List.drop_zero,List.take_of_length_le (by simp),List.map_map]
    have : ∀ l : List IT,FrzL H ((l.map itA).flatMap A.cells) ((l.map (oA ∘ IT.op)).flatMap A.cells) := fun l => by
      induction l with
      | nil => trivial
      | cons x l ih =>
        simp only [List.map_cons,List.flatMap_cons]
        exact frzL_app (frz_it x) ih (by simp)
    exact this its
theorem frz_oneO {H : Hp} (k : Int) (l : List T) : Frz H (.sl true [.agg (iv k :: iv 0 :: tKs l :: rawE)]) (oKs [OP.mk k 0 l E0]) := by
  have h := frz_soft (H := H) (a := .sl true [.agg (iv k :: iv 0 :: tKs l :: rawE)]) (by simp [rawE])
  have e : (A.sl true [.agg (iv k :: iv 0 :: tKs l :: rawE)]).soft = oKs [OP.mk k 0 l E0] := by simp [A.soft,A.softL,rawE,soft_tKs]
  rw [e] at h
  exact h
theorem pSome_spec (k : Int) (l : List T) : G.Spec Tryz.prog 223 [iv k,tKs l] (oKs (if l = [] then [] else [.mk k 0 l E0])) := by
  refine spec_of t_diff_some (by simp) fun w0 I0 => ?_
  unfold c_diff_some
  by_cases h : l = []
  · simp [h]
    exact frz_sl
  · have : ¬ l.length = 0 := by simpa using h
    simp [h,this]
    exact frz_oneO k l
theorem pRemove_spec (l : List T) : G.Spec Tryz.prog 180 [tKs l] (oKs (delO l)) := by
  refine spec_of t_diff_remove (by simp) fun w0 I0 => ?_
  unfold c_diff_remove
  simp
  refine sc_call (pSome_spec 1 l) (by simp) ?_
  simp
  exact frz_bare (by simp)
theorem pInsert_spec (l : List T) : G.Spec Tryz.prog 179 [tKs l] (oKs (insO l)) := by
  refine spec_of t_diff_insert (by simp) fun w0 I0 => ?_
  unfold c_diff_insert
  simp
  refine sc_call (pSome_spec 2 l) (by simp) ?_
  simp
  exact frz_bare (by simp)
section
variable {n0 : Nat} {w0 : World} {I0 : Nat→Prop} {Q : Exit→Sta→Prop}
theorem gp_l1 {a b : List T} (hb : ∀ t,t ∈ b→wfT t) (hbl : b.length≤1000000) {most : Int} {x : T} (hx : wfT x) {R : A} {N i w : Nat} {H0 : Hp}
    (hq : ∀ (H' : Hp) (v : Nat),H' [2] = ⟨v,.arr 1 ((b.map fun y => (scoreT x y : Int)).map iv)⟩→(∀ o,o ≠ [1]→o ≠ [2]→H' o = H0 o)→Q (.exit 2) ⟨lk [(1,tKs a),(2,tKs b),(3,iv most),(9,R),(11,.pob [0] w 0),(12,.osl [2] v 1 0 b.length),(20,tKs a),(21,iv N),(22,iv i),(26,tKs b),(27,iv b.length),(28,iv b.length),(29,bv false)],H'⟩) :
    ∀ (m j : Nat) (v : Nat) (H : Hp),j + m = b.length→H [0] = ⟨w,.cells (tL x)⟩→H [2] = ⟨v,.arr 1 (((b.take j).map fun y => (scoreT x y : Int)).map iv)⟩→(∀ o,o ≠ [1]→o ≠ [2]→H o = H0 o) →
    LoopC (cx Tryz.prog w0 I0 n0) l1_diff_Gap Q ⟨lk [(1,tKs a),(2,tKs b),(3,iv most),(9,R),(11,.pob [0] w 0),(12,.osl [2] v 1 0 j),(20,tKs a),(21,iv N),(22,iv i),(26,tKs b),(27,iv b.length),(28,iv j)],H⟩ := by
  intro m
  induction m with
  | zero =>
    intro j v H hm h0 h2 hH
    have : j = b.length := by omega
    subst this
    rw [List.take_of_length_le (Nat.le_refl _)] at h2
    refine loopC_once mixed l1_diff_Gap.eq_1 ?_
    simp
    exact hq H v h2 hH
  | succ m ih =>
    intro j v H hm h0 h2 hH
    have hlt : j < b.length := by omega
    have ew : IntKind.i64.wrap ((j : Int) + 1) = ((j + 1 : Nat) : Int) := by rw [i64_same (by omega) (by omega)]; omega
    have htk : b.take (j + 1) = b.take j ++ [b[j]] := List.take_succ_eq_append_getElem hlt
    have next := ih (j + 1)
    rw [htk] at next
    refine loopC_once mixed l1_diff_Gap.eq_1 ?_
    simp [hlt,h0,updF_app]
    refine sc_call (pScore_spec hx (hb _ (List.getElem_mem hlt))) (by simp) ?_
    simp [h2,updF_app,Nat.min_eq_left (Nat.le_of_lt hlt)]
    refine ⟨by omega,?_⟩
    rw [ew]
    refine next (v + 1) _ (by omega) (by simp [updF_app,h0]) ?_ (fun o h1 h2' => by simp [updF_app,h1,h2',hH])
    simp [updF_app]
    rw [List.take_succ_eq_append_getElem (by simpa using hlt)]
    simp [List.take_take]
abbrev ivsA (r : List Int) : A := .sl false (r.map iv)
theorem gp_l2 {a b : List T} (ha : ∀ t,t ∈ a→wfT t) (hb : ∀ t,t ∈ b→wfT t) (hal : a.length≤1000000) (hbl : b.length≤1000000) {most : Int}
    (hq : ∀ (H' : Hp),H' [3] = ⟨a.length + 1,.arr 1 ((scR a b).map ivsA)⟩→H' [5] = ⟨0,.none⟩→Q (.exit 0) ⟨lk [(1,tKs a),(2,tKs b),(3,iv most),(9,.osl [3] (a.length + 1) 1 0 a.length),(20,tKs a),(21,iv a.length),(22,iv a.length),(23,bv false)],H'⟩) :
    ∀ (m i : Nat) (H : Hp),i + m = a.length→H [3] = ⟨i + 1,.arr 1 ((scR (a.take i) b).map ivsA)⟩→H [5] = ⟨0,.none⟩ →
    LoopC (cx Tryz.prog w0 I0 n0) l2_diff_Gap Q ⟨lk [(1,tKs a),(2,tKs b),(3,iv most),(9,.osl [3] (i + 1) 1 0 i),(20,tKs a),(21,iv a.length),(22,iv i)],H⟩ := by
  intro m
  induction m with
  | zero =>
    intro i H hm h3 h5
    have : i = a.length := by omega
    subst this
    rw [List.take_of_length_le (Nat.le_refl _)] at h3
    refine loopC_once mixed l2_diff_Gap.eq_1 ?_
    simp
    exact hq H h3 h5
  | succ m ih =>
    intro i H hm h3 h5
    have hlt : i < a.length := by omega
    have ew : IntKind.i64.wrap ((i : Int) + 1) = ((i + 1 : Nat) : Int) := by rw [i64_same (by omega) (by omega)]; omega
    have htk : a.take (i + 1) = a.take i ++ [a[i]] := List.take_succ_eq_append_getElem hlt
    have next := ih (i + 1)
    rw [htk] at next
    have hrl : (scR (a.take i) b).length = i := by simp [scR]; omega
    refine loopC_once mixed l2_diff_Gap.eq_1 ?_
    simp [hlt]
    refine LoopC.le (le_blank 12 [2] 1 (by simp)) ?_
    refine LoopC.le (le_list [(1,tKs a),(2,tKs b),(3,iv most),(9,.osl [3] (i + 1) 1 0 i),(11,.pob [0] ((H [0]).u + 1) 0),(12,.osl [2] ((H [2]).u + 1) 1 0 0),(20,tKs a),(21,iv a.length),(22,iv i),(26,tKs b),(27,iv b.length),(28,iv (0 : Nat))] (by simp [upd,updF_app])) ?_
    refine gp_l1 (a := a) hb hbl (ha _ (List.getElem_mem hlt)) (H0 := updF H [0] ⟨(H [0]).u + 1,.cells (tL a[i])⟩) (fun H' v g2 gH => ?_) b.length 0 ((H [2]).u + 1) _ (by omega) (by simp [updF_app]) (by simp [updF_app]) (fun o h1 h2 => by simp [updF_app,h1,h2])
    simp
    refine stop_le (le_freezeD (d := [2]) (fun _ h => h) 12 (ivsA (b.map fun y => (scoreT a[i] y : Int))) fun H1 e1 => ?_) ?_
    · simp
      exact frz_row (f := iv) (l := b.map fun y => (scoreT a[i] y : Int)) (by rw [e1,g2]; simp) (by simp) (fun x => by simp)
    · refine stop_le (le_list [(1,tKs a),(2,tKs b),(3,iv most),(9,.osl [3] (i + 1) 1 0 i),(12,ivsA (b.map fun y => (scoreT a[i] y : Int))),(20,tKs a),(21,iv a.length),(22,iv i)] (by simp [upd])) (stop_go ?_)
      have g3 : H' [3] = H [3] := by rw [gH _ (by simp) (by simp)]; simp [updF_app]
      have g5 : H' [5] = H [5] := by rw [gH _ (by simp) (by simp)]; simp [updF_app]
      simp [updF_app,g3,h3,hrl]
      refine ⟨by omega,?_⟩
      rw [ew]
      refine next _ (by omega) ?_ (by simp [updF_app,g5,h5])
      have e1 : List.take i (List.map ivsA (scR (List.take i a) b)) = List.map ivsA (scR (List.take i a) b) := List.take_of_length_le (by simp [scR]; omega)
      simp [updF_app,e1,scR]
      rw [List.take_succ_eq_append_getElem (by simpa using hlt)]
      simp [List.take_take]
end
def PkOk (la lb : Nat) : Nat→Nat→List Sc→Prop
  | i,j,[] => i≤la∧j≤lb
  | i,j,x :: P => i≤x.i∧j≤x.j∧x.i < la∧x.j < lb∧PkOk la lb (x.i + 1) (x.j + 1) P
theorem pkOk_any {la lb : Nat} : ∀ (P : List Sc) (i j : Nat),i≤la→j≤lb→(∀ x,x ∈ P→i≤x.i∧j≤x.j∧x.i < la∧x.j < lb)→(P.Pairwise fun p q => p.i < q.i∧p.j < q.j)→PkOk la lb i j P
  | [],i,j,h1,h2,_,_ => ⟨h1,h2⟩
  | x :: P,i,j,h1,h2,h3,h4 => by
    obtain ⟨g1,g2,g3,g4⟩ := h3 x (by simp)
    rw [List.pairwise_cons] at h4
    refine ⟨g1,g2,g3,g4,pkOk_any P _ _ (by omega) (by omega) (fun y hy => ?_) h4.2⟩
    have := h4.1 y hy
    obtain ⟨k1,k2,k3,k4⟩ := h3 y (by simp [hy])
    omega
theorem pkG_ok (a b : List T) : PkOk a.length b.length 0 0 (pkG (scR a b)) := by
  obtain ⟨h,_⟩ := pkO_ok (scR a b)
  obtain ⟨h1,h2⟩ := picks_facts h
  obtain ⟨g1,g2⟩ := srt_ok h1
  refine pkOk_any _ 0 0 (by omega) (by omega) (fun x hx => ?_) ?_
  · obtain ⟨_,_,_,_,r,k1,k2⟩ := candS_mem (h2 x (g2.subset hx))
    have l1 := (List.getElem?_eq_some_iff.1 k1).1
    have e1 := (List.getElem?_eq_some_iff.1 k1).2
    have l2 := (List.getElem?_eq_some_iff.1 k2).1
    rw [← e1] at l2
    simp [scR] at l1 l2
    omega
  · have hp : (pkG (scR a b)).Pairwise fun p q => par p q = true := by
      refine (List.Perm.pairwise_iff (fun {p q} h => ?_) g2).2 h1
      unfold par at h ⊢
      simp at h ⊢
      omega
    have hr : (pkG (scR a b)).Pairwise fun p q => p.i < q.i := g1
    refine (hp.and hr).imp fun {p q} h => ?_
    obtain ⟨h1,h2⟩ := h
    unfold par at h1
    simp at h1
    omega
section
variable {n0 : Nat} {w0 : World} {I0 : Nat→Prop} {Q : Exit→Sta→Prop}
theorem gp_l3 {one : T→T→E} {a b : List T} (hal : a.length≤1000000) (hbl : b.length≤1000000) {most : Int} (hone : ∀ x,x ∈ a→∀ y,y ∈ b→G.Spec Tryz.prog 30 [tX x,tX y,iv most] (eX (one x y))) {P : List Sc} (hP : P.length≤1000) {R : List OP}
    (hq : ∀ (H' : Hp) (its : List IT) (v i j : Nat),i≤a.length→j≤b.length→its.length≤3 * P.length→R = gapO one a b [] i j (its.map IT.op)→H' [5] = ⟨v,.arr 14 (its.map itA)⟩→Q (.exit 4) ⟨lk [(1,tKs a),(2,tKs b),(3,iv most),(15,.osl [5] v 14 0 its.length),(16,iv i),(17,iv j),(45,prs P),(46,iv P.length),(47,iv P.length),(48,bv false)],H'⟩) :
    ∀ (m k i j v : Nat) (its : List IT) (H : Hp),k + m = P.length→PkOk a.length b.length i j (P.drop k)→its.length≤3 * k→R = gapO one a b (P.drop k) i j (its.map IT.op)→H [5] = ⟨v,.arr 14 (its.map itA)⟩ →
    LoopC (cx Tryz.prog w0 I0 n0) l3_diff_Gap Q ⟨lk [(1,tKs a),(2,tKs b),(3,iv most),(15,.osl [5] v 14 0 its.length),(16,iv i),(17,iv j),(45,prs P),(46,iv P.length),(47,iv k)],H⟩ := by
  intro m
  induction m with
  | zero =>
    intro k i j v its H hm hk hl hR h5
    have : k = P.length := by omega
    subst this
    rw [List.drop_length] at hk hR
    refine loopC_once mixed l3_diff_Gap.eq_1 ?_
    simp
    exact hq H its v i j hk.1 hk.2 hl hR h5
  | succ m ih =>
    intro k i j v its H hm hk hl hR h5
    have hlt : k < P.length := by omega
    have ew : IntKind.i64.wrap ((k : Int) + 1) = ((k + 1 : Nat) : Int) := by rw [i64_same (by omega) (by omega)]; omega
    have hd : P.drop k = P[k] :: P.drop (k + 1) := (List.getElem_cons_drop hlt).symm
    rw [hd] at hk hR
    have next := ih (k + 1)
    generalize hx : P[k] = x at *
    obtain ⟨k1,k2,k3,k4,k5⟩ := hk
    rw [gapO] at hR
    have ei : IntKind.i64.wrap ((x.i : Int) + 1) = ((x.i + 1 : Nat) : Int) := by rw [i64_same (by omega) (by omega)]; omega
    have ej : IntKind.i64.wrap ((x.j : Int) + 1) = ((x.j + 1 : Nat) : Int) := by rw [i64_same (by omega) (by omega)]; omega
    have hO := hone _ (List.getElem_mem k3) _ (List.getElem_mem k4)
    have D1 := pRemove_spec ((a.take x.i).drop i)
    have D2 := pInsert_spec ((b.take x.j).drop j)
    refine loopC_once mixed l3_diff_Gap.eq_1 ?_
    have f1 : x.i≤a.length := by omega
    have f2 : x.j≤b.length := by omega
    have dl : ∀ l,(delO l).length≤1 := fun l => by unfold delO; split <;> simp
    have il : ∀ l,(insO l).length≤1 := fun l => by unfold insO; split <;> simp
    have d1 := dl ((a.take x.i).drop i)
    have d2 := il ((b.take x.j).drop j)
    simp [hlt,hx,prA,prC,updF_app,k1,k2,f1,f2,h5]
    simp only [← List.map_drop,← List.map_take]
    simp only [List.drop_take] at D1 D2 hR d1 d2
    refine sc_call D1 (by simp) ?_
    generalize delO ((a.drop i).take (x.i - i)) = D at *
    generalize hI : insO ((b.drop j).take (x.j - j)) = I at *
    simp [k1,k2,f1,f2,h5,updF_app,lens_it]
    have hgot : ∀ D : List OP,D.map oA = (D.map IT.got).map itA := fun D => by
      rw [List.map_map]
      refine List.map_congr_left fun o _ => ?_
      simp [itA,itC]
    refine ⟨by omega,?_⟩
    simp only [← List.map_drop,← List.map_take]
    refine sc_call D2 (by simp) ?_
    simp [k3,k4,updF_app,lens_it]
    refine ⟨by omega,?_⟩
    refine sc_call hO (by simp) ?_
    simp [ei,ej,ew,updF_app,lens_it]
    refine ⟨by omega,?_⟩
    have e1 : a.getD x.i T0 = a[x.i] := by simp [k3]
    have e2 : b.getD x.j T0 = b[x.j] := by simp [k4]
    rw [e1,e2] at hR
    have hop : ∀ D : List OP,(D.map IT.got).map IT.op = D := fun D => by
      rw [List.map_map]
      exact List.map_id' _
    have hrow : List.take (its.length + D.length + I.length) (List.take (its.length + D.length) (List.map itA its ++ List.map oA D) ++ List.map oA I) ++ [A.agg (A.v (Value.int IntKind.i64 3) :: A.v (Value.int IntKind.i64 0) :: A.sl true [] :: eL (one a[x.i] b[x.j]))] = (its ++ D.map IT.got ++ I.map IT.got ++ [IT.r (.desc (one a[x.i] b[x.j]))]).map itA := by
      rw [List.take_of_length_le (by simp),List.take_of_length_le (by simp),hgot D,hgot I]
      simp [itA,itC,riC]
    rw [hrow]
    have nx := next (x.i + 1) (x.j + 1) (v + 1 + 1 + 1) (its ++ D.map IT.got ++ I.map IT.got ++ [IT.r (.desc (one a[x.i] b[x.j]))]) (updF (updF H [4] ⟨(H [4]).u + 1,.cells [iv x.i,iv x.j]⟩) [5] ⟨v + 1 + 1 + 1,.arr 14 ((its ++ D.map IT.got ++ I.map IT.got ++ [IT.r (.desc (one a[x.i] b[x.j]))]).map itA)⟩) (by omega) k5 (by simp; omega) (by rw [hR]; congr 1; simp [hop,IT.op,RI.op]) (by simp [updF_app])
    have hlen : (its ++ D.map IT.got ++ I.map IT.got ++ [IT.r (.desc (one a[x.i] b[x.j]))]).length = its.length + D.length + I.length + 1 := by simp; omega
    rw [hlen] at nx
    simpa using nx
end
theorem pGap_spec {one : T→T→E} {a b : List T} (ha : ∀ t,t ∈ a→wfT t) (hb : ∀ t,t ∈ b→wfT t) (hal : a.length≤1000000) (hbl : b.length≤1000000) {most q : Int} (hone : ∀ x,x ∈ a→∀ y,y ∈ b→G.Spec Tryz.prog 30 [tX x,tX y,iv most] (eX (one x y))) :
    G.Spec Tryz.prog 154 [iv q,tKs a,tKs b,iv most] (oKs (gapE one a b)) := by
  obtain ⟨hpk,hp16⟩ := pkO_ok (scR a b)
  have hPl : (pkG (scR a b)).length≤16 := by
    have := (srt_ok (picks_facts hpk).1).2.length_eq
    unfold pkG
    omega
  have hPick := pick_spec (scR a b) (by simp [scR]; omega) (fun r hr => by
    obtain ⟨x,_,rfl⟩ := List.mem_map.1 hr
    simp; omega) hpk hp16
  refine spec_of t_diff_Gap (by simp) fun w0 I0 => ?_
  unfold c_diff_Gap
  simp
  refine LoopC.le (le_blank 9 [3] 1 (by simp)) ?_
  refine LoopC.le (le_list [(1,tKs a),(2,tKs b),(3,iv most),(9,.osl [3] (0 + 1) 1 0 0),(20,tKs a),(21,iv a.length),(22,iv (0 : Nat))] (by simp [upd])) ?_
  refine gp_l2 ha hb hal hbl (fun H' h3 h5 => ?_) a.length 0 _ (by omega) (by simp [scR]) (by simp [updF_app])
  simp
  refine stop_le (le_freezeD (d := [3]) (fun _ h => h) 9 (ivss (scR a b)) fun H1 e1 => ?_) ?_
  · simp
    exact frz_row (f := ivsA) (l := scR a b) (by rw [e1,h3]; simp) (by simp [scR]) (fun x => by simp)
  · refine stop_le (le_list [(1,tKs a),(2,tKs b),(3,iv most),(9,ivss (scR a b)),(15,.sl true []),(16,iv 0),(17,iv 0)] (by simp [upd])) (stop_go ?_)
    simp
    refine sc_call hPick (by simp) ?_
    simp
    refine LoopC.le (le_blank 15 [5] 14 (by simp)) ?_
    refine LoopC.le (le_list [(1,tKs a),(2,tKs b),(3,iv most),(15,.osl [5] 1 14 0 ([] : List IT).length),(16,iv (0 : Nat)),(17,iv (0 : Nat)),(45,prs (pkG (scR a b))),(46,iv (pkG (scR a b)).length),(47,iv (0 : Nat))] (by simp [upd,updF_app,h5,pkG])) ?_
    refine gp_l3 (one := one) (a := a) (b := b) hal hbl hone (P := pkG (scR a b)) (by omega) (R := gapE one a b) (fun H2 its v i j hi hj hl hR k5 => ?_) _ 0 0 0 1 [] _ (Nat.zero_add _) (pkG_ok a b) (by simp) rfl (by simp [updF_app,h5])
    have D1 := pRemove_spec ((a.drop i).take (a.length - i))
    have D2 := pInsert_spec ((b.drop j).take (b.length - j))
    have dl : ∀ l,(delO l).length≤1 := fun l => by unfold delO; split <;> simp
    have il : ∀ l,(insO l).length≤1 := fun l => by unfold insO; split <;> simp
    have d1 := dl ((a.drop i).take (a.length - i))
    have d2 := il ((b.drop j).take (b.length - j))
    have ea : (a.drop i).take (a.length - i) = a.drop i := List.take_of_length_le (by simp)
    have eb : (b.drop j).take (b.length - j) = b.drop j := List.take_of_length_le (by simp)
    have hR2 : gapE one a b = its.map IT.op ++ delO ((a.drop i).take (a.length - i)) ++ insO ((b.drop j).take (b.length - j)) := by rw [ea,eb,hR,gapO]
    clear ea eb
    rw [hR2]
    have hgot : ∀ D : List OP,D.map oA = (D.map IT.got).map itA := fun D => by
      rw [List.map_map]
      refine List.map_congr_left fun o _ => ?_
      simp [itA,itC]
    have hop : ∀ D : List OP,(D.map IT.got).map IT.op = D := fun D => by
      rw [List.map_map]
      exact List.map_id' _
    clear hR2
    generalize delO ((a.drop i).take (a.length - i)) = D at *
    generalize insO ((b.drop j).take (b.length - j)) = I at *
    simp [hi,hj]
    simp only [← List.map_drop,← List.map_take]
    refine sc_call D1 (by simp) ?_
    simp [hj,k5,updF_app,lens_it]
    refine ⟨by omega,?_⟩
    simp only [← List.map_drop,← List.map_take]
    refine sc_call D2 (by simp) ?_
    simp [updF_app,lens_it]
    refine ⟨by omega,?_⟩
    have hf : ∀ H : Hp,H [5] = ⟨v + 1 + 1,.arr 14 ((its ++ D.map IT.got ++ I.map IT.got).map itA)⟩→Frz H (.osl [5] (v + 1 + 1) 14 0 (its.length + D.length + I.length)) (oKs (its.map IT.op ++ (D ++ I))) := fun H hH => by
      have := frz_its hH (n := its.length + D.length + I.length) (by simp; omega)
      simpa [hop] using this
    refine hf _ ?_
    rw [hgot D,hgot I,List.take_of_length_le (by simp)]
    simp [updF_app]
theorem opsG_keep {gap : List T→List T→List OP} {s : Sp} (h : s.k = 0) (ss : List Sp) (a b : List T) (out : List OP) : opsG gap (s :: ss) a b out = opsG gap ss (a.drop s.n) (b.drop s.n) (out ++ [.mk 0 s.n [] E0]) := by
  cases ss with
  | nil => simp [opsG,h]
  | cons s2 ss => simp [opsG,h]
theorem opsG_ins {gap : List T→List T→List OP} {s : Sp} (h : s.k = 2) (ss : List Sp) (a b : List T) (out : List OP) : opsG gap (s :: ss) a b out = opsG gap ss a (b.drop s.n) (out ++ insO (b.take s.n)) := by
  cases ss with
  | nil => simp [opsG,h]
  | cons s2 ss => simp [opsG,h]
theorem opsG_gap {gap : List T→List T→List OP} {s s2 : Sp} (h : s.k = 1) (h2 : s2.k = 2) (ss : List Sp) (a b : List T) (out : List OP) : opsG gap (s :: s2 :: ss) a b out = opsG gap ss (a.drop s.n) (b.drop s2.n) (out ++ gap (a.take s.n) (b.take s2.n)) := by
  simp [opsG,h,h2]
theorem opsG_del {gap : List T→List T→List OP} {s : Sp} (h : s.k = 1) {ss : List Sp} (h2 : ∀ s2 r,ss = s2 :: r→s2.k ≠ 2) (a b : List T) (out : List OP) : opsG gap (s :: ss) a b out = opsG gap ss (a.drop s.n) b (out ++ delO (a.take s.n)) := by
  cases ss with
  | nil => simp [opsG,h]
  | cons s2 ss => simp [opsG,h,h2 s2 ss rfl]
theorem gapO_len (one : T→T→E) (a b : List T) : ∀ (P : List Sc) (i j : Nat) (out : List OP),(gapO one a b P i j out).length≤out.length + 3 * P.length + 2
  | [],i,j,out => by
    have d1 : (delO (a.drop i)).length≤1 := by unfold delO; split <;> simp
    have d2 : (insO (b.drop j)).length≤1 := by unfold insO; split <;> simp
    simp [gapO]
    omega
  | x :: P,i,j,out => by
    have d1 : (delO ((a.take x.i).drop i)).length≤1 := by unfold delO; split <;> simp
    have d2 : (insO ((b.take x.j).drop j)).length≤1 := by unfold insO; split <;> simp
    have := gapO_len one a b P (x.i + 1) (x.j + 1) (out ++ delO ((a.take x.i).drop i) ++ insO ((b.take x.j).drop j) ++ [.mk 3 0 [] (one (a.getD x.i T0) (b.getD x.j T0))])
    rw [gapO]
    simp only [List.length_append,List.length_singleton] at this
    simp only [List.length_cons]
    omega
theorem gapE_len (one : T→T→E) (a b : List T) : (gapE one a b).length≤50 := by
  obtain ⟨hpk,hp16⟩ := pkO_ok (scR a b)
  have hPl : (pkG (scR a b)).length≤16 := by
    have := (srt_ok (picks_facts hpk).1).2.length_eq
    unfold pkG
    omega
  have := gapO_len one a b (pkG (scR a b)) 0 0 []
  simp at this
  unfold gapE
  omega
theorem hgot26 (D : List OP) : D.map oA = (D.map IT.got).map itA := by
  rw [List.map_map]
  refine List.map_congr_left fun o _ => ?_
  simp [itA,itC]
theorem hop26 (D : List OP) : (D.map IT.got).map IT.op = D := by
  rw [List.map_map]
  exact List.map_id' _
section
variable {n0 : Nat} {w0 : World} {I0 : Nat→Prop} {Q : Exit→Sta→Prop}
theorem dops_l1 {one : T→T→E} {a b : T} (ha : ∀ t,t ∈ a.kids→wfT t) (hb : ∀ t,t ∈ b.kids→wfT t) (hal : a.kids.length≤1000000) (hbl : b.kids.length≤1000000) {most : Int} (hone : ∀ x,x ∈ a.kids→∀ y,y ∈ b.kids→G.Spec Tryz.prog 30 [tX x,tX y,iv most] (eX (one x y))) {S : List Sp} (hS : S.length≤10000000) (hS2 : ∀ s,s ∈ S→s.k≤2) {R : List OP}
    (hq : ∀ (H' : Hp) (its : List IT) (v : Nat) (st : List (Nat × A)),its.map IT.op = R→H' [2] = ⟨v,.arr 14 (its.map itA)⟩→Q (.exit 0) ⟨lk ([(0,sps S),(3,iv most),(5,.pob [0] 1 0),(9,.osl [2] v 14 0 its.length)] ++ st),H'⟩) :
    ∀ (m k v : Nat) (x y : List T) (its : List IT) (H : Hp),k + m = S.length→(∀ t,t ∈ x→t ∈ a.kids)→(∀ t,t ∈ y→t ∈ b.kids)→x.length≤1000000→y.length≤1000000→dA (unitsS (S.drop k))≤x.length→dB (unitsS (S.drop k))≤y.length→its.length≤50 * k→R = opsG (gapE one) (S.drop k) x y (its.map IT.op)→H [0] = ⟨1,.cells (tL a)⟩→H [2] = ⟨v,.arr 14 (its.map itA)⟩ →
    LoopC (cx Tryz.prog w0 I0 n0) l1_diff_ops Q ⟨lk [(0,sps S),(3,iv most),(5,.pob [0] 1 0),(9,.osl [2] v 14 0 its.length),(10,tKs x),(11,tKs y),(12,iv k)],H⟩ := by
  have tk : ∀ (l : List T) (n : Nat),(l.drop n).take (l.length - n) = l.drop n := fun l n => List.take_of_length_le (by simp)
  intro m
  induction m using Nat.strongRecOn with
  | _ m ih =>
  intro k v x y its H hm hx hy hxl hyl hA hB hl hR h0 h2
  cases m with
  | zero =>
    have : k = S.length := by omega
    subst this
    rw [List.drop_length] at hR
    refine loopC_once mixed l1_diff_ops.eq_1 ?_
    simp
    exact hq H its v [(10,tKs x),(11,tKs y),(12,iv S.length),(22,bv false)] hR.symm h2
  | succ m =>
    have hlt : k < S.length := by omega
    have ew : IntKind.i64.wrap ((k : Int) + 1) = ((k + 1 : Nat) : Int) := by rw [i64_same (by omega) (by omega)]; omega
    have hd : S.drop k = S[k] :: S.drop (k + 1) := (List.getElem_cons_drop hlt).symm
    have hk := hS2 _ (List.getElem_mem hlt)
    rw [hd] at hR hA hB
    rw [units_cons,dA_app,dA_rep] at hA
    rw [units_cons,dB_app,dB_rep] at hB
    have hg : (S.map spA)[k]? = some (spA S[k]) := by simp [hlt]
    generalize hs : S[k] = s at *
    have hk3 : s.k = 0∨s.k = 1∨s.k = 2 := by omega
    rcases hk3 with h | h | h
    · rw [opsG_keep h] at hR
      rw [if_neg (by omega)] at hA hB
      have f1 : s.n≤x.length := by omega
      have f2 : s.n≤y.length := by omega
      refine loopC_once mixed l1_diff_ops.eq_1 ?_
      simp [hlt,hs,spA,spC,h,f1,f2,h2,lens_it,ew]
      refine ⟨by omega,?_⟩
      simp only [← List.map_drop,← List.map_take,tk]
      have nx := ih m (by omega) (k + 1) (v + 1) (x.drop s.n) (y.drop s.n) (its ++ [IT.r (RI.keep (s.n : Int))]) (updF H [2] ⟨v + 1,.arr 14 ((its ++ [IT.r (RI.keep (s.n : Int))]).map itA)⟩) (by omega) (fun t ht => hx t (List.mem_of_mem_drop ht)) (fun t ht => hy t (List.mem_of_mem_drop ht)) (by simp; omega) (by simp; omega) (by simp; omega) (by simp; omega) (by simp; omega) (by rw [hR]; simp [IT.op,RI.op]) (by simp [updF_app,h0]) (by simp [updF_app])
      rw [List.take_of_length_le (by simp)]
      rw [Int.natCast_add] at nx
      simp only [List.length_append,List.length_map,List.length_singleton,List.length_cons,List.length_nil,List.map_append,List.map_cons,List.map_nil] at nx ⊢
      exact nx
    · rw [h] at hA hB
      simp at hA hB
      have f1 : s.n≤x.length := by omega
      by_cases hg2 : ∃ h3 : k + 1 < S.length,S[k + 1].k = 2
      · obtain ⟨h3,h4⟩ := hg2
        have hd2 : S.drop (k + 1) = S[k + 1] :: S.drop (k + 1 + 1) := (List.getElem_cons_drop h3).symm
        rw [hd2] at hR hA hB
        rw [units_cons,dA_app,dA_rep] at hA
        rw [units_cons,dB_app,dB_rep] at hB
        generalize hs2 : S[k + 1] = s2 at *
        rw [opsG_gap h h4] at hR
        rw [h4] at hA hB
        simp at hA hB
        have f2 : s2.n≤y.length := by omega
        have ew2 : IntKind.i64.wrap ((k : Int) + 1 + 1) = ((k + 1 + 1 : Nat) : Int) := by rw [i64_same (by omega) (by omega)]; omega
        have G := pGap_spec (one := one) (a := x.take s.n) (b := y.take s2.n) (q := a.kind) (fun t ht => ha t (hx t (List.mem_of_mem_take ht))) (fun t ht => hb t (hy t (List.mem_of_mem_take ht))) (by simp; omega) (by simp; omega) (most := most) (fun p hp q hq => hone p (hx p (List.mem_of_mem_take hp)) q (hy q (List.mem_of_mem_take hq)))
        have gl := gapE_len one (x.take s.n) (y.take s2.n)
        have i1 : (k : Int) + 1 < S.length := by omega
        have i2 : (0 : Int)≤(k : Int) + 1 := by omega
        have i3 : ((k : Int) + 1).toNat = k + 1 := by omega
        have i4 : IntKind.i64.wrap ((k : Int) + 1) = (k : Int) + 1 := by rw [ew]; omega
        refine loopC_once mixed l1_diff_ops.eq_1 ?_
        generalize gapE one (x.take s.n) (y.take s2.n) = I at *
        simp [hlt,hs,spA,spC,h,f1,f2,h2,lens_it,i4,h3,hs2,h4,h0,i1,i2,i3]
        simp only [← List.map_drop,← List.map_take,tk]
        refine sc_call G (by simp) ?_
        simp [f1,f2,h2,lens_it,i4,h0,ew2]
        refine ⟨by omega,?_⟩
        simp only [← List.map_drop,← List.map_take,tk]
        cases m with
        | zero => omega
        | succ m =>
          have nx := ih m (by omega) (k + 1 + 1) (v + 1) (x.drop s.n) (y.drop s2.n) (its ++ I.map IT.got) (updF H [2] ⟨v + 1,.arr 14 ((its ++ I.map IT.got).map itA)⟩) (by omega) (fun t ht => hx t (List.mem_of_mem_drop ht)) (fun t ht => hy t (List.mem_of_mem_drop ht)) (by simp; omega) (by simp; omega) (by simp; omega) (by simp; omega) (by simp; omega) (by rw [hR,List.map_append,hop26]) (by simp [updF_app,h0]) (by simp [updF_app])
          rw [List.take_of_length_le (by simp),hgot26,← List.map_append]
          rw [Int.natCast_add,Int.natCast_add] at nx
          simp only [List.length_append,List.length_map,List.length_singleton,List.length_cons,List.length_nil,List.map_append,List.map_cons,List.map_nil] at nx ⊢
          exact nx
      · have hnd : ∀ s2 r,S.drop (k + 1) = s2 :: r→s2.k ≠ 2 := fun s2 r e h4 => by
          have h3 : k + 1 < S.length := by
            have := congrArg List.length e
            simp at this
            omega
          have hd2 : S.drop (k + 1) = S[k + 1] :: S.drop (k + 1 + 1) := (List.getElem_cons_drop h3).symm
          rw [hd2] at e
          injection e with e1 _
          exact hg2 ⟨h3,by rw [e1]; exact h4⟩
        rw [opsG_del h hnd] at hR
        have D := pRemove_spec (x.take s.n)
        have dl : (delO (x.take s.n)).length≤1 := by unfold delO; split <;> simp
        generalize delO (x.take s.n) = I at *
        refine loopC_once mixed l1_diff_ops.eq_1 ?_
        by_cases h3 : k + 1 < S.length
        · have h4 : ¬ (S[k + 1].k : Int) = 2 := fun e => hg2 ⟨h3,by omega⟩
          have h4' : ¬ S[k + 1].k = 2 := fun e => hg2 ⟨h3,e⟩
          have i1 : (k : Int) + 1 < S.length := by omega
          have i2 : (0 : Int)≤(k : Int) + 1 := by omega
          have i3 : ((k : Int) + 1).toNat = k + 1 := by omega
          have i4 : IntKind.i64.wrap ((k : Int) + 1) = (k : Int) + 1 := by rw [ew]; omega
          simp [hlt,hs,spA,spC,h,f1,h2,lens_it,i4,h3,h4,h4',i1,i2,i3]
          simp only [← List.map_drop,← List.map_take,tk]
          refine sc_call D (by simp) ?_
          simp [f1,h2,lens_it,i4]
          refine ⟨by omega,?_⟩
          simp only [← List.map_drop,← List.map_take,tk]
          have nx := ih m (by omega) (k + 1) (v + 1) (x.drop s.n) y (its ++ I.map IT.got) (updF H [2] ⟨v + 1,.arr 14 ((its ++ I.map IT.got).map itA)⟩) (by omega) (fun t ht => hx t (List.mem_of_mem_drop ht)) hy (by simp; omega) (by omega) (by simp; omega) (by omega) (by simp; omega) (by rw [hR,List.map_append,hop26]) (by simp [updF_app,h0]) (by simp [updF_app])
          rw [List.take_of_length_le (by simp),hgot26,← List.map_append]
          rw [Int.natCast_add] at nx
          simp only [List.length_append,List.length_map,List.length_singleton,List.length_cons,List.length_nil,List.map_append,List.map_cons,List.map_nil] at nx ⊢
          exact nx
        · have i1 : ¬ (k : Int) + 1 < S.length := by omega
          have i4 : IntKind.i64.wrap ((k : Int) + 1) = (k : Int) + 1 := by rw [ew]; omega
          simp [hlt,hs,spA,spC,h,f1,h2,lens_it,i4,i1]
          simp only [← List.map_drop,← List.map_take,tk]
          refine sc_call D (by simp) ?_
          simp [f1,h2,lens_it,i4]
          refine ⟨by omega,?_⟩
          simp only [← List.map_drop,← List.map_take,tk]
          have nx := ih m (by omega) (k + 1) (v + 1) (x.drop s.n) y (its ++ I.map IT.got) (updF H [2] ⟨v + 1,.arr 14 ((its ++ I.map IT.got).map itA)⟩) (by omega) (fun t ht => hx t (List.mem_of_mem_drop ht)) hy (by simp; omega) (by omega) (by simp; omega) (by omega) (by simp; omega) (by rw [hR,List.map_append,hop26]) (by simp [updF_app,h0]) (by simp [updF_app])
          rw [List.take_of_length_le (by simp),hgot26,← List.map_append]
          rw [Int.natCast_add] at nx
          simp only [List.length_append,List.length_map,List.length_singleton,List.length_cons,List.length_nil,List.map_append,List.map_cons,List.map_nil] at nx ⊢
          exact nx
    · rw [opsG_ins h] at hR
      rw [h] at hA hB
      simp at hA hB
      have f2 : s.n≤y.length := by omega
      have D := pInsert_spec (y.take s.n)
      have dl : (insO (y.take s.n)).length≤1 := by unfold insO; split <;> simp
      generalize insO (y.take s.n) = I at *
      refine loopC_once mixed l1_diff_ops.eq_1 ?_
      simp [hlt,hs,spA,spC,h,f2,h2,lens_it,ew]
      simp only [← List.map_drop,← List.map_take,tk]
      refine sc_call D (by simp) ?_
      simp [f2,h2,lens_it,ew]
      refine ⟨by omega,?_⟩
      simp only [← List.map_drop,← List.map_take,tk]
      have nx := ih m (by omega) (k + 1) (v + 1) x (y.drop s.n) (its ++ I.map IT.got) (updF H [2] ⟨v + 1,.arr 14 ((its ++ I.map IT.got).map itA)⟩) (by omega) hx (fun t ht => hy t (List.mem_of_mem_drop ht)) (by omega) (by simp; omega) (by omega) (by simp; omega) (by simp; omega) (by rw [hR,List.map_append,hop26]) (by simp [updF_app,h0]) (by simp [updF_app])
      rw [List.take_of_length_le (by simp),hgot26,← List.map_append]
      rw [Int.natCast_add] at nx
      simp only [List.length_append,List.length_map,List.length_singleton,List.length_cons,List.length_nil,List.map_append,List.map_cons,List.map_nil] at nx ⊢
      exact nx
end
theorem dOps26_spec {one : T→T→E} {a b : T} (ha : ∀ t,t ∈ a.kids→wfT t) (hb : ∀ t,t ∈ b.kids→wfT t) (hal : a.kids.length≤1000000) (hbl : b.kids.length≤1000000) {most : Int} (hone : ∀ x,x ∈ a.kids→∀ y,y ∈ b.kids→G.Spec Tryz.prog 30 [tX x,tX y,iv most] (eX (one x y))) {S : List Sp} (hS : S.length≤10000000) (hS2 : ∀ s,s ∈ S→s.k≤2) (hA : dA (unitsS S)≤a.kids.length) (hB : dB (unitsS S)≤b.kids.length) :
    G.Spec Tryz.prog 121 [sps S,tX a,tX b,iv most] (oKs (opsG (gapE one) S a.kids b.kids [])) := by
  refine spec_of t_diff_ops (by simp) fun w0 I0 => ?_
  unfold c_diff_ops
  simp
  refine LoopC.le (le_blank 9 [2] 14 (by simp)) ?_
  refine LoopC.le (le_list [(0,sps S),(3,iv most),(5,.pob [0] 1 0),(9,.osl [2] 1 14 0 ([] : List IT).length),(10,tKs a.kids),(11,tKs b.kids),(12,iv (0 : Nat))] (by simp [upd])) ?_
  refine dops_l1 (a := a) (b := b) ha hb hal hbl hone hS hS2 (R := opsG (gapE one) S a.kids b.kids []) (fun H' its v st hR k2 => ?_) S.length 0 1 a.kids b.kids [] _ (Nat.zero_add _) (fun t h => h) (fun t h => h) hal hbl (by simpa using hA) (by simpa using hB) (by simp) (by simp) (by simp [updF_app]) (by simp [updF_app])
  simp
  rw [← hR]
  exact frz_its k2 rfl
theorem zsN_nv (l : List Nat) : (zsN l).map iv = l.map nv := by
  simp [zsN]
theorem nrm_k {us : List Nat} (h : ∀ x,x ∈ us→x≤2) : ∀ s,s ∈ nrmS us→s.k≤2∧1≤s.n := goU_ok us 0 0 0 h
theorem steps_len : ∀ (l : List Sp),(∀ s,s ∈ l→s.k≤2∧1≤s.n)→l.length≤dA (unitsS l) + dB (unitsS l)
  | [],_ => by simp
  | s :: l,h => by
    have ih := steps_len l fun x hx => h x (by simp [hx])
    have hs := h s (by simp)
    rw [units_cons,dA_app,dB_app,dA_rep,dB_rep,List.length_cons]
    split <;> split <;> omega
theorem pkG_nil (a b : List T) (h : a = []∨b = []) : pkG (scR a b) = [] := by
  have hP := pkG_ok a b
  cases hp : pkG (scR a b) with
  | nil => rfl
  | cons x P =>
    rw [hp] at hP
    have h1 := hP.2.2.1
    have h2 := hP.2.2.2.1
    rcases h with rfl | rfl <;> simp at h1 h2
theorem gapE_nil (one : T→T→E) (b : List T) : gapE one [] b = insO b := by
  unfold gapE
  rw [pkG_nil _ _ (.inl rfl),gapO]
  simp [delO]
theorem gapE_nil' (one : T→T→E) (a : List T) : gapE one a [] = delO a := by
  unfold gapE
  rw [pkG_nil _ _ (.inr rfl),gapO]
  simp [insO]
theorem opsG_all (one : T→T→E) (a b : List T) : opsG (gapE one) (nrmS (unitsS [⟨1,a.length⟩,⟨2,b.length⟩])) a b [] = gapE one a b := by
  have e : nrmS (unitsS [⟨1,a.length⟩,⟨2,b.length⟩]) = fl 1 a.length ++ fl 2 b.length := by
    unfold nrmS
    rw [units_cons,units_cons,units_nil]
    by_cases h1 : a.length = 0
    · by_cases h2 : b.length = 0
      · simp [h1,h2,goU]
      · rw [h1]
        simp only [List.replicate_zero,List.nil_append]
        rw [goU_ins b.length [] 0 0 0 (by omega)]
        simp [goU]
    · rw [goU_del a.length _ 0 0 0 (by omega)]
      by_cases h2 : b.length = 0
      · simp [h2,goU]
      · rw [goU_ins b.length [] 0 _ 0 (by omega)]
        simp [goU]
  rw [e]
  by_cases h1 : a.length = 0
  · have h1' : a = [] := by simpa using h1
    subst h1'
    by_cases h2 : b.length = 0
    · have h2' : b = [] := by simpa using h2
      subst h2'
      simp [opsG,gapE_nil,insO]
    · rw [fl_pos (k := 2) (n := b.length) (by omega)]
      simp [opsG,gapE_nil]
  · rw [fl_pos (k := 1) (n := a.length) (by omega)]
    by_cases h2 : b.length = 0
    · have h2' : b = [] := by simpa using h2
      subst h2'
      simp [opsG,gapE_nil']
    · rw [fl_pos (k := 2) (n := b.length) (by omega)]
      simp [opsG]
theorem pList26_spec {one : T→T→E} {a b : T} (ha : wfT a) (hb : wfT b) (hna : ∀ t,t ∈ a.kids→norm t = t) (hnb : ∀ t,t ∈ b.kids→norm t = t) (hal : a.kids.length≤30000) (hbl : b.kids.length≤30000) {most : Int} (hm : i64R most) (hone : ∀ x,x ∈ a.kids→∀ y,y ∈ b.kids→G.Spec Tryz.prog 30 [tX x,tX y,iv most] (eX (one x y))) :
    G.Spec Tryz.prog 62 [tX a,tX b,iv most] (eX (listE one most a b)) := by
  have hka := (wfT_iff.1 ha).ks
  have hkb := (wfT_iff.1 hb).ks
  have C1 := clsOf_spec (ks := []) (ts := a.kids) (by simp) (by simp) hka hna (by simp; omega) 1
  have hl1 := clsL_len a.kids []
  simp at hl1
  have C2 := clsOf_spec (ks := (clsL [] a.kids).1) (ts := b.kids) (clsL_wf (l := a.kids) (by simp) hka) (clsL_nrm (l := a.kids) (by simp)) hkb hnb (by omega) (ofVs 1 [] a.kids)
  have e1 : (caL a).length = a.kids.length := by simp [caL,zsN,clsL_length]
  have e2 : (cbL a b).length = b.kids.length := by simp [cbL,zsN,clsL_length]
  have hD := diffL_spec (a := caL a) (b := cbL a b) (by omega) (by omega) hm
  have z1 : (caL a).map iv = (clsL [] a.kids).2.map nv := zsN_nv _
  have z2 : (cbL a b).map iv = (clsL (clsL [] a.kids).1 b.kids).2.map nv := zsN_nv _
  simp only [ivs,z1,z2] at hD
  have key : ∀ (w0 : World) (I0 : Nat→Prop) (S : List Sp) (H : Hp),S.length≤10000000→(∀ s,s ∈ S→s.k≤2)→dA (unitsS S)≤a.kids.length→dB (unitsS S)≤b.kids.length→H [0] = ⟨1,.cells (tL a)⟩→H [1] = ⟨1,.cells (tL b)⟩→H [2] = ⟨1,.cells rawE⟩ →
      WPC (cx Tryz.prog w0 I0 47) k1_diff_list (RetC Tryz.prog [ResultVar.cell 6 33] (eX (.mk 3 T0 T0 [] [] a.kind (opsG (gapE one) S a.kids b.kids [])))) ⟨lk [(2,iv most),(3,.pob [0] 1 0),(4,.pob [1] 1 0),(6,.pob [2] 1 0),(9,sps S)],H⟩ := by
    intro w0 I0 S H s1 s2 s3 s4 h0 h1 h2
    have O := dOps26_spec hka hkb (by omega) (by omega) hone s1 s2 s3 s4
    rw [k1_diff_list.eq_1]
    simp [h0,h1]
    refine sc_call O (by simp) ?_
    simp [h0,h2,updF_app,rawE]
    exact frz_agg ⟨frz_bare rfl,frz_bare rfl,frz_sl,frz_sl,frz_bare rfl,frz_sl,frz_sl,frz_sl,frz_sl,frz_bare rfl,frz_sl,trivial⟩
  have wd := wayU_d (caL a) (cbL a b)
  have wi := wayU_in (caL a) (cbL a b)
  have wn := nrmS_d _ wi
  refine spec_of t_diff_list (by simp) fun w0 I0 => ?_
  unfold c_diff_list
  simp
  refine stop_le (le_blankC (d := [3]) (u := 1) (cs := [.sl true []]) 0 [3,0] 3 (by simp [updF_app]) rfl (by simp)) (stop_go ?_)
  simp
  refine sc_fam 3 C1 (fun p => ?_) (by simp) (by simp) ?_
  · by_cases h1 : p = []
    · subst h1; simp [updF_app]
    · by_cases h2 : p = [0]
      · subst h2; simp [updF_app]
      · simp [h1,h2,Ne.symm h1,Ne.symm h2,updF_app]
  · simp
    refine sc_fam 3 C2 (fun p => by simp) (by simp) (by simp) ?_
    simp
    refine sc_call hD (by simp) ?_
    by_cases hd : (distL (caL a) (cbL a b) : Int)≤most
    · have hL : listE one most a b = .mk 3 T0 T0 [] [] a.kind (opsG (gapE one) (nrmS (wayU (caL a) (cbL a b))) a.kids b.kids []) := by unfold listE; rw [if_pos hd]
      rw [hL]
      simp [hd]
      refine key _ _ _ _ ?_ (fun s hs => (nrm_k wi s hs).1) (by omega) (by omega) (by simp) (by simp) (by simp [rawE])
      have := steps_len _ (nrm_k wi)
      omega
    · have hL : listE one most a b = .mk 3 T0 T0 [] [] a.kind (opsG (gapE one) (nrmS (unitsS [⟨1,a.kids.length⟩,⟨2,b.kids.length⟩])) a.kids b.kids []) := by unfold listE; rw [if_neg hd,opsG_all]
      have N := pNrm_spec (all := [⟨1,a.kids.length⟩,⟨2,b.kids.length⟩]) (fun s hs => by
        simp at hs
        rcases hs with rfl | rfl
        · exact ⟨by simp,by simp; omega⟩
        · exact ⟨by simp,by simp; omega⟩) (by simp)
      have ui : ∀ x,x ∈ unitsS [⟨1,a.kids.length⟩,⟨2,b.kids.length⟩]→x≤2 := fun x hx => by
        rw [units_cons,units_cons,units_nil,List.append_nil] at hx
        rcases List.mem_append.1 hx with h | h <;> (have h' := List.eq_of_mem_replicate h; simp at h'; omega)
      have ud := nrmS_d _ ui
      have ua : dA (unitsS [⟨1,a.kids.length⟩,⟨2,b.kids.length⟩]) = a.kids.length := by
        rw [units_cons,units_cons,units_nil,dA_app,dA_app,dA_rep,dA_rep]; simp [dA]
      have ub : dB (unitsS [⟨1,a.kids.length⟩,⟨2,b.kids.length⟩]) = b.kids.length := by
        rw [units_cons,units_cons,units_nil,dB_app,dB_app,dB_rep,dB_rep]; simp [dB]
      have ul := steps_len _ (nrm_k ui)
      have N2 : G.Spec Tryz.prog 120 [.sl true [.agg [iv 1,iv a.kids.length],.agg [iv 2,iv b.kids.length]]] (sps (nrmS (unitsS [⟨1,a.kids.length⟩,⟨2,b.kids.length⟩]))) := N.soft (by simp [A.softL,A.soft,spA,spC])
      clear N
      rw [hL]
      clear hL
      generalize unitsS [⟨1,a.kids.length⟩,⟨2,b.kids.length⟩] = us at *
      simp [hd]
      refine sc_call N2 (by simp) ?_
      simp
      refine key _ _ _ _ (by omega) (fun s hs => (nrm_k ui s hs).1) (by omega) (by omega) (by simp) (by simp) (by simp [rawE])
theorem wrdL_succ (a b : T) (i : Nat) : wrdL a b (i + 1) = wrdL a b i ++ (if unlZ (a.words.getD i 0) (b.words.getD i 0) = 0 then [] else [wdE i (a.words.getD i 0) (b.words.getD i 0)]) := by
  unfold wrdL
  rw [List.range_succ,List.filterMap_append]
  congr 1
  by_cases h : unlZ (a.words.getD i 0) (b.words.getD i 0) = 0
  · simp only [List.filterMap_cons,List.filterMap_nil,h,if_true]
  · simp only [List.filterMap_cons,List.filterMap_nil,h,if_false]
theorem wrdL_len (a b : T) : ∀ i,(wrdL a b i).length≤i
  | 0 => by simp [wrdL]
  | i + 1 => by
    have := wrdL_len a b i
    rw [wrdL_succ]
    split <;> simp <;> omega
theorem kidL26_succ (one : T→T→E) (a b : T) (i : Nat) : kidL26 one a b (i + 1) = kidL26 one a b i ++ (if (one (a.kids.getD i T0) (b.kids.getD i T0)).kind = 0 then [] else [.mk i (one (a.kids.getD i T0) (b.kids.getD i T0))]) := by
  unfold kidL26
  rw [List.range_succ,List.filterMap_append]
  congr 1
  by_cases h : (one (a.kids.getD i T0) (b.kids.getD i T0)).kind = 0
  · simp only [List.filterMap_cons,List.filterMap_nil,h,if_true]
  · simp only [List.filterMap_cons,List.filterMap_nil,h,if_false]
theorem kidL26_len (one : T→T→E) (a b : T) : ∀ i,(kidL26 one a b i).length≤i
  | 0 => by simp [kidL26]
  | i + 1 => by
    have := kidL26_len one a b i
    rw [kidL26_succ]
    split <;> simp <;> omega
def stC (u n : Nat) (k : A) : List A := [iv 2,iv 0,.sl true [],.sl true [],iv 0,.sl true [],.sl true [],.osl [5] u 4 0 n,k,iv 0,.sl true []]
section
variable {n0 : Nat} {w0 : World} {I0 : Nat→Prop} {Q : Exit→Sta→Prop}
theorem st_l1 {a b : T} (ha : wfT a) (hb : wfT b) {most : A} {N : Nat} (hN : N≤1000000)
    (hq : ∀ (H' : Hp) (u : Nat),H' [0] = ⟨1,.cells (tL a)⟩→H' [1] = ⟨1,.cells (tL b)⟩→H' [2] = ⟨1,.cells rawE⟩→H' [3] = ⟨1,.cells (stC u (wrdL a b N).length (.sl true []))⟩→H' [5] = ⟨u,.arr 4 ((wrdL a b N).map wA)⟩→H' [6] = ⟨0,.none⟩→H' [7] = ⟨0,.none⟩ →
      Q (.exit 0) ⟨lk [(2,most),(3,.pob [0] 1 0),(4,.pob [1] 1 0),(6,.pob [2] 1 0),(7,.pob [3] 1 0),(20,iv N),(21,iv N),(22,bv false)],H'⟩) :
    ∀ (m i : Nat) (u : Nat) (H : Hp),i + m = N→H [0] = ⟨1,.cells (tL a)⟩→H [1] = ⟨1,.cells (tL b)⟩→H [2] = ⟨1,.cells rawE⟩→H [3] = ⟨1,.cells (stC u (wrdL a b i).length (.sl true []))⟩→H [5] = ⟨u,.arr 4 ((wrdL a b i).map wA)⟩→H [6] = ⟨0,.none⟩→H [7] = ⟨0,.none⟩ →
    LoopC (cx Tryz.prog w0 I0 n0) l1_diff_structure Q ⟨lk [(2,most),(3,.pob [0] 1 0),(4,.pob [1] 1 0),(6,.pob [2] 1 0),(7,.pob [3] 1 0),(20,iv N),(21,iv i)],H⟩ := by
  intro m
  induction m with
  | zero =>
    intro i u H hm h0 h1 h2 h3 h5 h6 h7
    have : i = N := by omega
    subst this
    refine loopC_once mixed l1_diff_structure.eq_1 ?_
    simp
    exact hq H u h0 h1 h2 h3 h5 h6 h7
  | succ m ih =>
    intro i u H hm h0 h1 h2 h3 h5 h6 h7
    have hlt : i < N := by omega
    have ew : IntKind.i64.wrap ((i : Int) + 1) = ((i + 1 : Nat) : Int) := by rw [i64_same (by omega) (by omega)]; omega
    have hwa : u64R (a.words.getD i 0) := wd_in ha i
    have hwb : u64R (b.words.getD i 0) := wd_in hb i
    have hW := pWord_spec (i := i) hwa hwb
    have hwl := wrdL_len a b i
    have next := ih (i + 1)
    rw [wrdL_succ] at next
    refine loopC_once mixed l1_diff_structure.eq_1 ?_
    simp [hlt,h0,h1]
    refine sc_call (treeWord_spec a i) (by simp) ?_
    simp [h0,h1]
    refine sc_call (treeWord_spec b i) (by simp) ?_
    simp
    refine sc_call hW (by simp) ?_
    generalize a.words.getD i 0 = x at *
    generalize b.words.getD i 0 = y at *
    by_cases hz : unlZ x y = 0
    · rw [if_pos hz] at next
      simp [hz,updF_app]
      rw [ew]
      refine next u _ (by omega) (by simp [updF_app,h0]) (by simp [updF_app,h1]) (by simp [updF_app,h2]) (by simp [updF_app,h3]) (by simp [updF_app,h5]) (by simp [updF_app,h6]) (by simp [updF_app,h7])
    · rw [if_neg hz] at next
      simp [hz,updF_app,h3,h5,stC]
      refine ⟨by omega,?_⟩
      rw [ew]
      refine next (u + 1) _ (by omega) (by simp [updF_app,h0]) (by simp [updF_app,h1]) (by simp [updF_app,h2]) (by simp [updF_app,stC]) (by simp [updF_app,List.take_of_length_le]) (by simp [updF_app,h6]) (by simp [updF_app,h7])
theorem st_l2 {one : T→T→E} {a b : T} {most : Int} {N : Nat} (hN : N≤1000000) (hone : ∀ i : Nat,G.Spec Tryz.prog 30 [tX (a.kids.getD i T0),tX (b.kids.getD i T0),iv most] (eX (one (a.kids.getD i T0) (b.kids.getD i T0)))) {u n : Nat} {ws : List WE}
    (hq : ∀ (H' : Hp) (v : Nat),H' [3] = ⟨1,.cells (stC u n (.osl [7] v 12 0 (kidL26 one a b N).length))⟩→H' [5] = ⟨u,.arr 4 (ws.map wA)⟩→H' [7] = ⟨v,.arr 12 ((kidL26 one a b N).map kA)⟩→H' [2] = ⟨1,.cells rawE⟩ →
      Q (.exit 2) ⟨lk [(2,iv most),(3,.pob [0] 1 0),(4,.pob [1] 1 0),(6,.pob [2] 1 0),(7,.pob [3] 1 0),(49,iv N),(50,iv N),(51,bv false)],H'⟩) :
    ∀ (m i : Nat) (v : Nat) (H : Hp),i + m = N→H [0] = ⟨1,.cells (tL a)⟩→H [1] = ⟨1,.cells (tL b)⟩→H [2] = ⟨1,.cells rawE⟩→H [3] = ⟨1,.cells (stC u n (.osl [7] v 12 0 (kidL26 one a b i).length))⟩→H [5] = ⟨u,.arr 4 (ws.map wA)⟩→H [7] = ⟨v,.arr 12 ((kidL26 one a b i).map kA)⟩ →
    LoopC (cx Tryz.prog w0 I0 n0) l2_diff_structure Q ⟨lk [(2,iv most),(3,.pob [0] 1 0),(4,.pob [1] 1 0),(6,.pob [2] 1 0),(7,.pob [3] 1 0),(49,iv N),(50,iv i)],H⟩ := by
  intro m
  induction m with
  | zero =>
    intro i v H hm h0 h1 h2 h3 h5 h7
    have : i = N := by omega
    subst this
    refine loopC_once mixed l2_diff_structure.eq_1 ?_
    simp
    exact hq H v h3 h5 h7 h2
  | succ m ih =>
    intro i v H hm h0 h1 h2 h3 h5 h7
    have hlt : i < N := by omega
    have ew : IntKind.i64.wrap ((i : Int) + 1) = ((i + 1 : Nat) : Int) := by rw [i64_same (by omega) (by omega)]; omega
    have hO := hone i
    have hkl := kidL26_len one a b i
    have next := ih (i + 1)
    rw [kidL26_succ] at next
    have K1 := treeKid_spec a i
    have K2 := treeKid_spec b i
    generalize a.kids.getD i T0 = x at *
    generalize b.kids.getD i T0 = y at *
    generalize one x y = e at *
    refine loopC_once mixed l2_diff_structure.eq_1 ?_
    simp [hlt,h0,h1]
    refine sc_call K1 (by simp) ?_
    simp [h0,h1]
    refine sc_call K2 (by simp) ?_
    simp
    refine sc_call hO (by simp) ?_
    by_cases hz : e.kind = 0
    · rw [if_pos hz] at next
      simp [hz,updF_app]
      rw [ew]
      refine next v _ (by omega) (by simp [updF_app,h0]) (by simp [updF_app,h1]) (by simp [updF_app,h2]) (by simp [updF_app,h3]) (by simp [updF_app,h5]) (by simp [updF_app,h7])
    · rw [if_neg hz] at next
      simp [hz,updF_app,h3,h7,stC]
      refine ⟨by omega,?_⟩
      rw [ew]
      refine next (v + 1) _ (by omega) (by simp [updF_app,h0]) (by simp [updF_app,h1]) (by simp [updF_app,h2]) (by simp [updF_app,stC]) (by simp [updF_app,h5]) (by simp [updF_app,List.take_of_length_le])
end
theorem pStruct26_spec {one : T→T→E} {a b : T} (ha : wfT a) (hb : wfT b) (h1 : a.words.length≤1000000) (h2 : b.words.length≤1000000) (h3 : a.kids.length≤1000000) (h4 : b.kids.length≤1000000) {most : Int} (hone : ∀ i : Nat,G.Spec Tryz.prog 30 [tX (a.kids.getD i T0),tX (b.kids.getD i T0),iv most] (eX (one (a.kids.getD i T0) (b.kids.getD i T0)))) :
    G.Spec Tryz.prog 60 [tX a,tX b,iv most] (eX (strE one a b)) := by
  refine spec_of t_diff_structure (by simp) fun w0 I0 => ?_
  unfold c_diff_structure
  simp
  refine LoopC.le (le_blankC (d := [3]) (u := 1) (cs := [iv 2,iv 0,.sl true [],.sl true [],iv 0,.sl true [],.sl true [],.sl true [],.sl true [],iv 0,.sl true []]) 7 [5] 4 (by simp [updF_app]) rfl (by simp)) ?_
  refine LoopC.le (le_list [(2,iv most),(3,.pob [0] 1 0),(4,.pob [1] 1 0),(6,.pob [2] 1 0),(7,.pob [3] 1 0),(20,iv (max a.words.length b.words.length : Nat)),(21,iv (0 : Nat))] (by simp; omega)) ?_
  refine st_l1 ha hb (N := max a.words.length b.words.length) (by omega) (fun H' u g0 g1 g2 g3 g5 g6 g7 => ?_) (max a.words.length b.words.length) 0 1 _ (by omega) (by simp [updF_app]) (by simp [updF_app]) (by simp [updF_app,rawE]) (by simp [updF_app,stC,wrdL]) (by simp [updF_app,wrdL]) (by simp [updF_app]) (by simp [updF_app])
  simp [g0,g1]
  refine LoopC.le (le_blankC (d := [3]) (u := 1) (cs := stC u (wrdL a b (max a.words.length b.words.length)).length (.sl true [])) 8 [7] 12 g3 rfl (by simp)) ?_
  refine LoopC.le (le_list [(2,iv most),(3,.pob [0] 1 0),(4,.pob [1] 1 0),(6,.pob [2] 1 0),(7,.pob [3] 1 0),(49,iv (max a.kids.length b.kids.length : Nat)),(50,iv (0 : Nat))] (by simp; omega)) ?_
  refine st_l2 (one := one) (a := a) (b := b) (N := max a.kids.length b.kids.length) (by omega) hone (ws := wrdL a b (max a.words.length b.words.length)) (u := u) (n := (wrdL a b (max a.words.length b.words.length)).length) (fun H2 v k3 k5 k7 k2 => ?_) (max a.kids.length b.kids.length) 0 1 _ (by omega) (by simp [updF_app,g0]) (by simp [updF_app,g1]) (by simp [updF_app,g2]) (by simp [updF_app,stC,kidL26,g7]) (by simp [updF_app,g5]) (by simp [updF_app,kidL26,g7])
  simp [k3,k2,updF_app,stC]
  refine ⟨by simp [rawE],?_⟩
  refine frz_agg ⟨frz_bare rfl,frz_bare rfl,frz_sl,frz_sl,frz_bare rfl,frz_sl,frz_sl,?_,?_,frz_bare rfl,frz_sl,trivial⟩
  · exact frz_row (f := wA) (l := wrdL a b (max a.words.length b.words.length)) (by rw [updF_ne (by simp),k5]; simp) rfl (fun x => by simp)
  · exact frz_row (f := kA) (l := kidL26 one a b (max a.kids.length b.kids.length)) (by rw [updF_ne (by simp),k7]; simp) rfl (fun x => by simp)
theorem one_step {a b : T} (ha : wfT a) (hb : wfT b) {X Y : E} {most : Int} (hs : a.kind = 1→b.kind = 1→G.Spec Tryz.prog 60 [tX a,tX b,iv most] (eX X)) (hl : a.kind = b.kind→2≤a.kind→a.kind≤9→G.Spec Tryz.prog 62 [tX a,tX b,iv most] (eX Y)) :
    G.Spec Tryz.prog 30 [tX a,tX b,iv most] (eX (if eqT a b = true then E0 else if a.kind = 1∧b.kind = 1 then X else if a.kind = b.kind∧2≤a.kind∧a.kind≤9 then Y else .mk 1 a b [] [] 0 [])) := by
  have hE := eqG_spec ha hb
  have hraw : ∀ H : Hp,Frz H (.agg rawE) (eX E0) := fun H => frz_agg ⟨frz_bare rfl,frz_bare rfl,frz_sl,frz_sl,frz_bare rfl,frz_sl,frz_sl,frz_sl,frz_sl,frz_bare rfl,frz_sl,trivial⟩
  have hfr : ∀ (H : Hp) (k : Int),k = a.kind→Frz H (.agg [iv 1,iv k,uws a.words,tKs a.kids,iv b.kind,uws b.words,tKs b.kids,.sl true [],.sl true [],iv 0,.sl true []]) (eX (.mk 1 a b [] [] 0 [])) := fun H k hk => by
    subst hk
    exact frz_agg ⟨frz_bare rfl,frz_bare rfl,frz_bare rfl,frz_bare rfl,frz_bare rfl,frz_bare rfl,frz_bare rfl,frz_sl,frz_sl,frz_bare rfl,frz_sl,trivial⟩
  refine spec_of t_diff_one (by simp) fun w0 I0 => ?_
  unfold c_diff_one
  simp
  refine sc_call hE (by simp) ?_
  cases he : eqT a b with
  | true =>
    simp
    exact hraw _
  | false =>
    by_cases h1 : a.kind = 1
    · by_cases h2 : b.kind = 1
      · have S := hs h1 h2
        have S' : G.Spec Tryz.prog 60 [.agg [iv 1,uws a.words,tKs a.kids],.agg [iv 1,uws b.words,tKs b.kids],iv most] (eX X) := by
          rw [← h1]
          have e : ([A.agg [iv a.kind,uws a.words,tKs a.kids],.agg [iv a.kind,uws b.words,tKs b.kids],iv most] : List A) = [tX a,tX b,iv most] := by
            show [A.agg [iv a.kind,uws a.words,tKs a.kids],.agg [iv a.kind,uws b.words,tKs b.kids],iv most] = [A.agg [iv a.kind,uws a.words,tKs a.kids],.agg [iv b.kind,uws b.words,tKs b.kids],iv most]
            rw [h1,h2]
          rw [e]
          exact S
        simp [h1,h2]
        refine sc_call S' (by simp) ?_
        simp
        exact frz_bare (by simp)
      · have hne : ¬ (1 : Int) = b.kind := fun e => h2 e.symm
        simp [h1,h2,hne]
        refine sc_call_off rfl ?_
        simp
        exact hfr _ 1 h1.symm
    · by_cases h3 : a.kind = b.kind
      · have h2 : ¬ b.kind = 1 := fun e => h1 (h3.trans e)
        simp [h1,h3,h2]
        rw [sc_guard]
        simp
        refine sc_call (tList_spec b.kind) (by simp) ?_
        by_cases h5 : 2≤b.kind∧b.kind≤9
        · have S := hl h3 (by omega) (by omega)
          have S' : G.Spec Tryz.prog 62 [.agg [iv b.kind,uws a.words,tKs a.kids],.agg [iv b.kind,uws b.words,tKs b.kids],iv most] (eX Y) := by
            rw [← h3]
            have e : ([A.agg [iv a.kind,uws a.words,tKs a.kids],.agg [iv a.kind,uws b.words,tKs b.kids],iv most] : List A) = [tX a,tX b,iv most] := by
              show [A.agg [iv a.kind,uws a.words,tKs a.kids],.agg [iv a.kind,uws b.words,tKs b.kids],iv most] = [A.agg [iv a.kind,uws a.words,tKs a.kids],.agg [iv b.kind,uws b.words,tKs b.kids],iv most]
              rw [h3]
            rw [e]
            exact S
          simp [h5.1,h5.2]
          refine sc_call S' (by simp) ?_
          simp
          exact frz_bare (by simp)
        · have h6 : (decide (2≤b.kind) && decide (b.kind≤9)) = false := by
            rw [Bool.eq_false_iff]; simpa using h5
          rw [h6]
          simp [h5]
          exact hfr _ _ h3.symm
      · simp [h1,h3]
        refine sc_call_off rfl ?_
        simp
        exact hfr _ _ rfl
def okT : Nat→T→Prop
  | 0,t => t = T0
  | f + 1,t => t = T0∨(wfT t∧norm t = t∧t.words.length≤1000∧t.kids.length≤1000∧∀ k,k ∈ t.kids→okT f k)
theorem okT_T0 (f : Nat) : okT f T0 := by cases f with
  | zero => rfl
  | succ f => exact .inl rfl
theorem wf_T026 : wfT T0 := wfT_iff.2 ⟨by simp [i64R],by simp,by simp,by simp,by simp⟩
theorem norm_T026 : norm T0 = T0 := by simp [norm,T0,trimW,trimK]
theorem okT_facts {f : Nat} {t : T} (h : okT f t) : wfT t∧norm t = t∧t.words.length≤1000∧t.kids.length≤1000 := by
  have z : wfT T0∧norm T0 = T0∧T0.words.length≤1000∧T0.kids.length≤1000 := ⟨wf_T026,norm_T026,by decide,by decide⟩
  cases f with
  | zero => cases h; exact z
  | succ f =>
    rcases h with rfl | h
    · exact z
    · exact ⟨h.1,h.2.1,h.2.2.1,h.2.2.2.1⟩
theorem okT_kids {f : Nat} {t : T} (h : okT f t) : ∀ k,k ∈ t.kids→okT (f - 1) k := by
  cases f with
  | zero => cases h; intro k hk; simp [T0] at hk
  | succ f =>
    rcases h with rfl | h
    · intro k hk; simp [T0] at hk
    · exact h.2.2.2.2
theorem okT_at {f : Nat} {t : T} (h : okT f t) (i : Nat) : okT (f - 1) (t.kids.getD i T0) := by
  by_cases hi : i < t.kids.length
  · have e : t.kids.getD i T0 = t.kids[i] := by simp [hi]
    rw [e]
    exact okT_kids h _ (List.getElem_mem hi)
  · have e : t.kids.getD i T0 = T0 := by simp [List.getElem?_eq_none (Nat.le_of_not_lt hi)]
    rw [e]
    exact okT_T0 _
theorem pOne_spec {most : Int} (hm : i64R most) : ∀ (f g : Nat) (a b : T),okT f a→okT g b→G.Spec Tryz.prog 30 [tX a,tX b,iv most] (eX (oneE most f a b))
  | 0,g,a,b,ha,hb => by
    obtain ⟨a1,a2,a3,a4⟩ := okT_facts ha
    obtain ⟨b1,b2,b3,b4⟩ := okT_facts hb
    have hk : a.kind = 0 := by cases ha; rfl
    have := one_step a1 b1 (X := E0) (Y := E0) (most := most) (fun h => by omega) (fun _ h => by omega)
    rw [if_neg (show ¬ (a.kind = 1∧b.kind = 1) by omega),if_neg (show ¬ (a.kind = b.kind∧2≤a.kind∧a.kind≤9) by omega)] at this
    exact this
  | f + 1,g,a,b,ha,hb => by
    obtain ⟨a1,a2,a3,a4⟩ := okT_facts ha
    obtain ⟨b1,b2,b3,b4⟩ := okT_facts hb
    refine one_step a1 b1 (fun h1 h2 => ?_) (fun h1 h2 h3 => ?_)
    · exact pStruct26_spec a1 b1 (by omega) (by omega) (by omega) (by omega) fun i => pOne_spec hm f (g - 1) _ _ (okT_at ha i) (okT_at hb i)
    · exact pList26_spec a1 b1 (fun t ht => (okT_facts (okT_kids ha t ht)).2.1) (fun t ht => (okT_facts (okT_kids hb t ht)).2.1) (by omega) (by omega) hm fun x hx y hy => pOne_spec hm f (g - 1) _ _ (okT_kids ha x hx) (okT_kids hb y hy)
end Go.Proofs.YtbjmaoedheiigaaGreat
namespace Go.PL
set_option linter.unusedVariables false
set_option linter.unusedSimpArgs false
mutual
def partsT : T→Int
  | .mk _ w l => 1 + w.length + partsL l
def partsL : List T→Int
  | [] => 0
  | t :: l => partsT t + partsL l
end
@[simp] theorem partsT_mk (k : Int) (w : List Int) (l : List T) : partsT (.mk k w l) = 1 + w.length + partsL l := by rw [partsT]
@[simp] theorem partsL_nil : partsL [] = 0 := by rw [partsL]
@[simp] theorem partsL_cons (t : T) (l : List T) : partsL (t :: l) = partsT t + partsL l := by rw [partsL]
theorem partsL_len {l : List T} (h : ∀ t,t ∈ l→1≤partsT t) : (l.length : Int)≤partsL l := by
  induction l with
  | nil => simp
  | cons t l ih =>
    have := h t (by simp)
    have := ih fun u hu => h u (by simp [hu])
    simp
    omega
theorem partsT_pos : ∀ t : T,1≤partsT t := by
  refine T.ind fun k w l ih => ?_
  have := partsL_len ih
  simp
  omega
theorem partsL_pos (l : List T) : (l.length : Int)≤partsL l := partsL_len fun t _ => partsT_pos t
theorem sizeL_parts {l : List T} (h : ∀ t,t ∈ l→sizeT (norm t) + 139999≤140000 * partsT t) : sizeL (l.map norm) + 139999 * l.length≤140000 * partsL l := by
  induction l with
  | nil => simp
  | cons t l ih =>
    have := h t (by simp)
    have := ih fun u hu => h u (by simp [hu])
    simp
    omega
theorem frame_max {l : List T} {B : Nat} (h : ∀ t,t ∈ l→t.words.length≤B∧t.kids.length≤B) : frameW l≤B∧frameK l≤B := by
  induction l with
  | nil => simp [frameW,frameK]
  | cons t l ih =>
    have := h t (by simp)
    have := ih fun u hu => h u (by simp [hu])
    simp only [frameW,frameK]
    omega
theorem size_parts : ∀ (t : T) (D : Nat),rightT D t = true→sizeT (norm t) + 139999≤140000 * partsT t := by
  refine T.ind fun k w l ih D hD => ?_
  have hst := rightT_struct hD
  have ihl : ∀ t,t ∈ l→sizeT (norm t) + 139999≤140000 * partsT t := fun t ht => ih t ht _ (hst t ht).1
  have hS := sizeL_parts ihl
  have hlp := partsL_pos l
  rw [rightT_mk] at hD
  rw [partsT_mk]
  by_cases k0 : k = 0
  · rw [norm_mk,if_pos k0]; simp; omega
  rw [if_neg k0] at hD
  by_cases k10 : k = 10
  · rw [if_pos k10] at hD
    simp at hD
    rw [norm_mk,if_neg k0,if_neg (by omega),k10,sizeT_mk,hD.2]
    simp
    omega
  rw [if_neg k10] at hD
  split at hD
  · cases hD
  rename_i hb
  simp [tooBig] at hb
  by_cases k1 : k = 1
  · subst k1
    rw [size_one]
    have := trimW_le w
    have := trimK_le (l.map norm)
    rw [List.length_map] at this
    omega
  rw [norm_mk,if_neg k0,if_neg k1,sizeT_mk,if_neg k1]
  by_cases k8 : k = 8
  · rw [if_pos k8,List.length_map]; omega
  rw [if_neg k8]
  by_cases kd : 2≤k∧k≤7
  · rw [if_pos kd,List.length_map]
    have : roomZ (k - 2) l.length≤l.length := by
      unfold roomZ bitsZ
      repeat' split
      all_goals omega
    omega
  rw [if_neg kd]
  by_cases k9 : k = 9
  · subst k9
    rw [if_pos rfl,List.length_map]
    have k1s : ∀ t,t ∈ l→t.kind = 1 := fun t ht => kidOk_9 (hst t ht).2
    have bnd : frameW (l.map norm)≤65535∧frameK (l.map norm)≤65535 := frame_max fun u hu => by
      obtain ⟨t,ht,rfl⟩ := List.mem_map.1 hu
      have h1 := k1s t ht
      have h2 := (hst t ht).1
      obtain ⟨kk,ww,ll⟩ := t
      simp at h1
      subst h1
      rw [rightT_mk] at h2
      simp [tooBig] at h2
      rw [norm_mk]
      simp
      have := trimW_le ww
      have := trimK_le (ll.map norm)
      rw [List.length_map] at this
      omega
    have hsub : ∀ (m : List T),(∀ t,t ∈ m→t.kind = 1∧sizeT (norm t) + 139999≤140000 * partsT t)→sizeLL (m.map norm) + 139999 * m.length≤140000 * partsL m := fun m => by
      induction m with
      | nil => intro _; simp
      | cons t m ihm =>
        intro h
        obtain ⟨a,b⟩ := h t (by simp)
        have := ihm fun u hu => h u (by simp [hu])
        have hk : sizeL (norm t).kids≤sizeT (norm t) := by
          have hn : (norm t).kind = 1 := by simpa using a
          generalize norm t = x at hn
          obtain ⟨kk,ww,ll⟩ := x
          simp at hn
          subst hn
          rw [sizeT_mk,if_pos rfl]
          simp
          omega
        simp
        omega
    have h9 := hsub l fun t ht => ⟨k1s t ht,ihl t ht⟩
    have hm : (l.length : Int) * ((frameW (l.map norm) : Int) + frameK (l.map norm))≤l.length * 131070 := Int.mul_le_mul_of_nonneg_left (by omega) (by omega)
    omega
  · rw [if_neg k9]; omega
theorem parts_shallow : ∀ (t : T) (d : Nat) (n : Int),0≤shallow d n t→partsT t≤n - shallow d n t := by
  refine T.ind fun k w l ih d n h => ?_
  have hl : ∀ (m : List T) (d : Nat) (n : Int),(∀ t,t ∈ m→t ∈ l)→0≤shallowL d n m→partsL m≤n - shallowL d n m := by
    intro m
    induction m with
    | nil => intro d n _ _; simp
    | cons t m ihm =>
      intro d n hin h
      rw [shallowL_cons] at h ⊢
      split at h
      · omega
      · rename_i hc
        rw [if_neg hc]
        have h1 := ihm d (shallow d n t) (fun u hu => hin u (by simp [hu])) h
        have h3 : 0≤shallow d n t := by
          cases m with
          | nil => simpa using h
          | cons u m =>
            rw [shallowL_cons] at h
            split at h <;> omega
        have := ih t (hin t (by simp)) d n h3
        simp
        omega
  rw [shallow_mk] at h ⊢
  split at h
  · omega
  rename_i hc
  rw [if_neg hc]
  have := hl l (d - 1) _ (fun t ht => ht) h
  simp
  omega
end Go.PL
namespace Go.Proofs.YtbjmaoedheiigaaGreat
set_option linter.unusedVariables false
set_option linter.unusedSimpArgs false
open Go Go.G Go.Proofs Go.PL
theorem sumO_app (a b : List OP) : sumO (a ++ b) = sumO a + sumO b := by simp [sumO]
theorem sum_del26 (l : List T) : sumO (delO l) = l.length := by
  unfold delO
  split
  · rename_i h; subst h; rfl
  · simp [sumO]
theorem sum_ins26 (l : List T) : sumO (insO l) = l.length := by
  unfold insO
  split
  · rename_i h; subst h; rfl
  · simp [sumO]
theorem gapO_sum (one : T→T→E) (a b : List T) : ∀ (P : List Sc) (i j : Nat) (out : List OP),PkOk a.length b.length i j P→sumO (gapO one a b P i j out)≤sumO out + (a.length - i) + (b.length - j)
  | [],i,j,out,h => by
    rw [gapO,sumO_app,sumO_app,sum_del26,sum_ins26]
    simp
  | x :: P,i,j,out,h => by
    obtain ⟨k1,k2,k3,k4,k5⟩ := h
    have := gapO_sum one a b P _ _ (out ++ delO ((a.take x.i).drop i) ++ insO ((b.take x.j).drop j) ++ [.mk 3 0 [] (one (a.getD x.i T0) (b.getD x.j T0))]) k5
    rw [gapO]
    rw [sumO_app,sumO_app,sumO_app,sum_del26,sum_ins26,show sumO [OP.mk 3 0 [] (one (a.getD x.i T0) (b.getD x.j T0))] = 0 from rfl,List.length_drop,List.length_take,List.length_drop,List.length_take] at this
    omega
theorem gapE_sum (one : T→T→E) (a b : List T) : sumO (gapE one a b)≤a.length + b.length := by
  have := gapO_sum one a b (pkG (scR a b)) 0 0 [] (pkG_ok a b)
  rw [show sumO [] = 0 from rfl] at this
  unfold gapE
  omega
inductive GOp (one : T→T→E) (A B : List T) (N : Nat) : OP→Prop
  | keep (n : Nat) (h : n≤N) : GOp one A B N (.mk 0 n [] E0)
  | del (l : List T) (h : l ≠ []) (g : ∀ t,t ∈ l→t ∈ A) (k : l.length≤A.length) : GOp one A B N (.mk 1 0 l E0)
  | ins (l : List T) (h : l ≠ []) (g : ∀ t,t ∈ l→t ∈ B) (k : l.length≤B.length) : GOp one A B N (.mk 2 0 l E0)
  | desc (x y : T) (hx : x ∈ A) (hy : y ∈ B) : GOp one A B N (.mk 3 0 [] (one x y))
theorem gOp_mono {one : T→T→E} {A B A' B' : List T} {N : Nat} (hA : ∀ t,t ∈ A→t ∈ A') (hB : ∀ t,t ∈ B→t ∈ B') (lA : A.length≤A'.length) (lB : B.length≤B'.length) {o : OP} (h : GOp one A B N o) : GOp one A' B' N o := by
  cases h with
  | keep n h => exact .keep n h
  | del l h g k => exact .del l h (fun t ht => hA t (g t ht)) (by omega)
  | ins l h g k => exact .ins l h (fun t ht => hB t (g t ht)) (by omega)
  | desc x y hx hy => exact .desc x y (hA x hx) (hB y hy)
theorem gOp_del {one : T→T→E} {A B l : List T} {N : Nat} (h : ∀ t,t ∈ l→t ∈ A) (hl : l.length≤A.length) : ∀ o,o ∈ delO l→GOp one A B N o := by
  intro o ho
  unfold delO at ho
  split at ho
  · simp at ho
  · rename_i hne
    simp at ho
    subst ho
    exact .del l hne h hl
theorem gOp_ins {one : T→T→E} {A B l : List T} {N : Nat} (h : ∀ t,t ∈ l→t ∈ B) (hl : l.length≤B.length) : ∀ o,o ∈ insO l→GOp one A B N o := by
  intro o ho
  unfold insO at ho
  split at ho
  · simp at ho
  · rename_i hne
    simp at ho
    subst ho
    exact .ins l hne h hl
theorem gapO_mem (one : T→T→E) (a b : List T) (N : Nat) : ∀ (P : List Sc) (i j : Nat) (out : List OP),PkOk a.length b.length i j P→(∀ o,o ∈ out→GOp one a b N o)→∀ o,o ∈ gapO one a b P i j out→GOp one a b N o
  | [],i,j,out,h,g => by
    intro o ho
    rw [gapO] at ho
    rcases List.mem_append.1 ho with ho | ho
    · rcases List.mem_append.1 ho with ho | ho
      · exact g o ho
      · exact gOp_del (fun t ht => List.mem_of_mem_drop ht) (by simp) o ho
    · exact gOp_ins (fun t ht => List.mem_of_mem_drop ht) (by simp) o ho
  | x :: P,i,j,out,h,g => by
    obtain ⟨k1,k2,k3,k4,k5⟩ := h
    rw [gapO]
    refine gapO_mem one a b N P _ _ _ k5 fun o ho => ?_
    rcases List.mem_append.1 ho with ho | ho
    · rcases List.mem_append.1 ho with ho | ho
      · rcases List.mem_append.1 ho with ho | ho
        · exact g o ho
        · exact gOp_del (fun t ht => List.mem_of_mem_take (List.mem_of_mem_drop ht)) (by simp; omega) o ho
      · exact gOp_ins (fun t ht => List.mem_of_mem_take (List.mem_of_mem_drop ht)) (by simp; omega) o ho
    · rw [List.mem_singleton] at ho
      subst ho
      have e1 : a.getD x.i T0 = a[x.i] := by simp [k3]
      have e2 : b.getD x.j T0 = b[x.j] := by simp [k4]
      rw [e1,e2]
      exact .desc _ _ (List.getElem_mem k3) (List.getElem_mem k4)
theorem gapE_mem (one : T→T→E) (a b : List T) (N : Nat) : ∀ o,o ∈ gapE one a b→GOp one a b N o := gapO_mem one a b N _ 0 0 [] (pkG_ok a b) (by simp)
theorem opsG_inv {gap : List T→List T→List OP} {I : List T→List T→List OP→Prop} {S0 : List Sp} (h0 : ∀ s,s ∈ S0→∀ a b out,I a b out→I (a.drop s.n) (b.drop s.n) (out ++ [.mk 0 s.n [] E0])) (h1 : ∀ n a b out,I a b out→I (a.drop n) b (out ++ delO (a.take n))) (h2 : ∀ n a b out,I a b out→I a (b.drop n) (out ++ insO (b.take n))) (h3 : ∀ n m a b out,I a b out→I (a.drop n) (b.drop m) (out ++ gap (a.take n) (b.take m))) : ∀ (S : List Sp) (a b : List T) (out : List OP),(∀ s,s ∈ S→s ∈ S0)→I a b out→∃ a' b',I a' b' (opsG gap S a b out)
  | [],a,b,out,hS,h => ⟨a,b,by rw [opsG]; exact h⟩
  | [s],a,b,out,hS,h => by
    have hs := hS s (by simp)
    rw [opsG]
    split
    · exact ⟨_,_,h0 s hs a b out h⟩
    · split
      · exact ⟨_,_,h2 s.n a b out h⟩
      · exact ⟨_,_,h1 s.n a b out h⟩
  | s :: s2 :: ss,a,b,out,hS,h => by
    have hs := hS s (by simp)
    have hS1 : ∀ x,x ∈ s2 :: ss→x ∈ S0 := fun x hx => hS x (List.mem_cons_of_mem _ hx)
    have hS2 : ∀ x,x ∈ ss→x ∈ S0 := fun x hx => hS1 x (List.mem_cons_of_mem _ hx)
    rw [opsG]
    split
    · exact opsG_inv h0 h1 h2 h3 (s2 :: ss) _ _ _ hS1 (h0 s hs a b out h)
    · split
      · exact opsG_inv h0 h1 h2 h3 (s2 :: ss) _ _ _ hS1 (h2 s.n a b out h)
      · split
        · exact opsG_inv h0 h1 h2 h3 ss _ _ _ hS2 (h3 s.n s2.n a b out h)
        · exact opsG_inv h0 h1 h2 h3 (s2 :: ss) _ _ _ hS1 (h1 s.n a b out h)
theorem opsG_sum {gap : List T→List T→List OP} (hg : ∀ x y,sumO (gap x y)≤x.length + y.length) (S : List Sp) (a b : List T) : sumO (opsG gap S a b [])≤a.length + b.length := by
  obtain ⟨a',b',h⟩ := opsG_inv (gap := gap) (S0 := S) (I := fun a' b' out => sumO out + a'.length + b'.length≤a.length + b.length) (fun s hs a b out h => by
    rw [sumO_app,show sumO [OP.mk 0 (s.n : Nat) [] E0] = 0 from rfl,List.length_drop,List.length_drop]; omega) (fun n a b out h => by
    rw [sumO_app,sum_del26,List.length_drop,List.length_take]; omega) (fun n a b out h => by
    rw [sumO_app,sum_ins26,List.length_drop,List.length_take]; omega) (fun n m a b out h => by
    have := hg (a.take n) (b.take m)
    rw [List.length_take,List.length_take] at this
    rw [sumO_app,List.length_drop,List.length_drop]; omega) S a b [] (fun s hs => hs) (by rw [show sumO [] = 0 from rfl]; omega)
  omega
theorem opsG_mem {one : T→T→E} {gap : List T→List T→List OP} {N : Nat} (hg : ∀ x y,∀ o,o ∈ gap x y→GOp one x y N o) (S : List Sp) (hS : ∀ s,s ∈ S→s.n≤N) (a b : List T) : ∀ o,o ∈ opsG gap S a b []→GOp one a b N o := by
  have app : ∀ {out l : List OP},(∀ o,o ∈ out→GOp one a b N o)→(∀ o,o ∈ l→GOp one a b N o)→∀ o,o ∈ out ++ l→GOp one a b N o := fun h1 h2 o ho => by
    rcases List.mem_append.1 ho with ho | ho
    · exact h1 o ho
    · exact h2 o ho
  have dr : ∀ {x y : List T} (n : Nat),((∀ t,t ∈ x→t ∈ y)∧x.length≤y.length)→(∀ t,t ∈ x.drop n→t ∈ y)∧(x.drop n).length≤y.length := fun n h => ⟨fun t ht => h.1 t (List.mem_of_mem_drop ht),by rw [List.length_drop]; omega⟩
  have tk : ∀ {x y : List T} (n : Nat),((∀ t,t ∈ x→t ∈ y)∧x.length≤y.length)→(∀ t,t ∈ x.take n→t ∈ y)∧(x.take n).length≤y.length := fun n h => ⟨fun t ht => h.1 t (List.mem_of_mem_take ht),by rw [List.length_take]; omega⟩
  obtain ⟨a',b',_,_,h⟩ := opsG_inv (gap := gap) (S0 := S) (I := fun a' b' out => ((∀ t,t ∈ a'→t ∈ a)∧a'.length≤a.length)∧((∀ t,t ∈ b'→t ∈ b)∧b'.length≤b.length)∧∀ o,o ∈ out→GOp one a b N o) (fun s hs x y out h => ⟨dr _ h.1,dr _ h.2.1,app h.2.2 fun o ho => by
      simp at ho; subst ho; exact .keep s.n (hS s hs)⟩) (fun n x y out h => ⟨dr _ h.1,h.2.1,app h.2.2 (gOp_del (tk n h.1).1 (tk n h.1).2)⟩) (fun n x y out h => ⟨h.1,dr _ h.2.1,app h.2.2 (gOp_ins (tk n h.2.1).1 (tk n h.2.1).2)⟩) (fun n m x y out h => ⟨dr _ h.1,dr _ h.2.1,app h.2.2 fun o ho => gOp_mono (tk n h.1).1 (tk m h.2.1).1 (tk n h.1).2 (tk m h.2.1).2 (hg _ _ o ho)⟩) S a b [] (fun s hs => hs) ⟨⟨fun t ht => ht,Nat.le_refl _⟩,⟨fun t ht => ht,Nat.le_refl _⟩,by simp⟩
  exact h
theorem opsG_len {gap : List T→List T→List OP} (hg : ∀ x y,(gap x y).length≤50) : ∀ (S : List Sp) (a b : List T) (out : List OP),(opsG gap S a b out).length≤out.length + 50 * S.length
  | [],a,b,out => by rw [opsG]; omega
  | [s],a,b,out => by
    have d1 : (delO (a.take s.n)).length≤1 := by unfold delO; split <;> simp
    have d2 : (insO (b.take s.n)).length≤1 := by unfold insO; split <;> simp
    rw [opsG]
    split
    · simp
    · split <;> (rw [List.length_append]; simp only [List.length_cons,List.length_nil]; omega)
  | s :: s2 :: ss,a,b,out => by
    have d1 : (delO (a.take s.n)).length≤1 := by unfold delO; split <;> simp
    have d2 : (insO (b.take s.n)).length≤1 := by unfold insO; split <;> simp
    rw [opsG]
    split
    · have := opsG_len hg (s2 :: ss) (a.drop s.n) (b.drop s.n) (out ++ [.mk 0 s.n [] E0])
      simp only [List.length_append,List.length_cons,List.length_nil] at this ⊢
      omega
    · split
      · have := opsG_len hg (s2 :: ss) a (b.drop s.n) (out ++ insO (b.take s.n))
        simp only [List.length_append,List.length_cons,List.length_nil] at this ⊢
        omega
      · split
        · have := opsG_len hg ss (a.drop s.n) (b.drop s2.n) (out ++ gap (a.take s.n) (b.take s2.n))
          have := hg (a.take s.n) (b.take s2.n)
          simp only [List.length_append,List.length_cons,List.length_nil] at this ⊢
          simp only [List.length_append] at *
          omega
        · have := opsG_len hg (s2 :: ss) (a.drop s.n) b (out ++ delO (a.take s.n))
          simp only [List.length_append,List.length_cons,List.length_nil] at this ⊢
          omega
noncomputable def lstO (one : T→T→E) (most : Int) (a b : T) : List OP := if (distL (caL a) (cbL a b) : Int)≤most then opsG (gapE one) (nrmS (wayU (caL a) (cbL a b))) a.kids b.kids [] else gapE one a.kids b.kids
theorem listE_eq (one : T→T→E) (most : Int) (a b : T) : listE one most a b = .mk 3 T0 T0 [] [] a.kind (lstO one most a b) := rfl
theorem caL_len (a : T) : (caL a).length = a.kids.length := by simp [caL,zsN,clsL_length]
theorem cbL_len (a b : T) : (cbL a b).length = b.kids.length := by simp [cbL,zsN,clsL_length]
theorem units_mem_n : ∀ {l : List Sp} {s : Sp},s ∈ l→s.k ≠ 2→s.n≤dA (unitsS l)
  | x :: l,s,h,hk => by
    rw [units_cons,dA_app,dA_rep]
    rcases List.mem_cons.1 h with rfl | h
    · rw [if_neg hk]; omega
    · have := units_mem_n h hk; omega
theorem units_mem_n' : ∀ {l : List Sp} {s : Sp},s ∈ l→s.k ≠ 1→s.n≤dB (unitsS l)
  | x :: l,s,h,hk => by
    rw [units_cons,dB_app,dB_rep]
    rcases List.mem_cons.1 h with rfl | h
    · rw [if_neg hk]; omega
    · have := units_mem_n' h hk; omega
theorem nrm_n (a b : T) {s : Sp} (h : s ∈ nrmS (wayU (caL a) (cbL a b))) : s.n≤a.kids.length + b.kids.length := by
  have wd := wayU_d (caL a) (cbL a b)
  have wi := wayU_in (caL a) (cbL a b)
  have wn := nrmS_d _ wi
  rw [caL_len,cbL_len] at wd
  by_cases hk : s.k = 2
  · have := units_mem_n' h (by omega); omega
  · have := units_mem_n h hk; omega
theorem lstO_mem (one : T→T→E) (most : Int) (a b : T) : ∀ o,o ∈ lstO one most a b→GOp one a.kids b.kids (a.kids.length + b.kids.length) o := by
  unfold lstO
  split
  · exact opsG_mem (fun x y => gapE_mem one x y _) _ (fun s hs => nrm_n a b hs) _ _
  · exact gapE_mem one _ _ _
theorem lstO_sum (one : T→T→E) (most : Int) (a b : T) : sumO (lstO one most a b)≤a.kids.length + b.kids.length := by
  unfold lstO
  split
  · exact opsG_sum (fun x y => gapE_sum one x y) _ _ _
  · exact gapE_sum one _ _
theorem lstO_len (one : T→T→E) (most : Int) (a b : T) : (lstO one most a b).length≤50 * (a.kids.length + b.kids.length) + 50 := by
  unfold lstO
  split
  · have wd := wayU_d (caL a) (cbL a b)
    have wi := wayU_in (caL a) (cbL a b)
    have wn := nrmS_d _ wi
    have := steps_len _ (nrm_k wi)
    have h := opsG_len (gapE_len one) (nrmS (wayU (caL a) (cbL a b))) a.kids b.kids []
    rw [caL_len,cbL_len] at wd
    simp only [List.length_nil] at h
    omega
  · have := gapE_len one a.kids b.kids
    omega
theorem nOkK_of : ∀ {l : List KE},(∀ x,x ∈ l→nOk x.e)→nOkK l
  | [],_ => by rw [nOkK]; trivial
  | .mk a e :: l,h => by
    rw [nOkK]
    exact ⟨h _ (List.mem_cons_self ..),nOkK_of fun x hx => h x (List.mem_cons_of_mem _ hx)⟩
theorem nOkO_of : ∀ {l : List OP},(∀ x,x ∈ l→(x.kind = 0∨x.kind = 1∨x.kind = 2∨x.kind = 3)∧(∀ t,t ∈ x.l→wfT t)∧(x.kind = 3→nOk x.e))→nOkO l
  | [],_ => by rw [nOkO]; trivial
  | .mk k n t e :: l,h => by
    rw [nOkO]
    exact ⟨h _ (List.mem_cons_self ..),nOkO_of fun x hx => h x (List.mem_cons_of_mem _ hx)⟩
theorem nOk_E0 : nOk E0 := by
  unfold E0
  rw [nOk]
  exact ⟨.inl rfl,fun _ => rfl,fun h => absurd h (by decide),by simp,by simp,by simp,by simp [sumO],fun h => absurd h (by decide),fun h => absurd h (by decide)⟩
theorem nOk_rep {a b : T} (ha : wfT a) (hb : wfT b) : nOk (.mk 1 a b [] [] 0 []) := by
  rw [nOk]
  exact ⟨.inr (.inl rfl),fun _ => rfl,fun _ => ⟨ha,hb⟩,by simp,by simp,by simp,by simp [sumO],fun h => absurd h (by decide),fun h => absurd h (by decide)⟩
theorem kidL26_mem {one : T→T→E} {a b : T} {m : Nat} {x : KE} (h : x ∈ kidL26 one a b m) : ∃ i : Nat,i < m∧x = .mk i (one (a.kids.getD i T0) (b.kids.getD i T0))∧(one (a.kids.getD i T0) (b.kids.getD i T0)).kind ≠ 0 := by
  unfold kidL26 at h
  rw [List.mem_filterMap] at h
  obtain ⟨i,hi,e⟩ := h
  split at e
  · cases e
  · rename_i hk
    simp only [Option.some.injEq] at e
    exact ⟨i,by simpa using hi,e.symm,hk⟩
theorem nOk_str {one : T→T→E} {a b : T} (ha : a.words.length≤1000) (hb : b.words.length≤1000) (ha2 : a.kids.length≤1000) (hb2 : b.kids.length≤1000) (h : ∀ i,nOk (one (a.kids.getD i T0) (b.kids.getD i T0))) : nOk (strE one a b) := by
  have h1 := wrdL_len a b (max a.words.length b.words.length)
  have h2 := kidL26_len one a b (max a.kids.length b.kids.length)
  unfold strE
  rw [nOk]
  refine ⟨.inr (.inr (.inl rfl)),fun _ => rfl,fun h => absurd h (by decide),by omega,by omega,by simp,by simp [sumO],fun _ => nOkK_of fun x hx => ?_,fun h => absurd h (by decide)⟩
  obtain ⟨i,_,e,_⟩ := kidL26_mem hx
  subst e
  exact h i
theorem nOk_list {one : T→T→E} {most : Int} {a b : T} (ha : a.kids.length≤1000) (hb : b.kids.length≤1000) (wa : ∀ t,t ∈ a.kids→wfT t) (wb : ∀ t,t ∈ b.kids→wfT t) (h : ∀ x,x ∈ a.kids→∀ y,y ∈ b.kids→nOk (one x y)) : nOk (listE one most a b) := by
  have h1 := lstO_len one most a b
  have h2 := lstO_sum one most a b
  rw [listE_eq,nOk]
  refine ⟨.inr (.inr (.inr rfl)),fun h => absurd rfl h,fun h => absurd h (by decide),by simp,by simp,by omega,by omega,fun h => absurd h (by decide),fun _ => nOkO_of fun x hx => ?_⟩
  cases lstO_mem one most a b x hx with
  | keep n h => exact ⟨.inl rfl,fun t (ht : t ∈ ([] : List T)) => by simp at ht,fun h => absurd h (by show ¬ (0 : Int) = 3; decide)⟩
  | del l h g k => exact ⟨.inr (.inl rfl),fun t ht => wa t (g t ht),fun h => absurd h (by show ¬ (1 : Int) = 3; decide)⟩
  | ins l h g k => exact ⟨.inr (.inr (.inl rfl)),fun t ht => wb t (g t ht),fun h => absurd h (by show ¬ (2 : Int) = 3; decide)⟩
  | desc p q hp hq => exact ⟨.inr (.inr (.inr rfl)),fun t (ht : t ∈ ([] : List T)) => by simp at ht,fun _ => h p hp q hq⟩
theorem nOk_one (most : Int) : ∀ (f g : Nat) (a b : T),okT f a→okT g b→nOk (oneE most f a b)
  | 0,g,a,b,ha,hb => by
    rw [oneE]
    split
    · exact nOk_E0
    · exact nOk_rep (okT_facts ha).1 (okT_facts hb).1
  | f + 1,g,a,b,ha,hb => by
    obtain ⟨a1,a2,a3,a4⟩ := okT_facts ha
    obtain ⟨b1,b2,b3,b4⟩ := okT_facts hb
    rw [oneE]
    split
    · exact nOk_E0
    · split
      · exact nOk_str a3 b3 a4 b4 fun i => nOk_one most f (g - 1) _ _ (okT_at ha i) (okT_at hb i)
      · split
        · exact nOk_list a4 b4 (fun t ht => (okT_facts (okT_kids ha t ht)).1) (fun t ht => (okT_facts (okT_kids hb t ht)).1) fun x hx y hy => nOk_one most f (g - 1) x y (okT_kids ha x hx) (okT_kids hb y hy)
        · exact nOk_rep a1 b1
theorem partsL_mem {l : List T} {t : T} (h : t ∈ l) : partsT t≤partsL l := by
  induction l with
  | nil => simp at h
  | cons x l ih =>
    rw [partsL_cons]
    have hp := partsT_pos x
    have hl := partsL_pos l
    rcases List.mem_cons.1 h with rfl | h
    · omega
    · have := ih h; omega
theorem okT_norm26 : ∀ (t : T),wfT t→partsT t≤1000→∀ f : Nat,partsT t≤f→okT f (norm t) := by
  refine T.ind fun k w l ih hw hp f hf => ?_
  rw [partsT_mk] at hp hf
  have hl := partsL_pos l
  have hks := (wfT_iff.1 hw).ks
  cases f with
  | zero => omega
  | succ f =>
    have hk : ∀ t,t ∈ l→okT f (norm t) := fun t ht => by
      have := partsL_mem ht
      exact ih t ht (hks t ht) (by omega) f (by omega)
    rw [okT]
    refine .inr ⟨wf_norm _ hw,norm_norm _,?_,?_,?_⟩
    · rw [norm_mk]
      split
      · simp
      · split
        · have := trimW_le w
          show (trimW w).length≤1000
          omega
        · show w.length≤1000
          omega
    · rw [norm_mk]
      split
      · simp
      · split
        · have := trimK_le (l.map norm)
          rw [List.length_map] at this
          show (trimK (l.map norm)).length≤1000
          omega
        · show (l.map norm).length≤1000
          rw [List.length_map]
          omega
    · intro x hx
      have hx' : x ∈ l.map norm := by
        rw [norm_mk] at hx
        split at hx
        · simp at hx
        · split at hx
          · have hx2 : x ∈ trimK (l.map norm) := hx
            rw [trimK_take] at hx2
            exact List.mem_of_mem_take hx2
          · exact hx
      obtain ⟨t,ht,rfl⟩ := List.mem_map.1 hx'
      exact hk t ht
noncomputable def dfE (most : Int) (a b : T) : E := nEd (oneE most 1000 (norm a) (norm b))
theorem pTrees_spec {a b : T} (ha : wfT a) (hb : wfT b) (pa : partsT a≤1000) (pb : partsT b≤1000) {most : Int} (hm : i64R most) : G.Spec Tryz.prog 11 [tX a,tX b,iv most] (eX (dfE most a b)) := by
  have oa := okT_norm26 a ha pa 1000 pa
  have ob := okT_norm26 b hb pb 1000 pb
  have h1 := pOne_spec hm 1000 1000 _ _ oa ob
  have h2 := pEdit_spec _ (nOk_one most 1000 1000 _ _ oa ob)
  refine spec_of t_diff_Trees (by simp) fun w0 I0 => ?_
  unfold c_diff_Trees
  simp
  refine sc_call (tNorm_spec a ha) (by simp) ?_
  simp
  refine sc_call (tNorm_spec b hb) (by simp) ?_
  simp
  refine sc_call h1 (by simp) ?_
  simp
  refine sc_call h2 (by simp) ?_
  simp
  exact frz_bare (by simp)
def good26 (t : T) : Bool := decide (0≤shallow 70 400 t) && rightT 64 t && decide (t.kind ≠ 10)
theorem good26_spec {t : T} (h : wfT t) : G.Spec Tryz.prog 8 [tX t] (bv (good26 t)) := by
  refine spec_of t_centolaw26_Good (by simp) fun w0 I0 => ?_
  unfold c_centolaw26_Good
  simp
  refine sc_call (shallow_spec t h 70 400 (by omega) (by omega) (by omega)) (by simp) ?_
  unfold good26
  by_cases hs : 0≤shallow 70 400 t
  · simp [hs]
    refine sc_call_gt rfl (fun _ => rRight_spec t h 64 (by omega)) (fun _ => by simp) (by simp) ?_
    cases hr : rightT 64 t with
    | true =>
      simp
      exact frz_is rfl (by simp)
    | false =>
      simp
      exact frz_is rfl (by simp)
  · simp [hs]
    refine sc_call_off rfl ?_
    simp
    exact frz_is rfl (by simp)
theorem good26_parts {t : T} (h : good26 t = true) : partsT t≤400∧rightT 64 t = true∧t.kind ≠ 10 := by
  unfold good26 at h
  simp only [Bool.and_eq_true,decide_eq_true_eq] at h
  obtain ⟨⟨h1,h2⟩,h3⟩ := h
  have := parts_shallow t 70 400 h1
  exact ⟨by omega,h2,h3⟩
def wds (tw : List Int) : Nat→Nat→List WE→Option (List Int)
  | 0,_,_ => some []
  | m + 1,i,[] => (wds tw m (i + 1) []).map (tw.getD i 0 :: ·)
  | m + 1,i,x :: xs => if x.at_ = (i : Int) then (if mixZ 0 (tw.getD i 0) x.mask = x.old then (wds tw m (i + 1) xs).map (mixZ (tw.getD i 0) x.new x.mask :: ·) else none) else (wds tw m (i + 1) (x :: xs)).map (tw.getD i 0 :: ·)
def kds (tk : List T) : Nat→Nat→List (Int × (T→Option T))→Option (List T)
  | 0,_,_ => some []
  | m + 1,i,[] => (kds tk m (i + 1) []).map (tk.getD i T0 :: ·)
  | m + 1,i,x :: xs => if x.1 = (i : Int) then (match x.2 (tk.getD i T0) with | none => none | some u => (kds tk m (i + 1) xs).map (u :: ·)) else (kds tk m (i + 1) (x :: xs)).map (tk.getD i T0 :: ·)
noncomputable def opsR (tk : List T) : Nat→List (Int × Int × List T × (T→Option T))→Option (List T × Nat)
  | a,[] => some ([],a)
  | a,(k,n,l,f) :: os =>
    if k = 0 then (if a + n.toNat≤tk.length then (opsR tk (a + n.toNat) os).map (fun r => ((tk.drop a).take n.toNat ++ r.1,r.2)) else none)
    else if k = 1 then (if a + l.length≤tk.length∧(((tk.drop a).take l.length).zip l).all (fun p => eqT p.1 p.2) = true then opsR tk (a + l.length) os else none)
    else if k = 2 then (opsR tk a os).map (fun r => (l ++ r.1,r.2))
    else match tk[a]? with
      | none => none
      | some x => match f x with
        | none => none
        | some u => (opsR tk (a + 1) os).map (fun r => (u :: r.1,r.2))
def lastW (ws : List WE) (n : Nat) : Nat := match ws.getLast? with | none => n | some x => max n (x.at_ + 1).toNat
def lastK {β : Type} (ks : List (Int × β)) (n : Nat) : Nat := match ks.getLast? with | none => n | some x => max n (x.1 + 1).toNat
noncomputable def stepE (k : Int) (o n : T) (ws : List WE) (ks : List (Int × (T→Option T))) (list : Int) (os : List (Int × Int × List T × (T→Option T))) (t : T) : Option T :=
  if k = 0 then some (norm t)
  else if k = 1 then (if eqT o t = true then some (norm n) else none)
  else if k = 2 then (if t.kind = 1 then (match wds t.words (lastW ws t.words.length) 0 ws,kds t.kids (lastK ks t.kids.length) 0 ks with
    | some w,some l => some (norm (.mk 1 w l))
    | _,_ => none) else none)
  else if k = 3 then (if t.kind = list then (match opsR t.kids 0 os with
    | some (l,a) => if a = t.kids.length then some (norm (.mk t.kind [] l)) else none
    | none => none) else none)
  else none
mutual
noncomputable def apE : E→T→Option T
  | .mk k o n ws ks l os,t => stepE k o n ws (apKs ks) l (apOs os) t
noncomputable def apKs : List KE→List (Int × (T→Option T))
  | [] => []
  | .mk a e :: r => (a,apE e) :: apKs r
noncomputable def apOs : List OP→List (Int × Int × List T × (T→Option T))
  | [] => []
  | .mk k n t e :: r => (k,n,t,apE e) :: apOs r
end
section
variable {n0 : Nat} {w0 : World} {I0 : Nat→Prop} {Q : Exit→Sta→Prop}
end
section
variable {n0 : Nat} {w0 : World} {I0 : Nat→Prop} {Q : Exit→Sta→Prop}
end
theorem mixZ_in (a b mask : Int) : u64R (mixZ a b mask) := by
  have h := ofZ_range (mixL (bytesZ a) (bytesZ b) mask 8) mixL_range
  rw [mixL_length (by rw [bytesZ_length]; exact Nat.le_refl _),bytesZ_length] at h
  have e : (256 : Int) ^ 8 = 18446744073709551616 := by decide
  rw [e] at h
  exact ⟨h.1,h.2⟩
section
variable {n0 : Nat} {w0 : World} {I0 : Nat→Prop}
noncomputable def strO (e : E) (t : T) (n m : Nat) : Option T := match wds t.words n 0 e.words,kds t.kids m 0 (apKs e.kids) with
  | some w,some l => some (.mk 1 w l)
  | _,_ => none
end
noncomputable def strA (e : E) (t : T) : Option T := if t.kind = 1 then strO e t (lastW e.words t.words.length) (lastK (apKs e.kids) t.kids.length) else none
theorem wf_E026 : wfE E0 := wfE_iff.2 ⟨by simp [i64R],by simp [i64R],wf_T026,wf_T026,by simp,by simp,by simp,by simp,by simp,by simp⟩
theorem i64R_small {n : Int} (h1 : -1000000000≤n) (h2 : n≤1000000000) : i64R n := ⟨by omega,by omega⟩
theorem wd_wf26 {i : Nat} (hi : i≤1000000) (a b : Int) : WE.wf (wdE i a b) :=
  ⟨i64R_small (by show (-1000000000 : Int)≤i; omega) (by show (i : Int)≤1000000000; omega),unlZ_in a b,mixZ_in _ _ _,mixZ_in _ _ _⟩
theorem wf_str26 {one : T→T→E} {a b : T} (ha : a.words.length≤1000) (hb : b.words.length≤1000) (ha2 : a.kids.length≤1000) (hb2 : b.kids.length≤1000) (h : ∀ i,wfE (one (a.kids.getD i T0) (b.kids.getD i T0))) : wfE (strE one a b) := by
  have h1 := wrdL_len a b (max a.words.length b.words.length)
  have h2 := kidL26_len one a b (max a.kids.length b.kids.length)
  unfold strE
  refine wfE_iff.2 ⟨by simp [i64R],by simp [i64R],wf_T026,wf_T026,fun x hx => ?_,by show (wrdL a b _).length * 32≤_; omega,by show (kidL26 one a b _).length * 208≤_; omega,by simp,fun x hx => ?_,by simp⟩
  · have hx' : x ∈ wrdL a b (max a.words.length b.words.length) := hx
    unfold wrdL at hx'
    rw [List.mem_filterMap] at hx'
    obtain ⟨i,hi,e⟩ := hx'
    split at e
    · cases e
    · simp only [Option.some.injEq] at e
      subst e
      have : i < max a.words.length b.words.length := by simpa using hi
      exact wd_wf26 (by omega) _ _
  · obtain ⟨i,hi,e,_⟩ := kidL26_mem (show x ∈ kidL26 one a b _ from hx)
    subst e
    exact ⟨i64R_small (by show (-1000000000 : Int)≤i; omega) (by show (i : Int)≤1000000000; omega),h i⟩
theorem wfO_gop {one : T→T→E} {A B : List T} {N : Nat} (hN : N≤1000000) (lA : A.length≤1000000) (lB : B.length≤1000000) (hA : ∀ t,t ∈ A→wfT t) (hB : ∀ t,t ∈ B→wfT t) (h1 : ∀ x,x ∈ A→∀ y,y ∈ B→wfE (one x y)) {o : OP} (h : GOp one A B N o) : WfO o := by
  cases h with
  | keep n h => exact ⟨by simp [i64R],i64R_small (by show (-1000000000 : Int)≤n; omega) (by show (n : Int)≤1000000000; omega),by simp,by simp,wf_E026⟩
  | del l h g k => exact ⟨by simp [i64R],by simp [i64R],fun t ht => hA t (g t ht),by show l.length * 56≤_; omega,wf_E026⟩
  | ins l h g k => exact ⟨by simp [i64R],by simp [i64R],fun t ht => hB t (g t ht),by show l.length * 56≤_; omega,wf_E026⟩
  | desc x y hx hy => exact ⟨by simp [i64R],by simp [i64R],by simp,by simp,h1 x hx y hy⟩
theorem wf_rep26 {a b : T} (ha : wfT a) (hb : wfT b) : wfE (.mk 1 a b [] [] 0 []) := wfE_iff.2 ⟨by simp [i64R],by simp [i64R],ha,hb,by simp,by simp,by simp,by simp,by simp,by simp⟩
theorem wf_list26 {one : T→T→E} {most : Int} {a b : T} (wfa : wfT a) (ha : a.kids.length≤1000) (hb : b.kids.length≤1000) (wa : ∀ t,t ∈ a.kids→wfT t) (wb : ∀ t,t ∈ b.kids→wfT t) (h : ∀ x,x ∈ a.kids→∀ y,y ∈ b.kids→wfE (one x y)) : wfE (listE one most a b) := by
  have h1 := lstO_len one most a b
  rw [listE_eq]
  exact wfE_iff.2 ⟨by simp [i64R],(wfT_iff.1 wfa).k,wf_T026,wf_T026,by simp,by simp,by simp,by show (lstO one most a b).length * 240≤_; omega,by simp,fun x hx => wfO_gop (by omega) (by omega) (by omega) wa wb h (lstO_mem one most a b x hx)⟩
theorem wf_one26 (most : Int) : ∀ (f g : Nat) (a b : T),okT f a→okT g b→wfE (oneE most f a b)
  | 0,g,a,b,ha,hb => by
    rw [oneE]
    split
    · exact wf_E026
    · exact wf_rep26 (okT_facts ha).1 (okT_facts hb).1
  | f + 1,g,a,b,ha,hb => by
    obtain ⟨a1,a2,a3,a4⟩ := okT_facts ha
    obtain ⟨b1,b2,b3,b4⟩ := okT_facts hb
    rw [oneE]
    split
    · exact wf_E026
    · split
      · exact wf_str26 a3 b3 a4 b4 fun i => wf_one26 most f (g - 1) _ _ (okT_at ha i) (okT_at hb i)
      · split
        · exact wf_list26 a1 a4 b4 (fun t ht => (okT_facts (okT_kids ha t ht)).1) (fun t ht => (okT_facts (okT_kids hb t ht)).1) fun x hx y hy => wf_one26 most f (g - 1) x y (okT_kids ha x hx) (okT_kids hb y hy)
        · exact wf_rep26 a1 b1
theorem wrap_in26 (n : Int) : i64R (IntKind.i64.wrap n) := by
  rw [IntKind.wrap_i64]
  exact ⟨by omega,by omega⟩
theorem wfO_kp {out : List OP} {n : Int} (h : ∀ o,o ∈ out→WfO o) (hn : i64R n) : ∀ o,o ∈ kpO out n→WfO o := by
  unfold kpO
  split
  · rename_i m l e he
    intro o ho
    have hm := List.mem_of_getLast? he
    rcases List.mem_append.1 ho with ho | ho
    · exact h o (List.dropLast_subset _ ho)
    · rw [List.mem_singleton] at ho
      subst ho
      have := h _ hm
      exact ⟨this.k,wrap_in26 _,this.l,this.ll,this.e⟩
  · intro o ho
    rcases List.mem_append.1 ho with ho | ho
    · exact h o ho
    · rw [List.mem_singleton] at ho
      subst ho
      exact ⟨by simp [i64R],hn,by simp,by simp,wf_E026⟩
theorem wfO_fl {out : List OP} {g b : List T} (h : ∀ o,o ∈ out→WfO o) (hg : ∀ t,t ∈ g→wfT t) (hb : ∀ t,t ∈ b→wfT t) (lg : g.length≤1000000) (lb : b.length≤1000000) : ∀ o,o ∈ flO out g b→WfO o := by
  intro o ho
  unfold flO delO insO at ho
  rcases List.mem_append.1 ho with ho | ho
  · exact h o ho
  · rcases List.mem_append.1 ho with ho | ho
    · split at ho
      · simp at ho
      · rw [List.mem_singleton] at ho
        subst ho
        exact ⟨by simp [i64R],by simp [i64R],hg,by show g.length * 56≤_; omega,wf_E026⟩
    · split at ho
      · simp at ho
      · rw [List.mem_singleton] at ho
        subst ho
        exact ⟨by simp [i64R],by simp [i64R],hb,by show b.length * 56≤_; omega,wf_E026⟩
def WfS (o : OP) : Prop := i64R o.n∧(∀ t,t ∈ o.l→wfT t)∧(o.kind = 0∨o.kind = 1∨o.kind = 2∨o.kind = 3)∧(o.kind = 3→wfE o.e)
theorem opsW_wf (list : Int) : ∀ (os out : List OP) (g b : List T),(∀ o,o ∈ os→WfS o)→(∀ o,o ∈ out→WfO o)→(∀ t,t ∈ g→wfT t)→(∀ t,t ∈ b→wfT t)→g.length + b.length + sumO os≤1000000→∀ o,o ∈ opsW list os out g b→WfO o
  | [],out,g,b,h1,h2,h3,h4,h5 => by
    rw [opsW]
    exact wfO_fl h2 h3 h4 (by omega) (by omega)
  | x :: os,out,g,b,h1,h2,h3,h4,h5 => by
    rw [sumO_cons] at h5
    have hx := h1 x (by simp)
    have hos : ∀ o,o ∈ os→WfS o := fun o ho => h1 o (List.mem_cons_of_mem _ ho)
    have fl := wfO_fl h2 h3 h4 (by omega) (by omega)
    have nn : ∀ (l : List T),(∀ t,t ∈ l→wfT t)→∀ t,t ∈ l ++ x.l.map norm→wfT t := fun l hl t ht => by
      rcases List.mem_append.1 ht with ht | ht
      · exact hl t ht
      · obtain ⟨u,hu,rfl⟩ := List.mem_map.1 ht
        exact wf_norm _ (hx.2.1 u hu)
    have z : ∀ t : T,t ∈ ([] : List T)→wfT t := by simp
    rw [opsW]
    split
    · exact opsW_wf list os _ _ _ hos (wfO_kp fl hx.1) z z (by simp; omega)
    · split
      · exact opsW_wf list os _ _ _ hos h2 (nn g h3) h4 (by simp; omega)
      · split
        · exact opsW_wf list os _ _ _ hos h2 h3 (nn b h4) (by simp; omega)
        · split
          · exact opsW_wf list os _ _ _ hos (wfO_kp fl (by simp [i64R])) z z (by simp; omega)
          · refine opsW_wf list os _ _ _ hos (fun o ho => ?_) z z (by simp; omega)
            rcases List.mem_append.1 ho with ho | ho
            · exact fl o ho
            · rw [List.mem_singleton] at ho
              subst ho
              exact ⟨by simp [i64R],by simp [i64R],by simp,by simp,hx.2.2.2 (by have := hx.2.2.1; omega)⟩
theorem kpO_len (out : List OP) (n : Int) : (kpO out n).length≤out.length + 1 := by
  unfold kpO
  split
  · simp
    try omega
  · simp
theorem flO_len (out : List OP) (g b : List T) : (flO out g b).length≤out.length + 2 := by
  unfold flO delO insO
  split <;> split <;> simp
theorem opsW_len (list : Int) : ∀ (os out : List OP) (g b : List T),(opsW list os out g b).length≤out.length + 3 * os.length + 2
  | [],out,g,b => by
    rw [opsW]
    have := flO_len out g b
    simp; omega
  | x :: os,out,g,b => by
    have h1 := flO_len out g b
    have h2 := kpO_len (flO out g b)
    rw [opsW,List.length_cons]
    split
    · have := opsW_len list os (kpO (flO out g b) x.n) [] []
      have := h2 x.n
      omega
    · split
      · have := opsW_len list os out (g ++ x.l.map norm) b
        omega
      · split
        · have := opsW_len list os out g (b ++ x.l.map norm)
          omega
        · split
          · have := opsW_len list os (kpO (flO out g b) 1) [] []
            have := h2 1
            omega
          · have := opsW_len list os (flO out g b ++ [.mk 3 0 [] x.e]) [] []
            simp at this
            omega
theorem sumO_nOP (os : List OP) : sumO (os.map nOP) = sumO os := by
  unfold sumO
  rw [List.map_map]
  rfl
theorem wf_nEd : ∀ e : E,wfE e→nOk e→wfE (nEd e) := by
  refine E.ind fun k o n ws ks l os ihk iho hw h => ?_
  rw [nOk] at h
  obtain ⟨hk,hl,hon,hwl,hkl,hol,hsum,hks,hos⟩ := h
  have w := wfE_iff.1 hw
  rw [nEd_mk]
  split
  · exact wf_rep26 (wf_norm _ w.o) (wf_norm _ w.n)
  · split
    · rename_i h1 h2
      refine wfE_iff.2 ⟨by simp [i64R],by simp [i64R],wf_T026,wf_T026,w.w,w.wl,by show (ks.map nKE).length * 208≤_; simp; omega,by simp,fun x hx => ?_,by simp⟩
      obtain ⟨y,hy,rfl⟩ := List.mem_map.1 (show x ∈ ks.map nKE from hx)
      have := w.ks y hy
      exact ⟨this.1,ihk y hy this.2 (nOkK_all (hks h2) y hy)⟩
    · split
      · rename_i h1 h2 h3
        have hO : ∀ o,o ∈ os.map nOP→WfS o := fun o ho => by
          obtain ⟨y,hy,rfl⟩ := List.mem_map.1 ho
          have g1 := w.os y hy
          obtain ⟨g2,g3,g4⟩ := nOkO_all (hos h3) y hy
          exact ⟨g1.n,g3,g2,fun e => iho y hy g1.e (g4 e)⟩
        have hlen := opsW_len l (os.map nOP) [] [] []
        simp at hlen
        refine wfE_iff.2 ⟨by simp [i64R],w.l,wf_T026,wf_T026,by simp,by simp,by simp,by show (opsW l (os.map nOP) [] [] []).length * 240≤_; omega,by simp,fun x hx => opsW_wf l _ _ _ _ hO (by simp) (by simp) (by simp) (by rw [sumO_nOP]; simpa using hsum) x hx⟩
      · exact wf_E026
theorem wf_df {a b : T} (ha : wfT a) (hb : wfT b) (pa : partsT a≤1000) (pb : partsT b≤1000) {most : Int} : wfE (dfE most a b) := by
  have oa := okT_norm26 a ha pa 1000 pa
  have ob := okT_norm26 b hb pb 1000 pb
  exact wf_nEd _ (wf_one26 most 1000 1000 _ _ oa ob) (nOk_one most 1000 1000 _ _ oa ob)
section
variable {n0 : Nat} {w0 : World} {I0 : Nat→Prop} {Q : Exit→Sta→Prop}
theorem pointers_l1 {l : List T} {H : Hp} (hl : l.length * 56≤140737488355328) : ∀ (n : Nat),n≤l.length→trimK (l.take n) = trimK l→((trimK l).length = 0→∀ q,Q (.exit 0) ⟨lk [(0,tKs l),(3,iv 0),(7,bv q)],H⟩)→((trimK l).length ≠ 0→Q .ret ⟨lk [(2,iv (trimK l).length)],H⟩) →
    LoopC (cx Tryz.prog w0 I0 n0) l1_cost_pointers Q ⟨lk [(0,tKs l),(3,iv n)],H⟩ := by
  intro n
  induction n with
  | zero =>
    intro hn ht h1 h2
    refine loopC_once mixed l1_cost_pointers.eq_1 ?_
    simp
    exact h1 (by rw [← ht]; rfl) _
  | succ n ih =>
    intro hn ht h1 h2
    have hlt : n < l.length := by omega
    have e : IntKind.i64.wrap (n : Int) = n := i64_same (by omega) (by omega)
    have hp : (0 : Int) < (n : Int) + 1 := by omega
    refine loopC_once mixed l1_cost_pointers.eq_1 ?_
    by_cases h0 : l[n].kind = 0
    · simp [hp,e,hlt,h0]
      exact ih (by omega) (by rw [← trimK_zero hlt h0]; exact ht) h1 h2
    · have e2 : (trimK l).length = n + 1 := by rw [← ht,trimK_stop hlt h0]; simp; omega
      simp [hp,e,hlt,h0]
      have := h2 (by omega)
      rw [e2] at this
      exact this
end
theorem pointers_spec (l : List T) (hl : l.length * 56≤140737488355328) : G.Spec Tryz.prog 122 [tKs l] (iv (trimK l).length) := by
  refine spec_of t_cost_pointers (by simp) fun w0 I0 => ?_
  unfold c_cost_pointers
  simp
  refine pointers_l1 hl l.length (Nat.le_refl _) (by rw [List.take_of_length_le (Nat.le_refl _)]) (fun h q => ?_) (fun h => ?_)
  · simp
    exact frz_int (by omega)
  · simp
    exact frz_bare rfl
theorem kids_spec {a b : T} (ha : wfT a) (hb : wfT b) : G.Spec Tryz.prog 71 [tKs [a,b]] (iv (i64w (kids2 a b))) := by
  have p0 : G.Spec Tryz.prog 122 [.sl false []] (iv 0) := pointers_spec [] (by simp)
  have p1 : G.Spec Tryz.prog 122 [.sl false [tX a]] (iv (if a.kind = 0 then 0 else 1)) := by
    have := pointers_spec [a] (by simp)
    have e : tKs [a] = .sl false [tX a] := by simp
    rw [e,trimK_1] at this
    split at this <;> rename_i h <;> simp [h] <;> simpa using this
  refine spec_of t_cost_kids (by simp) fun w0 I0 => ?_
  unfold c_cost_kids
  simp
  refine loopC_once mixed l1_cost_kids.eq_1 ?_
  simp
  refine sc_call (tSize_spec a ha) rfl ?_
  have two : ∀ (x y r : Int) (H : Hp),y = i64w x→r = x + sizeP (norm b) + (if b.kind ≠ 0 then 2 - (if a.kind ≠ 0 then 1 else 0) else 0)→LoopC (cx Tryz.prog w0 I0 31) l1_cost_kids (InBlock 0 (ThenC (WPC (cx Tryz.prog w0 I0 31) (.keep [3] (.seq (.reg [co (some 30) (.move (.tmp 3)) none,co (some 2) (.assign (.tmp 30)) none] [2]) .ret)) (RetC Tryz.prog [.tmp 2] (iv (i64w r)))) (RetC Tryz.prog [.tmp 2] (iv (i64w r))))) ⟨lk [(0,tKs [a,b]),(3,iv y),(6,tKs [a,b]),(7,iv 2),(8,iv 1)],H⟩ := fun x y r H hy hr => by
    subst hy
    have fin : ∀ (y : Int) (H : Hp),y = i64w r→LoopC (cx Tryz.prog w0 I0 31) l1_cost_kids (InBlock 0 (ThenC (WPC (cx Tryz.prog w0 I0 31) (.keep [3] (.seq (.reg [co (some 30) (.move (.tmp 3)) none,co (some 2) (.assign (.tmp 30)) none] [2]) .ret)) (RetC Tryz.prog [.tmp 2] (iv (i64w r)))) (RetC Tryz.prog [.tmp 2] (iv (i64w r))))) ⟨lk [(0,tKs [a,b]),(3,iv y),(6,tKs [a,b]),(7,iv 2),(8,iv 2)],H⟩ := fun y H hy => by
      refine loopC_once mixed l1_cost_kids.eq_1 ?_
      simp [hy]
      exact frz_bare rfl
    have e2 : IntKind.i64.wrap 2 = 2 := by decide
    refine loopC_once mixed l1_cost_kids.eq_1 ?_
    simp [updF_app]
    refine sc_call (tSize_spec b hb) rfl ?_
    by_cases h0 : b.kind = 0
    · simp [h0,updF_app,i64_add_l,i64_add_r,e2]
      exact fin _ _ (by rw [hr]; simp [h0])
    · simp [h0,updF_app]
      refine sc_call p1 rfl ?_
      simp [i64_add_l,i64_add_r,i64_sub_l,e2]
      refine fin _ _ ?_
      rw [hr]
      by_cases ha0 : a.kind = 0 <;> simp [h0,ha0]
  have e1 : IntKind.i64.wrap 1 = 1 := by decide
  by_cases h0 : a.kind = 0
  · simp [h0,e1]
    exact two (sizeP (norm a)) _ _ _ (by unfold i64w; rw [i64_i64]) (by unfold kids2; simp [h0])
  · simp [h0]
    refine sc_call p0 rfl ?_
    simp [e1,i64_add_l,i64_add_r]
    exact two (sizeP (norm a) + 1) _ _ _ rfl (by unfold kids2; simp [h0])
abbrev NodeS (e : E) : Prop := G.Spec Tryz.prog 35 [eX e] (iv (i64w (nodeE e)))
def structZ (e : E) : Int := (if e.words = [] then 0 else 2 + e.words.length * wideW 1 e.words) + (if e.kids.isEmpty = true then 0 else 2 + e.kids.length * (if lastAt e.kids = 0 then 1 else 2) + (if e.words = [] then 1 else 0) + nodeKs e.kids)
def listZ (e : E) : Int := if e.ops.isEmpty = true then 0 else 2 + e.ops.length * wideO 1 e.ops + nodeOs e.list e.ops
section
variable {n0 : Nat} {w0 : World} {I0 : Nat→Prop} {Q : Exit→Sta→Prop}
theorem struct_l1 {l : List WE} (hl : l.length * 32≤140737488355328) {a1 a3 : A} {n : Int} {v : VOb} : ∀ (m i : Nat) (x : Int) (H : Hp),i + m = l.length→H [0] = v →
    (∀ i' q H',H' [0] = v→Q (.exit 0) ⟨lk [(1,a1),(3,a3),(4,iv n),(5,iv (wideW x (l.drop i))),(18,wKs l),(19,iv l.length),(20,iv i'),(21,bv q)],H'⟩) →
    LoopC (cx Tryz.prog w0 I0 n0) l1_cost_structure Q ⟨lk [(1,a1),(3,a3),(4,iv n),(5,iv x),(18,wKs l),(19,iv l.length),(20,iv i)],H⟩ := by
  intro m
  induction m with
  | zero =>
    intro i x H hi h0 hq
    have : i = l.length := by omega
    subst this
    refine loopC_once mixed l1_cost_structure.eq_1 ?_
    simp
    simpa [wideW] using hq l.length false H h0
  | succ m ihm =>
    intro i x H hi h0 hq
    have hlt : i < l.length := by omega
    have ed : l.drop i = l[i] :: l.drop (i + 1) := List.drop_eq_getElem_cons hlt
    have ei : IntKind.i64.wrap ((i : Int) + 1) = ((i + 1 : Nat) : Int) := i64_same (by omega) (by omega)
    rw [ed,wideW] at hq
    refine loopC_once mixed l1_cost_structure.eq_1 ?_
    by_cases h1 : l[i].new = 0
    · by_cases h2 : l[i].old = 0
      · simp [hlt,h1,h2,updF_app,ei]
        simp [h1,h2] at hq
        exact ihm (i + 1) _ _ (by omega) (by simp [updF_app,h0]) (fun i' q H' hh => by cases q; exact (hq i').1 H' hh; exact (hq i').2 H' hh)
      · simp [hlt,h1,h2,updF_app,ei]
        simp [h1,h2] at hq
        exact ihm (i + 1) _ _ (by omega) (by simp [updF_app,h0]) (fun i' q H' hh => by cases q; exact (hq i').1 H' hh; exact (hq i').2 H' hh)
    · simp [hlt,h1,updF_app,ei]
      simp [h1] at hq
      exact ihm (i + 1) _ _ (by omega) (by simp [updF_app,h0]) (fun i' q H' hh => by cases q; exact (hq i').1 H' hh; exact (hq i').2 H' hh)
theorem struct_l2 {l : List KE} (hl : l.length * 208≤140737488355328) (ih : ∀ x,x ∈ l→NodeS x.e) : ∀ (m i : Nat) (x y : Int) (H : Hp),i + m = l.length→y = i64w x →
    (∀ i' q H',Q (.exit 3) ⟨lk [(3,iv (i64w (x + nodeKs (l.drop i)))),(67,kKs l),(68,iv l.length),(69,iv i'),(70,bv q)],H'⟩) →
    LoopC (cx Tryz.prog w0 I0 n0) l2_cost_structure Q ⟨lk [(3,iv y),(67,kKs l),(68,iv l.length),(69,iv i)],H⟩ := by
  intro m
  induction m with
  | zero =>
    intro i x y H hi hy hq
    have : i = l.length := by omega
    subst this hy
    refine loopC_once mixed l2_cost_structure.eq_1 ?_
    simp
    simpa using hq l.length false H
  | succ m ihm =>
    intro i x y H hi hy hq
    subst hy
    have hlt : i < l.length := by omega
    have ed : l.drop i = l[i] :: l.drop (i + 1) := List.drop_eq_getElem_cons hlt
    have ei : IntKind.i64.wrap ((i : Int) + 1) = ((i + 1 : Nat) : Int) := i64_same (by omega) (by omega)
    rw [ed,nodeKs_cons] at hq
    refine loopC_once mixed l2_cost_structure.eq_1 ?_
    simp [hlt,updF_app]
    refine sc_call (ih _ (List.getElem_mem hlt)) rfl ?_
    simp [ei,i64_add_l,i64_add_r]
    refine ihm (i + 1) (x + nodeE l[i].e) _ _ (by omega) rfl fun i' q H' => ?_
    have := hq i' q H'
    rw [← Int.add_assoc] at this
    exact this
theorem list_l1 {e : E} (hl : e.ops.length * 240≤140737488355328) (hw : WfE e) (ih : ∀ x,x ∈ e.ops→x.kind = 3→NodeS x.e) : ∀ (m i : Nat) (x z y : Int) (H : Hp),i + m = e.ops.length→H [0] = ⟨1,.cells (eL e)⟩→y = i64w z →
    (∀ i' q H',H' [0] = ⟨1,.cells (eL e)⟩→Q (.exit 0) ⟨lk [(1,.pob [0] 1 0),(3,iv (wideO x (e.ops.drop i))),(4,iv (i64w (z + nodeOs e.list (e.ops.drop i)))),(12,oKs e.ops),(13,iv e.ops.length),(14,iv i'),(15,bv q)],H'⟩) →
    LoopC (cx Tryz.prog w0 I0 n0) l1_cost_list Q ⟨lk [(1,.pob [0] 1 0),(3,iv x),(4,iv y),(12,oKs e.ops),(13,iv e.ops.length),(14,iv i)],H⟩ := by
  intro m
  induction m with
  | zero =>
    intro i x z y H hi h0 hy hq
    have : i = e.ops.length := by omega
    subst this hy
    refine loopC_once mixed l1_cost_list.eq_1 ?_
    simp
    simpa [wideO] using hq e.ops.length false H h0
  | succ m ihm =>
    intro i x z y H hi h0 hy hq
    subst hy
    have hlt : i < e.ops.length := by omega
    have ed : e.ops.drop i = e.ops[i] :: e.ops.drop (i + 1) := List.drop_eq_getElem_cons hlt
    have ei : IntKind.i64.wrap ((i : Int) + 1) = ((i + 1 : Nat) : Int) := i64_same (by omega) (by omega)
    rw [ed,nodeOs_cons,wideO] at hq
    have ihx := ih _ (List.getElem_mem hlt)
    have hwo := hw.os _ (List.getElem_mem hlt)
    generalize ho : e.ops[i] = o at *
    have next : ∀ (x' z' y' : Int) H',H' [0] = ⟨1,.cells (eL e)⟩→x' = (if o.kind = 1∨o.kind = 2∨o.kind = 3 then 2 else x)→y' = i64w z'→z' = z + (if o.kind = 1∨o.kind = 2 then sizeP (norm (.mk e.list [] o.l)) else if o.kind = 3 then nodeE o.e else 0) →
        LoopC (cx Tryz.prog w0 I0 n0) l1_cost_list Q ⟨lk [(1,.pob [0] 1 0),(3,iv x'),(4,iv y'),(12,oKs e.ops),(13,iv e.ops.length),(14,iv ((i + 1 : Nat) : Int))],H'⟩ := fun x' z' y' H' hH hx hy hz =>
      ihm (i + 1) x' z' y' H' (by omega) hH hy fun i' q H2 hh => by
        have := hq i' q H2 hh
        rw [← hx,← Int.add_assoc,← hz] at this
        exact this
    have hwt : wfT (.mk e.list [] o.l) := wfT_iff.2 ⟨hw.l,by simp,by simp,hwo.ll,hwo.l⟩
    have tS : G.Spec Tryz.prog 75 [.agg [iv e.list,.sl true [],tKs o.l]] (iv (i64w (sizeP (norm (.mk e.list [] o.l))))) := (tSize_spec (.mk e.list [] o.l) hwt).soft (by simp [A.softL,A.soft,soft_tKs])
    refine loopC_once mixed l1_cost_list.eq_1 ?_
    by_cases k1 : o.kind = 1
    · simp [hlt,ho,updF_app,k1]
      rw [k1_cost_list.eq_1]
      simp [h0,updF_app]
      refine sc_call tS rfl ?_
      simp [ei,i64_add_l,i64_add_r]
      exact next _ _ _ _ (by simp [updF_app,h0]) (by simp [k1]) rfl (by simp [k1])
    · by_cases k2 : o.kind = 2
      · simp [hlt,ho,updF_app,k2]
        rw [k1_cost_list.eq_1]
        simp [h0,updF_app]
        refine sc_call tS rfl ?_
        simp [ei,i64_add_l,i64_add_r]
        exact next _ _ _ _ (by simp [updF_app,h0]) (by simp [k2]) rfl (by simp [k2])
      · by_cases k3 : o.kind = 3
        · simp [hlt,ho,updF_app,k3]
          rw [k1_cost_list.eq_1]
          simp [h0,updF_app]
          refine sc_call (ihx k3) rfl ?_
          simp [ei,i64_add_l,i64_add_r]
          exact next _ _ _ _ (by simp [updF_app,h0]) (by simp [k3]) rfl (by simp [k3])
        · simp [hlt,ho,updF_app,k1,k2]
          rw [k1_cost_list.eq_1]
          simp [k3,ei]
          exact next x z _ _ (by simp [updF_app,h0]) (by simp [k1,k2,k3]) rfl (by simp [k1,k2,k3])
end
theorem list_spec {e : E} (hw : WfE e) (ih : ∀ x,x ∈ e.ops→x.kind = 3→NodeS x.e) : G.Spec Tryz.prog 73 [eX e] (iv (i64w (listZ e))) := by
  have hol := hw.ol
  refine spec_of t_cost_list (by simp) fun w0 I0 => ?_
  unfold c_cost_list
  by_cases h0 : e.ops = []
  · have hz : listZ e = 0 := by simp [listZ,h0]
    simp [h0,hz]
    exact frz_int (by decide)
  · have hz : listZ e = 2 + e.ops.length * wideO 1 e.ops + nodeOs e.list e.ops := by simp [listZ,h0]
    simp [h0]
    refine list_l1 hol hw ih e.ops.length 0 1 0 _ _ (by omega) (by simp) (by decide) fun i' q H' hA => ?_
    simp [hA,i64_add_l,i64_add_r,i64_mul_r,hz]
    exact frz_bare rfl
theorem lastAt_get : ∀ {l : List KE} (h : 0 < l.length),lastAt l = (l[l.length - 1]'(by omega)).at_
  | [x],_ => rfl
  | x :: y :: l,_ => by
    have := lastAt_get (l := y :: l) (by simp)
    simp only [lastAt]
    rw [this]
    simp
section
variable {n0 : Nat} {w0 : World} {I0 : Nat→Prop}
theorem struct_k1 {Q' : Exit→Sta→Prop} {e : E} (hl : e.kids.length * 208≤140737488355328) (ih : ∀ x,x ∈ e.kids→NodeS x.e) {H : Hp} (hH : H [0] = ⟨1,.cells (eL e)⟩) {x y : Int} (hy : y = i64w x)
    (h : ∀ l H',Q' .normal ⟨lk ((3,iv (i64w (x + nodeKs e.kids))) :: l),H'⟩) : WPC (cx Tryz.prog w0 I0 n0) k1_cost_structure Q' ⟨lk [(1,.pob [0] 1 0),(3,iv y)],H⟩ := by
  rw [k1_cost_structure.eq_1]
  simp [hH]
  refine struct_l2 hl ih e.kids.length 0 x _ _ (by omega) hy fun i' q H' => ?_
  simp
  exact h _ _
theorem struct_k2 {Q' : Exit→Sta→Prop} {e : E} (hl : e.kids.length * 208≤140737488355328) (ih : ∀ x,x ∈ e.kids→NodeS x.e) {H : Hp} (hH : H [0] = ⟨1,.cells (eL e)⟩) {x w : Int}
    (h : ∀ l H',Q' .normal ⟨lk ((3,iv (i64w (x + (2 + e.kids.length * w) + (if e.words = [] then 1 else 0) + nodeKs e.kids))) :: l),H'⟩) : WPC (cx Tryz.prog w0 I0 n0) k2_cost_structure Q' ⟨lk [(1,.pob [0] 1 0),(3,iv (i64w x)),(8,iv e.kids.length),(9,iv w)],H⟩ := by
  rw [k2_cost_structure.eq_1]
  by_cases hw : e.words = []
  · simp [hH,hw,i64_add_l,i64_add_r,i64_mul_r]
    refine struct_k1 hl ih hH rfl fun l H' => ?_
    simpa [hw] using h l H'
  · simp [hH,hw,i64_add_l,i64_add_r,i64_mul_r]
    refine struct_k1 hl ih hH rfl fun l H' => ?_
    simpa [hw] using h l H'
end
theorem struct_spec {e : E} (hw : WfE e) (ih : ∀ x,x ∈ e.kids→NodeS x.e) : G.Spec Tryz.prog 72 [eX e] (iv (i64w (structZ e))) := by
  have hwl := hw.wl
  have hkl := hw.kl
  refine spec_of t_cost_structure (by simp) fun w0 I0 => ?_
  unfold c_cost_structure
  have k3 : ∀ (x y : Int) (H : Hp),H [0] = ⟨1,.cells (eL e)⟩→y = i64w x→x = (if e.words = [] then 0 else 2 + e.words.length * wideW 1 e.words)→WPC (cx Tryz.prog w0 I0 80) k3_cost_structure (RetC Tryz.prog [.tmp 2] (iv (i64w (structZ e)))) ⟨lk [(1,.pob [0] 1 0),(3,iv y)],H⟩ := fun x y H hH hy hx => by
    subst hy
    rw [k3_cost_structure.eq_1]
    by_cases h0 : e.kids = []
    · simp [hH,h0]
      refine frz_is rfl ?_
      simp [structZ,h0,hx]
    · have hpos : 0 < e.kids.length := List.length_pos_iff.2 h0
      have hlt : e.kids.length - 1 < e.kids.length := by omega
      have em : IntKind.i64.wrap ((e.kids.length : Int) - 1) = ((e.kids.length - 1 : Nat) : Int) := by rw [i64_same (by omega) (by omega)]; omega
      have hlast := lastAt_get hpos
      have hz : structZ e = x + (2 + e.kids.length * (if lastAt e.kids = 0 then 1 else 2)) + (if e.words = [] then 1 else 0) + nodeKs e.kids := by
        rw [hx]; simp [structZ,h0]; omega
      by_cases h1 : lastAt e.kids = 0
      · have h1' := h1
        rw [hlast] at h1'
        simp [hH,hpos,em,hlt,h1']
        refine struct_k2 hkl ih hH fun l H' => ?_
        simp [hz,h1]
        exact frz_bare rfl
      · have h1' := h1
        rw [hlast] at h1'
        simp [hH,hpos,em,hlt,h1']
        refine struct_k2 hkl ih hH fun l H' => ?_
        simp [hz,h1]
        exact frz_bare rfl
  by_cases h0 : e.words = []
  · simp [h0]
    exact k3 0 _ _ (by simp [h0]) (by decide) (by simp [h0])
  · have hpos : 0 < e.words.length := List.length_pos_iff.2 h0
    simp [hpos]
    refine struct_l1 hwl e.words.length 0 1 _ (by omega) rfl fun i' q H' hA => ?_
    simp [i64_add_r,i64_mul_r]
    exact k3 (2 + e.words.length * wideW 1 e.words) _ _ (by rw [hA]; simp) (by unfold i64w; rw [i64_i64]) (by simp [h0])
theorem node_spec : ∀ (e : E),wfE e→NodeS e := by
  refine E.ind fun k o n ws ks l os ihk iho hw => ?_
  have h := wfE_iff.1 hw
  have ihk' : ∀ x,x ∈ (E.mk k o n ws ks l os).kids→NodeS x.e := fun x hx => ihk x hx (h.ks x hx).2
  have iho' : ∀ x,x ∈ (E.mk k o n ws ks l os).ops→x.kind = 3→NodeS x.e := fun x hx _ => iho x hx (h.os x hx).e
  refine spec_of t_cost_node (by simp) fun w0 I0 => ?_
  unfold c_cost_node
  rw [nodeE_mk]
  by_cases h1 : k = 1
  · simp [h1]
    refine sc_call ((kids_spec h.o h.n).soft (by simp [A.softL,A.soft,soft_uv,soft_tKs])) rfl ?_
    simp [i64_add_r]
    exact frz_bare rfl
  by_cases h2 : k = 2
  · subst h2
    simp
    refine sc_call (struct_spec h ihk') rfl ?_
    simp [i64_add_r]
    exact frz_int (by by_cases hks : ks = [] <;> by_cases hws : ws = [] <;> by_cases hla : lastAt ks = 0 <;> simp [structZ,i64w,hks,hws,hla])
  by_cases h3 : k = 3
  · subst h3
    simp
    refine sc_call (list_spec h iho') rfl ?_
    simp [i64_add_r]
    exact frz_int (by simp [listZ,i64w])
  · simp [h1,h2,h3]
    exact frz_int (by decide)
theorem words39_spec {e : E} (h : wfE e) : G.Spec Tryz.prog 13 [eX e] (iv (i64w (1 + nodeE e))) := by
  refine spec_of t_cost_Words (by simp) fun w0 I0 => ?_
  unfold c_cost_Words
  simp
  refine sc_call (node_spec e h) rfl ?_
  simp [i64_add_r]
  exact frz_bare rfl
theorem wf_T039 : wfT T0 := wfT_iff.2 ⟨by simp [i64R],by simp,by simp,by simp,by simp⟩
theorem wf_E (k : Int) (h : i64R k) : wfE (.mk k T0 T0 [] [] 0 []) := wfE_iff.2 ⟨h,by simp [i64R],wf_T039,wf_T039,by simp,by simp,by simp,by simp,by simp,by simp⟩
theorem awake39_spec : G.Spec Tryz.prog 10 [] (bv true) := by
  have e0 : i64w (1 + nodeE (.mk 0 T0 T0 [] [] 0 [])) = 1 := by rw [nodeE_mk]; decide
  have e1 : i64w (1 + nodeE (.mk 1 T0 T0 [] [] 0 [])) = 2 := by rw [nodeE_mk]; simp [kids2,norm_mk,sizeP_mk]; decide
  refine spec_of t_centolaw39_awake (by simp) fun w0 I0 => ?_
  unfold c_centolaw39_awake
  simp
  refine sc_call ((words39_spec (wf_E 0 (by simp [i64R]))).soft (by simp [A.softL,A.soft])) rfl ?_
  rw [e0]
  simp
  refine sc_call_gt rfl (fun _ => (words39_spec (wf_E 1 (by simp [i64R]))).soft (by simp [A.softL,A.soft])) (fun _ => rfl) rfl ?_
  rw [e1]
  simp
  exact frz_bare rfl
end Go.Proofs.YtbjmaoedheiigaaGreat
namespace Go.Proofs.YtbjmaoedheiigaaGreat
set_option linter.unusedVariables false
set_option linter.unusedSimpArgs false
open Go Go.G Go.Proofs
structure Ar where
  l : List (Nat × List Int)
  u : Nat
  ur : Nat
  size : Int
  most : Int
  used : Int
def Ar.w (S : Ar) : List (List Int) := S.l.map Prod.snd
abbrev Ar.a (S : Ar) : A := arX S.w S.size S.most S.used
structure Ar.Ok (S : Ar) : Prop where
  used0 : 0≤S.used
  used1 : S.used≤S.most
  most1 : S.most≤131072
  size0 : 1≤S.size
  size1 : S.size < 9223372036854775808
  len : S.l.length≤16
  seg : ∀ e,e ∈ S.l→(e.2.length : Int)≤S.used
theorem Ar.Ok.szAt {S : Ar} (h : S.Ok) (s : Int) : 0≤(Go.Proofs.YtbjmaoedheiigaaGreat.szAt S.w s : Int)∧(Go.Proofs.YtbjmaoedheiigaaGreat.szAt S.w s : Int)≤S.used := by
  refine ⟨by omega,?_⟩
  unfold Go.Proofs.YtbjmaoedheiigaaGreat.szAt
  cases e : Go.Proofs.YtbjmaoedheiigaaGreat.seg S.w s with
  | none => exact h.used0
  | some g =>
    obtain ⟨_,_,h2,rfl⟩ := seg_some e
    simp only [Option.map_some,Option.getD_some]
    simp only [Ar.w,List.getElem_map]
    exact h.seg _ (List.getElem_mem _)
@[simp] theorem segS_len' {S : Ar} {k i : Nat} {f : Nat × List Int→Nat × List Int} : (S.l.modify k f).length = S.l.length := by simp
section
end
def wl (S : Ar) (k : Nat) : Nat := ((S.l[k]?).map fun e => e.2.length).getD 0
def Wd (S : Ar) : Prop := ∀ e,e ∈ S.l→∀ x,x ∈ e.2→u64R x
structure Gr (S S' : Ar) : Prop where
  ok : S'.Ok
  wd : Wd S'
  wl : ∀ k,Go.Proofs.YtbjmaoedheiigaaGreat.wl S k≤Go.Proofs.YtbjmaoedheiigaaGreat.wl S' k
theorem Gr.refl {S : Ar} (h : S.Ok) (w : Wd S) : Gr S S := ⟨h,w,fun _ => Nat.le_refl _⟩
theorem Gr.trans {S S' S2 : Ar} (h : Gr S S') (k : Gr S' S2) : Gr S S2 := ⟨k.ok,k.wd,fun i => Nat.le_trans (h.wl i) (k.wl i)⟩
end Go.Proofs.YtbjmaoedheiigaaGreat
namespace Go.Proofs.YtbjmaoedheiigaaGreat
set_option linter.unusedVariables false
set_option linter.unusedSimpArgs false
open Go Go.G Go.Proofs Go.PL
theorem laid_right : ∀ (t : T) (d : Nat),rightT d t = true→wfT t→t.kind ≠ 10→LayOk (norm t) := by
  refine T.ind fun k w ks ih d hr hw h10 => ?_
  have hst := rightT_struct hr
  have hwk := (wfT_iff.1 hw).ks
  simp at h10
  rw [rightT_mk] at hr
  rw [norm_mk]
  by_cases h0 : k = 0
  · rw [if_pos h0]; exact .null _
  rw [if_neg h0] at hr ⊢
  rw [if_neg h10] at hr
  have htb : tooBig k d w.length ks.length = false := by
    cases e : tooBig k d w.length ks.length with
    | false => rfl
    | true => rw [e] at hr; simp at hr
  simp [tooBig] at htb
  by_cases h1 : k = 1
  · rw [if_pos h1]
    have hb2 := trimW_le w
    have hb3 := trimK_le (ks.map norm)
    rw [List.length_map] at hb3
    refine .str _ _ (by omega) (by omega) fun t ht => ?_
    rw [trimK_map] at ht
    obtain ⟨u,hu,rfl⟩ := List.mem_map.1 (List.mem_of_mem_take ht)
    obtain ⟨g1,g2⟩ := hst u hu
    refine ih u hu _ g1 (hwk u hu) fun e => ?_
    subst h1
    simp [kidOk,isData,e] at g2
  rw [if_neg h1]
  by_cases h8 : k = 8
  · subst h8
    refine .ptrs _ _ (by simp; omega) fun t ht => ?_
    obtain ⟨u,hu,rfl⟩ := List.mem_map.1 ht
    obtain ⟨g1,g2⟩ := hst u hu
    refine ih u hu _ g1 (hwk u hu) fun e => ?_
    simp [kidOk,isData,e] at g2
  by_cases h9 : k = 9
  · subst h9
    have kk : ∀ u,u ∈ ks→u.kind = 1∧LayOk (norm u) := fun u hu => by
      obtain ⟨g1,g2⟩ := hst u hu
      have hk1 : u.kind = 1 := by
        simp [kidOk,isData] at g2
        exact g2.2
      exact ⟨hk1,ih u hu _ g1 (hwk u hu) (by omega)⟩
    have two : ∀ u,u ∈ ks→(norm u).words.length < 65536∧(norm u).kids.length < 65536∧∀ c,c ∈ (norm u).kids→LayOk c := fun u hu => by
      obtain ⟨e1,hL⟩ := kk u hu
      have hkn2 : (norm u).kind = 1 := by rw [norm_kind]; exact e1
      generalize norm u = x at hL hkn2
      cases hL with
      | str w ks b1 b2 h => exact ⟨b1,b2,h⟩
      | _ => simp at hkn2 <;> omega
    refine .comp _ _ (by simp; omega) (fun t ht => ?_) fun t ht c hc => ?_
    · obtain ⟨u,hu,rfl⟩ := List.mem_map.1 ht
      exact ⟨(two u hu).1,(two u hu).2.1⟩
    · obtain ⟨u,hu,rfl⟩ := List.mem_map.1 ht
      exact (two u hu).2.2 c hc
  refine .data _ _ _ (by omega) (by omega) (by simp; omega) fun c hc => ?_
  obtain ⟨u,hu,rfl⟩ := List.mem_map.1 hc
  obtain ⟨g1,g2⟩ := hst u hu
  have hd : isData k = true := by simp [isData]; omega
  have hwu := hwk u hu
  obtain ⟨k2,w2,l2⟩ := u
  simp [kidOk,hd] at g2
  obtain ⟨⟨e1,e2⟩,e3⟩ := g2
  have e1 : k2 = 10 := of_decide_eq_true e1
  subst e1
  rw [rightT_mk,if_neg (by decide),if_pos rfl] at g1
  simp at g1
  obtain ⟨x,hx⟩ := List.length_eq_one_iff.1 g1.1
  subst hx
  have hr := (wfT_iff.1 hwu).w x (by simp)
  refine ⟨x,by rw [norm_mk]; simp,hr.1,hr.2,by simpa using e3⟩
end Go.Proofs.YtbjmaoedheiigaaGreat
namespace Go.Proofs.YtbjmaoedheiigaaGreat
set_option linter.unusedVariables false
set_option linter.unusedSimpArgs false
open Go Go.G Go.Proofs
def right (p : Pt) : Bool :=
  if p.kind = 0 then decide (p = ⟨0,0,0,0,0,0,0,false⟩)
  else if p.kind = 1 then decide (-536870912≤p.off∧p.off < 536870912∧0≤p.data∧p.data < 65536∧0≤p.ptrs∧p.ptrs < 65536∧p = ⟨1,p.off,p.data,p.ptrs,0,0,0,false⟩∧(p.off ≠ 0∨p.data ≠ 0∨p.ptrs ≠ 0))
  else if p.kind = 2 then decide (-536870912≤p.off∧p.off < 536870912∧0≤p.code∧p.code < 8∧0≤p.count∧p.count < 536870912∧p = ⟨2,p.off,0,0,p.code,p.count,0,false⟩)
  else if p.kind = 3 then decide (0≤p.off∧p.off < 536870912∧0≤p.seg∧p.seg < 4294967296∧p = ⟨3,p.off,0,0,0,0,p.seg,p.dbl⟩)
  else false
theorem offs_of {o r : Int} (h1 : -536870912≤o) (h2 : o < 536870912) (h3 : 0≤r) (k : Int) (hk : 0≤k) (hk4 : k < 4) : offs (o * 4 % 4294967296 + k + r * 4294967296) = o := by
  unfold offs
  split <;> omega
theorem enc_right (p : Pt) : encB p = right p := by
  obtain ⟨k,o,d,q,co,n,s,b⟩ := p
  by_cases h1 : k = 1
  · subst h1
    by_cases hr : -536870912≤o∧o < 536870912∧0≤d∧d≤65535∧0≤q∧q≤65535
    · have e : encW ⟨1,o,d,q,co,n,s,b⟩ = o * 4 % 4294967296 + d * 4294967296 + q * 281474976710656 := by rw [encW,if_pos rfl,if_pos hr]
      obtain ⟨a1,a2,a3,a4,a5,a6⟩ := hr
      refine Bool.eq_iff_iff.2 ?_
      simp only [encB,e]
      by_cases hz : o = 0∧d = 0∧q = 0
      · obtain ⟨rfl,rfl,rfl⟩ := hz
        simp [dec,right]
      · have e2 : dec (o * 4 % 4294967296 + d * 4294967296 + q * 281474976710656) = ⟨1,o,d,q,0,0,0,false⟩ := by
          have eo := offs_of (r := d + q * 65536) a1 a2 (by omega) 0 (by omega) (by omega)
          rw [show o * 4 % 4294967296 + 0 + (d + q * 65536) * 4294967296 = o * 4 % 4294967296 + d * 4294967296 + q * 281474976710656 from by omega] at eo
          rw [dec,if_neg (by omega),if_pos (by omega),eo]
          congr 1 <;> omega
        rw [e2]
        cases b <;> simp [right] <;> omega
    · have e : encW ⟨1,o,d,q,co,n,s,b⟩ = 0 := by rw [encW,if_pos rfl,if_neg hr]
      refine Bool.eq_iff_iff.2 ?_
      simp [encB,e,dec,right]
      omega
  by_cases h2 : k = 2
  · subst h2
    by_cases hr : -536870912≤o∧o < 536870912∧0≤co∧co≤7∧0≤n∧n≤536870911
    · have e : encW ⟨2,o,d,q,co,n,s,b⟩ = o * 4 % 4294967296 + 1 + co * 4294967296 + n * 34359738368 := by rw [encW,if_neg (by simp),if_pos rfl,if_pos hr]
      obtain ⟨a1,a2,a3,a4,a5,a6⟩ := hr
      refine Bool.eq_iff_iff.2 ?_
      simp only [encB,e]
      have e2 : dec (o * 4 % 4294967296 + 1 + co * 4294967296 + n * 34359738368) = ⟨2,o,0,0,co,n,0,false⟩ := by
        have eo := offs_of (r := co + n * 8) a1 a2 (by omega) 1 (by omega) (by omega)
        rw [show o * 4 % 4294967296 + 1 + (co + n * 8) * 4294967296 = o * 4 % 4294967296 + 1 + co * 4294967296 + n * 34359738368 from by omega] at eo
        rw [dec,if_neg (by omega),if_neg (by omega),if_pos (by omega),eo]
        congr 1 <;> omega
      rw [e2]
      cases b <;> simp [right] <;> omega
    · have e : encW ⟨2,o,d,q,co,n,s,b⟩ = 0 := by rw [encW,if_neg (by simp),if_pos rfl,if_neg hr]
      refine Bool.eq_iff_iff.2 ?_
      simp [encB,e,dec,right]
      omega
  by_cases h3 : k = 3
  · subst h3
    by_cases hr : 0≤o∧o≤536870911∧0≤s∧s≤4294967295
    · have e : encW ⟨3,o,d,q,co,n,s,b⟩ = o * 8 + 2 + s * 4294967296 + (if b = true then 4 else 0) := by rw [encW,if_neg (by simp),if_neg (by simp),if_pos rfl,if_pos hr]
      obtain ⟨a1,a2,a3,a4⟩ := hr
      refine Bool.eq_iff_iff.2 ?_
      simp only [encB,e]
      have e2 : dec (o * 8 + 2 + s * 4294967296 + (if b = true then 4 else 0)) = ⟨3,o,0,0,0,0,s,b⟩ := by
        cases b with
        | true =>
          rw [if_pos rfl,dec,if_neg (by omega),if_neg (by omega),if_neg (by omega),if_pos (by omega)]
          congr 1 <;> first | omega | (simp; omega)
        | false =>
          rw [if_neg (by simp),dec,if_neg (by omega),if_neg (by omega),if_neg (by omega),if_pos (by omega)]
          congr 1 <;> first | omega | (simp; omega)
      rw [e2]
      simp [right]
      omega
    · have e : encW ⟨3,o,d,q,co,n,s,b⟩ = 0 := by rw [encW,if_neg (by simp),if_neg (by simp),if_pos rfl,if_neg hr]
      refine Bool.eq_iff_iff.2 ?_
      simp [encB,e,dec,right]
      omega
  have e : encW ⟨k,o,d,q,co,n,s,b⟩ = 0 := by rw [encW,if_neg h1,if_neg h2,if_neg h3]
  refine Bool.eq_iff_iff.2 ?_
  simp [encB,e,dec,right,h1,h2,h3]
  by_cases h0 : k = 0
  · cases b <;> simp [h0] <;> omega
  · simp [h0]
    intro hk
    omega
end Go.Proofs.YtbjmaoedheiigaaGreat
namespace Go.Proofs.YtbjmaoedheiigaaGreat
set_option linter.unusedVariables false
set_option linter.unusedSimpArgs false
open Go Go.G Go.Proofs Go.PL
section
variable {n0 : Nat} {w0 : World} {I0 : Nat→Prop} {Q : Exit→Sta→Prop}
theorem pPut_l1 {c : Int} {ns : List Int} (hn : ns.length≤1000000000) {w : Nat} (hw : w = 0∨w = 1∨w = 8∨w = 16∨w = 32∨w = 64) (hwc : widthZ c = w) (hfit : ∀ x,x ∈ ns→u64R x∧fitsZ c x = true) {m : Nat} (hm : w ≠ 0→m = (ns.length * w + 63) / 64)
    (hq : ∀ (q : Bool) (H' : Hp) (out : List Int),out = putL w ns 0 (List.replicate m 0)→H' [0] = ⟨1,.arr 1 (out.map uv)⟩→Q (.exit 0) ⟨lk [(0,iv c),(6,nv w),(8,.osl [0] 1 1 0 m),(23,uws ns),(24,nv ns.length),(25,nv ns.length),(26,bv q)],H'⟩) :
    ∀ (j i : Nat) (out : List Int) (H : Hp),i + j = ns.length→out.length = m→(w ≠ 0→PutI w i out)→putL w (ns.drop i) i out = putL w ns 0 (List.replicate m 0)→H [0] = ⟨1,.arr 1 (out.map uv)⟩ →
    LoopC (cx Tryz.prog w0 I0 n0) l1_word_Put Q ⟨lk [(0,iv c),(6,nv w),(8,.osl [0] 1 1 0 m),(23,uws ns),(24,nv ns.length),(25,nv i)],H⟩ := by
  have hw64 : w≤64 := by omega
  intro j
  induction j with
  | zero =>
    intro i out H hi hl hI hp hH
    have : i = ns.length := by omega
    subst this
    rw [List.drop_eq_nil_of_le (Nat.le_refl _),putL] at hp
    refine loopC_once mixed l1_word_Put.eq_1 ?_
    simp
    exact hq _ H out hp hH
  | succ j ih =>
    intro i out H hi hl hI hp hH
    have hlt : i < ns.length := by omega
    have ei : IntKind.i64.wrap ((i : Int) + 1) = ((i + 1 : Nat) : Int) := i64_same (by omega) (by omega)
    obtain ⟨f1,f2⟩ := hfit _ (List.getElem_mem hlt)
    have f1' := f1
    unfold u64R at f1'
    have hx2 := fits_lt hwc f1'.1 f2
    obtain ⟨e1,e2,e3⟩ := prod_mod (i := i) hw64 (by omega)
    rw [List.drop_eq_getElem_cons hlt,putL] at hp
    refine loopC_once mixed l1_word_Put.eq_1 ?_
    simp [hlt]
    refine sc_call (pFits_spec f1) (by simp) ?_
    simp [f2]
    by_cases h0 : w = 0
    · subst h0
      rw [if_pos rfl] at hp
      simp [ei]
      exact ih (i + 1) out H (by omega) hl (fun h => absurd rfl h) hp hH
    · rw [if_neg h0] at hp
      have hat : i * w / 64 < out.length := by rw [hl,hm h0]; exact put_at (by omega) hlt
      obtain ⟨p1,p2,p3,p4,p5⟩ := putI_step (hI h0) (by omega) f1'.1 hx2 hat
      have hw0 : (0 : Int) < w := by omega
      have hw0' : 0 < w := by omega
      have hg : out.getD (i * w / 64) 0 = out[i * w / 64] := by simp [hat]
      have hatm : i * w / 64 < m := by omega
      rw [hg] at p1 p2 p3 p5 hp
      have hnn := Int.mul_nonneg f1'.1 (show (0 : Int)≤2 ^ (i * w % 64) from Int.le_of_lt (Int.pow_pos (by decide)))
      have hs64 : i * w % 64 < 64 := Nat.mod_lt _ (by decide)
      have esh : IntKind.u64.wrap (ns[i] * 2 ^ min (i * w % 64) IntKind.u64.bits) = ns[i] * 2 ^ (i * w % 64) := by
        rw [show min (i * w % 64) IntKind.u64.bits = i * w % 64 from by simp [IntKind.bits]; omega]
        exact u64_same hnn p4
      have hor : bits .or .u64 out[i * w / 64] (ns[i] * 2 ^ (i * w % 64)) = out[i * w / 64] + ns[i] * 2 ^ (i * w % 64) :=
        u64_or' (i * w % 64) p2 p3 (by omega) hnn (Int.mul_emod_left _ _) p4
      have him : i * w≤1000000000 * 64 := Nat.mul_le_mul (by omega) hw64
      have eP : IntKind.i64.wrap ((i * w / 64 : Nat) : Int) = ((i * w / 64 : Nat) : Int) := i64_same (by omega) (by omega)
      have eS : IntKind.i64.wrap ((i * w % 64 : Nat) : Int) = ((i * w % 64 : Nat) : Int) := i64_same (by omega) (by omega)
      generalize i * w % 64 = s at *
      generalize i * w / 64 = P at *
      simp [hw0',e1,e2,e3,hH,hat,hatm,eP,eS,esh,hor,ei]
      refine ⟨?_,fun h => absurd h h0⟩
      refine ih (i + 1) (out.set P (out[P] + ns[i] * 2 ^ s)) _ (by omega) (by simpa using hl) (fun _ => p1) hp ?_
      simp [List.map_set]
end
theorem pPut_spec {c : Int} (c0 : 0≤c) (c6 : c < 6) {ns : List Int} (hn : ns.length≤1000000000) (hfit : ∀ x,x ∈ ns→u64R x∧fitsZ c x = true) : G.Spec Tryz.prog 129 [iv c,uws ns] (.tup [uws (putZ c ns),bv true]) := by
  obtain ⟨w,w1,w2,w3⟩ := width_cases c0 c6
  have hroom : roomZ c ns.length = (((ns.length * w + 63) / 64 : Nat) : Int) := by
    unfold roomZ
    rw [if_neg (by omega),w2]
    have e : (ns.length : Int) * w = ((ns.length * w : Nat) : Int) := by rw [Int.natCast_mul]
    rw [e]
    omega
  have hm : (roomZ c ns.length).toNat = (ns.length * w + 63) / 64 := by rw [hroom]; omega
  have hb : (ns.length * w + 63) / 64≤1000000001 := by
    have : ns.length * w≤1000000000 * 64 := Nat.mul_le_mul hn (by omega)
    omega
  refine spec_of t_word_Put (by simp) fun w0 I0 => ?_
  unfold c_word_Put
  simp
  refine sc_call (width_spec c) rfl ?_
  rw [w1]
  have hnn : ¬ (w : Int) < 0 := by omega
  simp [hnn]
  refine sc_call (room_spec' c ns.length) (by simp) ?_
  rw [hroom]
  generalize hM : (ns.length * w + 63) / 64 = m at *
  have hm8 : (m : Int) * 8≤140737488355328 := by omega
  have hz : putZ c ns = putL w ns 0 (List.replicate m 0) := by
    unfold putZ
    rw [w1,hm]
    simp
  rw [hz]
  simp [hm8]
  refine ⟨by omega,?_⟩
  refine pPut_l1 hn w3 w1 hfit (m := m) (fun _ => hM.symm) (fun q H' out ho hH => ?_) ns.length 0 (List.replicate m 0) _ (by omega) (by simp) (fun _ => PutI.start w m) (by simp) ?_
  rotate_left
  · simp
  subst ho
  simp
  refine frz_tup ?_
  simp
  exact ⟨frz_row (f := uv) (by rw [hH]; simp) (by simp [putL_length]) (fun x => by simp),frz_bare rfl⟩
def wrF (r : Nat) (S : Cp) : Nm→VOb
  | [] => ⟨1,.cells [.osl [r,0] S.v 1 0 S.W.length]⟩
  | [0] => ⟨S.v,.arr 1 (S.W.map uv)⟩
  | _ => ⟨0,.none⟩
@[simp] theorem wrF_nil {r : Nat} {S : Cp} : wrF r S [] = ⟨1,.cells [.osl [r,0] S.v 1 0 S.W.length]⟩ := rfl
@[simp] theorem wrF_0 {r : Nat} {S : Cp} : wrF r S [0] = ⟨S.v,.arr 1 (S.W.map uv)⟩ := rfl
theorem wrF_but {r : Nat} {S S' : Cp} {p : Nm} (h0 : p ≠ []) (h1 : p ≠ [0]) : wrF r S p = wrF r S' p := by
  match p,h0,h1 with
  | [],h,_ => exact absurd rfl h
  | [0],_,h => exact absurd rfl h
  | 0 :: a :: q,_,_ => rfl
  | (a + 1) :: q,_,_ => rfl
def wrM (S : Cp) : Fam := ⟨fun r => wrF r S,fun {g δ r r'} hg hd p => by
    match p with
    | [] => simp [VOb.ren,Ob.ren,A.renL,A.ren,hg,hd]
    | [0] => exact Fam.arr_ren (renL_uv _)
    | 0 :: a :: q => rfl
    | (a + 1) :: q => rfl,fun {D r} hD p => by
    match p with
    | [] => simp [Ob.refs,A.refsL,A.refs,hD]
    | [0] =>
      refine refsL_iff.2 fun x hx => ?_
      obtain ⟨c,_,rfl⟩ := List.mem_map.1 hx
      trivial
    | 0 :: a :: q => trivial
    | (a + 1) :: q => trivial⟩
@[simp] theorem wrM_F {S : Cp} {r : Nat} : (wrM S).F r = wrF r S := rfl
theorem wGive_spec (S : Cp) (hS : S.W.length≤131072) (n : Nat) (hn : n≤1000000) : SpecF Tryz.prog 77 (fun r => [.pob [r] 1 0,nv n]) (wrM S) (fun _ => nv S.W.length) (wrM ⟨S.v + 1,S.W ++ List.replicate n 0⟩) := by
  refine specF_of t_canon_writer_give (by simp) (famL_cons famA_pob (famL_cons famA_v famL_nil)) famA_v fun w0 I0 M0 m0 => ?_
  unfold c_canon_writer_give
  have hle : (S.W.length + n) * 8≤140737488355328 := by omega
  have hn1 : (n : Int) * 8≤140737488355328 := by omega
  simp [updF_app,hle,hn1]
  refine reth_fam rfl rfl fun p => ?_
  refine updF_is ?_ (fun h1 => updF_is ?_ (fun h2 => wrF_but h1 h2))
  · simp
  · simp [List.take_of_length_le]
theorem wpoint_k1 {n : Nat} {w0 : World} {I0 : Nat→Prop} {M0 : Nm→Nat→Prop} {m0 : Mu} {S : Cp} {q : Pt} {a : Nat} {t : A} (ha : a < S.W.length) {H : Hp} (hH : ∀ p,H (0 :: p) = wrF 0 S p) (hP : H [1] = ⟨1,.cells (ptL q)⟩) :
    WPC (cxh Tryz.prog w0 I0 M0 n m0) k1_canon_writer_point (RetH (cxh Tryz.prog w0 I0 M0 n m0) [.tmp 8] 1 (bv (encB q)) (ov 0 (wrF 0 ⟨S.v,S.W.set a (encW q)⟩) (lkH []))) ⟨lk [(0,.pob [0] 1 0),(1,nv a),(7,.pob [1] 1 0)],H⟩ := by
  unfold k1_canon_writer_point
  have ha' : (a : Int) < S.W.length := by omega
  simp [hP,hH]
  refine sc_call (Encode_spec q) (by simp) ?_
  simp [hH,ha]
  refine reth_famN rfl rfl fun p => ?_
  by_cases h0 : p = [0]
  · subst h0
    simp [updF_app,List.map_set]
  · by_cases h1 : p = []
    · subst h1
      simp [updF_app,hH]
    · simp only [updF_app]
      rw [if_neg (by simpa using h0),hH]
      exact wrF_but h1 h0
theorem wPoint_spec (S : Cp) {a : Nat} (ha : a < S.W.length) (ha2 : a≤200000) {to : Int} (t0 : 0≤to) (t1 : to≤200000) (p : Pt) (d0 : 0≤p.data) (d1 : p.data≤200000) (k0 : 0≤p.ptrs) (k1 : p.ptrs≤200000) :
    SpecF Tryz.prog 125 (fun r => [.pob [r] 1 0,nv a,iv to,p.a]) (wrM S) (fun _ => bv (encB (ptQ p a to))) (wrM ⟨S.v,S.W.set a (encW (ptQ p a to))⟩) := by
  refine specF_of t_canon_writer_point (by simp) (famL_cons famA_pob (famL_cons famA_v (famL_cons famA_v (famL_cons (famA_agg (FamL.all fun x hx => ?_)) famL_nil)))) famA_v fun w0 I0 M0 m0 => ?_
  · simp at hx
    rcases hx with rfl | rfl | rfl | rfl | rfl | rfl | rfl | rfl <;> simp
  unfold c_canon_writer_point
  have e1 : IntKind.i64.wrap (to - (a : Int)) = to - a := i64_same (by omega) (by omega)
  have e2 : IntKind.i64.wrap (to - (a : Int) - 1) = to - a - 1 := i64_same (by omega) (by omega)
  have e3 : IntKind.i64.wrap (p.data + p.ptrs) = p.data + p.ptrs := i64_same (by omega) (by omega)
  obtain ⟨kind,off,data,ptrs,code,count,sg,dbl⟩ := p
  simp only at d0 d1 k0 k1 e3
  by_cases h1 : kind = 1
  · subst h1
    by_cases h2 : data + ptrs = 0
    · have hq : ptQ ⟨1,off,data,ptrs,code,count,sg,dbl⟩ a to = ⟨1,-1,data,ptrs,code,count,sg,dbl⟩ := by simp [ptQ,h2]
      rw [h2] at e3
      simp [e1,e2,e3,h2,updF_app,Pt.a]
      rw [hq]
      exact wpoint_k1 (t := .any) ha (fun p => by simp) (by simp)
    · have hq : ptQ ⟨1,off,data,ptrs,code,count,sg,dbl⟩ a to = ⟨1,to - a - 1,data,ptrs,code,count,sg,dbl⟩ := by simp [ptQ,h2]
      simp [e1,e2,e3,h2,updF_app,Pt.a]
      rw [hq]
      exact wpoint_k1 (t := .any) ha (fun p => by simp) (by simp)
  · have hq : ptQ ⟨kind,off,data,ptrs,code,count,sg,dbl⟩ a to = ⟨kind,to - a - 1,data,ptrs,code,count,sg,dbl⟩ := by simp [ptQ,h1]
    simp [e1,e2,e3,h1,updF_app,Pt.a]
    rw [hq]
    exact wpoint_k1 (t := .any) ha (fun p => by simp) (by simp)
theorem encB_str {at_ to w k : Int} (h0 : 0≤at_) (h1 : at_≤200000) (h2 : 0≤to) (h3 : to≤200000) (hlt : at_ < to) (w0 : 0≤w) (w1 : w < 65536) (k0 : 0≤k) (k1 : k < 65536) : encB (ptQ ⟨1,0,w,k,0,0,0,false⟩ at_ to) = true := by
  rw [enc_right]
  by_cases hz : w + k = 0
  · have e : ptQ ⟨1,0,w,k,0,0,0,false⟩ at_ to = ⟨1,-1,w,k,0,0,0,false⟩ := by simp [ptQ,hz]
    rw [e]
    simp [right]
    omega
  · have e : ptQ ⟨1,0,w,k,0,0,0,false⟩ at_ to = ⟨1,to - at_ - 1,w,k,0,0,0,false⟩ := by simp [ptQ,hz]
    rw [e]
    simp [right]
    omega
theorem encB_list {at_ to c n : Int} (h0 : 0≤at_) (h1 : at_≤200000) (h2 : 0≤to) (h3 : to≤200000) (c0 : 0≤c) (c1 : c≤7) (n0 : 0≤n) (n1 : n < 536870912) : encB (ptQ ⟨2,0,0,0,c,n,0,false⟩ at_ to) = true := by
  rw [enc_right]
  have e : ptQ ⟨2,0,0,0,c,n,0,false⟩ at_ to = ⟨2,to - at_ - 1,0,0,c,n,0,false⟩ := by simp [ptQ]
  rw [e]
  simp [right]
  omega
@[simp] theorem elems_sl {H : Hp} {s : Nat} {f : Bool} {xs : List A} : elemsA H s (.sl f xs) = if lens s xs = true then some xs else none := rfl
theorem setW_eq : ∀ (ws : List Int) (b : Nat) (l : List Int),b + ws.length≤l.length→setW b ws l = l.take b ++ ws ++ l.drop (b + ws.length)
  | [],b,l,h => by simp [setW]
  | x :: ws,b,l,h => by
    simp only [List.length_cons] at h
    rw [setW,setW_eq ws (b + 1) _ (by simp; omega)]
    have e1 : (l.set b x).take (b + 1) = l.take b ++ [x] := by
      rw [List.take_succ_eq_append_getElem (by simp; omega),List.getElem_set_self,List.take_set_of_le (Nat.le_refl _)]
    have e2 : (l.set b x).drop (b + 1 + ws.length) = l.drop (b + (ws.length + 1)) := by
      rw [List.drop_set_of_lt (by omega)]
      congr 1
      omega
    rw [e1,e2]
    simp
theorem famA_tXw (t : T) : FamA (fun _ => tX t) := famA_bare rfl fun y hy => by
  simp at hy
  rcases hy with rfl | rfl | rfl <;> rfl
theorem faW (t : T) (a : Nat) : FamL (fun r => [.pob [r] 1 0,nv a,tX t]) := famL_cons famA_pob (famL_cons famA_v (famL_cons (famA_tXw t) famL_nil))
theorem faW2 (t : T) (a w : Nat) : FamL (fun r => [.pob [r] 1 0,nv a,nv w,tX t]) := famL_cons famA_pob (famL_cons famA_v (famL_cons famA_v (famL_cons (famA_tXw t) famL_nil)))
def WVS (t : T) : Prop := LayOk t→∀ (S : Cp) (a : Nat),a < S.W.length→(S.W.length : Int) + sizeT t≤131072 →
  ∃ v' : Nat,SpecF Tryz.prog 76 (fun q => [.pob [q] 1 0,nv a,tX t]) (wrM S) (fun _ => bv true) (wrM ⟨v',layT t a S.W⟩)
def WKS (t : T) : Prop := (∀ u,u ∈ t.kids→LayOk u)→∀ (S : Cp) (a : Nat),a + t.kids.length≤S.W.length→(S.W.length : Int) + sizeL t.kids≤131072 →
  ∃ v' : Nat,SpecF Tryz.prog 128 (fun q => [.pob [q] 1 0,nv a,tX t]) (wrM S) (fun _ => bv true) (wrM ⟨v',layL t.kids a S.W⟩)
def WFS (t : T) : Prop := (∀ u,u ∈ t.kids→LayOk u)→∀ (S : Cp) (a w : Nat),t.words.length≤w→w≤131072→a + w + t.kids.length≤S.W.length→(S.W.length : Int) + sizeL t.kids≤131072 →
  ∃ v' : Nat,SpecF Tryz.prog 126 (fun q => [.pob [q] 1 0,nv a,nv w,tX t]) (wrM S) (fun _ => bv true) (wrM ⟨v',layL t.kids (a + w) (setW a t.words S.W)⟩)
theorem layT_le (t : T) (a : Nat) (l : List Int) : l.length≤(layT t a l).length := (lay_ls t).1.2 a l
theorem wkids_l1 {t : T} {a : Nat} (hk : t.kids.length≤200000) (ih : ∀ c,c ∈ t.kids→WVS c) (hlay : ∀ u,u ∈ t.kids→LayOk u) : ∀ (j i : Nat) (S : Cp),i + j = t.kids.length→a + t.kids.length≤S.W.length→(S.W.length : Int) + sizeL (t.kids.drop i)≤131072 →
    ∃ v' : Nat,∀ {n0 : Nat} {w0 : World} {I0 : Nat→Prop} {M0 : Nm→Nat→Prop} {m0 : Mu} {Q : Exit→Sta→Prop} (H : Hp),(∀ p,H (0 :: p) = wrF 0 S p) →
      (∀ q H',(∀ p,H' (0 :: p) = wrF 0 ⟨v',layL (t.kids.drop i) (a + i) S.W⟩ p)→Q (.exit 0) ⟨lk [(0,.pob [0] 1 0),(1,nv a),(10,tKs t.kids),(11,nv t.kids.length),(12,nv t.kids.length),(13,bv q)],H'⟩) →
      LoopC (cxh Tryz.prog w0 I0 M0 n0 m0) l1_canon_writer_kids Q ⟨lk [(0,.pob [0] 1 0),(1,nv a),(10,tKs t.kids),(11,nv t.kids.length),(12,nv i)],H⟩ := by
  intro j
  induction j with
  | zero =>
    intro i S hi ha hS
    have : i = t.kids.length := by omega
    subst this
    have hd : t.kids.drop t.kids.length = [] := List.drop_eq_nil_of_le (Nat.le_refl _)
    refine ⟨S.v,fun H hH hq => ?_⟩
    rw [hd] at hq
    refine loopC_once mixed l1_canon_writer_kids.eq_1 ?_
    simp
    exact hq _ H (by simpa using hH)
  | succ j ihj =>
    intro i S hi ha hS
    have hlt : i < t.kids.length := by omega
    have hdr : t.kids.drop i = t.kids[i] :: t.kids.drop (i + 1) := List.drop_eq_getElem_cons hlt
    have hm := List.getElem_mem hlt
    have hle := layT_le t.kids[i] (a + i) S.W
    have hlen := (lay_len _).1 (hlay _ hm) (a + i) S.W
    have hrest := sizeL_nonneg (ts := t.kids.drop (i + 1)) fun u hu => hlay u (List.mem_of_mem_drop hu)
    rw [hdr] at hS ⊢
    simp only [sizeL_cons,layL_cons] at hS ⊢
    obtain ⟨v1,q4⟩ := ih _ hm (hlay _ hm) S (a + i) (by omega) (by omega)
    obtain ⟨v2,p4⟩ := ihj (i + 1) ⟨v1,layT t.kids[i] (a + i) S.W⟩ (by omega) (by simp only; omega) (by simp only; omega)
    have hn0 := (size_nonneg t.kids[i]).1 (hlay _ hm)
    have ei : IntKind.i64.wrap ((i : Int) + 1) = ((i + 1 : Nat) : Int) := i64_same (by omega) (by omega)
    have ea : IntKind.i64.wrap ((a : Int) + i) = ((a + i : Nat) : Int) := i64_same (by omega) (by omega)
    refine ⟨v2,fun H hH hq => ?_⟩
    refine loopC_once mixed l1_canon_writer_kids.eq_1 ?_
    simp [hlt,ea,updF_app]
    refine sc_fam 0 q4 (fun p => by simp [updF_app,hH]) (by simp) (by simp) ?_
    simp [ei]
    exact p4 _ (fun p => by simp) hq
theorem wKids_spec {t : T} (ih : ∀ c,c ∈ t.kids→WVS c) : WKS t := fun hlay S a ha hS => by
  have hn := sizeL_nonneg hlay
  obtain ⟨v',q4⟩ := wkids_l1 (t := t) (a := a) (by omega) ih hlay t.kids.length 0 S (by omega) ha (by simpa using hS)
  refine ⟨v',specF_of t_canon_writer_kids (by simp) (faW t a) famA_v fun w0 I0 M0 m0 => ?_⟩
  unfold c_canon_writer_kids
  simp
  refine q4 _ (fun p => by simp) (fun q H' hH => ?_)
  simp
  exact reth_fam rfl rfl (by simpa using hH)
theorem wStruct_spec {t : T} (ih : ∀ c,c ∈ t.kids→WVS c) : WFS t := fun hlay S a w hw hw2 ha hS => by
  obtain ⟨v',q4⟩ := wKids_spec ih hlay ⟨S.v,setW a t.words S.W⟩ (a + w) (by simpa using ha) (by simpa using hS)
  have hn := sizeL_nonneg hlay
  refine ⟨v',specF_of t_canon_writer_structure (by simp) (faW2 t a w) famA_v fun w0 I0 M0 m0 => ?_⟩
  have ew : IntKind.i64.wrap ((a : Int) + w) = ((a + w : Nat) : Int) := i64_same (by omega) (by omega)
  have ha1 : a≤S.W.length := by omega
  have ha2 : (a : Int)≤S.W.length := by omega
  have hmin : min t.words.length (S.W.length - a) = t.words.length := by omega
  have hfit : a + (S.W.length - a)≤S.W.length := by omega
  unfold c_canon_writer_structure
  simp [ha1,ha2,hmin,hfit,ew]
  refine sc_fam 0 q4 (fun p => ?_) (by simp) (by simp) ?_
  · simp only [ov_cons,if_true,wrM_F]
    refine updF_is ?_ (fun h1 => ?_)
    · have e : List.take t.words.length (t.words.map uv) = t.words.map uv := List.take_of_length_le (by simp)
      simp [setW_eq _ _ _ (show a + t.words.length≤S.W.length by omega),List.map_take,List.map_drop,e]
    · by_cases h0 : p = []
      · subst h0; simp
      · exact wrF_but h0 h1
  simp
  exact reth_fam rfl rfl (by simp)
theorem tag_ok (n w k : Nat) (hn : n < 536870912) (hw : w < 65536) (hk : k < 65536) : encB ⟨1,n,w,k,0,0,0,false⟩ = !decide ((n : Int) + ((w : Int) + k) = 0) := by
  rw [enc_right]
  by_cases hz : n + (w + k) = 0
  · obtain rfl : n = 0 := by omega
    obtain rfl : w = 0 := by omega
    obtain rfl : k = 0 := by omega
    simp [right]
  · have h1 : ¬ ((n : Int) + ((w : Int) + k) = 0) := by omega
    have h2 : (n : Int) ≠ 0∨(w : Int) ≠ 0∨(k : Int) ≠ 0 := by omega
    unfold right
    rw [if_neg (by simp),if_pos rfl]
    simp only [h1,decide_false,Bool.not_false]
    exact decide_eq_true ⟨by omega,by omega,by omega,by omega,by omega,by omega,trivial,h2⟩
theorem wcomp_l1 {t : T} (hk : t.kids.length≤536870912) (ih : ∀ c,c ∈ t.kids→WFS c) (hlay : ∀ c,c ∈ t.kids→∀ u,u ∈ c.kids→LayOk u) {w long to : Nat} {x : A} {v1 : VOb} (hw : ∀ c,c ∈ t.kids→c.words.length≤w∧w + c.kids.length≤long) (hw2 : w≤65536) : ∀ (j i : Nat) (S : Cp),i + j = t.kids.length→to + 1 + t.kids.length * long≤S.W.length→(S.W.length : Int) + sizeLL (t.kids.drop i)≤131072 →
    ∃ v' : Nat,∀ {n0 : Nat} {w0 : World} {I0 : Nat→Prop} {M0 : Nm→Nat→Prop} {m0 : Mu} {Q : Exit→Sta→Prop} (H : Hp),(∀ p,H (0 :: p) = wrF 0 S p)→H [1] = v1 →
      (∀ q H',(∀ p,H' (0 :: p) = wrF 0 ⟨v',cpC w long (t.kids.drop i) (to + 1 + i * long) S.W⟩ p)→H' [1] = v1→Q (.exit 0) ⟨lk [(0,.pob [0] 1 0),(5,.pob [1] 1 0),(7,nv w),(9,nv long),(11,x),(12,nv to),(62,tKs t.kids),(63,nv t.kids.length),(64,nv t.kids.length),(65,bv q)],H'⟩) →
      LoopC (cxh Tryz.prog w0 I0 M0 n0 m0) l1_canon_writer_composite Q ⟨lk [(0,.pob [0] 1 0),(5,.pob [1] 1 0),(7,nv w),(9,nv long),(11,x),(12,nv to),(62,tKs t.kids),(63,nv t.kids.length),(64,nv i)],H⟩ := by
  intro j
  induction j with
  | zero =>
    intro i S hi ha hS
    have : i = t.kids.length := by omega
    subst this
    have hd : t.kids.drop t.kids.length = [] := List.drop_eq_nil_of_le (Nat.le_refl _)
    refine ⟨S.v,fun H hH h1 hq => ?_⟩
    rw [hd] at hq
    refine loopC_once mixed l1_canon_writer_composite.eq_1 ?_
    simp
    exact hq _ H (by simpa [cpC] using hH) h1
  | succ j ihj =>
    intro i S hi ha hS
    have hlt : i < t.kids.length := by omega
    have hdr : t.kids.drop i = t.kids[i] :: t.kids.drop (i + 1) := List.drop_eq_getElem_cons hlt
    have hm := List.getElem_mem hlt
    have hil : (i + 1) * long≤t.kids.length * long := Nat.mul_le_mul_right _ (by omega)
    rw [Nat.add_mul,Nat.one_mul] at hil
    obtain ⟨w1,w2⟩ := hw _ hm
    have hlen := layL_len (hlay _ hm) (to + 1 + i * long + w) (setW (to + 1 + i * long) t.kids[i].words S.W)
    rw [setW_length] at hlen
    have hrest : 0≤sizeLL (t.kids.drop (i + 1)) := sizeLL_nonneg fun u hu => hlay u (List.mem_of_mem_drop hu)
    have hk0 := sizeL_nonneg (hlay _ hm)
    rw [hdr] at hS ⊢
    simp only [sizeLL_cons,cpC] at hS ⊢
    obtain ⟨v1',q4⟩ := ih _ hm (hlay _ hm) S (to + 1 + i * long) w w1 (by omega) (by omega) (by omega)
    obtain ⟨v2,p4⟩ := ihj (i + 1) ⟨v1',layL t.kids[i].kids (to + 1 + i * long + w) (setW (to + 1 + i * long) t.kids[i].words S.W)⟩ (by omega) (by simp only; omega) (by simp only; omega)
    rw [show to + 1 + (i + 1) * long = to + 1 + i * long + long from by rw [Nat.add_mul,Nat.one_mul]; omega] at p4
    have ei : IntKind.i64.wrap ((i : Int) + 1) = ((i + 1 : Nat) : Int) := i64_same (by omega) (by omega)
    have em : IntKind.i64.wrap ((i : Int) * long) = ((i * long : Nat) : Int) := by
      rw [Int.natCast_mul]
      have : (i : Int) * long = ((i * long : Nat) : Int) := by rw [Int.natCast_mul]
      exact i64_same (by omega) (by omega)
    have et : IntKind.i64.wrap ((to : Int) + 1) = ((to + 1 : Nat) : Int) := i64_same (by omega) (by omega)
    have ea : IntKind.i64.wrap ((to : Int) + 1 + (i : Int) * long) = (to : Int) + 1 + (i : Int) * long := by
      have : (i : Int) * long = ((i * long : Nat) : Int) := by rw [Int.natCast_mul]
      exact i64_same (by omega) (by omega)
    refine ⟨v2,fun H hH h1 hq => ?_⟩
    refine loopC_once mixed l1_canon_writer_composite.eq_1 ?_
    simp [hlt,em,et,ea,updF_app]
    refine sc_fam 0 q4 (fun p => by simp [updF_app,hH]) (by simp) (by simp) ?_
    simp [ei]
    exact p4 _ (fun p => by simp) (by simp [updF_app,h1]) hq
theorem wComp_spec {t : T} (hk : t.kind = 9) (hok : LayOk t) (ih : ∀ c,c ∈ t.kids→WFS c) (S : Cp) (a : Nat) (ha : a < S.W.length) (hS : (S.W.length : Int) + sizeT t≤131072) :
    ∃ v' : Nat,SpecF Tryz.prog 127 (fun q => [.pob [q] 1 0,nv a,tX t]) (wrM S) (fun _ => bv true) (wrM ⟨v',layT t a S.W⟩) := by
  obtain ⟨k,ws,ks⟩ := t
  simp at hk
  subst hk
  simp only [T.kids_mk] at ih
  cases hok with
  | data k w ks h1 h2 => exact absurd h2 (by decide)
  | comp w ks hn hsz hlay =>
    have hbound := frame_bound (ts := ks) (w := 65535) (k := 65535) fun u hu => by have := hsz u hu; omega
    have hcond : ∀ c,c ∈ ks→c.words.length≤frameW ks∧frameW ks + c.kids.length≤frameW ks + frameK ks := fun c hc => by
      have h1 := frameW_le hc
      have h2 := frameK_le hc
      omega
    have hcond2 : ∀ c,c ∈ ks→c.words.length≤frameW ks∧c.kids.length≤frameK ks := fun c hc => ⟨frameW_le hc,frameK_le hc⟩
    have hLL : 0≤sizeLL ks := sizeLL_nonneg hlay
    have hfr := tFrame_spec (.mk 9 ws ks) (by simp; omega)
    simp only [T.kids_mk] at hfr
    have eT : sizeT (.mk 9 ws ks) = 1 + ks.length * ((frameW ks : Int) + frameK ks) + sizeLL ks := by
      rw [sizeT_mk]
      simp
    have hlay9 : ∀ W,layT (.mk 9 ws ks) a W = layC (frameW ks) (frameK ks) ks (W.length + 1) (W.set a (ptrZ a W.length 1 (7 + 8 * (ks.length * (frameW ks + frameK ks) : Nat))) ++ [4 * (ks.length : Int) + 4294967296 * ((frameW ks : Int) + 65536 * frameK ks)] ++ rowsC (frameW ks) (frameK ks) ks) := fun W => by
      rw [layT_mk,if_neg (by decide),if_neg (by decide),if_neg (by decide),if_pos rfl]
    have hl1 := fun x v1 => wcomp_l1 (t := .mk 9 ws ks) (by simp; omega) ih hlay (w := frameW ks) (long := frameW ks + frameK ks) (to := S.W.length) (x := x) (v1 := v1) hcond (by omega) ks.length 0
    have hc2 := cpC_eq (w := frameW ks) (k := frameK ks) ks
    have hf2 := fillC_app (w := frameW ks) (k := frameK ks) ks
    rw [eT] at hS
    simp only [hlay9]
    clear hlay9 eT hcond
    generalize frameW ks = w at *
    generalize frameK ks = k at *
    have hnl : ks.length * (w + k)≤536870912 * 131070 := Nat.mul_le_mul (by omega) (by omega)
    have hcast : (ks.length : Int) * ((w : Int) + k) = ((ks.length * (w + k) : Nat) : Int) := by rw [Int.natCast_mul,Int.natCast_add]
    rw [hcast] at hS
    have hzero : ks.length + (w + k) = 0→ks.length * (w + k) = 0 := fun h => by rw [show ks.length = 0 from by omega]; simp
    generalize hL : ks.length * (w + k) = L at *
    have e1 : IntKind.i64.wrap ((w : Int) + k) = (w : Int) + k := i64_same (by omega) (by omega)
    have e2 : IntKind.i64.wrap ((ks.length : Int) * ((w : Int) + k)) = (L : Int) := by rw [hcast]; exact i64_same (by omega) (by omega)
    have e3 : IntKind.i64.wrap (1 + (L : Int)) = ((1 + L : Nat) : Int) := (i64_same (by omega) (by omega)).trans (by omega)
    have e4 : IntKind.i64.wrap ((ks.length : Int) + ((w : Int) + k)) = (ks.length : Int) + ((w : Int) + k) := i64_same (by omega) (by omega)
    have hG := wGive_spec S (by omega) (1 + L) (by omega)
    have hE := Encode_spec ⟨1,ks.length,w,k,0,0,0,false⟩
    have htag : encW ⟨1,ks.length,w,k,0,0,0,false⟩ = 4 * (ks.length : Int) + 4294967296 * ((w : Int) + 65536 * k) := by
      unfold encW
      simp only
      rw [if_pos trivial,if_pos (by omega)]
      omega
    have hB := tag_ok ks.length w k hn (by omega) (by omega)
    rw [htag,hB] at hE
    have hP := wPoint_spec ⟨S.v + 1,(S.W ++ List.replicate (1 + L) 0).set S.W.length (4 * (ks.length : Int) + 4294967296 * ((w : Int) + 65536 * k))⟩ (a := a) (by simp; omega) (by omega) (to := (S.W.length : Int)) (by omega) (by omega) ⟨2,0,0,0,7,L,0,false⟩ (by simp) (by simp) (by simp) (by simp)
    rw [enc_list (by omega) (by omega) (by omega) (by omega) (by omega) (by omega) (by omega) (by omega),encB_list (by omega) (by omega) (by omega) (by omega) (by omega) (by omega) (by omega) (by omega)] at hP
    have hW3 : ((S.W ++ List.replicate (1 + L) 0).set S.W.length (4 * (ks.length : Int) + 4294967296 * ((w : Int) + 65536 * k))).set a (ptrZ a S.W.length 1 (7 + 8 * (L : Int))) = (S.W.set a (ptrZ a S.W.length 1 (7 + 8 * (L : Int))) ++ [4 * (ks.length : Int) + 4294967296 * ((w : Int) + 65536 * k)]) ++ List.replicate L 0 := by
      rw [List.set_append_right _ _ (Nat.le_refl _),Nat.sub_self,Nat.add_comm 1 L,List.replicate_succ,List.set_cons_zero,List.set_append_left _ _ ha]
      simp
    simp only at hP
    rw [hW3] at hP
    generalize hTg : 4 * (ks.length : Int) + 4294967296 * ((w : Int) + 65536 * k) = Tg at *
    have hTz : (ks.length : Int) + ((w : Int) + k) = 0→Tg = 0 := fun h => by omega
    obtain ⟨v',q4⟩ := hl1 (bv (!decide ((ks.length : Int) + ((w : Int) + k) = 0))) ⟨1,.cells (tL (.mk 9 ws ks))⟩ ⟨S.v + 1,(S.W.set a (ptrZ a S.W.length 1 (7 + 8 * (L : Int))) ++ [Tg]) ++ List.replicate L 0⟩ (by simp) (by simp; omega) (by simp; omega)
    simp only [List.drop_zero,Nat.zero_mul,Nat.add_zero,T.kids_mk] at q4
    refine ⟨v',?_⟩
    have hWe : cpC w (w + k) ks (S.W.length + 1) ((S.W.set a (ptrZ a S.W.length 1 (7 + 8 * (L : Int))) ++ [Tg]) ++ List.replicate L 0) = layC w k ks (S.W.length + 1) (S.W.set a (ptrZ a S.W.length 1 (7 + 8 * (L : Int))) ++ [Tg] ++ rowsC w k ks) := by
      rw [hc2 _ _ hcond2 (by simp [hL]; omega)]
      have := hf2 (S.W.set a (ptrZ a S.W.length 1 (7 + 8 * (L : Int))) ++ [Tg]) (fun u hu => by have := (hcond2 u hu).1; omega)
      simp only [List.length_append,List.length_set,List.length_singleton,hL] at this
      rw [this]
    rw [hWe] at q4
    refine specF_of t_canon_writer_composite (by simp) (faW _ a) famA_v fun w0 I0 M0 m0 => ?_
    unfold c_canon_writer_composite
    simp
    refine sc_call hfr (by simp) ?_
    simp [e1]
    refine sc_call hE (by simp) ?_
    have fin : ∀ H : Hp,(∀ p,H (0 :: p) = wrF 0 S p)→H [1] = ⟨1,.cells (tL (.mk 9 ws ks))⟩→WPC (cxh Tryz.prog w0 I0 M0 90 m0) k1_canon_writer_composite (RetH (cxh Tryz.prog w0 I0 M0 90 m0) [.tmp 6] 1 (bv true) (ov 0 (wrF 0 ⟨v',layC w k ks (S.W.length + 1) (S.W.set a (ptrZ a S.W.length 1 (7 + 8 * (L : Int))) ++ [Tg] ++ rowsC w k ks)⟩) (lkH [])))
        ⟨lk [(0,.pob [0] 1 0),(1,nv a),(5,.pob [1] 1 0),(7,nv w),(9,nv (w + k)),(10,uv Tg),(11,bv (!decide ((ks.length : Int) + ((w : Int) + k) = 0)))],H⟩ := fun H hH h1 => by
      unfold k1_canon_writer_composite
      have hlt1 : (S.W.length : Int) < S.W.length + (1 + (L : Int)) := by omega
      have hget : (List.map uv S.W ++ List.replicate (1 + L) (uv 0))[S.W.length]? = some (uv 0) := by
        rw [List.getElem?_append_right (by simp),Nat.add_comm 1 L,List.replicate_succ]
        simp
      simp [h1,e2,e3]
      refine sc_fam 0 hG (fun p => by simp [hH]) (by simp) (by simp) ?_
      simp [updF_app,hlt1,hget,h1,e2]
      refine sc_fam 0 hP (fun p => ?_) (by simp) (by simp) ?_
      · simp only [ov_cons,if_true,wrM_F]
        refine updF_is ?_ (fun h1 => ?_)
        · simp [List.map_set]
        · by_cases h0 : p = []
          · subst h0; simp
          · exact wrF_but h0 h1
      simp [h1,updF_app]
      refine q4 _ (fun p => by simp) (by simp [updF_app,h1]) (fun q H' hH' h1' => ?_)
      simp [h1',e4]
      exact reth_fam rfl rfl (by simpa using hH')
    by_cases hz : (ks.length : Int) + ((w : Int) + k) = 0
    · have hT0 := hTz hz
      subst hT0
      simp [hz]
      have := fin (ov 0 (wrF 0 S) (lkH [([1],⟨1,.cells (tL (.mk 9 ws ks))⟩)])) (fun p => by simp) (by simp)
      simp [hz] at this
      exact this
    · simp [hz]
      have := fin (ov 0 (wrF 0 S) (lkH [([1],⟨1,.cells (tL (.mk 9 ws ks))⟩)])) (fun p => by simp) (by simp)
      simp [hz] at this
      exact this
section
variable {n0 : Nat} {w0 : World} {I0 : Nat→Prop} {M0 : Nm→Nat→Prop} {m0 : Mu} {Q : Exit→Sta→Prop}
theorem wtree_l1 {t : T} {a : Nat} {c : A} {v0 : Nm→VOb} {v1 : VOb} (hl : t.kids.length≤536870912) (hw : ∀ c,c ∈ t.kids→∃ x,c.words = [x]) : ∀ (m i u : Nat) (H : Hp),i + m = t.kids.length→(∀ p,H (0 :: p) = v0 p)→H [1] = v1→H [3] = ⟨u,.arr 1 ((t.kids.take i).map (uv ∘ hd))⟩ →
    (∀ q u' H',(∀ p,H' (0 :: p) = v0 p)→H' [1] = v1→H' [3] = ⟨u',.arr 1 (t.kids.map (uv ∘ hd))⟩→Q (.exit 1) ⟨lk [(0,.pob [0] 1 0),(1,nv a),(5,.pob [1] 1 0),(9,c),(10,.osl [3] u' 1 0 t.kids.length),(88,tKs t.kids),(89,nv t.kids.length),(90,nv t.kids.length),(91,bv q)],H'⟩) →
    LoopC (cxh Tryz.prog w0 I0 M0 n0 m0) l1_canon_writer_tree Q ⟨lk [(0,.pob [0] 1 0),(1,nv a),(5,.pob [1] 1 0),(9,c),(10,.osl [3] u 1 0 i),(88,tKs t.kids),(89,nv t.kids.length),(90,nv i)],H⟩ := by
  intro m
  induction m with
  | zero =>
    intro i u H hi h0 h1 h3 hq
    have : i = t.kids.length := by omega
    subst this
    refine loopC_once mixed l1_canon_writer_tree.eq_1 ?_
    simp
    exact hq _ u H h0 h1 (by rw [h3]; simp)
  | succ m ihm =>
    intro i u H hi h0 h1 h3 hq
    have hlt : i < t.kids.length := by omega
    have ei : IntKind.i64.wrap ((i : Int) + 1) = ((i + 1 : Nat) : Int) := i64_same (by omega) (by omega)
    obtain ⟨x,hx⟩ := hw _ (List.getElem_mem hlt)
    have hwd : wdT t.kids[i] 0 = hd t.kids[i] := by simp [wdT,hd,hx]
    have hrow := row_succ (f := uv ∘ hd) hlt rfl
    simp only [Function.comp] at hrow
    refine loopC_once mixed l1_canon_writer_tree.eq_1 ?_
    simp [hlt,updF_app]
    refine sc_call (pWd_spec t.kids[i] 0) rfl ?_
    rw [hwd]
    have hn1 : ((i : Int) + 1) * 8≤140737488355328 := by omega
    have hn2 : (i + 1) * 8≤140737488355328 := by omega
    simp [updF_app,h3,hn1,hn2,ei]
    rw [hrow]
    refine ⟨by omega,?_⟩
    exact ihm (i + 1) (u + 1) _ (by omega) (fun p => by simp [updF_app,h0]) (by simp [updF_app,h1]) (by simp [updF_app]) hq
end
theorem wTree_spec : ∀ t : T,WVS t∧WFS t := by
  refine T.ind fun k w ks ih => ?_
  have hF : WFS (.mk k w ks) := wStruct_spec fun c hc => (ih c hc).1
  have hK : WKS (.mk k w ks) := wKids_spec fun c hc => (ih c hc).1
  refine ⟨fun hok S a ha hS => ?_,hF⟩
  have h0 := (size_nonneg (.mk k w ks)).1 hok
  by_cases k9 : k = 9
  · subst k9
    obtain ⟨v',q4⟩ := wComp_spec rfl hok (fun c hc => (ih c hc).2) S a ha hS
    refine ⟨v',specF_of t_canon_writer_tree (by simp) (faW _ a) famA_v fun w0 I0 M0 m0 => ?_⟩
    unfold c_canon_writer_tree
    simp
    refine sc_fam 0 q4 (fun p => by simp) (by simp) (by simp) ?_
    simp
    exact reth_fam rfl rfl (by simp)
  cases hok with
  | null =>
    refine ⟨S.v,specF_of t_canon_writer_tree (by simp) (faW _ a) famA_v fun w0 I0 M0 m0 => ?_⟩
    unfold c_canon_writer_tree
    simp
    rw [layT_mk,if_pos rfl]
    exact reth_fam rfl rfl (by simp)
  | comp => exact absurd rfl k9
  | str w ks b1 b2 hl =>
    have hn := sizeL_nonneg hl
    rw [sizeT_mk,if_pos rfl] at hS
    have hG := wGive_spec S (by omega) (w.length + ks.length) (by omega)
    have hP := wPoint_spec ⟨S.v + 1,S.W ++ List.replicate (w.length + ks.length) 0⟩ (a := a) (by simp; omega) (by omega) (to := (S.W.length : Int)) (by omega) (by omega) ⟨1,0,w.length,ks.length,0,0,0,false⟩ (by simp) (by simp; omega) (by simp) (by simp; omega)
    rw [enc_str (by omega) (by omega) (by omega) (by omega) (by omega) (by omega) (by omega) (by omega),encB_str (by omega) (by omega) (by omega) (by omega) (by omega) (by omega) (by omega) (by omega) (by omega)] at hP
    simp only at hP
    rw [List.set_append_left _ _ ha] at hP
    generalize hX : S.W.set a (ptrZ a (if (w.length : Int) + ks.length = 0 then (a : Int) else S.W.length) 0 (w.length + 65536 * ks.length)) = X at hP
    have hXl : X.length = S.W.length := by rw [← hX]; simp
    have hsw := setW_app w X (List.replicate (w.length + ks.length) 0) (by simp)
    have hdrop : List.drop w.length (List.replicate (w.length + ks.length) (0 : Int)) = List.replicate ks.length 0 := by simp
    rw [hXl,hdrop] at hsw
    obtain ⟨v',q4⟩ := hF hl ⟨S.v + 1,X ++ List.replicate (w.length + ks.length) 0⟩ S.W.length w.length (by simp) (by omega) (by simp; omega) (by simp; omega)
    simp only [T.words_mk,T.kids_mk] at q4
    rw [hsw] at q4
    have hlay : layT (.mk 1 w ks) a S.W = layL ks (S.W.length + w.length) (X ++ w ++ List.replicate ks.length 0) := by
      rw [layT_mk,if_neg (by decide),if_pos rfl,← hX]
      have hz : ((w.length : Int) + ks.length = 0) = (w.length + ks.length = 0) := by
        rw [eq_iff_iff]
        omega
      simp only [hz]
    rw [hlay]
    have ew : IntKind.i64.wrap ((w.length : Int) + ks.length) = ((w.length + ks.length : Nat) : Int) := i64_same (by omega) (by omega)
    refine ⟨v',specF_of t_canon_writer_tree (by simp) (faW _ a) famA_v fun w0 I0 M0 m0 => ?_⟩
    unfold c_canon_writer_tree
    simp [ew]
    refine sc_fam 0 hG (fun p => by simp) (by simp) (by simp) ?_
    simp
    refine sc_fam 0 hP (fun p => by simp) (by simp) (by simp) ?_
    simp
    rw [sc_guard]
    simp
    refine sc_fam 0 q4 (fun p => by simp) (by simp) (by simp) ?_
    simp
    exact reth_fam rfl rfl (by simp)
  | ptrs w ks b1 hl =>
    have hn := sizeL_nonneg hl
    rw [sizeT_mk,if_neg (by decide),if_pos rfl] at hS
    have hG := wGive_spec S (by omega) ks.length (by omega)
    have hP := wPoint_spec ⟨S.v + 1,S.W ++ List.replicate ks.length 0⟩ (a := a) (by simp; omega) (by omega) (to := (S.W.length : Int)) (by omega) (by omega) ⟨2,0,0,0,6,ks.length,0,false⟩ (by simp) (by simp) (by simp) (by simp)
    rw [enc_list (by omega) (by omega) (by omega) (by omega) (by omega) (by omega) (by omega) (by omega),encB_list (by omega) (by omega) (by omega) (by omega) (by omega) (by omega) (by omega) (by omega)] at hP
    simp only at hP
    rw [List.set_append_left _ _ ha] at hP
    obtain ⟨v',q4⟩ := hK hl ⟨S.v + 1,S.W.set a (ptrZ a S.W.length 1 (6 + 8 * ks.length)) ++ List.replicate ks.length 0⟩ S.W.length (by simp) (by simp; omega)
    simp only [T.kids_mk] at q4
    have hlay : layT (.mk 8 w ks) a S.W = layL ks S.W.length (S.W.set a (ptrZ a S.W.length 1 (6 + 8 * ks.length)) ++ List.replicate ks.length 0) := by
      rw [layT_mk,if_neg (by decide),if_neg (by decide),if_pos rfl]
    rw [hlay]
    refine ⟨v',specF_of t_canon_writer_tree (by simp) (faW _ a) famA_v fun w0 I0 M0 m0 => ?_⟩
    unfold c_canon_writer_tree
    simp
    refine sc_fam 0 hG (fun p => by simp) (by simp) (by simp) ?_
    simp
    refine sc_fam 0 hP (fun p => by simp) (by simp) (by simp) ?_
    simp
    rw [sc_guard]
    simp
    refine sc_fam 0 q4 (fun p => by simp) (by simp) (by simp) ?_
    simp
    exact reth_fam rfl rfl (by simp)
  | data k w ks h1 h2 hn hc =>
    have hsz : sizeT (.mk k w ks) = roomZ (k - 2) ks.length := by
      rw [sizeT_mk,if_neg (by omega),if_neg (by omega),if_pos ⟨h1,h2⟩]
    have hlay : layT (.mk k w ks) a S.W = S.W.set a (ptrZ a S.W.length 1 (k - 2 + 8 * ks.length)) ++ putZ (k - 2) (ks.map hd) := by
      rw [layT_mk,if_neg (by omega),if_neg (by omega),if_neg (by omega),if_neg (by omega)]
    have hpl := putZ_length (k - 2) (ks.map hd)
    have hr0 := roomZ_nonneg (k - 2) ks.length
    rw [List.length_map] at hpl
    rw [hsz] at hS h0
    have hfit : ∀ x,x ∈ ks.map hd→u64R x∧fitsZ (k - 2) x = true := fun x hx => by
      obtain ⟨c,hc',rfl⟩ := List.mem_map.1 hx
      obtain ⟨y,y1,y2,y3,y4⟩ := hc c hc'
      have : hd c = y := by simp [hd,y1]
      rw [this]
      exact ⟨⟨y2,y3⟩,y4⟩
    have hPut := pPut_spec (c := k - 2) (by omega) (by omega) (ns := ks.map hd) (by simp; omega) hfit
    rw [hlay]
    generalize hZ : putZ (k - 2) (ks.map hd) = Z at *
    have hZl : (Z.length : Int) = roomZ (k - 2) ks.length := by omega
    have hG := wGive_spec S (by omega) Z.length (by omega)
    have hP := wPoint_spec ⟨S.v + 1,S.W ++ Z⟩ (a := a) (by simp; omega) (by omega) (to := (S.W.length : Int)) (by omega) (by omega) ⟨2,0,0,0,k - 2,ks.length,0,false⟩ (by simp) (by simp) (by simp) (by simp)
    rw [enc_list (by omega) (by omega) (by omega) (by omega) (by omega) (by omega) (by omega) (by omega),encB_list (by omega) (by omega) (by omega) (by omega) (by omega) (by omega) (by omega) (by omega)] at hP
    simp only at hP
    rw [List.set_append_left _ _ ha] at hP
    have ek : IntKind.i64.wrap (k - 2) = k - 2 := i64_same (by omega) (by omega)
    refine ⟨S.v + 1,specF_of' t_canon_writer_tree (by simp) (faW _ a) famA_v fun w0 I0 M0 m0 hM => ?_⟩
    unfold c_canon_writer_tree
    have n0 : ¬ k = 0 := by omega
    have n1 : ¬ k = 1 := by omega
    have n8 : ¬ k = 8 := by omega
    simp [n0,n1,n8,k9,ek]
    refine LoopC.le (le_blank 10 [3] 1 (by simp)) ?_
    refine LoopC.le (le_list [(0,.pob [0] 1 0),(1,nv a),(5,.pob [1] 1 0),(9,iv (k - 2)),(10,.osl [3] 1 1 0 0),(88,tKs ks),(89,nv ks.length),(90,nv 0)] (by simp [upd])) ?_
    refine wtree_l1 (t := .mk k w ks) (v0 := wrF 0 S) (v1 := ⟨1,.cells (tL (.mk k w ks))⟩) (by simp; omega) (fun c hc' => (hc c hc').imp fun x hx => hx.1) ks.length 0 1 _ (by simp) (fun p => by simp [updF_app]) (by simp [updF_app]) (by simp [updF_app]) (fun q u' H' g0 g1 g3 => ?_)
    simp
    refine stop_le (le_freezeD (d := [3]) (fun b => hM 3 [] b (by omega)) 10 (uws (ks.map hd)) (fun H1 hH => ?_)) (stop_go ?_)
    · have := frz_row (H := H1) (o := [3]) (u := u') (n := ks.length) (sz := 1) (l := ks) (f := uv ∘ hd) (by rw [hH,g3]; simp) rfl (fun x => by simp)
      rw [← List.map_map] at this
      exact this
    simp
    refine sc_call hPut rfl ?_
    simp
    refine sc_fam 0 hG (fun p => by simp [updF_app,g0]) (by simp) (by simp) ?_
    have hle1 : (S.W.length : Int)≤S.W.length + Z.length := by omega
    have hmin : min Z.length (S.W.length + Z.length - S.W.length) = Z.length := by omega
    have hadd : S.W.length + (S.W.length + Z.length - S.W.length)≤S.W.length + Z.length := by omega
    have htk : List.take Z.length (Z.map uv) = Z.map uv := List.take_of_length_le (by simp)
    have hdr : List.drop (S.W.length + Z.length) (S.W.map uv ++ List.replicate Z.length (uv 0)) = [] := List.drop_eq_nil_of_le (by simp)
    simp [updF_app,hle1,hmin,hadd,g1]
    rw [sc_guard]
    simp
    refine sc_fam 0 hP (fun p => ?_) (by simp) (by simp) ?_
    · simp only [ov_cons,if_true,wrM_F]
      refine updF_is ?_ (fun h1 => ?_)
      · rw [htk,hdr]
        simp
      · by_cases h0 : p = []
        · subst h0; simp
        · exact wrF_but h0 h1
    simp
    exact reth_fam rfl rfl (by simp)
def cnOk (most : Int) (t : T) : Bool := rightT 64 t && !decide (t.kind = 10) && decide (sizeT (norm t) < most) && decide (sizeT (norm t) < 131072)
def cnW (most : Int) (t : T) : List Int := if cnOk most t = true then layT (norm t) 0 [0] else []
theorem cnEnc_spec {t : T} (hw : wfT t) (most : Int) (hsz : rightT 64 t = true→t.kind ≠ 10→sizeT (norm t) < 9223372036854775808) :
    G.Spec Tryz.prog 36 [tX t,iv most] (.tup [uws (cnW most t),bv (cnOk most t)]) := by
  refine spec_of t_canon_Encode (by simp) fun w0 I0 => ?_
  unfold c_canon_Encode
  have no : cnOk most t = false→cnW most t = [] := fun h => by simp [cnW,h]
  simp
  refine sc_call (ptRight_spec hw) rfl ?_
  by_cases hr : rightT 64 t = true
  · by_cases h10 : t.kind = 10
    · have hf : cnOk most t = false := by simp [cnOk,h10]
      rw [no hf,hf]
      simp [hr,h10]
      exact frz_tup (by simp; exact ⟨frz_sl,frz_bare rfl⟩)
    · have hlay := laid_right t 64 hr hw h10
      have h0 := (size_nonneg (norm t)).1 hlay
      have h1 := hsz hr h10
      have hS := tSize_spec (norm t) (wf_norm t hw)
      rw [norm_norm,size_norm t 64 hr] at hS
      have hsame : i64w (sizeT (norm t)) = sizeT (norm t) := i64_same (by omega) (by omega)
      rw [hsame] at hS
      simp [hr,h10]
      refine sc_call (tNorm_spec t hw) rfl ?_
      simp
      refine sc_calle (L := [tX (norm t)]) (by simp) hS rfl ?_
      generalize hN : norm t = N at *
      have hNk : N.kind = t.kind := by rw [← hN]; simp
      by_cases hm : cnOk most t = true
      · have hW : cnW most t = layT N 0 [0] := by simp [cnW,hm,hN]
        rw [hW,hm]
        simp [cnOk,hN] at hm
        obtain ⟨⟨_,m1⟩,m2⟩ := hm
        have n1 : ¬ most≤sizeT N := by omega
        have n2 : ¬ 131072≤sizeT N := by omega
        simp [n1,n2]
        refine stop_le (le_blankC (d := [1]) 0 [1,0] 1 rfl rfl (by simp)) (stop_go ?_)
        have hG := wGive_spec ⟨1,[]⟩ (by simp) 1 (by omega)
        obtain ⟨v',q4⟩ := (wTree_spec N).1 hlay ⟨2,[0]⟩ 0 (by simp) (by simp; omega)
        have hF : ∀ H : Hp,H [1] = ⟨1,.cells [.osl [1,0] 1 1 0 0]⟩→H [1,0] = ⟨1,.arr 1 []⟩→(∀ p,p ≠ []→p ≠ [0]→H (1 :: p) = ⟨0,.none⟩)→∀ p,H (1 :: p) = (wrM ⟨1,[]⟩).F 1 p := fun H h1 h2 h3 p => by
          by_cases p0 : p = []
          · subst p0; rw [h1]; simp
          · by_cases p1 : p = [0]
            · subst p1; rw [h2]; simp
            · rw [h3 p p0 p1]
              match p,p0,p1 with
              | [],h,_ => exact absurd rfl h
              | [0],_,h => exact absurd rfl h
              | 0 :: a :: q,_,_ => rfl
              | (a + 1) :: q,_,_ => rfl
        simp [updF_app]
        refine sc_fam 1 hG (hF _ (by simp [updF_app]) (by simp [updF_app]) (fun p h1 h2 => by simp [updF_app,Ne.symm h1,h1,h2,Ne.symm h2])) (by simp) (by simp) ?_
        simp [updF_app]
        refine ⟨by decide,?_⟩
        refine sc_fam 1 q4 (fun p => by simp [updF_app]) (by simp [hNk]) (by simp) ?_
        simp
        refine frz_tup ?_
        simp
        exact ⟨frz_row (f := uv) (by simp) rfl (fun x => by simp),frz_bare rfl⟩
      · have hf : cnOk most t = false := by simpa using hm
        rw [no hf,hf]
        simp [cnOk,hN,hr,h10] at hm
        by_cases n1 : most≤sizeT N
        · simp [n1]
          exact frz_tup (by simp; exact ⟨frz_sl,frz_bare rfl⟩)
        · have n2 : 131072≤sizeT N := by omega
          simp [n1,n2]
          exact frz_tup (by simp; exact ⟨frz_sl,frz_bare rfl⟩)
  · have hf : cnOk most t = false := by simp [cnOk,hr]
    rw [no hf,hf]
    simp at hr
    simp [hr]
    exact frz_tup (by simp; exact ⟨frz_sl,frz_bare rfl⟩)
theorem uvs_fam {l : List Int} : ∀ x,x ∈ l.map uv→FamA (fun _ => x) := fun x hx => by
  obtain ⟨n,_,rfl⟩ := List.mem_map.1 hx
  exact famA_v
abbrev uvM (u : Nat) (l : List Int) : Fam := rowM u 1 (l.map uv) uvs_fam
theorem rPointer_spec {a b k u : Int} (a0 : 0≤a) (a1 : a≤200000) (b0 : 0≤b) (b1 : b≤200000) (k0 : 0≤k) (k1 : k≤3) (u0 : 0≤u) (u1 : u < 4294967296) : G.Spec Tryz.prog 67 [iv a,iv b,iv k,uv u] (uv (ptrZ a b k u)) := by
  refine spec_of t_centoref12_pointer (by simp) fun w0 I0 => ?_
  unfold c_centoref12_pointer
  have e1 : IntKind.i64.wrap (b - a) = b - a := i64_same (by omega) (by omega)
  have e2 : IntKind.i64.wrap (b - a - 1) = b - a - 1 := i64_same (by omega) (by omega)
  by_cases hlt : b - a - 1 < 0
  · have e3 : IntKind.i64.wrap (b - a - 1 + 1073741824) = b - a - 1 + 1073741824 := i64_same (by omega) (by omega)
    have e4 : IntKind.i64.wrap (4 * (b - a - 1 + 1073741824)) = 4 * (b - a - 1 + 1073741824) := i64_same (by omega) (by omega)
    have e5 : IntKind.i64.wrap (4 * (b - a - 1 + 1073741824) + k) = 4 * (b - a - 1 + 1073741824) + k := i64_same (by omega) (by omega)
    have e6 : IntKind.u64.wrap (4 * (b - a - 1 + 1073741824) + k) = 4 * (b - a - 1 + 1073741824) + k := u64_same (by omega) (by omega)
    have e7 : IntKind.u64.wrap (u * 4294967296) = u * 4294967296 := u64_same (by omega) (by omega)
    have e8 : IntKind.u64.wrap (4 * (b - a - 1 + 1073741824) + k + u * 4294967296) = 4 * (b - a - 1 + 1073741824) + k + u * 4294967296 := u64_same (by omega) (by omega)
    simp [e1,e2,e3,hlt,k1_centoref12_pointer,e4,e5,e6,e7,e8]
    exact frz_is rfl (by simp [ptrZ,hlt])
  · have e4 : IntKind.i64.wrap (4 * (b - a - 1)) = 4 * (b - a - 1) := i64_same (by omega) (by omega)
    have e5 : IntKind.i64.wrap (4 * (b - a - 1) + k) = 4 * (b - a - 1) + k := i64_same (by omega) (by omega)
    have e6 : IntKind.u64.wrap (4 * (b - a - 1) + k) = 4 * (b - a - 1) + k := u64_same (by omega) (by omega)
    have e7 : IntKind.u64.wrap (u * 4294967296) = u * 4294967296 := u64_same (by omega) (by omega)
    have e8 : IntKind.u64.wrap (4 * (b - a - 1) + k + u * 4294967296) = 4 * (b - a - 1) + k + u * 4294967296 := u64_same (by omega) (by omega)
    simp [e1,e2,hlt,k1_centoref12_pointer,e4,e5,e6,e7,e8]
    exact frz_is rfl (by simp [ptrZ,hlt])
section
variable {n0 : Nat} {w0 : World} {I0 : Nat→Prop} {M0 : Nm→Nat→Prop} {m0 : Mu} {Q : Exit→Sta→Prop}
theorem rAdd_l1 {u n : Nat} {W : List Int} (hn : W.length + n≤1000000) (hq : ∀ q H',(∀ p,H' (0 :: p) = (uvM (u + n) (W ++ List.replicate n 0)).F 0 p)→Q (.exit 0) ⟨lk [(0,.osl [0] (u + n) 1 0 (W.length + n)),(1,nv n),(5,nv n),(8,bv q)],H'⟩) :
    ∀ (j i : Nat) (H : Hp),i + j = n→(∀ p,H (0 :: p) = (uvM (u + i) (W ++ List.replicate i 0)).F 0 p) →
    LoopC (cxh Tryz.prog w0 I0 M0 n0 m0) l1_centoref12_add Q ⟨lk [(0,.osl [0] (u + i) 1 0 (W.length + i)),(1,nv n),(5,nv i)],H⟩ := by
  intro j
  induction j with
  | zero =>
    intro i H hi hH
    have : i = n := by omega
    subst this
    refine loopC_once mixed l1_centoref12_add.eq_1 ?_
    simp
    exact hq _ H hH
  | succ j ih =>
    intro i H hi hH
    have hlt : i < n := by omega
    have ei : IntKind.i64.wrap ((i : Int) + 1) = ((i + 1 : Nat) : Int) := i64_same (by omega) (by omega)
    have h0 := hH []
    simp at h0
    refine loopC_once mixed l1_centoref12_add.eq_1 ?_
    simp [hlt,h0,ei]
    refine ⟨by omega,?_⟩
    refine ih (i + 1) _ (by omega) fun p => ?_
    by_cases hp : p = []
    · subst hp
      simp [updF_app,List.take_of_length_le,List.replicate_succ',Nat.add_assoc]
    · simp [updF_app,hp,hH]
end
theorem rAdd_spec (u n : Nat) (W : List Int) (hn : W.length + n≤1000000) : SpecF Tryz.prog 68 (fun r => [.osl [r] u 1 0 W.length,nv n]) (uvM u W) (fun r => .osl [r] (u + n) 1 0 (W.length + n)) (uvM (u + n) (W ++ List.replicate n 0)) := by
  refine specF_of t_centoref12_add (by simp) (famL_cons famA_osl (famL_cons famA_v famL_nil)) famA_osl fun w0 I0 M0 m0 => ?_
  unfold c_centoref12_add
  simp
  refine rAdd_l1 (u := u) (n := n) (W := W) hn (fun q H' hH => ?_) n 0 _ (by omega) (fun p => by simp)
  simp
  exact reth_fam rfl rfl hH
section
variable {n0 : Nat} {w0 : World} {I0 : Nat→Prop} {Q : Exit→Sta→Prop}
theorem atoms_l1 {t : T} (hl : t.kids.length≤1000000000) (hw : ∀ c,c ∈ t.kids→c.words = [hd c]) (hq : ∀ (q : Bool) (u : Nat) (H : Hp),H [1] = ⟨u,.arr 1 ((t.kids.map hd).map uv)⟩→Q (.exit 0) ⟨lk [(1,.pob [0] 1 0),(3,.osl [1] u 1 0 t.kids.length),(4,nv t.kids.length),(9,bv q)],H⟩) :
    ∀ (j i u : Nat) (H : Hp),i + j = t.kids.length→H [0] = ⟨1,.cells (tL t)⟩→H [1] = ⟨u,.arr 1 (((t.kids.take i).map hd).map uv)⟩ →
    LoopC (cx Tryz.prog w0 I0 n0) l1_centoref12_atoms Q ⟨lk [(1,.pob [0] 1 0),(3,.osl [1] u 1 0 i),(4,nv i)],H⟩ := by
  intro j
  induction j with
  | zero =>
    intro i u H hi h0 h1
    have : i = t.kids.length := by omega
    subst this
    rw [List.take_of_length_le (Nat.le_refl _)] at h1
    refine loopC_once mixed l1_centoref12_atoms.eq_1 ?_
    simp [h0]
    exact hq _ u H h1
  | succ j ih =>
    intro i u H hi h0 h1
    have hlt : i < t.kids.length := by omega
    have hx := hw _ (List.getElem_mem hlt)
    have ei : IntKind.i64.wrap ((i : Int) + 1) = ((i + 1 : Nat) : Int) := i64_same (by omega) (by omega)
    have htk : ((t.kids.take (i + 1)).map hd).map uv = ((t.kids.take i).map hd).map uv ++ [uv (hd t.kids[i])] := by rw [List.take_succ_eq_append_getElem hlt,List.map_append,List.map_append]; rfl
    refine loopC_once mixed l1_centoref12_atoms.eq_1 ?_
    simp [h0,hlt,hx,h1,ei]
    refine ⟨⟨by omega,by omega⟩,?_⟩
    refine ih (i + 1) (u + 1) _ (by omega) (by simp [updF_app,h0]) ?_
    rw [htk]
    simp [updF_app]
    rw [List.take_take,Nat.min_self]
end
theorem rAtoms_spec {t : T} (hl : t.kids.length≤1000000000) (hw : ∀ c,c ∈ t.kids→c.words = [hd c]) : G.Spec Tryz.prog 70 [tX t] (uws (t.kids.map hd)) := by
  refine spec_of t_centoref12_atoms (by simp) fun w0 I0 => ?_
  unfold c_centoref12_atoms
  simp
  refine LoopC.le (le_blank 3 [1] 1 (by simp)) ?_
  simp
  refine LoopC.le (le_list [(1,.pob [0] 1 0),(3,.osl [1] 1 1 0 0),(4,nv 0)] (by simp [upd])) ?_
  refine atoms_l1 hl hw (fun q u H h1 => ?_) t.kids.length 0 1 _ (by omega) (by simp) (by simp)
  simp
  exact frz_row (f := uv) (by rw [h1]; simp) (by simp) (fun x => by simp)
def RL (t : T) : Prop := ∀ (u : Nat) (W : List Int) (a : Nat),LayOk t→a < W.length→(W.length : Int) + sizeT t≤200000 →
  ∃ u',SpecF Tryz.prog 34 (fun r => [.osl [r] u 1 0 W.length,nv a,tX t]) (uvM u W) (fun r => .osl [r] u' 1 0 (layT t a W).length) (uvM u' (layT t a W))
theorem rlay_l1 {t : T} (ih : ∀ c,c ∈ t.kids→RL c) (hok : ∀ c,c ∈ t.kids→LayOk c) {to : Nat} (hto : to + t.words.length + t.kids.length≤200000) : ∀ (j i u : Nat) (W : List Int),i + j = t.kids.length→to + t.words.length + t.kids.length≤W.length→(W.length : Int) + sizeL (t.kids.drop i)≤200000 →
    ∃ u',∀ {n0 : Nat} {w0 : World} {I0 : Nat→Prop} {M0 : Nm→Nat→Prop} {m0 : Mu} {Q : Exit→Sta→Prop} (H : Hp),(∀ p,H (0 :: p) = (uvM u W).F 0 p)→H [1] = ⟨1,.cells (tL t)⟩ →
      (∀ q H',(∀ p,H' (0 :: p) = (uvM u' (layL (t.kids.drop i) (to + t.words.length + i) W)).F 0 p)→Q (.exit 1) ⟨lk [(0,.osl [0] u' 1 0 (layL (t.kids.drop i) (to + t.words.length + i) W).length),(5,.pob [1] 1 0),(7,nv to),(8,nv t.kids.length),(65,bv q)],H'⟩) →
      LoopC (cxh Tryz.prog w0 I0 M0 n0 m0) l1_centoref12_Lay Q ⟨lk [(0,.osl [0] u 1 0 W.length),(5,.pob [1] 1 0),(7,nv to),(8,nv i)],H⟩ := by
  intro j
  induction j with
  | zero =>
    intro i u W hi hb hs
    have : i = t.kids.length := by omega
    subst this
    rw [List.drop_eq_nil_of_le (Nat.le_refl _)]
    refine ⟨u,fun H hH hA hq => ?_⟩
    refine loopC_once mixed l1_centoref12_Lay.eq_1 ?_
    simp [hA]
    simp only [layL_nil] at hq
    exact hq _ H hH
  | succ j ihj =>
    intro i u W hi hb hs
    have hlt : i < t.kids.length := by omega
    have hlay := hok _ (List.getElem_mem hlt)
    have hdr : t.kids.drop i = t.kids[i] :: t.kids.drop (i + 1) := List.drop_eq_getElem_cons hlt
    have hrest := sizeL_nonneg (ts := t.kids.drop (i + 1)) fun c hc => hok c (List.mem_of_mem_drop hc)
    rw [hdr,sizeL_cons] at hs
    rw [hdr]
    simp only [layL_cons]
    have hlen := (lay_len _).1 hlay (to + t.words.length + i) W
    have hsz := (size_nonneg _).1 hlay
    obtain ⟨u1,h1⟩ := ih _ (List.getElem_mem hlt) u W (to + t.words.length + i) hlay (by omega) (by omega)
    obtain ⟨u',h2⟩ := ihj (i + 1) u1 (layT t.kids[i] (to + t.words.length + i) W) (by omega) (by omega) (by omega)
    rw [show to + t.words.length + (i + 1) = to + t.words.length + i + 1 from by omega] at h2
    have ei : IntKind.i64.wrap ((i : Int) + 1) = ((i + 1 : Nat) : Int) := i64_same (by omega) (by omega)
    have e1 : IntKind.i64.wrap ((to : Int) + t.words.length) = (to : Int) + t.words.length := i64_same (by omega) (by omega)
    have e2 : IntKind.i64.wrap ((to : Int) + t.words.length + i) = (to : Int) + t.words.length + i := i64_same (by omega) (by omega)
    refine ⟨u',fun H hH hA hq => ?_⟩
    refine loopC_once mixed l1_centoref12_Lay.eq_1 ?_
    simp [hA,hlt,e1,e2]
    refine sc_fam 0 h1 hH (by simp) (by simp) ?_
    simp [ei]
    exact h2 _ (fun p => by simp) (by simp [hA]) hq
theorem rlay_l2 {t : T} (ih : ∀ c,c ∈ t.kids→RL c) (hok : ∀ c,c ∈ t.kids→LayOk c) {to : Nat} (hto : to + t.kids.length≤200000) : ∀ (j i u : Nat) (W : List Int),i + j = t.kids.length→to + t.kids.length≤W.length→(W.length : Int) + sizeL (t.kids.drop i)≤200000 →
    ∃ u',∀ {n0 : Nat} {w0 : World} {I0 : Nat→Prop} {M0 : Nm→Nat→Prop} {m0 : Mu} {Q : Exit→Sta→Prop} (H : Hp),(∀ p,H (0 :: p) = (uvM u W).F 0 p)→H [1] = ⟨1,.cells (tL t)⟩ →
      (∀ q H',(∀ p,H' (0 :: p) = (uvM u' (layL (t.kids.drop i) (to + i) W)).F 0 p)→Q (.exit 3) ⟨lk [(0,.osl [0] u' 1 0 (layL (t.kids.drop i) (to + i) W).length),(5,.pob [1] 1 0),(7,nv to),(9,nv t.kids.length),(106,bv q)],H'⟩) →
      LoopC (cxh Tryz.prog w0 I0 M0 n0 m0) l2_centoref12_Lay Q ⟨lk [(0,.osl [0] u 1 0 W.length),(5,.pob [1] 1 0),(7,nv to),(9,nv i)],H⟩ := by
  intro j
  induction j with
  | zero =>
    intro i u W hi hb hs
    have : i = t.kids.length := by omega
    subst this
    rw [List.drop_eq_nil_of_le (Nat.le_refl _)]
    refine ⟨u,fun H hH hA hq => ?_⟩
    refine loopC_once mixed l2_centoref12_Lay.eq_1 ?_
    simp [hA]
    simp only [layL_nil] at hq
    exact hq _ H hH
  | succ j ihj =>
    intro i u W hi hb hs
    have hlt : i < t.kids.length := by omega
    have hlay := hok _ (List.getElem_mem hlt)
    have hdr : t.kids.drop i = t.kids[i] :: t.kids.drop (i + 1) := List.drop_eq_getElem_cons hlt
    have hrest := sizeL_nonneg (ts := t.kids.drop (i + 1)) fun c hc => hok c (List.mem_of_mem_drop hc)
    rw [hdr,sizeL_cons] at hs
    rw [hdr]
    simp only [layL_cons]
    have hlen := (lay_len _).1 hlay (to + i) W
    have hsz := (size_nonneg _).1 hlay
    obtain ⟨u1,h1⟩ := ih _ (List.getElem_mem hlt) u W (to + i) hlay (by omega) (by omega)
    obtain ⟨u',h2⟩ := ihj (i + 1) u1 (layT t.kids[i] (to + i) W) (by omega) (by omega) (by omega)
    rw [show to + (i + 1) = to + i + 1 from by omega] at h2
    have ei : IntKind.i64.wrap ((i : Int) + 1) = ((i + 1 : Nat) : Int) := i64_same (by omega) (by omega)
    have e1 : IntKind.i64.wrap ((to : Int) + i) = (to : Int) + i := i64_same (by omega) (by omega)
    refine ⟨u',fun H hH hA hq => ?_⟩
    refine loopC_once mixed l2_centoref12_Lay.eq_1 ?_
    simp [hA,hlt,e1]
    refine sc_fam 0 h1 hH (by simp) (by simp) ?_
    simp [ei]
    exact h2 _ (fun p => by simp) (by simp [hA]) hq
theorem rlay_l3 {t : T} {w k to : Nat} (hwk : ∀ c,c ∈ t.kids→c.words.length≤w) (hk : w + k≤131072) (hn : t.kids.length < 536870912) : ∀ (j i u : Nat) (W : List Int),i + j = t.kids.length→W.length + j * (w + k)≤200000 →
    ∃ u',∀ {n0 : Nat} {w0 : World} {I0 : Nat→Prop} {M0 : Nm→Nat→Prop} {m0 : Mu} {Q : Exit→Sta→Prop} (H : Hp),(∀ p,H (0 :: p) = (uvM u W).F 0 p)→H [1] = ⟨1,.cells (tL t)⟩ →
      (∀ q H',(∀ p,H' (0 :: p) = (uvM u' (W ++ rowsC w k (t.kids.drop i))).F 0 p)→H' [1] = ⟨1,.cells (tL t)⟩→Q (.exit 5) ⟨lk [(0,.osl [0] u' 1 0 (W ++ rowsC w k (t.kids.drop i)).length),(5,.pob [1] 1 0),(7,nv to),(10,nv w),(11,nv k),(12,nv t.kids.length),(13,nv t.kids.length),(160,bv q)],H'⟩) →
      LoopC (cxh Tryz.prog w0 I0 M0 n0 m0) l3_centoref12_Lay Q ⟨lk [(0,.osl [0] u 1 0 W.length),(5,.pob [1] 1 0),(7,nv to),(10,nv w),(11,nv k),(12,nv t.kids.length),(13,nv i)],H⟩ := by
  intro j
  induction j with
  | zero =>
    intro i u W hi hb
    have : i = t.kids.length := by omega
    subst this
    rw [List.drop_eq_nil_of_le (Nat.le_refl _)]
    refine ⟨u,fun H hH hA hq => ?_⟩
    refine loopC_once mixed l3_centoref12_Lay.eq_1 ?_
    simp only [rowsC,List.append_nil] at hq
    simp
    exact hq _ H hH hA
  | succ j ihj =>
    intro i u W hi hb
    have hlt : i < t.kids.length := by omega
    have hw := hwk _ (List.getElem_mem hlt)
    have hdr : t.kids.drop i = t.kids[i] :: t.kids.drop (i + 1) := List.drop_eq_getElem_cons hlt
    rw [Nat.add_mul,Nat.one_mul] at hb
    rw [hdr]
    simp only [rowsC]
    have hA1 := rAdd_spec (u + 1) (w + k - t.kids[i].words.length) (W ++ t.kids[i].words) (by simp; omega)
    obtain ⟨u',h2⟩ := ihj (i + 1) (u + 1 + (w + k - t.kids[i].words.length)) (W ++ t.kids[i].words ++ List.replicate (w + k - t.kids[i].words.length) 0) (by omega) (by simp; omega)
    have ei : IntKind.i64.wrap ((i : Int) + 1) = ((i + 1 : Nat) : Int) := i64_same (by omega) (by omega)
    have e1 : IntKind.i64.wrap ((w : Int) + k) = (w : Int) + k := i64_same (by omega) (by omega)
    have e2 : IntKind.i64.wrap ((w : Int) + k - t.kids[i].words.length) = ((w + k - t.kids[i].words.length : Nat) : Int) := (i64_same (by omega) (by omega)).trans (by omega)
    refine ⟨u',fun H hH hA hq => ?_⟩
    have h0 := hH []
    simp at h0
    refine loopC_once mixed l3_centoref12_Lay.eq_1 ?_
    have hle : (W.length + t.kids[i].words.length) * 8≤140737488355328 := by omega
    simp [hA,hlt,h0,e1,hle,updF_app]
    rw [e2]
    refine sc_fam 0 hA1 (fun p => ?_) (by simp) (by simp) ?_
    · by_cases hp : p = []
      · subst hp
        simp [updF_app,List.take_of_length_le]
      · simp [updF_app,hp,hH]
    simp [ei]
    simp only [← List.append_assoc] at hq
    rw [show W.length + t.kids[i].words.length + (w + k - t.kids[i].words.length) = (W ++ t.kids[i].words ++ List.replicate (w + k - t.kids[i].words.length) 0).length from by simp; omega,← List.append_assoc]
    exact h2 _ (fun p => by simp) (by simp [updF_app,hA]) hq
theorem rlay_l4 {t : T} {c : T} {x : Nat} (hx : x < t.kids.length) (hc : t.kids[x] = c) (ih : ∀ d,d ∈ c.kids→RL d) (hok : ∀ d,d ∈ c.kids→LayOk d) {w k to b : Nat} (hwk2 : w + k≤131072) (hb : b = to + 1 + x * (w + k) + w) (hb2 : b + c.kids.length≤200000) : ∀ (j i u : Nat) (W : List Int),i + j = c.kids.length→b + c.kids.length≤W.length→(W.length : Int) + sizeL (c.kids.drop i)≤200000 →
    ∃ u',∀ {n0 : Nat} {w0 : World} {I0 : Nat→Prop} {M0 : Nm→Nat→Prop} {m0 : Mu} {Q : Exit→Sta→Prop} (H : Hp),(∀ p,H (0 :: p) = (uvM u W).F 0 p)→H [1] = ⟨1,.cells (tL t)⟩ →
      (∀ q H',(∀ p,H' (0 :: p) = (uvM u' (layL (c.kids.drop i) (b + i) W)).F 0 p)→H' [1] = ⟨1,.cells (tL t)⟩→Q (.exit 9) ⟨lk [(0,.osl [0] u' 1 0 (layL (c.kids.drop i) (b + i) W).length),(5,.pob [1] 1 0),(7,nv to),(10,nv w),(11,nv k),(12,nv t.kids.length),(14,nv x),(15,nv c.kids.length),(197,bv q)],H'⟩) →
      LoopC (cxh Tryz.prog w0 I0 M0 n0 m0) l4_centoref12_Lay Q ⟨lk [(0,.osl [0] u 1 0 W.length),(5,.pob [1] 1 0),(7,nv to),(10,nv w),(11,nv k),(12,nv t.kids.length),(14,nv x),(15,nv i)],H⟩ := by
  subst hc
  intro j
  induction j with
  | zero =>
    intro i u W hi hbw hs
    have : i = t.kids[x].kids.length := by omega
    subst this
    rw [List.drop_eq_nil_of_le (Nat.le_refl _)]
    refine ⟨u,fun H hH hA hq => ?_⟩
    refine loopC_once mixed l4_centoref12_Lay.eq_1 ?_
    simp [hA,hx]
    simp only [layL_nil] at hq
    exact hq _ H hH hA
  | succ j ihj =>
    intro i u W hi hbw hs
    have hlt : i < t.kids[x].kids.length := by omega
    have hlay := hok _ (List.getElem_mem hlt)
    have hdr : t.kids[x].kids.drop i = t.kids[x].kids[i] :: t.kids[x].kids.drop (i + 1) := List.drop_eq_getElem_cons hlt
    have hrest := sizeL_nonneg (ts := t.kids[x].kids.drop (i + 1)) fun c hc => hok c (List.mem_of_mem_drop hc)
    rw [hdr,sizeL_cons] at hs
    rw [hdr]
    simp only [layL_cons]
    have hlen := (lay_len _).1 hlay (b + i) W
    have hsz := (size_nonneg _).1 hlay
    obtain ⟨u1,h1⟩ := ih _ (List.getElem_mem hlt) u W (b + i) hlay (by omega) (by omega)
    obtain ⟨u',h2⟩ := ihj (i + 1) u1 (layT t.kids[x].kids[i] (b + i) W) (by omega) (by omega) (by omega)
    rw [show b + (i + 1) = b + i + 1 from by omega] at h2
    have ei : IntKind.i64.wrap ((i : Int) + 1) = ((i + 1 : Nat) : Int) := i64_same (by omega) (by omega)
    have hprod : (x : Int) * ((w : Int) + k) = ((x * (w + k) : Nat) : Int) := by rw [Int.natCast_mul,Int.natCast_add]
    have e1 : IntKind.i64.wrap ((w : Int) + k) = (w : Int) + k := i64_same (by omega) (by omega)
    have e2 : IntKind.i64.wrap ((x : Int) * ((w : Int) + k)) = (x : Int) * ((w : Int) + k) := i64_same (by omega) (by omega)
    have e3 : IntKind.i64.wrap ((to : Int) + 1) = (to : Int) + 1 := i64_same (by omega) (by omega)
    have e4 : IntKind.i64.wrap ((to : Int) + 1 + (x : Int) * ((w : Int) + k)) = (to : Int) + 1 + (x : Int) * ((w : Int) + k) := i64_same (by omega) (by omega)
    have e5 : IntKind.i64.wrap ((to : Int) + 1 + (x : Int) * ((w : Int) + k) + w) = (b : Int) := (i64_same (by omega) (by omega)).trans (by omega)
    have e6 : IntKind.i64.wrap ((b : Int) + i) = (b : Int) + i := i64_same (by omega) (by omega)
    refine ⟨u',fun H hH hA hq => ?_⟩
    refine loopC_once mixed l4_centoref12_Lay.eq_1 ?_
    simp [hA,hx,hlt,e1,e2,e3,e4,e5,e6]
    refine sc_fam 0 h1 hH (by simp) (by simp) ?_
    simp [ei]
    exact h2 _ (fun p => by simp) (by simp [hA]) hq
theorem rlay_l5 {t : T} (hk2 : ∀ c,c ∈ t.kids→∀ d,d ∈ c.kids→RL d∧LayOk d) {w k to : Nat} (hwk : ∀ c,c ∈ t.kids→c.kids.length≤k) (hwk2 : w + k≤131072) (hn : t.kids.length < 536870912) (hto : to + 1 + t.kids.length * (w + k)≤200000) : ∀ (j i u : Nat) (W : List Int),i + j = t.kids.length→to + 1 + t.kids.length * (w + k)≤W.length→(W.length : Int) + sizeLL (t.kids.drop i)≤200000 →
    ∃ u',∀ {n0 : Nat} {w0 : World} {I0 : Nat→Prop} {M0 : Nm→Nat→Prop} {m0 : Mu} {Q : Exit→Sta→Prop} (H : Hp),(∀ p,H (0 :: p) = (uvM u W).F 0 p)→H [1] = ⟨1,.cells (tL t)⟩ →
      (∀ q H',(∀ p,H' (0 :: p) = (uvM u' (layC w k (t.kids.drop i) (to + 1 + i * (w + k)) W)).F 0 p)→Q (.exit 7) ⟨lk [(0,.osl [0] u' 1 0 (layC w k (t.kids.drop i) (to + 1 + i * (w + k)) W).length),(5,.pob [1] 1 0),(7,nv to),(10,nv w),(11,nv k),(12,nv t.kids.length),(14,nv t.kids.length),(186,bv q)],H'⟩) →
      LoopC (cxh Tryz.prog w0 I0 M0 n0 m0) l5_centoref12_Lay Q ⟨lk [(0,.osl [0] u 1 0 W.length),(5,.pob [1] 1 0),(7,nv to),(10,nv w),(11,nv k),(12,nv t.kids.length),(14,nv i)],H⟩ := by
  intro j
  induction j with
  | zero =>
    intro i u W hi hbw hs
    have : i = t.kids.length := by omega
    subst this
    rw [List.drop_eq_nil_of_le (Nat.le_refl _)]
    refine ⟨u,fun H hH hA hq => ?_⟩
    refine loopC_once mixed l5_centoref12_Lay.eq_1 ?_
    simp only [layC_nil] at hq
    simp
    exact hq _ H hH
  | succ j ihj =>
    intro i u W hi hbw hs
    have hlt : i < t.kids.length := by omega
    have hdr : t.kids.drop i = t.kids[i] :: t.kids.drop (i + 1) := List.drop_eq_getElem_cons hlt
    have hc := hk2 _ (List.getElem_mem hlt)
    have hkl := hwk _ (List.getElem_mem hlt)
    have hmul : (i + 1) * (w + k)≤t.kids.length * (w + k) := Nat.mul_le_mul_right _ (by omega)
    have hmul2 : (i + 1) * (w + k) = i * (w + k) + (w + k) := by rw [Nat.add_mul,Nat.one_mul]
    have hrest : 0≤sizeLL (t.kids.drop (i + 1)) := sizeLL_nonneg fun c hc d hd => (hk2 c (List.mem_of_mem_drop hc) d hd).2
    have hsz := sizeL_nonneg fun d hd => (hc d hd).2
    have hlen := layL_len (fun d hd => (hc d hd).2) (to + 1 + i * (w + k) + w) W
    rw [hdr,sizeLL_cons] at hs
    rw [hdr]
    simp only [layC_cons]
    obtain ⟨u1,h1⟩ := rlay_l4 (w := w) (k := k) (to := to) (b := to + 1 + i * (w + k) + w) hlt rfl (fun d hd => (hc d hd).1) (fun d hd => (hc d hd).2) hwk2 rfl (by omega) t.kids[i].kids.length 0 u W (by omega) (by omega) (by simpa using (by omega))
    rw [List.drop_zero,Nat.add_zero] at h1
    obtain ⟨u',h2⟩ := ihj (i + 1) u1 (layL t.kids[i].kids (to + 1 + i * (w + k) + w) W) (by omega) (by omega) (by omega)
    rw [show to + 1 + (i + 1) * (w + k) = to + 1 + i * (w + k) + (w + k) from by omega] at h2
    have ei : IntKind.i64.wrap ((i : Int) + 1) = ((i + 1 : Nat) : Int) := i64_same (by omega) (by omega)
    refine ⟨u',fun H hH hA hq => ?_⟩
    refine loopC_once mixed l5_centoref12_Lay.eq_1 ?_
    simp [hlt]
    refine h1 H hH hA (fun q H' hH' hA' => ?_)
    simp [ei]
    exact h2 H' hH' hA' hq
theorem famA_tX' (t : T) : FamA (fun _ => tX t) := famA_bare rfl fun y hy => by
  simp at hy
  rcases hy with rfl | rfl | rfl <;> rfl
theorem rLay_all : ∀ t : T,RL t∧∀ c,c ∈ t.kids→RL c := by
  refine T.ind fun k w ks ih => ?_
  refine ⟨?_,fun c hc => (ih c hc).1⟩
  intro u W a hok ha hsz
  have args := famL_cons (famA_osl (u := u) (sz := 1) (off := 0) (len := W.length) (q := [])) (famL_cons (famA_v (x := .int .i64 (a : Int))) (famL_cons (famA_tX' (.mk k w ks)) famL_nil))
  have hset : ∀ x : Int,∀ p,updF ((uvM u W).F 0) [] ⟨u,.arr 1 ((W.map uv).set a (uv x))⟩ p = (uvM u (W.set a x)).F 0 p := fun x p => by
    by_cases hp : p = []
    · subst hp; simp [updF_app,List.map_set]
    · simp [updF_app,hp]
  have hsz0 := (size_nonneg _).1 hok
  cases hok with
  | null =>
    have hl : layT (.mk 0 w []) a W = W := by rw [layT_mk,if_pos rfl]
    rw [hl]
    refine ⟨u,specF_of t_centoref12_Lay (by simp) args famA_osl fun w0 I0 M0 m0 => ?_⟩
    unfold c_centoref12_Lay
    simp
    exact reth_fam rfl rfl fun p => by simp
  | str w ks b1 b2 hk =>
    rw [sizeT_mk,if_pos rfl] at hsz
    have hkn := sizeL_nonneg hk
    have e1 : IntKind.u64.wrap (ks.length : Int) = ks.length := u64_same (by omega) (by omega)
    have e2 : IntKind.u64.wrap (65536 * (ks.length : Int)) = 65536 * ks.length := u64_same (by omega) (by omega)
    have e3 : IntKind.u64.wrap (w.length : Int) = w.length := u64_same (by omega) (by omega)
    have e4 : IntKind.u64.wrap ((w.length : Int) + 65536 * ks.length) = w.length + 65536 * ks.length := u64_same (by omega) (by omega)
    have e5 : IntKind.i64.wrap ((w.length : Int) + ks.length) = (w.length : Int) + ks.length := i64_same (by omega) (by omega)
    have hz' : ((w.length : Int) + ks.length = 0) = (w.length + ks.length = 0) := by rw [eq_iff_iff]; omega
    have hle : (W.length + w.length) * 8≤140737488355328 := by omega
    obtain ⟨to,hto⟩ : ∃ to : Nat,to = if w.length + ks.length = 0 then a else W.length := ⟨_,rfl⟩
    have hP := rPointer_spec (a := a) (b := to) (k := 0) (u := (w.length : Int) + 65536 * ks.length) (by omega) (by omega) (by omega) (by split at hto <;> omega) (by omega) (by omega) (by omega) (by omega)
    obtain ⟨P,hPP⟩ : ∃ P : Int,P = ptrZ a to 0 ((w.length : Int) + 65536 * ks.length) := ⟨_,rfl⟩
    rw [← hPP] at hP
    have hAdd := rAdd_spec (u + 1) ks.length (W.set a P ++ w) (by simp; omega)
    obtain ⟨u',hL⟩ := rlay_l1 (t := .mk 1 w ks) (fun c hc => (ih c hc).1) hk (to := to) (by simp; split at hto <;> omega) ks.length 0 (u + 1 + ks.length) (W.set a P ++ w ++ List.replicate ks.length 0) (by simp) (by simp; split at hto <;> omega) (by simp; omega)
    have hl : layT (.mk 1 w ks) a W = layL ks (to + w.length) (W.set a P ++ w ++ List.replicate ks.length 0) := by
      rw [layT_mk,if_neg (by decide),if_pos rfl,hPP]
      by_cases hz : w.length + ks.length = 0
      · have : ks = [] := List.eq_nil_of_length_eq_zero (by omega)
        subst this
        rw [if_pos hz] at hto
        subst hto
        rw [if_pos hz]
        simp
      · rw [if_neg hz] at hto
        subst hto
        rw [if_neg hz]
    simp only [T.kids_mk,T.words_mk,List.drop_zero,Nat.add_zero] at hL
    obtain ⟨R,hR⟩ : ∃ R,R = layL ks (to + w.length) (W.set a P ++ w ++ List.replicate ks.length 0) := ⟨_,rfl⟩
    rw [hl,← hR]
    rw [← hR] at hL
    have hset2 : ∀ p,updF ((uvM u W).F 0) [] ⟨u + 1,.arr 1 (List.take W.length ((W.map uv).set a (uv P)) ++ w.map uv)⟩ p = (uvM (u + 1) (W.set a P ++ w)).F 0 p := fun p => by
      by_cases hp : p = []
      · subst hp; simp [updF_app,List.map_set,List.take_of_length_le]
      · simp [updF_app,hp]
    refine ⟨u',specF_of t_centoref12_Lay (by simp) args famA_osl fun w0 I0 M0 m0 => ?_⟩
    unfold c_centoref12_Lay
    have fin : ∀ Q : Exit→Sta→Prop,(∀ H',(∀ p,H' (0 :: p) = (uvM u' R).F 0 p)→Q .ret ⟨lk [(6,.osl [0] u' 1 0 R.length)],H'⟩)→WPC (cxh Tryz.prog w0 I0 M0 252 m0) k1_centoref12_Lay Q ⟨lk [(0,.osl [0] u 1 0 W.length),(1,nv a),(5,.pob [1] 1 0),(7,nv to)],ov 0 ((uvM u W).F 0) (lkH [([1],⟨1,.cells [iv 1,uws w,tKs ks]⟩)])⟩ := fun Q hQ => by
      unfold k1_centoref12_Lay
      simp [e1,e2,e3,e4]
      refine sc_call hP (by simp) ?_
      simp [ha,hle,updF_app]
      refine sc_fam 0 hAdd (fun p => hset2 p) (by simp) (by simp) ?_
      simp only [List.length_append,List.length_set]
      simp
      rw [show W.length + w.length + ks.length = (W.set a P ++ w ++ List.replicate ks.length 0).length from by simp; omega,← List.append_assoc]
      refine hL _ (fun p => by simp) (by simp) (fun q H' hH => ?_)
      simp
      exact hQ H' hH
    have e00 : IntKind.i64.wrap 0 = 0 := by decide
    by_cases hz : w.length + ks.length = 0
    · rw [if_pos hz] at hto
      subst hto
      have : ks = [] := List.eq_nil_of_length_eq_zero (by omega)
      subst this
      have : w = [] := List.eq_nil_of_length_eq_zero (by omega)
      subst this
      simp [e00]
      exact fin _ fun H' hH => reth_fam rfl rfl hH
    · rw [if_neg hz] at hto
      subst hto
      have hz2 : ¬ ((w.length : Int) + ks.length = 0) := by omega
      simp [e5,hz2]
      exact fin _ fun H' hH => reth_fam rfl rfl hH
  | ptrs w ks b1 hk =>
    rw [sizeT_mk,if_neg (by decide),if_pos rfl] at hsz
    have hkn := sizeL_nonneg hk
    have hP := rPointer_spec (a := a) (b := W.length) (k := 1) (u := 6 + 8 * (ks.length : Int)) (by omega) (by omega) (by omega) (by omega) (by omega) (by omega) (by omega) (by omega)
    have hAdd := rAdd_spec u ks.length (W.set a (ptrZ a W.length 1 (6 + 8 * (ks.length : Int)))) (by simp; omega)
    obtain ⟨u',hL⟩ := rlay_l2 (t := .mk 8 w ks) (fun c hc => (ih c hc).1) hk (to := W.length) (by simp; omega) ks.length 0 (u + ks.length) (W.set a (ptrZ a W.length 1 (6 + 8 * (ks.length : Int))) ++ List.replicate ks.length 0) (by simp) (by simp) (by simp; omega)
    have hl : layT (.mk 8 w ks) a W = layL ks W.length (W.set a (ptrZ a W.length 1 (6 + 8 * (ks.length : Int))) ++ List.replicate ks.length 0) := by rw [layT_mk,if_neg (by decide),if_neg (by decide),if_pos rfl]
    rw [hl]
    simp only [T.kids_mk,List.drop_zero,Nat.add_zero] at hL
    have e1 : IntKind.u64.wrap (ks.length : Int) = ks.length := u64_same (by omega) (by omega)
    have e2 : IntKind.u64.wrap (8 * (ks.length : Int)) = 8 * ks.length := u64_same (by omega) (by omega)
    have e3 : IntKind.u64.wrap (6 + 8 * (ks.length : Int)) = 6 + 8 * ks.length := u64_same (by omega) (by omega)
    refine ⟨u',specF_of t_centoref12_Lay (by simp) args famA_osl fun w0 I0 M0 m0 => ?_⟩
    unfold c_centoref12_Lay
    simp [e1,e2,e3]
    refine sc_call hP (by simp) ?_
    simp [ha]
    refine sc_fam 0 hAdd (fun p => hset _ p) (by simp) (by simp) ?_
    simp
    rw [show W.length + ks.length = (W.set a (ptrZ a W.length 1 (6 + 8 * (ks.length : Int))) ++ List.replicate ks.length 0).length from by simp]
    refine hL _ (fun p => by simp) (by simp) (fun q H' hH => ?_)
    simp
    exact reth_fam rfl rfl hH
  | comp w ks b1 b2 hk =>
    rw [sizeT_mk,if_neg (by decide),if_neg (by decide),if_neg (by decide),if_pos rfl] at hsz
    have hkn := sizeLL_nonneg hk
    obtain ⟨hb3,hb4⟩ := frame_bound (ts := ks) (w := 65535) (k := 65535) fun c hc => by have := b2 c hc; omega
    have hfw : ∀ c,c ∈ ks→c.words.length≤frameW ks := fun c hc => frameW_le hc
    have hfk : ∀ c,c ∈ ks→c.kids.length≤frameK ks := fun c hc => frameK_le hc
    have hfr := rFrame_spec (.mk 9 w ks) (by simp; omega)
    simp only [T.kids_mk] at hfr
    have hl : layT (.mk 9 w ks) a W = layC (frameW ks) (frameK ks) ks (W.length + 1) (W.set a (ptrZ a W.length 1 (7 + 8 * (ks.length * (frameW ks + frameK ks) : Nat))) ++ [4 * (ks.length : Int) + 4294967296 * ((frameW ks : Int) + 65536 * frameK ks)] ++ rowsC (frameW ks) (frameK ks) ks) := by
      rw [layT_mk,if_neg (by decide),if_neg (by decide),if_neg (by decide),if_pos rfl]
    rw [hl]
    have hrl := rowsC_length (w := frameW ks) (k := frameK ks) ks fun c hc => by have := hfw c hc; omega
    have hcast : (ks.length : Int) * ((frameW ks : Int) + frameK ks) = ((ks.length * (frameW ks + frameK ks) : Nat) : Int) := by rw [Int.natCast_mul,Int.natCast_add]
    rw [hcast] at hsz
    clear hl
    generalize frameW ks = fw at *
    generalize frameK ks = fk at *
    have hP := rPointer_spec (a := a) (b := W.length) (k := 1) (u := 7 + 8 * ((ks.length * (fw + fk) : Nat) : Int)) (by omega) (by omega) (by omega) (by omega) (by omega) (by omega) (by omega) (by omega)
    obtain ⟨P,hPP⟩ : ∃ P : Int,P = ptrZ a W.length 1 (7 + 8 * ((ks.length * (fw + fk) : Nat) : Int)) := ⟨_,rfl⟩
    rw [← hPP] at hP ⊢
    obtain ⟨u1,h3⟩ := rlay_l3 (t := .mk 9 w ks) (w := fw) (k := fk) (to := W.length) hfw (by omega) b1 ks.length 0 (u + 1) (W.set a P ++ [4 * (ks.length : Int) + 4294967296 * ((fw : Int) + 65536 * fk)]) (by simp) (by simp; omega)
    obtain ⟨u2,h5⟩ := rlay_l5 (t := .mk 9 w ks) (w := fw) (k := fk) (to := W.length) (fun c hc d hd => ⟨(ih c hc).2 d hd,hk c hc d hd⟩) hfk (by omega) b1 (by simp; omega) ks.length 0 u1 (W.set a P ++ [4 * (ks.length : Int) + 4294967296 * ((fw : Int) + 65536 * fk)] ++ rowsC fw fk ks) (by simp) (by simp [hrl]; omega) (by simp [hrl]; omega)
    simp only [T.kids_mk,List.drop_zero,Nat.zero_mul,Nat.add_zero] at h3 h5
    generalize hN : ks.length * (fw + fk) = N at *
    have e1 : IntKind.i64.wrap ((fw : Int) + fk) = (fw : Int) + fk := i64_same (by omega) (by omega)
    have e2 : IntKind.i64.wrap ((ks.length : Int) * ((fw : Int) + fk)) = (N : Int) := by rw [hcast]; exact i64_same (by omega) (by omega)
    have e3 : IntKind.u64.wrap (N : Int) = N := u64_same (by omega) (by omega)
    have e4 : IntKind.u64.wrap (8 * (N : Int)) = 8 * N := u64_same (by omega) (by omega)
    have e5 : IntKind.u64.wrap (7 + 8 * (N : Int)) = 7 + 8 * N := u64_same (by omega) (by omega)
    have f1 : IntKind.u64.wrap (fw : Int) = fw := u64_same (by omega) (by omega)
    have f2 : IntKind.u64.wrap (fk : Int) = fk := u64_same (by omega) (by omega)
    have f3 : IntKind.u64.wrap (65536 * (fk : Int)) = 65536 * fk := u64_same (by omega) (by omega)
    have f4 : IntKind.u64.wrap ((fw : Int) + 65536 * fk) = fw + 65536 * fk := u64_same (by omega) (by omega)
    have f5 : IntKind.u64.wrap (4294967296 * ((fw : Int) + 65536 * fk)) = 4294967296 * (fw + 65536 * fk) := u64_same (by omega) (by omega)
    have f6 : IntKind.i64.wrap (4 * (ks.length : Int)) = 4 * ks.length := i64_same (by omega) (by omega)
    have f7 : IntKind.u64.wrap (4 * (ks.length : Int)) = 4 * ks.length := u64_same (by omega) (by omega)
    have f8 : IntKind.u64.wrap (4 * (ks.length : Int) + 4294967296 * (fw + 65536 * fk)) = 4 * ks.length + 4294967296 * (fw + 65536 * fk) := u64_same (by omega) (by omega)
    obtain ⟨Y,hY⟩ : ∃ Y,Y = W.set a P ++ [4 * (ks.length : Int) + 4294967296 * ((fw : Int) + 65536 * fk)] := ⟨_,rfl⟩
    rw [← hY] at h3 h5 ⊢
    have hYl : Y.length = W.length + 1 := by rw [hY]; simp
    have hset3 : ∀ p,updF ((uvM u W).F 0) [] ⟨u + 1,.arr 1 (List.take W.length ((W.map uv).set a (uv P)) ++ [uv (4 * (ks.length : Int) + 4294967296 * ((fw : Int) + 65536 * fk))])⟩ p = (uvM (u + 1) Y).F 0 p := fun p => by
      subst hY
      by_cases hp : p = []
      · subst hp; simp [updF_app,List.map_set,List.take_of_length_le]
      · simp [updF_app,hp]
    clear hY
    generalize Y ++ rowsC fw fk ks = X at h3 h5 ⊢
    generalize layC fw fk ks (W.length + 1) X = R at h5 ⊢
    have hle : (W.length + 1) * 8≤140737488355328 := by omega
    refine ⟨u2,specF_of t_centoref12_Lay (by simp) args famA_osl fun w0 I0 M0 m0 => ?_⟩
    unfold c_centoref12_Lay
    simp
    refine sc_call hfr (by simp) ?_
    simp [e1,e2,e3,e4,e5]
    refine sc_call hP (by simp) ?_
    simp [ha,updF_app,f1,f2,f3,f4,f5,f6,f7,f8,hle]
    rw [← hYl]
    refine h3 _ (fun p => hset3 p) (by simp) (fun q H' hH hA => ?_)
    simp
    refine h5 H' hH hA (fun q H2 hH2 => ?_)
    simp
    exact reth_fam rfl rfl hH2
  | data k w ks h1 h2 b1 b2 =>
    rw [sizeT_mk,if_neg (by omega),if_neg (by omega),if_pos ⟨h1,h2⟩] at hsz
    have hwd : ∀ c,c ∈ ks→c.words = [hd c] := fun c hc => by
      obtain ⟨x,hx,_⟩ := b2 c hc
      simp [hx,hd]
    have hfit : ∀ x,x ∈ ks.map hd→u64R x∧fitsZ (k - 2) x = true := fun x hx => by
      obtain ⟨c,hc,rfl⟩ := List.mem_map.1 hx
      obtain ⟨x,hx,q1,q2,q3⟩ := b2 c hc
      have : hd c = x := by simp [hx,hd]
      rw [this]
      exact ⟨⟨q1,q2⟩,q3⟩
    have hrn := roomZ_nonneg (k - 2) ks.length
    have hAt := rAtoms_spec (t := .mk k w ks) (by simp; omega) hwd
    have hPu := rPut_spec (c := k - 2) (by omega) (by omega) (ns := ks.map hd) (by simp; omega) hfit
    have hP := rPointer_spec (a := a) (b := W.length) (k := 1) (u := k - 2 + 8 * (ks.length : Int)) (by omega) (by omega) (by omega) (by omega) (by omega) (by omega) (by omega) (by omega)
    have hl : layT (.mk k w ks) a W = W.set a (ptrZ a W.length 1 (k - 2 + 8 * (ks.length : Int))) ++ putZ (k - 2) (ks.map hd) := by
      rw [layT_mk,if_neg (by omega),if_neg (by omega),if_neg (by omega),if_neg (by omega)]
    have hpl : (putZ (k - 2) (ks.map hd)).length = (roomZ (k - 2) ks.length).toNat := by simp
    rw [hl]
    obtain ⟨P,hPP⟩ : ∃ P : Int,P = ptrZ a W.length 1 (k - 2 + 8 * (ks.length : Int)) := ⟨_,rfl⟩
    rw [← hPP] at hP ⊢
    simp only [T.kids_mk] at hAt
    generalize putZ (k - 2) (ks.map hd) = Z at hPu hpl ⊢
    have e1 : IntKind.i64.wrap (k - 2) = k - 2 := i64_same (by omega) (by omega)
    have e2 : IntKind.u64.wrap (ks.length : Int) = ks.length := u64_same (by omega) (by omega)
    have e3 : IntKind.u64.wrap (8 * (ks.length : Int)) = 8 * ks.length := u64_same (by omega) (by omega)
    have e4 : IntKind.u64.wrap (k - 2) = k - 2 := u64_same (by omega) (by omega)
    have e5 : IntKind.u64.wrap (k - 2 + 8 * (ks.length : Int)) = k - 2 + 8 * ks.length := u64_same (by omega) (by omega)
    have n0 : ¬ k = 0 := by omega
    have n1 : ¬ k = 1 := by omega
    have n8 : ¬ k = 8 := by omega
    have n9 : ¬ k = 9 := by omega
    have hle : (W.length + Z.length) * 8≤140737488355328 := by omega
    refine ⟨u + 1,specF_of t_centoref12_Lay (by simp) args famA_osl fun w0 I0 M0 m0 => ?_⟩
    unfold c_centoref12_Lay
    simp [n0,n1,n8,n9]
    refine sc_call hAt (by simp) ?_
    simp [e1]
    refine sc_call hPu (by simp) ?_
    simp [e1,e2,e3,e4,e5]
    refine sc_call hP (by simp) ?_
    simp [ha,updF_app,hle]
    refine reth_fam rfl (by simp) fun p => ?_
    by_cases hp : p = []
    · subst hp; simp [updF_app,List.map_set,List.take_of_length_le]
    · simp [updF_app,hp]
theorem rLay_spec {t : T} (hok : LayOk t) {W : List Int} {a u : Nat} (ha : a < W.length) (hs : (W.length : Int) + sizeT t≤200000) : ∃ u',SpecF Tryz.prog 34 (fun r => [.osl [r] u 1 0 W.length,nv a,tX t]) (uvM u W) (fun r => .osl [r] u' 1 0 (layT t a W).length) (uvM u' (layT t a W)) := (rLay_all t).1 u W a hok ha hs
theorem rEnc2_spec {t : T} (hw : wfT t) (most : Int) (hsz : rightT 64 t = true→t.kind ≠ 10→sizeT (norm t) < 9223372036854775808) :
    G.Spec Tryz.prog 12 [tX t,iv most] (.tup [uws (cnW most t),bv (cnOk most t)]) := by
  have no : cnOk most t = false→cnW most t = [] := fun h => by simp [cnW,h]
  refine spec_of t_centoref12_Encode (by simp) fun w0 I0 => ?_
  unfold c_centoref12_Encode
  simp
  refine sc_call (rRight_spec t hw 64 (by omega)) (by simp) ?_
  by_cases hr : rightT 64 t = true
  · by_cases h10 : t.kind = 10
    · have hf : cnOk most t = false := by simp [cnOk,h10]
      rw [no hf,hf]
      simp [hr,h10]
      exact frz_tup (by simp; exact ⟨frz_sl,frz_bare rfl⟩)
    · have hok := laid_right t 64 hr hw h10
      have hs0 := (size_nonneg _).1 hok
      have hwn := wf_norm _ hw
      have h1 := hsz hr h10
      have hS := rSize_spec _ hwn
      have e1 : i64w (sizeT (norm t)) = sizeT (norm t) := i64_same (by omega) (by omega)
      rw [e1,show tX (norm t) = .agg [iv t.kind,uws (norm t).words,tKs (norm t).kids] from by simp] at hS
      rw [hr]
      simp [h10]
      refine sc_call (rNorm_spec t hw) (by simp) ?_
      simp
      refine sc_call hS (by simp) ?_
      by_cases hm : most≤sizeT (norm t)
      · have hf : cnOk most t = false := by simp [cnOk]; intros; omega
        rw [no hf,hf]
        simp [hm]
        refine sc_call_off rfl ?_
        simp
        exact frz_tup (by simp; exact ⟨frz_sl,frz_bare rfl⟩)
      · simp [hm]
        refine sc_call_gf rfl (fun _ => hS) (fun _ => rfl) (by simp) ?_
        by_cases hm2 : 131072≤sizeT (norm t)
        · have hf : cnOk most t = false := by simp [cnOk]; intros; omega
          rw [no hf,hf]
          simp [hm2]
          exact frz_tup (by simp; exact ⟨frz_sl,frz_bare rfl⟩)
        · have hf : cnOk most t = true := by simp [cnOk,hr,h10]; omega
          have hW : cnW most t = layT (norm t) 0 [0] := by simp [cnW,hf]
          rw [hW,hf]
          obtain ⟨u',hL⟩ := rLay_spec hok (W := [0]) (a := 0) (u := 1) (by simp) (by simp; omega)
          simp [hm2]
          refine sc_fam 5 hL (fun p => by simp) (by simp) (by simp) ?_
          simp
          exact frz_tup (by simp; exact ⟨frz_row (f := uv) (sz := 1) (by simp) rfl (fun _ => rfl),frz_bare rfl⟩)
  · have hf : cnOk most t = false := by simp [cnOk,hr]
    rw [no hf,hf]
    simp at hr
    simp [hr]
    exact frz_tup (by simp; exact ⟨frz_sl,frz_bare rfl⟩)
end Go.Proofs.YtbjmaoedheiigaaGreat
namespace Go.Proofs.YtbjmaoedheiigaaGreat
set_option linter.unusedVariables false
set_option linter.unusedSimpArgs false
set_option maxRecDepth 20000
open Go Go.G Go.Proofs
def l1_centoref07_Depth : CC := .seq (sR [mO 14 4,fO 15 25 1 2,lO 16 23 15,oO 17 (bL 16 23),oO 18 (bO .lss 3 14 17 3)] [1,3,4,18] (cD 18 (.skip) (.exit 0))) (.keep [1,3,4] (.seq (.block 1 (sR [fO 21 25 1 2,lO 22 23 21,mO 23 4,oO 24 (iA 23 22 23),lO 25 25 24,oO 26 (cL 9 #[(xT 25)] #[25]),aO 5 26] [1,3,4,5] (sR [mO 27 5,oO 28 (.binOp .add 3 (xT 27) (nI 1) 3),mO 29 3,oO 30 (bO .gtr 3 28 29 3)] [1,3,4,5,30] (cD 30 (.reg [mO 31 5,oO 32 (.binOp .add 3 (xT 31) (nI 1) 3),aO 3 32] [1,3,4]) (.skip))))) (.keep [1,3,4] (.reg [mO 19 4,oO 20 (.binOp .add 3 (xT 19) (nI 1) 3),aO 4 20] [1,3,4])))) 
def c_centoref07_Depth : CC := sR [oN 1 (.box 25 (xT 0)) [0],oO 2 (.assign (nI 0))] [1] (.seq (sR [fO 6 25 1 0,lO 7 3 6,oO 8 (.binOp .eql 3 (xT 7) (nI 0) 3),mO 9 8,oG 10 (fA 25 1 0) 9 false,oG 11 (lD 3 10) 9 false,oG 12 (.binOp .eql 3 (xT 11) (nI 10) 3) 9 false,oO 13 (.pick (xT 9) (nB true) (xT 12))] [1,13] (cD 13 (sR [oO 2 (.assign (nI 0))] [2] (.ret)) (.skip))) (.keep [1] (sR [oO 3 (.assign (nI 1))] [1,3] (.seq (sR [oO 4 (.assign (nI 0))] [1,3,4] (.block 0 (.loop l1_centoref07_Depth))) (.keep [3] (sR [mO 33 3,aO 2 33] [2] (.ret)))))))
theorem t_centoref07_Depth : Txt Tryz.prog 9 34 [(.tmp 2)] c_centoref07_Depth := txt_of (code := Tryz.f9.body.getD .ret) mixed (by kernel_rfl) Tryz.func9 (by kernel_rfl) Tryz.ntmps9 (by kernel_rfl) (ls := lsOf c_centoref07_Depth) (by kernel_rfl)
def c_cost_Saves : CC := sR [oN 2 (.box 33 (xT 0)) [0],oN 3 (.box 25 (xT 1)) [1],oO 4 (.assign (nI 0))] [2,3] (sR [lO 8 25 3,oO 9 (cL 36 #[(xT 8),(nI 131072)] #[25,3]),mO 7 9,xO 10 7 0,xO 11 7 1,aO 5 10,aO 6 11] [2,5,6] (.seq (sR [mO 12 6,oO 13 (.unOp .not 4 (xT 12))] [2,5,13] (cD 13 (sR [oO 4 (.assign (nI 0))] [4] (.ret)) (.skip))) (.keep [2,5] (sR [mO 14 5,oO 15 (bL 14 22),lO 16 33 2,oO 17 (cL 13 #[(xT 16)] #[33]),oO 18 (bO .sub 3 15 17 3),aO 4 18] [4] (.ret)))))
theorem t_cost_Saves : Txt Tryz.prog 14 19 [(.tmp 4)] c_cost_Saves := txt_of (code := Tryz.f14.body.getD .ret) mixed (by kernel_rfl) Tryz.func14 (by kernel_rfl) Tryz.ntmps14 (by kernel_rfl) (ls := lsOf c_cost_Saves) (by kernel_rfl)
def k1_centolaw39_CostSaves : CC := sR [lO 46 33 7,lO 47 25 4,oO 48 (cL 14 #[(xT 46),(xT 47)] #[33,25]),mO 49 10,oO 50 (bO .eql 3 48 49 3),mO 51 50,oG 52 (cL 10 #[] #[]) 51 true,oO 53 (.pick (xT 51) (xT 52) (nB false)),aO 6 53] [6] (.ret) 
def c_centolaw39_CostSaves : CC := sR [oN 3 (.box 25 (xT 0)) [0],oN 4 (.box 25 (xT 1)) [1],oO 6 (.assign (nB false))] [2,3,4] (.seq (sR [lO 11 25 3,oO 12 (cL 8 #[(xT 11)] #[25]),oO 13 (.unOp .not 4 (xT 12)),mO 14 13,oG 15 (lD 25 4) 14 false,oG 16 (cL 8 #[(xT 15)] #[25]) 14 false,oG 17 (.unOp .not 4 (xT 16)) 14 false,oO 18 (.pick (xT 14) (nB true) (xT 17)),mO 19 18,oG 20 (lD 25 3) 19 false,oG 21 (cL 9 #[(xT 20)] #[25]) 19 false,oG 22 (.binOp .gtr 3 (xT 21) (nI 20) 3) 19 false,oO 23 (.pick (xT 19) (nB true) (xT 22)),mO 24 23,oG 25 (lD 25 4) 24 false,oG 26 (cL 9 #[(xT 25)] #[25]) 24 false,oG 27 (.binOp .gtr 3 (xT 26) (nI 20) 3) 24 false,oO 28 (.pick (xT 24) (nB true) (xT 27))] [2,3,4,28] (cD 28 (sR [oO 29 (cL 10 #[] #[]),aO 6 29] [6] (.ret)) (.skip))) (.keep [2,3,4] (sR [lO 30 25 3,lO 31 25 4,mO 32 2,oO 33 (cL 11 #[(xT 30),(xT 31),(xT 32)] #[25,25,3]),oN 7 (.alloc 33) [2],oS (.store 33 (xT 7) (xT 33))] [4,7] (sR [lO 35 25 4,oO 36 (cL 12 #[(xT 35),(nI 131072)] #[25,3]),mO 34 36,xO 37 34 0,xO 38 34 1,aO 8 37,aO 9 38] [4,7,8,9] (sR [mO 39 8,oO 40 (bL 39 22),lO 41 33 7,oO 42 (cL 13 #[(xT 41)] #[33]),oO 43 (bO .sub 3 40 42 3),aO 10 43] [4,7,9,10] (.seq (sR [mO 44 9,oO 45 (.unOp .not 4 (xT 44))] [4,7,10,45] (cD 45 (.reg [oO 10 (.assign (nI 0))] [4,7,10]) (.skip))) (.keep [4,7,10] k1_centolaw39_CostSaves)))))))
theorem t_centolaw39_CostSaves : Txt Tryz.prog 3 54 [(.tmp 6)] c_centolaw39_CostSaves := txt_of (code := Tryz.f3.body.getD .ret) mixed (by kernel_rfl) Tryz.func3 (by kernel_rfl) Tryz.ntmps3 (by kernel_rfl) (ls := lsOf c_centolaw39_CostSaves) (by kernel_rfl)
end Go.Proofs.YtbjmaoedheiigaaGreat
