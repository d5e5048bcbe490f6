/-
  Texts, merged, without what is not reached.
-/
import Derived.Test.YtmeldaflhkiopaaGreatKXe
namespace Go.Proofs.YtmeldaflhkiopaaGreat
set_option linter.unusedVariables false
set_option linter.unusedSimpArgs false
open Go Go.G Go.Proofs Go.PL
inductive WI where
  | keep (n : Int)
  | del (k v : Nat) (l : List T)
  | ins (k v : Nat) (l : List T)
  | desc (e : E)
def WI.op : WI→OP
  | .keep n => .mk 0 n [] E0
  | .del _ _ l => .mk 1 0 l E0
  | .ins _ _ l => .mk 2 0 l E0
  | .desc e => .mk 3 0 [] e
def rawE : List A := [iv 0,iv 0,.sl true [],.sl true [],iv 0,.sl true [],.sl true [],.sl true [],.sl true [],iv 0,.sl true []]
def wiC (r : Nat) : WI→List A
  | .keep n => iv 0 :: iv n :: .sl true [] :: rawE
  | .del k v l => iv 1 :: iv 0 :: .osl (r :: [k]) v 3 0 l.length :: rawE
  | .ins k v l => iv 2 :: iv 0 :: .osl (r :: [k]) v 3 0 l.length :: rawE
  | .desc e => iv 3 :: iv 0 :: .sl true [] :: eL e
def wiA (r : Nat) (x : WI) : A := .agg (wiC r x)
@[simp] theorem wiA_cells {r : Nat} {x : WI} : (wiA r x).cells = wiC r x := rfl
@[simp] theorem wiC_len {r : Nat} {x : WI} : (wiC r x).length = 14 := by cases x <;> rfl
theorem wiC_ren {g : Nm→Nm} {δ : Nm→Nat} {r r' : Nat} (hg : ∀ p,g (r :: p) = r' :: p) (hd : ∀ p,δ (r :: p) = 0) (x : WI) : A.renL g δ (wiC r x) = wiC r' x := by
  cases x <;> simp [wiC,rawE,A.renL,A.ren,hg,hd]
theorem wiC_refs {D : Nm→Prop} {r : Nat} (hD : ∀ p,D (r :: p)) (x : WI) : A.refsL D (wiC r x) := by
  cases x <;> simp [wiC,rawE,A.refsL,A.refs,hD]
def wtV (r : Nat) : Option (Nat × Nat × List T)→A
  | some (k,v,l) => .osl (r :: [k]) v 3 0 l.length
  | none => .sl true []
abbrev Rws := Nat→Option (Nat × List T)
def rwB : Option (Nat × List T)→VOb
  | some (v,l) => ⟨v,.arr 3 (l.map tA)⟩
  | none => ⟨0,.none⟩
theorem wtV_ren {g : Nm→Nm} {δ : Nm→Nat} {r r' : Nat} (hg : ∀ p,g (r :: p) = r' :: p) (hd : ∀ p,δ (r :: p) = 0) (o : Option (Nat × Nat × List T)) : (wtV r o).ren g δ = wtV r' o := by
  rcases o with _ | ⟨k,v,l⟩
  · simp [wtV,A.ren]
  · simp [wtV,A.ren,hg,hd]
def rowAt (R : Rws) : Nm→VOb
  | [k] => rwB (R k)
  | _ => ⟨0,.none⟩
@[simp] theorem rowAt_one {R : Rws} {k : Nat} : rowAt R [k] = rwB (R k) := rfl
theorem rwB_ren {g : Nm→Nm} {δ : Nm→Nat} (o : Option (Nat × List T)) : VOb.ren g δ 0 (rwB o) = rwB o := by
  rcases o with _ | ⟨v,l⟩
  · rfl
  · refine Fam.arr_ren ?_
    simp only [renL_map,List.map_map]
    refine List.map_congr_left fun x _ => ?_
    simp [A.ren,A.renL]
theorem rowAt_ren {g : Nm→Nm} {δ : Nm→Nat} (R : Rws) : ∀ p,VOb.ren g δ 0 (rowAt R p) = rowAt R p
  | [] => rfl
  | [k] => rwB_ren _
  | _ :: _ :: _ => rfl
theorem rwB_refs {D : Nm→Prop} (o : Option (Nat × List T)) : (rwB o).ob.refs D := by
  rcases o with _ | ⟨v,l⟩
  · trivial
  · simp only [rwB,Ob.refs,refsL_iff]
    intro y hy
    obtain ⟨x,_,rfl⟩ := List.mem_map.1 hy
    simp [A.refs,A.refsL]
theorem rowAt_refs {D : Nm→Prop} (R : Rws) : ∀ p,(rowAt R p).ob.refs D
  | [] => trivial
  | [k] => rwB_refs _
  | _ :: _ :: _ => trivial
def wlF (its : List WI) (vo : Nat) (g b : Option (Nat × Nat × List T)) (R : Rws) : Fam := ⟨fun r p => if p = [] then ⟨1,.cells [.osl (r :: [0]) vo 14 0 its.length,wtV r g,wtV r b]⟩ else if p = [0] then ⟨vo,.arr 14 (its.map (wiA r))⟩ else rowAt R p,fun {γ δ r r'} hg hd p => by
    by_cases h1 : p = []
    · rw [if_pos h1,if_pos h1]
      refine Fam.cells_ren ?_
      simp [A.renL,A.ren,hg,hd,wtV_ren hg hd]
    · rw [if_neg h1,if_neg h1]
      by_cases h2 : p = [0]
      · rw [if_pos h2,if_pos h2]
        refine Fam.arr_ren ?_
        simp only [renL_map,List.map_map]
        refine List.map_congr_left fun x _ => ?_
        simp [wiA,A.ren,wiC_ren hg hd]
      · rw [if_neg h2,if_neg h2]
        exact rowAt_ren R p,fun {D r} hD p => by
    by_cases h1 : p = []
    · rw [if_pos h1]
      rcases g with _ | ⟨k,v,l⟩ <;> rcases b with _ | ⟨k',v',l'⟩ <;> simp [Ob.refs,A.refsL,A.refs,hD,wtV]
    · rw [if_neg h1]
      by_cases h2 : p = [0]
      · rw [if_pos h2]
        simp only [Ob.refs,refsL_iff]
        intro y hy
        obtain ⟨x,_,rfl⟩ := List.mem_map.1 hy
        simp only [A.refs,wiA]
        exact wiC_refs hD x
      · rw [if_neg h2]
        exact rowAt_refs R p⟩
@[simp] theorem wlF_F {its : List WI} {vo : Nat} {g b : Option (Nat × Nat × List T)} {R : Rws} {r : Nat} {p : Nm} : (wlF its vo g b R).F r p = if p = [] then ⟨1,.cells [.osl (r :: [0]) vo 14 0 its.length,wtV r g,wtV r b]⟩ else if p = [0] then ⟨vo,.arr 14 (its.map (wiA r))⟩ else rowAt R p := rfl
abbrev wrP (r : Nat) : A := .pob [r] 1 0
theorem lens_wi {r : Nat} {l : List WI} : lens 14 (l.map (wiA r)) = true := by rw [lens_all]; simp
def delI : Nat × Nat × List T→List WI
  | (k,v,l) => if l = [] then [] else [.del k v l]
def insI22 : Nat × Nat × List T→List WI
  | (k,v,l) => if l = [] then [] else [.ins k v l]
theorem flush_spec22 (its : List WI) (vo : Nat) (g b : Nat × Nat × List T) (R : Rws) (hl : its.length≤1000000) (hg : R g.1 = some (g.2.1,g.2.2)) (hb : R b.1 = some (b.2.1,b.2.2)) (hg0 : 1≤g.1) (hb0 : 1≤b.1) : SpecF Tryz.prog 65 (fun r => [wrP r]) (wlF its vo (some g) (some b) R) (fun _ => .tup []) (wlF (its ++ (delI g ++ insI22 b)) (vo + (delI g ++ insI22 b).length) none none R) := by
  obtain ⟨gk,gv,gl⟩ := g
  obtain ⟨bk,bv',bl⟩ := b
  refine specF_of t_normal_writer_flush (by simp) (famL_cons famA_pob famL_nil) (famA_tup famL_nil) fun w0 I0 M0 m0 => ?_
  unfold c_normal_writer_flush
  by_cases h1 : gl = []
  · by_cases h2 : bl = []
    · simp [h1,h2,wtV]
      rw [k1_normal_writer_flush.eq_1]
      simp [h1,h2,wtV,updF_app]
      refine reth_famN rfl rfl (fun p => ?_)
      by_cases p1 : p = []
      · subst p1; simp [updF_app,delI,insI22,wtV]
      · by_cases p2 : p = [0]
        · subst p2; simp [updF_app,delI,insI22]
        · simp [p1,p2,updF_app]
    · have h2' : (0 : Int) < bl.length := by have := List.length_pos_iff.2 h2; omega
      have h2n := List.length_pos_iff.2 h2
      simp [h1,h2,wtV]
      rw [k1_normal_writer_flush.eq_1]
      simp [h1,h2,h2',h2n,wtV,updF_app,lens_wi]
      refine ⟨by omega,by omega,?_⟩
      refine reth_famN rfl rfl (fun p => ?_)
      by_cases p1 : p = []
      · subst p1; simp [updF_app,delI,insI22,wtV,h1,h2]
      · by_cases p2 : p = [0]
        · subst p2; simp [updF_app,delI,insI22,h1,h2,wiA,wiC,rawE,List.take_of_length_le]
        · simp [p1,p2,updF_app]
  · have h1' : (0 : Int) < gl.length := by have := List.length_pos_iff.2 h1; omega
    have h1n := List.length_pos_iff.2 h1
    by_cases h2 : bl = []
    · simp [h1,h1',h1n,h2,wtV,updF_app,lens_wi]
      refine ⟨by omega,by omega,?_⟩
      rw [k1_normal_writer_flush.eq_1]
      simp [h1,h2,wtV,updF_app]
      refine reth_famN rfl rfl (fun p => ?_)
      by_cases p1 : p = []
      · subst p1; simp [updF_app,delI,insI22,wtV,h1,h2]
      · by_cases p2 : p = [0]
        · subst p2; simp [updF_app,delI,insI22,h1,h2,wiA,wiC,rawE,List.take_of_length_le]
        · simp [p1,p2,updF_app]
    · have h2' : (0 : Int) < bl.length := by have := List.length_pos_iff.2 h2; omega
      have h2n := List.length_pos_iff.2 h2
      simp [h1,h1',h1n,h2,wtV,updF_app,lens_wi]
      refine ⟨by omega,by omega,?_⟩
      rw [k1_normal_writer_flush.eq_1]
      simp [h1,h2,h2',h2n,wtV,updF_app]
      refine ⟨by omega,⟨by omega,by omega⟩,?_⟩
      refine reth_famN rfl rfl (fun p => ?_)
      by_cases p1 : p = []
      · subst p1; simp [updF_app,delI,insI22,wtV,h1,h2]
      · by_cases p2 : p = [0]
        · subst p2; simp [updF_app,delI,insI22,h1,h2,wiA,wiC,rawE,List.take_of_length_le]
        · simp [p1,p2,updF_app]
theorem tk_at (l : List T) (x : A) : (l.map tA ++ [x])[l.length]? = some x := by rw [List.getElem?_append_right (by simp)]; simp
theorem tk_take (l : List T) : List.take l.length (l.map tA) = l.map tA := List.take_of_length_le (by simp)
theorem wait_l1 {n0 : Nat} {w0 : World} {I0 : Nat→Prop} {M0 : Nm→Nat→Prop} {m0 : Mu} {Q : Exit→Sta→Prop} {its : List WI} {vo off k : Nat} {g b : Option (Nat × Nat × List T)} {R : Rws} {ts l0 : List T} {v0 : Nat} (hts : ∀ t,t ∈ ts→wfT t) (hl : l0.length + ts.length≤1000000) (hk : 1≤k)
    (F : Nat→List T→Fam) (hF0 : ∀ v l,(F v l).F 0 [] = ⟨1,.cells [.osl [0,0] vo 14 0 its.length,if off = 1 then .osl [0,k] v 3 0 l.length else wtV 0 g,if off = 1 then wtV 0 b else .osl [0,k] v 3 0 l.length]⟩) (hoff : off = 1∨off = 2) (hFk : ∀ v l,(F v l).F 0 [k] = ⟨v,.arr 3 (l.map tA)⟩) (hFo : ∀ v l v' l' p,p ≠ []→p ≠ [k]→(F v l).F 0 p = (F v' l').F 0 p)
    (hq : ∀ H st,(∀ p,H (0 :: p) = (F (v0 + ts.length) (l0 ++ ts.map norm)).F 0 p)→Q (.exit 0) ⟨lk st,H⟩) : ∀ (m i : Nat) (H : Hp),i + m = ts.length→(∀ p,H (0 :: p) = (F (v0 + i) (l0 ++ (ts.take i).map norm)).F 0 p) →
    LoopC (cxh Tryz.prog w0 I0 M0 n0 m0) l1_normal_wait Q ⟨lk [(0,.pob [0] 1 off),(6,tKs ts),(7,iv ts.length),(8,iv i)],H⟩ := by
  intro m
  induction m with
  | zero =>
    intro i H hm hH
    refine loopC_once mixed l1_normal_wait.eq_1 ?_
    have : i = ts.length := by omega
    subst this
    rw [List.take_of_length_le (Nat.le_refl _)] at hH
    simp
    exact hq H _ hH
  | succ m ih =>
    intro i H hm hH
    have hi : i < ts.length := by omega
    have ew : IntKind.i64.wrap ((i : Int) + 1) = ((i + 1 : Nat) : Int) := by rw [i64_same (by omega) (by omega)]; omega
    have h0 := hH []
    rw [hF0] at h0
    have h1 := hH [k]
    rw [hFk] at h1
    have hN := tNorm_spec ts[i] (hts _ (List.getElem_mem hi))
    have hLs : l0 ++ (ts.take (i + 1)).map norm = l0 ++ (ts.take i).map norm ++ [norm ts[i]] := by rw [List.take_succ_eq_append_getElem hi,List.map_append,← List.append_assoc]; rfl
    have hLl : (l0 ++ (ts.take i).map norm).length≤1000000 := by simp; omega
    have next := ih (i + 1)
    rw [hLs,← Nat.add_assoc] at next
    generalize l0 ++ (ts.take i).map norm = L at *
    generalize v0 + i = v at *
    have hH' : ∀ (p : Nm) (H2 : Hp),p ≠ []→p ≠ [k]→H2 (0 :: p) = H (0 :: p)→H2 (0 :: p) = (F (v + 1) (L ++ [norm ts[i]])).F 0 p := fun p H2 p1 p2 he => by rw [he,hH,hFo _ _ _ _ p p1 p2]
    refine loopC_once mixed l1_normal_wait.eq_1 ?_
    rcases hoff with rfl | rfl
    all_goals
      simp at h0 h1
      simp [hi,updF_app,h0]
      refine sc_call hN (by simp [updF_app]) ?_
      simp [updF_app,h0,h1,show ¬ k = 0 by omega,show ¬ 0 = k by omega,tk_at,tk_take,ew]
      refine ⟨by omega,by omega,?_⟩
      refine next _ (by omega) (fun p => ?_)
      by_cases p1 : p = []
      · subst p1; rw [hF0]; simp [updF_app,show ¬ k = 0 by omega,show ¬ 0 = k by omega]
      · by_cases p2 : p = [k]
        · subst p2; rw [hFk]; simp [updF_app,show ¬ k = 0 by omega,show ¬ 0 = k by omega]
        · exact hH' p _ p1 p2 (by simp [updF_app,p1,p2,Ne.symm p1,Ne.symm p2])
def setR (R : Rws) (k : Nat) (v : Nat) (l : List T) : Rws := fun q => if q = k then some (v,l) else R q
theorem setR_same {R : Rws} {k v : Nat} {l : List T} (h : R k = some (v,l)) : setR R k v l = R := by
  funext q
  unfold setR
  split
  · rename_i e; rw [e,h]
  · rfl
theorem waitG_spec (its : List WI) (vo k v : Nat) (l : List T) (b : Option (Nat × Nat × List T)) (R : Rws) (hR : R k = some (v,l)) (hk : 1≤k) (hb : ∀ x,b = some x→x.1 ≠ k) {ts : List T} (hts : ∀ t,t ∈ ts→wfT t) (hl : l.length + ts.length≤1000000) :
    SpecF Tryz.prog 63 (fun r => [.pob [r] 1 1,tKs ts]) (wlF its vo (some (k,v,l)) b R) (fun _ => .tup []) (wlF its vo (some (k,v + ts.length,l ++ ts.map norm)) b (setR R k (v + ts.length) (l ++ ts.map norm))) := by
  refine specF_of t_normal_wait (by simp) (famL_cons famA_pob (famL_cons famA_sl famL_nil)) (famA_tup famL_nil) fun w0 I0 M0 m0 => ?_
  unfold c_normal_wait
  simp
  refine LoopC.le (le_list [(0,.pob [0] 1 1),(6,tKs ts),(7,iv ts.length),(8,iv (0 : Nat))] (by simp)) ?_
  refine wait_l1 (its := its) (vo := vo) (off := 1) (k := k) (g := none) (b := b) (R := R) (ts := ts) (l0 := l) (v0 := v) hts hl hk (fun v l => wlF its vo (some (k,v,l)) b (setR R k v l)) (fun v l => by simp [wtV]) (.inl rfl) (fun v l => by simp [rwB,setR,show ¬ k = 0 by omega]) (fun v l v' l' p p1 p2 => ?_) (fun H st hH => ?_) ts.length 0 _ (by omega) (fun p => ?_)
  · rw [wlF_F,wlF_F,if_neg p1,if_neg p1]
    split
    · rfl
    · match p with
      | [] => rfl
      | [q] => simp [setR,show ¬ q = k from fun e => p2 (by rw [e])]
      | _ :: _ :: _ => rfl
  · simp
    exact reth_famN rfl rfl hH
  · simp only [List.take_zero,List.map_nil,List.append_nil,Nat.add_zero]
    rw [setR_same hR]
    simp
theorem waitB_spec (its : List WI) (vo k v : Nat) (l : List T) (g : Option (Nat × Nat × List T)) (R : Rws) (hR : R k = some (v,l)) (hk : 1≤k) {ts : List T} (hts : ∀ t,t ∈ ts→wfT t) (hl : l.length + ts.length≤1000000) :
    SpecF Tryz.prog 63 (fun r => [.pob [r] 1 2,tKs ts]) (wlF its vo g (some (k,v,l)) R) (fun _ => .tup []) (wlF its vo g (some (k,v + ts.length,l ++ ts.map norm)) (setR R k (v + ts.length) (l ++ ts.map norm))) := by
  refine specF_of t_normal_wait (by simp) (famL_cons famA_pob (famL_cons famA_sl famL_nil)) (famA_tup famL_nil) fun w0 I0 M0 m0 => ?_
  unfold c_normal_wait
  simp
  refine LoopC.le (le_list [(0,.pob [0] 1 2),(6,tKs ts),(7,iv ts.length),(8,iv (0 : Nat))] (by simp)) ?_
  refine wait_l1 (its := its) (vo := vo) (off := 2) (k := k) (g := g) (b := none) (R := R) (ts := ts) (l0 := l) (v0 := v) hts hl hk (fun v l => wlF its vo g (some (k,v,l)) (setR R k v l)) (fun v l => by simp [wtV]) (.inr rfl) (fun v l => by simp [rwB,setR,show ¬ k = 0 by omega]) (fun v l v' l' p p1 p2 => ?_) (fun H st hH => ?_) ts.length 0 _ (by omega) (fun p => ?_)
  · rw [wlF_F,wlF_F,if_neg p1,if_neg p1]
    split
    · rfl
    · match p with
      | [] => rfl
      | [q] => simp [setR,show ¬ q = k from fun e => p2 (by rw [e])]
      | _ :: _ :: _ => rfl
  · simp
    exact reth_famN rfl rfl hH
  · simp only [List.take_zero,List.map_nil,List.append_nil,Nat.add_zero]
    rw [setR_same hR]
    simp
end Go.Proofs.YtmeldaflhkiopaaGreat

namespace Go.Proofs.YtmeldaflhkiopaaGreat
set_option linter.unusedVariables false
set_option linter.unusedSimpArgs false
open Go Go.G Go.Proofs Go.PL
theorem wi_at (l : List WI) (r : Nat) (x : A) : (l.map (wiA r) ++ [x])[l.length]? = some x := by rw [List.getElem?_append_right (by simp)]; simp
theorem wi_take (l : List WI) (r : Nat) : List.take l.length (l.map (wiA r)) = l.map (wiA r) := List.take_of_length_le (by simp)
theorem wi_take1 (l : List WI) (r : Nat) (x : A) : List.take (l.length + 1) (l.map (wiA r) ++ [x]) = l.map (wiA r) ++ [x] := List.take_of_length_le (by simp)
theorem delI_len : ∀ g,(delI g).length≤1
  | (a,b,c) => by
    by_cases h : c = [] <;> simp [delI,h]
theorem insI22_len : ∀ g,(insI22 g).length≤1
  | (a,b,c) => by
    by_cases h : c = [] <;> simp [insI22,h]
theorem keepM_spec (its i0 : List WI) (vo : Nat) (m n : Int) (g b : Nat × Nat × List T) (R : Rws) (hl : its.length≤1000000) (hg : R g.1 = some (g.2.1,g.2.2)) (hb : R b.1 = some (b.2.1,b.2.2)) (hg0 : 1≤g.1) (hb0 : 1≤b.1) (hi : its ++ (delI g ++ insI22 b) = i0 ++ [.keep m]) : SpecF Tryz.prog 62 (fun r => [wrP r,iv n]) (wlF its vo (some g) (some b) R) (fun _ => .tup []) (wlF (i0 ++ [.keep (IntKind.i64.wrap (m + n))]) (vo + (delI g ++ insI22 b).length) none none R) := by
  have F1 := flush_spec22 its vo g b R hl hg hb hg0 hb0
  rw [hi] at F1
  have hlen : i0.length≤1000002 := by
    have e := congrArg List.length hi
    have := delI_len g
    have := insI22_len b
    simp at e
    omega
  generalize vo + (delI g ++ insI22 b).length = v at *
  have e1 : IntKind.i64.wrap (i0.length : Int) = i0.length := i64_same (by omega) (by omega)
  refine specF_of t_normal_writer_keep (by simp) (famL_cons famA_pob (famL_cons famA_v famL_nil)) (famA_tup famL_nil) fun w0 I0 M0 m0 => ?_
  unfold c_normal_writer_keep
  simp
  refine sc_fam 0 F1 (fun p => by simp) (by simp) (by simp) ?_
  simp [e1,wi_at,wiA,wiC]
  refine ⟨by omega,rfl,?_⟩
  refine reth_fam rfl rfl (fun p => ?_)
  by_cases p1 : p = []
  · subst p1; simp [updF_app,wtV]
  · by_cases p2 : p = [0]
    · subst p2; simp [updF_app,wiA,wiC,rawE,A.remake,wi_take1]
    · simp [p1,p2,updF_app]
theorem keepA_spec (its : List WI) (vo : Nat) (n : Int) (g b : Nat × Nat × List T) (R : Rws) (hl : its.length≤1000000) (hg : R g.1 = some (g.2.1,g.2.2)) (hb : R b.1 = some (b.2.1,b.2.2)) (hg0 : 1≤g.1) (hb0 : 1≤b.1) (hi : its ++ (delI g ++ insI22 b) = []∨∃ i0 x,its ++ (delI g ++ insI22 b) = i0 ++ [x]∧x.op.kind ≠ 0) : SpecF Tryz.prog 62 (fun r => [wrP r,iv n]) (wlF its vo (some g) (some b) R) (fun _ => .tup []) (wlF (its ++ (delI g ++ insI22 b) ++ [.keep n]) (vo + (delI g ++ insI22 b).length + 1) none none R) := by
  have F1 := flush_spec22 its vo g b R hl hg hb hg0 hb0
  have hlen : (its ++ (delI g ++ insI22 b)).length≤1000002 := by
    have := delI_len g
    have := insI22_len b
    simp
    omega
  generalize vo + (delI g ++ insI22 b).length = v at *
  generalize its ++ (delI g ++ insI22 b) = J at *
  refine specF_of t_normal_writer_keep (by simp) (famL_cons famA_pob (famL_cons famA_v famL_nil)) (famA_tup famL_nil) fun w0 I0 M0 m0 => ?_
  unfold c_normal_writer_keep
  simp
  refine sc_fam 0 F1 (fun p => by simp) (by simp) (by simp) ?_
  rcases hi with rfl | ⟨i0,x,rfl,hx⟩
  · simp [updF_app,show IntKind.i64.wrap (-1) = -1 from rfl]
    refine reth_famN rfl rfl (fun p => ?_)
    by_cases p1 : p = []
    · subst p1; simp [updF_app,wtV]
    · by_cases p2 : p = [0]
      · subst p2; simp [updF_app,wiA,wiC,rawE,A.remake,wi_take1]
      · simp [p1,p2,updF_app]
  · simp at hlen
    have e1 : IntKind.i64.wrap (i0.length : Int) = i0.length := i64_same (by omega) (by omega)
    cases x with
    | keep m => exact absurd rfl hx
    | del a b c =>
      simp [e1,wi_at,wiA,wiC,updF_app]
      refine ⟨by omega,by omega,⟨by omega,by omega⟩,?_⟩
      refine reth_famN rfl rfl (fun p => ?_)
      by_cases p1 : p = []
      · subst p1; simp [updF_app,wtV]
      · by_cases p2 : p = [0]
        · subst p2; simp [updF_app,wiA,wiC,rawE,A.remake,wi_take1]
        · simp [p1,p2,updF_app]
    | ins a b c =>
      simp [e1,wi_at,wiA,wiC,updF_app]
      refine ⟨by omega,by omega,⟨by omega,by omega⟩,?_⟩
      refine reth_famN rfl rfl (fun p => ?_)
      by_cases p1 : p = []
      · subst p1; simp [updF_app,wtV]
      · by_cases p2 : p = [0]
        · subst p2; simp [updF_app,wiA,wiC,rawE,A.remake,wi_take1]
        · simp [p1,p2,updF_app]
    | desc e =>
      simp [e1,wi_at,wiA,wiC,updF_app]
      refine ⟨by omega,by omega,⟨by omega,by omega⟩,?_⟩
      refine reth_famN rfl rfl (fun p => ?_)
      by_cases p1 : p = []
      · subst p1; simp [updF_app,wtV]
      · by_cases p2 : p = [0]
        · subst p2; simp [updF_app,wiA,wiC,rawE,A.remake,wi_take1]
        · simp [p1,p2,updF_app]
end Go.Proofs.YtmeldaflhkiopaaGreat

namespace Go.Proofs.YtmeldaflhkiopaaGreat
set_option linter.unusedVariables false
set_option linter.unusedSimpArgs false
open Go Go.G Go.Proofs Go.PL
def WI.row : WI→Option (Nat × Nat × List T)
  | .del k v l => some (k,v,l)
  | .ins k v l => some (k,v,l)
  | _ => none
def ItR (R : Rws) (its : List WI) : Prop := ∀ x,x ∈ its→∀ k v l,x.row = some (k,v,l)→R k = some (v,l)∧1≤k
theorem le_wr {c : Cx} {s : Nat→A} {H : Hp} {its : List WI} {v K : Nat} {R : Rws} (hH : ∀ p,H (0 :: p) = (wlF its v none none R).F 0 p) (hK : ∀ q,K≤q→R q = none) (hK1 : 1≤K) : ∃ H',Le c ⟨s,H⟩ ⟨s,H'⟩∧(∀ p,H' (0 :: p) = (wlF its v (some (K,1,[])) (some (K + 1,1,[])) (setR (setR R K 1 []) (K + 1) 1 [])).F 0 p) := by
  have h0 := hH []
  simp [wtV] at h0
  have hK0 : H [0,K] = ⟨0,.none⟩ := by rw [hH]; simp [show ¬ K = 0 by omega,hK K (Nat.le_refl _),rwB]
  have hK2 : H [0,K + 1] = ⟨0,.none⟩ := by rw [hH]; simp [hK (K + 1) (by omega),rwB]
  have l1 := le_blankC (c := c) (s := s) (H := H) (d := [0]) (u := 1) (cs := [.osl [0,0] v 14 0 its.length,.sl true [],.sl true []]) 1 [0,K] 3 h0 rfl (by simp)
  refine ⟨_,l1.trans (le_blankC (d := [0]) (u := 1) (cs := [.osl [0,0] v 14 0 its.length,.osl [0,K] 1 3 0 0,.sl true []]) 2 [0,K + 1] 3 (by simp [updF_app,hK0]) rfl (by simp)),fun p => ?_⟩
  by_cases p1 : p = []
  · subst p1; simp [updF_app,wtV,hK0,hK2]
  · by_cases p2 : p = [0]
    · subst p2; simp [updF_app,hH,show ¬ 0 = K by omega]
    · match p,p1,p2 with
      | [q],p1,p2 =>
        have hq0 : ¬ q = 0 := fun e => p2 (by rw [e])
        by_cases e1 : q = K
        · subst e1; simp [updF_app,setR,rwB,hK0,hq0]
        · by_cases e2 : q = K + 1
          · subst e2; simp [updF_app,setR,rwB,hK2]
          · simp [updF_app,setR,hH,e1,e2,hq0]
      | _ :: _ :: _,p1,p2 => simp [updF_app,hH,rowAt]
theorem frz_wi {H : Hp} {R : Rws} {its : List WI} {v : Nat} {g b : Option (Nat × Nat × List T)} (hH : ∀ p,H (0 :: p) = (wlF its v g b R).F 0 p) (x : WI) (hx : ∀ k v l,x.row = some (k,v,l)→R k = some (v,l)∧1≤k) : FrzL H (wiC 0 x) (oA x.op).cells := by
  have key : ∀ k v' l,x.row = some (k,v',l)→Frz H (.osl [0,k] v' 3 0 l.length) (tKs l) := fun k v' l h => by
    obtain ⟨h1,h2⟩ := hx k v' l h
    have := hH [k]
    simp [show ¬ k = 0 by omega,h1,rwB] at this
    exact frz_row (f := tA) (by rw [this]; simp) rfl (by simp)
  have hraw : FrzL H rawE (eL E0) := ⟨frz_bare rfl,frz_bare rfl,frz_sl,frz_sl,frz_bare rfl,frz_sl,frz_sl,frz_sl,frz_sl,frz_bare rfl,frz_sl,trivial⟩
  rw [oA_eq]
  cases x with
  | keep n => exact ⟨frz_bare rfl,frz_bare rfl,frz_sl,hraw⟩
  | del k v' l => exact ⟨frz_bare rfl,frz_bare rfl,key k v' l rfl,hraw⟩
  | ins k v' l => exact ⟨frz_bare rfl,frz_bare rfl,key k v' l rfl,hraw⟩
  | desc e => exact ⟨frz_bare rfl,frz_bare rfl,frz_sl,frz_bare rfl,frz_bare rfl,frz_bare rfl,frz_bare rfl,frz_bare rfl,frz_bare rfl,frz_bare rfl,frz_bare rfl,frz_bare rfl,frz_bare rfl,frz_bare rfl,trivial⟩
theorem frzL_app {H : Hp} : ∀ {a b a' b' : List A},FrzL H a a'→FrzL H b b'→a.length = a'.length→FrzL H (a ++ b) (a' ++ b')
  | [],b,[],b',_,h,_ => h
  | x :: a,b,y :: a',b',h1,h,hl => ⟨h1.1,frzL_app h1.2 h (by simpa using hl)⟩
  | [],b,y :: a',b',_,_,hl => by simp at hl
  | x :: a,b,[],b',_,_,hl => by simp at hl
theorem frz_wis {H : Hp} {R : Rws} {its : List WI} {v : Nat} {g b : Option (Nat × Nat × List T)} (hH : ∀ p,H (0 :: p) = (wlF its v g b R).F 0 p) (hx : ItR R its) : Frz H (.osl [0,0] v 14 0 its.length) (oKs (its.map WI.op)) := by
  have h1 := hH [0]
  simp at h1
  refine frz_osl' (o := [0,0]) (u := v) (off := 0) (len := its.length) (sz := 14) (xs := its.map (wiA 0)) (ys := (its.map WI.op).map oA) (by rw [getR_at,h1]; simp) (by simp) (by simp) (fun y hy => by
    obtain ⟨x,_,rfl⟩ := List.mem_map.1 hy
    simp) ?_ ?_
  · have : ∀ l : List OP,A.ones ((l.map oA).flatMap A.cells) = true := fun l => by
      induction l with
      | nil => rfl
      | cons x l ih => simp [A.ones] at ih ⊢
    exact this _
  · rw [List.drop_zero,List.take_of_length_le (by simp),List.map_map]
    have : ∀ l : List WI,(∀ x,x ∈ l→x ∈ its)→FrzL H ((l.map (wiA 0)).flatMap A.cells) ((l.map (oA ∘ WI.op)).flatMap A.cells) := fun l hl => by
      induction l with
      | nil => trivial
      | cons x l ih =>
        simp only [List.map_cons,List.flatMap_cons]
        exact frzL_app (frz_wi hH x fun k v l h => hx x (hl x (by simp)) k v l h) (ih fun y hy => hl y (by simp [hy])) (by simp)
    exact this its fun x h => h
theorem idle_spec (list : Int) (e : E) (h1 : e.words.length≤100000000000000) (h2 : e.kids.length≤100000000000000) : G.Spec Tryz.prog 64 [iv list,eX e] (bv (idleE list e)) := by
  have e1 : IntKind.i64.wrap ((e.words.length : Int) + e.kids.length) = ((e.words.length + e.kids.length : Nat) : Int) := by rw [i64_same (by omega) (by omega)]; omega
  refine spec_of t_normal_Idle (by simp) fun w0 I0 => ?_
  unfold c_normal_Idle
  by_cases k0 : e.kind = 0
  · simp [k0,idleE]
    exact frz_bare rfl
  · by_cases k9 : list = 9
    · by_cases k2 : e.kind = 2
      · simp [k0,k9,k2,idleE,e1]
        refine frz_bool ?_
        rw [Bool.eq_iff_iff]
        simp only [decide_eq_true_eq,Bool.and_eq_true,List.isEmpty_iff]
        constructor
        · intro h
          exact ⟨List.eq_nil_of_length_eq_zero (by omega),List.eq_nil_of_length_eq_zero (by omega)⟩
        · rintro ⟨h1,h2⟩
          rw [h1,h2]; rfl
      · simp [k0,k9,k2,idleE]
        exact frz_bare rfl
    · simp [k0,k9,idleE]
      exact frz_bare rfl
theorem flO_map (its : List WI) (g b : Nat × Nat × List T) : (its ++ (delI g ++ insI22 b)).map WI.op = flO (its.map WI.op) g.2.2 b.2.2 := by
  obtain ⟨a,c,l⟩ := g
  obtain ⟨a',c',l'⟩ := b
  by_cases h1 : l = [] <;> by_cases h2 : l' = [] <;> simp [delI,insI22,flO,delO,insO,h1,h2,WI.op]
theorem last_wi (J : List WI) : (∃ i0 m,J = i0 ++ [.keep m])∨(J = []∨∃ i0 x,J = i0 ++ [x]∧x.op.kind ≠ 0) := by
  rcases List.eq_nil_or_concat J with h | ⟨i0,x,h⟩
  · exact .inr (.inl h)
  · rw [List.concat_eq_append] at h
    cases x with
    | keep m => exact .inl ⟨i0,m,h⟩
    | del a b c => exact .inr (.inr ⟨i0,.del a b c,h,by simp [WI.op]⟩)
    | ins a b c => exact .inr (.inr ⟨i0,.ins a b c,h,by simp [WI.op]⟩)
    | desc e => exact .inr (.inr ⟨i0,.desc e,h,by simp [WI.op]⟩)
theorem kpO_keep (l : List OP) (m n : Int) (t : List T) (e : E) : kpO (l ++ [.mk 0 m t e]) n = l ++ [.mk 0 (IntKind.i64.wrap (m + n)) t e] := by simp [kpO]
theorem kpO_nil (n : Int) : kpO [] n = [.mk 0 n [] E0] := rfl
theorem kpO_else (l : List OP) (x : OP) (n : Int) (h : x.kind ≠ 0) : kpO (l ++ [x]) n = l ++ [x] ++ [.mk 0 n [] E0] := by
  obtain ⟨k,m,t,e⟩ := x
  unfold kpO
  rw [List.getLast?_append]
  simp only [List.getLast?_singleton,Option.some_or]
  split
  · rename_i h2; injection h2 with h2; injection h2 with h2; exact absurd h2 h
  · rfl
structure WrI (its : List WI) (g b : Nat × Nat × List T) (R : Rws) (K : Nat) : Prop where
  g1 : 1≤g.1
  b1 : 1≤b.1
  gb : g.1 ≠ b.1
  gK : g.1 < K
  bK : b.1 < K
  Rg : R g.1 = some (g.2.1,g.2.2)
  Rb : R b.1 = some (b.2.1,b.2.2)
  rK : ∀ q,K≤q→R q = none
  it : ItR R its
  ng : ∀ x,x ∈ its→∀ k v l,x.row = some (k,v,l)→k ≠ g.1∧k ≠ b.1
theorem WrI.flushed {its : List WI} {g b : Nat × Nat × List T} {R : Rws} {K : Nat} (h : WrI its g b R K) : ItR R (its ++ (delI g ++ insI22 b)) := by
  intro x hx k v l hr
  rcases List.mem_append.1 hx with hx | hx
  · exact h.it x hx k v l hr
  · rcases List.mem_append.1 hx with hx | hx
    · obtain ⟨a,c,d⟩ := g
      by_cases e : d = [] <;> simp [delI,e] at hx
      subst hx
      simp [WI.row] at hr
      obtain ⟨rfl,rfl,rfl⟩ := hr
      exact ⟨h.Rg,h.g1⟩
    · obtain ⟨a,c,d⟩ := b
      by_cases e : d = [] <;> simp [insI22,e] at hx
      subst hx
      simp [WI.row] at hr
      obtain ⟨rfl,rfl,rfl⟩ := hr
      exact ⟨h.Rb,h.b1⟩
theorem keep_all {its : List WI} {g b : Nat × Nat × List T} {R : Rws} {K : Nat} (h : WrI its g b R K) (hl : its.length≤1000000) (vo : Nat) (n : Int) : ∃ its2 v2,SpecF Tryz.prog 62 (fun r => [wrP r,iv n]) (wlF its vo (some g) (some b) R) (fun _ => .tup []) (wlF its2 v2 none none R)∧its2.map WI.op = kpO (flO (its.map WI.op) g.2.2 b.2.2) n∧its2.length≤its.length + 3∧ItR R its2 := by
  have hF := h.flushed
  have d1 := delI_len g
  have d2 := insI22_len b
  rcases last_wi (its ++ (delI g ++ insI22 b)) with ⟨i0,m,hi⟩ | hi
  · have hlen := congrArg List.length hi
    simp at hlen
    refine ⟨_,_,keepM_spec its i0 vo m n g b R hl h.Rg h.Rb h.g1 h.b1 hi,?_,?_,?_⟩
    · rw [← flO_map,hi]
      simp [WI.op,kpO_keep]
    · simp; omega
    · rw [hi] at hF
      intro x hx k v l hr
      rcases List.mem_append.1 hx with hx | hx
      · exact hF x (by simp [hx]) k v l hr
      · simp at hx; subst hx; simp [WI.row] at hr
  · refine ⟨_,_,keepA_spec its vo n g b R hl h.Rg h.Rb h.g1 h.b1 hi,?_,?_,?_⟩
    · rw [← flO_map]
      rcases hi with hi | ⟨i0,x,hi,hx⟩
      · rw [hi]; simp [kpO_nil,WI.op]
      · rw [hi]
        simp only [List.map_append,List.map_cons,List.map_nil]
        rw [kpO_else _ _ _ hx]
        simp [WI.op]
    · simp; omega
    · intro x hx k v l hr
      rcases List.mem_append.1 hx with hx | hx
      · exact hF x hx k v l hr
      · simp at hx; subst hx; simp [WI.row] at hr
structure OpG (o : OP) : Prop where
  k : o.kind = 0∨o.kind = 1∨o.kind = 2∨o.kind = 3
  l : ∀ t,t ∈ o.l→wfT t
  e : o.kind = 3→G.Spec Tryz.prog 25 [eX o.e] (eX (nEd o.e))∧(nEd o.e).words.length≤100000000000000∧(nEd o.e).kids.length≤100000000000000
def sumO (os : List OP) : Nat := (os.map fun o => o.l.length).sum
theorem sumO_cons (o : OP) (os : List OP) : sumO (o :: os) = o.l.length + sumO os := by simp [sumO]
section
variable {n0 : Nat} {w0 : World} {I0 : Nat→Prop} {Q : Exit→Sta→Prop}
theorem ops_l1 {list : Int} {os : List OP} (hos : ∀ o,o ∈ os→OpG o) (hol : os.length≤300000) {res : List OP}
    (hq : ∀ (H : Hp) (its : List WI) (v : Nat) (g b : Nat × Nat × List T) (R : Rws) (K : Nat) st,(∀ p,H (0 :: p) = (wlF its v (some g) (some b) R).F 0 p)→WrI its g b R K→flO (its.map WI.op) g.2.2 b.2.2 = res→its.length≤1000000→Q (.exit 0) ⟨lk ([(0,iv list),(5,wrP 0)] ++ st),H⟩) : ∀ (m i : Nat) (its : List WI) (v : Nat) (g b : Nat × Nat × List T) (R : Rws) (K : Nat) (H : Hp),i + m = os.length→its.length≤3 * i→g.2.2.length + b.2.2.length + sumO (os.drop i)≤1000000→WrI its g b R K→(∀ p,H (0 :: p) = (wlF its v (some g) (some b) R).F 0 p)→opsW list ((os.drop i).map nOP) (its.map WI.op) g.2.2 b.2.2 = res →
    LoopC (cx Tryz.prog w0 I0 n0) l1_normal_Ops Q ⟨lk [(0,iv list),(5,wrP 0),(11,oKs os),(12,iv os.length),(13,iv i)],H⟩ := by
  intro m
  induction m with
  | zero =>
    intro i its v g b R K H hm hil hsum hW hH hres
    refine loopC_once mixed l1_normal_Ops.eq_1 ?_
    have : i = os.length := by omega
    subst this
    rw [List.drop_length,List.map_nil,opsW] at hres
    simp
    exact hq H its v g b R K [(11,oKs os),(12,iv os.length),(13,iv os.length),(14,bv false)] hH hW hres (by omega)
  | succ m ih =>
    intro i its v g b R K H hm hil hsum hW hH hres
    have hi : i < os.length := by omega
    have ew : IntKind.i64.wrap ((i : Int) + 1) = ((i + 1 : Nat) : Int) := by rw [i64_same (by omega) (by omega)]; omega
    have hd : os.drop i = os[i] :: os.drop (i + 1) := (List.getElem_cons_drop hi).symm
    have hO := hos _ (List.getElem_mem hi)
    rw [hd,List.map_cons,opsW] at hres
    rw [hd,sumO_cons] at hsum
    have hoi : (os.map oA)[i]? = some (oX os[i]) := by simp [hi]
    generalize ho : os[i] = o at *
    have hnk : (nOP o).kind = o.kind := rfl
    have hnn : (nOP o).n = o.n := rfl
    have hnl : (nOP o).l = o.l := rfl
    have hne : (nOP o).e = nEd o.e := rfl
    rw [hnk,hnn,hnl,hne] at hres
    -- what goes on when all is laid
    have next : ∀ (its2 : List WI) (v2 : Nat) (H2 : Hp),its2.length≤its.length + 3→(∀ p,H2 (0 :: p) = (wlF its2 v2 none none R).F 0 p)→ItR R its2→opsW list ((os.drop (i + 1)).map nOP) (its2.map WI.op) [] [] = res→LoopC (cx Tryz.prog w0 I0 n0) l1_normal_Ops Q ⟨lk [(0,iv list),(5,wrP 0),(11,oKs os),(12,iv os.length),(13,iv (i + 1 : Nat))],H2⟩ := fun its2 v2 H2 h1 h2 h3 h4 => by
      obtain ⟨H3,hle,hF⟩ := le_wr (c := cx Tryz.prog w0 I0 n0) (s := lk [(0,iv list),(5,wrP 0),(11,oKs os),(12,iv os.length),(13,iv (i + 1 : Nat))]) h2 hW.rK (by have := hW.gK; omega)
      refine LoopC.le hle ?_
      refine ih (i + 1) its2 v2 (K,1,[]) (K + 1,1,[]) _ (K + 2) H3 (by omega) (by omega) (by simp; omega) ?_ hF h4
      have hg := hW.g1
      have hgK := hW.gK
      refine ⟨by simp; omega,by simp,by simp,by simp,by simp,by simp [setR],by simp [setR],fun q hq => ?_,fun x hx k v' l hr => ?_,fun x hx k v' l hr => ?_⟩
      · simp [setR,show ¬ q = K + 1 by omega,show ¬ q = K by omega]
        exact hW.rK q (by omega)
      · obtain ⟨a1,a2⟩ := h3 x hx k v' l hr
        have hkK : k < K := by
          by_cases e : K≤k
          · rw [hW.rK k e] at a1; cases a1
          · omega
        exact ⟨by simp [setR,show ¬ k = K + 1 by omega,show ¬ k = K by omega,a1],a2⟩
      · obtain ⟨a1,a2⟩ := h3 x hx k v' l hr
        have hkK : k < K := by
          by_cases e : K≤k
          · rw [hW.rK k e] at a1; cases a1
          · omega
        exact ⟨by simp; omega,by simp; omega⟩
    refine loopC_once mixed l1_normal_Ops.eq_1 ?_
    rcases hO.k with h0 | h0 | h0 | h0
    · rw [if_pos h0] at hres
      obtain ⟨its2,v2,S1,S2,S3,S4⟩ := keep_all hW (by omega) v o.n
      rw [← S2] at hres
      simp [hi,ho,h0,updF_app]
      refine sc_fam 0 S1 (fun p => by simp [updF_app,hH]) (by simp) (by simp) ?_
      simp [ew]
      exact next its2 v2 _ S3 (fun p => by simp) S4 hres
    · rw [if_neg (by omega),if_pos h0] at hres
      have hF := waitG_spec its v g.1 g.2.1 g.2.2 (some b) R hW.Rg hW.g1 (fun x hx => by cases hx; exact Ne.symm hW.gb) hO.l (by omega)
      simp [hi,ho,h0,updF_app]
      refine sc_fam 0 hF (fun p => by simp [updF_app,hH]) (by simp) (by simp) ?_
      simp [ew]
      refine ih (i + 1) its v (g.1,g.2.1 + o.l.length,g.2.2 ++ o.l.map norm) b (setR R g.1 (g.2.1 + o.l.length) (g.2.2 ++ o.l.map norm)) K _ (by omega) (by omega) (by simp; omega) ?_ (fun p => by simp) hres
      have w1 := hW.g1
      have w2 := hW.gK
      refine ⟨hW.g1,hW.b1,hW.gb,hW.gK,hW.bK,by simp [setR],?_,fun q hq => ?_,fun x hx k v' l hr => ?_,fun x hx k v' l hr => hW.ng x hx k v' l hr⟩
      · simp only [setR,if_neg (Ne.symm hW.gb)]; exact hW.Rb
      · simp only [setR,if_neg (show ¬ q = g.1 by omega)]; exact hW.rK q hq
      · obtain ⟨a1,a2⟩ := hW.it x hx k v' l hr
        exact ⟨by simp only [setR,if_neg (hW.ng x hx k v' l hr).1]; exact a1,a2⟩
    · rw [if_neg (by omega),if_neg (by omega),if_pos h0] at hres
      have hF := waitB_spec its v b.1 b.2.1 b.2.2 (some g) R hW.Rb hW.b1 hO.l (by omega)
      simp [hi,ho,h0,updF_app]
      refine sc_fam 0 hF (fun p => by simp [updF_app,hH]) (by simp) (by simp) ?_
      simp [ew]
      refine ih (i + 1) its v g (b.1,b.2.1 + o.l.length,b.2.2 ++ o.l.map norm) (setR R b.1 (b.2.1 + o.l.length) (b.2.2 ++ o.l.map norm)) K _ (by omega) (by omega) (by simp; omega) ?_ (fun p => by simp) hres
      have w2 := hW.bK
      refine ⟨hW.g1,hW.b1,hW.gb,hW.gK,hW.bK,?_,by simp [setR],fun q hq => ?_,fun x hx k v' l hr => ?_,fun x hx k v' l hr => hW.ng x hx k v' l hr⟩
      · simp only [setR,if_neg hW.gb]; exact hW.Rg
      · simp only [setR,if_neg (show ¬ q = b.1 by omega)]; exact hW.rK q hq
      · obtain ⟨a1,a2⟩ := hW.it x hx k v' l hr
        exact ⟨by simp only [setR,if_neg (hW.ng x hx k v' l hr).2]; exact a1,a2⟩
    · rw [if_neg (by omega),if_neg (by omega),if_neg (by omega)] at hres
      obtain ⟨E1,E2,E3⟩ := hO.e h0
      have hI := idle_spec list (nEd o.e) E2 E3
      simp [hi,ho,h0,updF_app]
      refine sc_call E1 (by simp) ?_
      simp [updF_app]
      refine sc_call hI (by simp) ?_
      cases hid : idleE list (nEd o.e) with
      | true =>
        rw [if_pos hid] at hres
        obtain ⟨its2,v2,S1,S2,S3,S4⟩ := keep_all hW (by omega) v 1
        rw [← S2] at hres
        simp
        refine sc_fam 0 S1 (fun p => by simp [updF_app,hH]) (by simp) (by simp) ?_
        simp [ew]
        exact next its2 v2 _ S3 (fun p => by simp) S4 hres
      | false =>
        rw [if_neg (by rw [hid]; decide),← flO_map] at hres
        have F1 := flush_spec22 its v g b R (by omega) hW.Rg hW.Rb hW.g1 hW.b1
        have d1 := delI_len g
        have d2 := insI22_len b
        simp
        refine sc_fam 0 F1 (fun p => by simp [updF_app,hH]) (by simp) (by simp) ?_
        have hJl : (its ++ (delI g ++ insI22 b)).length≤its.length + 2 := by simp; omega
        have hJr := hW.flushed
        have next' := next (its ++ (delI g ++ insI22 b) ++ [.desc (nEd o.e)]) (v + (delI g ++ insI22 b).length + 1)
        generalize its ++ (delI g ++ insI22 b) = J at *
        generalize v + (delI g ++ insI22 b).length = v1 at *
        simp [updF_app,lens_wi,wi_take,wi_at,ew]
        refine ⟨by omega,by omega,?_⟩
        refine next' _ (by simp; omega) (fun p => ?_) (fun x hx k v' l hr => ?_) ?_
        · by_cases p1 : p = []
          · subst p1; simp [updF_app,wtV]
          · by_cases p2 : p = [0]
            · subst p2; simp [updF_app,wiA,wiC]
            · simp [p1,p2,updF_app]
        · rcases List.mem_append.1 hx with hx | hx
          · exact hJr x hx k v' l hr
          · simp at hx; subst hx; simp [WI.row] at hr
        · simpa [WI.op] using hres
end
theorem pOps22_spec {list : Int} {os : List OP} (hos : ∀ o,o ∈ os→OpG o) (hol : os.length≤300000) (hsum : sumO os≤1000000) : G.Spec Tryz.prog 41 [iv list,oKs os] (oKs (opsW list (os.map nOP) [] [] [])) := by
  refine spec_of t_normal_Ops (by simp) fun w0 I0 => ?_
  unfold c_normal_Ops
  simp
  refine LoopC.le (le_blankC (d := [0]) (u := 1) (cs := [.sl true [],.sl true [],.sl true []]) 0 [0,0] 14 rfl rfl (by simp)) ?_
  obtain ⟨H3,hle,hF⟩ := le_wr (c := cx Tryz.prog w0 I0 72) (s := lk [(0,iv list),(5,wrP 0),(11,oKs os),(12,iv os.length),(13,iv (0 : Nat))]) (H := updF (updF (lkH [([0],⟨1,.cells [.sl true [],.sl true [],.sl true []]⟩)]) [0,0] ⟨1,.arr 14 []⟩) [0] ⟨1,.cells [.osl [0,0] 1 14 0 0,.sl true [],.sl true []]⟩) (its := []) (v := 1) (K := 1) (R := fun _ => none) (fun p => by
    by_cases p1 : p = []
    · subst p1; simp [updF_app,wtV]
    · by_cases p2 : p = [0]
      · subst p2; simp [updF_app]
      · match p,p1,p2 with
        | [q],p1,p2 =>
          have hq0 : ¬ q = 0 := fun e => p2 (by rw [e])
          simp [updF_app,rwB,hq0,Ne.symm hq0]
        | _ :: _ :: _,p1,p2 => simp [updF_app,rowAt]) (fun q _ => rfl) (by omega)
  refine LoopC.le hle ?_
  refine ops_l1 hos hol (res := opsW list (os.map nOP) [] [] []) (fun H its v g b R K st hH hW hres hil => ?_) os.length 0 [] 1 (1,1,[]) (1 + 1,1,[]) _ 3 H3 (by omega) (by simp) (by simpa using hsum) ?_ hF (by simp)
  · have F1 := flush_spec22 its v g b R hil hW.Rg hW.Rb hW.g1 hW.b1
    have hJr := hW.flushed
    have hm := flO_map its g b
    rw [hres] at hm
    simp
    refine sc_fam 0 F1 hH (by simp) (by simp) ?_
    simp
    rw [← hm]
    have := frz_wis (H := ov 0 ((wlF (its ++ (delI g ++ insI22 b)) (v + (delI g ++ insI22 b).length) none none R).F 0) H) (its := its ++ (delI g ++ insI22 b)) (v := v + (delI g ++ insI22 b).length) (g := none) (b := none) (R := R) (fun p => by simp) hJr
    simpa using this
  · refine ⟨by simp,by simp,by simp,by simp,by simp,by simp [setR],by simp [setR],fun q hq => ?_,fun x hx => by simp at hx,fun x hx => by simp at hx⟩
    simp [setR,show ¬ q = 1 by omega,show ¬ q = 2 by omega]
end Go.Proofs.YtmeldaflhkiopaaGreat

namespace Go.Proofs.YtmeldaflhkiopaaGreat
set_option linter.unusedVariables false
set_option linter.unusedSimpArgs false
open Go Go.G Go.Proofs Go.PL
mutual
def nOk : E→Prop
  | .mk k o n ws ks l os => (k = 0∨k = 1∨k = 2∨k = 3)∧(k ≠ 3→l = 0)∧(k = 1→wfT o∧wfT n)∧ws.length≤1000000∧ks.length≤1000000∧os.length≤300000∧sumO os≤1000000∧(k = 2→nOkK ks)∧(k = 3→nOkO os)
def nOkK : List KE→Prop
  | [] => True
  | .mk a e :: l => nOk e∧nOkK l
def nOkO : List OP→Prop
  | [] => True
  | .mk k n t e :: l => ((k = 0∨k = 1∨k = 2∨k = 3)∧(∀ x,x ∈ t→wfT x)∧(k = 3→nOk e))∧nOkO l
end
theorem nOkK_all : ∀ {l : List KE},nOkK l→∀ x,x ∈ l→nOk x.e
  | [],_,x,hx => by simp at hx
  | .mk a e :: l,h,x,hx => by
    rw [nOkK] at h
    rcases List.mem_cons.1 hx with rfl | hx
    · exact h.1
    · exact nOkK_all h.2 x hx
theorem nOkO_all : ∀ {l : List OP},nOkO l→∀ x,x ∈ l→(x.kind = 0∨x.kind = 1∨x.kind = 2∨x.kind = 3)∧(∀ t,t ∈ x.l→wfT t)∧(x.kind = 3→nOk x.e)
  | [],_,x,hx => by simp at hx
  | .mk k n t e :: l,h,x,hx => by
    rw [nOkO] at h
    rcases List.mem_cons.1 hx with rfl | hx
    · exact h.1
    · exact nOkO_all h.2 x hx
theorem nEd_size (e : E) (h : nOk e) : (nEd e).words.length≤100000000000000∧(nEd e).kids.length≤100000000000000 := by
  obtain ⟨k,o,n,ws,ks,l,os⟩ := e
  rw [nOk] at h
  rw [nEd_mk]
  split
  · simp
  · split
    · simp; omega
    · split <;> simp
section
variable {n0 : Nat} {w0 : World} {I0 : Nat→Prop} {Q : Exit→Sta→Prop}
theorem nedit_l1 {ks : List KE} (hl : ks.length≤1000000) (hk : ∀ x,x ∈ ks→G.Spec Tryz.prog 25 [eX x.e] (eX (nEd x.e))) {v1 v3 : VOb} {W : A}
    (hq : ∀ H u st,H [1] = v1→H [3] = v3→H [2] = ⟨1,.cells [iv 2,iv 0,.sl true [],.sl true [],iv 0,.sl true [],.sl true [],W,.osl [5] u 12 0 ks.length,iv 0,.sl true []]⟩→H [5] = ⟨u,.arr 12 (ks.map (kA ∘ nKE))⟩→Q (.exit 1) ⟨lk ([(2,.pob [1] 1 0),(3,.pob [2] 1 0)] ++ st),H⟩) : ∀ (m i u : Nat) (H : Hp),i + m = ks.length→H [1] = v1→H [3] = v3→H [2] = ⟨1,.cells [iv 2,iv 0,.sl true [],.sl true [],iv 0,.sl true [],.sl true [],W,.osl [5] u 12 0 i,iv 0,.sl true []]⟩→H [5] = ⟨u,.arr 12 ((ks.take i).map (kA ∘ nKE))⟩ →
    LoopC (cx Tryz.prog w0 I0 n0) l1_normal_Edit Q ⟨lk [(2,.pob [1] 1 0),(3,.pob [2] 1 0),(32,kKs ks),(33,iv ks.length),(34,iv i)],H⟩ := by
  intro m
  induction m with
  | zero =>
    intro i u H hm h1 h3 h2 h5
    refine loopC_once mixed l1_normal_Edit.eq_1 ?_
    have : i = ks.length := by omega
    subst this
    rw [List.take_of_length_le (Nat.le_refl _)] at h5
    simp
    exact hq H u [(32,kKs ks),(33,iv ks.length),(34,iv ks.length),(35,bv false)] h1 h3 h2 h5
  | succ m ih =>
    intro i u H hm h1 h3 h2 h5
    have hi : i < ks.length := by omega
    have ew : IntKind.i64.wrap ((i : Int) + 1) = ((i + 1 : Nat) : Int) := by rw [i64_same (by omega) (by omega)]; omega
    have hE := hk _ (List.getElem_mem hi)
    have htk : (ks.take (i + 1)).map (kA ∘ nKE) = (ks.take i).map (kA ∘ nKE) ++ [kA (nKE ks[i])] := by rw [List.take_succ_eq_append_getElem hi,List.map_append]; rfl
    have next := ih (i + 1) (u + 1)
    rw [htk] at next
    generalize hx : ks[i] = x at *
    refine loopC_once mixed l1_normal_Edit.eq_1 ?_
    simp [hi,hx,updF_app,h2]
    refine sc_call hE (by simp [updF_app]) ?_
    simp [updF_app,h2,h5,ew]
    refine ⟨⟨by omega,by omega⟩,?_⟩
    refine next _ (by omega) (by simp [updF_app,h1]) (by simp [updF_app,h3]) (by simp [updF_app]) ?_
    simp [updF_app,List.take_take,nKE]
end
theorem pEdit_spec : ∀ e : E,nOk e→G.Spec Tryz.prog 25 [eX e] (eX (nEd e)) := by
  refine E.ind fun k o n ws ks l os ihk iho h => ?_
  rw [nOk] at h
  obtain ⟨hk,hl,hon,hwl,hkl,hol,hsum,hks,hos⟩ := h
  refine spec_of t_normal_Edit (by simp) fun w0 I0 => ?_
  unfold c_normal_Edit
  rw [nEd_mk]
  rcases hk with rfl | rfl | rfl | rfl
  · simp [hl (by decide)]
    exact frz_agg ⟨frz_bare rfl,frz_bare rfl,frz_sl,frz_sl,frz_bare rfl,frz_sl,frz_sl,frz_sl,frz_sl,frz_bare rfl,frz_sl,trivial⟩
  · obtain ⟨ho,hn⟩ := hon rfl
    simp [hl (by decide)]
    refine sc_call (tNorm_spec o ho) (by simp) ?_
    simp [updF_app]
    refine sc_call (tNorm_spec n hn) (by simp) ?_
    simp [updF_app]
    exact frz_agg ⟨frz_bare rfl,frz_int (norm_kind o).symm,frz_bare rfl,frz_bare rfl,frz_int (norm_kind n).symm,frz_bare rfl,frz_bare rfl,frz_sl,frz_sl,frz_bare rfl,frz_sl,trivial⟩
  · simp [hl (by decide)]
    refine ⟨by omega,?_⟩
    refine LoopC.le (le_blankC (d := [2]) (u := 1) (cs := [iv 2,iv 0,.sl true [],.sl true [],iv 0,.sl true [],.sl true [],.osl [3] 1 4 0 ws.length,.sl true [],iv 0,.sl true []]) 8 [5] 12 rfl rfl (by simp)) ?_
    refine LoopC.le (le_list [(2,.pob [1] 1 0),(3,.pob [2] 1 0),(32,kKs ks),(33,iv ks.length),(34,iv (0 : Nat))] (by simp)) ?_
    refine nedit_l1 hkl (fun x hx => ihk x hx (nOkK_all (hks rfl) x hx)) (W := .osl [3] 1 4 0 ws.length) (fun H u st h1 h3 h2 h5 => ?_) ks.length 0 1 _ (by omega) rfl rfl (by simp [updF_app]) (by simp [updF_app])
    have h3' : H [3] = ⟨1,.arr 4 (ws.map wA)⟩ := by rw [h3]; simp [updF_app]
    simp [h2,h1,updF_app]
    have fw := frz_row (H := updF H [1] ⟨1,.cells [iv 2,iv 0,.sl true [],.sl true [],iv 0,.sl true [],.sl true [],.osl [3] 1 4 0 ws.length,.osl [5] u 12 0 ks.length,iv 0,.sl true []]⟩) (o := [3]) (u := 1) (sz := 4) (l := ws) (f := wA) (n := ws.length) (by simp [updF_app,h3']) rfl (fun x => rfl)
    have fk := frz_row (H := updF H [1] ⟨1,.cells [iv 2,iv 0,.sl true [],.sl true [],iv 0,.sl true [],.sl true [],.osl [3] 1 4 0 ws.length,.osl [5] u 12 0 ks.length,iv 0,.sl true []]⟩) (o := [5]) (u := u) (sz := 12) (l := ks) (f := kA ∘ nKE) (n := ks.length) (by simp [updF_app,h5]) rfl (fun x => by simp)
    rw [← List.map_map] at fk
    exact frz_agg ⟨frz_bare rfl,frz_bare rfl,frz_sl,frz_sl,frz_bare rfl,frz_sl,frz_sl,fw,fk,frz_bare rfl,frz_sl,trivial⟩
  · have hO := pOps22_spec (list := l) (os := os) (fun x hx => by
      obtain ⟨a,b,c⟩ := nOkO_all (hos rfl) x hx
      exact ⟨a,b,fun h => ⟨iho x hx (c h),nEd_size _ (c h)⟩⟩) hol hsum
    simp
    refine sc_call hO (by simp [updF_app]) ?_
    simp [updF_app]
    exact frz_agg ⟨frz_bare rfl,frz_bare rfl,frz_sl,frz_sl,frz_bare rfl,frz_sl,frz_sl,frz_sl,frz_sl,frz_bare rfl,frz_sl,trivial⟩
end Go.Proofs.YtmeldaflhkiopaaGreat

namespace Go.Proofs.YtmeldaflhkiopaaGreat
set_option linter.unusedVariables false
set_option linter.unusedSimpArgs false
open Go Go.G Go.Proofs Go.PL
def gapN : List OP→Nat
  | [] => 0
  | o :: l => if o.kind = 1∨o.kind = 2 then gapN l + 1 else 0
def gapT (k : Int) : List OP→List T
  | [] => []
  | o :: l => if o.kind = 1∨o.kind = 2 then (if o.kind = k then o.l.map norm else []) ++ gapT k l else []
theorem gapN_le : ∀ l,gapN l≤l.length
  | [] => by simp [gapN]
  | o :: l => by
    have := gapN_le l
    unfold gapN
    split <;> simp <;> omega
theorem gapT_len (k : Int) : ∀ l,(gapT k l).length≤sumO l
  | [] => by simp [gapT]
  | o :: l => by
    have := gapT_len k l
    rw [sumO_cons]
    unfold gapT
    split
    · split <;> simp <;> omega
    · simp
theorem opsW_gap (list : Int) : ∀ (os : List OP) (out : List OP) (g b : List T),opsW list (os.map nOP) out g b = opsW list ((os.drop (gapN os)).map nOP) out (g ++ gapT 1 os) (b ++ gapT 2 os)
  | [],out,g,b => by simp [gapN,gapT]
  | o :: os,out,g,b => by
    have hk : (nOP o).kind = o.kind := rfl
    have hl : (nOP o).l = o.l := rfl
    by_cases h1 : o.kind = 1
    · have h0 : ¬ o.kind = 0 := by omega
      rw [List.map_cons,opsW,hk,if_neg h0,if_pos h1,opsW_gap list os,hl]
      simp [gapN,gapT,h1]
    · by_cases h2 : o.kind = 2
      · have h0 : ¬ o.kind = 0 := by omega
        rw [List.map_cons,opsW,hk,if_neg h0,if_neg h1,if_pos h2,opsW_gap list os,hl]
        simp [gapN,gapT,h2]
      · simp [gapN,gapT,h1,h2]
theorem gapN_next : ∀ (os : List OP) (h : gapN os < os.length),os[gapN os].kind ≠ 1∧os[gapN os].kind ≠ 2
  | [],h => by simp at h
  | o :: os,h => by
    by_cases e : o.kind = 1∨o.kind = 2
    · simp [gapN,e] at h ⊢
      exact gapN_next os h
    · simp [gapN,e]
      omega
section
variable {n0 : Nat} {w0 : World} {I0 : Nat→Prop} {Q : Exit→Sta→Prop}
theorem norms_l1 {ts : List T} (hts : ∀ t,t ∈ ts→wfT t) (hl : ts.length≤1000000) (hq : ∀ H u st,H [0] = ⟨u,.arr 3 (ts.map (tA ∘ norm))⟩→Q (.exit 0) ⟨lk ([(0,tKs ts),(3,.osl [0] u 3 0 ts.length)] ++ st),H⟩) : ∀ (m i u : Nat) (H : Hp),i + m = ts.length→H [0] = ⟨u,.arr 3 ((ts.take i).map (tA ∘ norm))⟩ →
    LoopC (cx Tryz.prog w0 I0 n0) l1_centoref22_norms Q ⟨lk [(0,tKs ts),(3,.osl [0] u 3 0 i),(4,iv i)],H⟩ := by
  intro m
  induction m with
  | zero =>
    intro i u H hm hH
    refine loopC_once mixed l1_centoref22_norms.eq_1 ?_
    have : i = ts.length := by omega
    subst this
    rw [List.take_of_length_le (Nat.le_refl _)] at hH
    simp
    exact hq H u [(4,iv ts.length),(8,bv false)] hH
  | succ m ih =>
    intro i u H hm hH
    have hi : i < ts.length := by omega
    have ew : IntKind.i64.wrap ((i : Int) + 1) = ((i + 1 : Nat) : Int) := by rw [i64_same (by omega) (by omega)]; omega
    have hN := rNorm_spec ts[i] (hts _ (List.getElem_mem hi))
    have htk : (ts.take (i + 1)).map (tA ∘ norm) = (ts.take i).map (tA ∘ norm) ++ [tA (norm ts[i])] := by rw [List.take_succ_eq_append_getElem hi,List.map_append]; rfl
    have next := ih (i + 1) (u + 1)
    rw [htk] at next
    refine loopC_once mixed l1_centoref22_norms.eq_1 ?_
    simp [hi]
    refine sc_call hN (by simp) ?_
    simp [hH,ew]
    refine ⟨⟨by omega,by omega⟩,?_⟩
    refine next _ (by omega) ?_
    simp [updF_app,List.take_take]
end
theorem norms_spec {ts : List T} (hts : ∀ t,t ∈ ts→wfT t) (hl : ts.length≤1000000) : G.Spec Tryz.prog 79 [tKs ts] (tKs (ts.map norm)) := by
  refine spec_of t_centoref22_norms (by simp) fun w0 I0 => ?_
  unfold c_centoref22_norms
  simp
  refine LoopC.le (le_blank 3 [0] 3 (by simp)) ?_
  refine LoopC.le (le_list [(0,tKs ts),(3,.osl [0] 1 3 0 0),(4,iv (0 : Nat))] (by simp)) ?_
  refine norms_l1 hts hl (fun H u st h => ?_) ts.length 0 1 _ (by omega) (by simp [updF_app])
  simp
  have := frz_row (H := H) (o := [0]) (u := u) (sz := 3) (l := ts) (f := tA ∘ norm) (n := ts.length) (by rw [h]; simp) rfl (by simp)
  rw [← List.map_map] at this
  exact this
section
variable {n0 : Nat} {w0 : World} {I0 : Nat→Prop} {Q : Exit→Sta→Prop}
theorem lens_tn (l : List T) : lens 3 (l.map (tA ∘ norm)) = true := by rw [lens_all]; simp
theorem gap_l1 {os : List OP} {k : Int} (hk : k = 1∨k = 2) (hos : ∀ o,o ∈ os→∀ t,t ∈ o.l→wfT t) (hol : os.length≤1000000) (hsum : ∀ o,o ∈ os→o.l.length≤1000000) {res : List T} {n : Nat} (hres : res.length≤10000000)
    (hq : ∀ H u st,H [0] = ⟨u,.arr 3 (res.map tA)⟩→Q (.exit 0) ⟨lk ([(0,oKs os),(2,iv k),(8,.osl [0] u 3 0 res.length),(9,iv n)] ++ st),H⟩) : ∀ (m i u : Nat) (g : List T) (H : Hp),i + m = os.length→H [0] = ⟨u,.arr 3 (g.map tA)⟩→g ++ gapT k (os.drop i) = res→i + gapN (os.drop i) = n →
    LoopC (cx Tryz.prog w0 I0 n0) l1_centoref22_gap Q ⟨lk [(0,oKs os),(2,iv k),(8,.osl [0] u 3 0 g.length),(9,iv i)],H⟩ := by
  intro m
  induction m with
  | zero =>
    intro i u g H hm hH hg hn
    refine loopC_once mixed l1_centoref22_gap.eq_1 ?_
    have : i = os.length := by omega
    subst this
    rw [List.drop_length] at hg hn
    simp [gapT] at hg
    simp [gapN] at hn
    subst hg hn
    simp
    exact hq H u [(30,bv false)] hH
  | succ m ih =>
    intro i u g H hm hH hg hn
    have hi : i < os.length := by omega
    have ew : IntKind.i64.wrap ((i : Int) + 1) = ((i + 1 : Nat) : Int) := by rw [i64_same (by omega) (by omega)]; omega
    have hd : os.drop i = os[i] :: os.drop (i + 1) := (List.getElem_cons_drop hi).symm
    have hO := hos _ (List.getElem_mem hi)
    have hS := hsum _ (List.getElem_mem hi)
    rw [hd] at hg hn
    generalize ho : os[i] = o at *
    unfold gapT at hg
    unfold gapN at hn
    have nrm := norms_spec hO hS
    refine loopC_once mixed l1_centoref22_gap.eq_1 ?_
    by_cases h12 : o.kind = 1∨o.kind = 2
    · rw [if_pos h12] at hg hn
      have add : ∀ H',H' [0] = ⟨u + 1,.arr 3 ((g ++ o.l.map norm).map tA)⟩→o.kind = k→LoopC (cx Tryz.prog w0 I0 n0) l1_centoref22_gap Q ⟨lk [(0,oKs os),(2,iv k),(8,.osl [0] (u + 1) 3 0 (g ++ o.l.map norm).length),(9,iv (i + 1 : Nat))],H'⟩ := fun H' h1 h2 => by
        rw [if_pos h2] at hg
        exact ih (i + 1) (u + 1) (g ++ o.l.map norm) H' (by omega) h1 (by rw [← hg]; simp) (by omega)
      have skip : o.kind ≠ k→LoopC (cx Tryz.prog w0 I0 n0) l1_centoref22_gap Q ⟨lk [(0,oKs os),(2,iv k),(8,.osl [0] u 3 0 g.length),(9,iv (i + 1 : Nat))],H⟩ := fun h2 => by
        rw [if_neg h2] at hg
        exact ih (i + 1) u g H (by omega) hH (by rw [← hg]; simp) (by omega)
      have hgl : g.length≤10000000 := by have := congrArg List.length hg; simp at this; omega
      rcases hk with rfl | rfl <;> rcases h12 with h | h
      · simp [hi,ho,h]
        refine sc_call nrm (by simp) ?_
        simp [hH,ew,lens_tn]
        refine ⟨by omega,?_⟩
        have := add (updF H [0] ⟨u + 1,.arr 3 ((g ++ o.l.map norm).map tA)⟩) (by simp [updF_app]) h
        simpa [List.take_of_length_le] using this
      · simp [hi,ho,h,ew]
        have := skip (by omega)
        simpa using this
      · simp [hi,ho,h,ew]
        have := skip (by omega)
        simpa using this
      · simp [hi,ho,h]
        refine sc_call nrm (by simp) ?_
        simp [hH,ew,lens_tn]
        refine ⟨by omega,?_⟩
        have := add (updF H [0] ⟨u + 1,.arr 3 ((g ++ o.l.map norm).map tA)⟩) (by simp [updF_app]) h
        simpa [List.take_of_length_le] using this
    · rw [if_neg h12] at hg hn
      have h1 : ¬ o.kind = 1 := fun h => h12 (.inl h)
      have h2 : ¬ o.kind = 2 := fun h => h12 (.inr h)
      simp at hg hn
      subst hg hn
      simp [hi,ho,h1,h2]
      exact hq H u [(30,bv false)] hH
end
theorem sumO_mem : ∀ {os : List OP} {o : OP},o ∈ os→o.l.length≤sumO os
  | [],o,h => by simp at h
  | x :: os,o,h => by
    rw [sumO_cons]
    rcases List.mem_cons.1 h with rfl | h
    · omega
    · have := sumO_mem h; omega
theorem gap_spec {os : List OP} {k : Int} (hk : k = 1∨k = 2) (hos : ∀ o,o ∈ os→∀ t,t ∈ o.l→wfT t) (hol : os.length≤1000000) (hsum : sumO os≤1000000) {i : Nat} (hi : i≤os.length) : G.Spec Tryz.prog 51 [oKs os,iv i,iv k] (.tup [tKs (gapT k (os.drop i)),iv (i + gapN (os.drop i) : Nat)]) := by
  have hs1 : ∀ o,o ∈ os→o.l.length≤sumO os := fun o ho => by
    exact sumO_mem ho
  have hsd : sumO (os.drop i)≤sumO os := by
    have : sumO os = sumO (os.take i) + sumO (os.drop i) := by
      unfold sumO
      rw [← List.sum_append,← List.map_append,List.take_append_drop]
    omega
  have hgl := gapT_len k (os.drop i)
  refine spec_of t_centoref22_gap (by simp) fun w0 I0 => ?_
  unfold c_centoref22_gap
  simp
  refine LoopC.le (le_blank 8 [0] 3 (by simp)) ?_
  refine LoopC.le (le_list [(0,oKs os),(2,iv k),(8,.osl [0] 1 3 0 ([] : List T).length),(9,iv i)] (by simp)) ?_
  refine gap_l1 hk hos hol (fun o ho => by have := hs1 o ho; omega) (res := gapT k (os.drop i)) (n := i + gapN (os.drop i)) (by omega) (fun H u st h => ?_) (os.length - i) i 1 [] _ (by omega) (by simp [updF_app]) (by simp) rfl
  simp
  refine frz_tup ⟨frz_row (f := tA) (by rw [h]; simp) rfl (by simp),frz_bare rfl,trivial⟩
theorem idle22_spec (list : Int) (e : E) : G.Spec Tryz.prog 52 [iv list,eX e] (bv (idleE list e)) := by
  refine spec_of t_centoref22_idle (by simp) fun w0 I0 => ?_
  unfold c_centoref22_idle
  by_cases k0 : e.kind = 0
  · simp [k0,idleE]
    exact frz_bare rfl
  · by_cases k2 : e.kind = 2
    · by_cases k9 : list = 9
      · by_cases w : e.words = []
        · by_cases k : e.kids = []
          · simp [k0,k9,k2,idleE,w,k]
            exact frz_bare rfl
          · have ke : e.kids.isEmpty = false := by
              cases h : e.kids with
              | nil => exact absurd h k
              | cons => rfl
            simp [k0,k9,k2,idleE,w,k,ke]
            exact frz_bare rfl
        · have we : e.words.isEmpty = false := by
            cases h : e.words with
            | nil => exact absurd h w
            | cons => rfl
          simp [k0,k9,k2,idleE,w,we]
          exact frz_bare rfl
      · simp [k0,k9,k2,idleE]
        exact frz_bare rfl
    · simp [k0,k2,idleE]
      exact frz_bare rfl
inductive RI where
  | keep (n : Int)
  | del (l : List T)
  | ins (l : List T)
  | desc (e : E)
def RI.op : RI→OP
  | .keep n => .mk 0 n [] E0
  | .del l => .mk 1 0 l E0
  | .ins l => .mk 2 0 l E0
  | .desc e => .mk 3 0 [] e
def riC : RI→List A
  | .keep n => iv 0 :: iv n :: .sl true [] :: rawE
  | .del l => iv 1 :: iv 0 :: tKs l :: rawE
  | .ins l => iv 2 :: iv 0 :: tKs l :: rawE
  | .desc e => iv 3 :: iv 0 :: .sl true [] :: eL e
def riA (x : RI) : A := .agg (riC x)
@[simp] theorem riA_cells {x : RI} : (riA x).cells = riC x := rfl
@[simp] theorem riC_len {x : RI} : (riC x).length = 14 := by cases x <;> rfl
theorem frz_ri {H : Hp} (x : RI) : FrzL H (riC x) (oA x.op).cells := by
  have hraw : FrzL H rawE (eL E0) := ⟨frz_bare rfl,frz_bare rfl,frz_sl,frz_sl,frz_bare rfl,frz_sl,frz_sl,frz_sl,frz_sl,frz_bare rfl,frz_sl,trivial⟩
  rw [oA_eq]
  cases x with
  | keep n => exact ⟨frz_bare rfl,frz_bare rfl,frz_sl,hraw⟩
  | del l => exact ⟨frz_bare rfl,frz_bare rfl,frz_bare rfl,hraw⟩
  | ins l => exact ⟨frz_bare rfl,frz_bare rfl,frz_bare rfl,hraw⟩
  | desc e => exact ⟨frz_bare rfl,frz_bare rfl,frz_sl,frz_bare rfl,frz_bare rfl,frz_bare rfl,frz_bare rfl,frz_bare rfl,frz_bare rfl,frz_bare rfl,frz_bare rfl,frz_bare rfl,frz_bare rfl,frz_bare rfl,trivial⟩
theorem frz_ris {H : Hp} {o : Nm} {u n : Nat} {its : List RI} (h1 : H o = ⟨u,.arr 14 (its.map riA)⟩) (hn : n = its.length) : Frz H (.osl o u 14 0 n) (oKs (its.map RI.op)) := by
  subst hn
  refine frz_osl' (o := o) (u := u) (off := 0) (len := its.length) (sz := 14) (xs := its.map riA) (ys := (its.map RI.op).map oA) (by rw [getR_at,h1]; simp) (by simp) (by simp) (fun y hy => by
    obtain ⟨x,_,rfl⟩ := List.mem_map.1 hy
    simp) ?_ ?_
  · have : ∀ l : List OP,A.ones ((l.map oA).flatMap A.cells) = true := fun l => by
      induction l with
      | nil => rfl
      | cons x l ih => simp [A.ones] at ih ⊢
    exact this _
  · rw [List.drop_zero,List.take_of_length_le (by simp),List.map_map]
    have : ∀ l : List RI,FrzL H ((l.map riA).flatMap A.cells) ((l.map (oA ∘ RI.op)).flatMap A.cells) := fun l => by
      induction l with
      | nil => trivial
      | cons x l ih =>
        simp only [List.map_cons,List.flatMap_cons]
        exact frzL_app (frz_ri x) ih (by simp)
    exact this its
theorem ri_at (l : List RI) (x : A) : (l.map riA ++ [x])[l.length]? = some x := by rw [List.getElem?_append_right (by simp)]; simp
theorem ri_take (l : List RI) : List.take l.length (l.map riA) = l.map riA := List.take_of_length_le (by simp)
theorem ri_take1 (l : List RI) (x : A) : List.take (l.length + 1) (l.map riA ++ [x]) = l.map riA ++ [x] := List.take_of_length_le (by simp)
def delR (g : List T) : List RI := if g = [] then [] else [.del g]
def insR (b : List T) : List RI := if b = [] then [] else [.ins b]
theorem flO_ri (its : List RI) (g b : List T) : (its ++ (delR g ++ insR b)).map RI.op = flO (its.map RI.op) g b := by
  by_cases h1 : g = [] <;> by_cases h2 : b = [] <;> simp [delR,insR,flO,delO,insO,h1,h2,RI.op]
theorem last_ri (J : List RI) : (∃ i0 m,J = i0 ++ [.keep m])∨(J = []∨∃ i0 x,J = i0 ++ [x]∧x.op.kind ≠ 0) := by
  rcases List.eq_nil_or_concat J with h | ⟨i0,x,h⟩
  · exact .inr (.inl h)
  · rw [List.concat_eq_append] at h
    cases x with
    | keep m => exact .inl ⟨i0,m,h⟩
    | del a => exact .inr (.inr ⟨i0,.del a,h,by simp [RI.op]⟩)
    | ins a => exact .inr (.inr ⟨i0,.ins a,h,by simp [RI.op]⟩)
    | desc e => exact .inr (.inr ⟨i0,.desc e,h,by simp [RI.op]⟩)
end Go.Proofs.YtmeldaflhkiopaaGreat

namespace Go.Proofs.YtmeldaflhkiopaaGreat
set_option linter.unusedVariables false
set_option linter.unusedSimpArgs false
open Go Go.G Go.Proofs Go.PL
inductive IT where
  | r (x : RI)
  | got (o : OP)
def IT.op : IT→OP
  | .r x => x.op
  | .got o => o
def itC : IT→List A
  | .r x => riC x
  | .got o => (oA o).cells
def itA (x : IT) : A := .agg (itC x)
@[simp] theorem itA_cells {x : IT} : (itA x).cells = itC x := rfl
@[simp] theorem itC_len {x : IT} : (itC x).length = 14 := by
  cases x with
  | r x => simp [itC]
  | got o => simp [itC]
theorem lens_it {l : List IT} : lens 14 (l.map itA) = true := by rw [lens_all]; simp
theorem frz_it {H : Hp} (x : IT) : FrzL H (itC x) (oA x.op).cells := by
  cases x with
  | r x => exact frz_ri x
  | got o => exact frzL_bare (by simp [itC])
theorem frz_its {H : Hp} {o : Nm} {u n : Nat} {its : List IT} (h1 : H o = ⟨u,.arr 14 (its.map itA)⟩) (hn : n = its.length) : Frz H (.osl o u 14 0 n) (oKs (its.map IT.op)) := by
  subst hn
  refine frz_osl' (o := o) (u := u) (off := 0) (len := its.length) (sz := 14) (xs := its.map itA) (ys := (its.map IT.op).map oA) (by rw [getR_at,h1]; simp) (by simp) (by simp) (fun y hy => by
    obtain ⟨x,_,rfl⟩ := List.mem_map.1 hy
    simp) ?_ ?_
  · have : ∀ l : List OP,A.ones ((l.map oA).flatMap A.cells) = true := fun l => by
      induction l with
      | nil => rfl
      | cons x l ih => simp [A.ones] at ih ⊢
    exact this _
  · rw [List.drop_zero,List.take_of_length_le (by simp),List.map_map]
    have : ∀ l : List IT,FrzL H ((l.map itA).flatMap A.cells) ((l.map (oA ∘ IT.op)).flatMap A.cells) := fun l => by
      induction l with
      | nil => trivial
      | cons x l ih =>
        simp only [List.map_cons,List.flatMap_cons]
        exact frzL_app (frz_it x) ih (by simp)
    exact this its
theorem frz_oneO {H : Hp} (k : Int) (l : List T) : Frz H (.sl true [.agg (iv k :: iv 0 :: tKs l :: rawE)]) (oKs [OP.mk k 0 l E0]) := by
  have h := frz_soft (H := H) (a := .sl true [.agg (iv k :: iv 0 :: tKs l :: rawE)]) (by simp [rawE])
  have e : (A.sl true [.agg (iv k :: iv 0 :: tKs l :: rawE)]).soft = oKs [OP.mk k 0 l E0] := by simp [A.soft,A.softL,rawE,soft_tKs]
  rw [e] at h
  exact h
theorem pSome_spec (k : Int) (l : List T) : G.Spec Tryz.prog 108 [iv k,tKs l] (oKs (if l = [] then [] else [.mk k 0 l E0])) := by
  refine spec_of t_diff_some (by simp) fun w0 I0 => ?_
  unfold c_diff_some
  by_cases h : l = []
  · simp [h]
    exact frz_sl
  · have : ¬ l.length = 0 := by simpa using h
    simp [h,this]
    exact frz_oneO k l
theorem pRemove_spec (l : List T) : G.Spec Tryz.prog 92 [tKs l] (oKs (delO l)) := by
  refine spec_of t_diff_remove (by simp) fun w0 I0 => ?_
  unfold c_diff_remove
  simp
  refine sc_call (pSome_spec 1 l) (by simp) ?_
  simp
  exact frz_bare (by simp)
theorem pInsert_spec (l : List T) : G.Spec Tryz.prog 90 [tKs l] (oKs (insO l)) := by
  refine spec_of t_diff_insert (by simp) fun w0 I0 => ?_
  unfold c_diff_insert
  simp
  refine sc_call (pSome_spec 2 l) (by simp) ?_
  simp
  exact frz_bare (by simp)
theorem rWord26_spec (t : T) (i : Nat) : G.Spec Tryz.prog 73 [tX t,iv i] (uv (t.words.getD i 0)) := by
  refine spec_of t_centoref26_word (by simp) fun w0 I0 => ?_
  unfold c_centoref26_word
  by_cases h : i < t.words.length
  · simp [h]
    exact frz_bare rfl
  · simp [h,List.getElem?_eq_none (Nat.le_of_not_lt h)]
    exact frz_bare rfl
theorem rKid26_spec (t : T) (i : Nat) : G.Spec Tryz.prog 74 [tX t,iv i] (tX (t.kids.getD i T0)) := by
  refine spec_of t_centoref26_kid (by simp) fun w0 I0 => ?_
  unfold c_centoref26_kid
  by_cases h : i < t.kids.length
  · simp [h]
    exact frz_bare rfl
  · simp [h,List.getElem?_eq_none (Nat.le_of_not_lt h)]
    exact frz_agg ⟨frz_bare rfl,frz_sl,frz_sl,trivial⟩
theorem it_fam {l : List IT} : ∀ x,x ∈ l.map itA→FamA (fun _ => x) := fun x hx => by
  obtain ⟨o,_,rfl⟩ := List.mem_map.1 hx
  refine famA_bare (cs := itC o) rfl fun y hy => ?_
  cases o with
  | r o => exact List.all_eq_true.1 (show (itC (.r o)).all A.bare1 = true by cases o <;> rfl) y hy
  | got o => exact List.all_eq_true.1 (show (itC (.got o)).all A.bare1 = true by simp [itC,A.bare1]) y hy
abbrev itM (u : Nat) (l : List IT) : Fam := rowM u 14 (l.map itA) it_fam
def smI (k : Int) (l : List T) : List IT := if l = [] then [] else if k = 1 then [.r (.del l)] else [.r (.ins l)]
theorem rSome_spec (out : List IT) (u : Nat) (hu : 1≤u) (hl : out.length≤1000000) {k : Int} (hk : k = 1∨k = 2) (l : List T) : SpecF Tryz.prog 78 (fun r => [.osl [r] u 14 0 out.length,iv k,tKs l]) (itM u out) (fun r => .osl [r] (u + (smI k l).length) 14 0 (out ++ smI k l).length) (itM (u + (smI k l).length) (out ++ smI k l)) := by
  refine specF_of t_centoref26_some (by simp) (famL_cons famA_osl (famL_cons famA_v (famL_cons famA_sl famL_nil))) famA_osl fun w0 I0 M0 m0 => ?_
  unfold c_centoref26_some
  by_cases h : l = []
  · simp [h,smI]
    exact reth_fam rfl rfl (fun p => by simp)
  · have : ¬ l.length = 0 := by simpa using h
    rcases hk with rfl | rfl
    · simp [h,this,smI,lens_it]
      refine ⟨by omega,?_⟩
      refine reth_fam rfl rfl (fun p => ?_)
      by_cases h1 : p = []
      · subst h1; simp [updF_app,itA,itC,riC,rawE,List.take_of_length_le]
      · simp [h1,updF_app]
    · simp [h,this,smI,lens_it]
      refine ⟨by omega,?_⟩
      refine reth_fam rfl rfl (fun p => ?_)
      by_cases h1 : p = []
      · subst h1; simp [updF_app,itA,itC,riC,rawE,List.take_of_length_le]
      · simp [h1,updF_app]
end Go.Proofs.YtmeldaflhkiopaaGreat

namespace Go.Proofs.YtmeldaflhkiopaaGreat
set_option linter.unusedVariables false
set_option linter.unusedSimpArgs false
open Go Go.G Go.Proofs Go.PL
section
variable {n0 : Nat} {w0 : World} {I0 : Nat→Prop} {Q : Exit→Sta→Prop}
theorem gp_l1 {a b : List T} (hb : ∀ t,t ∈ b→wfT t) (hbl : b.length≤1000000) {most : Int} {x : T} (hx : wfT x) {R : A} {N i w : Nat} {H0 : Hp}
    (hq : ∀ (H' : Hp) (v : Nat),H' [2] = ⟨v,.arr 1 ((b.map fun y => (scoreT x y : Int)).map iv)⟩→(∀ o,o ≠ [1]→o ≠ [2]→H' o = H0 o)→Q (.exit 2) ⟨lk [(1,tKs a),(2,tKs b),(3,iv most),(9,R),(11,.pob [0] w 0),(12,.osl [2] v 1 0 b.length),(20,tKs a),(21,iv N),(22,iv i),(26,tKs b),(27,iv b.length),(28,iv b.length),(29,bv false)],H'⟩) :
    ∀ (m j : Nat) (v : Nat) (H : Hp),j + m = b.length→H [0] = ⟨w,.cells (tL x)⟩→H [2] = ⟨v,.arr 1 (((b.take j).map fun y => (scoreT x y : Int)).map iv)⟩→(∀ o,o ≠ [1]→o ≠ [2]→H o = H0 o) →
    LoopC (cx Tryz.prog w0 I0 n0) l1_diff_Gap Q ⟨lk [(1,tKs a),(2,tKs b),(3,iv most),(9,R),(11,.pob [0] w 0),(12,.osl [2] v 1 0 j),(20,tKs a),(21,iv N),(22,iv i),(26,tKs b),(27,iv b.length),(28,iv j)],H⟩ := by
  intro m
  induction m with
  | zero =>
    intro j v H hm h0 h2 hH
    have : j = b.length := by omega
    subst this
    rw [List.take_of_length_le (Nat.le_refl _)] at h2
    refine loopC_once mixed l1_diff_Gap.eq_1 ?_
    simp
    exact hq H v h2 hH
  | succ m ih =>
    intro j v H hm h0 h2 hH
    have hlt : j < b.length := by omega
    have ew : IntKind.i64.wrap ((j : Int) + 1) = ((j + 1 : Nat) : Int) := by rw [i64_same (by omega) (by omega)]; omega
    have htk : b.take (j + 1) = b.take j ++ [b[j]] := List.take_succ_eq_append_getElem hlt
    have next := ih (j + 1)
    rw [htk] at next
    refine loopC_once mixed l1_diff_Gap.eq_1 ?_
    simp [hlt,h0,updF_app]
    refine sc_call (pScore_spec hx (hb _ (List.getElem_mem hlt))) (by simp) ?_
    simp [h2,updF_app,Nat.min_eq_left (Nat.le_of_lt hlt)]
    refine ⟨by omega,?_⟩
    rw [ew]
    refine next (v + 1) _ (by omega) (by simp [updF_app,h0]) ?_ (fun o h1 h2' => by simp [updF_app,h1,h2',hH])
    simp [updF_app]
    rw [List.take_succ_eq_append_getElem (by simpa using hlt)]
    simp [List.take_take]
abbrev ivsA (r : List Int) : A := .sl false (r.map iv)
theorem gp_l2 {a b : List T} (ha : ∀ t,t ∈ a→wfT t) (hb : ∀ t,t ∈ b→wfT t) (hal : a.length≤1000000) (hbl : b.length≤1000000) {most : Int}
    (hq : ∀ (H' : Hp),H' [3] = ⟨a.length + 1,.arr 1 ((scR a b).map ivsA)⟩→H' [5] = ⟨0,.none⟩→Q (.exit 0) ⟨lk [(1,tKs a),(2,tKs b),(3,iv most),(9,.osl [3] (a.length + 1) 1 0 a.length),(20,tKs a),(21,iv a.length),(22,iv a.length),(23,bv false)],H'⟩) :
    ∀ (m i : Nat) (H : Hp),i + m = a.length→H [3] = ⟨i + 1,.arr 1 ((scR (a.take i) b).map ivsA)⟩→H [5] = ⟨0,.none⟩ →
    LoopC (cx Tryz.prog w0 I0 n0) l2_diff_Gap Q ⟨lk [(1,tKs a),(2,tKs b),(3,iv most),(9,.osl [3] (i + 1) 1 0 i),(20,tKs a),(21,iv a.length),(22,iv i)],H⟩ := by
  intro m
  induction m with
  | zero =>
    intro i H hm h3 h5
    have : i = a.length := by omega
    subst this
    rw [List.take_of_length_le (Nat.le_refl _)] at h3
    refine loopC_once mixed l2_diff_Gap.eq_1 ?_
    simp
    exact hq H h3 h5
  | succ m ih =>
    intro i H hm h3 h5
    have hlt : i < a.length := by omega
    have ew : IntKind.i64.wrap ((i : Int) + 1) = ((i + 1 : Nat) : Int) := by rw [i64_same (by omega) (by omega)]; omega
    have htk : a.take (i + 1) = a.take i ++ [a[i]] := List.take_succ_eq_append_getElem hlt
    have next := ih (i + 1)
    rw [htk] at next
    have hrl : (scR (a.take i) b).length = i := by simp [scR]; omega
    refine loopC_once mixed l2_diff_Gap.eq_1 ?_
    simp [hlt]
    refine LoopC.le (le_blank 12 [2] 1 (by simp)) ?_
    refine LoopC.le (le_list [(1,tKs a),(2,tKs b),(3,iv most),(9,.osl [3] (i + 1) 1 0 i),(11,.pob [0] ((H [0]).u + 1) 0),(12,.osl [2] ((H [2]).u + 1) 1 0 0),(20,tKs a),(21,iv a.length),(22,iv i),(26,tKs b),(27,iv b.length),(28,iv (0 : Nat))] (by simp [upd,updF_app])) ?_
    refine gp_l1 (a := a) hb hbl (ha _ (List.getElem_mem hlt)) (H0 := updF H [0] ⟨(H [0]).u + 1,.cells (tL a[i])⟩) (fun H' v g2 gH => ?_) b.length 0 ((H [2]).u + 1) _ (by omega) (by simp [updF_app]) (by simp [updF_app]) (fun o h1 h2 => by simp [updF_app,h1,h2])
    simp
    refine stop_le (le_freezeD (d := [2]) (fun _ h => h) 12 (ivsA (b.map fun y => (scoreT a[i] y : Int))) fun H1 e1 => ?_) ?_
    · simp
      exact frz_row (f := iv) (l := b.map fun y => (scoreT a[i] y : Int)) (by rw [e1,g2]; simp) (by simp) (fun x => by simp)
    · refine stop_le (le_list [(1,tKs a),(2,tKs b),(3,iv most),(9,.osl [3] (i + 1) 1 0 i),(12,ivsA (b.map fun y => (scoreT a[i] y : Int))),(20,tKs a),(21,iv a.length),(22,iv i)] (by simp [upd])) (stop_go ?_)
      have g3 : H' [3] = H [3] := by rw [gH _ (by simp) (by simp)]; simp [updF_app]
      have g5 : H' [5] = H [5] := by rw [gH _ (by simp) (by simp)]; simp [updF_app]
      simp [updF_app,g3,h3,hrl]
      refine ⟨by omega,?_⟩
      rw [ew]
      refine next _ (by omega) ?_ (by simp [updF_app,g5,h5])
      have e1 : List.take i (List.map ivsA (scR (List.take i a) b)) = List.map ivsA (scR (List.take i a) b) := List.take_of_length_le (by simp [scR]; omega)
      simp [updF_app,e1,scR]
      rw [List.take_succ_eq_append_getElem (by simpa using hlt)]
      simp [List.take_take]
end
def PkOk (la lb : Nat) : Nat→Nat→List Sc→Prop
  | i,j,[] => i≤la∧j≤lb
  | i,j,x :: P => i≤x.i∧j≤x.j∧x.i < la∧x.j < lb∧PkOk la lb (x.i + 1) (x.j + 1) P
theorem pkOk_any {la lb : Nat} : ∀ (P : List Sc) (i j : Nat),i≤la→j≤lb→(∀ x,x ∈ P→i≤x.i∧j≤x.j∧x.i < la∧x.j < lb)→(P.Pairwise fun p q => p.i < q.i∧p.j < q.j)→PkOk la lb i j P
  | [],i,j,h1,h2,_,_ => ⟨h1,h2⟩
  | x :: P,i,j,h1,h2,h3,h4 => by
    obtain ⟨g1,g2,g3,g4⟩ := h3 x (by simp)
    rw [List.pairwise_cons] at h4
    refine ⟨g1,g2,g3,g4,pkOk_any P _ _ (by omega) (by omega) (fun y hy => ?_) h4.2⟩
    have := h4.1 y hy
    obtain ⟨k1,k2,k3,k4⟩ := h3 y (by simp [hy])
    omega
theorem pkG_ok (a b : List T) : PkOk a.length b.length 0 0 (pkG (scR a b)) := by
  obtain ⟨h,_⟩ := pkO_ok (scR a b)
  obtain ⟨h1,h2⟩ := picks_facts h
  obtain ⟨g1,g2⟩ := srt_ok h1
  refine pkOk_any _ 0 0 (by omega) (by omega) (fun x hx => ?_) ?_
  · obtain ⟨_,_,_,_,r,k1,k2⟩ := candS_mem (h2 x (g2.subset hx))
    have l1 := (List.getElem?_eq_some_iff.1 k1).1
    have e1 := (List.getElem?_eq_some_iff.1 k1).2
    have l2 := (List.getElem?_eq_some_iff.1 k2).1
    rw [← e1] at l2
    simp [scR] at l1 l2
    omega
  · have hp : (pkG (scR a b)).Pairwise fun p q => par p q = true := by
      refine (List.Perm.pairwise_iff (fun {p q} h => ?_) g2).2 h1
      unfold par at h ⊢
      simp at h ⊢
      omega
    have hr : (pkG (scR a b)).Pairwise fun p q => p.i < q.i := g1
    refine (hp.and hr).imp fun {p q} h => ?_
    obtain ⟨h1,h2⟩ := h
    unfold par at h1
    simp at h1
    omega
section
variable {n0 : Nat} {w0 : World} {I0 : Nat→Prop} {Q : Exit→Sta→Prop}
theorem gp_l3 {one : T→T→E} {a b : List T} (hal : a.length≤1000000) (hbl : b.length≤1000000) {most : Int} (hone : ∀ x,x ∈ a→∀ y,y ∈ b→G.Spec Tryz.prog 26 [tX x,tX y,iv most] (eX (one x y))) {P : List Sc} (hP : P.length≤1000) {R : List OP}
    (hq : ∀ (H' : Hp) (its : List IT) (v i j : Nat),i≤a.length→j≤b.length→its.length≤3 * P.length→R = gapO one a b [] i j (its.map IT.op)→H' [5] = ⟨v,.arr 14 (its.map itA)⟩→Q (.exit 4) ⟨lk [(1,tKs a),(2,tKs b),(3,iv most),(15,.osl [5] v 14 0 its.length),(16,iv i),(17,iv j),(45,prs P),(46,iv P.length),(47,iv P.length),(48,bv false)],H'⟩) :
    ∀ (m k i j v : Nat) (its : List IT) (H : Hp),k + m = P.length→PkOk a.length b.length i j (P.drop k)→its.length≤3 * k→R = gapO one a b (P.drop k) i j (its.map IT.op)→H [5] = ⟨v,.arr 14 (its.map itA)⟩ →
    LoopC (cx Tryz.prog w0 I0 n0) l3_diff_Gap Q ⟨lk [(1,tKs a),(2,tKs b),(3,iv most),(15,.osl [5] v 14 0 its.length),(16,iv i),(17,iv j),(45,prs P),(46,iv P.length),(47,iv k)],H⟩ := by
  intro m
  induction m with
  | zero =>
    intro k i j v its H hm hk hl hR h5
    have : k = P.length := by omega
    subst this
    rw [List.drop_length] at hk hR
    refine loopC_once mixed l3_diff_Gap.eq_1 ?_
    simp
    exact hq H its v i j hk.1 hk.2 hl hR h5
  | succ m ih =>
    intro k i j v its H hm hk hl hR h5
    have hlt : k < P.length := by omega
    have ew : IntKind.i64.wrap ((k : Int) + 1) = ((k + 1 : Nat) : Int) := by rw [i64_same (by omega) (by omega)]; omega
    have hd : P.drop k = P[k] :: P.drop (k + 1) := (List.getElem_cons_drop hlt).symm
    rw [hd] at hk hR
    have next := ih (k + 1)
    generalize hx : P[k] = x at *
    obtain ⟨k1,k2,k3,k4,k5⟩ := hk
    rw [gapO] at hR
    have ei : IntKind.i64.wrap ((x.i : Int) + 1) = ((x.i + 1 : Nat) : Int) := by rw [i64_same (by omega) (by omega)]; omega
    have ej : IntKind.i64.wrap ((x.j : Int) + 1) = ((x.j + 1 : Nat) : Int) := by rw [i64_same (by omega) (by omega)]; omega
    have hO := hone _ (List.getElem_mem k3) _ (List.getElem_mem k4)
    have D1 := pRemove_spec ((a.take x.i).drop i)
    have D2 := pInsert_spec ((b.take x.j).drop j)
    refine loopC_once mixed l3_diff_Gap.eq_1 ?_
    have f1 : x.i≤a.length := by omega
    have f2 : x.j≤b.length := by omega
    have dl : ∀ l,(delO l).length≤1 := fun l => by unfold delO; split <;> simp
    have il : ∀ l,(insO l).length≤1 := fun l => by unfold insO; split <;> simp
    have d1 := dl ((a.take x.i).drop i)
    have d2 := il ((b.take x.j).drop j)
    simp [hlt,hx,prA,prC,updF_app,k1,k2,f1,f2,h5]
    simp only [← List.map_drop,← List.map_take]
    simp only [List.drop_take] at D1 D2 hR d1 d2
    refine sc_call D1 (by simp) ?_
    generalize delO ((a.drop i).take (x.i - i)) = D at *
    generalize hI : insO ((b.drop j).take (x.j - j)) = I at *
    simp [k1,k2,f1,f2,h5,updF_app,lens_it]
    have hgot : ∀ D : List OP,D.map oA = (D.map IT.got).map itA := fun D => by
      rw [List.map_map]
      refine List.map_congr_left fun o _ => ?_
      simp [itA,itC]
    refine ⟨by omega,?_⟩
    simp only [← List.map_drop,← List.map_take]
    refine sc_call D2 (by simp) ?_
    simp [k3,k4,updF_app,lens_it]
    refine ⟨by omega,?_⟩
    refine sc_call hO (by simp) ?_
    simp [ei,ej,ew,updF_app,lens_it]
    refine ⟨by omega,?_⟩
    have e1 : a.getD x.i T0 = a[x.i] := by simp [k3]
    have e2 : b.getD x.j T0 = b[x.j] := by simp [k4]
    rw [e1,e2] at hR
    have hop : ∀ D : List OP,(D.map IT.got).map IT.op = D := fun D => by
      rw [List.map_map]
      exact List.map_id' _
    have hrow : List.take (its.length + D.length + I.length) (List.take (its.length + D.length) (List.map itA its ++ List.map oA D) ++ List.map oA I) ++ [A.agg (A.v (Value.int IntKind.i64 3) :: A.v (Value.int IntKind.i64 0) :: A.sl true [] :: eL (one a[x.i] b[x.j]))] = (its ++ D.map IT.got ++ I.map IT.got ++ [IT.r (.desc (one a[x.i] b[x.j]))]).map itA := by
      rw [List.take_of_length_le (by simp),List.take_of_length_le (by simp),hgot D,hgot I]
      simp [itA,itC,riC]
    rw [hrow]
    have nx := next (x.i + 1) (x.j + 1) (v + 1 + 1 + 1) (its ++ D.map IT.got ++ I.map IT.got ++ [IT.r (.desc (one a[x.i] b[x.j]))]) (updF (updF H [4] ⟨(H [4]).u + 1,.cells [iv x.i,iv x.j]⟩) [5] ⟨v + 1 + 1 + 1,.arr 14 ((its ++ D.map IT.got ++ I.map IT.got ++ [IT.r (.desc (one a[x.i] b[x.j]))]).map itA)⟩) (by omega) k5 (by simp; omega) (by rw [hR]; congr 1; simp [hop,IT.op,RI.op]) (by simp [updF_app])
    have hlen : (its ++ D.map IT.got ++ I.map IT.got ++ [IT.r (.desc (one a[x.i] b[x.j]))]).length = its.length + D.length + I.length + 1 := by simp; omega
    rw [hlen] at nx
    simpa using nx
end
theorem pGap_spec {one : T→T→E} {a b : List T} (ha : ∀ t,t ∈ a→wfT t) (hb : ∀ t,t ∈ b→wfT t) (hal : a.length≤1000000) (hbl : b.length≤1000000) {most q : Int} (hone : ∀ x,x ∈ a→∀ y,y ∈ b→G.Spec Tryz.prog 26 [tX x,tX y,iv most] (eX (one x y))) :
    G.Spec Tryz.prog 91 [iv q,tKs a,tKs b,iv most] (oKs (gapE one a b)) := by
  obtain ⟨hpk,hp16⟩ := pkO_ok (scR a b)
  have hPl : (pkG (scR a b)).length≤16 := by
    have := (srt_ok (picks_facts hpk).1).2.length_eq
    unfold pkG
    omega
  have hPick := pick_spec (scR a b) (by simp [scR]; omega) (fun r hr => by
    obtain ⟨x,_,rfl⟩ := List.mem_map.1 hr
    simp; omega) hpk hp16
  refine spec_of t_diff_Gap (by simp) fun w0 I0 => ?_
  unfold c_diff_Gap
  simp
  refine LoopC.le (le_blank 9 [3] 1 (by simp)) ?_
  refine LoopC.le (le_list [(1,tKs a),(2,tKs b),(3,iv most),(9,.osl [3] (0 + 1) 1 0 0),(20,tKs a),(21,iv a.length),(22,iv (0 : Nat))] (by simp [upd])) ?_
  refine gp_l2 ha hb hal hbl (fun H' h3 h5 => ?_) a.length 0 _ (by omega) (by simp [scR]) (by simp [updF_app])
  simp
  refine stop_le (le_freezeD (d := [3]) (fun _ h => h) 9 (ivss (scR a b)) fun H1 e1 => ?_) ?_
  · simp
    exact frz_row (f := ivsA) (l := scR a b) (by rw [e1,h3]; simp) (by simp [scR]) (fun x => by simp)
  · refine stop_le (le_list [(1,tKs a),(2,tKs b),(3,iv most),(9,ivss (scR a b)),(15,.sl true []),(16,iv 0),(17,iv 0)] (by simp [upd])) (stop_go ?_)
    simp
    refine sc_call hPick (by simp) ?_
    simp
    refine LoopC.le (le_blank 15 [5] 14 (by simp)) ?_
    refine LoopC.le (le_list [(1,tKs a),(2,tKs b),(3,iv most),(15,.osl [5] 1 14 0 ([] : List IT).length),(16,iv (0 : Nat)),(17,iv (0 : Nat)),(45,prs (pkG (scR a b))),(46,iv (pkG (scR a b)).length),(47,iv (0 : Nat))] (by simp [upd,updF_app,h5,pkG])) ?_
    refine gp_l3 (one := one) (a := a) (b := b) hal hbl hone (P := pkG (scR a b)) (by omega) (R := gapE one a b) (fun H2 its v i j hi hj hl hR k5 => ?_) _ 0 0 0 1 [] _ (Nat.zero_add _) (pkG_ok a b) (by simp) rfl (by simp [updF_app,h5])
    have D1 := pRemove_spec ((a.drop i).take (a.length - i))
    have D2 := pInsert_spec ((b.drop j).take (b.length - j))
    have dl : ∀ l,(delO l).length≤1 := fun l => by unfold delO; split <;> simp
    have il : ∀ l,(insO l).length≤1 := fun l => by unfold insO; split <;> simp
    have d1 := dl ((a.drop i).take (a.length - i))
    have d2 := il ((b.drop j).take (b.length - j))
    have ea : (a.drop i).take (a.length - i) = a.drop i := List.take_of_length_le (by simp)
    have eb : (b.drop j).take (b.length - j) = b.drop j := List.take_of_length_le (by simp)
    have hR2 : gapE one a b = its.map IT.op ++ delO ((a.drop i).take (a.length - i)) ++ insO ((b.drop j).take (b.length - j)) := by rw [ea,eb,hR,gapO]
    clear ea eb
    rw [hR2]
    have hgot : ∀ D : List OP,D.map oA = (D.map IT.got).map itA := fun D => by
      rw [List.map_map]
      refine List.map_congr_left fun o _ => ?_
      simp [itA,itC]
    have hop : ∀ D : List OP,(D.map IT.got).map IT.op = D := fun D => by
      rw [List.map_map]
      exact List.map_id' _
    clear hR2
    generalize delO ((a.drop i).take (a.length - i)) = D at *
    generalize insO ((b.drop j).take (b.length - j)) = I at *
    simp [hi,hj]
    simp only [← List.map_drop,← List.map_take]
    refine sc_call D1 (by simp) ?_
    simp [hj,k5,updF_app,lens_it]
    refine ⟨by omega,?_⟩
    simp only [← List.map_drop,← List.map_take]
    refine sc_call D2 (by simp) ?_
    simp [updF_app,lens_it]
    refine ⟨by omega,?_⟩
    have hf : ∀ H : Hp,H [5] = ⟨v + 1 + 1,.arr 14 ((its ++ D.map IT.got ++ I.map IT.got).map itA)⟩→Frz H (.osl [5] (v + 1 + 1) 14 0 (its.length + D.length + I.length)) (oKs (its.map IT.op ++ (D ++ I))) := fun H hH => by
      have := frz_its hH (n := its.length + D.length + I.length) (by simp; omega)
      simpa [hop] using this
    refine hf _ ?_
    rw [hgot D,hgot I,List.take_of_length_le (by simp)]
    simp [updF_app]
end Go.Proofs.YtmeldaflhkiopaaGreat

namespace Go.Proofs.YtmeldaflhkiopaaGreat
set_option linter.unusedVariables false
set_option linter.unusedSimpArgs false
open Go Go.G Go.Proofs Go.PL
theorem opsG_keep {gap : List T→List T→List OP} {s : Sp} (h : s.k = 0) (ss : List Sp) (a b : List T) (out : List OP) : opsG gap (s :: ss) a b out = opsG gap ss (a.drop s.n) (b.drop s.n) (out ++ [.mk 0 s.n [] E0]) := by
  cases ss with
  | nil => simp [opsG,h]
  | cons s2 ss => simp [opsG,h]
theorem opsG_ins {gap : List T→List T→List OP} {s : Sp} (h : s.k = 2) (ss : List Sp) (a b : List T) (out : List OP) : opsG gap (s :: ss) a b out = opsG gap ss a (b.drop s.n) (out ++ insO (b.take s.n)) := by
  cases ss with
  | nil => simp [opsG,h]
  | cons s2 ss => simp [opsG,h]
theorem opsG_gap {gap : List T→List T→List OP} {s s2 : Sp} (h : s.k = 1) (h2 : s2.k = 2) (ss : List Sp) (a b : List T) (out : List OP) : opsG gap (s :: s2 :: ss) a b out = opsG gap ss (a.drop s.n) (b.drop s2.n) (out ++ gap (a.take s.n) (b.take s2.n)) := by
  simp [opsG,h,h2]
theorem opsG_del {gap : List T→List T→List OP} {s : Sp} (h : s.k = 1) {ss : List Sp} (h2 : ∀ s2 r,ss = s2 :: r→s2.k ≠ 2) (a b : List T) (out : List OP) : opsG gap (s :: ss) a b out = opsG gap ss (a.drop s.n) b (out ++ delO (a.take s.n)) := by
  cases ss with
  | nil => simp [opsG,h]
  | cons s2 ss => simp [opsG,h,h2 s2 ss rfl]
theorem gapO_len (one : T→T→E) (a b : List T) : ∀ (P : List Sc) (i j : Nat) (out : List OP),(gapO one a b P i j out).length≤out.length + 3 * P.length + 2
  | [],i,j,out => by
    have d1 : (delO (a.drop i)).length≤1 := by unfold delO; split <;> simp
    have d2 : (insO (b.drop j)).length≤1 := by unfold insO; split <;> simp
    simp [gapO]
    omega
  | x :: P,i,j,out => by
    have d1 : (delO ((a.take x.i).drop i)).length≤1 := by unfold delO; split <;> simp
    have d2 : (insO ((b.take x.j).drop j)).length≤1 := by unfold insO; split <;> simp
    have := gapO_len one a b P (x.i + 1) (x.j + 1) (out ++ delO ((a.take x.i).drop i) ++ insO ((b.take x.j).drop j) ++ [.mk 3 0 [] (one (a.getD x.i T0) (b.getD x.j T0))])
    rw [gapO]
    simp only [List.length_append,List.length_singleton] at this
    simp only [List.length_cons]
    omega
theorem gapE_len (one : T→T→E) (a b : List T) : (gapE one a b).length≤50 := by
  obtain ⟨hpk,hp16⟩ := pkO_ok (scR a b)
  have hPl : (pkG (scR a b)).length≤16 := by
    have := (srt_ok (picks_facts hpk).1).2.length_eq
    unfold pkG
    omega
  have := gapO_len one a b (pkG (scR a b)) 0 0 []
  simp at this
  unfold gapE
  omega
theorem hgot26 (D : List OP) : D.map oA = (D.map IT.got).map itA := by
  rw [List.map_map]
  refine List.map_congr_left fun o _ => ?_
  simp [itA,itC]
theorem hop26 (D : List OP) : (D.map IT.got).map IT.op = D := by
  rw [List.map_map]
  exact List.map_id' _
section
variable {n0 : Nat} {w0 : World} {I0 : Nat→Prop} {Q : Exit→Sta→Prop}
theorem dops_l1 {one : T→T→E} {a b : T} (ha : ∀ t,t ∈ a.kids→wfT t) (hb : ∀ t,t ∈ b.kids→wfT t) (hal : a.kids.length≤1000000) (hbl : b.kids.length≤1000000) {most : Int} (hone : ∀ x,x ∈ a.kids→∀ y,y ∈ b.kids→G.Spec Tryz.prog 26 [tX x,tX y,iv most] (eX (one x y))) {S : List Sp} (hS : S.length≤10000000) (hS2 : ∀ s,s ∈ S→s.k≤2) {R : List OP}
    (hq : ∀ (H' : Hp) (its : List IT) (v : Nat) (st : List (Nat × A)),its.map IT.op = R→H' [2] = ⟨v,.arr 14 (its.map itA)⟩→Q (.exit 0) ⟨lk ([(0,sps S),(3,iv most),(5,.pob [0] 1 0),(9,.osl [2] v 14 0 its.length)] ++ st),H'⟩) :
    ∀ (m k v : Nat) (x y : List T) (its : List IT) (H : Hp),k + m = S.length→(∀ t,t ∈ x→t ∈ a.kids)→(∀ t,t ∈ y→t ∈ b.kids)→x.length≤1000000→y.length≤1000000→dA (unitsS (S.drop k))≤x.length→dB (unitsS (S.drop k))≤y.length→its.length≤50 * k→R = opsG (gapE one) (S.drop k) x y (its.map IT.op)→H [0] = ⟨1,.cells (tL a)⟩→H [2] = ⟨v,.arr 14 (its.map itA)⟩ →
    LoopC (cx Tryz.prog w0 I0 n0) l1_diff_ops Q ⟨lk [(0,sps S),(3,iv most),(5,.pob [0] 1 0),(9,.osl [2] v 14 0 its.length),(10,tKs x),(11,tKs y),(12,iv k)],H⟩ := by
  have tk : ∀ (l : List T) (n : Nat),(l.drop n).take (l.length - n) = l.drop n := fun l n => List.take_of_length_le (by simp)
  intro m
  induction m using Nat.strongRecOn with
  | _ m ih =>
  intro k v x y its H hm hx hy hxl hyl hA hB hl hR h0 h2
  cases m with
  | zero =>
    have : k = S.length := by omega
    subst this
    rw [List.drop_length] at hR
    refine loopC_once mixed l1_diff_ops.eq_1 ?_
    simp
    exact hq H its v [(10,tKs x),(11,tKs y),(12,iv S.length),(22,bv false)] hR.symm h2
  | succ m =>
    have hlt : k < S.length := by omega
    have ew : IntKind.i64.wrap ((k : Int) + 1) = ((k + 1 : Nat) : Int) := by rw [i64_same (by omega) (by omega)]; omega
    have hd : S.drop k = S[k] :: S.drop (k + 1) := (List.getElem_cons_drop hlt).symm
    have hk := hS2 _ (List.getElem_mem hlt)
    rw [hd] at hR hA hB
    rw [units_cons,dA_app,dA_rep] at hA
    rw [units_cons,dB_app,dB_rep] at hB
    have hg : (S.map spA)[k]? = some (spA S[k]) := by simp [hlt]
    generalize hs : S[k] = s at *
    have hk3 : s.k = 0∨s.k = 1∨s.k = 2 := by omega
    rcases hk3 with h | h | h
    · rw [opsG_keep h] at hR
      rw [if_neg (by omega)] at hA hB
      have f1 : s.n≤x.length := by omega
      have f2 : s.n≤y.length := by omega
      refine loopC_once mixed l1_diff_ops.eq_1 ?_
      simp [hlt,hs,spA,spC,h,f1,f2,h2,lens_it,ew]
      refine ⟨by omega,?_⟩
      simp only [← List.map_drop,← List.map_take,tk]
      have nx := ih m (by omega) (k + 1) (v + 1) (x.drop s.n) (y.drop s.n) (its ++ [IT.r (RI.keep (s.n : Int))]) (updF H [2] ⟨v + 1,.arr 14 ((its ++ [IT.r (RI.keep (s.n : Int))]).map itA)⟩) (by omega) (fun t ht => hx t (List.mem_of_mem_drop ht)) (fun t ht => hy t (List.mem_of_mem_drop ht)) (by simp; omega) (by simp; omega) (by simp; omega) (by simp; omega) (by simp; omega) (by rw [hR]; simp [IT.op,RI.op]) (by simp [updF_app,h0]) (by simp [updF_app])
      rw [List.take_of_length_le (by simp)]
      rw [Int.natCast_add] at nx
      simp only [List.length_append,List.length_map,List.length_singleton,List.length_cons,List.length_nil,List.map_append,List.map_cons,List.map_nil] at nx ⊢
      exact nx
    · rw [h] at hA hB
      simp at hA hB
      have f1 : s.n≤x.length := by omega
      by_cases hg2 : ∃ h3 : k + 1 < S.length,S[k + 1].k = 2
      · obtain ⟨h3,h4⟩ := hg2
        have hd2 : S.drop (k + 1) = S[k + 1] :: S.drop (k + 1 + 1) := (List.getElem_cons_drop h3).symm
        rw [hd2] at hR hA hB
        rw [units_cons,dA_app,dA_rep] at hA
        rw [units_cons,dB_app,dB_rep] at hB
        generalize hs2 : S[k + 1] = s2 at *
        rw [opsG_gap h h4] at hR
        rw [h4] at hA hB
        simp at hA hB
        have f2 : s2.n≤y.length := by omega
        have ew2 : IntKind.i64.wrap ((k : Int) + 1 + 1) = ((k + 1 + 1 : Nat) : Int) := by rw [i64_same (by omega) (by omega)]; omega
        have G := pGap_spec (one := one) (a := x.take s.n) (b := y.take s2.n) (q := a.kind) (fun t ht => ha t (hx t (List.mem_of_mem_take ht))) (fun t ht => hb t (hy t (List.mem_of_mem_take ht))) (by simp; omega) (by simp; omega) (most := most) (fun p hp q hq => hone p (hx p (List.mem_of_mem_take hp)) q (hy q (List.mem_of_mem_take hq)))
        have gl := gapE_len one (x.take s.n) (y.take s2.n)
        have i1 : (k : Int) + 1 < S.length := by omega
        have i2 : (0 : Int)≤(k : Int) + 1 := by omega
        have i3 : ((k : Int) + 1).toNat = k + 1 := by omega
        have i4 : IntKind.i64.wrap ((k : Int) + 1) = (k : Int) + 1 := by rw [ew]; omega
        refine loopC_once mixed l1_diff_ops.eq_1 ?_
        generalize gapE one (x.take s.n) (y.take s2.n) = I at *
        simp [hlt,hs,spA,spC,h,f1,f2,h2,lens_it,i4,h3,hs2,h4,h0,i1,i2,i3]
        simp only [← List.map_drop,← List.map_take,tk]
        refine sc_call G (by simp) ?_
        simp [f1,f2,h2,lens_it,i4,h0,ew2]
        refine ⟨by omega,?_⟩
        simp only [← List.map_drop,← List.map_take,tk]
        cases m with
        | zero => omega
        | succ m =>
          have nx := ih m (by omega) (k + 1 + 1) (v + 1) (x.drop s.n) (y.drop s2.n) (its ++ I.map IT.got) (updF H [2] ⟨v + 1,.arr 14 ((its ++ I.map IT.got).map itA)⟩) (by omega) (fun t ht => hx t (List.mem_of_mem_drop ht)) (fun t ht => hy t (List.mem_of_mem_drop ht)) (by simp; omega) (by simp; omega) (by simp; omega) (by simp; omega) (by simp; omega) (by rw [hR,List.map_append,hop26]) (by simp [updF_app,h0]) (by simp [updF_app])
          rw [List.take_of_length_le (by simp),hgot26,← List.map_append]
          rw [Int.natCast_add,Int.natCast_add] at nx
          simp only [List.length_append,List.length_map,List.length_singleton,List.length_cons,List.length_nil,List.map_append,List.map_cons,List.map_nil] at nx ⊢
          exact nx
      · have hnd : ∀ s2 r,S.drop (k + 1) = s2 :: r→s2.k ≠ 2 := fun s2 r e h4 => by
          have h3 : k + 1 < S.length := by
            have := congrArg List.length e
            simp at this
            omega
          have hd2 : S.drop (k + 1) = S[k + 1] :: S.drop (k + 1 + 1) := (List.getElem_cons_drop h3).symm
          rw [hd2] at e
          injection e with e1 _
          exact hg2 ⟨h3,by rw [e1]; exact h4⟩
        rw [opsG_del h hnd] at hR
        have D := pRemove_spec (x.take s.n)
        have dl : (delO (x.take s.n)).length≤1 := by unfold delO; split <;> simp
        generalize delO (x.take s.n) = I at *
        refine loopC_once mixed l1_diff_ops.eq_1 ?_
        by_cases h3 : k + 1 < S.length
        · have h4 : ¬ (S[k + 1].k : Int) = 2 := fun e => hg2 ⟨h3,by omega⟩
          have h4' : ¬ S[k + 1].k = 2 := fun e => hg2 ⟨h3,e⟩
          have i1 : (k : Int) + 1 < S.length := by omega
          have i2 : (0 : Int)≤(k : Int) + 1 := by omega
          have i3 : ((k : Int) + 1).toNat = k + 1 := by omega
          have i4 : IntKind.i64.wrap ((k : Int) + 1) = (k : Int) + 1 := by rw [ew]; omega
          simp [hlt,hs,spA,spC,h,f1,h2,lens_it,i4,h3,h4,h4',i1,i2,i3]
          simp only [← List.map_drop,← List.map_take,tk]
          refine sc_call D (by simp) ?_
          simp [f1,h2,lens_it,i4]
          refine ⟨by omega,?_⟩
          simp only [← List.map_drop,← List.map_take,tk]
          have nx := ih m (by omega) (k + 1) (v + 1) (x.drop s.n) y (its ++ I.map IT.got) (updF H [2] ⟨v + 1,.arr 14 ((its ++ I.map IT.got).map itA)⟩) (by omega) (fun t ht => hx t (List.mem_of_mem_drop ht)) hy (by simp; omega) (by omega) (by simp; omega) (by omega) (by simp; omega) (by rw [hR,List.map_append,hop26]) (by simp [updF_app,h0]) (by simp [updF_app])
          rw [List.take_of_length_le (by simp),hgot26,← List.map_append]
          rw [Int.natCast_add] at nx
          simp only [List.length_append,List.length_map,List.length_singleton,List.length_cons,List.length_nil,List.map_append,List.map_cons,List.map_nil] at nx ⊢
          exact nx
        · have i1 : ¬ (k : Int) + 1 < S.length := by omega
          have i4 : IntKind.i64.wrap ((k : Int) + 1) = (k : Int) + 1 := by rw [ew]; omega
          simp [hlt,hs,spA,spC,h,f1,h2,lens_it,i4,i1]
          simp only [← List.map_drop,← List.map_take,tk]
          refine sc_call D (by simp) ?_
          simp [f1,h2,lens_it,i4]
          refine ⟨by omega,?_⟩
          simp only [← List.map_drop,← List.map_take,tk]
          have nx := ih m (by omega) (k + 1) (v + 1) (x.drop s.n) y (its ++ I.map IT.got) (updF H [2] ⟨v + 1,.arr 14 ((its ++ I.map IT.got).map itA)⟩) (by omega) (fun t ht => hx t (List.mem_of_mem_drop ht)) hy (by simp; omega) (by omega) (by simp; omega) (by omega) (by simp; omega) (by rw [hR,List.map_append,hop26]) (by simp [updF_app,h0]) (by simp [updF_app])
          rw [List.take_of_length_le (by simp),hgot26,← List.map_append]
          rw [Int.natCast_add] at nx
          simp only [List.length_append,List.length_map,List.length_singleton,List.length_cons,List.length_nil,List.map_append,List.map_cons,List.map_nil] at nx ⊢
          exact nx
    · rw [opsG_ins h] at hR
      rw [h] at hA hB
      simp at hA hB
      have f2 : s.n≤y.length := by omega
      have D := pInsert_spec (y.take s.n)
      have dl : (insO (y.take s.n)).length≤1 := by unfold insO; split <;> simp
      generalize insO (y.take s.n) = I at *
      refine loopC_once mixed l1_diff_ops.eq_1 ?_
      simp [hlt,hs,spA,spC,h,f2,h2,lens_it,ew]
      simp only [← List.map_drop,← List.map_take,tk]
      refine sc_call D (by simp) ?_
      simp [f2,h2,lens_it,ew]
      refine ⟨by omega,?_⟩
      simp only [← List.map_drop,← List.map_take,tk]
      have nx := ih m (by omega) (k + 1) (v + 1) x (y.drop s.n) (its ++ I.map IT.got) (updF H [2] ⟨v + 1,.arr 14 ((its ++ I.map IT.got).map itA)⟩) (by omega) hx (fun t ht => hy t (List.mem_of_mem_drop ht)) (by omega) (by simp; omega) (by omega) (by simp; omega) (by simp; omega) (by rw [hR,List.map_append,hop26]) (by simp [updF_app,h0]) (by simp [updF_app])
      rw [List.take_of_length_le (by simp),hgot26,← List.map_append]
      rw [Int.natCast_add] at nx
      simp only [List.length_append,List.length_map,List.length_singleton,List.length_cons,List.length_nil,List.map_append,List.map_cons,List.map_nil] at nx ⊢
      exact nx
end
theorem dOps26_spec {one : T→T→E} {a b : T} (ha : ∀ t,t ∈ a.kids→wfT t) (hb : ∀ t,t ∈ b.kids→wfT t) (hal : a.kids.length≤1000000) (hbl : b.kids.length≤1000000) {most : Int} (hone : ∀ x,x ∈ a.kids→∀ y,y ∈ b.kids→G.Spec Tryz.prog 26 [tX x,tX y,iv most] (eX (one x y))) {S : List Sp} (hS : S.length≤10000000) (hS2 : ∀ s,s ∈ S→s.k≤2) (hA : dA (unitsS S)≤a.kids.length) (hB : dB (unitsS S)≤b.kids.length) :
    G.Spec Tryz.prog 72 [sps S,tX a,tX b,iv most] (oKs (opsG (gapE one) S a.kids b.kids [])) := by
  refine spec_of t_diff_ops (by simp) fun w0 I0 => ?_
  unfold c_diff_ops
  simp
  refine LoopC.le (le_blank 9 [2] 14 (by simp)) ?_
  refine LoopC.le (le_list [(0,sps S),(3,iv most),(5,.pob [0] 1 0),(9,.osl [2] 1 14 0 ([] : List IT).length),(10,tKs a.kids),(11,tKs b.kids),(12,iv (0 : Nat))] (by simp [upd])) ?_
  refine dops_l1 (a := a) (b := b) ha hb hal hbl hone hS hS2 (R := opsG (gapE one) S a.kids b.kids []) (fun H' its v st hR k2 => ?_) S.length 0 1 a.kids b.kids [] _ (Nat.zero_add _) (fun t h => h) (fun t h => h) hal hbl (by simpa using hA) (by simpa using hB) (by simp) (by simp) (by simp [updF_app]) (by simp [updF_app])
  simp
  rw [← hR]
  exact frz_its k2 rfl
end Go.Proofs.YtmeldaflhkiopaaGreat

namespace Go.Proofs.YtmeldaflhkiopaaGreat
set_option linter.unusedVariables false
set_option linter.unusedSimpArgs false
open Go Go.G Go.Proofs Go.PL
theorem smI_op1 (l : List T) : (smI 1 l).map IT.op = delO l := by unfold smI delO; split <;> simp [IT.op,RI.op]
theorem smI_op2 (l : List T) : (smI 2 l).map IT.op = insO l := by unfold smI insO; split <;> simp [IT.op,RI.op]
theorem smI_len (k : Int) (l : List T) : (smI k l).length≤1 := by unfold smI; split <;> (try split) <;> simp
section
variable {n0 : Nat} {w0 : World} {I0 : Nat→Prop} {Q : Exit→Sta→Prop}
theorem rgp_l3 {one : T→T→E} {a b : List T} (hal : a.length≤1000000) (hbl : b.length≤1000000) {most : Int} (hone : ∀ x,x ∈ a→∀ y,y ∈ b→G.Spec Tryz.prog 28 [tX x,tX y,iv most] (eX (one x y))) {P : List Sc} (hP : P.length≤1000) {R : List OP}
    (hq : ∀ (H' : Hp) (its : List IT) (v i j : Nat),1≤v→i≤a.length→j≤b.length→its.length≤3 * P.length→R = gapO one a b [] i j (its.map IT.op)→(∀ p,H' (2 :: p) = (itM v its).F 2 p)→Q (.exit 4) ⟨lk [(0,tKs a),(1,tKs b),(2,iv most),(10,prs P),(11,.osl [2] v 14 0 its.length),(12,iv i),(13,iv j),(14,iv P.length),(53,bv false)],H'⟩) :
    ∀ (m k i j v : Nat) (its : List IT) (H : Hp),k + m = P.length→1≤v→PkOk a.length b.length i j (P.drop k)→its.length≤3 * k→R = gapO one a b (P.drop k) i j (its.map IT.op)→(∀ p,H (2 :: p) = (itM v its).F 2 p) →
    LoopC (cx Tryz.prog w0 I0 n0) l3_centoref26_Gap Q ⟨lk [(0,tKs a),(1,tKs b),(2,iv most),(10,prs P),(11,.osl [2] v 14 0 its.length),(12,iv i),(13,iv j),(14,iv k)],H⟩ := by
  intro m
  induction m with
  | zero =>
    intro k i j v its H hm hv hk hl hR h5
    have : k = P.length := by omega
    subst this
    rw [List.drop_length] at hk hR
    refine loopC_once mixed l3_centoref26_Gap.eq_1 ?_
    simp
    exact hq H its v i j hv hk.1 hk.2 hl hR h5
  | succ m ih =>
    intro k i j v its H hm hv hk hl hR h5
    have hlt : k < P.length := by omega
    have hd : P.drop k = P[k] :: P.drop (k + 1) := (List.getElem_cons_drop hlt).symm
    rw [hd] at hk hR
    have next := ih (k + 1)
    generalize hx : P[k] = x at *
    obtain ⟨k1,k2,k3,k4,k5⟩ := hk
    rw [gapO] at hR
    simp only [List.drop_take] at hR
    have f1 : x.i≤a.length := by omega
    have f2 : x.j≤b.length := by omega
    have F1 := rSome_spec its v hv (by omega) (k := 1) (.inl rfl) ((a.drop i).take (x.i - i))
    refine loopC_once mixed l3_centoref26_Gap.eq_1 ?_
    simp [hlt,hx,prA,prC,k1,k2,f1,f2]
    simp only [← List.map_drop,← List.map_take]
    refine sc_fam 2 F1 h5 (by simp) (by simp) ?_
    have d1 := smI_len 1 ((a.drop i).take (x.i - i))
    have d2 := smI_len 2 ((b.drop j).take (x.j - j))
    have o1 := smI_op1 ((a.drop i).take (x.i - i))
    have o2 := smI_op2 ((b.drop j).take (x.j - j))
    have F2 := rSome_spec (its ++ smI 1 ((a.drop i).take (x.i - i))) (v + (smI 1 ((a.drop i).take (x.i - i))).length) (by omega) (by simp; omega) (k := 2) (.inr rfl) ((b.drop j).take (x.j - j))
    have hO := hone _ (List.getElem_mem k3) _ (List.getElem_mem k4)
    rw [← o1,← o2] at hR
    clear F1 o1 o2
    generalize smI 1 ((a.drop i).take (x.i - i)) = D at *
    generalize smI 2 ((b.drop j).take (x.j - j)) = I at *
    simp only [List.length_append] at F2 ⊢
    simp [hlt,hx,prA,prC,k1,k2,f1,f2]
    simp only [← List.map_drop,← List.map_take]
    refine sc_fam 2 F2 (fun p => by simp) (by simp) (by simp) ?_
    simp [hlt,hx,prA,prC,k3,k4]
    refine sc_call hO (by simp) ?_
    simp [hlt,hx,prA,prC,updF_app,lens_it]
    refine ⟨⟨by omega,by omega⟩,?_⟩
    have ew : IntKind.i64.wrap ((k : Int) + 1) = ((k + 1 : Nat) : Int) := by rw [i64_same (by omega) (by omega)]; omega
    have ei : IntKind.i64.wrap ((x.i : Int) + 1) = ((x.i + 1 : Nat) : Int) := by rw [i64_same (by omega) (by omega)]; omega
    have ej : IntKind.i64.wrap ((x.j : Int) + 1) = ((x.j + 1 : Nat) : Int) := by rw [i64_same (by omega) (by omega)]; omega
    rw [ei,ej,ew]
    have hlen : (its ++ (D ++ (I ++ [IT.r (.desc (one a[x.i] b[x.j]))]))).length = its.length + D.length + I.length + 1 := by simp; omega
    have hR' : R = gapO one a b (P.drop (k + 1)) (x.i + 1) (x.j + 1) ((its ++ (D ++ (I ++ [IT.r (.desc (one a[x.i] b[x.j]))]))).map IT.op) := by rw [hR]; simp [IT.op,RI.op,k3,k4]
    have nx := fun H' => next (x.i + 1) (x.j + 1) (v + D.length + I.length + 1) (its ++ (D ++ (I ++ [IT.r (.desc (one a[x.i] b[x.j]))]))) H' (by omega) (by omega) k5 (by rw [hlen]; omega) hR'
    rw [hlen] at nx
    refine nx _ fun p => ?_
    by_cases h1 : p = []
    · subst h1
      rw [List.take_of_length_le (by simp; omega)]
      simp [updF_app,itA,itC,riC]
    · simp [h1,updF_app]
end
end Go.Proofs.YtmeldaflhkiopaaGreat

namespace Go.Proofs.YtmeldaflhkiopaaGreat
set_option linter.unusedVariables false
set_option linter.unusedSimpArgs false
open Go Go.G Go.Proofs Go.PL
def rowG (m n : Nat) : List A := (List.range n).map fun j => .osl [5 + j] (j + 1) 1 0 m
@[simp] theorem rowG_len {m n : Nat} : (rowG m n).length = n := by simp [rowG]
@[simp] theorem rowG_get {m n k : Nat} (h : k < n) : (rowG m n)[k]? = some (.osl [5 + k] (k + 1) 1 0 m) := by simp [rowG,h]
@[simp] theorem rowG_at {m n k : Nat} (h : k < (rowG m n).length) : (rowG m n)[k] = .osl [5 + k] (k + 1) 1 0 m := by simp [rowG]
theorem rowG_succ (m n : Nat) : rowG m (n + 1) = rowG m n ++ [.osl [5 + n] (n + 1) 1 0 m] := by simp [rowG,List.range_succ]
noncomputable def scF (x : T) (b : List T) (q : Nat) : Int := (scoreT x (b.getD q T0) : Nat)
theorem scF_row (x : T) (b : List T) : fnL (scF x b) b.length = (b.map fun y => (scoreT x y : Int)).map iv := by
  rw [fnL_list,List.length_map]
  refine fnL_congr fun q hq => ?_
  simp [scF,hq]
section
variable {n0 : Nat} {w0 : World} {I0 : Nat→Prop} {Q : Exit→Sta→Prop}
theorem rgp_l1 {a b : List T} (ha : ∀ t,t ∈ a→wfT t) (hb : ∀ t,t ∈ b→wfT t) {i : Nat} (hi : i < a.length) (hal : a.length≤1000000) (hbl : b.length≤1000000) {most : Int} {H0 : Hp} (h1 : H0 [1] = ⟨i + 2,.arr 1 (rowG b.length (i + 1))⟩)
    (hq : ∀ (f' : Nat→Int) (H' : Hp) (st : List (Nat × A)),(∀ q,q < b.length→f' q = scF a[i] b q)→H' [5 + i] = ⟨i + 1,.arr 1 (fnL f' b.length)⟩→(∀ o,o ≠ [5 + i]→H' o = H0 o)→Q (.exit 2) ⟨lk ([(0,tKs a),(1,tKs b),(2,iv most),(7,.osl [1] (i + 2) 1 0 (i + 1)),(8,iv i)] ++ st),H'⟩) :
    ∀ (m j : Nat) (f : Nat→Int) (H : Hp),j + m = b.length→(∀ q,q < j→f q = scF a[i] b q)→(∀ o,o ≠ [5 + i]→H o = H0 o)→H [5 + i] = ⟨i + 1,.arr 1 (fnL f b.length)⟩ →
    LoopC (cx Tryz.prog w0 I0 n0) l1_centoref26_Gap Q ⟨lk [(0,tKs a),(1,tKs b),(2,iv most),(7,.osl [1] (i + 2) 1 0 (i + 1)),(8,iv i),(9,iv j)],H⟩ := by
  intro m
  induction m with
  | zero =>
    intro j f H hm hf hp h3
    refine loopC_once mixed l1_centoref26_Gap.eq_1 ?_
    have : j = b.length := by omega
    subst this
    simp
    have := hq f H [(9,iv b.length),(30,bv false)] hf h3 hp
    simpa using this
  | succ m ih =>
    intro j f H hm hf hp h3
    have g1 := hp [1] (by simp; omega)
    rw [h1] at g1
    have hj : j < b.length := by omega
    have c2 : (0 : Int)≤(i : Int) := by omega
    have c3 : (i : Int) < (i : Int) + 1 := by omega
    have e3 : IntKind.i64.wrap ((j : Int) + 1) = ((j + 1 : Nat) : Int) := by rw [i64_same (by omega) (by omega)]; omega
    have hS := rScore_spec (ha _ (List.getElem_mem hi)) (hb _ (List.getElem_mem hj))
    have next := ih (j + 1)
    refine loopC_once mixed l1_centoref26_Gap.eq_1 ?_
    simp [hi,hj,g1,h3,c2,c3]
    refine sc_call hS (by simp) ?_
    simp [g1,h3,hi,hj,c2,c3,e3]
    refine next (fun q => if q = j then ((scoreT a[i] b[j] : Nat) : Int) else f q) _ (by omega) (fun q hq => ?_) (fun o ho => by rw [updF_ne ho]; exact hp o ho) (by simp [updF_app])
    by_cases e : q = j
    · subst e; simp [scF,hj]
    · rw [if_neg e]; exact hf q (by omega)
theorem rgp_l2 {a b : List T} (ha : ∀ t,t ∈ a→wfT t) (hb : ∀ t,t ∈ b→wfT t) (hal : a.length≤1000000) (hbl : b.length≤1000000) {most : Int}
    (hq : ∀ (H : Hp) st,H [1] = ⟨a.length + 1,.arr 1 (rowG b.length a.length)⟩→(∀ k (hk : k < a.length),∃ f,(∀ q,q < b.length→f q = scF a[k] b q)∧H [5 + k] = ⟨k + 1,.arr 1 (fnL f b.length)⟩)→(∀ p,H (2 :: p) = ⟨0,.none⟩)→Q (.exit 0) ⟨lk ([(0,tKs a),(1,tKs b),(2,iv most),(7,.osl [1] (a.length + 1) 1 0 a.length)] ++ st),H⟩) : ∀ (m i : Nat) (H : Hp),i + m = a.length→H [0] = ⟨i,.none⟩→H [1] = ⟨i + 1,.arr 1 (rowG b.length i)⟩→(∀ k (hk : k < a.length),k < i→∃ f,(∀ q,q < b.length→f q = scF a[k] b q)∧H [5 + k] = ⟨k + 1,.arr 1 (fnL f b.length)⟩)→(∀ k,i≤k→H [5 + k] = ⟨0,.none⟩)→(∀ p,H (2 :: p) = ⟨0,.none⟩) →
    LoopC (cx Tryz.prog w0 I0 n0) l2_centoref26_Gap Q ⟨lk [(0,tKs a),(1,tKs b),(2,iv most),(7,.osl [1] (i + 1) 1 0 i),(8,iv i)],H⟩ := by
  intro m
  induction m with
  | zero =>
    intro i H hm h0 h1 hk hf h2
    refine loopC_once mixed l2_centoref26_Gap.eq_1 ?_
    have : i = a.length := by omega
    subst this
    simp
    have := hq H [(8,iv a.length),(18,bv false)] h1 (fun k hk' => hk k hk' hk') h2
    simpa using this
  | succ m ih =>
    intro i H hm h0 h1 hk hf h2
    have hi : i < a.length := by omega
    have e2 : IntKind.i64.wrap ((i : Int) + 1) = ((i + 1 : Nat) : Int) := by rw [i64_same (by omega) (by omega)]; omega
    refine loopC_once mixed l2_centoref26_Gap.eq_1 ?_
    simp [hi,h0,h1,updF_app]
    refine ⟨by omega,by omega,?_⟩
    have hfi := hf i (Nat.le_refl _)
    refine LoopC.le (le_moveR (d := [0]) (d' := [5 + i]) (e := [1]) (u := i + 1) (ue := i + 1 + 1) (sz := 1) (z := 1) (off := 0) (len := b.length) (xs := List.take i (rowG b.length i)) (fun _ h => h) (by simp; omega) (by simp) (by simp; omega) (by simp [updF_app,hfi,show ¬ 5 + i = 1 by omega,show ¬ 5 + i = 3 by omega,show ¬ 5 + i = 0 by omega]) (by simp [updF_app]) rfl (by simp [updF_app])) ?_
    rw [List.take_of_length_le (by simp),← rowG_succ]
    generalize hG : (updF _ [1] _ : Hp) = G
    have f0 : G [0] = ⟨i + 1,.none⟩ := by rw [← hG]; simp [updF_app]
    have f1 : G [1] = ⟨i + 1 + 1,.arr 1 (rowG b.length (i + 1))⟩ := by rw [← hG]; simp [updF_app]
    have f5 : G [5 + i] = ⟨i + 1,.arr 1 (fnL (fun _ => 0) b.length)⟩ := by
      rw [← hG,← fnL_zero]
      simp [updF_app,show ¬ 5 + i = 1 by omega,show ¬ 5 + i = 0 by omega]
    have fo : ∀ k,k ≠ i→G [5 + k] = H [5 + k] := fun k hne => by
      rw [← hG]
      simp [updF_app,show ¬ 5 + k = 1 by omega,show ¬ 5 + k = 3 by omega,show ¬ 5 + k = 0 by omega,hne]
    have fp : ∀ p,G (2 :: p) = ⟨0,.none⟩ := fun p => by
      rw [← hG,← h2 p]
      simp [updF_app,show ¬ 2 = 5 + i by omega]
    clear hG
    refine LoopC.le (le_list [(0,tKs a),(1,tKs b),(2,iv most),(7,.osl [1] (i + 2) 1 0 (i + 1)),(8,iv i),(9,iv (0 : Nat))] (by simp)) ?_
    refine rgp_l1 ha hb hi hal hbl (H0 := G) f1 (fun f2 G' st g1 g2 g3 => ?_) b.length 0 (fun _ => 0) G (by omega) (fun q hq => by omega) (fun o _ => rfl) f5
    simp [e2]
    refine ih (i + 1) G' (by omega) (by rw [g3 _ (by simp; omega),f0]) (by rw [g3 _ (by simp; omega),f1]) (fun k hk' hki => ?_) (fun k hki => ?_) (fun p => by rw [g3 _ (by simp; omega),fp])
    · by_cases e : k = i
      · subst e; exact ⟨f2,g1,g2⟩
      · obtain ⟨f',k1,k2⟩ := hk k hk' (by omega)
        exact ⟨f',k1,by rw [g3 _ (by simp; omega),fo k e,k2]⟩
    · rw [g3 _ (by simp; omega),fo k (by omega),hf k (by omega)]
end
theorem rGap_spec {one : T→T→E} {a b : List T} (ha : ∀ t,t ∈ a→wfT t) (hb : ∀ t,t ∈ b→wfT t) (hal : a.length≤1000000) (hbl : b.length≤1000000) {most : Int} (hone : ∀ x,x ∈ a→∀ y,y ∈ b→G.Spec Tryz.prog 28 [tX x,tX y,iv most] (eX (one x y))) :
    G.Spec Tryz.prog 77 [tKs a,tKs b,iv most] (oKs (gapE one a b)) := by
  obtain ⟨hpk,hp16⟩ := pkO_ok (scR a b)
  have hPl : (pkG (scR a b)).length≤16 := by
    have := (srt_ok (picks_facts hpk).1).2.length_eq
    unfold pkG
    omega
  have hPick := rpk_spec (scR a b) (by simp [scR]; omega) (fun r hr => by
    obtain ⟨x,_,rfl⟩ := List.mem_map.1 hr
    simp; omega) hpk hp16
  refine spec_of t_centoref26_Gap (by simp) fun w0 I0 => ?_
  unfold c_centoref26_Gap
  simp
  refine LoopC.le (le_blank 7 [1] 1 (by simp)) ?_
  refine LoopC.le (le_list [(0,tKs a),(1,tKs b),(2,iv most),(7,.osl [1] (0 + 1) 1 0 0),(8,iv (0 : Nat))] (by simp [upd])) ?_
  refine rgp_l2 ha hb hal hbl (fun H' st h1 hk h2 => ?_) a.length 0 _ (by omega) (by simp [updF_app]) (by simp [updF_app,rowG]) (fun k _ h => by omega) (fun k _ => by simp [updF_app,show ¬ 5 + k = 1 by omega]) (fun p => by simp [updF_app])
  simp
  obtain ⟨H2,k1,k2⟩ := le_freezeR (c := cx Tryz.prog w0 I0 120) (s := lk [(0,tKs a),(1,tKs b),(2,iv most),(7,.osl [1] (a.length + 1) 1 0 a.length)]) (H := H') (fun r => r = 1∨5≤r) (fun r p b hr h => h) 7 (ivss (scR a b)) (fun H1 e1 => by
    have e2 : H1 [1] = H' [1] := e1 1 [] (.inl rfl)
    simp
    refine frz_osl' (o := [1]) (u := a.length + 1) (off := 0) (len := a.length) (sz := 1) (xs := rowG b.length a.length) (ys := (scR a b).map ivsA) (by simp [e2,h1]) (by simp) (by simp [scR]) (by simp) ?_ ?_
    · rw [one_cells (fun x => rfl)]
      simp [A.ones]
    · rw [List.drop_zero,List.take_of_length_le (by simp)]
      have er : (scR a b).map ivsA = (List.range a.length).map fun k => .sl false (fnL (scF (a.getD k T0) b) b.length) := by
        refine List.ext_getElem (by simp [scR]) fun n n1 n2 => ?_
        have hn : n < a.length := by simpa [scR] using n1
        simp [scR,scF_row,hn]
      rw [er]
      unfold rowG
      rw [one_cells (fun x => rfl),one_cells (fun x => rfl)]
      refine frzL_maps _ fun k hk0 => ?_
      have hk1 : k < a.length := by simpa using hk0
      obtain ⟨f,g1,g2⟩ := hk k hk1
      have ek : a.getD k T0 = a[k] := by simp [hk1]
      rw [ek,← fnL_congr g1]
      exact frz_fnL (by rw [e1 (5 + k) [] (.inr (by omega))]; exact g2))
  refine stop_le k1 ?_
  refine stop_le (le_list [(0,tKs a),(1,tKs b),(2,iv most),(7,ivss (scR a b))] (by simp [upd])) (stop_go ?_)
  have hz : ∀ p,H2 (2 :: p) = ⟨0,.none⟩ := fun p => (k2 2 p (by omega)).trans (h2 p)
  simp
  refine sc_call hPick (by simp) ?_
  simp
  refine LoopC.le (le_blank 11 [2] 14 (by simp)) ?_
  refine LoopC.le (le_list [(0,tKs a),(1,tKs b),(2,iv most),(10,prs (pkG (scR a b))),(11,.osl [2] 1 14 0 ([] : List IT).length),(12,iv (0 : Nat)),(13,iv (0 : Nat)),(14,iv (0 : Nat))] (by simp [upd,updF_app,hz,pkG])) ?_
  refine rgp_l3 (one := one) (a := a) (b := b) hal hbl hone (P := pkG (scR a b)) (by omega) (R := gapE one a b) (fun H3 its v i j hv hi hj hl hR k5 => ?_) _ 0 0 0 1 [] _ (Nat.zero_add _) (Nat.le_refl _) (pkG_ok a b) (by simp) rfl (fun p => ?_)
  · have F1 := rSome_spec its v hv (by omega) (k := 1) (.inl rfl) ((a.drop i).take (a.length - i))
    have d1 := smI_len 1 ((a.drop i).take (a.length - i))
    have d2 := smI_len 2 ((b.drop j).take (b.length - j))
    have o1 := smI_op1 ((a.drop i).take (a.length - i))
    have o2 := smI_op2 ((b.drop j).take (b.length - j))
    have ea : (a.drop i).take (a.length - i) = a.drop i := List.take_of_length_le (by simp)
    have eb : (b.drop j).take (b.length - j) = b.drop j := List.take_of_length_le (by simp)
    have hR2 : gapE one a b = its.map IT.op ++ delO ((a.drop i).take (a.length - i)) ++ insO ((b.drop j).take (b.length - j)) := by rw [ea,eb,hR,gapO]
    clear ea eb
    rw [hR2,← o1,← o2]
    have F2 := rSome_spec (its ++ smI 1 ((a.drop i).take (a.length - i))) (v + (smI 1 ((a.drop i).take (a.length - i))).length) (by omega) (by simp; omega) (k := 2) (.inr rfl) ((b.drop j).take (b.length - j))
    clear hR2 o1 o2
    simp [hi,hj]
    simp only [← List.map_drop,← List.map_take]
    refine sc_fam 2 F1 k5 (by simp) (by simp) ?_
    clear F1
    generalize smI 1 ((a.drop i).take (a.length - i)) = D at *
    generalize hI : smI 2 ((b.drop j).take (b.length - j)) = I at *
    simp only [List.length_append] at F2 ⊢
    simp [hi,hj]
    simp only [← List.map_drop,← List.map_take]
    refine sc_fam 2 F2 (fun p => by simp) (by simp) (by simp) ?_
    simp
    have hf : ∀ H : Hp,H [2] = ⟨v + D.length + I.length,.arr 14 ((its ++ D ++ I).map itA)⟩→Frz H (.osl [2] (v + D.length + I.length) 14 0 (its.length + D.length + I.length)) (oKs (its.map IT.op ++ (D.map IT.op ++ I.map IT.op))) := fun H hH => by
      have := frz_its hH (n := its.length + D.length + I.length) (by simp; omega)
      simpa using this
    simpa [Nat.add_assoc] using hf _ (by simp [Nat.add_assoc])
  · by_cases hp : p = []
    · subst hp; simp [updF_app,hz]
    · simp [updF_app,hp,hz]
end Go.Proofs.YtmeldaflhkiopaaGreat

namespace Go.Proofs.YtmeldaflhkiopaaGreat
set_option linter.unusedVariables false
set_option linter.unusedSimpArgs false
open Go Go.G Go.Proofs Go.PL
theorem zsN_nv (l : List Nat) : (zsN l).map iv = l.map nv := by
  simp [zsN]
theorem nrm_k {us : List Nat} (h : ∀ x,x ∈ us→x≤2) : ∀ s,s ∈ nrmS us→s.k≤2∧1≤s.n := goU_ok us 0 0 0 h
theorem steps_len : ∀ (l : List Sp),(∀ s,s ∈ l→s.k≤2∧1≤s.n)→l.length≤dA (unitsS l) + dB (unitsS l)
  | [],_ => by simp
  | s :: l,h => by
    have ih := steps_len l fun x hx => h x (by simp [hx])
    have hs := h s (by simp)
    rw [units_cons,dA_app,dB_app,dA_rep,dB_rep,List.length_cons]
    split <;> split <;> omega
theorem pkG_nil (a b : List T) (h : a = []∨b = []) : pkG (scR a b) = [] := by
  have hP := pkG_ok a b
  cases hp : pkG (scR a b) with
  | nil => rfl
  | cons x P =>
    rw [hp] at hP
    have h1 := hP.2.2.1
    have h2 := hP.2.2.2.1
    rcases h with rfl | rfl <;> simp at h1 h2
theorem gapE_nil (one : T→T→E) (b : List T) : gapE one [] b = insO b := by
  unfold gapE
  rw [pkG_nil _ _ (.inl rfl),gapO]
  simp [delO]
theorem gapE_nil' (one : T→T→E) (a : List T) : gapE one a [] = delO a := by
  unfold gapE
  rw [pkG_nil _ _ (.inr rfl),gapO]
  simp [insO]
theorem opsG_all (one : T→T→E) (a b : List T) : opsG (gapE one) (nrmS (unitsS [⟨1,a.length⟩,⟨2,b.length⟩])) a b [] = gapE one a b := by
  have e : nrmS (unitsS [⟨1,a.length⟩,⟨2,b.length⟩]) = fl 1 a.length ++ fl 2 b.length := by
    unfold nrmS
    rw [units_cons,units_cons,units_nil]
    by_cases h1 : a.length = 0
    · by_cases h2 : b.length = 0
      · simp [h1,h2,goU]
      · rw [h1]
        simp only [List.replicate_zero,List.nil_append]
        rw [goU_ins b.length [] 0 0 0 (by omega)]
        simp [goU]
    · rw [goU_del a.length _ 0 0 0 (by omega)]
      by_cases h2 : b.length = 0
      · simp [h2,goU]
      · rw [goU_ins b.length [] 0 _ 0 (by omega)]
        simp [goU]
  rw [e]
  by_cases h1 : a.length = 0
  · have h1' : a = [] := by simpa using h1
    subst h1'
    by_cases h2 : b.length = 0
    · have h2' : b = [] := by simpa using h2
      subst h2'
      simp [opsG,gapE_nil,insO]
    · rw [fl_pos (k := 2) (n := b.length) (by omega)]
      simp [opsG,gapE_nil]
  · rw [fl_pos (k := 1) (n := a.length) (by omega)]
    by_cases h2 : b.length = 0
    · have h2' : b = [] := by simpa using h2
      subst h2'
      simp [opsG,gapE_nil']
    · rw [fl_pos (k := 2) (n := b.length) (by omega)]
      simp [opsG]
theorem pList26_spec {one : T→T→E} {a b : T} (ha : wfT a) (hb : wfT b) (hna : ∀ t,t ∈ a.kids→norm t = t) (hnb : ∀ t,t ∈ b.kids→norm t = t) (hal : a.kids.length≤30000) (hbl : b.kids.length≤30000) {most : Int} (hm : i64R most) (hone : ∀ x,x ∈ a.kids→∀ y,y ∈ b.kids→G.Spec Tryz.prog 26 [tX x,tX y,iv most] (eX (one x y))) :
    G.Spec Tryz.prog 45 [tX a,tX b,iv most] (eX (listE one most a b)) := by
  have hka := (wfT_iff.1 ha).ks
  have hkb := (wfT_iff.1 hb).ks
  have C1 := clsOf_spec (ks := []) (ts := a.kids) (by simp) (by simp) hka hna (by simp; omega) 1
  have hl1 := clsL_len a.kids []
  simp at hl1
  have C2 := clsOf_spec (ks := (clsL [] a.kids).1) (ts := b.kids) (clsL_wf (l := a.kids) (by simp) hka) (clsL_nrm (l := a.kids) (by simp)) hkb hnb (by omega) (ofVs 1 [] a.kids)
  have e1 : (caL a).length = a.kids.length := by simp [caL,zsN,clsL_length]
  have e2 : (cbL a b).length = b.kids.length := by simp [cbL,zsN,clsL_length]
  have hD := diffL_spec (a := caL a) (b := cbL a b) (by omega) (by omega) hm
  have z1 : (caL a).map iv = (clsL [] a.kids).2.map nv := zsN_nv _
  have z2 : (cbL a b).map iv = (clsL (clsL [] a.kids).1 b.kids).2.map nv := zsN_nv _
  simp only [ivs,z1,z2] at hD
  have key : ∀ (w0 : World) (I0 : Nat→Prop) (S : List Sp) (H : Hp),S.length≤10000000→(∀ s,s ∈ S→s.k≤2)→dA (unitsS S)≤a.kids.length→dB (unitsS S)≤b.kids.length→H [0] = ⟨1,.cells (tL a)⟩→H [1] = ⟨1,.cells (tL b)⟩→H [2] = ⟨1,.cells rawE⟩ →
      WPC (cx Tryz.prog w0 I0 47) k1_diff_list (RetC Tryz.prog [ResultVar.cell 6 33] (eX (.mk 3 T0 T0 [] [] a.kind (opsG (gapE one) S a.kids b.kids [])))) ⟨lk [(2,iv most),(3,.pob [0] 1 0),(4,.pob [1] 1 0),(6,.pob [2] 1 0),(9,sps S)],H⟩ := by
    intro w0 I0 S H s1 s2 s3 s4 h0 h1 h2
    have O := dOps26_spec hka hkb (by omega) (by omega) hone s1 s2 s3 s4
    rw [k1_diff_list.eq_1]
    simp [h0,h1]
    refine sc_call O (by simp) ?_
    simp [h0,h2,updF_app,rawE]
    exact frz_agg ⟨frz_bare rfl,frz_bare rfl,frz_sl,frz_sl,frz_bare rfl,frz_sl,frz_sl,frz_sl,frz_sl,frz_bare rfl,frz_sl,trivial⟩
  have wd := wayU_d (caL a) (cbL a b)
  have wi := wayU_in (caL a) (cbL a b)
  have wn := nrmS_d _ wi
  refine spec_of t_diff_list (by simp) fun w0 I0 => ?_
  unfold c_diff_list
  simp
  refine stop_le (le_blankC (d := [3]) (u := 1) (cs := [.sl true []]) 0 [3,0] 3 (by simp [updF_app]) rfl (by simp)) (stop_go ?_)
  simp
  refine sc_fam 3 C1 (fun p => ?_) (by simp) (by simp) ?_
  · by_cases h1 : p = []
    · subst h1; simp [updF_app]
    · by_cases h2 : p = [0]
      · subst h2; simp [updF_app]
      · simp [h1,h2,Ne.symm h1,Ne.symm h2,updF_app]
  · simp
    refine sc_fam 3 C2 (fun p => by simp) (by simp) (by simp) ?_
    simp
    refine sc_call hD (by simp) ?_
    by_cases hd : (distL (caL a) (cbL a b) : Int)≤most
    · have hL : listE one most a b = .mk 3 T0 T0 [] [] a.kind (opsG (gapE one) (nrmS (wayU (caL a) (cbL a b))) a.kids b.kids []) := by unfold listE; rw [if_pos hd]
      rw [hL]
      simp [hd]
      refine key _ _ _ _ ?_ (fun s hs => (nrm_k wi s hs).1) (by omega) (by omega) (by simp) (by simp) (by simp [rawE])
      have := steps_len _ (nrm_k wi)
      omega
    · have hL : listE one most a b = .mk 3 T0 T0 [] [] a.kind (opsG (gapE one) (nrmS (unitsS [⟨1,a.kids.length⟩,⟨2,b.kids.length⟩])) a.kids b.kids []) := by unfold listE; rw [if_neg hd,opsG_all]
      have N := pNrm_spec (all := [⟨1,a.kids.length⟩,⟨2,b.kids.length⟩]) (fun s hs => by
        simp at hs
        rcases hs with rfl | rfl
        · exact ⟨by simp,by simp; omega⟩
        · exact ⟨by simp,by simp; omega⟩) (by simp)
      have ui : ∀ x,x ∈ unitsS [⟨1,a.kids.length⟩,⟨2,b.kids.length⟩]→x≤2 := fun x hx => by
        rw [units_cons,units_cons,units_nil,List.append_nil] at hx
        rcases List.mem_append.1 hx with h | h <;> (have h' := List.eq_of_mem_replicate h; simp at h'; omega)
      have ud := nrmS_d _ ui
      have ua : dA (unitsS [⟨1,a.kids.length⟩,⟨2,b.kids.length⟩]) = a.kids.length := by
        rw [units_cons,units_cons,units_nil,dA_app,dA_app,dA_rep,dA_rep]; simp [dA]
      have ub : dB (unitsS [⟨1,a.kids.length⟩,⟨2,b.kids.length⟩]) = b.kids.length := by
        rw [units_cons,units_cons,units_nil,dB_app,dB_app,dB_rep,dB_rep]; simp [dB]
      have ul := steps_len _ (nrm_k ui)
      have N2 : G.Spec Tryz.prog 71 [.sl true [.agg [iv 1,iv a.kids.length],.agg [iv 2,iv b.kids.length]]] (sps (nrmS (unitsS [⟨1,a.kids.length⟩,⟨2,b.kids.length⟩]))) := N.soft (by simp [A.softL,A.soft,spA,spC])
      clear N
      rw [hL]
      clear hL
      generalize unitsS [⟨1,a.kids.length⟩,⟨2,b.kids.length⟩] = us at *
      simp [hd]
      refine sc_call N2 (by simp) ?_
      simp
      refine key _ _ _ _ (by omega) (fun s hs => (nrm_k ui s hs).1) (by omega) (by omega) (by simp) (by simp) (by simp [rawE])
end Go.Proofs.YtmeldaflhkiopaaGreat

namespace Go.Proofs.YtmeldaflhkiopaaGreat
set_option linter.unusedVariables false
set_option linter.unusedSimpArgs false
open Go Go.G Go.Proofs Go.PL
theorem frz_nv {H : Hp} {o : Nm} {u : Nat} {l : List Nat} {n : Nat} (h : vr (H o) u = some (1,l.map nv)) (hn : n = l.length) : Frz H (.osl o u 1 0 n) (.sl false (l.map nv)) := frz_row (f := nv) h hn fun x => by simp
section
variable {n0 : Nat} {w0 : World} {I0 : Nat→Prop} {Q : Exit→Sta→Prop}
end
end Go.Proofs.YtmeldaflhkiopaaGreat

namespace Go.Proofs.YtmeldaflhkiopaaGreat
set_option linter.unusedVariables false
set_option linter.unusedSimpArgs false
open Go Go.G Go.Proofs Go.PL
theorem le_softS {c : Cx} {s : Nat→A} {H : Hp} (t : Nat) : Le c ⟨s,H⟩ ⟨upd s t (A.soft (s t)),H⟩ := fun a w I μ hs =>
  ⟨I,μ,hs.sim,hs.size,hs.defers,fun k => by
    show Rel w I μ (upd s t (A.soft (s t)) k) _
    unfold upd
    split
    · rename_i e
      subst e
      exact (hs.rel _).soft
    · exact hs.rel k⟩
section
variable {n0 : Nat} {w0 : World} {I0 : Nat→Prop} {Q : Exit→Sta→Prop}
end
section
variable {n0 : Nat} {w0 : World} {I0 : Nat→Prop}
end
end Go.Proofs.YtmeldaflhkiopaaGreat

namespace Go.Proofs.YtmeldaflhkiopaaGreat
set_option linter.unusedVariables false
set_option linter.unusedSimpArgs false
open Go Go.G Go.Proofs Go.PL
abbrev opsC (l : Int) (v n : Nat) : List A := [iv 3,iv 0,.sl true [],.sl true [],iv 0,.sl true [],.sl true [],.sl true [],.sl true [],iv l,.osl [4] v 14 0 n]
section
variable {n0 : Nat} {w0 : World} {I0 : Nat→Prop} {Q : Exit→Sta→Prop}
theorem rls26_l1 {one : T→T→E} {a b : T} (ha : ∀ t,t ∈ a.kids→wfT t) (hb : ∀ t,t ∈ b.kids→wfT t) (hal : a.kids.length≤1000000) (hbl : b.kids.length≤1000000) {most : Int} (hone : ∀ x,x ∈ a.kids→∀ y,y ∈ b.kids→G.Spec Tryz.prog 28 [tX x,tX y,iv most] (eX (one x y))) {S : List Sp} (hS : S.length≤10000) (hS2 : ∀ s,s ∈ S→s.k≤2) {R : List OP}
    (hq : ∀ (H' : Hp) (its : List IT) (v : Nat) (st : List (Nat × A)),its.map IT.op = R→H' [2] = ⟨1,.cells rawE⟩→H' [3] = ⟨1,.cells (opsC a.kind v its.length)⟩→H' [4] = ⟨v,.arr 14 (its.map itA)⟩→Q (.exit 0) ⟨lk ([(2,iv most),(3,.pob [0] 1 0),(4,.pob [1] 1 0),(6,.pob [2] 1 0),(11,sps S),(13,.pob [3] 1 0)] ++ st),H'⟩) :
    ∀ (m k i j v : Nat) (its : List IT) (H : Hp),k + m = S.length→1≤v→i + dA (unitsS (S.drop k))≤a.kids.length→j + dB (unitsS (S.drop k))≤b.kids.length→its.length≤50 * k→R = opsG (gapE one) (S.drop k) (a.kids.drop i) (b.kids.drop j) (its.map IT.op)→H [0] = ⟨1,.cells (tL a)⟩→H [1] = ⟨1,.cells (tL b)⟩→H [2] = ⟨1,.cells rawE⟩→H [3] = ⟨1,.cells (opsC a.kind v its.length)⟩→(∀ p,H (4 :: p) = (itM v its).F 4 p) →
    LoopC (cx Tryz.prog w0 I0 n0) l1_centoref26_lists Q ⟨lk [(2,iv most),(3,.pob [0] 1 0),(4,.pob [1] 1 0),(6,.pob [2] 1 0),(11,sps S),(13,.pob [3] 1 0),(14,iv i),(15,iv j),(16,iv k)],H⟩ := by
  intro m
  induction m using Nat.strongRecOn with
  | _ m ih =>
  intro k i j v its H hm hv hA hB hl hR h0 h1 h2 h3 h4
  have h4' := h4 []
  simp at h4'
  cases m with
  | zero =>
    have : k = S.length := by omega
    subst this
    rw [List.drop_length] at hR
    refine loopC_once mixed l1_centoref26_lists.eq_1 ?_
    simp
    have := hq H its v [(14,iv i),(15,iv j),(16,iv S.length),(57,bv false)] hR.symm h2 h3 h4'
    simpa using this
  | succ m =>
    have hlt : k < S.length := by omega
    have ew : IntKind.i64.wrap ((k : Int) + 1) = ((k + 1 : Nat) : Int) := by rw [i64_same (by omega) (by omega)]; omega
    have hd : S.drop k = S[k] :: S.drop (k + 1) := (List.getElem_cons_drop hlt).symm
    have hk := hS2 _ (List.getElem_mem hlt)
    rw [hd] at hR hA hB
    rw [units_cons,dA_app,dA_rep] at hA
    rw [units_cons,dB_app,dB_rep] at hB
    generalize hs : S[k] = s at *
    have hk3 : s.k = 0∨s.k = 1∨s.k = 2 := by omega
    have ewi : i + s.n≤a.kids.length→IntKind.i64.wrap ((i : Int) + s.n) = ((i + s.n : Nat) : Int) := fun h => by rw [i64_same (by omega) (by omega)]; omega
    have ewj : j + s.n≤b.kids.length→IntKind.i64.wrap ((j : Int) + s.n) = ((j + s.n : Nat) : Int) := fun h => by rw [i64_same (by omega) (by omega)]; omega
    have sl : ∀ {p n q : Nat},p + n≤q→(0 : Int)≤(p : Int) + n∧(p : Int) + n≤(q : Int)∧((p : Int) + n).toNat = p + n∧(p : Int)≤(p : Int) + n := fun h => ⟨by omega,by omega,by omega,by omega⟩
    rcases hk3 with h | h | h
    · rw [opsG_keep h,List.drop_drop,List.drop_drop] at hR
      rw [if_neg (by omega)] at hA hB
      have wi := ewi (by omega)
      have wj := ewj (by omega)
      have nx := ih m (by omega) (k + 1) (i + s.n) (j + s.n) (v + 1) (its ++ [IT.r (RI.keep (s.n : Int))])
      simp only [List.length_append,List.length_cons,List.length_nil] at nx
      refine loopC_once mixed l1_centoref26_lists.eq_1 ?_
      simp [hlt,hs,spA,spC,h,h3,h4',lens_it,ew,wi,wj,updF_app]
      refine ⟨by omega,?_⟩
      refine nx _ (by omega) (by omega) (by omega) (by omega) (by omega) (by rw [hR]; simp [IT.op,RI.op]) (by simp [updF_app,h0]) (by simp [updF_app,h1]) (by simp [updF_app,h2,rawE]) (by simp [updF_app]) (fun p => ?_)
      by_cases hp : p = []
      · subst hp; rw [List.take_of_length_le (by simp)]; simp [updF_app,itA,itC,riC,rawE]
      · simp [updF_app,hp,h4]
    · rw [h] at hA hB
      simp at hA hB
      have wi := ewi (by omega)
      by_cases hg2 : ∃ h3 : k + 1 < S.length,S[k + 1].k = 2
      · obtain ⟨h5,h6⟩ := hg2
        have hd2 : S.drop (k + 1) = S[k + 1] :: S.drop (k + 1 + 1) := (List.getElem_cons_drop h5).symm
        rw [hd2] at hR hA hB
        rw [units_cons,dA_app,dA_rep] at hA
        rw [units_cons,dB_app,dB_rep] at hB
        generalize hs2 : S[k + 1] = s2 at *
        rw [opsG_gap h h6,List.drop_drop,List.drop_drop] at hR
        rw [h6] at hA hB
        simp at hA hB
        have ew2 : IntKind.i64.wrap ((k : Int) + 1 + 1) = ((k + 1 + 1 : Nat) : Int) := by rw [i64_same (by omega) (by omega)]; omega
        have wj2 : IntKind.i64.wrap ((j : Int) + s2.n) = ((j + s2.n : Nat) : Int) := by rw [i64_same (by omega) (by omega)]; omega
        have G := rGap_spec (one := one) (a := (a.kids.drop i).take s.n) (b := (b.kids.drop j).take s2.n) (fun t ht => ha t (List.mem_of_mem_drop (List.mem_of_mem_take ht))) (fun t ht => hb t (List.mem_of_mem_drop (List.mem_of_mem_take ht))) (by simp; omega) (by simp; omega) (most := most) (fun p hp q hq => hone p (List.mem_of_mem_drop (List.mem_of_mem_take hp)) q (List.mem_of_mem_drop (List.mem_of_mem_take hq)))
        have gl := gapE_len one ((a.kids.drop i).take s.n) ((b.kids.drop j).take s2.n)
        have i1 : (k : Int) + 1 < S.length := by omega
        have i2 : (0 : Int)≤(k : Int) + 1 := by omega
        have i3 : ((k : Int) + 1).toNat = k + 1 := by omega
        have i4 : IntKind.i64.wrap ((k : Int) + 1) = (k : Int) + 1 := by rw [ew]; omega
        have c1 : i + s.n≤a.kids.length := by omega
        have c2 : j + s2.n≤b.kids.length := by omega
        obtain ⟨p1,p2,p3,p4⟩ := sl c1
        obtain ⟨q1,q2,q3,q4⟩ := sl c2
        generalize gapE one ((a.kids.drop i).take s.n) ((b.kids.drop j).take s2.n) = I at *
        have nx := fun H' => ih (m - 1) (by omega) (k + 1 + 1) (i + s.n) (j + s2.n) (v + 1) (its ++ I.map IT.got) H' (by omega)
        simp only [List.length_append,List.length_map] at nx
        refine loopC_once mixed l1_centoref26_lists.eq_1 ?_
        simp [hlt,hs,spA,spC,h,i4,h5,hs2,h6,i1,i2,i3]
        rw [k1_centoref26_lists.eq_1]
        simp [h0,h1,h3,wi,wj2,c1,c2,p1,p2,p3,p4,q1,q2,q3,q4]
        simp only [← List.map_drop,← List.map_take]
        refine sc_call G (by simp) ?_
        simp [h3,h4',lens_it,wi,wj2,updF_app,ew2]
        refine ⟨by omega,?_⟩
        refine nx _ (by omega) (by omega) (by omega) (by omega) (by rw [hR,List.map_append,hop26]) (by simp [updF_app,h0]) (by simp [updF_app,h1]) (by simp [updF_app,h2,rawE]) (by simp [updF_app]) (fun p => ?_)
        by_cases hp : p = []
        · subst hp; rw [List.take_of_length_le (by simp),hgot26]; simp [updF_app]
        · simp [updF_app,hp,h4]
      · have hnd : ∀ s2 r,S.drop (k + 1) = s2 :: r→s2.k ≠ 2 := fun s2 r e h4 => by
          have h3 : k + 1 < S.length := by
            have := congrArg List.length e
            simp at this
            omega
          refine hg2 ⟨h3,?_⟩
          have : S.drop (k + 1) = S[k + 1] :: S.drop (k + 1 + 1) := (List.getElem_cons_drop h3).symm
          rw [this] at e
          cases e
          exact h4
        rw [opsG_del h hnd,List.drop_drop] at hR
        have G := rGap_spec (one := one) (a := (a.kids.drop i).take s.n) (b := []) (fun t ht => ha t (List.mem_of_mem_drop (List.mem_of_mem_take ht))) (fun t ht => by simp at ht) (by simp; omega) (by simp) (most := most) (fun p hp q hq => by simp at hq)
        rw [gapE_nil'] at G
        have c1 : i + s.n≤a.kids.length := by omega
        have c2 : j≤b.kids.length := by omega
        obtain ⟨p1,p2,p3,p4⟩ := sl c1
        have wj0 : IntKind.i64.wrap (j : Int) = j := i64_same (by omega) (by omega)
        have gl : (delO ((a.kids.drop i).take s.n)).length≤1 := by unfold delO; split <;> simp
        generalize delO ((a.kids.drop i).take s.n) = I at *
        have nx := fun H' => ih m (by omega) (k + 1) (i + s.n) j (v + 1) (its ++ I.map IT.got) H' (by omega)
        simp only [List.length_append,List.length_map] at nx
        have i4 : IntKind.i64.wrap ((k : Int) + 1) = (k : Int) + 1 := by rw [ew]; omega
        have key : WPC (cx Tryz.prog w0 I0 n0) k1_centoref26_lists (InBlock 2 (InBlock 1 (ThenC (WPC (cx Tryz.prog w0 I0 n0) (.keep [2,3,4,6,11,13,14,15,16] (.reg [co (some 58) (.move (.tmp 16)) none,co (some 59) (.binOp .add 3 (.tmp 58) (.const (.int .i64 1)) 3) none,co (some 16) (.assign (.tmp 59)) none] [2,3,4,6,11,13,14,15,16]))
            (ThenC (LoopC (cx Tryz.prog w0 I0 n0) l1_centoref26_lists Q) Q)) (ThenC (LoopC (cx Tryz.prog w0 I0 n0) l1_centoref26_lists Q) Q)))) ⟨lk [(2,iv most),(3,.pob [0] 1 0),(4,.pob [1] 1 0),(6,.pob [2] 1 0),(11,sps S),(13,.pob [3] 1 0),(14,iv i),(15,iv j),(16,iv k),(17,iv s.n),(18,iv 0)],H⟩ := by
          rw [k1_centoref26_lists.eq_1]
          simp [h0,h1,h3,wi,wj0,c1,c2,p1,p2,p3,p4]
          simp only [← List.map_drop,← List.map_take]
          refine sc_call G (by simp) ?_
          simp [h3,h4',lens_it,wi,wj0,updF_app,ew]
          refine ⟨by omega,?_⟩
          refine nx _ (by omega) (by omega) (by omega) (by omega) (by rw [hR,List.map_append,hop26]) (by simp [updF_app,h0]) (by simp [updF_app,h1]) (by simp [updF_app,h2,rawE]) (by simp [updF_app]) (fun p => ?_)
          by_cases hp : p = []
          · subst hp; rw [List.take_of_length_le (by simp),hgot26]; simp [updF_app]
          · simp [updF_app,hp,h4]
        refine loopC_once mixed l1_centoref26_lists.eq_1 ?_
        by_cases h5 : k + 1 < S.length
        · have h6 : ¬ S[k + 1].k = 2 := fun e => hg2 ⟨h5,e⟩
          have i1 : (k : Int) + 1 < S.length := by omega
          have i2 : (0 : Int)≤(k : Int) + 1 := by omega
          have i3 : ((k : Int) + 1).toNat = k + 1 := by omega
          have h6' : ¬ ((S[k + 1].k : Nat) : Int) = 2 := by omega
          simp [hlt,hs,spA,spC,h,i4,h5,h6,h6',i1,i2,i3]
          simpa using key
        · have i1 : ¬ (k : Int) + 1 < S.length := by omega
          simp [hlt,hs,spA,spC,h,i4,h5,i1]
          simpa using key
    · rw [opsG_ins h,List.drop_drop] at hR
      rw [h] at hA hB
      simp at hA hB
      have wj := ewj (by omega)
      have c2 : j + s.n≤b.kids.length := by omega
      obtain ⟨q1,q2,q3,q4⟩ := sl c2
      have F2 := rSome_spec its v hv (by omega) (k := 2) (.inr rfl) ((b.kids.drop j).take s.n)
      have d2 := smI_len 2 ((b.kids.drop j).take s.n)
      have o2 := smI_op2 ((b.kids.drop j).take s.n)
      rw [← o2] at hR
      clear o2
      generalize smI 2 ((b.kids.drop j).take s.n) = I at *
      simp only [List.length_append] at F2
      have nx := fun H' => ih m (by omega) (k + 1) i (j + s.n) (v + I.length) (its ++ I) H' (by omega)
      simp only [List.length_append] at nx
      refine loopC_once mixed l1_centoref26_lists.eq_1 ?_
      simp [hlt,hs,spA,spC,h,h1,h3,wj,c2,q1,q2,q3,q4]
      simp only [← List.map_drop,← List.map_take]
      refine sc_fam 4 F2 h4 (by simp) (by simp) ?_
      simp [h1,h3,wj,ew,updF_app]
      refine nx _ (by omega) (by omega) (by omega) (by omega) (by rw [hR]; simp) (by simp [updF_app,h0]) (by simp [updF_app,h1]) (by simp [updF_app,h2,rawE]) (by simp [updF_app]) (fun p => ?_)
      simp [updF_app]
end
theorem rList26_spec {one : T→T→E} {a b : T} (ha : wfT a) (hb : wfT b) (hal : a.kids.length≤1000) (hbl : b.kids.length≤1000) {most : Int} (hm : i64R most) (hone : ∀ x,x ∈ a.kids→∀ y,y ∈ b.kids→G.Spec Tryz.prog 28 [tX x,tX y,iv most] (eX (one x y))) :
    G.Spec Tryz.prog 48 [tX a,tX b,iv most] (eX (listE one most a b)) := by
  have hka := (wfT_iff.1 ha).ks
  have hkb := (wfT_iff.1 hb).ks
  have C1 := rClasses_spec (ks := []) (ts := a.kids) (by simp) hka (by simp; omega) 1
  have hl1 := clsL_len a.kids []
  simp at hl1
  have C2 := rClasses_spec (ks := (clsL [] a.kids).1) (ts := b.kids) (clsL_wf (l := a.kids) (by simp) hka) hkb (by omega) (clsLU 1 [] a.kids)
  have e1 : (caL a).length = a.kids.length := by simp [caL,zsN,clsL_length]
  have e2 : (cbL a b).length = b.kids.length := by simp [cbL,zsN,clsL_length]
  have hD := rdiff_spec (a := caL a) (b := cbL a b) (by omega) (by omega) hm
  have z1 : (caL a).map iv = (clsL [] a.kids).2.map nv := zsN_nv _
  have z2 : (cbL a b).map iv = (clsL (clsL [] a.kids).1 b.kids).2.map nv := zsN_nv _
  simp only [ivs,z1,z2] at hD
  have key : ∀ (w0 : World) (I0 : Nat→Prop) (S : List Sp) (L : A) (H : Hp),(L = sps S∨A.soft L = sps S)→S.length≤10000→(∀ s,s ∈ S→s.k≤2)→dA (unitsS S)≤a.kids.length→dB (unitsS S)≤b.kids.length→H [0] = ⟨1,.cells (tL a)⟩→H [1] = ⟨1,.cells (tL b)⟩→H [2] = ⟨1,.cells rawE⟩→(H [3]).u = 0→(∀ p,H (4 :: p) = ⟨0,.none⟩) →
      WPC (cx Tryz.prog w0 I0 150) k2_centoref26_lists (RetC Tryz.prog [ResultVar.cell 6 33] (eX (.mk 3 T0 T0 [] [] a.kind (opsG (gapE one) S a.kids b.kids [])))) ⟨lk [(2,iv most),(3,.pob [0] 1 0),(4,.pob [1] 1 0),(6,.pob [2] 1 0),(11,L)],H⟩ := by
    intro w0 I0 S L H hL s1 s2 s3 s4 h0 h1 h2 h3 h4
    rw [k2_centoref26_lists.eq_1]
    simp [h0,h1,h3,updF_app]
    refine LoopC.le (le_blankC (d := [3]) (u := 1) 10 [4] 14 (by simp [updF_app,h3]; rfl) rfl (by simp)) ?_
    simp [updF_app,h3,h4]
    have soft : LoopC (cx Tryz.prog w0 I0 150) l1_centoref26_lists (InBlock 0 (ThenC (WPC (cx Tryz.prog w0 I0 150) (CC.keep [6,13] ((CC.reg [co (some 149) (Op.load 33 (Operand.tmp 13)) none,co none (Op.store 33 (Operand.tmp 6) (Operand.tmp 149)) none] [6]).seq CC.ret)) (RetC Tryz.prog [ResultVar.cell 6 33] (eX (E.mk 3 T0 T0 [] [] a.kind (opsG (gapE one) S a.kids b.kids []))))) (RetC Tryz.prog [ResultVar.cell 6 33] (eX (E.mk 3 T0 T0 [] [] a.kind (opsG (gapE one) S a.kids b.kids [])))))) ⟨lk [(2,iv most),(3,.pob [0] 1 0),(4,.pob [1] 1 0),(6,.pob [2] 1 0),(11,sps S),(13,.pob [3] 1 0),(14,iv (0 : Nat)),(15,iv (0 : Nat)),(16,iv (0 : Nat))],updF (updF (updF H [3] ⟨1,.cells [iv 3,iv 0,.sl true [],.sl true [],iv 0,.sl true [],.sl true [],.sl true [],.sl true [],iv a.kind,.sl true []]⟩) [4] ⟨1,.arr 14 []⟩) [3] ⟨1,.cells (opsC a.kind 1 0)⟩⟩ := by
      refine rls26_l1 (one := one) (a := a) (b := b) hka hkb (by omega) (by omega) hone s1 s2 (R := opsG (gapE one) S a.kids b.kids []) (fun H' its v st hR g2 g3 g4 => ?_) S.length 0 0 0 1 [] _ (by omega) (Nat.le_refl _) (by simpa using s3) (by simpa using s4) (by simp) rfl (by simp [updF_app,h0]) (by simp [updF_app,h1]) (by simp [updF_app,h2,rawE]) (by simp [updF_app]) (fun p => ?_)
      · rw [← hR]
        simp [g2,g3,g4,rawE]
        refine frz_agg ⟨frz_bare rfl,frz_bare rfl,frz_sl,frz_sl,frz_bare rfl,frz_sl,frz_sl,frz_sl,frz_sl,frz_bare rfl,?_,trivial⟩
        exact frz_its (by simp [updF_app,g4]) (by simp)
      · by_cases hp : p = []
        · subst hp; simp [updF_app]
        · simp [updF_app,hp,h4]
    rcases hL with rfl | hL
    · simpa using soft
    · refine LoopC.le (le_softS 11) ?_
      refine LoopC.le (le_list [(2,iv most),(3,.pob [0] 1 0),(4,.pob [1] 1 0),(6,.pob [2] 1 0),(11,sps S),(13,.pob [3] 1 0),(14,iv (0 : Nat)),(15,iv (0 : Nat)),(16,iv (0 : Nat))] (by simp [upd,hL])) ?_
      simpa using soft
  have wd := wayU_d (caL a) (cbL a b)
  have wi := wayU_in (caL a) (cbL a b)
  have wn := nrmS_d _ wi
  have l1 := clsL_length a.kids []
  have l2 := clsL_length b.kids (clsL [] a.kids).1
  have hL1 : listE one most a b = .mk 3 T0 T0 [] [] a.kind (opsG (gapE one) (if (distL (caL a) (cbL a b) : Int)≤most then nrmS (wayU (caL a) (cbL a b)) else [⟨1,a.kids.length⟩,⟨2,b.kids.length⟩]) a.kids b.kids []) := by
    unfold listE
    split
    · rfl
    · rw [opsG_gap rfl rfl]
      simp [opsG]
  rw [hL1]
  clear hL1
  generalize hx : caL a = x at *
  generalize hy : cbL a b = y at *
  clear z1 z2
  generalize hX : (clsL [] a.kids).2 = X at *
  generalize hY : (clsL (clsL [] a.kids).1 b.kids).2 = Y at *
  refine spec_of t_centoref26_lists (by simp) fun w0 I0 => ?_
  unfold c_centoref26_lists
  simp
  refine stop_le (le_blank 7 [5] 3 (by simp)) (stop_go ?_)
  simp
  refine sc_famN 5 6 (by decide) C1 (fun p => ?_) (fun p => by simp) (by simp) (by simp) ?_
  · by_cases hp : p = []
    · subst hp; simp
    · simp [hp,Ne.symm hp]
  simp
  refine sc_famN 5 7 (by decide) C2 (fun p => by simp) (fun p => by simp) (by simp) (by simp) ?_
  simp
  refine stop_le (le_freezeD (d := [6]) (fun _ h => h) 8 (.sl false (X.map nv)) fun H1 g1 => ?_) ?_
  · simp
    exact frz_nv (by rw [g1]; simp) l1.symm
  refine stop_le (le_freezeD (d := [7]) (fun _ h => h) 10 (.sl false (Y.map nv)) fun H1 g1 => ?_) ?_
  · simp [upd]
    exact frz_nv (by rw [g1]; simp [updF_app]) l2.symm
  refine stop_le (le_list [(2,iv most),(3,.pob [0] 1 0),(4,.pob [1] 1 0),(6,.pob [2] 1 0),(8,.sl false (X.map nv)),(10,.sl false (Y.map nv))] (by simp [upd])) (stop_go ?_)
  simp
  refine sc_call hD (by simp) ?_
  by_cases hd : (distL x y : Int)≤most
  · simp [hd]
    refine key _ _ _ _ _ (.inl rfl) ?_ (fun s hs => (nrm_k wi s hs).1) (by omega) (by omega) (by simp) (by simp) (by simp [rawE]) (by simp) (by simp)
    have := steps_len _ (nrm_k wi)
    omega
  · simp [hd]
    refine key _ _ _ _ _ (.inr (by simp [A.softL,A.soft,spA,spC])) (by simp) (fun s hs => by
      simp at hs
      rcases hs with rfl | rfl <;> simp) ?_ ?_ (by simp) (by simp) (by simp [rawE]) (by simp) (by simp)
    · rw [units_cons,units_cons,units_nil,dA_app,dA_app,dA_rep,dA_rep]; simp [dA]
    · rw [units_cons,units_cons,units_nil,dB_app,dB_app,dB_rep,dB_rep]; simp [dB]
end Go.Proofs.YtmeldaflhkiopaaGreat

namespace Go.Proofs.YtmeldaflhkiopaaGreat
set_option linter.unusedVariables false
set_option linter.unusedSimpArgs false
open Go Go.G Go.Proofs Go.PL
theorem wrdL_succ (a b : T) (i : Nat) : wrdL a b (i + 1) = wrdL a b i ++ (if unlZ (a.words.getD i 0) (b.words.getD i 0) = 0 then [] else [wdE i (a.words.getD i 0) (b.words.getD i 0)]) := by
  unfold wrdL
  rw [List.range_succ,List.filterMap_append]
  congr 1
  by_cases h : unlZ (a.words.getD i 0) (b.words.getD i 0) = 0
  · simp only [List.filterMap_cons,List.filterMap_nil,h,if_true]
  · simp only [List.filterMap_cons,List.filterMap_nil,h,if_false]
theorem wrdL_len (a b : T) : ∀ i,(wrdL a b i).length≤i
  | 0 => by simp [wrdL]
  | i + 1 => by
    have := wrdL_len a b i
    rw [wrdL_succ]
    split <;> simp <;> omega
theorem kidL26_succ (one : T→T→E) (a b : T) (i : Nat) : kidL26 one a b (i + 1) = kidL26 one a b i ++ (if (one (a.kids.getD i T0) (b.kids.getD i T0)).kind = 0 then [] else [.mk i (one (a.kids.getD i T0) (b.kids.getD i T0))]) := by
  unfold kidL26
  rw [List.range_succ,List.filterMap_append]
  congr 1
  by_cases h : (one (a.kids.getD i T0) (b.kids.getD i T0)).kind = 0
  · simp only [List.filterMap_cons,List.filterMap_nil,h,if_true]
  · simp only [List.filterMap_cons,List.filterMap_nil,h,if_false]
theorem kidL26_len (one : T→T→E) (a b : T) : ∀ i,(kidL26 one a b i).length≤i
  | 0 => by simp [kidL26]
  | i + 1 => by
    have := kidL26_len one a b i
    rw [kidL26_succ]
    split <;> simp <;> omega
def stC (u n : Nat) (k : A) : List A := [iv 2,iv 0,.sl true [],.sl true [],iv 0,.sl true [],.sl true [],.osl [5] u 4 0 n,k,iv 0,.sl true []]
section
variable {n0 : Nat} {w0 : World} {I0 : Nat→Prop} {Q : Exit→Sta→Prop}
theorem st_l1 {a b : T} (ha : wfT a) (hb : wfT b) {most : A} {N : Nat} (hN : N≤1000000)
    (hq : ∀ (H' : Hp) (u : Nat),H' [0] = ⟨1,.cells (tL a)⟩→H' [1] = ⟨1,.cells (tL b)⟩→H' [2] = ⟨1,.cells rawE⟩→H' [3] = ⟨1,.cells (stC u (wrdL a b N).length (.sl true []))⟩→H' [5] = ⟨u,.arr 4 ((wrdL a b N).map wA)⟩→H' [6] = ⟨0,.none⟩→H' [7] = ⟨0,.none⟩ →
      Q (.exit 0) ⟨lk [(2,most),(3,.pob [0] 1 0),(4,.pob [1] 1 0),(6,.pob [2] 1 0),(7,.pob [3] 1 0),(20,iv N),(21,iv N),(22,bv false)],H'⟩) :
    ∀ (m i : Nat) (u : Nat) (H : Hp),i + m = N→H [0] = ⟨1,.cells (tL a)⟩→H [1] = ⟨1,.cells (tL b)⟩→H [2] = ⟨1,.cells rawE⟩→H [3] = ⟨1,.cells (stC u (wrdL a b i).length (.sl true []))⟩→H [5] = ⟨u,.arr 4 ((wrdL a b i).map wA)⟩→H [6] = ⟨0,.none⟩→H [7] = ⟨0,.none⟩ →
    LoopC (cx Tryz.prog w0 I0 n0) l1_diff_structure Q ⟨lk [(2,most),(3,.pob [0] 1 0),(4,.pob [1] 1 0),(6,.pob [2] 1 0),(7,.pob [3] 1 0),(20,iv N),(21,iv i)],H⟩ := by
  intro m
  induction m with
  | zero =>
    intro i u H hm h0 h1 h2 h3 h5 h6 h7
    have : i = N := by omega
    subst this
    refine loopC_once mixed l1_diff_structure.eq_1 ?_
    simp
    exact hq H u h0 h1 h2 h3 h5 h6 h7
  | succ m ih =>
    intro i u H hm h0 h1 h2 h3 h5 h6 h7
    have hlt : i < N := by omega
    have ew : IntKind.i64.wrap ((i : Int) + 1) = ((i + 1 : Nat) : Int) := by rw [i64_same (by omega) (by omega)]; omega
    have hwa : u64R (a.words.getD i 0) := wd_in ha i
    have hwb : u64R (b.words.getD i 0) := wd_in hb i
    have hW := pWord_spec (i := i) hwa hwb
    have hwl := wrdL_len a b i
    have next := ih (i + 1)
    rw [wrdL_succ] at next
    refine loopC_once mixed l1_diff_structure.eq_1 ?_
    simp [hlt,h0,h1]
    refine sc_call (treeWord_spec a i) (by simp) ?_
    simp [h0,h1]
    refine sc_call (treeWord_spec b i) (by simp) ?_
    simp
    refine sc_call hW (by simp) ?_
    generalize a.words.getD i 0 = x at *
    generalize b.words.getD i 0 = y at *
    by_cases hz : unlZ x y = 0
    · rw [if_pos hz] at next
      simp [hz,updF_app]
      rw [ew]
      refine next u _ (by omega) (by simp [updF_app,h0]) (by simp [updF_app,h1]) (by simp [updF_app,h2]) (by simp [updF_app,h3]) (by simp [updF_app,h5]) (by simp [updF_app,h6]) (by simp [updF_app,h7])
    · rw [if_neg hz] at next
      simp [hz,updF_app,h3,h5,stC]
      refine ⟨by omega,?_⟩
      rw [ew]
      refine next (u + 1) _ (by omega) (by simp [updF_app,h0]) (by simp [updF_app,h1]) (by simp [updF_app,h2]) (by simp [updF_app,stC]) (by simp [updF_app,List.take_of_length_le]) (by simp [updF_app,h6]) (by simp [updF_app,h7])
theorem st_l2 {one : T→T→E} {a b : T} {most : Int} {N : Nat} (hN : N≤1000000) (hone : ∀ i : Nat,G.Spec Tryz.prog 26 [tX (a.kids.getD i T0),tX (b.kids.getD i T0),iv most] (eX (one (a.kids.getD i T0) (b.kids.getD i T0)))) {u n : Nat} {ws : List WE}
    (hq : ∀ (H' : Hp) (v : Nat),H' [3] = ⟨1,.cells (stC u n (.osl [7] v 12 0 (kidL26 one a b N).length))⟩→H' [5] = ⟨u,.arr 4 (ws.map wA)⟩→H' [7] = ⟨v,.arr 12 ((kidL26 one a b N).map kA)⟩→H' [2] = ⟨1,.cells rawE⟩ →
      Q (.exit 2) ⟨lk [(2,iv most),(3,.pob [0] 1 0),(4,.pob [1] 1 0),(6,.pob [2] 1 0),(7,.pob [3] 1 0),(49,iv N),(50,iv N),(51,bv false)],H'⟩) :
    ∀ (m i : Nat) (v : Nat) (H : Hp),i + m = N→H [0] = ⟨1,.cells (tL a)⟩→H [1] = ⟨1,.cells (tL b)⟩→H [2] = ⟨1,.cells rawE⟩→H [3] = ⟨1,.cells (stC u n (.osl [7] v 12 0 (kidL26 one a b i).length))⟩→H [5] = ⟨u,.arr 4 (ws.map wA)⟩→H [7] = ⟨v,.arr 12 ((kidL26 one a b i).map kA)⟩ →
    LoopC (cx Tryz.prog w0 I0 n0) l2_diff_structure Q ⟨lk [(2,iv most),(3,.pob [0] 1 0),(4,.pob [1] 1 0),(6,.pob [2] 1 0),(7,.pob [3] 1 0),(49,iv N),(50,iv i)],H⟩ := by
  intro m
  induction m with
  | zero =>
    intro i v H hm h0 h1 h2 h3 h5 h7
    have : i = N := by omega
    subst this
    refine loopC_once mixed l2_diff_structure.eq_1 ?_
    simp
    exact hq H v h3 h5 h7 h2
  | succ m ih =>
    intro i v H hm h0 h1 h2 h3 h5 h7
    have hlt : i < N := by omega
    have ew : IntKind.i64.wrap ((i : Int) + 1) = ((i + 1 : Nat) : Int) := by rw [i64_same (by omega) (by omega)]; omega
    have hO := hone i
    have hkl := kidL26_len one a b i
    have next := ih (i + 1)
    rw [kidL26_succ] at next
    have K1 := treeKid_spec a i
    have K2 := treeKid_spec b i
    generalize a.kids.getD i T0 = x at *
    generalize b.kids.getD i T0 = y at *
    generalize one x y = e at *
    refine loopC_once mixed l2_diff_structure.eq_1 ?_
    simp [hlt,h0,h1]
    refine sc_call K1 (by simp) ?_
    simp [h0,h1]
    refine sc_call K2 (by simp) ?_
    simp
    refine sc_call hO (by simp) ?_
    by_cases hz : e.kind = 0
    · rw [if_pos hz] at next
      simp [hz,updF_app]
      rw [ew]
      refine next v _ (by omega) (by simp [updF_app,h0]) (by simp [updF_app,h1]) (by simp [updF_app,h2]) (by simp [updF_app,h3]) (by simp [updF_app,h5]) (by simp [updF_app,h7])
    · rw [if_neg hz] at next
      simp [hz,updF_app,h3,h7,stC]
      refine ⟨by omega,?_⟩
      rw [ew]
      refine next (v + 1) _ (by omega) (by simp [updF_app,h0]) (by simp [updF_app,h1]) (by simp [updF_app,h2]) (by simp [updF_app,stC]) (by simp [updF_app,h5]) (by simp [updF_app,List.take_of_length_le])
end
theorem pStruct26_spec {one : T→T→E} {a b : T} (ha : wfT a) (hb : wfT b) (h1 : a.words.length≤1000000) (h2 : b.words.length≤1000000) (h3 : a.kids.length≤1000000) (h4 : b.kids.length≤1000000) {most : Int} (hone : ∀ i : Nat,G.Spec Tryz.prog 26 [tX (a.kids.getD i T0),tX (b.kids.getD i T0),iv most] (eX (one (a.kids.getD i T0) (b.kids.getD i T0)))) :
    G.Spec Tryz.prog 43 [tX a,tX b,iv most] (eX (strE one a b)) := by
  refine spec_of t_diff_structure (by simp) fun w0 I0 => ?_
  unfold c_diff_structure
  simp
  refine LoopC.le (le_blankC (d := [3]) (u := 1) (cs := [iv 2,iv 0,.sl true [],.sl true [],iv 0,.sl true [],.sl true [],.sl true [],.sl true [],iv 0,.sl true []]) 7 [5] 4 (by simp [updF_app]) rfl (by simp)) ?_
  refine LoopC.le (le_list [(2,iv most),(3,.pob [0] 1 0),(4,.pob [1] 1 0),(6,.pob [2] 1 0),(7,.pob [3] 1 0),(20,iv (max a.words.length b.words.length : Nat)),(21,iv (0 : Nat))] (by simp; omega)) ?_
  refine st_l1 ha hb (N := max a.words.length b.words.length) (by omega) (fun H' u g0 g1 g2 g3 g5 g6 g7 => ?_) (max a.words.length b.words.length) 0 1 _ (by omega) (by simp [updF_app]) (by simp [updF_app]) (by simp [updF_app,rawE]) (by simp [updF_app,stC,wrdL]) (by simp [updF_app,wrdL]) (by simp [updF_app]) (by simp [updF_app])
  simp [g0,g1]
  refine LoopC.le (le_blankC (d := [3]) (u := 1) (cs := stC u (wrdL a b (max a.words.length b.words.length)).length (.sl true [])) 8 [7] 12 g3 rfl (by simp)) ?_
  refine LoopC.le (le_list [(2,iv most),(3,.pob [0] 1 0),(4,.pob [1] 1 0),(6,.pob [2] 1 0),(7,.pob [3] 1 0),(49,iv (max a.kids.length b.kids.length : Nat)),(50,iv (0 : Nat))] (by simp; omega)) ?_
  refine st_l2 (one := one) (a := a) (b := b) (N := max a.kids.length b.kids.length) (by omega) hone (ws := wrdL a b (max a.words.length b.words.length)) (u := u) (n := (wrdL a b (max a.words.length b.words.length)).length) (fun H2 v k3 k5 k7 k2 => ?_) (max a.kids.length b.kids.length) 0 1 _ (by omega) (by simp [updF_app,g0]) (by simp [updF_app,g1]) (by simp [updF_app,g2]) (by simp [updF_app,stC,kidL26,g7]) (by simp [updF_app,g5]) (by simp [updF_app,kidL26,g7])
  simp [k3,k2,updF_app,stC]
  refine ⟨by simp [rawE],?_⟩
  refine frz_agg ⟨frz_bare rfl,frz_bare rfl,frz_sl,frz_sl,frz_bare rfl,frz_sl,frz_sl,?_,?_,frz_bare rfl,frz_sl,trivial⟩
  · exact frz_row (f := wA) (l := wrdL a b (max a.words.length b.words.length)) (by rw [updF_ne (by simp),k5]; simp) rfl (fun x => by simp)
  · exact frz_row (f := kA) (l := kidL26 one a b (max a.kids.length b.kids.length)) (by rw [updF_ne (by simp),k7]; simp) rfl (fun x => by simp)
end Go.Proofs.YtmeldaflhkiopaaGreat

namespace Go.Proofs.YtmeldaflhkiopaaGreat
set_option linter.unusedVariables false
set_option linter.unusedSimpArgs false
open Go Go.G Go.Proofs Go.PL
def rtC (u n : Nat) (k : A) : List A := [iv 2,iv 0,.sl true [],.sl true [],iv 0,.sl true [],.sl true [],.osl [4] u 4 0 n,k,iv 0,.sl true []]
section
variable {n0 : Nat} {w0 : World} {I0 : Nat→Prop} {Q : Exit→Sta→Prop}
theorem rst_l1 {a b : T} (ha : wfT a) (hb : wfT b) {most : Int} {N : Nat} (hNN : N = max a.words.length b.words.length) (hN : N≤1000000)
    (hq : ∀ (H' : Hp) (u : Nat),H' [0] = ⟨1,.cells (tL a)⟩→H' [1] = ⟨1,.cells (tL b)⟩→H' [2] = ⟨1,.cells rawE⟩→H' [3] = ⟨1,.cells (rtC u (wrdL a b N).length (.sl true []))⟩→H' [4] = ⟨u,.arr 4 ((wrdL a b N).map wA)⟩→H' [6] = ⟨0,.none⟩ →
      Q (.exit 0) ⟨lk [(2,iv most),(3,.pob [0] 1 0),(4,.pob [1] 1 0),(6,.pob [2] 1 0),(7,.pob [3] 1 0),(8,iv N),(24,bv false)],H'⟩) :
    ∀ (m i : Nat) (u : Nat) (H : Hp),i + m = N→H [0] = ⟨1,.cells (tL a)⟩→H [1] = ⟨1,.cells (tL b)⟩→H [2] = ⟨1,.cells rawE⟩→H [3] = ⟨1,.cells (rtC u (wrdL a b i).length (.sl true []))⟩→H [4] = ⟨u,.arr 4 ((wrdL a b i).map wA)⟩→H [6] = ⟨0,.none⟩ →
    LoopC (cx Tryz.prog w0 I0 n0) l1_centoref26_structs Q ⟨lk [(2,iv most),(3,.pob [0] 1 0),(4,.pob [1] 1 0),(6,.pob [2] 1 0),(7,.pob [3] 1 0),(8,iv i)],H⟩ := by
  intro m
  induction m with
  | zero =>
    intro i u H hm h0 h1 h2 h3 h4 h6
    have : i = N := by omega
    subst this
    have g1 : ¬ i < a.words.length := by omega
    have g2 : ¬ i < b.words.length := by omega
    refine loopC_once mixed l1_centoref26_structs.eq_1 ?_
    simp [h0,h1,g1,g2]
    exact hq H u h0 h1 h2 h3 h4 h6
  | succ m ih =>
    intro i u H hm h0 h1 h2 h3 h4 h6
    have hlt : i < N := by omega
    have ew : IntKind.i64.wrap ((i : Int) + 1) = ((i + 1 : Nat) : Int) := by rw [i64_same (by omega) (by omega)]; omega
    have hwa : u64R (a.words.getD i 0) := wd_in ha i
    have hwb : u64R (b.words.getD i 0) := wd_in hb i
    have hU := rUnlike_spec hwa hwb
    have hin := unlZ_in (a.words.getD i 0) (b.words.getD i 0)
    have z : u64R 0 := by unfold u64R; omega
    have M1 := rMix_spec z hwa hin.1 hin.2
    have M2 := rMix_spec z hwb hin.1 hin.2
    have W1 := rWord26_spec a i
    have W2 := rWord26_spec b i
    have hwl := wrdL_len a b i
    have next := ih (i + 1)
    rw [wrdL_succ] at next
    generalize a.words.getD i 0 = x at *
    generalize b.words.getD i 0 = y at *
    refine loopC_once mixed l1_centoref26_structs.eq_1 ?_
    have go : (i < a.words.length∧True)∨(¬ i < a.words.length∧i < b.words.length) := by
      by_cases g : i < a.words.length
      · exact .inl ⟨g,trivial⟩
      · exact .inr ⟨g,by omega⟩
    rcases go with ⟨g,g'⟩ | ⟨g,g'⟩
    all_goals
      simp [h0,h1,g,g']
      refine sc_call W1 (by simp) ?_
      simp [h0,h1]
      refine sc_call W2 (by simp) ?_
      simp
      refine sc_call hU (by simp) ?_
      by_cases hz : unlZ x y = 0
      · rw [if_pos hz,List.append_nil] at next
        simp [hz,ew]
        refine next u _ (by omega) h0 h1 h2 h3 h4 h6
      · rw [if_neg hz] at next
        simp [hz,updF_app,h0,h1,h3,h4,rtC]
        refine sc_call W1 (by simp) ?_
        simp
        refine sc_call M1 (by simp) ?_
        simp [h1]
        refine sc_call W2 (by simp) ?_
        simp
        refine sc_call M2 (by simp) ?_
        simp [h3,h4,rtC,updF_app]
        refine ⟨by omega,?_⟩
        rw [ew]
        refine next (u + 1) _ (by omega) (by simp [updF_app,h0]) (by simp [updF_app,h1]) (by simp [updF_app,h2]) (by simp [updF_app,rtC]) (by simp [updF_app,List.take_of_length_le,wdE]) (by simp [updF_app,h6])
theorem rst_l2 {one : T→T→E} {a b : T} {most : Int} {N : Nat} (hNN : N = max a.kids.length b.kids.length) (hN : N≤1000000) (hone : ∀ i : Nat,G.Spec Tryz.prog 28 [tX (a.kids.getD i T0),tX (b.kids.getD i T0),iv most] (eX (one (a.kids.getD i T0) (b.kids.getD i T0)))) {u n : Nat} {ws : List WE}
    (hq : ∀ (H' : Hp) (v : Nat),H' [3] = ⟨1,.cells (rtC u n (.osl [6] v 12 0 (kidL26 one a b N).length))⟩→H' [4] = ⟨u,.arr 4 (ws.map wA)⟩→H' [6] = ⟨v,.arr 12 ((kidL26 one a b N).map kA)⟩→H' [2] = ⟨1,.cells rawE⟩ →
      Q (.exit 2) ⟨lk [(2,iv most),(3,.pob [0] 1 0),(4,.pob [1] 1 0),(6,.pob [2] 1 0),(7,.pob [3] 1 0),(10,iv N),(65,bv false)],H'⟩) :
    ∀ (m i : Nat) (v : Nat) (H : Hp),i + m = N→H [0] = ⟨1,.cells (tL a)⟩→H [1] = ⟨1,.cells (tL b)⟩→H [2] = ⟨1,.cells rawE⟩→H [3] = ⟨1,.cells (rtC u n (.osl [6] v 12 0 (kidL26 one a b i).length))⟩→H [4] = ⟨u,.arr 4 (ws.map wA)⟩→H [6] = ⟨v,.arr 12 ((kidL26 one a b i).map kA)⟩ →
    LoopC (cx Tryz.prog w0 I0 n0) l2_centoref26_structs Q ⟨lk [(2,iv most),(3,.pob [0] 1 0),(4,.pob [1] 1 0),(6,.pob [2] 1 0),(7,.pob [3] 1 0),(10,iv i)],H⟩ := by
  intro m
  induction m with
  | zero =>
    intro i v H hm h0 h1 h2 h3 h4 h6
    have : i = N := by omega
    subst this
    have g1 : ¬ i < a.kids.length := by omega
    have g2 : ¬ i < b.kids.length := by omega
    refine loopC_once mixed l2_centoref26_structs.eq_1 ?_
    simp [h0,h1,g1,g2]
    exact hq H v h3 h4 h6 h2
  | succ m ih =>
    intro i v H hm h0 h1 h2 h3 h4 h6
    have hlt : i < N := by omega
    have ew : IntKind.i64.wrap ((i : Int) + 1) = ((i + 1 : Nat) : Int) := by rw [i64_same (by omega) (by omega)]; omega
    have hO := hone i
    have hkl := kidL26_len one a b i
    have next := ih (i + 1)
    rw [kidL26_succ] at next
    have K1 := rKid26_spec a i
    have K2 := rKid26_spec b i
    generalize a.kids.getD i T0 = x at *
    generalize b.kids.getD i T0 = y at *
    generalize one x y = e at *
    have go : (i < a.kids.length∧True)∨(¬ i < a.kids.length∧i < b.kids.length) := by
      by_cases g : i < a.kids.length
      · exact .inl ⟨g,trivial⟩
      · exact .inr ⟨g,by omega⟩
    refine loopC_once mixed l2_centoref26_structs.eq_1 ?_
    rcases go with ⟨g,g'⟩ | ⟨g,g'⟩
    all_goals
      simp [h0,h1,g,g']
      refine sc_call K1 (by simp) ?_
      simp [h0,h1]
      refine sc_call K2 (by simp) ?_
      simp
      refine sc_call hO (by simp) ?_
      by_cases hz : e.kind = 0
      · rw [if_pos hz,List.append_nil] at next
        simp [hz,updF_app]
        rw [ew]
        refine next v _ (by omega) (by simp [updF_app,h0]) (by simp [updF_app,h1]) (by simp [updF_app,h2]) (by simp [updF_app,h3]) (by simp [updF_app,h4]) (by simp [updF_app,h6])
      · rw [if_neg hz] at next
        simp [hz,updF_app,h3,h6,rtC]
        refine ⟨by omega,?_⟩
        rw [ew]
        refine next (v + 1) _ (by omega) (by simp [updF_app,h0]) (by simp [updF_app,h1]) (by simp [updF_app,h2]) (by simp [updF_app,rtC]) (by simp [updF_app,h4]) (by simp [updF_app,List.take_of_length_le])
end
theorem rStructs26_spec {one : T→T→E} {a b : T} (ha : wfT a) (hb : wfT b) (h1 : a.words.length≤1000000) (h2 : b.words.length≤1000000) (h3 : a.kids.length≤1000000) (h4 : b.kids.length≤1000000) {most : Int} (hone : ∀ i : Nat,G.Spec Tryz.prog 28 [tX (a.kids.getD i T0),tX (b.kids.getD i T0),iv most] (eX (one (a.kids.getD i T0) (b.kids.getD i T0)))) :
    G.Spec Tryz.prog 47 [tX a,tX b,iv most] (eX (strE one a b)) := by
  refine spec_of t_centoref26_structs (by simp) fun w0 I0 => ?_
  unfold c_centoref26_structs
  simp
  refine LoopC.le (le_blankC (d := [3]) (u := 1) (cs := [iv 2,iv 0,.sl true [],.sl true [],iv 0,.sl true [],.sl true [],.sl true [],.sl true [],iv 0,.sl true []]) 7 [4] 4 (by simp [updF_app]) rfl (by simp)) ?_
  refine LoopC.le (le_list [(2,iv most),(3,.pob [0] 1 0),(4,.pob [1] 1 0),(6,.pob [2] 1 0),(7,.pob [3] 1 0),(8,iv (0 : Nat))] (by simp)) ?_
  refine rst_l1 ha hb (N := max a.words.length b.words.length) rfl (by omega) (fun H' u g0 g1 g2 g3 g5 g6 => ?_) (max a.words.length b.words.length) 0 1 _ (by omega) (by simp [updF_app]) (by simp [updF_app]) (by simp [updF_app,rawE]) (by simp [updF_app,rtC,wrdL]) (by simp [updF_app,wrdL]) (by simp [updF_app])
  simp [g0,g1]
  refine LoopC.le (le_blankC (d := [3]) (u := 1) (cs := rtC u (wrdL a b (max a.words.length b.words.length)).length (.sl true [])) 8 [6] 12 g3 rfl (by simp)) ?_
  refine LoopC.le (le_list [(2,iv most),(3,.pob [0] 1 0),(4,.pob [1] 1 0),(6,.pob [2] 1 0),(7,.pob [3] 1 0),(10,iv (0 : Nat))] (by simp)) ?_
  refine rst_l2 (one := one) (a := a) (b := b) (N := max a.kids.length b.kids.length) rfl (by omega) hone (ws := wrdL a b (max a.words.length b.words.length)) (u := u) (n := (wrdL a b (max a.words.length b.words.length)).length) (fun H2 v k3 k5 k7 k2 => ?_) (max a.kids.length b.kids.length) 0 1 _ (by omega) (by simp [updF_app,g0]) (by simp [updF_app,g1]) (by simp [updF_app,g2]) (by simp [updF_app,rtC,kidL26,g6]) (by simp [updF_app,g5]) (by simp [updF_app,kidL26,g6])
  simp [k3,k2,updF_app,rtC]
  refine ⟨by simp [rawE],?_⟩
  refine frz_agg ⟨frz_bare rfl,frz_bare rfl,frz_sl,frz_sl,frz_bare rfl,frz_sl,frz_sl,?_,?_,frz_bare rfl,frz_sl,trivial⟩
  · exact frz_row (f := wA) (l := wrdL a b (max a.words.length b.words.length)) (by rw [updF_ne (by simp),k5]; simp) rfl (fun x => by simp)
  · exact frz_row (f := kA) (l := kidL26 one a b (max a.kids.length b.kids.length)) (by rw [updF_ne (by simp),k7]; simp) rfl (fun x => by simp)
end Go.Proofs.YtmeldaflhkiopaaGreat

namespace Go.Proofs.YtmeldaflhkiopaaGreat
set_option linter.unusedVariables false
set_option linter.unusedSimpArgs false
open Go Go.G Go.Proofs Go.PL
theorem one_step {a b : T} (ha : wfT a) (hb : wfT b) {X Y : E} {most : Int} (hs : a.kind = 1→b.kind = 1→G.Spec Tryz.prog 43 [tX a,tX b,iv most] (eX X)) (hl : a.kind = b.kind→2≤a.kind→a.kind≤9→G.Spec Tryz.prog 45 [tX a,tX b,iv most] (eX Y)) :
    G.Spec Tryz.prog 26 [tX a,tX b,iv most] (eX (if eqT a b = true then E0 else if a.kind = 1∧b.kind = 1 then X else if a.kind = b.kind∧2≤a.kind∧a.kind≤9 then Y else .mk 1 a b [] [] 0 [])) := by
  have hE := eqG_spec ha hb
  have hraw : ∀ H : Hp,Frz H (.agg rawE) (eX E0) := fun H => frz_agg ⟨frz_bare rfl,frz_bare rfl,frz_sl,frz_sl,frz_bare rfl,frz_sl,frz_sl,frz_sl,frz_sl,frz_bare rfl,frz_sl,trivial⟩
  have hfr : ∀ (H : Hp) (k : Int),k = a.kind→Frz H (.agg [iv 1,iv k,uws a.words,tKs a.kids,iv b.kind,uws b.words,tKs b.kids,.sl true [],.sl true [],iv 0,.sl true []]) (eX (.mk 1 a b [] [] 0 [])) := fun H k hk => by
    subst hk
    exact frz_agg ⟨frz_bare rfl,frz_bare rfl,frz_bare rfl,frz_bare rfl,frz_bare rfl,frz_bare rfl,frz_bare rfl,frz_sl,frz_sl,frz_bare rfl,frz_sl,trivial⟩
  refine spec_of t_diff_one (by simp) fun w0 I0 => ?_
  unfold c_diff_one
  simp
  refine sc_call hE (by simp) ?_
  cases he : eqT a b with
  | true =>
    simp
    exact hraw _
  | false =>
    by_cases h1 : a.kind = 1
    · by_cases h2 : b.kind = 1
      · have S := hs h1 h2
        have S' : G.Spec Tryz.prog 43 [.agg [iv 1,uws a.words,tKs a.kids],.agg [iv 1,uws b.words,tKs b.kids],iv most] (eX X) := by
          rw [← h1]
          have e : ([A.agg [iv a.kind,uws a.words,tKs a.kids],.agg [iv a.kind,uws b.words,tKs b.kids],iv most] : List A) = [tX a,tX b,iv most] := by
            show [A.agg [iv a.kind,uws a.words,tKs a.kids],.agg [iv a.kind,uws b.words,tKs b.kids],iv most] = [A.agg [iv a.kind,uws a.words,tKs a.kids],.agg [iv b.kind,uws b.words,tKs b.kids],iv most]
            rw [h1,h2]
          rw [e]
          exact S
        simp [h1,h2]
        refine sc_call S' (by simp) ?_
        simp
        exact frz_bare (by simp)
      · have hne : ¬ (1 : Int) = b.kind := fun e => h2 e.symm
        simp [h1,h2,hne]
        refine sc_call_off rfl ?_
        simp
        exact hfr _ 1 h1.symm
    · by_cases h3 : a.kind = b.kind
      · have h2 : ¬ b.kind = 1 := fun e => h1 (h3.trans e)
        simp [h1,h3,h2]
        rw [sc_guard]
        simp
        refine sc_call (tList_spec b.kind) (by simp) ?_
        by_cases h5 : 2≤b.kind∧b.kind≤9
        · have S := hl h3 (by omega) (by omega)
          have S' : G.Spec Tryz.prog 45 [.agg [iv b.kind,uws a.words,tKs a.kids],.agg [iv b.kind,uws b.words,tKs b.kids],iv most] (eX Y) := by
            rw [← h3]
            have e : ([A.agg [iv a.kind,uws a.words,tKs a.kids],.agg [iv a.kind,uws b.words,tKs b.kids],iv most] : List A) = [tX a,tX b,iv most] := by
              show [A.agg [iv a.kind,uws a.words,tKs a.kids],.agg [iv a.kind,uws b.words,tKs b.kids],iv most] = [A.agg [iv a.kind,uws a.words,tKs a.kids],.agg [iv b.kind,uws b.words,tKs b.kids],iv most]
              rw [h3]
            rw [e]
            exact S
          simp [h5.1,h5.2]
          refine sc_call S' (by simp) ?_
          simp
          exact frz_bare (by simp)
        · have h6 : (decide (2≤b.kind) && decide (b.kind≤9)) = false := by
            rw [Bool.eq_false_iff]; simpa using h5
          rw [h6]
          simp [h5]
          exact hfr _ _ h3.symm
      · simp [h1,h3]
        refine sc_call_off rfl ?_
        simp
        exact hfr _ _ rfl
end Go.Proofs.YtmeldaflhkiopaaGreat

namespace Go.Proofs.YtmeldaflhkiopaaGreat
set_option linter.unusedVariables false
set_option linter.unusedSimpArgs false
open Go Go.G Go.Proofs Go.PL
def okT : Nat→T→Prop
  | 0,t => t = T0
  | f + 1,t => t = T0∨(wfT t∧norm t = t∧t.words.length≤1000∧t.kids.length≤1000∧∀ k,k ∈ t.kids→okT f k)
theorem okT_T0 (f : Nat) : okT f T0 := by cases f with
  | zero => rfl
  | succ f => exact .inl rfl
theorem wf_T026 : wfT T0 := wfT_iff.2 ⟨by simp [i64R],by simp,by simp,by simp,by simp⟩
theorem norm_T026 : norm T0 = T0 := by simp [norm,T0,trimW,trimK]
theorem okT_facts {f : Nat} {t : T} (h : okT f t) : wfT t∧norm t = t∧t.words.length≤1000∧t.kids.length≤1000 := by
  have z : wfT T0∧norm T0 = T0∧T0.words.length≤1000∧T0.kids.length≤1000 := ⟨wf_T026,norm_T026,by decide,by decide⟩
  cases f with
  | zero => cases h; exact z
  | succ f =>
    rcases h with rfl | h
    · exact z
    · exact ⟨h.1,h.2.1,h.2.2.1,h.2.2.2.1⟩
theorem okT_kids {f : Nat} {t : T} (h : okT f t) : ∀ k,k ∈ t.kids→okT (f - 1) k := by
  cases f with
  | zero => cases h; intro k hk; simp [T0] at hk
  | succ f =>
    rcases h with rfl | h
    · intro k hk; simp [T0] at hk
    · exact h.2.2.2.2
theorem okT_at {f : Nat} {t : T} (h : okT f t) (i : Nat) : okT (f - 1) (t.kids.getD i T0) := by
  by_cases hi : i < t.kids.length
  · have e : t.kids.getD i T0 = t.kids[i] := by simp [hi]
    rw [e]
    exact okT_kids h _ (List.getElem_mem hi)
  · have e : t.kids.getD i T0 = T0 := by simp [List.getElem?_eq_none (Nat.le_of_not_lt hi)]
    rw [e]
    exact okT_T0 _
theorem pOne_spec {most : Int} (hm : i64R most) : ∀ (f g : Nat) (a b : T),okT f a→okT g b→G.Spec Tryz.prog 26 [tX a,tX b,iv most] (eX (oneE most f a b))
  | 0,g,a,b,ha,hb => by
    obtain ⟨a1,a2,a3,a4⟩ := okT_facts ha
    obtain ⟨b1,b2,b3,b4⟩ := okT_facts hb
    have hk : a.kind = 0 := by cases ha; rfl
    have := one_step a1 b1 (X := E0) (Y := E0) (most := most) (fun h => by omega) (fun _ h => by omega)
    rw [if_neg (show ¬ (a.kind = 1∧b.kind = 1) by omega),if_neg (show ¬ (a.kind = b.kind∧2≤a.kind∧a.kind≤9) by omega)] at this
    exact this
  | f + 1,g,a,b,ha,hb => by
    obtain ⟨a1,a2,a3,a4⟩ := okT_facts ha
    obtain ⟨b1,b2,b3,b4⟩ := okT_facts hb
    refine one_step a1 b1 (fun h1 h2 => ?_) (fun h1 h2 h3 => ?_)
    · exact pStruct26_spec a1 b1 (by omega) (by omega) (by omega) (by omega) fun i => pOne_spec hm f (g - 1) _ _ (okT_at ha i) (okT_at hb i)
    · exact pList26_spec a1 b1 (fun t ht => (okT_facts (okT_kids ha t ht)).2.1) (fun t ht => (okT_facts (okT_kids hb t ht)).2.1) (by omega) (by omega) hm fun x hx y hy => pOne_spec hm f (g - 1) _ _ (okT_kids ha x hx) (okT_kids hb y hy)
end Go.Proofs.YtmeldaflhkiopaaGreat

namespace Go.Proofs.YtmeldaflhkiopaaGreat
set_option linter.unusedVariables false
set_option linter.unusedSimpArgs false
open Go Go.G Go.Proofs Go.PL
theorem rone_step {a b : T} (ha : wfT a) (hb : wfT b) {X Y : E} {most : Int} (hs : a.kind = 1→b.kind = 1→G.Spec Tryz.prog 47 [tX a,tX b,iv most] (eX X)) (hl : a.kind = b.kind→2≤a.kind→a.kind≤9→G.Spec Tryz.prog 48 [tX a,tX b,iv most] (eX Y)) :
    G.Spec Tryz.prog 28 [tX a,tX b,iv most] (eX (if eqT a b = true then E0 else if a.kind = 1∧b.kind = 1 then X else if a.kind = b.kind∧2≤a.kind∧a.kind≤9 then Y else .mk 1 a b [] [] 0 [])) := by
  have hE := rEqual_spec ha hb (wf_norm _ ha)
  have hraw : ∀ H : Hp,Frz H (.agg rawE) (eX E0) := fun H => frz_agg ⟨frz_bare rfl,frz_bare rfl,frz_sl,frz_sl,frz_bare rfl,frz_sl,frz_sl,frz_sl,frz_sl,frz_bare rfl,frz_sl,trivial⟩
  have hfr : ∀ (H : Hp) (k : Int),k = a.kind→Frz H (.agg [iv 1,iv k,uws a.words,tKs a.kids,iv b.kind,uws b.words,tKs b.kids,.sl true [],.sl true [],iv 0,.sl true []]) (eX (.mk 1 a b [] [] 0 [])) := fun H k hk => by
    subst hk
    exact frz_agg ⟨frz_bare rfl,frz_bare rfl,frz_bare rfl,frz_bare rfl,frz_bare rfl,frz_bare rfl,frz_bare rfl,frz_sl,frz_sl,frz_bare rfl,frz_sl,trivial⟩
  refine spec_of t_centoref26_Plain (by simp) fun w0 I0 => ?_
  unfold c_centoref26_Plain
  simp
  refine sc_call hE (by simp) ?_
  cases he : eqT a b with
  | true =>
    simp
    exact hraw _
  | false =>
    by_cases h1 : a.kind = 1
    · by_cases h2 : b.kind = 1
      · have S := hs h1 h2
        have S' : G.Spec Tryz.prog 47 [.agg [iv 1,uws a.words,tKs a.kids],.agg [iv 1,uws b.words,tKs b.kids],iv most] (eX X) := by
          rw [← h1]
          have e : ([A.agg [iv a.kind,uws a.words,tKs a.kids],.agg [iv a.kind,uws b.words,tKs b.kids],iv most] : List A) = [tX a,tX b,iv most] := by
            show [A.agg [iv a.kind,uws a.words,tKs a.kids],.agg [iv a.kind,uws b.words,tKs b.kids],iv most] = [A.agg [iv a.kind,uws a.words,tKs a.kids],.agg [iv b.kind,uws b.words,tKs b.kids],iv most]
            rw [h1,h2]
          rw [e]
          exact S
        simp [h1,h2]
        refine sc_call S' (by simp) ?_
        simp
        exact frz_bare (by simp)
      · have hne : ¬ (1 : Int) = b.kind := fun e => h2 e.symm
        simp [h1,h2,hne]
        exact hfr _ 1 h1.symm
    · by_cases h3 : a.kind = b.kind
      · have h2 : ¬ b.kind = 1 := fun e => h1 (h3.trans e)
        by_cases h5 : 2≤b.kind∧b.kind≤9
        · have S := hl h3 (by omega) (by omega)
          have S' : G.Spec Tryz.prog 48 [.agg [iv b.kind,uws a.words,tKs a.kids],.agg [iv b.kind,uws b.words,tKs b.kids],iv most] (eX Y) := by
            rw [← h3]
            have e : ([A.agg [iv a.kind,uws a.words,tKs a.kids],.agg [iv a.kind,uws b.words,tKs b.kids],iv most] : List A) = [tX a,tX b,iv most] := by
              show [A.agg [iv a.kind,uws a.words,tKs a.kids],.agg [iv a.kind,uws b.words,tKs b.kids],iv most] = [A.agg [iv a.kind,uws a.words,tKs a.kids],.agg [iv b.kind,uws b.words,tKs b.kids],iv most]
              rw [h3]
            rw [e]
            exact S
          simp [h1,h3,h2,h5.1,h5.2]
          refine sc_call S' (by simp) ?_
          simp
          exact frz_bare (by simp)
        · by_cases h6 : 2≤b.kind
          · have h7 : ¬ b.kind≤9 := fun h => h5 ⟨h6,h⟩
            simp [h1,h3,h2,h6,h7]
            exact hfr _ _ h3.symm
          · simp [h1,h3,h2,h6]
            exact hfr _ _ h3.symm
      · simp [h1,h3]
        exact hfr _ _ rfl
end Go.Proofs.YtmeldaflhkiopaaGreat

namespace Go.PL
set_option linter.unusedVariables false
set_option linter.unusedSimpArgs false
mutual
def partsT : T→Int
  | .mk _ w l => 1 + w.length + partsL l
def partsL : List T→Int
  | [] => 0
  | t :: l => partsT t + partsL l
end
@[simp] theorem partsT_mk (k : Int) (w : List Int) (l : List T) : partsT (.mk k w l) = 1 + w.length + partsL l := by rw [partsT]
@[simp] theorem partsL_nil : partsL [] = 0 := by rw [partsL]
@[simp] theorem partsL_cons (t : T) (l : List T) : partsL (t :: l) = partsT t + partsL l := by rw [partsL]
theorem partsL_len {l : List T} (h : ∀ t,t ∈ l→1≤partsT t) : (l.length : Int)≤partsL l := by
  induction l with
  | nil => simp
  | cons t l ih =>
    have := h t (by simp)
    have := ih fun u hu => h u (by simp [hu])
    simp
    omega
theorem partsT_pos : ∀ t : T,1≤partsT t := by
  refine T.ind fun k w l ih => ?_
  have := partsL_len ih
  simp
  omega
theorem partsL_pos (l : List T) : (l.length : Int)≤partsL l := partsL_len fun t _ => partsT_pos t
theorem parts_shallow : ∀ (t : T) (d : Nat) (n : Int),0≤shallow d n t→partsT t≤n - shallow d n t := by
  refine T.ind fun k w l ih d n h => ?_
  have hl : ∀ (m : List T) (d : Nat) (n : Int),(∀ t,t ∈ m→t ∈ l)→0≤shallowL d n m→partsL m≤n - shallowL d n m := by
    intro m
    induction m with
    | nil => intro d n _ _; simp
    | cons t m ihm =>
      intro d n hin h
      rw [shallowL_cons] at h ⊢
      split at h
      · omega
      · rename_i hc
        rw [if_neg hc]
        have h1 := ihm d (shallow d n t) (fun u hu => hin u (by simp [hu])) h
        have h3 : 0≤shallow d n t := by
          cases m with
          | nil => simpa using h
          | cons u m =>
            rw [shallowL_cons] at h
            split at h <;> omega
        have := ih t (hin t (by simp)) d n h3
        simp
        omega
  rw [shallow_mk] at h ⊢
  split at h
  · omega
  rename_i hc
  rw [if_neg hc]
  have := hl l (d - 1) _ (fun t ht => ht) h
  simp
  omega
end Go.PL

namespace Go.Proofs.YtmeldaflhkiopaaGreat
set_option linter.unusedVariables false
set_option linter.unusedSimpArgs false
open Go Go.G Go.Proofs Go.PL
theorem sumO_app (a b : List OP) : sumO (a ++ b) = sumO a + sumO b := by simp [sumO]
theorem sum_del26 (l : List T) : sumO (delO l) = l.length := by
  unfold delO
  split
  · rename_i h; subst h; rfl
  · simp [sumO]
theorem sum_ins26 (l : List T) : sumO (insO l) = l.length := by
  unfold insO
  split
  · rename_i h; subst h; rfl
  · simp [sumO]
theorem gapO_sum (one : T→T→E) (a b : List T) : ∀ (P : List Sc) (i j : Nat) (out : List OP),PkOk a.length b.length i j P→sumO (gapO one a b P i j out)≤sumO out + (a.length - i) + (b.length - j)
  | [],i,j,out,h => by
    rw [gapO,sumO_app,sumO_app,sum_del26,sum_ins26]
    simp
  | x :: P,i,j,out,h => by
    obtain ⟨k1,k2,k3,k4,k5⟩ := h
    have := gapO_sum one a b P _ _ (out ++ delO ((a.take x.i).drop i) ++ insO ((b.take x.j).drop j) ++ [.mk 3 0 [] (one (a.getD x.i T0) (b.getD x.j T0))]) k5
    rw [gapO]
    rw [sumO_app,sumO_app,sumO_app,sum_del26,sum_ins26,show sumO [OP.mk 3 0 [] (one (a.getD x.i T0) (b.getD x.j T0))] = 0 from rfl,List.length_drop,List.length_take,List.length_drop,List.length_take] at this
    omega
theorem gapE_sum (one : T→T→E) (a b : List T) : sumO (gapE one a b)≤a.length + b.length := by
  have := gapO_sum one a b (pkG (scR a b)) 0 0 [] (pkG_ok a b)
  rw [show sumO [] = 0 from rfl] at this
  unfold gapE
  omega
inductive GOp (one : T→T→E) (A B : List T) (N : Nat) : OP→Prop
  | keep (n : Nat) (h : n≤N) : GOp one A B N (.mk 0 n [] E0)
  | del (l : List T) (h : l ≠ []) (g : ∀ t,t ∈ l→t ∈ A) (k : l.length≤A.length) : GOp one A B N (.mk 1 0 l E0)
  | ins (l : List T) (h : l ≠ []) (g : ∀ t,t ∈ l→t ∈ B) (k : l.length≤B.length) : GOp one A B N (.mk 2 0 l E0)
  | desc (x y : T) (hx : x ∈ A) (hy : y ∈ B) : GOp one A B N (.mk 3 0 [] (one x y))
theorem gOp_mono {one : T→T→E} {A B A' B' : List T} {N : Nat} (hA : ∀ t,t ∈ A→t ∈ A') (hB : ∀ t,t ∈ B→t ∈ B') (lA : A.length≤A'.length) (lB : B.length≤B'.length) {o : OP} (h : GOp one A B N o) : GOp one A' B' N o := by
  cases h with
  | keep n h => exact .keep n h
  | del l h g k => exact .del l h (fun t ht => hA t (g t ht)) (by omega)
  | ins l h g k => exact .ins l h (fun t ht => hB t (g t ht)) (by omega)
  | desc x y hx hy => exact .desc x y (hA x hx) (hB y hy)
theorem gOp_del {one : T→T→E} {A B l : List T} {N : Nat} (h : ∀ t,t ∈ l→t ∈ A) (hl : l.length≤A.length) : ∀ o,o ∈ delO l→GOp one A B N o := by
  intro o ho
  unfold delO at ho
  split at ho
  · simp at ho
  · rename_i hne
    simp at ho
    subst ho
    exact .del l hne h hl
theorem gOp_ins {one : T→T→E} {A B l : List T} {N : Nat} (h : ∀ t,t ∈ l→t ∈ B) (hl : l.length≤B.length) : ∀ o,o ∈ insO l→GOp one A B N o := by
  intro o ho
  unfold insO at ho
  split at ho
  · simp at ho
  · rename_i hne
    simp at ho
    subst ho
    exact .ins l hne h hl
theorem gapO_mem (one : T→T→E) (a b : List T) (N : Nat) : ∀ (P : List Sc) (i j : Nat) (out : List OP),PkOk a.length b.length i j P→(∀ o,o ∈ out→GOp one a b N o)→∀ o,o ∈ gapO one a b P i j out→GOp one a b N o
  | [],i,j,out,h,g => by
    intro o ho
    rw [gapO] at ho
    rcases List.mem_append.1 ho with ho | ho
    · rcases List.mem_append.1 ho with ho | ho
      · exact g o ho
      · exact gOp_del (fun t ht => List.mem_of_mem_drop ht) (by simp) o ho
    · exact gOp_ins (fun t ht => List.mem_of_mem_drop ht) (by simp) o ho
  | x :: P,i,j,out,h,g => by
    obtain ⟨k1,k2,k3,k4,k5⟩ := h
    rw [gapO]
    refine gapO_mem one a b N P _ _ _ k5 fun o ho => ?_
    rcases List.mem_append.1 ho with ho | ho
    · rcases List.mem_append.1 ho with ho | ho
      · rcases List.mem_append.1 ho with ho | ho
        · exact g o ho
        · exact gOp_del (fun t ht => List.mem_of_mem_take (List.mem_of_mem_drop ht)) (by simp; omega) o ho
      · exact gOp_ins (fun t ht => List.mem_of_mem_take (List.mem_of_mem_drop ht)) (by simp; omega) o ho
    · rw [List.mem_singleton] at ho
      subst ho
      have e1 : a.getD x.i T0 = a[x.i] := by simp [k3]
      have e2 : b.getD x.j T0 = b[x.j] := by simp [k4]
      rw [e1,e2]
      exact .desc _ _ (List.getElem_mem k3) (List.getElem_mem k4)
theorem gapE_mem (one : T→T→E) (a b : List T) (N : Nat) : ∀ o,o ∈ gapE one a b→GOp one a b N o := gapO_mem one a b N _ 0 0 [] (pkG_ok a b) (by simp)
theorem opsG_inv {gap : List T→List T→List OP} {I : List T→List T→List OP→Prop} {S0 : List Sp} (h0 : ∀ s,s ∈ S0→∀ a b out,I a b out→I (a.drop s.n) (b.drop s.n) (out ++ [.mk 0 s.n [] E0])) (h1 : ∀ n a b out,I a b out→I (a.drop n) b (out ++ delO (a.take n))) (h2 : ∀ n a b out,I a b out→I a (b.drop n) (out ++ insO (b.take n))) (h3 : ∀ n m a b out,I a b out→I (a.drop n) (b.drop m) (out ++ gap (a.take n) (b.take m))) : ∀ (S : List Sp) (a b : List T) (out : List OP),(∀ s,s ∈ S→s ∈ S0)→I a b out→∃ a' b',I a' b' (opsG gap S a b out)
  | [],a,b,out,hS,h => ⟨a,b,by rw [opsG]; exact h⟩
  | [s],a,b,out,hS,h => by
    have hs := hS s (by simp)
    rw [opsG]
    split
    · exact ⟨_,_,h0 s hs a b out h⟩
    · split
      · exact ⟨_,_,h2 s.n a b out h⟩
      · exact ⟨_,_,h1 s.n a b out h⟩
  | s :: s2 :: ss,a,b,out,hS,h => by
    have hs := hS s (by simp)
    have hS1 : ∀ x,x ∈ s2 :: ss→x ∈ S0 := fun x hx => hS x (List.mem_cons_of_mem _ hx)
    have hS2 : ∀ x,x ∈ ss→x ∈ S0 := fun x hx => hS1 x (List.mem_cons_of_mem _ hx)
    rw [opsG]
    split
    · exact opsG_inv h0 h1 h2 h3 (s2 :: ss) _ _ _ hS1 (h0 s hs a b out h)
    · split
      · exact opsG_inv h0 h1 h2 h3 (s2 :: ss) _ _ _ hS1 (h2 s.n a b out h)
      · split
        · exact opsG_inv h0 h1 h2 h3 ss _ _ _ hS2 (h3 s.n s2.n a b out h)
        · exact opsG_inv h0 h1 h2 h3 (s2 :: ss) _ _ _ hS1 (h1 s.n a b out h)
theorem opsG_sum {gap : List T→List T→List OP} (hg : ∀ x y,sumO (gap x y)≤x.length + y.length) (S : List Sp) (a b : List T) : sumO (opsG gap S a b [])≤a.length + b.length := by
  obtain ⟨a',b',h⟩ := opsG_inv (gap := gap) (S0 := S) (I := fun a' b' out => sumO out + a'.length + b'.length≤a.length + b.length) (fun s hs a b out h => by
    rw [sumO_app,show sumO [OP.mk 0 (s.n : Nat) [] E0] = 0 from rfl,List.length_drop,List.length_drop]; omega) (fun n a b out h => by
    rw [sumO_app,sum_del26,List.length_drop,List.length_take]; omega) (fun n a b out h => by
    rw [sumO_app,sum_ins26,List.length_drop,List.length_take]; omega) (fun n m a b out h => by
    have := hg (a.take n) (b.take m)
    rw [List.length_take,List.length_take] at this
    rw [sumO_app,List.length_drop,List.length_drop]; omega) S a b [] (fun s hs => hs) (by rw [show sumO [] = 0 from rfl]; omega)
  omega
theorem opsG_mem {one : T→T→E} {gap : List T→List T→List OP} {N : Nat} (hg : ∀ x y,∀ o,o ∈ gap x y→GOp one x y N o) (S : List Sp) (hS : ∀ s,s ∈ S→s.n≤N) (a b : List T) : ∀ o,o ∈ opsG gap S a b []→GOp one a b N o := by
  have app : ∀ {out l : List OP},(∀ o,o ∈ out→GOp one a b N o)→(∀ o,o ∈ l→GOp one a b N o)→∀ o,o ∈ out ++ l→GOp one a b N o := fun h1 h2 o ho => by
    rcases List.mem_append.1 ho with ho | ho
    · exact h1 o ho
    · exact h2 o ho
  have dr : ∀ {x y : List T} (n : Nat),((∀ t,t ∈ x→t ∈ y)∧x.length≤y.length)→(∀ t,t ∈ x.drop n→t ∈ y)∧(x.drop n).length≤y.length := fun n h => ⟨fun t ht => h.1 t (List.mem_of_mem_drop ht),by rw [List.length_drop]; omega⟩
  have tk : ∀ {x y : List T} (n : Nat),((∀ t,t ∈ x→t ∈ y)∧x.length≤y.length)→(∀ t,t ∈ x.take n→t ∈ y)∧(x.take n).length≤y.length := fun n h => ⟨fun t ht => h.1 t (List.mem_of_mem_take ht),by rw [List.length_take]; omega⟩
  obtain ⟨a',b',_,_,h⟩ := opsG_inv (gap := gap) (S0 := S) (I := fun a' b' out => ((∀ t,t ∈ a'→t ∈ a)∧a'.length≤a.length)∧((∀ t,t ∈ b'→t ∈ b)∧b'.length≤b.length)∧∀ o,o ∈ out→GOp one a b N o) (fun s hs x y out h => ⟨dr _ h.1,dr _ h.2.1,app h.2.2 fun o ho => by
      simp at ho; subst ho; exact .keep s.n (hS s hs)⟩) (fun n x y out h => ⟨dr _ h.1,h.2.1,app h.2.2 (gOp_del (tk n h.1).1 (tk n h.1).2)⟩) (fun n x y out h => ⟨h.1,dr _ h.2.1,app h.2.2 (gOp_ins (tk n h.2.1).1 (tk n h.2.1).2)⟩) (fun n m x y out h => ⟨dr _ h.1,dr _ h.2.1,app h.2.2 fun o ho => gOp_mono (tk n h.1).1 (tk m h.2.1).1 (tk n h.1).2 (tk m h.2.1).2 (hg _ _ o ho)⟩) S a b [] (fun s hs => hs) ⟨⟨fun t ht => ht,Nat.le_refl _⟩,⟨fun t ht => ht,Nat.le_refl _⟩,by simp⟩
  exact h
theorem opsG_len {gap : List T→List T→List OP} (hg : ∀ x y,(gap x y).length≤50) : ∀ (S : List Sp) (a b : List T) (out : List OP),(opsG gap S a b out).length≤out.length + 50 * S.length
  | [],a,b,out => by rw [opsG]; omega
  | [s],a,b,out => by
    have d1 : (delO (a.take s.n)).length≤1 := by unfold delO; split <;> simp
    have d2 : (insO (b.take s.n)).length≤1 := by unfold insO; split <;> simp
    rw [opsG]
    split
    · simp
    · split <;> (rw [List.length_append]; simp only [List.length_cons,List.length_nil]; omega)
  | s :: s2 :: ss,a,b,out => by
    have d1 : (delO (a.take s.n)).length≤1 := by unfold delO; split <;> simp
    have d2 : (insO (b.take s.n)).length≤1 := by unfold insO; split <;> simp
    rw [opsG]
    split
    · have := opsG_len hg (s2 :: ss) (a.drop s.n) (b.drop s.n) (out ++ [.mk 0 s.n [] E0])
      simp only [List.length_append,List.length_cons,List.length_nil] at this ⊢
      omega
    · split
      · have := opsG_len hg (s2 :: ss) a (b.drop s.n) (out ++ insO (b.take s.n))
        simp only [List.length_append,List.length_cons,List.length_nil] at this ⊢
        omega
      · split
        · have := opsG_len hg ss (a.drop s.n) (b.drop s2.n) (out ++ gap (a.take s.n) (b.take s2.n))
          have := hg (a.take s.n) (b.take s2.n)
          simp only [List.length_append,List.length_cons,List.length_nil] at this ⊢
          simp only [List.length_append] at *
          omega
        · have := opsG_len hg (s2 :: ss) (a.drop s.n) b (out ++ delO (a.take s.n))
          simp only [List.length_append,List.length_cons,List.length_nil] at this ⊢
          omega
noncomputable def lstO (one : T→T→E) (most : Int) (a b : T) : List OP := if (distL (caL a) (cbL a b) : Int)≤most then opsG (gapE one) (nrmS (wayU (caL a) (cbL a b))) a.kids b.kids [] else gapE one a.kids b.kids
theorem listE_eq (one : T→T→E) (most : Int) (a b : T) : listE one most a b = .mk 3 T0 T0 [] [] a.kind (lstO one most a b) := rfl
theorem caL_len (a : T) : (caL a).length = a.kids.length := by simp [caL,zsN,clsL_length]
theorem cbL_len (a b : T) : (cbL a b).length = b.kids.length := by simp [cbL,zsN,clsL_length]
theorem units_mem_n : ∀ {l : List Sp} {s : Sp},s ∈ l→s.k ≠ 2→s.n≤dA (unitsS l)
  | x :: l,s,h,hk => by
    rw [units_cons,dA_app,dA_rep]
    rcases List.mem_cons.1 h with rfl | h
    · rw [if_neg hk]; omega
    · have := units_mem_n h hk; omega
theorem units_mem_n' : ∀ {l : List Sp} {s : Sp},s ∈ l→s.k ≠ 1→s.n≤dB (unitsS l)
  | x :: l,s,h,hk => by
    rw [units_cons,dB_app,dB_rep]
    rcases List.mem_cons.1 h with rfl | h
    · rw [if_neg hk]; omega
    · have := units_mem_n' h hk; omega
theorem nrm_n (a b : T) {s : Sp} (h : s ∈ nrmS (wayU (caL a) (cbL a b))) : s.n≤a.kids.length + b.kids.length := by
  have wd := wayU_d (caL a) (cbL a b)
  have wi := wayU_in (caL a) (cbL a b)
  have wn := nrmS_d _ wi
  rw [caL_len,cbL_len] at wd
  by_cases hk : s.k = 2
  · have := units_mem_n' h (by omega); omega
  · have := units_mem_n h hk; omega
theorem lstO_mem (one : T→T→E) (most : Int) (a b : T) : ∀ o,o ∈ lstO one most a b→GOp one a.kids b.kids (a.kids.length + b.kids.length) o := by
  unfold lstO
  split
  · exact opsG_mem (fun x y => gapE_mem one x y _) _ (fun s hs => nrm_n a b hs) _ _
  · exact gapE_mem one _ _ _
theorem lstO_sum (one : T→T→E) (most : Int) (a b : T) : sumO (lstO one most a b)≤a.kids.length + b.kids.length := by
  unfold lstO
  split
  · exact opsG_sum (fun x y => gapE_sum one x y) _ _ _
  · exact gapE_sum one _ _
theorem lstO_len (one : T→T→E) (most : Int) (a b : T) : (lstO one most a b).length≤50 * (a.kids.length + b.kids.length) + 50 := by
  unfold lstO
  split
  · have wd := wayU_d (caL a) (cbL a b)
    have wi := wayU_in (caL a) (cbL a b)
    have wn := nrmS_d _ wi
    have := steps_len _ (nrm_k wi)
    have h := opsG_len (gapE_len one) (nrmS (wayU (caL a) (cbL a b))) a.kids b.kids []
    rw [caL_len,cbL_len] at wd
    simp only [List.length_nil] at h
    omega
  · have := gapE_len one a.kids b.kids
    omega
theorem nOkK_of : ∀ {l : List KE},(∀ x,x ∈ l→nOk x.e)→nOkK l
  | [],_ => by rw [nOkK]; trivial
  | .mk a e :: l,h => by
    rw [nOkK]
    exact ⟨h _ (List.mem_cons_self ..),nOkK_of fun x hx => h x (List.mem_cons_of_mem _ hx)⟩
theorem nOkO_of : ∀ {l : List OP},(∀ x,x ∈ l→(x.kind = 0∨x.kind = 1∨x.kind = 2∨x.kind = 3)∧(∀ t,t ∈ x.l→wfT t)∧(x.kind = 3→nOk x.e))→nOkO l
  | [],_ => by rw [nOkO]; trivial
  | .mk k n t e :: l,h => by
    rw [nOkO]
    exact ⟨h _ (List.mem_cons_self ..),nOkO_of fun x hx => h x (List.mem_cons_of_mem _ hx)⟩
theorem nOk_E0 : nOk E0 := by
  unfold E0
  rw [nOk]
  exact ⟨.inl rfl,fun _ => rfl,fun h => absurd h (by decide),by simp,by simp,by simp,by simp [sumO],fun h => absurd h (by decide),fun h => absurd h (by decide)⟩
theorem nOk_rep {a b : T} (ha : wfT a) (hb : wfT b) : nOk (.mk 1 a b [] [] 0 []) := by
  rw [nOk]
  exact ⟨.inr (.inl rfl),fun _ => rfl,fun _ => ⟨ha,hb⟩,by simp,by simp,by simp,by simp [sumO],fun h => absurd h (by decide),fun h => absurd h (by decide)⟩
theorem kidL26_mem {one : T→T→E} {a b : T} {m : Nat} {x : KE} (h : x ∈ kidL26 one a b m) : ∃ i : Nat,i < m∧x = .mk i (one (a.kids.getD i T0) (b.kids.getD i T0))∧(one (a.kids.getD i T0) (b.kids.getD i T0)).kind ≠ 0 := by
  unfold kidL26 at h
  rw [List.mem_filterMap] at h
  obtain ⟨i,hi,e⟩ := h
  split at e
  · cases e
  · rename_i hk
    simp only [Option.some.injEq] at e
    exact ⟨i,by simpa using hi,e.symm,hk⟩
theorem nOk_str {one : T→T→E} {a b : T} (ha : a.words.length≤1000) (hb : b.words.length≤1000) (ha2 : a.kids.length≤1000) (hb2 : b.kids.length≤1000) (h : ∀ i,nOk (one (a.kids.getD i T0) (b.kids.getD i T0))) : nOk (strE one a b) := by
  have h1 := wrdL_len a b (max a.words.length b.words.length)
  have h2 := kidL26_len one a b (max a.kids.length b.kids.length)
  unfold strE
  rw [nOk]
  refine ⟨.inr (.inr (.inl rfl)),fun _ => rfl,fun h => absurd h (by decide),by omega,by omega,by simp,by simp [sumO],fun _ => nOkK_of fun x hx => ?_,fun h => absurd h (by decide)⟩
  obtain ⟨i,_,e,_⟩ := kidL26_mem hx
  subst e
  exact h i
theorem nOk_list {one : T→T→E} {most : Int} {a b : T} (ha : a.kids.length≤1000) (hb : b.kids.length≤1000) (wa : ∀ t,t ∈ a.kids→wfT t) (wb : ∀ t,t ∈ b.kids→wfT t) (h : ∀ x,x ∈ a.kids→∀ y,y ∈ b.kids→nOk (one x y)) : nOk (listE one most a b) := by
  have h1 := lstO_len one most a b
  have h2 := lstO_sum one most a b
  rw [listE_eq,nOk]
  refine ⟨.inr (.inr (.inr rfl)),fun h => absurd rfl h,fun h => absurd h (by decide),by simp,by simp,by omega,by omega,fun h => absurd h (by decide),fun _ => nOkO_of fun x hx => ?_⟩
  cases lstO_mem one most a b x hx with
  | keep n h => exact ⟨.inl rfl,fun t (ht : t ∈ ([] : List T)) => by simp at ht,fun h => absurd h (by show ¬ (0 : Int) = 3; decide)⟩
  | del l h g k => exact ⟨.inr (.inl rfl),fun t ht => wa t (g t ht),fun h => absurd h (by show ¬ (1 : Int) = 3; decide)⟩
  | ins l h g k => exact ⟨.inr (.inr (.inl rfl)),fun t ht => wb t (g t ht),fun h => absurd h (by show ¬ (2 : Int) = 3; decide)⟩
  | desc p q hp hq => exact ⟨.inr (.inr (.inr rfl)),fun t (ht : t ∈ ([] : List T)) => by simp at ht,fun _ => h p hp q hq⟩
theorem nOk_one (most : Int) : ∀ (f g : Nat) (a b : T),okT f a→okT g b→nOk (oneE most f a b)
  | 0,g,a,b,ha,hb => by
    rw [oneE]
    split
    · exact nOk_E0
    · exact nOk_rep (okT_facts ha).1 (okT_facts hb).1
  | f + 1,g,a,b,ha,hb => by
    obtain ⟨a1,a2,a3,a4⟩ := okT_facts ha
    obtain ⟨b1,b2,b3,b4⟩ := okT_facts hb
    rw [oneE]
    split
    · exact nOk_E0
    · split
      · exact nOk_str a3 b3 a4 b4 fun i => nOk_one most f (g - 1) _ _ (okT_at ha i) (okT_at hb i)
      · split
        · exact nOk_list a4 b4 (fun t ht => (okT_facts (okT_kids ha t ht)).1) (fun t ht => (okT_facts (okT_kids hb t ht)).1) fun x hx y hy => nOk_one most f (g - 1) x y (okT_kids ha x hx) (okT_kids hb y hy)
        · exact nOk_rep a1 b1
theorem partsL_mem {l : List T} {t : T} (h : t ∈ l) : partsT t≤partsL l := by
  induction l with
  | nil => simp at h
  | cons x l ih =>
    rw [partsL_cons]
    have hp := partsT_pos x
    have hl := partsL_pos l
    rcases List.mem_cons.1 h with rfl | h
    · omega
    · have := ih h; omega
theorem okT_norm26 : ∀ (t : T),wfT t→partsT t≤1000→∀ f : Nat,partsT t≤f→okT f (norm t) := by
  refine T.ind fun k w l ih hw hp f hf => ?_
  rw [partsT_mk] at hp hf
  have hl := partsL_pos l
  have hks := (wfT_iff.1 hw).ks
  cases f with
  | zero => omega
  | succ f =>
    have hk : ∀ t,t ∈ l→okT f (norm t) := fun t ht => by
      have := partsL_mem ht
      exact ih t ht (hks t ht) (by omega) f (by omega)
    rw [okT]
    refine .inr ⟨wf_norm _ hw,norm_norm _,?_,?_,?_⟩
    · rw [norm_mk]
      split
      · simp
      · split
        · have := trimW_le w
          show (trimW w).length≤1000
          omega
        · show w.length≤1000
          omega
    · rw [norm_mk]
      split
      · simp
      · split
        · have := trimK_le (l.map norm)
          rw [List.length_map] at this
          show (trimK (l.map norm)).length≤1000
          omega
        · show (l.map norm).length≤1000
          rw [List.length_map]
          omega
    · intro x hx
      have hx' : x ∈ l.map norm := by
        rw [norm_mk] at hx
        split at hx
        · simp at hx
        · split at hx
          · have hx2 : x ∈ trimK (l.map norm) := hx
            rw [trimK_take] at hx2
            exact List.mem_of_mem_take hx2
          · exact hx
      obtain ⟨t,ht,rfl⟩ := List.mem_map.1 hx'
      exact hk t ht
end Go.Proofs.YtmeldaflhkiopaaGreat

namespace Go.Proofs.YtmeldaflhkiopaaGreat
set_option linter.unusedVariables false
set_option linter.unusedSimpArgs false
open Go Go.G Go.Proofs Go.PL
structure OpR22 (o : OP) : Prop where
  k : o.kind = 0∨o.kind = 1∨o.kind = 2∨o.kind = 3
  l : ∀ t,t ∈ o.l→wfT t
  e : o.kind = 3→G.Spec Tryz.prog 14 [eX o.e] (eX (nEd o.e))
section
variable {n0 : Nat} {w0 : World} {I0 : Nat→Prop} {Q : Exit→Sta→Prop}
theorem kpO_ri {i0 : List RI} {x : RI} {n : Int} (h : x.op.kind ≠ 0) : (i0 ++ [x,RI.keep n]).map RI.op = kpO ((i0 ++ [x]).map RI.op) n := by
  have := kpO_else (i0.map RI.op) x.op n h
  simp only [List.map_append,List.map_cons,List.map_nil]
  rw [this]; simp [RI.op]
theorem rops_k1 {list : Int} {os : List OP} {J : List RI} {u w p : Nat} {H : Hp} {x : RI} (hx : (∃ n,x = RI.keep n)∨∃ e,x = RI.desc e) (hJ : J.length≤1000000) (h0 : H [0] = ⟨u,.arr 14 (J.map riA)⟩) (h2 : H [2] = ⟨w,.cells (riC x)⟩)
    (hgo : ∀ (J2 : List RI) (u2 : Nat) (H2 : Hp),H2 [0] = ⟨u2,.arr 14 (J2.map riA)⟩→J2.length≤J.length + 1→J2.map RI.op = (if x.op.kind = 0 then kpO (J.map RI.op) x.op.n else J.map RI.op ++ [x.op])→Q .normal ⟨lk [(0,iv list),(1,oKs os),(5,.osl [0] u2 14 0 J2.length),(6,iv p)],H2⟩) :
    WPC (cx Tryz.prog w0 I0 n0) k1_centoref22_Ops Q ⟨lk [(0,iv list),(1,oKs os),(5,.osl [0] u 14 0 J.length),(6,iv p),(11,.pob [2] w 0)],H⟩ := by
  rw [k1_centoref22_Ops.eq_1]
  rcases hx with ⟨n,rfl⟩ | ⟨e,rfl⟩
  · rcases last_ri J with ⟨i0,m,rfl⟩ | rfl | ⟨i0,x,rfl,hx⟩
    · simp at hJ
      have e1 : IntKind.i64.wrap (i0.length : Int) = i0.length := i64_same (by omega) (by omega)
      simp [riC,h0,h2,e1,ri_at,riA]
      refine ⟨by omega,rfl,?_⟩
      have := hgo (i0 ++ [RI.keep (IntKind.i64.wrap (m + n))]) u (updF H [0] ⟨u,.arr 14 ((i0 ++ [RI.keep (IntKind.i64.wrap (m + n))]).map riA)⟩) (by simp [updF_app]) (by simp) (by simp [RI.op,kpO_keep])
      simpa [riA,riC,A.remake] using this
    · simp [riC,h0,h2,rawE]
      have := hgo [RI.keep n] (u + 1) (updF H [0] ⟨u + 1,.arr 14 ([RI.keep n].map riA)⟩) (by simp [updF_app]) (by simp) (by simp [RI.op,kpO_nil])
      simpa [riA,riC,rawE] using this
    · simp at hJ
      have e1 : IntKind.i64.wrap (i0.length : Int) = i0.length := i64_same (by omega) (by omega)
      cases x with
      | keep m => exact absurd rfl hx
      | del l =>
        simp [riC,h0,h2,e1,ri_at,riA,rawE]
        refine ⟨by omega,by omega,?_⟩
        have := hgo (i0 ++ [RI.del l,RI.keep n]) (u + 1) (updF H [0] ⟨u + 1,.arr 14 ((i0 ++ [RI.del l,RI.keep n]).map riA)⟩) (by simp [updF_app]) (by simp) (by
          rw [if_pos (show (RI.keep n).op.kind = 0 from rfl)]
          exact kpO_ri hx)
        simpa [riA,riC,rawE,ri_take1] using this
      | ins l =>
        simp [riC,h0,h2,e1,ri_at,riA,rawE]
        refine ⟨by omega,by omega,?_⟩
        have := hgo (i0 ++ [RI.ins l,RI.keep n]) (u + 1) (updF H [0] ⟨u + 1,.arr 14 ((i0 ++ [RI.ins l,RI.keep n]).map riA)⟩) (by simp [updF_app]) (by simp) (by
          rw [if_pos (show (RI.keep n).op.kind = 0 from rfl)]
          exact kpO_ri hx)
        simpa [riA,riC,rawE,ri_take1] using this
      | desc e =>
        simp [riC,h0,h2,e1,ri_at,riA,rawE]
        refine ⟨by omega,by omega,?_⟩
        have := hgo (i0 ++ [RI.desc e,RI.keep n]) (u + 1) (updF H [0] ⟨u + 1,.arr 14 ((i0 ++ [RI.desc e,RI.keep n]).map riA)⟩) (by simp [updF_app]) (by simp) (by
          rw [if_pos (show (RI.keep n).op.kind = 0 from rfl)]
          exact kpO_ri hx)
        simpa [riA,riC,rawE,ri_take1] using this
  · simp [riC,h0,h2]
    refine ⟨by omega,?_⟩
    have := hgo (J ++ [RI.desc e]) (u + 1) (updF H [0] ⟨u + 1,.arr 14 ((J ++ [RI.desc e]).map riA)⟩) (by simp [updF_app]) (by simp) (by simp [RI.op])
    simpa [riA,riC,ri_take] using this
def stepO (list : Int) (o : OP) (l : List OP) : List OP := if o.kind = 3 then (if idleE list (nEd o.e) = true then kpO l 1 else l ++ [.mk 3 0 [] (nEd o.e)]) else kpO l o.n
theorem rops_k2 {list : Int} {os : List OP} (hol : os.length≤300000) {J : List RI} {u p : Nat} {H : Hp} (hJ : J.length≤1000000) (hp : p≤os.length) (h0 : H [0] = ⟨u,.arr 14 (J.map riA)⟩) (hO : ∀ h : p < os.length,(os[p].kind = 0∨os[p].kind = 3)∧(os[p].kind = 3→G.Spec Tryz.prog 14 [eX os[p].e] (eX (nEd os[p].e))))
    (hret : p = os.length→∀ H2 : Hp,H2 [0] = H [0]→Q .ret ⟨lk [(4,.osl [0] u 14 0 J.length)],H2⟩)
    (hgo : ∀ (h : p < os.length) (J2 : List RI) (u2 : Nat) (H2 : Hp),H2 [0] = ⟨u2,.arr 14 (J2.map riA)⟩→J2.length≤J.length + 1→J2.map RI.op = stepO list os[p] (J.map RI.op)→Q .normal ⟨lk [(0,iv list),(1,oKs os),(5,.osl [0] u2 14 0 J2.length),(6,iv p)],H2⟩) :
    WPC (cx Tryz.prog w0 I0 n0) k2_centoref22_Ops Q ⟨lk [(0,iv list),(1,oKs os),(5,.osl [0] u 14 0 J.length),(8,iv p)],H⟩ := by
  rw [k2_centoref22_Ops.eq_1]
  by_cases h : p < os.length
  · obtain ⟨hk,hE⟩ := hO h
    have hg := hgo h
    unfold stepO at hg
    generalize ho : os[p] = o at *
    have hle : ¬ os.length≤p := by omega
    rcases hk with hk | hk
    · simp [h,hle,ho,hk]
      refine rops_k1 (x := RI.keep o.n) (.inl ⟨_,rfl⟩) hJ (by simp [updF_app,h0]) (by simp [updF_app,riC,rawE]) fun J2 u2 H2 a1 a2 a3 => hg J2 u2 H2 a1 a2 ?_
      rw [a3,if_pos (show (RI.keep o.n).op.kind = 0 from rfl),if_neg (by omega)]
      rfl
    · have hI := idle22_spec list (nEd o.e)
      simp [h,hle,ho,hk]
      refine sc_call (hE hk) (by simp) ?_
      simp [updF_app]
      refine sc_call hI (by simp) ?_
      cases hid : idleE list (nEd o.e) with
      | true =>
        simp [updF_app]
        refine rops_k1 (x := RI.keep 1) (.inl ⟨_,rfl⟩) hJ (by simp [updF_app,h0]) (by simp [updF_app,riC,rawE]) fun J2 u2 H2 a1 a2 a3 => hg J2 u2 H2 a1 a2 ?_
        rw [a3,if_pos (show (RI.keep 1).op.kind = 0 from rfl),if_pos hk,if_pos hid]
        rfl
      | false =>
        simp [updF_app]
        refine rops_k1 (x := RI.desc (nEd o.e)) (.inr ⟨_,rfl⟩) hJ (by simp [updF_app,h0]) (by simp [updF_app,riC,rawE]) fun J2 u2 H2 a1 a2 a3 => hg J2 u2 H2 a1 a2 ?_
        rw [a3,if_neg (show ¬ (RI.desc (nEd o.e)).op.kind = 0 by simp [RI.op]),if_pos hk,if_neg (by rw [hid]; decide)]
        rfl
  · have : p = os.length := by omega
    simp [this]
    exact hret this H rfl
theorem rops_l1 {list : Int} {os : List OP} (hos : ∀ o,o ∈ os→OpR22 o) (hol : os.length≤300000) (hsum : sumO os≤1000000) {res : List OP}
    (hq : ∀ (H : Hp) (its : List RI) (u : Nat) st,H [0] = ⟨u,.arr 14 (its.map riA)⟩→its.map RI.op = res→Q (.exit 0) ⟨lk ([(0,iv list),(1,oKs os),(5,.osl [0] u 14 0 its.length)] ++ st),H⟩)
    (hq2 : ∀ (H : Hp) (its : List RI) (u : Nat),H [0] = ⟨u,.arr 14 (its.map riA)⟩→its.map RI.op = res→Q .ret ⟨lk [(4,.osl [0] u 14 0 its.length)],H⟩) : ∀ (m i u : Nat) (its : List RI) (H : Hp),os.length≤i + m→i≤os.length→its.length≤3 * i→H [0] = ⟨u,.arr 14 (its.map riA)⟩→opsW list ((os.drop i).map nOP) (its.map RI.op) [] [] = res →
    LoopC (cx Tryz.prog w0 I0 n0) l1_centoref22_Ops Q ⟨lk [(0,iv list),(1,oKs os),(5,.osl [0] u 14 0 its.length),(6,iv i)],H⟩ := by
  intro m
  induction m with
  | zero =>
    intro i u its H hm hile hil hH hres
    have : i = os.length := by omega
    subst this
    rw [List.drop_length,List.map_nil,opsW] at hres
    refine loopC_once mixed l1_centoref22_Ops.eq_1 ?_
    simp
    exact hq H its u [(6,iv os.length),(16,bv false)] hH (by rw [← hres]; simp [flO,delO,insO])
  | succ m ih =>
    intro i u its H hm hile hil hH hres
    by_cases hi : i < os.length
    rotate_left
    · have : i = os.length := by omega
      subst this
      rw [List.drop_length,List.map_nil,opsW] at hres
      refine loopC_once mixed l1_centoref22_Ops.eq_1 ?_
      simp
      exact hq H its u [(6,iv os.length),(16,bv false)] hH (by rw [← hres]; simp [flO,delO,insO])
    have g1 := gap_spec (os := os) (k := 1) (.inl rfl) (fun o ho => (hos o ho).l) (by omega) hsum (i := i) (by omega)
    have g2 := gap_spec (os := os) (k := 2) (.inr rfl) (fun o ho => (hos o ho).l) (by omega) hsum (i := i) (by omega)
    have hgn := gapN_le (os.drop i)
    simp at hgn
    rw [opsW_gap,List.drop_drop,List.nil_append,List.nil_append] at hres
    have hnx : ∀ h : i + gapN (os.drop i) < os.length,os[i + gapN (os.drop i)].kind ≠ 1∧os[i + gapN (os.drop i)].kind ≠ 2 := fun h => by
      have := gapN_next (os.drop i) (by simp; omega)
      simpa using this
    refine loopC_once mixed l1_centoref22_Ops.eq_1 ?_
    simp [hi]
    refine sc_call g1 (by simp) ?_
    simp
    refine sc_call g2 (by simp) ?_
    generalize gapT 1 (os.drop i) = g at *
    generalize gapT 2 (os.drop i) = b at *
    generalize gapN (os.drop i) = n at *
    have hgl : True := trivial
    have ew : IntKind.i64.wrap ((i : Int) + n + 1) = (i : Int) + n + 1 := i64_same (by omega) (by omega)
    -- behind what is deleted,and inserted
    have fin : ∀ (u2 : Nat) (H2 : Hp),H2 [0] = ⟨u2,.arr 14 ((its ++ (delR g ++ insR b)).map riA)⟩→WPC (cx Tryz.prog w0 I0 n0) k2_centoref22_Ops (InBlock 1 (ThenC (WPC (cx Tryz.prog w0 I0 n0) (CC.keep [0,1,5,6] (CC.reg [co (some 17) (Op.move (Operand.tmp 6)) none,co (some 18) (Op.binOp BinOp.add 3 (Operand.tmp 17) (Operand.const (Value.int IntKind.i64 1)) 3) none,co (some 6) (Op.assign (Operand.tmp 18)) none] [0,1,5,6])) (ThenC (LoopC (cx Tryz.prog w0 I0 n0) l1_centoref22_Ops Q) Q)) (ThenC (LoopC (cx Tryz.prog w0 I0 n0) l1_centoref22_Ops Q) Q))) ⟨lk [(0,iv list),(1,oKs os),(5,.osl [0] u2 14 0 (its ++ (delR g ++ insR b)).length),(8,iv (i + n : Nat))],H2⟩ := fun u2 H2 h2 => by
      have hJl : (its ++ (delR g ++ insR b)).length≤its.length + 2 := by
        by_cases h1 : g = [] <;> by_cases h2 : b = [] <;> simp [delR,insR,h1,h2]
      have hm2 := flO_ri its g b
      generalize its ++ (delR g ++ insR b) = J at *
      refine rops_k2 hol (by omega) (by omega) h2 (fun h => ?_) (fun he H3 h3 => ?_) (fun h J2 u3 H3 h3 hl3 ho3 => ?_)
      · have hO := hos _ (List.getElem_mem h)
        obtain ⟨x1,x2⟩ := hnx h
        refine ⟨?_,fun hk => hO.e hk⟩
        have := hO.k
        omega
      · simp
        rw [he,List.drop_length,List.map_nil,opsW,← hm2] at hres
        exact hq2 H3 J u2 (by rw [h3,h2]) hres
      · simp [ew]
        have hdr : os.drop (i + n) = os[i + n] :: os.drop (i + n + 1) := (List.getElem_cons_drop h).symm
        have hnx' := hnx h
        have hO := (hos _ (List.getElem_mem h)).k
        rw [hdr,List.map_cons,opsW,← hm2] at hres
        have := ih (i + n + 1) u3 J2 H3 (by omega) (by omega) (by omega) h3 (by
          rw [ho3,← hres]
          unfold stepO
          have hk : (nOP os[i + n]).kind = os[i + n].kind := rfl
          have he : (nOP os[i + n]).e = nEd os[i + n].e := rfl
          have hn : (nOP os[i + n]).n = os[i + n].n := rfl
          rw [hk,he,hn]
          by_cases h30 : os[i + n].kind = 0
          · rw [if_neg (by omega),if_pos h30]
          · rw [if_pos (by omega),if_neg h30,if_neg hnx'.1,if_neg hnx'.2]
            split <;> rfl)
        simpa using this
    by_cases hg : g = []
    · simp [hg]
      rw [k3_centoref22_Ops.eq_1]
      by_cases hb : b = []
      · simp [hb]
        have := fin u H (by simp [hg,hb,delR,insR,hH])
        simpa [hg,hb,delR,insR] using this
      · have hbl : 0 < b.length := List.length_pos_iff.2 hb
        simp [hb,hbl,hH]
        refine ⟨by omega,?_⟩
        have := fin (u + 1) (updF H [0] ⟨u + 1,.arr 14 ((its ++ [RI.ins b]).map riA)⟩) (by simp [updF_app,hg,hb,delR,insR])
        simpa [hg,hb,delR,insR,riA,riC,rawE,ri_take] using this
    · have hgl : 0 < g.length := List.length_pos_iff.2 hg
      simp [hg,hgl,hH]
      refine ⟨by omega,?_⟩
      rw [k3_centoref22_Ops.eq_1]
      by_cases hb : b = []
      · simp [hb]
        have := fin (u + 1) (updF H [0] ⟨u + 1,.arr 14 ((its ++ [RI.del g]).map riA)⟩) (by simp [updF_app,hg,hb,delR,insR])
        simpa [hg,hb,delR,insR,riA,riC,rawE,ri_take] using this
      · have hbl : 0 < b.length := List.length_pos_iff.2 hb
        simp [hb,hbl]
        refine ⟨by omega,?_⟩
        have := fin (u + 1 + 1) (updF H [0] ⟨u + 1 + 1,.arr 14 ((its ++ [RI.del g,RI.ins b]).map riA)⟩) (by simp [updF_app,hg,hb,delR,insR])
        have ht := ri_take1 its (riA (RI.del g))
        simp [riA,riC,rawE] at ht
        simpa [hg,hb,delR,insR,riA,riC,rawE,ri_take,ht] using this
end
theorem rOps_spec {list : Int} {os : List OP} (hos : ∀ o,o ∈ os→OpR22 o) (hol : os.length≤300000) (hsum : sumO os≤1000000) : G.Spec Tryz.prog 34 [iv list,oKs os] (oKs (opsW list (os.map nOP) [] [] [])) := by
  refine spec_of t_centoref22_Ops (by simp) fun w0 I0 => ?_
  unfold c_centoref22_Ops
  simp
  refine LoopC.le (le_blank 5 [0] 14 (by simp)) ?_
  refine LoopC.le (le_list [(0,iv list),(1,oKs os),(5,.osl [0] 1 14 0 ([] : List RI).length),(6,iv (0 : Nat))] (by simp)) ?_
  refine rops_l1 hos hol hsum (res := opsW list (os.map nOP) [] [] []) (fun H its u st h he => ?_) (fun H its u h he => ?_) os.length 0 1 [] _ (by omega) (by omega) (by simp) (by simp [updF_app]) (by simp)
  · simp
    rw [← he]
    exact frz_ris h rfl
  · simp
    rw [← he]
    exact frz_ris h rfl
section
variable {n0 : Nat} {w0 : World} {I0 : Nat→Prop} {Q : Exit→Sta→Prop}
theorem redit_l1 {e : E} (hl : e.kids.length≤1000000) (hk : ∀ x,x ∈ e.kids→G.Spec Tryz.prog 14 [eX x.e] (eX (nEd x.e))) {v1 v3 : VOb} {W : A}
    (hq : ∀ H u st,H [1] = v1→H [3] = v3→H [2] = ⟨1,.cells [iv 2,iv 0,.sl true [],.sl true [],iv 0,.sl true [],.sl true [],W,.osl [4] u 12 0 e.kids.length,iv 0,.sl true []]⟩→H [4] = ⟨u,.arr 12 (e.kids.map (kA ∘ nKE))⟩→Q (.exit 1) ⟨lk ([(1,.pob [0] 1 0),(2,.pob [1] 1 0),(3,.pob [2] 1 0)] ++ st),H⟩) : ∀ (m i u : Nat) (H : Hp),i + m = e.kids.length→H [0] = ⟨1,.cells (eL e)⟩→H [1] = v1→H [3] = v3→H [2] = ⟨1,.cells [iv 2,iv 0,.sl true [],.sl true [],iv 0,.sl true [],.sl true [],W,.osl [4] u 12 0 i,iv 0,.sl true []]⟩→H [4] = ⟨u,.arr 12 ((e.kids.take i).map (kA ∘ nKE))⟩ →
    LoopC (cx Tryz.prog w0 I0 n0) l1_centoref22_Edit Q ⟨lk [(1,.pob [0] 1 0),(2,.pob [1] 1 0),(3,.pob [2] 1 0),(4,iv i)],H⟩ := by
  intro m
  induction m with
  | zero =>
    intro i u H hm h0 h1 h3 h2 h4
    refine loopC_once mixed l1_centoref22_Edit.eq_1 ?_
    have : i = e.kids.length := by omega
    subst this
    rw [List.take_of_length_le (Nat.le_refl _)] at h4
    simp [h0]
    exact hq H u [(4,iv e.kids.length),(29,bv false)] h1 h3 h2 h4
  | succ m ih =>
    intro i u H hm h0 h1 h3 h2 h4
    have hi : i < e.kids.length := by omega
    have ew : IntKind.i64.wrap ((i : Int) + 1) = ((i + 1 : Nat) : Int) := by rw [i64_same (by omega) (by omega)]; omega
    have hE := hk _ (List.getElem_mem hi)
    have htk : (e.kids.take (i + 1)).map (kA ∘ nKE) = (e.kids.take i).map (kA ∘ nKE) ++ [kA (nKE e.kids[i])] := by rw [List.take_succ_eq_append_getElem hi,List.map_append]; rfl
    have next := ih (i + 1) (u + 1)
    rw [htk] at next
    generalize hx : e.kids[i] = x at *
    refine loopC_once mixed l1_centoref22_Edit.eq_1 ?_
    simp [hi,hx,updF_app,h0,h2]
    refine sc_call hE (by simp [updF_app]) ?_
    simp [updF_app,h2,h4,ew,h0,hi,hx]
    refine ⟨⟨by omega,by omega⟩,?_⟩
    refine next _ (by omega) (by simp [updF_app,h0]) (by simp [updF_app,h1]) (by simp [updF_app,h3]) (by simp [updF_app]) ?_
    simp [updF_app,List.take_take,nKE]
end
end Go.Proofs.YtmeldaflhkiopaaGreat

namespace Go.Proofs.YtmeldaflhkiopaaGreat
set_option linter.unusedVariables false
set_option linter.unusedSimpArgs false
open Go Go.G Go.Proofs Go.PL
theorem rEdit22_spec : ∀ e : E,nOk e→G.Spec Tryz.prog 14 [eX e] (eX (nEd e)) := by
  refine E.ind fun k o n ws ks l os ihk iho h => ?_
  rw [nOk] at h
  obtain ⟨hk,hl,hon,hwl,hkl,hol,hsum,hks,hos⟩ := h
  refine spec_of t_centoref22_Edit (by simp) fun w0 I0 => ?_
  unfold c_centoref22_Edit
  rw [nEd_mk]
  rcases hk with rfl | rfl | rfl | rfl
  · simp
    exact frz_agg ⟨frz_bare rfl,frz_bare rfl,frz_sl,frz_sl,frz_bare rfl,frz_sl,frz_sl,frz_sl,frz_sl,frz_bare rfl,frz_sl,trivial⟩
  · obtain ⟨ho,hn⟩ := hon rfl
    simp
    refine sc_call (rNorm_spec o ho) (by simp) ?_
    simp [updF_app]
    refine sc_call (rNorm_spec n hn) (by simp) ?_
    simp [updF_app]
    exact frz_agg ⟨frz_bare rfl,frz_int (norm_kind o).symm,frz_bare rfl,frz_bare rfl,frz_int (norm_kind n).symm,frz_bare rfl,frz_bare rfl,frz_sl,frz_sl,frz_bare rfl,frz_sl,trivial⟩
  · simp
    refine ⟨by omega,?_⟩
    refine LoopC.le (le_blankC (d := [2]) (u := 1) (cs := [iv 2,iv 0,.sl true [],.sl true [],iv 0,.sl true [],.sl true [],.osl [3] 1 4 0 ws.length,.sl true [],iv 0,.sl true []]) 8 [4] 12 rfl rfl (by simp)) ?_
    refine LoopC.le (le_list [(1,.pob [0] 1 0),(2,.pob [1] 1 0),(3,.pob [2] 1 0),(4,iv (0 : Nat))] (by simp)) ?_
    refine redit_l1 (e := .mk 2 o n ws ks l os) hkl (fun x hx => ihk x hx (nOkK_all (hks rfl) x hx)) (W := .osl [3] 1 4 0 ws.length) (fun H u st h1 h3 h2 h5 => ?_) ks.length 0 1 _ (by simp) (by simp [updF_app]) rfl rfl (by simp [updF_app]) (by simp [updF_app])
    have h3' : H [3] = ⟨1,.arr 4 (ws.map wA)⟩ := by rw [h3]; simp [updF_app]
    simp only [E.kids_mk] at h2 h5
    simp [h2,h1,updF_app]
    have fw := frz_row (H := updF H [1] ⟨1,.cells [iv 2,iv 0,.sl true [],.sl true [],iv 0,.sl true [],.sl true [],.osl [3] 1 4 0 ws.length,.osl [4] u 12 0 ks.length,iv 0,.sl true []]⟩) (o := [3]) (u := 1) (sz := 4) (l := ws) (f := wA) (n := ws.length) (by simp [updF_app,h3']) rfl (fun x => rfl)
    have fk := frz_row (H := updF H [1] ⟨1,.cells [iv 2,iv 0,.sl true [],.sl true [],iv 0,.sl true [],.sl true [],.osl [3] 1 4 0 ws.length,.osl [4] u 12 0 ks.length,iv 0,.sl true []]⟩) (o := [4]) (u := u) (sz := 12) (l := ks) (f := kA ∘ nKE) (n := ks.length) (by simp [updF_app,h5]) rfl (fun x => by simp)
    rw [← List.map_map] at fk
    exact frz_agg ⟨frz_bare rfl,frz_bare rfl,frz_sl,frz_sl,frz_bare rfl,frz_sl,frz_sl,fw,fk,frz_bare rfl,frz_sl,trivial⟩
  · have hO := rOps_spec (list := l) (os := os) (fun x hx => by
      obtain ⟨a,b,c⟩ := nOkO_all (hos rfl) x hx
      exact ⟨a,b,fun h => iho x hx (c h)⟩) hol hsum
    simp
    refine sc_call hO (by simp [updF_app]) ?_
    simp [updF_app]
    exact frz_agg ⟨frz_bare rfl,frz_bare rfl,frz_sl,frz_sl,frz_bare rfl,frz_sl,frz_sl,frz_sl,frz_sl,frz_bare rfl,frz_bare rfl,trivial⟩
end Go.Proofs.YtmeldaflhkiopaaGreat

namespace Go.Proofs.YtmeldaflhkiopaaGreat
set_option linter.unusedVariables false
set_option linter.unusedSimpArgs false
open Go Go.G Go.Proofs Go.PL
theorem rOne_spec {most : Int} (hm : i64R most) : ∀ (f g : Nat) (a b : T),okT f a→okT g b→G.Spec Tryz.prog 28 [tX a,tX b,iv most] (eX (oneE most f a b))
  | 0,g,a,b,ha,hb => by
    obtain ⟨a1,a2,a3,a4⟩ := okT_facts ha
    obtain ⟨b1,b2,b3,b4⟩ := okT_facts hb
    have hk : a.kind = 0 := by cases ha; rfl
    have := rone_step a1 b1 (X := E0) (Y := E0) (most := most) (fun h => by omega) (fun _ h => by omega)
    rw [if_neg (show ¬ (a.kind = 1∧b.kind = 1) by omega),if_neg (show ¬ (a.kind = b.kind∧2≤a.kind∧a.kind≤9) by omega)] at this
    exact this
  | f + 1,g,a,b,ha,hb => by
    obtain ⟨a1,a2,a3,a4⟩ := okT_facts ha
    obtain ⟨b1,b2,b3,b4⟩ := okT_facts hb
    refine rone_step a1 b1 (fun h1 h2 => ?_) (fun h1 h2 h3 => ?_)
    · exact rStructs26_spec a1 b1 (by omega) (by omega) (by omega) (by omega) fun i => rOne_spec hm f (g - 1) _ _ (okT_at ha i) (okT_at hb i)
    · exact rList26_spec a1 b1 a4 b4 hm fun x hx y hy => rOne_spec hm f (g - 1) _ _ (okT_kids ha x hx) (okT_kids hb y hy)
noncomputable def dfE (most : Int) (a b : T) : E := nEd (oneE most 1000 (norm a) (norm b))
theorem pTrees_spec {a b : T} (ha : wfT a) (hb : wfT b) (pa : partsT a≤1000) (pb : partsT b≤1000) {most : Int} (hm : i64R most) : G.Spec Tryz.prog 9 [tX a,tX b,iv most] (eX (dfE most a b)) := by
  have oa := okT_norm26 a ha pa 1000 pa
  have ob := okT_norm26 b hb pb 1000 pb
  have h1 := pOne_spec hm 1000 1000 _ _ oa ob
  have h2 := pEdit_spec _ (nOk_one most 1000 1000 _ _ oa ob)
  refine spec_of t_diff_Trees (by simp) fun w0 I0 => ?_
  unfold c_diff_Trees
  simp
  refine sc_call (tNorm_spec a ha) (by simp) ?_
  simp
  refine sc_call (tNorm_spec b hb) (by simp) ?_
  simp
  refine sc_call h1 (by simp) ?_
  simp
  refine sc_call h2 (by simp) ?_
  simp
  exact frz_bare (by simp)
theorem rTrees_spec {a b : T} (ha : wfT a) (hb : wfT b) (pa : partsT a≤1000) (pb : partsT b≤1000) {most : Int} (hm : i64R most) : G.Spec Tryz.prog 10 [tX a,tX b,iv most] (eX (dfE most a b)) := by
  have oa := okT_norm26 a ha pa 1000 pa
  have ob := okT_norm26 b hb pb 1000 pb
  have h1 := rOne_spec hm 1000 1000 _ _ oa ob
  have h2 := rEdit22_spec _ (nOk_one most 1000 1000 _ _ oa ob)
  refine spec_of t_centoref26_Trees (by simp) fun w0 I0 => ?_
  unfold c_centoref26_Trees
  simp
  refine sc_call (rNorm_spec a ha) (by simp) ?_
  simp
  refine sc_call (rNorm_spec b hb) (by simp) ?_
  simp
  refine sc_call h1 (by simp) ?_
  simp
  refine sc_call h2 (by simp) ?_
  simp
  exact frz_bare (by simp)
def good26 (t : T) : Bool := decide (0≤shallow 70 400 t) && rightT 64 t && decide (t.kind ≠ 10)
theorem good26_spec {t : T} (h : wfT t) : G.Spec Tryz.prog 6 [tX t] (bv (good26 t)) := by
  refine spec_of t_centolaw26_Good (by simp) fun w0 I0 => ?_
  unfold c_centolaw26_Good
  simp
  refine sc_call (shallow_spec t h 70 400 (by omega) (by omega) (by omega)) (by simp) ?_
  unfold good26
  by_cases hs : 0≤shallow 70 400 t
  · simp [hs]
    refine sc_call_gt rfl (fun _ => rRight_spec t h 64 (by omega)) (fun _ => by simp) (by simp) ?_
    cases hr : rightT 64 t with
    | true =>
      simp
      exact frz_is rfl (by simp)
    | false =>
      simp
      exact frz_is rfl (by simp)
  · simp [hs]
    refine sc_call_off rfl ?_
    simp
    exact frz_is rfl (by simp)
theorem good26_parts {t : T} (h : good26 t = true) : partsT t≤400∧rightT 64 t = true∧t.kind ≠ 10 := by
  unfold good26 at h
  simp only [Bool.and_eq_true,decide_eq_true_eq] at h
  obtain ⟨⟨h1,h2⟩,h3⟩ := h
  have := parts_shallow t 70 400 h1
  exact ⟨by omega,h2,h3⟩
end Go.Proofs.YtmeldaflhkiopaaGreat

namespace Go.Proofs.YtmeldaflhkiopaaGreat
set_option linter.unusedVariables false
set_option linter.unusedSimpArgs false
open Go Go.G Go.Proofs Go.PL
abbrev at26 (x : Int) : T := .mk 10 [x] []
abbrev ls26 (l : List Int) : T := .mk 4 [] (l.map at26)
theorem same_at26 (x y : Int) : sameB (at26 x) (at26 y) = decide (x = y) := by
  rw [Bool.eq_iff_iff,sameB_iff]
  simp
theorem norm_at26 (x : Int) : norm (at26 x) = at26 x := by simp [norm_mk]
theorem norm_ls26 (l : List Int) : norm (ls26 l) = ls26 l := by
  rw [norm_mk]
  simp [Function.comp_def,norm_at26]
theorem eq_ls26 : eqT (ls26 [1,2,3]) (ls26 [1,9,3]) = false := by
  rw [Bool.eq_false_iff]
  intro h
  rw [eqT_iff,norm_ls26,norm_ls26] at h
  simp at h
theorem cls_a26 : clsL [] [at26 1,at26 2,at26 3] = ([at26 1,at26 2,at26 3],[0,1,2]) := by
  simp [clsL,clsI,clsK,norm_at26,same_at26,List.findIdx_cons]
theorem cls_b26 : clsL [at26 1,at26 2,at26 3] [at26 1,at26 9,at26 3] = ([at26 1,at26 2,at26 3,at26 9],[0,3,2]) := by
  simp [clsL,clsI,clsK,norm_at26,same_at26,List.findIdx_cons]
theorem ca_26 : caL (ls26 [1,2,3]) = [0,1,2] := by
  show zsN (clsL [] [at26 1,at26 2,at26 3]).2 = _
  rw [cls_a26]; rfl
theorem cb_26 : cbL (ls26 [1,2,3]) (ls26 [1,9,3]) = [0,3,2] := by
  show zsN (clsL (clsL [] [at26 1,at26 2,at26 3]).1 [at26 1,at26 9,at26 3]).2 = _
  rw [cls_a26]
  show zsN (clsL [at26 1,at26 2,at26 3] [at26 1,at26 9,at26 3]).2 = _
  rw [cls_b26]; rfl
theorem dist_26 : distL [0,1,2] [0,3,2] = 2 := by decide
theorem way_26 : nrmS (wayU [0,1,2] [0,3,2]) = [⟨0,1⟩,⟨1,1⟩,⟨2,1⟩,⟨0,1⟩] := by rfl
theorem gap_26 (one : T→T→E) : gapE one [at26 2] [at26 9] = [.mk 1 0 [at26 2] E0,.mk 2 0 [at26 9] E0] := by
  have hs : scR [at26 2] [at26 9] = [[0]] := by simp [scR,scoreT]
  have hp : pkG (scR [at26 2] [at26 9]) = [] := by
    obtain ⟨h,_⟩ := pkO_ok (scR [at26 2] [at26 9])
    have h2 := (picks_facts h).2
    have : pkO (scR [at26 2] [at26 9]) = [] := by
      apply List.eq_nil_iff_forall_not_mem.2
      intro x hx
      have := h2 x hx
      rw [hs] at this
      simp [candS,candR] at this
    unfold pkG
    rw [this]; rfl
  unfold gapE
  rw [hp]
  simp [gapO,delO,insO]
theorem df_26 : dfE 9 (ls26 [1,2,3]) (ls26 [1,9,3]) = .mk 3 T0 T0 [] [] 4 [.mk 0 1 [] E0,.mk 1 0 [at26 2] E0,.mk 2 0 [at26 9] E0,.mk 0 1 [] E0] := by
  unfold dfE
  rw [norm_ls26,norm_ls26,show (1000 : Nat) = 999 + 1 from rfl,oneE,eq_ls26]
  rw [if_neg (by simp),if_neg (by simp),if_pos (by simp),listE_eq]
  unfold lstO
  rw [ca_26,cb_26,dist_26,way_26,if_pos (by omega)]
  rw [opsG_keep rfl,opsG_gap rfl rfl,opsG_keep rfl]
  have e : gapE (oneE 9 999) (((ls26 [1,2,3]).kids.drop 1).take 1) (((ls26 [1,9,3]).kids.drop 1).take 1) = [.mk 1 0 [at26 2] E0,.mk 2 0 [at26 9] E0] := gap_26 _
  show nEd (E.mk 3 T0 T0 [] [] 4 (opsG (gapE (oneE 9 999)) [] _ _ ([] ++ [OP.mk 0 ((1 : Nat) : Int) [] E0] ++ gapE (oneE 9 999) (((ls26 [1,2,3]).kids.drop 1).take 1) (((ls26 [1,9,3]).kids.drop 1).take 1) ++ [OP.mk 0 ((1 : Nat) : Int) [] E0]))) = _
  rw [e,opsG,nEd_mk]
  simp [nOP,opsW,kpO,flO,delO,insO,norm_at26,nEd_mk]
end Go.Proofs.YtmeldaflhkiopaaGreat

namespace Go.Proofs.YtmeldaflhkiopaaGreat
set_option linter.unusedVariables false
set_option linter.unusedSimpArgs false
open Go Go.G Go.Proofs Go.PL
def wds (tw : List Int) : Nat→Nat→List WE→Option (List Int)
  | 0,_,_ => some []
  | m + 1,i,[] => (wds tw m (i + 1) []).map (tw.getD i 0 :: ·)
  | m + 1,i,x :: xs => if x.at_ = (i : Int) then (if mixZ 0 (tw.getD i 0) x.mask = x.old then (wds tw m (i + 1) xs).map (mixZ (tw.getD i 0) x.new x.mask :: ·) else none) else (wds tw m (i + 1) (x :: xs)).map (tw.getD i 0 :: ·)
def kds (tk : List T) : Nat→Nat→List (Int × (T→Option T))→Option (List T)
  | 0,_,_ => some []
  | m + 1,i,[] => (kds tk m (i + 1) []).map (tk.getD i T0 :: ·)
  | m + 1,i,x :: xs => if x.1 = (i : Int) then (match x.2 (tk.getD i T0) with | none => none | some u => (kds tk m (i + 1) xs).map (u :: ·)) else (kds tk m (i + 1) (x :: xs)).map (tk.getD i T0 :: ·)
noncomputable def opsR (tk : List T) : Nat→List (Int × Int × List T × (T→Option T))→Option (List T × Nat)
  | a,[] => some ([],a)
  | a,(k,n,l,f) :: os =>
    if k = 0 then (if a + n.toNat≤tk.length then (opsR tk (a + n.toNat) os).map (fun r => ((tk.drop a).take n.toNat ++ r.1,r.2)) else none)
    else if k = 1 then (if a + l.length≤tk.length∧(((tk.drop a).take l.length).zip l).all (fun p => eqT p.1 p.2) = true then opsR tk (a + l.length) os else none)
    else if k = 2 then (opsR tk a os).map (fun r => (l ++ r.1,r.2))
    else match tk[a]? with
      | none => none
      | some x => match f x with
        | none => none
        | some u => (opsR tk (a + 1) os).map (fun r => (u :: r.1,r.2))
def lastW (ws : List WE) (n : Nat) : Nat := match ws.getLast? with | none => n | some x => max n (x.at_ + 1).toNat
def lastK {β : Type} (ks : List (Int × β)) (n : Nat) : Nat := match ks.getLast? with | none => n | some x => max n (x.1 + 1).toNat
noncomputable def stepE (k : Int) (o n : T) (ws : List WE) (ks : List (Int × (T→Option T))) (list : Int) (os : List (Int × Int × List T × (T→Option T))) (t : T) : Option T :=
  if k = 0 then some (norm t)
  else if k = 1 then (if eqT o t = true then some (norm n) else none)
  else if k = 2 then (if t.kind = 1 then (match wds t.words (lastW ws t.words.length) 0 ws,kds t.kids (lastK ks t.kids.length) 0 ks with
    | some w,some l => some (norm (.mk 1 w l))
    | _,_ => none) else none)
  else if k = 3 then (if t.kind = list then (match opsR t.kids 0 os with
    | some (l,a) => if a = t.kids.length then some (norm (.mk t.kind [] l)) else none
    | none => none) else none)
  else none
mutual
noncomputable def apE : E→T→Option T
  | .mk k o n ws ks l os,t => stepE k o n ws (apKs ks) l (apOs os) t
noncomputable def apKs : List KE→List (Int × (T→Option T))
  | [] => []
  | .mk a e :: r => (a,apE e) :: apKs r
noncomputable def apOs : List OP→List (Int × Int × List T × (T→Option T))
  | [] => []
  | .mk k n t e :: r => (k,n,t,apE e) :: apOs r
end
section
variable {n0 : Nat} {w0 : World} {I0 : Nat→Prop} {Q : Exit→Sta→Prop}
end
section
variable {n0 : Nat} {w0 : World} {I0 : Nat→Prop} {Q : Exit→Sta→Prop}
end
theorem mixZ_in (a b mask : Int) : u64R (mixZ a b mask) := by
  have h := ofZ_range (mixL (bytesZ a) (bytesZ b) mask 8) mixL_range
  rw [mixL_length (by rw [bytesZ_length]; exact Nat.le_refl _),bytesZ_length] at h
  have e : (256 : Int) ^ 8 = 18446744073709551616 := by decide
  rw [e] at h
  exact ⟨h.1,h.2⟩
section
variable {n0 : Nat} {w0 : World} {I0 : Nat→Prop}
noncomputable def strO (e : E) (t : T) (n m : Nat) : Option T := match wds t.words n 0 e.words,kds t.kids m 0 (apKs e.kids) with
  | some w,some l => some (.mk 1 w l)
  | _,_ => none
end
noncomputable def strA (e : E) (t : T) : Option T := if t.kind = 1 then strO e t (lastW e.words t.words.length) (lastK (apKs e.kids) t.kids.length) else none
end Go.Proofs.YtmeldaflhkiopaaGreat

namespace Go.Proofs.YtmeldaflhkiopaaGreat
set_option linter.unusedVariables false
set_option linter.unusedSimpArgs false
open Go Go.G Go.Proofs Go.PL
theorem wf_E026 : wfE E0 := wfE_iff.2 ⟨by simp [i64R],by simp [i64R],wf_T026,wf_T026,by simp,by simp,by simp,by simp,by simp,by simp⟩
theorem i64R_small {n : Int} (h1 : -1000000000≤n) (h2 : n≤1000000000) : i64R n := ⟨by omega,by omega⟩
theorem wd_wf26 {i : Nat} (hi : i≤1000000) (a b : Int) : WE.wf (wdE i a b) :=
  ⟨i64R_small (by show (-1000000000 : Int)≤i; omega) (by show (i : Int)≤1000000000; omega),unlZ_in a b,mixZ_in _ _ _,mixZ_in _ _ _⟩
theorem wf_str26 {one : T→T→E} {a b : T} (ha : a.words.length≤1000) (hb : b.words.length≤1000) (ha2 : a.kids.length≤1000) (hb2 : b.kids.length≤1000) (h : ∀ i,wfE (one (a.kids.getD i T0) (b.kids.getD i T0))) : wfE (strE one a b) := by
  have h1 := wrdL_len a b (max a.words.length b.words.length)
  have h2 := kidL26_len one a b (max a.kids.length b.kids.length)
  unfold strE
  refine wfE_iff.2 ⟨by simp [i64R],by simp [i64R],wf_T026,wf_T026,fun x hx => ?_,by show (wrdL a b _).length * 32≤_; omega,by show (kidL26 one a b _).length * 208≤_; omega,by simp,fun x hx => ?_,by simp⟩
  · have hx' : x ∈ wrdL a b (max a.words.length b.words.length) := hx
    unfold wrdL at hx'
    rw [List.mem_filterMap] at hx'
    obtain ⟨i,hi,e⟩ := hx'
    split at e
    · cases e
    · simp only [Option.some.injEq] at e
      subst e
      have : i < max a.words.length b.words.length := by simpa using hi
      exact wd_wf26 (by omega) _ _
  · obtain ⟨i,hi,e,_⟩ := kidL26_mem (show x ∈ kidL26 one a b _ from hx)
    subst e
    exact ⟨i64R_small (by show (-1000000000 : Int)≤i; omega) (by show (i : Int)≤1000000000; omega),h i⟩
theorem wfO_gop {one : T→T→E} {A B : List T} {N : Nat} (hN : N≤1000000) (lA : A.length≤1000000) (lB : B.length≤1000000) (hA : ∀ t,t ∈ A→wfT t) (hB : ∀ t,t ∈ B→wfT t) (h1 : ∀ x,x ∈ A→∀ y,y ∈ B→wfE (one x y)) {o : OP} (h : GOp one A B N o) : WfO o := by
  cases h with
  | keep n h => exact ⟨by simp [i64R],i64R_small (by show (-1000000000 : Int)≤n; omega) (by show (n : Int)≤1000000000; omega),by simp,by simp,wf_E026⟩
  | del l h g k => exact ⟨by simp [i64R],by simp [i64R],fun t ht => hA t (g t ht),by show l.length * 56≤_; omega,wf_E026⟩
  | ins l h g k => exact ⟨by simp [i64R],by simp [i64R],fun t ht => hB t (g t ht),by show l.length * 56≤_; omega,wf_E026⟩
  | desc x y hx hy => exact ⟨by simp [i64R],by simp [i64R],by simp,by simp,h1 x hx y hy⟩
theorem wf_rep26 {a b : T} (ha : wfT a) (hb : wfT b) : wfE (.mk 1 a b [] [] 0 []) := wfE_iff.2 ⟨by simp [i64R],by simp [i64R],ha,hb,by simp,by simp,by simp,by simp,by simp,by simp⟩
theorem wf_list26 {one : T→T→E} {most : Int} {a b : T} (wfa : wfT a) (ha : a.kids.length≤1000) (hb : b.kids.length≤1000) (wa : ∀ t,t ∈ a.kids→wfT t) (wb : ∀ t,t ∈ b.kids→wfT t) (h : ∀ x,x ∈ a.kids→∀ y,y ∈ b.kids→wfE (one x y)) : wfE (listE one most a b) := by
  have h1 := lstO_len one most a b
  rw [listE_eq]
  exact wfE_iff.2 ⟨by simp [i64R],(wfT_iff.1 wfa).k,wf_T026,wf_T026,by simp,by simp,by simp,by show (lstO one most a b).length * 240≤_; omega,by simp,fun x hx => wfO_gop (by omega) (by omega) (by omega) wa wb h (lstO_mem one most a b x hx)⟩
theorem wf_one26 (most : Int) : ∀ (f g : Nat) (a b : T),okT f a→okT g b→wfE (oneE most f a b)
  | 0,g,a,b,ha,hb => by
    rw [oneE]
    split
    · exact wf_E026
    · exact wf_rep26 (okT_facts ha).1 (okT_facts hb).1
  | f + 1,g,a,b,ha,hb => by
    obtain ⟨a1,a2,a3,a4⟩ := okT_facts ha
    obtain ⟨b1,b2,b3,b4⟩ := okT_facts hb
    rw [oneE]
    split
    · exact wf_E026
    · split
      · exact wf_str26 a3 b3 a4 b4 fun i => wf_one26 most f (g - 1) _ _ (okT_at ha i) (okT_at hb i)
      · split
        · exact wf_list26 a1 a4 b4 (fun t ht => (okT_facts (okT_kids ha t ht)).1) (fun t ht => (okT_facts (okT_kids hb t ht)).1) fun x hx y hy => wf_one26 most f (g - 1) x y (okT_kids ha x hx) (okT_kids hb y hy)
        · exact wf_rep26 a1 b1
theorem wrap_in26 (n : Int) : i64R (IntKind.i64.wrap n) := by
  rw [IntKind.wrap_i64]
  exact ⟨by omega,by omega⟩
theorem wfO_kp {out : List OP} {n : Int} (h : ∀ o,o ∈ out→WfO o) (hn : i64R n) : ∀ o,o ∈ kpO out n→WfO o := by
  unfold kpO
  split
  · rename_i m l e he
    intro o ho
    have hm := List.mem_of_getLast? he
    rcases List.mem_append.1 ho with ho | ho
    · exact h o (List.dropLast_subset _ ho)
    · rw [List.mem_singleton] at ho
      subst ho
      have := h _ hm
      exact ⟨this.k,wrap_in26 _,this.l,this.ll,this.e⟩
  · intro o ho
    rcases List.mem_append.1 ho with ho | ho
    · exact h o ho
    · rw [List.mem_singleton] at ho
      subst ho
      exact ⟨by simp [i64R],hn,by simp,by simp,wf_E026⟩
theorem wfO_fl {out : List OP} {g b : List T} (h : ∀ o,o ∈ out→WfO o) (hg : ∀ t,t ∈ g→wfT t) (hb : ∀ t,t ∈ b→wfT t) (lg : g.length≤1000000) (lb : b.length≤1000000) : ∀ o,o ∈ flO out g b→WfO o := by
  intro o ho
  unfold flO delO insO at ho
  rcases List.mem_append.1 ho with ho | ho
  · exact h o ho
  · rcases List.mem_append.1 ho with ho | ho
    · split at ho
      · simp at ho
      · rw [List.mem_singleton] at ho
        subst ho
        exact ⟨by simp [i64R],by simp [i64R],hg,by show g.length * 56≤_; omega,wf_E026⟩
    · split at ho
      · simp at ho
      · rw [List.mem_singleton] at ho
        subst ho
        exact ⟨by simp [i64R],by simp [i64R],hb,by show b.length * 56≤_; omega,wf_E026⟩
def WfS (o : OP) : Prop := i64R o.n∧(∀ t,t ∈ o.l→wfT t)∧(o.kind = 0∨o.kind = 1∨o.kind = 2∨o.kind = 3)∧(o.kind = 3→wfE o.e)
theorem opsW_wf (list : Int) : ∀ (os out : List OP) (g b : List T),(∀ o,o ∈ os→WfS o)→(∀ o,o ∈ out→WfO o)→(∀ t,t ∈ g→wfT t)→(∀ t,t ∈ b→wfT t)→g.length + b.length + sumO os≤1000000→∀ o,o ∈ opsW list os out g b→WfO o
  | [],out,g,b,h1,h2,h3,h4,h5 => by
    rw [opsW]
    exact wfO_fl h2 h3 h4 (by omega) (by omega)
  | x :: os,out,g,b,h1,h2,h3,h4,h5 => by
    rw [sumO_cons] at h5
    have hx := h1 x (by simp)
    have hos : ∀ o,o ∈ os→WfS o := fun o ho => h1 o (List.mem_cons_of_mem _ ho)
    have fl := wfO_fl h2 h3 h4 (by omega) (by omega)
    have nn : ∀ (l : List T),(∀ t,t ∈ l→wfT t)→∀ t,t ∈ l ++ x.l.map norm→wfT t := fun l hl t ht => by
      rcases List.mem_append.1 ht with ht | ht
      · exact hl t ht
      · obtain ⟨u,hu,rfl⟩ := List.mem_map.1 ht
        exact wf_norm _ (hx.2.1 u hu)
    have z : ∀ t : T,t ∈ ([] : List T)→wfT t := by simp
    rw [opsW]
    split
    · exact opsW_wf list os _ _ _ hos (wfO_kp fl hx.1) z z (by simp; omega)
    · split
      · exact opsW_wf list os _ _ _ hos h2 (nn g h3) h4 (by simp; omega)
      · split
        · exact opsW_wf list os _ _ _ hos h2 h3 (nn b h4) (by simp; omega)
        · split
          · exact opsW_wf list os _ _ _ hos (wfO_kp fl (by simp [i64R])) z z (by simp; omega)
          · refine opsW_wf list os _ _ _ hos (fun o ho => ?_) z z (by simp; omega)
            rcases List.mem_append.1 ho with ho | ho
            · exact fl o ho
            · rw [List.mem_singleton] at ho
              subst ho
              exact ⟨by simp [i64R],by simp [i64R],by simp,by simp,hx.2.2.2 (by have := hx.2.2.1; omega)⟩
theorem kpO_len (out : List OP) (n : Int) : (kpO out n).length≤out.length + 1 := by
  unfold kpO
  split
  · simp
    try omega
  · simp
theorem flO_len (out : List OP) (g b : List T) : (flO out g b).length≤out.length + 2 := by
  unfold flO delO insO
  split <;> split <;> simp
theorem opsW_len (list : Int) : ∀ (os out : List OP) (g b : List T),(opsW list os out g b).length≤out.length + 3 * os.length + 2
  | [],out,g,b => by
    rw [opsW]
    have := flO_len out g b
    simp; omega
  | x :: os,out,g,b => by
    have h1 := flO_len out g b
    have h2 := kpO_len (flO out g b)
    rw [opsW,List.length_cons]
    split
    · have := opsW_len list os (kpO (flO out g b) x.n) [] []
      have := h2 x.n
      omega
    · split
      · have := opsW_len list os out (g ++ x.l.map norm) b
        omega
      · split
        · have := opsW_len list os out g (b ++ x.l.map norm)
          omega
        · split
          · have := opsW_len list os (kpO (flO out g b) 1) [] []
            have := h2 1
            omega
          · have := opsW_len list os (flO out g b ++ [.mk 3 0 [] x.e]) [] []
            simp at this
            omega
theorem sumO_nOP (os : List OP) : sumO (os.map nOP) = sumO os := by
  unfold sumO
  rw [List.map_map]
  rfl
theorem wf_nEd : ∀ e : E,wfE e→nOk e→wfE (nEd e) := by
  refine E.ind fun k o n ws ks l os ihk iho hw h => ?_
  rw [nOk] at h
  obtain ⟨hk,hl,hon,hwl,hkl,hol,hsum,hks,hos⟩ := h
  have w := wfE_iff.1 hw
  rw [nEd_mk]
  split
  · exact wf_rep26 (wf_norm _ w.o) (wf_norm _ w.n)
  · split
    · rename_i h1 h2
      refine wfE_iff.2 ⟨by simp [i64R],by simp [i64R],wf_T026,wf_T026,w.w,w.wl,by show (ks.map nKE).length * 208≤_; simp; omega,by simp,fun x hx => ?_,by simp⟩
      obtain ⟨y,hy,rfl⟩ := List.mem_map.1 (show x ∈ ks.map nKE from hx)
      have := w.ks y hy
      exact ⟨this.1,ihk y hy this.2 (nOkK_all (hks h2) y hy)⟩
    · split
      · rename_i h1 h2 h3
        have hO : ∀ o,o ∈ os.map nOP→WfS o := fun o ho => by
          obtain ⟨y,hy,rfl⟩ := List.mem_map.1 ho
          have g1 := w.os y hy
          obtain ⟨g2,g3,g4⟩ := nOkO_all (hos h3) y hy
          exact ⟨g1.n,g3,g2,fun e => iho y hy g1.e (g4 e)⟩
        have hlen := opsW_len l (os.map nOP) [] [] []
        simp at hlen
        refine wfE_iff.2 ⟨by simp [i64R],w.l,wf_T026,wf_T026,by simp,by simp,by simp,by show (opsW l (os.map nOP) [] [] []).length * 240≤_; omega,by simp,fun x hx => opsW_wf l _ _ _ _ hO (by simp) (by simp) (by simp) (by rw [sumO_nOP]; simpa using hsum) x hx⟩
      · exact wf_E026
theorem wf_df {a b : T} (ha : wfT a) (hb : wfT b) (pa : partsT a≤1000) (pb : partsT b≤1000) {most : Int} : wfE (dfE most a b) := by
  have oa := okT_norm26 a ha pa 1000 pa
  have ob := okT_norm26 b hb pb 1000 pb
  exact wf_nEd _ (wf_one26 most 1000 1000 _ _ oa ob) (nOk_one most 1000 1000 _ _ oa ob)
end Go.Proofs.YtmeldaflhkiopaaGreat

namespace Go.Proofs.YtmeldaflhkiopaaGreat
set_option linter.unusedVariables false
set_option linter.unusedSimpArgs false
open Go Go.G Go.Proofs Go.PL
inductive Lk (R : T→T→Prop) : E→E→Prop
  | mk (k : Int) (o n o' n' : T) (ws : List WE) (ks ks' : List KE) (l : Int) (os os' : List OP) : R o o'→R n n'→ks.length = ks'.length →
    (∀ (i : Nat) (h : i < ks.length) (h' : i < ks'.length),ks[i].at_ = ks'[i].at_)→(∀ (i : Nat) (h : i < ks.length) (h' : i < ks'.length),Lk R ks[i].e ks'[i].e)→os.length = os'.length →
    (∀ (i : Nat) (h : i < os.length) (h' : i < os'.length),os[i].kind = os'[i].kind∧os[i].n = os'[i].n∧(os[i].l.length = os'[i].l.length∧∀ (j : Nat) (g : j < os[i].l.length) (g' : j < os'[i].l.length),R (os[i].l[j]) (os'[i].l[j]))) →
    (∀ (i : Nat) (h : i < os.length) (h' : i < os'.length),Lk R os[i].e os'[i].e) →
    Lk R (.mk k o n ws ks l os) (.mk k o' n' ws ks' l os')
theorem lk_refl {R : T→T→Prop} (h : ∀ t,R t t) : ∀ e,Lk R e e := by
  refine E.ind fun k o n ws ks l os ihk iho => ?_
  exact .mk _ _ _ _ _ _ _ _ _ _ _ (h o) (h n) rfl (fun i h1 _ => rfl) (fun i h1 _ => ihk _ (List.getElem_mem h1)) rfl (fun i h1 _ => ⟨rfl,rfl,⟨rfl,fun j _ _ => h _⟩⟩) (fun i h1 _ => iho _ (List.getElem_mem h1))
section
variable {n0 : Nat} {w0 : World} {I0 : Nat→Prop} {Q : Exit→Sta→Prop}
end
section
variable {n0 : Nat} {w0 : World} {I0 : Nat→Prop} {Q : Exit→Sta→Prop}
end
section
variable {n0 : Nat} {w0 : World} {I0 : Nat→Prop} {Q : Exit→Sta→Prop}
theorem smEd_t1 {a b : List T} {H : Hp} (hl : a.length = b.length) (hb : a.length * 56≤140737488355328) (h : ∀ (i : Nat) (h1 : i < a.length) (h2 : i < b.length),G.Spec Tryz.prog 19 [tX a[i],tX b[i]] (bv true)) (hq : ∀ i q,Q (.exit 0) ⟨lk [(0,tKs a),(1,tKs b),(5,iv i),(14,bv q)],H⟩) : ∀ (m i : Nat),i + m = a.length →
    LoopC (cx Tryz.prog w0 I0 n0) l1_centoref22_sameTrees Q ⟨lk [(0,tKs a),(1,tKs b),(5,nv i)],H⟩ := by
  intro m
  induction m with
  | zero =>
    intro i hi
    have : i = a.length := by omega
    subst this
    refine loopC_once mixed l1_centoref22_sameTrees.eq_1 ?_
    simp
    exact hq _ _
  | succ m ih =>
    intro i hi
    have hlt : i < a.length := by omega
    have hlt2 : i < b.length := by omega
    have ei : IntKind.i64.wrap ((i : Int) + 1) = ((i + 1 : Nat) : Int) := i64_same (by omega) (by omega)
    refine loopC_once mixed l1_centoref22_sameTrees.eq_1 ?_
    simp [hlt,hlt2]
    refine sc_call (h i hlt hlt2) (by simp) ?_
    simp [ei]
    exact ih (i + 1) (by omega)
end
theorem smEd_trees {a b : List T} (hl : a.length = b.length) (hb : a.length * 56≤140737488355328) (h : ∀ (i : Nat) (h1 : i < a.length) (h2 : i < b.length),G.Spec Tryz.prog 19 [tX a[i],tX b[i]] (bv true)) : G.Spec Tryz.prog 24 [tKs a,tKs b] (bv true) := by
  refine spec_of t_centoref22_sameTrees (by simp) fun w0 I0 => ?_
  unfold c_centoref22_sameTrees
  simp [hl]
  refine smEd_t1 hl hb h (fun i q => ?_) a.length 0 (by omega)
  simp
  exact frz_bare rfl
section
variable {n0 : Nat} {w0 : World} {I0 : Nat→Prop} {Q : Exit→Sta→Prop}
theorem smEd_l1 {e f : E} {H : Hp} (h0 : H [0] = ⟨1,.cells (eL e)⟩) (h1 : H [1] = ⟨1,.cells (eL f)⟩) (hw : e.words = f.words) (hb : e.words.length * 32≤140737488355328) (hq : ∀ i q,Q (.exit 0) ⟨lk [(2,.pob [0] 1 0),(3,.pob [1] 1 0),(5,iv i),(69,bv q)],H⟩) : ∀ (m i : Nat),i + m = e.words.length →
    LoopC (cx Tryz.prog w0 I0 n0) l1_centoref22_Same Q ⟨lk [(2,.pob [0] 1 0),(3,.pob [1] 1 0),(5,nv i)],H⟩ := by
  intro m
  induction m with
  | zero =>
    intro i hi
    have : i = e.words.length := by omega
    subst this
    refine loopC_once mixed l1_centoref22_Same.eq_1 ?_
    simp [h0,h1]
    exact hq _ _
  | succ m ih =>
    intro i hi
    have hlt : i < e.words.length := by omega
    have hlt2 : i < f.words.length := by rw [← hw]; omega
    have ei : IntKind.i64.wrap ((i : Int) + 1) = ((i + 1 : Nat) : Int) := i64_same (by omega) (by omega)
    have hx : e.words[i] = f.words[i] := by simp only [hw]
    refine loopC_once mixed l1_centoref22_Same.eq_1 ?_
    simp [hlt,hlt2,h0,h1,hx]
    simp [ei]
    exact ih (i + 1) (by omega)
theorem smEd_l2 {e f : E} {H : Hp} (h0 : H [0] = ⟨1,.cells (eL e)⟩) (h1 : H [1] = ⟨1,.cells (eL f)⟩) (hl : e.kids.length = f.kids.length) (hb : e.kids.length * 208≤140737488355328) (hk : ∀ (i : Nat) (g : i < e.kids.length) (g' : i < f.kids.length),e.kids[i].at_ = f.kids[i].at_∧G.Spec Tryz.prog 8 [eX e.kids[i].e,eX f.kids[i].e] (bv true)) (hq : ∀ i q,Q (.exit 2) ⟨lk [(2,.pob [0] 1 0),(3,.pob [1] 1 0),(6,iv i),(87,bv q)],H⟩) : ∀ (m i : Nat),i + m = e.kids.length →
    LoopC (cx Tryz.prog w0 I0 n0) l2_centoref22_Same Q ⟨lk [(2,.pob [0] 1 0),(3,.pob [1] 1 0),(6,nv i)],H⟩ := by
  intro m
  induction m with
  | zero =>
    intro i hi
    have : i = e.kids.length := by omega
    subst this
    refine loopC_once mixed l2_centoref22_Same.eq_1 ?_
    simp [h0,h1]
    exact hq _ _
  | succ m ih =>
    intro i hi
    have hlt : i < e.kids.length := by omega
    have hlt2 : i < f.kids.length := by omega
    have ei : IntKind.i64.wrap ((i : Int) + 1) = ((i + 1 : Nat) : Int) := i64_same (by omega) (by omega)
    obtain ⟨ha,hs⟩ := hk i hlt hlt2
    refine loopC_once mixed l2_centoref22_Same.eq_1 ?_
    simp [hlt,hlt2,h0,h1,ha]
    refine sc_call_gf rfl (fun _ => hs) (fun _ => rfl) (by simp) ?_
    simp [ei]
    exact ih (i + 1) (by omega)
theorem smEd_l3 {e f : E} (hl : e.ops.length = f.ops.length) (hb : e.ops.length * 240≤140737488355328) (hk : ∀ (i : Nat) (g : i < e.ops.length) (g' : i < f.ops.length),e.ops[i].kind = f.ops[i].kind∧e.ops[i].n = f.ops[i].n∧G.Spec Tryz.prog 24 [tKs e.ops[i].l,tKs f.ops[i].l] (bv true)∧G.Spec Tryz.prog 8 [eX e.ops[i].e,eX f.ops[i].e] (bv true)) (hq : ∀ H' i q,Q (.exit 4) ⟨lk [(2,.pob [0] 1 0),(3,.pob [1] 1 0),(7,iv i),(123,bv q)],H'⟩) : ∀ (m i : Nat) (H : Hp),i + m = e.ops.length→H [0] = ⟨1,.cells (eL e)⟩→H [1] = ⟨1,.cells (eL f)⟩ →
    LoopC (cx Tryz.prog w0 I0 n0) l3_centoref22_Same Q ⟨lk [(2,.pob [0] 1 0),(3,.pob [1] 1 0),(7,nv i)],H⟩ := by
  intro m
  induction m with
  | zero =>
    intro i H hi h0 h1
    have : i = e.ops.length := by omega
    subst this
    refine loopC_once mixed l3_centoref22_Same.eq_1 ?_
    simp [h0,h1]
    exact hq _ _ _
  | succ m ih =>
    intro i H hi h0 h1
    have hlt : i < e.ops.length := by omega
    have hlt2 : i < f.ops.length := by omega
    have ei : IntKind.i64.wrap ((i : Int) + 1) = ((i + 1 : Nat) : Int) := i64_same (by omega) (by omega)
    obtain ⟨ha,hn,ht,hs⟩ := hk i hlt hlt2
    refine loopC_once mixed l3_centoref22_Same.eq_1 ?_
    simp [hlt,hlt2,h0,h1,updF_app,ha,hn]
    refine sc_call_gf rfl (fun _ => ht) (fun _ => rfl) (by simp) ?_
    simp [updF_app]
    refine sc_call_gf rfl (fun _ => hs) (fun _ => rfl) (by simp) ?_
    simp [ei]
    exact ih (i + 1) _ (by omega) (by simp [updF_app,h0]) (by simp [updF_app,h1])
end
set_option maxRecDepth 10000 in
theorem smEd_spec {R : T→T→Prop} (hR : ∀ a b,wfT a→wfT b→R a b→G.Spec Tryz.prog 19 [tX a,tX b] (bv true)) : ∀ (e f : E),wfE e→wfE f→Lk R e f→G.Spec Tryz.prog 8 [eX e,eX f] (bv true) := by
  refine E.ind fun k o nn ws ks l os ihk iho f hw hwf hl => ?_
  cases hl with
  | mk _ _ _ o' n' _ _ ks' _ _ os' r1 r2 r3 r4 r4b r5 r6 r6b =>
    have h := wfE_iff.1 hw
    have g := wfE_iff.1 hwf
    have h1 := hR _ _ h.o g.o r1
    have h2 := hR _ _ h.n g.n r2
    simp only [E.old_mk,E.new_mk] at h1 h2
    refine spec_of t_centoref22_Same (by simp) fun w0 I0 => ?_
    unfold c_centoref22_Same
    simp
    refine sc_call_gf rfl (fun _ => h1) (fun _ => rfl) (by simp) ?_
    simp
    refine sc_call_gf rfl (fun _ => h2) (fun _ => rfl) (by simp) ?_
    simp [r3,r5]
    refine smEd_l1 (e := .mk k o nn ws ks l os) (f := .mk k o' n' ws ks' l os') (by simp) (by simp) rfl h.wl (fun i q => ?_) ws.length 0 (by simp)
    simp
    refine smEd_l2 (e := .mk k o nn ws ks l os) (f := .mk k o' n' ws ks' l os') (by simp) (by simp) r3 h.kl (fun i a b => ⟨r4 i a b,ihk _ (List.getElem_mem a) _ (h.ks _ (List.getElem_mem a)).2 (g.ks _ (List.getElem_mem b)).2 (r4b i a b)⟩) (fun i q => ?_) ks.length 0 (by simp)
    simp
    refine smEd_l3 (e := .mk k o nn ws ks l os) (f := .mk k o' n' ws ks' l os') r5 h.ol (fun i a b => ?_) (fun H' i q => ?_) os.length 0 _ (by simp) (by simp) (by simp)
    · obtain ⟨q1,q2,q3,q4⟩ := r6 i a b
      have q5 := r6b i a b
      have ha := h.os _ (List.getElem_mem a)
      have hb := g.os _ (List.getElem_mem b)
      exact ⟨q1,q2,smEd_trees q3 ha.ll (fun j g1 g2 => hR _ _ (ha.l _ (List.getElem_mem g1)) (hb.l _ (List.getElem_mem g2)) (q4 j g1 g2)),iho _ (List.getElem_mem a) _ ha.e hb.e q5⟩
    · simp
      exact frz_bare rfl
end Go.Proofs.YtmeldaflhkiopaaGreat

namespace Go.Proofs.YtmeldaflhkiopaaGreat
set_option linter.unusedVariables false
set_option linter.unusedSimpArgs false
open Go Go.G Go.Proofs Go.PL
def at26R (x : Int) : A := .agg [iv 10,.sl true [uv x],.sl true []]
@[simp] theorem at26R_cells (x : Int) : (at26R x).cells = [iv 10,.sl true [uv x],.sl true []] := rfl
theorem lens_at26 {l : List Int} : lens 3 (l.map at26R) = true := by rw [lens_all]; simp
section
variable {n0 : Nat} {w0 : World} {I0 : Nat→Prop} {Q : Exit→Sta→Prop}
theorem aw26_l1 {l : List Int} (hl : l.length≤1000) (hq : ∀ (H' : Hp) (v : Nat) (st : List (Nat × A)),H' [0] = ⟨1,.cells [iv 0,.sl true [],.sl true []]⟩→H' [1] = ⟨1,.cells [iv 4,.sl true [],.osl [2] v 3 0 l.length]⟩→H' [2] = ⟨v,.arr 3 (l.map at26R)⟩→Q (.exit 0) ⟨lk ([(0,uws l),(2,.pob [0] 1 0),(3,.pob [1] 1 0)] ++ st),H'⟩) :
    ∀ (m i v : Nat) (H : Hp),i + m = l.length→H [0] = ⟨1,.cells [iv 0,.sl true [],.sl true []]⟩→H [1] = ⟨1,.cells [iv 4,.sl true [],.osl [2] v 3 0 i]⟩→H [2] = ⟨v,.arr 3 ((l.take i).map at26R)⟩ →
    LoopC (cx Tryz.prog w0 I0 n0) l1_centolaw26_awake_1 Q ⟨lk [(0,uws l),(2,.pob [0] 1 0),(3,.pob [1] 1 0),(4,iv i)],H⟩ := by
  intro m
  induction m with
  | zero =>
    intro i v H hm h0 h1 h2
    have : i = l.length := by omega
    subst this
    rw [List.take_of_length_le (Nat.le_refl _)] at h2
    refine loopC_once mixed l1_centolaw26_awake_1.eq_1 ?_
    simp
    have := hq H v [(4,iv l.length),(9,bv false)] h0 h1 h2
    simpa using this
  | succ m ih =>
    intro i v H hm h0 h1 h2
    have hlt : i < l.length := by omega
    have ew : IntKind.i64.wrap ((i : Int) + 1) = ((i + 1 : Nat) : Int) := by rw [i64_same (by omega) (by omega)]; omega
    have htk : l.take (i + 1) = l.take i ++ [l[i]] := List.take_succ_eq_append_getElem hlt
    have next := ih (i + 1) (v + 1)
    rw [htk,List.map_append] at next
    refine loopC_once mixed l1_centolaw26_awake_1.eq_1 ?_
    simp [hlt,h1,h2,ew,updF_app,lens_at26]
    refine ⟨by omega,?_⟩
    refine next _ (by omega) (by simp [updF_app,h0]) (by simp [updF_app]) ?_
    rw [List.take_of_length_le (by simp; omega)]
    simp [updF_app,at26R]
end
theorem aw26_one {l : List Int} (hl : l.length≤1000) : G.Spec Tryz.prog 23 [uws l] (tX (ls26 l)) := by
  refine spec_of t_centolaw26_awake_1 (by simp) fun w0 I0 => ?_
  unfold c_centolaw26_awake_1
  simp
  refine LoopC.le (le_blankC (d := [1]) (u := 1) 2 [2] 3 (by simp [updF_app]; rfl) rfl (by simp)) ?_
  refine LoopC.le (le_list [(0,uws l),(2,.pob [0] 1 0),(3,.pob [1] 1 0),(4,iv (0 : Nat))] (by simp [upd])) ?_
  refine aw26_l1 hl (fun H' v st h0 h1 h2 => ?_) l.length 0 1 _ (by omega) (by simp [updF_app]) (by simp [updF_app]) (by simp [updF_app])
  simp [h0,h1]
  refine frz_agg ⟨frz_bare rfl,frz_sl,?_,trivial⟩
  have := frz_rowF (H := updF H' [0] ⟨1,.cells [iv 4,.sl true [],.osl [2] v 3 0 l.length]⟩) (o := [2]) (u := v) (n := l.length) (sz := 3) (l := l) (f := at26R) (g := fun x => tA (at26 x)) (by simp [updF_app,h2]) rfl (fun x _ => by simp [A.soft,A.softL])
  show Frz _ _ (.sl false ((l.map at26).map tA))
  rw [List.map_map]
  exact this
theorem awake26_spec : G.Spec Tryz.prog 7 [] (bv true) := by
  have wf1 : ∀ x : Int,0≤x→x < 100→wfT (at26 x) := fun x h1 h2 => wfT_iff.2 ⟨by simp [i64R],by simp [u64R]; omega,by simp,by simp,by simp⟩
  have w1 : wfT (ls26 [1,2,3]) := wfT_iff.2 ⟨by simp [i64R],by simp,by simp,by simp,by simp [wf1]⟩
  have w2 : wfT (ls26 [1,9,3]) := wfT_iff.2 ⟨by simp [i64R],by simp,by simp,by simp,by simp [wf1]⟩
  have T := pTrees_spec w1 w2 (by simp) (by simp) (most := 9) (by simp [i64R])
  rw [df_26] at T
  refine spec_of t_centolaw26_awake (by simp) fun w0 I0 => ?_
  unfold c_centolaw26_awake
  simp
  refine sc_callv rfl ((aw26_one (l := [1,2,3]) (by simp)).soft (by simp [A.softL,A.soft])) (by simp) ?_
  simp
  refine sc_callv rfl ((aw26_one (l := [1,9,3]) (by simp)).soft (by simp [A.softL,A.soft])) (by simp) ?_
  simp
  refine sc_call T (by simp) ?_
  simp
  exact frz_is rfl (by simp)
theorem same26_spec {e : E} (h : wfE e) : G.Spec Tryz.prog 8 [eX e,eX e] (bv true) := by
  refine smEd_spec (R := fun a b => a = b) (fun a b ha hb e => ?_) e e h h (lk_refl (fun _ => rfl) e)
  subst e
  have := rTSame_spec a ha a
  rwa [show sameB a a = true from sameB_iff.2 rfl] at this
theorem DiffFinds_spec {a b : T} (ha : wfT a) (hb : wfT b) {most : Int} (hm : i64R most) : G.Spec Tryz.prog 3 [tX a,tX b,iv most] (bv true) := by
  refine spec_of t_centolaw26_DiffFinds (by simp) fun w0 I0 => ?_
  unfold c_centolaw26_DiffFinds
  simp
  refine sc_call (good26_spec ha) (by simp) ?_
  cases h1 : good26 a with
  | false =>
    simp
    refine sc_call_off rfl ?_
    simp
    refine sc_call awake26_spec (by simp) ?_
    simp
    exact frz_bare rfl
  | true =>
    simp
    refine sc_call_gf rfl (fun _ => good26_spec hb) (fun _ => by simp) (by simp) ?_
    cases h2 : good26 b with
    | false =>
      simp
      refine sc_call awake26_spec (by simp) ?_
      simp
      exact frz_bare rfl
    | true =>
      have pa := good26_parts h1
      have pb := good26_parts h2
      simp
      refine sc_call (pTrees_spec ha hb (by omega) (by omega) hm) (by simp) ?_
      simp
      refine sc_call (rTrees_spec ha hb (by omega) (by omega) hm) (by simp) ?_
      simp
      refine sc_call (same26_spec (wf_df ha hb (by omega) (by omega))) (by simp) ?_
      simp
      refine sc_call_gt rfl (fun _ => awake26_spec) (fun _ => rfl) rfl ?_
      simp
      exact frz_bare rfl
end Go.Proofs.YtmeldaflhkiopaaGreat

namespace Go.Proofs.YtmeldaflhkiopaaGreat
set_option linter.unusedVariables false
set_option linter.unusedSimpArgs false
open Go Go.G Go.Proofs Go.PL Go.RowKit
theorem lit_i64 {m : Int} (h : (Lit.int .i64 m).wf = true) : i64R m := by
  simp [Lit.wf,IntKind.min,IntKind.max,IntKind.bits,IntKind.signed] at h
  unfold i64R; omega
theorem lit_u64 {m : Int} (h : (Lit.int .u64 m).wf = true) : u64R m := by
  simp [Lit.wf,IntKind.min,IntKind.max,IntKind.bits,IntKind.signed] at h
  unfold u64R; omega
theorem und_int' : Tryz.prog.underlying 3 = some (.int .i64) := by kernel_rfl
theorem und_u64' : Tryz.prog.underlying 36 = some (.int .u64) := by kernel_rfl
theorem hasI {n : Nat} {b : List A} (h : Has Tryz.prog n 3 b) : ∃ m,i64R m∧b = [iv m] := by
  cases n with
  | zero => exact h.elim
  | succ n =>
    unfold Has at h
    rw [und_int'] at h
    obtain ⟨m,hm,rfl⟩ := h
    exact ⟨m,lit_i64 hm,rfl⟩
theorem hasU {n : Nat} {b : List A} (h : Has Tryz.prog n 36 b) : ∃ m,u64R m∧b = [uv m] := by
  cases n with
  | zero => exact h.elim
  | succ n =>
    unfold Has at h
    rw [und_u64'] at h
    obtain ⟨m,hm,rfl⟩ := h
    exact ⟨m,lit_u64 hm,rfl⟩
theorem rowOf {α : Type} {xs : List A} {g : α→A} {R : α→Prop} (h : ∀ x,x ∈ xs→∃ y,R y∧x.soft = g y) : ∃ l : List α,A.softL xs = l.map g∧l.length = xs.length∧∀ y,y ∈ l→R y := by
  induction xs with
  | nil => exact ⟨[],rfl,rfl,fun y h => nomatch h⟩
  | cons x xs ih =>
    obtain ⟨y,hy,e⟩ := h x (by simp)
    obtain ⟨l,e2,e3,hl⟩ := ih fun z hz => h z (by simp [hz])
    refine ⟨y :: l,by simp [A.softL,e,e2],by simp [e3],fun z hz => ?_⟩
    rcases List.mem_cons.1 hz with rfl | hz
    · exact hy
    · exact hl z hz
theorem hasSl {P : Program} {t e : TypeId} {m : Nat} (u : P.underlying t = some (.slice e)) (hb : P.bytesOf e = m) {n : Nat} {b : List A} (h : Has P n t b) {α : Type} {g : α→A} {R : α→Prop} (hx : ∀ k b,k < n→Has P k e b→∃ y,R y∧(mk P e b).soft = g y) :
    ∃ (f : Bool) (xs : List A) (l : List α),b = [.sl f xs]∧A.softL xs = l.map g∧l.length * m≤140737488355328∧∀ y,y ∈ l→R y := by
  cases n with
  | zero => exact h.elim
  | succ n =>
    unfold Has at h
    rw [u] at h
    obtain ⟨f,xs,rfl,_,hz,hf,hx'⟩ := h
    rw [hb] at hz
    obtain ⟨l,e1,e2,hl⟩ := rowOf (g := g) (R := R) (xs := xs) fun x hxx => by
      obtain ⟨b,hb',rfl⟩ := hx' x hxx
      exact hx n b (by omega) hb'
    exact ⟨f,xs,l,rfl,e1,by rw [e2]; exact Nat.le_trans hz (by decide),hl⟩
theorem mk_int (b : List A) : mk Tryz.prog 3 b = b.headD .any := by unfold mk; rw [und_int']
theorem mk_u64 (b : List A) : mk Tryz.prog 36 b = b.headD .any := by unfold mk; rw [und_u64']
theorem hasWs {n : Nat} {b : List A} (h : Has Tryz.prog n 22 b) : ∃ (f : Bool) (xs : List A) (l : List Int),b = [.sl f xs]∧A.softL xs = l.map uv∧l.length * 8≤140737488355328∧∀ y,y ∈ l→u64R y :=
  hasSl (e := 36) (by kernel_rfl) (by kernel_rfl) h fun k b _ hb => by
    obtain ⟨m,h1,rfl⟩ := hasU hb
    exact ⟨m,h1,by rw [mk_u64]; rfl⟩
theorem und_tree : Tryz.prog.underlying 25 = some (.struct (Tryz.prog.fieldsOf 25)) := by kernel_rfl
theorem fld_tree : (Tryz.prog.fieldsOf 25).toList.map Field.type = [3,22,23] := by kernel_rfl
theorem mk_tree (b : List A) : mk Tryz.prog 25 b = .agg b := by unfold mk; rw [und_tree]
theorem hasTree : ∀ (n : Nat) (b : List A),Has Tryz.prog n 25 b→∃ t,wfT t∧A.softL b = [iv t.kind,uws t.words,tKs t.kids] := by
  intro n
  induction n using Nat.strongRecOn with
  | ind n ih =>
    intro b h
    cases n with
    | zero => exact h.elim
    | succ n =>
      unfold Has at h
      rw [und_tree] at h
      simp only at h
      rw [hasL_types,fld_tree] at h
      obtain ⟨_,_,rfl,h1,_,_,rfl,h2,_,_,rfl,h3,rfl⟩ := h
      obtain ⟨k,hk,rfl⟩ := hasI h1
      obtain ⟨f,xs,w,rfl,e2,l2,r2⟩ := hasWs h2
      obtain ⟨f3,ys,l,rfl,e3,l3,r3⟩ := hasSl (m := 56) (e := 25) (g := tA) (R := wfT) (by kernel_rfl) (by kernel_rfl) h3 fun j b hj hb => by
        obtain ⟨t,ht,e⟩ := ih j (by omega) b hb
        exact ⟨t,ht,by rw [mk_tree]; simp only [A.soft,e]; rw [tA_eq]⟩
      refine ⟨.mk k w l,wfT_iff.2 ⟨hk,r2,l2,l3,r3⟩,?_⟩
      simp only [List.cons_append,List.nil_append,List.append_nil,A.softL,A.soft,e2,e3]
      rfl
end Go.Proofs.YtmeldaflhkiopaaGreat

namespace Go.Proofs.YtmeldaflhkiopaaGreat
set_option linter.unusedVariables false
set_option linter.unusedSimpArgs false
open Go Go.G Go.Proofs Go.PL Go.RowKit
set_option maxRecDepth 100000 in
theorem said_diffFinds (xs : List A) (h : ArgsHas Tryz.prog Tryz.f3.params.toList xs) : G.Spec Tryz.prog 3 xs (.v (.bool true)) := by
  have h : ArgsHas Tryz.prog [25,25,3] xs := h
  match xs,h with
  | [a,a2,a3],⟨⟨n,b,h1,h2⟩,⟨n2,b2,h12,h22⟩,⟨n3,b3,h13,h23⟩,_⟩ =>
    obtain ⟨t,ht,et⟩ := hasTree _ _ h1
    obtain ⟨t2,ht2,et2⟩ := hasTree _ _ h12
    obtain ⟨m,hm,rfl⟩ := hasI h13
    rw [h2,mk_tree,h22,mk_tree,h23,mk_int]
    exact (DiffFinds_spec ht ht2 hm).soft (by simp only [A.softL,A.soft,et,et2]; rfl)
end Go.Proofs.YtmeldaflhkiopaaGreat
