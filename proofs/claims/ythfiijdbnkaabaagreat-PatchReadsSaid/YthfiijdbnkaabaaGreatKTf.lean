/-
  Texts, merged, without what is not reached.
-/
import Derived.Test.YthfiijdbnkaabaaGreatKTe
namespace Go.Proofs.YthfiijdbnkaabaaGreat
set_option linter.unusedVariables false
set_option linter.unusedSimpArgs false
open Go Go.G Go.Proofs Go.PL
def cnOk (most : Int) (t : T) : Bool := rightT 64 t && !decide (t.kind = 10) && decide (sizeT (norm t) < most) && decide (sizeT (norm t) < 131072)
def cnW (most : Int) (t : T) : List Int := if cnOk most t = true then layT (norm t) 0 [0] else []
theorem cnEnc_spec {t : T} (hw : wfT t) (most : Int) (hsz : rightT 64 t = true→t.kind ≠ 10→sizeT (norm t) < 9223372036854775808) :
    G.Spec Tryz.prog 30 [tX t,iv most] (.tup [uws (cnW most t),bv (cnOk most t)]) := by
  refine spec_of t_canon_Encode (by simp) fun w0 I0 => ?_
  unfold c_canon_Encode
  have no : cnOk most t = false→cnW most t = [] := fun h => by simp [cnW,h]
  simp
  refine sc_call (ptRight_spec hw) rfl ?_
  by_cases hr : rightT 64 t = true
  · by_cases h10 : t.kind = 10
    · have hf : cnOk most t = false := by simp [cnOk,h10]
      rw [no hf,hf]
      simp [hr,h10]
      exact frz_tup (by simp; exact ⟨frz_sl,frz_bare rfl⟩)
    · have hlay := laid_right t 64 hr hw h10
      have h0 := (size_nonneg (norm t)).1 hlay
      have h1 := hsz hr h10
      have hS := tSize_spec (norm t) (wf_norm t hw)
      rw [norm_norm,size_norm t 64 hr] at hS
      have hsame : i64w (sizeT (norm t)) = sizeT (norm t) := i64_same (by omega) (by omega)
      rw [hsame] at hS
      simp [hr,h10]
      refine sc_call (tNorm_spec t hw) rfl ?_
      simp
      refine sc_calle (L := [tX (norm t)]) (by simp) hS rfl ?_
      generalize hN : norm t = N at *
      have hNk : N.kind = t.kind := by rw [← hN]; simp
      by_cases hm : cnOk most t = true
      · have hW : cnW most t = layT N 0 [0] := by simp [cnW,hm,hN]
        rw [hW,hm]
        simp [cnOk,hN] at hm
        obtain ⟨⟨_,m1⟩,m2⟩ := hm
        have n1 : ¬ most≤sizeT N := by omega
        have n2 : ¬ 131072≤sizeT N := by omega
        simp [n1,n2]
        refine stop_le (le_blankC (d := [1]) 0 [1,0] 1 rfl rfl (by simp)) (stop_go ?_)
        have hG := wGive_spec ⟨1,[]⟩ (by simp) 1 (by omega)
        obtain ⟨v',q4⟩ := (wTree_spec N).1 hlay ⟨2,[0]⟩ 0 (by simp) (by simp; omega)
        have hF : ∀ H : Hp,H [1] = ⟨1,.cells [.osl [1,0] 1 1 0 0]⟩→H [1,0] = ⟨1,.arr 1 []⟩→(∀ p,p ≠ []→p ≠ [0]→H (1 :: p) = ⟨0,.none⟩)→∀ p,H (1 :: p) = (wrM ⟨1,[]⟩).F 1 p := fun H h1 h2 h3 p => by
          by_cases p0 : p = []
          · subst p0; rw [h1]; simp
          · by_cases p1 : p = [0]
            · subst p1; rw [h2]; simp
            · rw [h3 p p0 p1]
              match p,p0,p1 with
              | [],h,_ => exact absurd rfl h
              | [0],_,h => exact absurd rfl h
              | 0 :: a :: q,_,_ => rfl
              | (a + 1) :: q,_,_ => rfl
        simp [updF_app]
        refine sc_fam 1 hG (hF _ (by simp [updF_app]) (by simp [updF_app]) (fun p h1 h2 => by simp [updF_app,Ne.symm h1,h1,h2,Ne.symm h2])) (by simp) (by simp) ?_
        simp [updF_app]
        refine ⟨by decide,?_⟩
        refine sc_fam 1 q4 (fun p => by simp [updF_app]) (by simp [hNk]) (by simp) ?_
        simp
        refine frz_tup ?_
        simp
        exact ⟨frz_row (f := uv) (by simp) rfl (fun x => by simp),frz_bare rfl⟩
      · have hf : cnOk most t = false := by simpa using hm
        rw [no hf,hf]
        simp [cnOk,hN,hr,h10] at hm
        by_cases n1 : most≤sizeT N
        · simp [n1]
          exact frz_tup (by simp; exact ⟨frz_sl,frz_bare rfl⟩)
        · have n2 : 131072≤sizeT N := by omega
          simp [n1,n2]
          exact frz_tup (by simp; exact ⟨frz_sl,frz_bare rfl⟩)
  · have hf : cnOk most t = false := by simp [cnOk,hr]
    rw [no hf,hf]
    simp at hr
    simp [hr]
    exact frz_tup (by simp; exact ⟨frz_sl,frz_bare rfl⟩)
end Go.Proofs.YthfiijdbnkaabaaGreat

namespace Go.Proofs.YthfiijdbnkaabaaGreat
set_option linter.unusedVariables false
set_option linter.unusedSimpArgs false
open Go Go.G Go.Proofs Go.PL
theorem loopM_data {l : List (List Int)} {r : Rf} (hr : RfOk l r) (hd : isData r.kind = true) : ∀ (m i : Nat) (acc : List T) (left : Int),((i + m : Nat) : Int) = nk r→(loopM (stepM l (leafM l) r) m i acc left).2 = (left,0)
  | 0,i,acc,left,h => rfl
  | m + 1,i,acc,left,h => by
    have hk : (kidP l r i).2 = 0 := by
      cases hr with
      | dat c s a n c0 c6 n0 n1 hh =>
        have hn : nk ⟨2 + c,s,a,0,0,n,0⟩ = n := by simp only [nk]; rw [if_neg (by omega)]
        rw [hn] at h
        rw [kidP_data (by omega) (by omega) (by omega) (by omega) (by omega)]
      | _ => simp [isData,Rf.zero] at hd
    have hst : stepM l (leafM l) r i left = leafM l (kidP l r i).1 left := by simp [stepM,hk]
    rw [loopM,hst,if_neg (by simp [leafM])]
    exact loopM_data hr hd m (i + 1) _ _ (by omega)
def mtM (u B : Int) : Fam := ⟨fun _ p => if p = [] then ⟨1,.cells [iv u,iv B]⟩ else ⟨0,.none⟩,fun {g δ r r'} hg hd p => by
    by_cases hp : p = []
    · rw [if_pos hp]
      exact Fam.cells_ren (by simp [A.renL,A.ren])
    · rw [if_neg hp]; rfl,fun {D r} hD p => by
    by_cases hp : p = []
    · rw [if_pos hp]
      simp [Ob.refs,A.refsL,A.refs]
    · rw [if_neg hp]; trivial⟩
@[simp] theorem mtM_F {u B : Int} {r : Nat} {p : Nm} : (mtM u B).F r p = if p = [] then ⟨1,.cells [iv u,iv B]⟩ else ⟨0,.none⟩ := rfl
theorem vSpend_spec {u B n : Int} (u0 : 0≤u) (u1 : u≤B) (B1 : B≤1000000) (n0 : 0≤n) (n1 : n≤100000000000000) : SpecF Tryz.prog 103 (fun q => [.pob [q] 1 0,iv n]) (mtM u B) (fun _ => bv (decide (n≤B - u))) (mtM (if n≤B - u then u + n else u) B) := by
  refine specF_of t_valid_meter_spend (by simp) (famL_cons famA_pob (famL_cons famA_v famL_nil)) famA_v fun w0 I0 M0 m0 => ?_
  unfold c_valid_meter_spend
  have e1 : IntKind.i64.wrap (B - u) = B - u := i64_same (by omega) (by omega)
  by_cases h : n≤B - u
  · have h' : ¬ B - u < n := by omega
    have e2 : IntKind.i64.wrap (u + n) = u + n := i64_same (by omega) (by omega)
    simp [e1,h',h,e2]
    refine reth_fam rfl rfl (fun p => ?_)
    by_cases hp : p = []
    · subst hp; simp [updF_app]
    · simp [updF_app,hp]
  · have h' : B - u < n := by omega
    simp [e1,h',h]
    exact reth_fam rfl rfl (fun p => by simp)
theorem vFrame_spec (l : List (List Int)) (r : Rf) : G.Spec Tryz.prog 138 [paX l r] (.tup [iv (if r.kind = 9 then r.data else 0),iv (if r.kind = 9 then r.kids else 0)]) := by
  refine spec_of t_reader_Ref_Frame (by simp) fun w0 I0 => ?_
  unfold c_reader_Ref_Frame
  by_cases h : r.kind = 9
  · simp [h]
    exact frz_bare rfl
  · simp [h]
    exact frz_bare rfl
theorem vOwn_spec {l : List (List Int)} {r : Rf} (hr : RfOk l r) : G.Spec Tryz.prog 104 [paX l r] (iv (costM r)) := by
  have hc := costM_pos hr
  refine spec_of t_valid_own (by simp) fun w0 I0 => ?_
  unfold c_valid_own
  simp
  refine sc_call (refKind_spec l r) (by simp) ?_
  by_cases h1 : r.kind = 1
  · have hd : 0≤r.data∧r.data < 65536∧0≤r.kids∧r.kids < 65536 := by cases hr <;> simp [Rf.zero] at h1 ⊢ <;> omega
    have e1 : IntKind.i64.wrap (1 + r.data) = 1 + r.data := i64_same (by omega) (by omega)
    have e2 : IntKind.i64.wrap (1 + r.data + r.kids) = 1 + r.data + r.kids := i64_same (by omega) (by omega)
    have hw : nwR r = r.data := by simp [nwR,h1]
    have hn : nk r = r.kids := by simp [nk,h1]
    have hcc : costM r = 1 + r.data + r.kids := by simp [costM,h1]
    rw [hcc]
    simp [h1]
    refine sc_calle (L := [paX l r]) (by simp [h1]) (refWords_spec' l r) (by simp) ?_
    rw [hw]
    simp [e1]
    refine sc_calle (L := [paX l r]) (by simp [h1]) (refKids_spec' l r) (by simp) ?_
    rw [hn]
    simp [e1,e2]
    exact frz_bare rfl
  · simp [h1]
    refine sc_call (refKind_spec l r) (by simp) ?_
    by_cases h9 : r.kind = 9
    · have hd : 0≤r.data∧r.data < 65536∧0≤r.kids∧r.kids < 65536∧0≤r.count∧r.count < 536870912 := by
        cases hr <;> simp [Rf.zero] at h9 ⊢ <;> omega
      have hn : nk r = r.count := by simp [nk,h1]
      have hcc : costM r = 1 + r.count * (1 + r.data + r.kids) := by simp [costM,h9]
      rw [hcc] at hc ⊢
      have e1 : IntKind.i64.wrap (1 + r.data) = 1 + r.data := i64_same (by omega) (by omega)
      have e2 : IntKind.i64.wrap (1 + r.data + r.kids) = 1 + r.data + r.kids := i64_same (by omega) (by omega)
      have e3 : IntKind.i64.wrap (r.count * (1 + r.data + r.kids)) = r.count * (1 + r.data + r.kids) := i64_same (by omega) (by omega)
      have e4 : IntKind.i64.wrap (1 + r.count * (1 + r.data + r.kids)) = 1 + r.count * (1 + r.data + r.kids) := i64_same (by omega) (by omega)
      simp [h9]
      refine sc_calle (L := [paX l r]) (by simp [h9]) (vFrame_spec l r) (by simp) ?_
      simp [h9]
      refine sc_calle (L := [paX l r]) (by simp [h9]) (refKids_spec' l r) (by simp) ?_
      rw [hn]
      simp [e1,e2,e3,e4]
      exact frz_bare rfl
    · have hcc : costM r = 1 + nk r := by simp [costM,h9,h1]
      rw [hcc] at hc ⊢
      have e1 : IntKind.i64.wrap (1 + nk r) = 1 + nk r := i64_same (by omega) (by omega)
      simp [h9]
      refine sc_call (refKids_spec' l r) (by simp) ?_
      simp [e1]
      exact frz_bare rfl
def UV (B : Int) (x : T × Int × Int) (u : Int) : Prop := x.2.2 = 0→u = B - x.2.1
theorem faP (l : List (List Int)) (r : Rf) (d : Int) : FamL (fun q => [.pob [q] 1 0,paX l r,iv d]) := famL_cons famA_pob (famL_cons (famA_pa l r) (famL_cons famA_v famL_nil))
theorem faP2 (l : List (List Int)) (r : Rf) (i d : Int) : FamL (fun q => [.pob [q] 1 0,paX l r,iv i,iv d]) := famL_cons famA_pob (famL_cons (famA_pa l r) (famL_cons famA_v (famL_cons famA_v famL_nil)))
def RV (l : List (List Int)) (B : Int) (d : Int) (rec : Rf→Int→T × Int × Int) : Prop := ∀ r,RfOk l r→∀ left : Int,0≤left→left≤B →
  ∃ u : Int,UV B (rec r left) u∧SpecF Tryz.prog 65 (fun q => [.pob [q] 1 0,paX l r,iv d]) (mtM (B - left) B) (fun _ => iv (rec r left).2.2) (mtM u B)
def KV (l : List (List Int)) (B : Int) (d : Int) (r : Rf) (i : Nat) (f : Nat→Int→T × Int × Int) : Prop := ∀ left : Int,0≤left→left≤B →
  ∃ u : Int,UV B (f i left) u∧SpecF Tryz.prog 106 (fun q => [.pob [q] 1 0,paX l r,nv i,iv d]) (mtM (B - left) B) (fun _ => iv (f i left).2.2) (mtM u B)
theorem vKid_spec {l : List (List Int)} (hs : Sg l) {B d : Int} {rec : Rf→Int→T × Int × Int} (hrec : RV l B d rec) {r : Rf} (hr : RfOk l r) (h9 : r.kind ≠ 9) (i : Nat) : KV l B d r i (stepM l rec r) := fun left l0 l1 => by
  unfold stepM
  by_cases he : (kidP l r i).2 = 0
  · obtain ⟨u,hu,hw⟩ := hrec _ (kid_ok hs.w hr i) left l0 l1
    rw [if_neg (by simpa using he)]
    refine ⟨u,hu,?_⟩
    refine specF_of t_valid_meter_kid (by simp) (faP2 l r i d) famA_v fun w0 I0 M0 m0 => ?_
    unfold c_valid_meter_kid
    simp
    refine sc_call (kid_spec hs hr i) (by simp) ?_
    simp [he]
    refine sc_call (refKind_spec l r) (by simp) ?_
    simp [h9]
    refine sc_fam 0 hw (fun p => by simp [updF_app]) (by simp) (by simp) ?_
    simp
    exact reth_fam rfl rfl (fun p => by simp)
  · rw [if_pos he]
    refine ⟨B - left,fun h => absurd h he,?_⟩
    refine specF_of t_valid_meter_kid (by simp) (faP2 l r i d) famA_v fun w0 I0 M0 m0 => ?_
    unfold c_valid_meter_kid
    simp
    refine sc_call (kid_spec hs hr i) (by simp) ?_
    simp [he]
    exact reth_fam rfl rfl (fun p => by simp)
theorem loopM_step {f : Nat→Int→T × Int × Int} {m i : Nat} {acc : List T} {left : Int} : loopM f (m + 1) i acc left = if (f i left).2.2 ≠ 0 then (acc,(f i left).2.1,(f i left).2.2) else loopM f m (i + 1) (acc ++ [(f i left).1]) (f i left).2.1 := by rw [loopM]
theorem vkid_l1 {l : List (List Int)} {B d : Int} {k : Rf} {n : Nat} (hn : n≤1000000000) {f : Nat→Int→T × Int × Int} (hf : ∀ i,i < n→KV l B d k i f) (hlb : ∀ i left,0≤left→left≤B→0≤(f i left).2.1∧(f i left).2.1≤B) : ∀ (m i : Nat) (acc : List T) (left : Int),i + m = n→0≤left→left≤B →
    ∃ u : Int,((loopM f m i acc left).2.2 = 0→u = B - (loopM f m i acc left).2.1) ∧
      ∀ {n0 : Nat} {w0 : World} {I0 : Nat→Prop} {M0 : Nm→Nat→Prop} {m0 : Mu} {Q : Exit→Sta→Prop} (H : Hp),(∀ p,H (0 :: p) = (mtM (B - left) B).F 0 p)→H [2] = ⟨1,.cells (paL l k)⟩ →
      ((loopM f m i acc left).2.2 = 0→∀ q H',(∀ p,H' (0 :: p) = (mtM u B).F 0 p)→Q (.exit 0) ⟨lk [(0,.pob [0] 1 0),(3,iv d),(9,.pob [2] 1 0),(30,nv n),(31,nv n),(32,bv q)],H'⟩) →
      ((loopM f m i acc left).2.2 ≠ 0→∀ H',(∀ p,H' (0 :: p) = (mtM u B).F 0 p)→Q .ret ⟨lk [(8,iv (loopM f m i acc left).2.2)],H'⟩) →
      LoopC (cxh Tryz.prog w0 I0 M0 n0 m0) l1_valid_meter_kid Q ⟨lk [(0,.pob [0] 1 0),(3,iv d),(9,.pob [2] 1 0),(30,nv n),(31,nv i)],H⟩ := by
  intro m
  induction m with
  | zero =>
    intro i acc left hi l0 l1
    have : i = n := by omega
    subst this
    refine ⟨B - left,fun _ => rfl,fun H hH h2 hq _ => ?_⟩
    refine loopC_once mixed l1_valid_meter_kid.eq_1 ?_
    simp
    exact hq rfl _ H hH
  | succ m ihm =>
    intro i acc left hi l0 l1
    have hlt : i < n := by omega
    have ei : IntKind.i64.wrap ((i : Int) + 1) = ((i + 1 : Nat) : Int) := i64_same (by omega) (by omega)
    obtain ⟨u1,hu1,hk⟩ := hf i hlt left l0 l1
    obtain ⟨b0,b1⟩ := hlb i left l0 l1
    unfold UV at hu1
    rw [loopM_step]
    generalize hx : f i left = x at *
    obtain ⟨t,lf,e⟩ := x
    simp only at hu1 hk b0 b1 ⊢
    by_cases he : e = 0
    · subst he
      have := hu1 rfl
      subst this
      obtain ⟨u2,hu2,hw⟩ := ihm (i + 1) (acc ++ [t]) lf (by omega) b0 b1
      rw [if_neg (by simp)]
      refine ⟨u2,hu2,fun H hH h2 hq hq2 => ?_⟩
      refine loopC_once mixed l1_valid_meter_kid.eq_1 ?_
      simp [hlt,h2]
      refine sc_fam 0 hk (fun p => by simp [hH]) (by simp) (by simp) ?_
      simp [ei]
      exact hw _ (fun p => by simp) (by simp [h2]) hq hq2
    · rw [if_pos (by simpa using he)]
      refine ⟨u1,fun h => absurd h he,fun H hH h2 hq hq2 => ?_⟩
      refine loopC_once mixed l1_valid_meter_kid.eq_1 ?_
      simp [hlt,h2]
      refine sc_fam 0 hk (fun p => by simp [hH]) (by simp) (by simp) ?_
      simp [he]
      exact hq2 he _ (fun p => by simp)
theorem vwalk_l1 {l : List (List Int)} {B d : Int} {k : Rf} {n : Nat} (hn : n≤1000000000) {f : Nat→Int→T × Int × Int} (hf : ∀ i,i < n→KV l B d k i f) (hlb : ∀ i left,0≤left→left≤B→0≤(f i left).2.1∧(f i left).2.1≤B) : ∀ (m i : Nat) (acc : List T) (left : Int),i + m = n→0≤left→left≤B →
    ∃ u : Int,((loopM f m i acc left).2.2 = 0→u = B - (loopM f m i acc left).2.1) ∧
      ∀ {n0 : Nat} {w0 : World} {I0 : Nat→Prop} {M0 : Nm→Nat→Prop} {m0 : Mu} {Q : Exit→Sta→Prop} (H : Hp),(∀ p,H (0 :: p) = (mtM (B - left) B).F 0 p)→H [1] = ⟨1,.cells (paL l k)⟩ →
      ((loopM f m i acc left).2.2 = 0→∀ q H',(∀ p,H' (0 :: p) = (mtM u B).F 0 p)→Q (.exit 0) ⟨lk [(0,.pob [0] 1 0),(4,.pob [1] 1 0),(7,iv d),(42,nv n),(43,nv n),(44,bv q)],H'⟩) →
      ((loopM f m i acc left).2.2 ≠ 0→∀ H',(∀ p,H' (0 :: p) = (mtM u B).F 0 p)→Q .ret ⟨lk [(6,iv (loopM f m i acc left).2.2)],H'⟩) →
      LoopC (cxh Tryz.prog w0 I0 M0 n0 m0) l1_valid_meter_walk Q ⟨lk [(0,.pob [0] 1 0),(4,.pob [1] 1 0),(7,iv d),(42,nv n),(43,nv i)],H⟩ := by
  intro m
  induction m with
  | zero =>
    intro i acc left hi l0 l1
    have : i = n := by omega
    subst this
    refine ⟨B - left,fun _ => rfl,fun H hH h2 hq _ => ?_⟩
    refine loopC_once mixed l1_valid_meter_walk.eq_1 ?_
    simp
    exact hq rfl _ H hH
  | succ m ihm =>
    intro i acc left hi l0 l1
    have hlt : i < n := by omega
    have ei : IntKind.i64.wrap ((i : Int) + 1) = ((i + 1 : Nat) : Int) := i64_same (by omega) (by omega)
    obtain ⟨u1,hu1,hk⟩ := hf i hlt left l0 l1
    obtain ⟨b0,b1⟩ := hlb i left l0 l1
    unfold UV at hu1
    rw [loopM_step]
    generalize hx : f i left = x at *
    obtain ⟨t,lf,e⟩ := x
    simp only at hu1 hk b0 b1 ⊢
    by_cases he : e = 0
    · subst he
      have := hu1 rfl
      subst this
      obtain ⟨u2,hu2,hw⟩ := ihm (i + 1) (acc ++ [t]) lf (by omega) b0 b1
      rw [if_neg (by simp)]
      refine ⟨u2,hu2,fun H hH h2 hq hq2 => ?_⟩
      refine loopC_once mixed l1_valid_meter_walk.eq_1 ?_
      simp [hlt,h2]
      refine sc_fam 0 hk (fun p => by simp [hH]) (by simp) (by simp) ?_
      simp [ei]
      exact hw _ (fun p => by simp) (by simp [h2]) hq hq2
    · rw [if_pos (by simpa using he)]
      refine ⟨u1,fun h => absurd h he,fun H hH h2 hq hq2 => ?_⟩
      refine loopC_once mixed l1_valid_meter_walk.eq_1 ?_
      simp [hlt,h2]
      refine sc_fam 0 hk (fun p => by simp [hH]) (by simp) (by simp) ?_
      simp [he]
      exact hq2 he _ (fun p => by simp)
theorem vKidC_spec {l : List (List Int)} (hs : Sg l) {B d : Int} {rec : Rf→Int→T × Int × Int} (hrec : RV l B d rec) (hlb : LB l B rec) {r : Rf} (hr : RfOk l r) (h9 : r.kind = 9) (i : Nat) (hi : (i : Int) < nk r) : KV l B d r i (stepM l (kidsM l rec) r) := fun left l0 l1 => by
  unfold stepM
  by_cases he : (kidP l r i).2 = 0
  · rw [if_neg (by simpa using he)]
    have hk1 : (kidP l r i).1.kind = 1 := kid_comp h9 (by omega) hi
    have hok := kid_ok hs.w hr i
    have hkin := kids_in hok
    have hsp := kid_spec hs hr i
    have hnk : nk (kidP l r i).1 = (kidP l r i).1.kids := by simp [nk,hk1]
    generalize (kidP l r i).2 = e at *
    subst he
    generalize (kidP l r i).1 = k at *
    obtain ⟨n,hn⟩ : ∃ n : Nat,k.kids = n := ⟨k.kids.toNat,by omega⟩
    have ht : k.kids.toNat = n := by omega
    unfold kidsM
    rw [ht]
    obtain ⟨u,hu,hw⟩ := vkid_l1 (n := n) (by omega) (fun i _ => vKid_spec hs hrec hok (by omega) i) (fun i left a b => stepM_lb hs.w hlb hok i left a b) n 0 [] left (by omega) l0 l1
    generalize loopM (stepM l rec k) n 0 [] left = y at hu hw
    obtain ⟨ts,lf,e⟩ := y
    simp only at hu hw ⊢
    refine ⟨u,hu,?_⟩
    refine specF_of t_valid_meter_kid (by simp) (faP2 l r i d) famA_v fun w0 I0 M0 m0 => ?_
    unfold c_valid_meter_kid
    simp
    refine sc_call hsp (by simp) ?_
    simp
    refine sc_call (refKind_spec l r) (by simp) ?_
    simp [h9]
    refine sc_call (refKids_spec' l k) (by simp) ?_
    rw [hnk,hn]
    simp
    refine hw _ (fun p => by simp [updF_app]) (by simp [updF_app]) (fun h0 q H' hH => ?_) (fun h0 H' hH => ?_)
    · rw [h0]
      simp
      exact reth_fam rfl rfl hH
    · exact reth_fam rfl rfl hH
  · rw [if_pos he]
    refine ⟨B - left,fun h => absurd h he,?_⟩
    refine specF_of t_valid_meter_kid (by simp) (faP2 l r i d) famA_v fun w0 I0 M0 m0 => ?_
    unfold c_valid_meter_kid
    simp
    refine sc_call (kid_spec hs hr i) (by simp) ?_
    simp [he]
    exact reth_fam rfl rfl (fun p => by simp)
end Go.Proofs.YthfiijdbnkaabaaGreat

namespace Go.Proofs.YthfiijdbnkaabaaGreat
set_option linter.unusedVariables false
set_option linter.unusedSimpArgs false
open Go Go.G Go.Proofs Go.PL
def mean1 (l : List (List Int)) (d : Nat) (r : Rf) (rec1 rec2 : Rf→Int→T × Int × Int) (left : Int) : T × Int × Int :=
  if r.kind = 0 then leafM l r left else if d = 0∨r.kind = 9∧0 < r.count∧d = 1 then stopM l r left else if left < costM r then stopM l r left else restM l r rec1 rec2 left
theorem meaning_0 {l : List (List Int)} {r : Rf} {left : Int} {rec1 rec2 : Rf→Int→T × Int × Int} : meaning l 0 r left = mean1 l 0 r rec1 rec2 left := by
  rw [meaning,mean1]; simp
theorem meaning_1 {l : List (List Int)} {r : Rf} {left : Int} : meaning l 1 r left = mean1 l 1 r (meaning l 0) (fun r left => stopM l r left) left := by
  rw [meaning,mean1]; simp
theorem meaning_2 {l : List (List Int)} {d : Nat} {r : Rf} {left : Int} : meaning l (d + 2) r left = mean1 l (d + 2) r (meaning l (d + 1)) (meaning l d) left := by
  rw [meaning,mean1]; simp
theorem vWalk_core {l : List (List Int)} (hs : Sg l) {B : Int} (hB : B≤1000000) {d : Nat} (hd : d≤1000) {rec1 rec2 : Rf→Int→T × Int × Int} (h1 : 1≤d→RV l B ((d : Int) - 1) rec1) (h2 : 2≤d→RV l B ((d : Int) - 2) rec2) (b1 : LB l B rec1) (b2 : LB l B rec2) :
    RV l B d (fun r left => mean1 l d r rec1 rec2 left) := fun r hr left l0 l1 => by
  have hn := nk_nonneg hr
  dsimp only
  have hc := costM_pos hr
  unfold mean1
  by_cases k0 : r.kind = 0
  · simp only [k0,if_true]
    refine ⟨B - left,fun _ => rfl,specF_of t_valid_meter_walk (by simp) (faP l r d) famA_v fun w0 I0 M0 m0 => ?_⟩
    unfold c_valid_meter_walk
    simp
    refine sc_call (refKind_spec l r) (by simp) ?_
    simp [k0]
    exact reth_fam rfl rfl (fun p => by simp)
  have e1 : IntKind.i64.wrap ((d : Int) - 1) = (d : Int) - 1 := i64_same (by omega) (by omega)
  have e2 : IntKind.i64.wrap ((d : Int) - 1 - 1) = (d : Int) - 2 := (i64_same (by omega) (by omega)).trans (by omega)
  simp only [if_neg k0]
  -- what is written below
  obtain ⟨b,hb,hbd⟩ : ∃ b : Int,(b = if r.kind = 9∧0 < nk r then (d : Int) - 2 else (d : Int) - 1)∧-2≤b := ⟨_,rfl,by split <;> omega⟩
  have hn9 : r.kind = 9→nk r = r.count := fun h => by simp [nk,h]
  have front : ∀ {w0 I0 M0 m0} {res : Int} {u : Int},WPC (cxh Tryz.prog w0 I0 M0 55 m0) k1_valid_meter_walk (RetH (cxh Tryz.prog w0 I0 M0 55 m0) [.tmp 6] 1 (iv res) (ov 0 ((mtM u B).F 0) (lkH []))) ⟨lk [(0,.pob [0] 1 0),(2,iv d),(4,.pob [1] 1 0),(7,iv b)],ov 0 ((mtM (B - left) B).F 0) (lkH [([1],⟨1,.cells (paL l r)⟩)])⟩ →
      WPC (cxh Tryz.prog w0 I0 M0 55 m0) c_valid_meter_walk (RetH (cxh Tryz.prog w0 I0 M0 55 m0) [.tmp 6] 1 (iv res) (ov 0 ((mtM u B).F 0) (lkH []))) ⟨argS [.pob [0] 1 0,paX l r,iv d],ov 0 ((mtM (B - left) B).F 0) (lkH [])⟩ := fun {w0 I0 M0 m0 res u} h => by
    unfold c_valid_meter_walk
    simp
    refine sc_call (refKind_spec l r) (by simp) ?_
    simp [k0,e1]
    refine sc_call (refKind_spec l r) (by simp) ?_
    by_cases h9 : r.kind = 9
    · simp [h9]
      rw [sc_guard]
      simp
      refine sc_calle (L := [paX l r]) (by simp [h9]) (refKids_spec' l r) (by simp) ?_
      by_cases hp : 0 < nk r
      · have hb' : b = (d : Int) - 2 := by rw [hb,if_pos ⟨h9,hp⟩]
        subst hb'
        simp [hp,e2]
        simpa [h9] using h
      · have hb' : b = (d : Int) - 1 := by rw [hb,if_neg (by omega)]
        subst hb'
        simp [hp]
        simpa [h9] using h
    · have hb' : b = (d : Int) - 1 := by rw [hb,if_neg (by omega)]
      subst hb'
      simp [h9]
      refine sc_call_off rfl ?_
      simp
      simpa using h
  have args := faP l r d
  by_cases hd0 : d = 0
  · subst hd0
    rw [if_pos (.inl rfl)]
    refine ⟨B - left,fun h => by simp [stopM] at h,specF_of t_valid_meter_walk (by simp) args famA_v fun w0 I0 M0 m0 => front ?_⟩
    unfold k1_valid_meter_walk
    simp
    refine sc_call_off rfl ?_
    simp
    refine sc_call_off rfl ?_
    simp [stopM]
    exact reth_fam rfl rfl (fun p => by simp)
  have hd1 : ¬ (d : Int) < 1 := by omega
  by_cases hlim : r.kind = 9∧0 < r.count∧d = 1
  · rw [if_pos (.inr hlim)]
    have hb' : b < 0 := by rw [hb,if_pos ⟨hlim.1,by rw [hn9 hlim.1]; exact hlim.2.1⟩]; omega
    refine ⟨B - left,fun h => by simp [stopM] at h,specF_of t_valid_meter_walk (by simp) args famA_v fun w0 I0 M0 m0 => front ?_⟩
    unfold k1_valid_meter_walk
    simp [hd1,hb']
    refine sc_call_off rfl ?_
    simp
    refine sc_call_off rfl ?_
    simp [stopM]
    exact reth_fam rfl rfl (fun p => by simp)
  rw [if_neg (by omega)]
  have hb0 : ¬ b < 0 := by
    rw [hb]
    split
    · rename_i hx
      have := hn9 hx.1
      omega
    · omega
  by_cases hw : left < costM r
  · rw [if_pos hw]
    have hsp := vSpend_spec (u := B - left) (B := B) (n := costM r) (by omega) (by omega) hB (by omega) (by omega)
    have hno : ¬ costM r≤B - (B - left) := by omega
    rw [if_neg hno] at hsp
    simp only [hno,decide_false] at hsp
    refine ⟨B - left,fun h => by simp [stopM] at h,specF_of t_valid_meter_walk (by simp) args famA_v fun w0 I0 M0 m0 => front ?_⟩
    unfold k1_valid_meter_walk
    simp [hd1,hb0]
    rw [sc_guard]
    simp
    refine sc_call (vOwn_spec hr) (by simp) ?_
    simp
    rw [sc_guard]
    simp
    refine sc_fam 0 hsp (fun p => by simp) (by simp) (by simp) ?_
    simp [stopM]
    exact reth_fam rfl rfl (fun p => by simp)
  rw [if_neg hw]
  have hsp := vSpend_spec (u := B - left) (B := B) (n := costM r) (by omega) (by omega) hB (by omega) (by omega)
  have hyes : costM r≤B - (B - left) := by omega
  rw [if_pos hyes,show B - left + costM r = B - (left - costM r) from by omega] at hsp
  simp only [hyes,decide_true] at hsp
  obtain ⟨n,hnn⟩ : ∃ n : Nat,nk r = n := ⟨(nk r).toNat,by omega⟩
  have hR : ∀ f,f = stepM l (recM l r rec1 rec2) r→(restM l r rec1 rec2 left).2 = (loopM f n 0 [] (left - costM r)).2 := fun f hf => by
    subst hf
    unfold restM
    rw [hnn]
    rfl
  by_cases hdt : isData r.kind = true
  · have hk9 : ¬ r.kind = 9∧¬ r.kind = 1∧¬ r.kind = 8 := by simp [isData] at hdt; omega
    have hre : recM l r rec1 rec2 = leafM l := by rw [recM,if_neg hk9.1,if_neg (by omega)]
    have h2' := hR _ rfl
    rw [hre,loopM_data hr hdt n 0 [] (left - costM r) (by omega)] at h2'
    generalize restM l r rec1 rec2 left = X at h2'
    obtain ⟨t,lf,e⟩ := X
    simp only [Prod.mk.injEq] at h2'
    obtain ⟨rfl,rfl⟩ := h2'
    refine ⟨B - (left - costM r),fun _ => rfl,specF_of t_valid_meter_walk (by simp) args famA_v fun w0 I0 M0 m0 => front ?_⟩
    unfold k1_valid_meter_walk
    simp [hd1,hb0]
    rw [sc_guard]
    simp
    refine sc_call (vOwn_spec hr) (by simp) ?_
    simp
    rw [sc_guard]
    simp
    refine sc_fam 0 hsp (fun p => by simp) (by simp) (by simp) ?_
    simp
    refine sc_call (refKind_spec l r) (by simp) ?_
    simp
    refine sc_call (data_spec r.kind) (by simp) ?_
    simp [hdt]
    exact reth_fam rfl rfl (fun p => by simp)
  have hdt' : isData r.kind = false := by simpa using hdt
  have hlbR : LB l B (recM l r rec1 rec2) := by
    unfold recM
    split
    · exact kidsM_lb hs.w b2
    · split
      · exact b1
      · exact leafM_lb
  have hf : ∀ i,i < n→KV l B b r i (stepM l (recM l r rec1 rec2) r) := fun i hi => by
    by_cases h9 : r.kind = 9
    · have hcnt := hn9 h9
      have hbe : b = (d : Int) - 2 := by rw [hb,if_pos ⟨h9,by omega⟩]
      have hre : recM l r rec1 rec2 = kidsM l rec2 := by rw [recM,if_pos h9]
      rw [hre,hbe]
      exact vKidC_spec hs (h2 (by omega)) b2 hr h9 i (by omega)
    · have hbe : b = (d : Int) - 1 := by rw [hb,if_neg (by omega)]
      have h18 : r.kind = 1∨r.kind = 8 := by
        simp [isData] at hdt'
        cases hr <;> simp [Rf.zero,nk] at k0 h9 hdt' hnn ⊢ <;> omega
      have hre : recM l r rec1 rec2 = rec1 := by rw [recM,if_neg h9,if_pos h18]
      rw [hre,hbe]
      exact vKid_spec hs (h1 (by omega)) hr h9 i
  have h2' := hR _ rfl
  generalize hfe : stepM l (recM l r rec1 rec2) r = f at h2' hf hR
  have hlb : ∀ i left,0≤left→left≤B→0≤(f i left).2.1∧(f i left).2.1≤B := fun i left a b => by
    rw [← hfe]
    exact stepM_lb hs.w hlbR hr i left a b
  obtain ⟨u,hu,hloop⟩ := vwalk_l1 (k := r) (n := n) (by omega) hf hlb n 0 [] (left - costM r) (by omega) (by omega) (by omega)
  generalize loopM f n 0 [] (left - costM r) = Y at h2' hu hloop
  generalize restM l r rec1 rec2 left = X at h2'
  obtain ⟨t,lf,e⟩ := X
  obtain ⟨t',lf',e'⟩ := Y
  simp only [Prod.mk.injEq] at h2' hu hloop
  obtain ⟨rfl,rfl⟩ := h2'
  refine ⟨u,hu,specF_of t_valid_meter_walk (by simp) args famA_v fun w0 I0 M0 m0 => front ?_⟩
  unfold k1_valid_meter_walk
  simp [hd1,hb0]
  rw [sc_guard]
  simp
  refine sc_call (vOwn_spec hr) (by simp) ?_
  simp
  rw [sc_guard]
  simp
  refine sc_fam 0 hsp (fun p => by simp) (by simp) (by simp) ?_
  simp
  refine sc_call (refKind_spec l r) (by simp) ?_
  simp
  refine sc_call (data_spec r.kind) (by simp) ?_
  simp [hdt']
  refine sc_call (refKids_spec' l r) (by simp) ?_
  rw [hnn]
  simp
  refine hloop _ (fun p => by simp) (by simp) (fun h0 q H' hH => ?_) (fun h0 H' hH => ?_)
  · rw [h0]
    simp
    exact reth_fam rfl rfl hH
  · exact reth_fam rfl rfl hH
theorem vWalk_spec {l : List (List Int)} (hs : Sg l) {B : Int} (hB : B≤1000000) : ∀ d : Nat,d≤1000→RV l B d (meaning l d)
  | 0,hd => fun r hr left l0 l1 => by
    have := vWalk_core hs hB (d := 0) (by omega) (rec1 := leafM l) (rec2 := leafM l) (fun h => absurd h (by omega)) (fun h => absurd h (by omega)) leafM_lb leafM_lb r hr left l0 l1
    dsimp only at this
    rwa [← meaning_0] at this
  | 1,hd => fun r hr left l0 l1 => by
    have := vWalk_core hs hB (d := 1) (by omega) (rec1 := meaning l 0) (rec2 := fun r left => stopM l r left) (fun _ => by simpa using vWalk_spec hs hB 0 (by omega)) (fun h => absurd h (by omega)) (meaning_lb hs.w 0) (fun r hr left h0 h1 => ⟨h0,h1⟩) r hr left l0 l1
    dsimp only at this
    rwa [← meaning_1] at this
  | d + 2,hd => fun r hr left l0 l1 => by
    have := vWalk_core hs hB (d := d + 2) (by omega) (rec1 := meaning l (d + 1)) (rec2 := meaning l d) (fun _ => by
      have := vWalk_spec hs hB (d + 1) (by omega)
      rwa [show ((d + 1 : Nat) : Int) = ((d + 2 : Nat) : Int) - 1 from by omega] at this) (fun _ => by
      have := vWalk_spec hs hB d (by omega)
      rwa [show (d : Int) = ((d + 2 : Nat) : Int) - 2 from by omega] at this) (meaning_lb hs.w (d + 1)) (meaning_lb hs.w d) r hr left l0 l1
    dsimp only at this
    rwa [← meaning_2] at this
end Go.Proofs.YthfiijdbnkaabaaGreat

namespace Go.Proofs.YthfiijdbnkaabaaGreat
set_option linter.unusedVariables false
set_option linter.unusedSimpArgs false
open Go Go.G Go.Proofs Go.PL
theorem clamp_min {x m : Int} (h : 0≤m) : min (max x 0) m = clampZ x m := by
  unfold clampZ
  split
  · omega
  · split <;> omega
theorem vLimits_spec (a b c d : Int) : G.Spec Tryz.prog 63 [liX a b c d] (liX (clampZ a 64) (clampZ b 65536) (clampZ c 4096) (clampZ d 131072)) := by
  refine spec_of t_valid_Limits (by simp) fun w0 I0 => ?_
  unfold c_valid_Limits
  simp
  rw [clamp_min (by decide),clamp_min (by decide),clamp_min (by decide),clamp_min (by decide)]
  exact frz_bare rfl
theorem vCheck_spec {l : List (List Int)} (hs : Sg l) (a b c d : Int) : G.Spec Tryz.prog 31 [arn l,liX a b c d] (.tup [iv (unfP l a b).2.1,iv (unfP l a b).2.2]) := by
  have ha := clamp_in a 64 (by decide)
  have hb := clamp_in b 65536 (by decide)
  refine spec_of t_valid_Check (by simp) fun w0 I0 => ?_
  unfold c_valid_Check
  simp
  refine sc_call (vLimits_spec a b c d) rfl ?_
  simp
  refine sc_call (root_spec hs) rfl ?_
  simp
  unfold unfP
  have hok := at_ok hs.w 0 0
  generalize hx : atP l 0 0 = x at hok
  obtain ⟨r,e⟩ := x
  simp only
  by_cases he : e = 0
  · rw [if_neg (by simp [he])]
    obtain ⟨D,hD⟩ : ∃ D : Nat,clampZ a 64 = (D : Int) := ⟨(clampZ a 64).toNat,by omega⟩
    obtain ⟨u,hu,hw⟩ := vWalk_spec hs (B := clampZ b 65536) (by omega) D (by omega) r hok (clampZ b 65536) hb.1 (Int.le_refl _)
    simp [he,hD,updF_app]
    rw [Int.sub_self] at hw
    generalize meaning l D r (clampZ b 65536) = y at hu hw
    obtain ⟨t,lf,e2⟩ := y
    unfold UV at hu
    simp only at hu hw ⊢
    have hF : ∀ H : Hp,H [2] = ⟨1,.cells [iv 0,iv (clampZ b 65536)]⟩→(∀ p,p ≠ []→H (2 :: p) = ⟨0,.none⟩)→∀ p,H (2 :: p) = (mtM 0 (clampZ b 65536)).F 2 p := fun H h1 h2 p => by
      by_cases p0 : p = []
      · subst p0; rw [h1]; simp
      · rw [h2 p p0]; simp [p0]
    refine sc_fam 2 hw (hF _ (by simp [updF_app]) (fun p hp => by simp [updF_app,hp,Ne.symm hp])) (by simp) (by simp) ?_
    by_cases he2 : e2 = 0
    · have := hu he2
      subst this
      simp [he2]
      exact frz_bare rfl
    · simp [he2]
      exact frz_bare rfl
  · rw [if_pos he]
    simp [he]
    exact frz_bare rfl
theorem uMessage_spec {l : List (List Int)} (hs : Sg l) (a b c d : Int) : G.Spec Tryz.prog 85 [arn l,liX a b c d] (.tup [tX (norm (unfP l a b).1),iv (unfP l a b).2.2]) := by
  refine spec_of t_unfold_Message (by simp) fun w0 I0 => ?_
  unfold c_unfold_Message
  simp
  refine sc_call (vCheck_spec hs a b c d) rfl ?_
  by_cases he : (unfP l a b).2.2 = 0
  · have hm := unfold_means hs he
    have hw := means_wf hs _ _ hm
    have h0 : (atP l 0 0).2 = 0 := by
      unfold unfP at he
      split at he
      · rename_i h0; exact absurd he h0
      · rename_i h0; omega
    generalize (unfP l a b).1 = t at hm hw
    rw [he]
    simp
    refine sc_call (root_spec hs) rfl ?_
    rw [h0]
    simp
    refine sc_call (value_spec hs _ _ hm) (by simp) ?_
    simp
    refine sc_call (tNorm_spec t hw) rfl ?_
    simp
    have e : A.agg [iv t.kind,uws (norm t).words,tKs (norm t).kids] = tX (norm t) := by simp
    rw [e]
    exact frz_bare (tup_bare (by simp))
  · have hT : (unfP l a b).1 = T0 := by
      unfold unfP at he ⊢
      split
      · rfl
      · split
        · rfl
        · rename_i h1 h2
          rw [if_neg h1,if_neg h2] at he
          exact absurd rfl he
    have hN : norm T0 = T0 := by simp [T0,norm_mk]
    rw [hT,hN]
    simp [he]
    exact frz_tup (by simp; exact ⟨frz_T0,frz_bare rfl⟩)
end Go.Proofs.YthfiijdbnkaabaaGreat

namespace Go.Proofs.YthfiijdbnkaabaaGreat
set_option linter.unusedVariables false
set_option linter.unusedSimpArgs false
open Go Go.G Go.Proofs Go.PL
section
variable {n0 : Nat} {w0 : World} {I0 : Nat→Prop} {Q : Exit→Sta→Prop}
end
section
variable {n0 : Nat} {w0 : World} {I0 : Nat→Prop} {Q : Exit→Sta→Prop}
end
section
variable {n0 : Nat} {w0 : World} {I0 : Nat→Prop}
end
theorem wf_T0 : wfT T0 := wfT_iff.2 ⟨by simp [i64R],by simp,by simp,by simp,by simp⟩
theorem wf_E (k : Int) (h : i64R k) : wfE (.mk k T0 T0 [] [] 0 []) := wfE_iff.2 ⟨h,by simp [i64R],wf_T0,wf_T0,by simp,by simp,by simp,by simp,by simp,by simp⟩
theorem wf_tree : ∀ (e : E),wfE e→smE 1048575 e→rightE 64 e = true∨True→wfT (treeE e) := by
  refine E.ind fun k o n ws ks l os ihk iho hw hs _ => ?_
  have h := wfE_iff.1 hw
  rw [smE,smKs_all,smOs_all] at hs
  obtain ⟨s1,s2,s3,s4,s5⟩ := hs
  have u : ∀ x,u64R (u64m x) := fun x => by unfold u64R u64m; omega
  have row : ∀ (m : List T),m.length≤1048575→(∀ t,t ∈ m→wfT t)→wfT (rowT' m) := fun m hm hmt => by
    cases m with
    | nil => rw [rowT'_nil]; exact wf_T0
    | cons t m => rw [rowT'_cons]; exact wfT_iff.2 ⟨by simp [i64R],by simp,by simp,by simp at hm ⊢; omega,hmt⟩
  have tk : ∀ w : OP,(treeO l w).kids.length * 56≤140737488355328 := fun w => by
    simp only [treeO,T.kids_mk]
    repeat' split
    all_goals simp
  rw [treeE_mk]
  split
  · exact wf_T0
  · split
    · refine wfT_iff.2 ⟨by simp [i64R],?_,by simp,by simp,?_⟩
      · intro x hx; simp at hx; rw [hx]; exact u _
      · intro x hx; simp at hx; rcases hx with rfl | rfl; exact h.o; exact h.n
    · split
      · refine wfT_iff.2 ⟨by simp [i64R],?_,by simp,by simp,?_⟩
        · intro x hx; simp at hx; rw [hx]; exact u _
        · intro x hx
          simp at hx
          rcases hx with rfl | rfl
          · refine row _ (by simp; omega) fun t ht => ?_
            obtain ⟨w,hw',rfl⟩ := List.mem_map.1 ht
            obtain ⟨w1,w2,w3,w4⟩ := h.w w hw'
            exact wfT_iff.2 ⟨by simp [treeW,i64R],by intro x hx; simp [treeW] at hx; rcases hx with rfl | rfl | rfl; exact u _; exact w3; exact w4,by simp [treeW],by simp [treeW],by simp [treeW]⟩
          · rw [treeKs_map]
            refine row _ (by simp; omega) fun t ht => ?_
            obtain ⟨w,hw',rfl⟩ := List.mem_map.1 ht
            exact wfT_iff.2 ⟨by simp [treeK,i64R],by intro x hx; simp [treeK] at hx; rw [hx]; exact u _,by simp [treeK],by simp [treeK],by intro x hx; simp [treeK] at hx; rw [hx]; exact ihk w hw' (h.ks w hw').2 (s4 w hw') (.inr trivial)⟩
      · refine wfT_iff.2 ⟨by simp [i64R],?_,by simp,by simp,?_⟩
        · intro x hx; simp at hx; rw [hx]; exact u _
        · intro x hx
          simp at hx
          subst hx
          rw [treeOs_map]
          refine row _ (by simp; omega) fun t ht => ?_
          obtain ⟨w,hw',rfl⟩ := List.mem_map.1 ht
          have hwo := h.os w hw'
          refine wfT_iff.2 ⟨by simp [treeO,i64R],by intro x hx; simp [treeO] at hx; rw [hx]; exact u _,by simp [treeO],tk w,?_⟩
          intro x hx
          simp only [treeO,T.kids_mk] at hx
          split at hx
          · simp at hx; rw [hx]; exact iho w hw' hwo.e (s5 w hw') (.inr trivial)
          · split at hx
            · simp at hx; rw [hx]; exact wfT_iff.2 ⟨h.l,by simp,by simp,hwo.ll,hwo.l⟩
            · simp at hx
end Go.Proofs.YthfiijdbnkaabaaGreat

namespace Go.PL
set_option linter.unusedVariables false
set_option linter.unusedSimpArgs false
theorem right_null (d : Nat) : rightT d T0 = true := by rw [rightT_mk]; simp
theorem right_to {d : Nat} {k : Int} {w : List Int} {l : List T} (h0 : k ≠ 0) (h10 : k ≠ 10) (hb : tooBig k d w.length l.length = false) (h : ∀ t,t ∈ l→rightT (d - 1) t = true∧kidOk k t = true) : rightT d (.mk k w l) = true := by
  rw [rightT_mk,if_neg h0,if_neg h10,if_neg (by rw [hb]; simp)]
  exact rightL_all.2 h
theorem right_some {l : List T} (h : ∀ t,t ∈ l→∃ D,rightT D t = true) : ∃ D,∀ t,t ∈ l→rightT D t = true := by
  induction l with
  | nil => exact ⟨0,fun t ht => by cases ht⟩
  | cons u l ih =>
    obtain ⟨D,hD⟩ := h u (by simp)
    obtain ⟨D',hD'⟩ := ih fun t ht => h t (by simp [ht])
    refine ⟨D + D',fun t ht => ?_⟩
    rcases List.mem_cons.1 ht with rfl | ht
    · exact rightT_mono _ _ _ (by omega) hD
    · exact rightT_mono _ _ _ (by omega) (hD' t ht)
theorem right_one {w : List Int} {l : List T} (hw : w.length < 65536) (hl : l.length < 65536) (h : ∀ t,t ∈ l→(∃ D,rightT D t = true)∧t.kind ≠ 10) : ∃ D,rightT D (.mk 1 w l) = true := by
  obtain ⟨D,hD⟩ := right_some fun t ht => (h t ht).1
  refine ⟨D + 1,right_to (by decide) (by decide) ?_ fun t ht => ⟨by simpa using hD t ht,?_⟩⟩
  · simp [tooBig]; omega
  · have := (h t ht).2
    simp [kidOk,isData,this]
theorem right_row {l : List T} (hl : l.length < 1048576) (h : ∀ t,t ∈ l→(∃ D,rightT D t = true)∧t.kind = 1) : (∃ D,rightT D (rowT' l) = true)∧(rowT' l).kind ≠ 10 := by
  cases l with
  | nil => exact ⟨⟨0,right_null 0⟩,by decide⟩
  | cons u l =>
    refine ⟨?_,by show (9 : Int) ≠ 10; decide⟩
    obtain ⟨D,hD⟩ := right_some fun t ht => (h t ht).1
    refine ⟨D + 1,?_⟩
    show rightT (D + 1) (.mk 9 [] (u :: l)) = true
    refine right_to (by decide) (by decide) ?_ fun t ht => ⟨by simpa using hD t ht,?_⟩
    · simp [tooBig] at hl ⊢; omega
    · have := (h t ht).2
      simp [kidOk,isData,this]
end Go.PL

namespace Go.Proofs.YthfiijdbnkaabaaGreat
set_option linter.unusedVariables false
set_option linter.unusedSimpArgs false
open Go Go.G Go.Proofs Go.PL
theorem opLen_nonneg {d : Nat} {list : Int} {x : OP} (O : RightO d list x) : 0≤opLen x := by
  unfold opLen
  split
  · omega
  · have := O.keep
    have := O.nn
    have := O.k0
    omega
theorem tree_right : ∀ (e : E) (d : Nat),smE 1048575 e→rightE d e = true→∃ D,rightT D (treeE e) = true := by
  refine E.ind fun k o nn ws ks l os ihk iho d hs hr => ?_
  have R := rightE_iff.1 hr
  rw [smE,smKs_all,smOs_all] at hs
  obtain ⟨s1,s2,s3,s4,s5⟩ := hs
  have hks := fun x hx => rightKs_allE (by omega) R.kok x hx
  have hos := fun x hx => rightO_of (rightOs_all.1 R.ook x hx)
  rw [treeE_mk]
  by_cases k0 : k = 0
  · rw [if_pos k0]; exact ⟨0,right_null 0⟩
  rw [if_neg k0]
  by_cases k1 : k = 1
  · rw [if_pos k1]
    obtain ⟨a,b,c,e⟩ := R.rep k1
    refine right_one (by simp) (by simp) fun t ht => ?_
    simp at ht
    rcases ht with rfl | rfl
    · exact ⟨⟨64,a⟩,c⟩
    · exact ⟨⟨64,b⟩,e⟩
  rw [if_neg k1]
  by_cases k2 : k = 2
  · rw [if_pos k2,treeKs_map]
    refine right_one (by simp) (by simp) fun t ht => ?_
    simp only [List.mem_cons,List.not_mem_nil,or_false] at ht
    rcases ht with rfl | rfl
    · refine right_row (by simp; omega) fun t ht => ?_
      obtain ⟨w,hw,rfl⟩ := List.mem_map.1 ht
      exact ⟨right_one (by simp) (by simp) (fun t ht => nomatch ht),rfl⟩
    · refine right_row (by simp; omega) fun t ht => ?_
      obtain ⟨x,hx,rfl⟩ := List.mem_map.1 ht
      refine ⟨right_one (by simp) (by simp) fun t ht => ?_,rfl⟩
      simp only [List.mem_cons,List.not_mem_nil,or_false] at ht
      subst ht
      refine ⟨ihk x hx _ (s4 x hx) (hks x hx).2.2.2,?_⟩
      rw [treeE_kind]
      split <;> decide
  · rw [if_neg k2,treeOs_map]
    have hl := R.lst (by have := R.k0; have := R.k3; omega)
    refine right_one (by simp) (by simp) fun t ht => ?_
    simp only [List.mem_cons,List.not_mem_nil,or_false] at ht
    subst ht
    refine right_row (by simp; omega) fun t ht => ?_
    obtain ⟨x,hx,rfl⟩ := List.mem_map.1 ht
    have O := hos x hx
    have hlen := lengths_each os 0 0 (fun y hy => opLen_nonneg (hos y hy)) (by omega) (by omega) (by omega) (by omega) R.len.1 R.len.2 x hx
    refine ⟨?_,rfl⟩
    unfold treeO
    have hkl : (if x.kind = 3 then [treeE x.e] else if x.kind > 0 then [T.mk l [] x.l] else []).length < 65536 := by
      split
      · simp
      · split <;> simp
    refine right_one (by simp) hkl fun t ht => ?_
    by_cases h3 : x.kind = 3
    · rw [if_pos h3] at ht
      simp only [List.mem_cons,List.not_mem_nil,or_false] at ht
      subst ht
      obtain ⟨_,_,_,he,_⟩ := O.down h3
      refine ⟨iho x hx _ (s5 x hx) he,?_⟩
      rw [treeE_kind]
      split <;> decide
    · rw [if_neg h3] at ht
      split at ht
      · rename_i hpos
        simp only [List.mem_cons,List.not_mem_nil,or_false] at ht
        subst ht
        obtain ⟨_,hel⟩ := O.some (by have := O.k3; omega)
        refine ⟨⟨64,right_to (by omega) (by omega) ?_ fun t ht => ?_⟩,by show l ≠ 10; omega⟩
        · have : x.l.length < 1048576 := by
            unfold opLen at hlen
            rw [if_neg h3] at hlen
            have := O.nn (by omega)
            omega
          simp [tooBig]
          omega
        · have := hel t ht
          rw [rightT_mk,if_neg (by omega),if_neg (by omega)] at this
          split at this
          · cases this
          · exact rightL_all.1 this t (by simp)
      · cases ht
theorem right_len {d : Nat} {t : T} (h : rightT d t = true) : t.kids.length≤1048575 := by
  obtain ⟨k,w,l⟩ := t
  rw [rightT_mk] at h
  by_cases h0 : k = 0
  · rw [if_pos h0] at h; simp at h; rw [T.kids_mk,h.2]; exact Nat.zero_le _
  rw [if_neg h0] at h
  by_cases h10 : k = 10
  · rw [if_pos h10] at h; simp at h; rw [T.kids_mk,h.2]; exact Nat.zero_le _
  rw [if_neg h10] at h
  split at h
  · cases h
  · rename_i hb
    simp [tooBig] at hb
    rw [T.kids_mk]
    omega
theorem right_kd {d : Nat} {t : T} (h : rightT d t = true) (i : Nat) : ∃ d,rightT d (kdT t i) = true := by
  unfold kdT
  rw [List.getD_eq_getElem?_getD]
  cases e : t.kids[i]? with
  | none => exact ⟨0,right_null 0⟩
  | some x => exact ⟨_,(right_kids h x (List.mem_of_getElem? e)).1⟩
theorem sm_E0 : smE 1048575 E0 := by rw [smE]; simp [smKs,smOs]
theorem guess_sm : ∀ (n : Nat) (t : T),SizeOf.sizeOf t≤n→(∃ d,rightT d t = true)→smE 1048575 (guess t) := by
  intro n
  induction n with
  | zero => intro t ht; exfalso; cases t; simp at ht
  | succ n ih =>
    intro t ht hd
    obtain ⟨d,hd⟩ := hd
    rw [guess_eq]
    split
    · exact sm_E0
    · obtain ⟨da,ha⟩ := right_kd hd 0
      obtain ⟨db,hb⟩ := right_kd hd 1
      have la := right_len ha
      have lb := right_len hb
      rw [smE,smKs_all,smOs_all]
      have deep : ∀ (i : Nat) x,x ∈ (kdT t i).kids→smE 1048575 (guess (kdT x 0)) := fun i x hx => by
        obtain ⟨di,hi⟩ := right_kd hd i
        have hlt := kd_lt hx 0
        exact ih _ (by omega) (right_kd (right_kids hi x hx).1 0)
      refine ⟨?_,?_,?_,fun x hx => ?_,fun x hx => ?_⟩
      · split
        · simp; omega
        · simp
      · split
        · simp; omega
        · simp
      · split
        · simp; omega
        · simp
      · split at hx
        · obtain ⟨y,hy,rfl⟩ := List.mem_map.1 hx
          exact deep 1 y hy
        · cases hx
      · split at hx
        · obtain ⟨y,hy,rfl⟩ := List.mem_map.1 hx
          unfold stpG
          simp only [OP.e_mk]
          split
          · exact deep 0 y hy
          · exact sm_E0
        · cases hx
theorem wf_E0 : wfE E0 := wfE_iff.2 ⟨by simp [i64R,E.kind],by simp [i64R,E.list],wf_T0,wf_T0,by simp [E.words],by simp [E.words],by simp [E.kids],by simp [E.ops],by simp [E.kids],by simp [E.ops]⟩
theorem wf_wordG {x : T} (h : wfT x) : WE.wf (wordG x) := by
  have h0 := wd_in h 0
  have h1 := wd_in h 1
  have h2 := wd_in h 2
  unfold u64R at h0
  refine ⟨?_,?_,h1,h2⟩
  · unfold i64R wordG; simp only; omega
  · unfold wordG; simp only; omega
theorem guess_wf : ∀ (n : Nat) (t : T),SizeOf.sizeOf t≤n→wfT t→(∃ d,rightT d t = true)→wfE (guess t) := by
  intro n
  induction n with
  | zero => intro t ht; exfalso; cases t; simp at ht
  | succ n ih =>
    intro t ht hw hd
    obtain ⟨d,hd⟩ := hd
    rw [guess_eq]
    split
    · exact wf_E0
    · obtain ⟨da,ha⟩ := right_kd hd 0
      obtain ⟨db,hb⟩ := right_kd hd 1
      have la := right_len ha
      have lb := right_len hb
      have wa := wf_kd hw 0
      have wb := wf_kd hw 1
      have w0 := wd_in hw 0
      unfold u64R at w0
      have deep : ∀ (i : Nat) x,x ∈ (kdT t i).kids→wfE (guess (kdT x 0)) := fun i x hx => by
        obtain ⟨di,hi⟩ := right_kd hd i
        have hlt := kd_lt hx 0
        exact ih _ (by omega) (wf_kd ((wfT_iff.1 (wf_kd hw i)).ks x hx) 0) (right_kd (right_kids hi x hx).1 0)
      refine wfE_iff.2 ⟨?_,?_,?_,?_,fun x hx => ?_,?_,?_,?_,fun x hx => ?_,fun x hx => ?_⟩
      · simp only [E.kind_mk]; unfold i64R; omega
      · simp only [E.list_mk]; unfold i64R; omega
      · show wfT (if _ then _ else _); split
        · exact wa
        · exact wf_T0
      · show wfT (if _ then _ else _); split
        · exact wb
        · exact wf_T0
      · simp only [E.words_mk] at hx
        split at hx
        · obtain ⟨y,hy,rfl⟩ := List.mem_map.1 hx
          exact wf_wordG ((wfT_iff.1 wa).ks y hy)
        · cases hx
      · simp only [E.words_mk]; split
        · simp; omega
        · simp
      · simp only [E.kids_mk]; split
        · simp; omega
        · simp
      · simp only [E.ops_mk]; split
        · simp; omega
        · simp
      · simp only [E.kids_mk] at hx
        split at hx
        · obtain ⟨y,hy,rfl⟩ := List.mem_map.1 hx
          have h0 := wd_in ((wfT_iff.1 wb).ks y hy) 0
          unfold u64R at h0
          exact ⟨by simp only [kidG,KE.at_mk]; unfold i64R; omega,deep 1 y hy⟩
        · cases hx
      · simp only [E.ops_mk] at hx
        split at hx
        · obtain ⟨y,hy,rfl⟩ := List.mem_map.1 hx
          have wy := (wfT_iff.1 wa).ks y hy
          have h0 := wd_in wy 0
          unfold u64R at h0
          obtain ⟨dy,hy2⟩ := right_kd (right_kids ha y hy).1 0
          have ly := right_len hy2
          refine ⟨by simp only [stpG,OP.kind_mk]; unfold i64R; omega,by simp only [stpG,OP.n_mk]; unfold i64R; omega,fun t ht => ?_,?_,?_⟩
          · simp only [stpG,OP.l_mk] at ht
            split at ht
            · exact (wfT_iff.1 (wf_kd wy 0)).ks t ht
            · cases ht
          · simp only [stpG,OP.l_mk]
            split
            · omega
            · simp
          · simp only [stpG,OP.e_mk]
            split
            · exact deep 0 y hy
            · exact wf_E0
        · cases hx
end Go.Proofs.YthfiijdbnkaabaaGreat

namespace Go.Proofs.YthfiijdbnkaabaaGreat
set_option linter.unusedVariables false
set_option linter.unusedSimpArgs false
open Go Go.G Go.Proofs Go.PL
def AllW (l : List Int) : Prop := ∀ y,y ∈ l→u64R y
theorem allW_app {a b : List Int} : AllW (a ++ b) ↔ AllW a∧AllW b := by
  unfold AllW
  simp only [List.mem_append]
  exact ⟨fun h => ⟨fun y hy => h y (.inl hy),fun y hy => h y (.inr hy)⟩,fun h y hy => hy.elim (h.1 y) (h.2 y)⟩
theorem allW_set {l : List Int} {p : Nat} {x : Int} (h : AllW l) (hx : u64R x) : AllW (l.set p x) := fun y hy => by
  rcases List.mem_or_eq_of_mem_set hy with hy | rfl
  · exact h y hy
  · exact hx
theorem allW_rep (n : Nat) : AllW (List.replicate n 0) := fun y hy => by rw [List.eq_of_mem_replicate hy]; exact ⟨by decide,by decide⟩
theorem ptrZ_rng {a to k u : Int} (h0 : 0≤a) (h1 : a≤200000) (t0 : 0≤to) (t1 : to≤200000) (k0 : 0≤k) (k1 : k < 4) (u0 : 0≤u) (u1 : u < 4294967296) : u64R (ptrZ a to k u) := by
  unfold ptrZ u64R
  split <;> omega
theorem putL_in {w : Nat} (hw : w = 1∨w = 8∨w = 16∨w = 32∨w = 64) : ∀ (ns : List Int) (i : Nat) (out : List Int),PutI w i out→(∀ x,x ∈ ns→0≤x∧x < 2 ^ w)→(∀ j,j < i + ns.length→j * w / 64 < out.length)→AllW (putL w ns i out)
  | [],i,out,hI,_,_ => fun y hy => by
    rw [putL] at hy
    obtain ⟨j,hj,rfl⟩ := List.mem_iff_getElem.1 hy
    exact hI.rng j hj
  | n :: ns,i,out,hI,hn,hl => by
    obtain ⟨h0,h1⟩ := hn n (by simp)
    rw [putL,if_neg (by omega)]
    have := putI_step hI hw h0 h1 (hl i (by simp))
    exact putL_in hw ns (i + 1) _ this.1 (fun x hx => hn x (by simp [hx])) (fun j hj => by rw [List.length_set]; exact hl j (by simp at hj ⊢; omega))
theorem putZ_all {c : Int} (c0 : 0≤c) (c6 : c < 6) {ns : List Int} (hnl : ns.length≤1000000000) (hfit : ∀ x,x ∈ ns→u64R x∧fitsZ c x = true) : AllW (putZ c ns) := by
  obtain ⟨w,w1,w2,w3⟩ := width_cases c0 c6
  unfold putZ
  rw [w1]
  simp only [Int.toNat_natCast]
  by_cases h0 : w = 0
  · subst h0
    have : ∀ (ns : List Int) (i : Nat) (o : List Int),putL 0 ns i o = o := fun ns => by
      induction ns with
      | nil => intro i o; rfl
      | cons n ns ih => intro i o; rw [putL,if_pos rfl,ih]
    rw [this]
    exact allW_rep _
  · refine putL_in (by omega) ns 0 _ (PutI.start w _) (fun x hx => ?_) (fun j hj => ?_)
    · obtain ⟨a,b⟩ := hfit x hx
      exact ⟨a.1,fits_lt w1 a.1 b⟩
    · rw [List.length_replicate]
      have hroom : roomZ c ns.length = (((ns.length * w + 63) / 64 : Nat) : Int) := by
        unfold roomZ
        rw [if_neg (by omega),w2]
        have e : (ns.length : Int) * w = ((ns.length * w : Nat) : Int) := by rw [Int.natCast_mul]
        rw [e]
        omega
      rw [hroom,Int.toNat_natCast]
      exact put_at (by omega) (by omega)
def LW (f : Nat→List Int→List Int) (n : Nat) : Prop := ∀ (a : Nat) (l : List Int),a + n≤l.length→(f a l).length≤200000→AllW l→AllW (f a l)
theorem layL_lw : ∀ {ts : List T},(∀ t,t ∈ ts→LW (layT t) 1)→LW (layL ts) ts.length
  | [],_ => fun a l _ _ h => by simpa using h
  | t :: ts,h => fun a l ha hl hw => by
    simp only [List.length_cons] at ha
    rw [layL_cons] at hl ⊢
    have h1 := layL_lm ts (a + 1) (layT t a l)
    have h2 := layT_le t a l
    exact layL_lw (fun u hu => h u (by simp [hu])) (a + 1) _ (by omega) hl (h t (by simp) a l (by omega) (by omega) hw)
theorem layC_lw {w k : Nat} : ∀ {ts : List T},(∀ t,t ∈ ts→LW (layL t.kids) t.kids.length∧t.kids.length≤k)→∀ (a : Nat) (l : List Int),a + ts.length * (w + k)≤l.length→(layC w k ts a l).length≤200000→AllW l→AllW (layC w k ts a l)
  | [],_ => fun a l _ _ h => by simpa using h
  | t :: ts,h => fun a l ha hl hw => by
    obtain ⟨g1,g2⟩ := h t (by simp)
    simp only [List.length_cons,Nat.add_mul,Nat.one_mul] at ha
    rw [layC_cons] at hl ⊢
    have h1 := layC_lm w k ts (a + (w + k)) (layL t.kids (a + w) l)
    have h2 := layL_lm t.kids (a + w) l
    exact layC_lw (fun u hu => h u (by simp [hu])) (a + (w + k)) _ (by omega) hl (g1 (a + w) l (by omega) (by omega) hw)
theorem rowsC_in {w k : Nat} : ∀ {ts : List T},(∀ t,t ∈ ts→AllW t.words)→AllW (rowsC w k ts)
  | [],_ => fun y hy => by simp [rowsC] at hy
  | t :: ts,h => by
    rw [rowsC]
    exact allW_app.2 ⟨allW_app.2 ⟨h t (by simp),allW_rep _⟩,rowsC_in fun u hu => h u (by simp [hu])⟩
theorem lay_lw : ∀ t : T,wfT t→(LayOk t→LW (layT t) 1)∧((∀ u,u ∈ t.kids→LayOk u)→LW (layL t.kids) t.kids.length) := by
  refine T.ind fun k w ks ih hw => ?_
  have hwt := wfT_iff.1 hw
  have hK : (∀ u,u ∈ ks→LayOk u)→LW (layL ks) ks.length := fun h => layL_lw fun t ht => (ih t ht (hwt.ks t ht)).1 (h t ht)
  refine ⟨fun hok a l ha hl hA => ?_,hK⟩
  cases hok with
  | null => rw [layT_mk,if_pos rfl]; exact hA
  | str w ks b1 b2 h =>
    rw [layT_mk,if_neg (by decide),if_pos rfl] at hl ⊢
    have hm := Nat.le_trans (layL_lm ks _ _) hl
    simp only [List.length_append,List.length_set,List.length_replicate] at hm
    refine hK h _ _ (by simp; omega) hl (allW_app.2 ⟨allW_app.2 ⟨allW_set hA (ptrZ_rng (by omega) (by omega) (by omega) (by split <;> omega) (by omega) (by omega) (by omega) (by omega)),hwt.w⟩,allW_rep _⟩)
  | ptrs w ks b1 h =>
    rw [layT_mk,if_neg (by decide),if_neg (by decide),if_pos rfl] at hl ⊢
    have hm := layL_lm ks l.length (l.set a (ptrZ a l.length 1 (6 + 8 * ks.length)) ++ List.replicate ks.length 0)
    simp only [List.length_append,List.length_set,List.length_replicate] at hm
    exact hK h _ _ (by simp) hl (allW_app.2 ⟨allW_set hA (ptrZ_rng (by omega) (by omega) (by omega) (by omega) (by omega) (by omega) (by omega) (by omega)),allW_rep _⟩)
  | comp w ks b1 b2 h =>
    rw [layT_mk,if_neg (by decide),if_neg (by decide),if_neg (by decide),if_pos rfl] at hl ⊢
    have hbound := frame_bound (ts := ks) (w := 65535) (k := 65535) fun u hu => by have := b2 u hu; omega
    have hr := rowsC_length (w := frameW ks) (k := frameK ks) ks fun t ht => by have := frameW_le ht; omega
    have hm := layC_lm (frameW ks) (frameK ks) ks (l.length + 1) (l.set a (ptrZ a l.length 1 (7 + 8 * (ks.length * (frameW ks + frameK ks) : Nat))) ++ [4 * (ks.length : Int) + 4294967296 * ((frameW ks : Int) + 65536 * frameK ks)] ++ rowsC (frameW ks) (frameK ks) ks)
    simp only [List.length_append,List.length_set,List.length_singleton,hr] at hm
    have hkf : ∀ t,t ∈ ks→t.kids.length≤frameK ks := fun t ht => frameK_le ht
    generalize frameW ks = W at *
    generalize frameK ks = K at *
    generalize hL : ks.length * (W + K) = L at *
    refine layC_lw (fun t ht => ⟨(ih t ht (hwt.ks t ht)).2 (h t ht),hkf t ht⟩) _ _ (by simp only [List.length_append,List.length_set,List.length_singleton,hr]; omega) hl (allW_app.2 ⟨allW_app.2 ⟨allW_set hA (ptrZ_rng (by omega) (by omega) (by omega) (by omega) (by omega) (by omega) (by omega) (by omega)),fun y hy => ?_⟩,rowsC_in fun t ht => (wfT_iff.1 (hwt.ks t ht)).w⟩)
    simp only [List.mem_singleton] at hy
    subst hy
    unfold u64R
    omega
  | data k w ks h1 h2 b1 hc =>
    rw [layT_mk,if_neg (by omega),if_neg (by omega),if_neg (by omega),if_neg (by omega)] at hl ⊢
    rw [List.length_append,List.length_set] at hl
    refine allW_app.2 ⟨allW_set hA (ptrZ_rng (by omega) (by omega) (by omega) (by omega) (by omega) (by omega) (by omega) (by omega)),putZ_all (by omega) (by omega) (by simp; omega) fun x hx => ?_⟩
    obtain ⟨c,hc',rfl⟩ := List.mem_map.1 hx
    obtain ⟨y,y1,y2,y3,y4⟩ := hc c hc'
    have : hd c = y := by simp [hd,y1]
    rw [this]
    exact ⟨⟨y2,y3⟩,y4⟩
theorem cn_sg {most : Int} {t : T} (hw : wfT t) : Sg [cnW most t] := by
  by_cases h : cnOk most t = true
  · have hW : cnW most t = layT (norm t) 0 [0] := by simp [cnW,h]
    simp [cnOk] at h
    obtain ⟨⟨⟨hr,h10⟩,_⟩,hs⟩ := h
    have hok := laid_right t 64 hr hw h10
    have hlen := (lay_len (norm t)).1 hok 0 [0]
    simp only [List.length_singleton] at hlen
    have hwd := (lay_lw (norm t) (wf_norm t hw)).1 hok 0 [0] (by simp) (by omega) (allW_rep 1)
    rw [hW]
    exact ⟨fun x hx => by simp at hx; subst hx; omega,fun x hx y hy => by simp at hx; subst hx; exact hwd y hy⟩
  · have hW : cnW most t = [] := by simp [cnW,h]
    rw [hW]
    exact ⟨fun x hx => by simp at hx; subst hx; simp,fun x hx y hy => by simp at hx; subst hx; cases hy⟩
end Go.Proofs.YthfiijdbnkaabaaGreat

namespace Go.Proofs.YthfiijdbnkaabaaGreat
set_option linter.unusedVariables false
set_option linter.unusedSimpArgs false
open Go Go.G Go.Proofs Go.PL
def sgT (g : T→Int) : List T→Int
  | [] => 0
  | t :: l => g t + sgT g l
theorem sgT_size : ∀ l : List T,sgT (fun t => sizeT (norm t)) l = sizeL (l.map norm)
  | [] => by simp [sgT]
  | t :: l => by simp [sgT,sgT_size l]
theorem sgT_kids : ∀ l : List T,sgT (fun t => sizeL (norm t).kids) l = sizeLL (l.map norm)
  | [] => by simp [sgT]
  | t :: l => by simp [sgT,sgT_kids l]
theorem loopM_sum {f : Nat→Int→T × Int × Int} {B : Int} {g : T→Int} (hf : ∀ (i : Nat) lf,0≤lf→lf≤B→0≤(f i lf).2.1∧(f i lf).2.1≤B) : ∀ {m i : Nat} {acc : List T} {left : Int},(∀ (j : Nat) lf,j < i + m→0≤lf→lf≤B→(f j lf).2.2 = 0→g (f j lf).1 + (f j lf).2.1≤lf)→0≤left→left≤B→(loopM f m i acc left).2.2 = 0 →
    ∃ ks : List T,(loopM f m i acc left).1 = acc ++ ks∧sgT g ks + (loopM f m i acc left).2.1≤left
  | 0,i,acc,left,_,_,_,h => ⟨[],by simp [loopM],by simp [loopM,sgT]⟩
  | m + 1,i,acc,left,hg,l0,l1,h => by
    rw [loopM] at h ⊢
    by_cases h0 : (f i left).2.2 ≠ 0
    · rw [if_pos h0] at h; exact absurd h h0
    · rw [if_neg h0] at h ⊢
      obtain ⟨b0,b1⟩ := hf i left l0 l1
      have h1 := hg i left (by omega) l0 l1 (by simpa using h0)
      obtain ⟨ks,e1,e2⟩ := loopM_sum (g := g) hf (fun j lf hj => hg j lf (by omega)) b0 b1 h
      refine ⟨(f i left).1 :: ks,by rw [e1]; simp,?_⟩
      simp only [sgT]
      omega
def SZ (l : List (List Int)) (rec : Rf→Int→T × Int × Int) : Prop := ∀ x left,RfOk l x→x.kind ≠ 10→0≤left→left≤65536→(rec x left).2.2 = 0→sizeT (norm (rec x left).1) + (rec x left).2.1≤left
theorem stepM_at {l : List (List Int)} {rec : Rf→Int→T × Int × Int} {r : Rf} {i : Nat} {lf : Int} (h : (stepM l rec r i lf).2.2 = 0) : stepM l rec r i lf = rec (kidP l r i).1 lf := by
  unfold stepM at h ⊢
  by_cases h0 : (kidP l r i).2 ≠ 0
  · rw [if_pos h0] at h; exact absurd h h0
  · rw [if_neg h0]
theorem sizeL_take {ts : List T} (h : ∀ u,u ∈ ts→LayOk u) (n : Nat) : sizeL (ts.take n)≤sizeL ts := by
  have e : sizeL ts = sizeL (ts.take n) + sizeL (ts.drop n) := by rw [← sizeL_append,List.take_append_drop]
  have := sizeL_nonneg (ts := ts.drop n) fun u hu => h u (List.mem_of_mem_drop hu)
  omega
theorem means_kidsL {l : List (List Int)} (hs : Sg l) {r : Rf} {t : T} (hm : Means l r t) (hk : t.kind = 1∨t.kind = 8) : ∀ u,u ∈ t.kids.map norm→LayOk u := by
  have := kids_lay hs hm hk t.kids.length 0
  simpa using this
theorem kidsM_size {l : List (List Int)} (hs : Sg l) {s a d k : Int} (hr : RfOk l ⟨1,s,a,d,k,0,0⟩) {rec2 : Rf→Int→T × Int × Int} (b2 : LB l 65536 rec2) (h2 : SZ l rec2) (hM : ∀ x left,RfOk l x→(rec2 x left).2.2 = 0→Means l x (rec2 x left).1) {lf : Int} (q0 : 0≤lf) (q1 : lf≤65536) (h : (kidsM l rec2 ⟨1,s,a,d,k,0,0⟩ lf).2.2 = 0) :
    sizeL (norm (kidsM l rec2 ⟨1,s,a,d,k,0,0⟩ lf).1).kids + (kidsM l rec2 ⟨1,s,a,d,k,0,0⟩ lf).2.1≤lf := by
  have hw := hs.w
  unfold kidsM at h ⊢
  have hm := loop_means hw hr (k := 1) (fun j lf' hj hq' => hM _ _ (kid_ok hw hr _) hq') rfl h
  obtain ⟨ks,e1,e2⟩ := loopM_sum (B := 65536) (g := fun t => sizeT (norm t)) (fun i lf => stepM_lb hw b2 hr i lf) (fun j lf' hj p0 p1 hq => by
    have hst := stepM_at hq; rw [hst] at hq ⊢
    exact h2 _ _ (kid_ok hw hr j) (kid_kind (.inl rfl) j) p0 p1 hq) q0 q1 h
  change Means l _ (.mk 1 _ (loopM (stepM l rec2 _) k.toNat 0 [] lf).1) at hm
  simp only at e1 e2 ⊢
  rw [e1] at hm ⊢
  simp only [List.nil_append] at hm ⊢
  have hk := means_kidsL hs hm (.inl rfl)
  simp only [T.kids_mk] at hk
  rw [norm_struct rfl,T.kids_mk,T.kids_mk,trimK_take]
  have := sizeL_take hk (trimK (ks.map norm)).length
  rw [sgT_size] at e2
  omega
theorem rest_size {l : List (List Int)} (hs : Sg l) {r : Rf} (hr : RfOk l r) (h0 : r.kind ≠ 0) (h10 : r.kind ≠ 10) {rec1 rec2 : Rf→Int→T × Int × Int} (b1 : LB l 65536 rec1) (b2 : LB l 65536 rec2) (h1 : SZ l rec1)
    (h2 : r.kind = 9→0 < r.count→SZ l rec2∧∀ x left,RfOk l x→(rec2 x left).2.2 = 0→Means l x (rec2 x left).1) {left : Int} (hl : left≤65536) (hc : ¬ left < costM r) (hm : Means l r (restM l r rec1 rec2 left).1) (h : (restM l r rec1 rec2 left).2.2 = 0) : sizeT (norm (restM l r rec1 rec2 left).1) + (restM l r rec1 rec2 left).2.1≤left := by
  have hw := hs.w
  have hnn := nk_nonneg hr
  have hb := rf_kind hr
  have hcost := costM_nonneg hr
  have hwl := wordsR_len hr h10
  have hnk := means_nk hm
  unfold restM at h hm hnk ⊢
  by_cases h9 : r.kind = 9
  · simp only [if_pos h9] at h hm hnk ⊢
    have hkc : nk r = r.count := by simp [nk,h9]
    obtain ⟨ks,e1,e2⟩ := loopM_sum (B := 65536) (g := fun t => sizeL (norm t).kids) (fun i lf => stepM_lb hw (kidsM_lb hw b2) hr i lf) (fun j lf hj q0 q1 hq => by
      have hst := stepM_at hq; rw [hst] at hq ⊢
      have hj' : (j : Int) < nk r := by omega
      have hok := kid_ok hw hr (j : Int)
      have hkid : kidP l r j = (⟨1,r.s,r.at_ + j * (r.data + r.kids),r.data,r.kids,0,0⟩,0) := by
        rw [kidP,if_neg (by omega),if_neg (by omega),if_neg (by omega),if_pos h9]
      rw [hkid] at hq hok ⊢
      obtain ⟨z1,z2⟩ := h2 h9 (by omega)
      exact kidsM_size hs hok b2 z1 z2 q0 q1 hq) (by omega) (by omega) h
    rw [e1] at hm hnk ⊢
    simp only [List.nil_append,T.kids_mk] at hm hnk ⊢
    rw [h9] at hm ⊢
    rw [norm_mk,if_neg (by decide),if_neg (by decide),sizeT_mk,if_neg (by decide),if_neg (by decide),if_neg (by decide),if_pos rfl,List.length_map]
    rw [sgT_kids] at e2
    have hd : 0≤r.data∧0≤r.kids := by cases hr <;> simp [Rf.zero] at h9 ⊢ <;> omega
    obtain ⟨f1,f2⟩ := frame_bound (ts := ks.map norm) (w := r.data.toNat) (k := r.kids.toNat) fun u hu => by
      obtain ⟨v,hv,rfl⟩ := List.mem_map.1 hu
      obtain ⟨i,hi,rfl⟩ := List.mem_iff_getElem.1 hv
      have kk := (means_kid hm (i := i) (by simpa using hi)).2
      simp only [T.kids_mk] at kk
      have hkid : kidP l r i = (⟨1,r.s,r.at_ + i * (r.data + r.kids),r.data,r.kids,0,0⟩,0) := by
        rw [kidP,if_neg (by omega),if_neg (by omega),if_neg (by omega),if_pos h9]
      rw [hkid] at kk
      obtain ⟨l1,l2⟩ := norm_w_len kk
      have g1 := (means_word kk).1
      have g2 := means_nk kk
      simp [nwR,nk] at g1 g2
      have := nW_le ks[i]
      have := nK_le ks[i]
      omega
    have hcm : costM r = 1 + r.count * (1 + r.data + r.kids) := by simp [costM,h9]
    have hmul : (ks.length : Int) * ((frameW (ks.map norm) : Int) + frameK (ks.map norm))≤r.count * (1 + r.data + r.kids) := by
      rw [← hnk,hkc]
      exact Int.mul_le_mul_of_nonneg_left (by omega) (by omega)
    omega
  · by_cases h18 : r.kind = 1∨r.kind = 8
    · simp only [if_neg h9,if_pos h18] at h hm hnk ⊢
      obtain ⟨ks,e1,e2⟩ := loopM_sum (B := 65536) (g := fun t => sizeT (norm t)) (fun i lf => stepM_lb hw b1 hr i lf) (fun j lf hj q0 q1 hq => by
        have hst := stepM_at hq; rw [hst] at hq ⊢
        exact h1 _ _ (kid_ok hw hr j) (kid_kind h18 j) q0 q1 hq) (by omega) (by omega) h
      rw [e1] at hm hnk ⊢
      simp only [List.nil_append,T.kids_mk] at hm hnk ⊢
      have hkL := means_kidsL hs hm (by simpa using h18)
      simp only [T.kids_mk] at hkL
      rw [sgT_size] at e2
      rcases h18 with h18 | h18
      · rw [h18] at hm ⊢
        rw [if_pos h18] at hwl
        have hcm : costM r = 1 + r.data + r.kids := by simp [costM,h18]
        have hkk : nk r = r.kids := by simp [nk,h18]
        have hd0 : 0≤r.data := by cases hr <;> simp [Rf.zero] at h18 ⊢ <;> omega
        rw [norm_struct rfl,T.kids_mk,T.words_mk,sizeT_mk,if_pos rfl]
        have t1 := trimW_le (wordsR l r)
        have t2 := trimK_le (ks.map norm)
        rw [List.length_map] at t2
        have t3 := sizeL_take hkL (trimK (ks.map norm)).length
        rw [← trimK_take] at t3
        omega
      · rw [h18] at hm ⊢
        have hcm : costM r = 1 + nk r := by simp [costM,h18]
        rw [norm_mk,if_neg (by decide),if_neg (by decide),sizeT_mk,if_neg (by decide),if_pos rfl,List.length_map]
        omega
    · simp only [if_neg h9,if_neg h18] at h hm hnk ⊢
      obtain ⟨ks,e1,e2⟩ := loopM_sum (B := 65536) (g := fun _ => 0) (fun i lf => stepM_lb hw leafM_lb hr i lf) (fun j lf hj q0 q1 hq => by
        rw [stepM_at hq]
        simp [leafM]) (by omega) (by omega) h
      rw [e1] at hm hnk ⊢
      simp only [List.nil_append,T.kids_mk] at hm hnk ⊢
      have hz : ∀ L : List T,sgT (fun _ => 0) L = 0 := fun L => by
        induction L with
        | nil => rfl
        | cons t L ih => simp [sgT,ih]
      rw [hz] at e2
      have hcm : costM r = 1 + nk r := by rw [costM,if_neg (by omega),if_neg (by omega)]
      have hk2 : 2≤r.kind∧r.kind≤7 := by
        clear h hm hnk e1
        omega
      rw [norm_mk,if_neg (by omega),if_neg (by omega),sizeT_mk,if_neg (by omega),if_neg (by omega),if_pos hk2,List.length_map]
      have hroom : roomZ (r.kind - 2) ks.length≤ks.length := by
        unfold roomZ
        split
        · omega
        · obtain ⟨w,_,w2,w3⟩ : ∃ w : Nat,widthZ (r.kind - 2) = w∧bitsZ (r.kind - 2) = w∧w≤64 := by
            have : r.kind - 2 = 0∨r.kind - 2 = 1∨r.kind - 2 = 2∨r.kind - 2 = 3∨r.kind - 2 = 4∨r.kind - 2 = 5 := by omega
            rcases this with e | e | e | e | e | e <;> rw [e]
            · exact ⟨0,rfl,rfl,by simp⟩
            · exact ⟨1,rfl,rfl,by simp⟩
            · exact ⟨8,rfl,rfl,by simp⟩
            · exact ⟨16,rfl,rfl,by simp⟩
            · exact ⟨32,rfl,rfl,by simp⟩
            · exact ⟨64,rfl,rfl,by simp⟩
          rw [w2]
          have : (ks.length : Int) * w≤ks.length * 64 := Int.mul_le_mul_of_nonneg_left (by omega) (by omega)
          omega
      omega
theorem leaf_size {l : List (List Int)} {r : Rf} (h : r.kind = 0) (left : Int) : sizeT (norm (leafM l r left).1) + (leafM l r left).2.1≤left := by
  simp [leafM,norm_mk,h]
theorem meaning_size {l : List (List Int)} (hs : Sg l) : ∀ (d : Nat),SZ l (meaning l d)
  | 0 => fun r left hr h10 l0 hl h => by
    rw [meaning] at h ⊢
    split at h
    · rename_i h0; rw [if_pos h0]; exact leaf_size h0 _
    · exact absurd h (by simp [stopM])
  | 1 => fun r left hr h10 l0 hl h => by
    have hm := meaning_means hs.w 1 r left hr h
    rw [meaning] at h hm ⊢
    split at h
    · rename_i h0; rw [if_pos h0]; exact leaf_size h0 _
    · rename_i h0
      split at h
      · exact absurd h (by simp [stopM])
      · rename_i h9
        split at h
        · exact absurd h (by simp [stopM])
        · rename_i hc
          rw [if_neg h0,if_neg h9,if_neg hc] at hm ⊢
          exact rest_size hs hr h0 h10 (meaning_lb hs.w 0) (stop_lb l _) (meaning_size hs 0) (fun e c => absurd ⟨e,c⟩ h9) hl hc hm h
  | d + 2 => fun r left hr h10 l0 hl h => by
    have hm := meaning_means hs.w (d + 2) r left hr h
    rw [meaning] at h hm ⊢
    split at h
    · rename_i h0; rw [if_pos h0]; exact leaf_size h0 _
    · rename_i h0
      split at h
      · exact absurd h (by simp [stopM])
      · rename_i hc
        rw [if_neg h0,if_neg hc] at hm ⊢
        exact rest_size hs hr h0 h10 (meaning_lb hs.w (d + 1)) (meaning_lb hs.w d) (meaning_size hs (d + 1)) (fun e c => ⟨meaning_size hs d,fun x left hx hq => meaning_means hs.w d x left hx hq⟩) hl hc hm h
theorem unf_size {l : List (List Int)} (hs : Sg l) {a b : Int} (h : (unfP l a b).2.2 = 0) : sizeT (norm (unfP l a b).1)≤65536 := by
  have ha := clamp_in a 64 (by decide)
  have hb := clamp_in b 65536 (by decide)
  unfold unfP at h ⊢
  split at h
  · rename_i h0; exact absurd h h0
  · rename_i h0
    rw [if_neg h0]
    split at h
    · rename_i h1; exact absurd h h1
    · rename_i h1
      rw [if_neg h1]
      have q1 := meaning_size hs (clampZ a 64).toNat (atP l 0 0).1 (clampZ b 65536) (at_ok hs.w 0 0) (at_kind l 0 0) hb.1 hb.2 (by omega)
      have q2 := meaning_lb hs.w (B := 65536) (clampZ a 64).toNat (atP l 0 0).1 (at_ok hs.w 0 0) (clampZ b 65536) hb.1 hb.2
      simp only
      omega
end Go.Proofs.YthfiijdbnkaabaaGreat

namespace Go.Proofs.YthfiijdbnkaabaaGreat
set_option linter.unusedVariables false
set_option linter.unusedSimpArgs false
open Go Go.G Go.Proofs Go.PL
def pkOk (most : Int) (e : E) : Bool := rightE 64 e && cnOk most (treeE e) && decide ((unfP [cnW most (treeE e)] 64 65536).2.2 = 0)
def pkW (most : Int) (e : E) : List Int := if pkOk most e = true then cnW most (treeE e) else []
theorem pLimits_spec : G.Spec Tryz.prog 33 [] (liX 64 65536 0 0) := by
  refine spec_of t_patch_limits (by simp) fun w0 I0 => ?_
  unfold c_patch_limits
  simp
  exact frz_bare rfl
theorem pkEnc_spec {e : E} (hw : wfE e) (hs : smE 1048575 e) (most : Int) (hsz : rightE 64 e = true→rightT 64 (treeE e) = true→sizeT (norm (treeE e)) < 9223372036854775808) :
    G.Spec Tryz.prog 10 [eX e,iv most] (.tup [uws (pkW most e),bv (pkOk most e)]) := by
  have no : pkOk most e = false→pkW most e = [] := fun h => by simp [pkW,h]
  have hwt := wf_tree e hw hs (.inr trivial)
  have sg := cn_sg (most := most) hwt
  refine spec_of t_patch_Encode (by simp) fun w0 I0 => ?_
  unfold c_patch_Encode
  simp
  refine sc_call (peRight_spec hw) (by simp) ?_
  by_cases hr : rightE 64 e = true
  · simp [hr]
    refine sc_call (pTree_all e hw hs ⟨64,hr⟩) (by simp) ?_
    simp
    refine sc_call (cnEnc_spec hwt most (fun h1 _ => hsz hr h1)) (by simp) ?_
    by_cases hc : cnOk most (treeE e) = true
    · simp [hc]
      refine sc_call ((of_spec [cnW most (treeE e)] (by simp) sg.b).soft (by simp [A.softL,A.soft,soft_uv])) (by simp) ?_
      simp
      refine sc_call pLimits_spec (by simp) ?_
      simp
      refine sc_call (vCheck_spec sg 64 65536 0 0) (by simp) ?_
      by_cases hu : (unfP [cnW most (treeE e)] 64 65536).2.2 = 0
      · have hf : pkOk most e = true := by simp [pkOk,hr,hc,hu]
        have hW : pkW most e = cnW most (treeE e) := by simp [pkW,hf]
        rw [hW,hf]
        simp [hu]
        exact frz_bare rfl
      · have hf : pkOk most e = false := by simp [pkOk,hu]
        rw [no hf,hf]
        simp [hu]
        exact frz_tup (by simp; exact ⟨frz_sl,frz_bare rfl⟩)
    · have hf : pkOk most e = false := by simp [pkOk,hc]
      rw [no hf,hf]
      simp at hc
      simp [hc]
      exact frz_tup (by simp; exact ⟨frz_sl,frz_bare rfl⟩)
  · have hf : pkOk most e = false := by simp [pkOk,hr]
    rw [no hf,hf]
    simp at hr
    simp [hr]
    exact frz_tup (by simp; exact ⟨frz_sl,frz_bare rfl⟩)
end Go.Proofs.YthfiijdbnkaabaaGreat

namespace Go.Proofs.YthfiijdbnkaabaaGreat
set_option linter.unusedVariables false
set_option linter.unusedSimpArgs false
open Go Go.G Go.Proofs Go.PL
theorem cnW_len {most : Int} {t : T} (hw : wfT t) (h : cnOk most t = true) : ((cnW most t).length : Int) = 1 + sizeT (norm t) := by
  have hW : cnW most t = layT (norm t) 0 [0] := by simp [cnW,h]
  simp [cnOk] at h
  obtain ⟨⟨⟨hr,h10⟩,_⟩,hs⟩ := h
  have hok := laid_right t 64 hr hw h10
  have hlen := (lay_len (norm t)).1 hok 0 [0]
  rw [hW]
  simpa using hlen
theorem cnOk_iff {most : Int} {t : T} : cnOk most t = true ↔ rightT 64 t = true∧t.kind ≠ 10∧sizeT (norm t) < most∧sizeT (norm t) < 131072 := by
  unfold cnOk
  simp only [Bool.and_eq_true,Bool.not_eq_true',decide_eq_true_eq,decide_eq_false_iff_not,and_assoc]
end Go.Proofs.YthfiijdbnkaabaaGreat

namespace Go.Proofs.YthfiijdbnkaabaaGreat
set_option linter.unusedVariables false
set_option linter.unusedSimpArgs false
open Go Go.G Go.Proofs Go.PL
noncomputable def rdB (t : T) : Bool := rightE 64 (guess t) && eqT (treeE (guess t)) t
noncomputable def rdE (t : T) : E := if rdB t = true then guess t else E0
theorem frz_E0 {H : Hp} : Frz H (.agg [iv 0,iv 0,.sl true [],.sl true [],iv 0,.sl true [],.sl true [],.sl true [],.sl true [],iv 0,.sl true []]) (eX E0) := frz_agg (by
  simp
  repeat' (first | exact frz_sl | exact frz_bare rfl | apply And.intro))
theorem pReadT_spec {t : T} (hw : wfT t) (hr : ∃ d,rightT d t = true) : G.Spec Tryz.prog 16 [tX t] (.tup [eX (rdE t),bv (rdB t)]) := by
  have hwg := guess_wf _ t (Nat.le_refl _) hw hr
  have hsg := guess_sm _ t (Nat.le_refl _) hr
  have hwt := wf_tree (guess t) hwg hsg (.inr trivial)
  have hsm : SmT t := by obtain ⟨d,hd⟩ := hr; exact sm_right t d hd
  have hR := (read_all t hw hsm).1
  unfold PReadS at hR
  refine spec_of t_patch_Read (by simp) fun w0 I0 => ?_
  unfold c_patch_Read
  simp
  refine sc_call hR rfl ?_
  simp
  refine sc_call (peRight_spec hwg) (by simp) ?_
  by_cases hr1 : rightE 64 (guess t) = true
  · have hT := pTree_all (guess t) hwg hsg ⟨64,hr1⟩
    unfold PTreeS at hT
    simp [hr1]
    refine sc_call_gf rfl (fun _ => hT) (fun _ => rfl) (by simp) ?_
    simp [updF_app]
    refine sc_call_gf rfl (fun _ => ptEqual_spec hwt (tree_right (guess t) 64 hsg hr1) hw hr) (fun _ => rfl) (by simp) ?_
    by_cases he : eqT (treeE (guess t)) t = true
    · have hB : rdB t = true := by simp [rdB,hr1,he]
      have hE : rdE t = guess t := by simp [rdE,hB]
      rw [hE,hB]
      simp [he]
      exact frz_bare (tup_bare (by simp))
    · have hB : rdB t = false := by simp [rdB,he]
      have hE : rdE t = E0 := by simp [rdE,hB]
      rw [hE,hB]
      simp [he]
      exact frz_tup (by simp; exact ⟨frz_E0,frz_bare rfl⟩)
  · have hB : rdB t = false := by simp [rdB,hr1]
    have hE : rdE t = E0 := by simp [rdE,hB]
    rw [hE,hB]
    simp at hr1
    simp [hr1]
    refine sc_call_off rfl ?_
    simp
    refine sc_call_off rfl ?_
    simp
    exact frz_tup (by simp; exact ⟨frz_E0,frz_bare rfl⟩)
theorem rReadT_spec {t : T} (hw : wfT t) (hr : ∃ d,rightT d t = true) : G.Spec Tryz.prog 20 [tX t] (.tup [eX (rdE t),bv (rdB t)]) := by
  have hwg := guess_wf _ t (Nat.le_refl _) hw hr
  have hsg := guess_sm _ t (Nat.le_refl _) hr
  have hwt := wf_tree (guess t) hwg hsg (.inr trivial)
  have hsm : SmT t := by obtain ⟨d,hd⟩ := hr; exact sm_right t d hd
  have hR := (guess_all t hw hsm).1
  unfold GuessS at hR
  refine spec_of t_centoref27_Read (by simp) fun w0 I0 => ?_
  unfold c_centoref27_Read
  simp
  refine sc_call hR rfl ?_
  simp
  refine sc_call (eright_spec (guess t) hwg 64 (by omega)) (by simp) ?_
  by_cases hr1 : rightE 64 (guess t) = true
  · have hT := tree_spec (guess t) hsg
    simp [hr1]
    refine sc_call_gf rfl (fun _ => hT) (fun _ => rfl) (by simp) ?_
    simp [updF_app]
    refine sc_call_gf rfl (fun _ => rEqual_spec hwt hw (wf_norm _ hwt)) (fun _ => rfl) (by simp) ?_
    by_cases he : eqT (treeE (guess t)) t = true
    · have hB : rdB t = true := by simp [rdB,hr1,he]
      have hE : rdE t = guess t := by simp [rdE,hB]
      rw [hE,hB]
      simp [he]
      exact frz_bare (tup_bare (by simp))
    · have hB : rdB t = false := by simp [rdB,he]
      have hE : rdE t = E0 := by simp [rdE,hB]
      rw [hE,hB]
      simp [he]
      exact frz_tup (by simp; exact ⟨frz_E0,frz_bare rfl⟩)
  · have hB : rdB t = false := by simp [rdB,hr1]
    have hE : rdE t = E0 := by simp [rdE,hB]
    rw [hE,hB]
    simp at hr1
    simp [hr1]
    refine sc_call_off rfl ?_
    simp
    refine sc_call_off rfl ?_
    simp
    exact frz_tup (by simp; exact ⟨frz_E0,frz_bare rfl⟩)
end Go.Proofs.YthfiijdbnkaabaaGreat

namespace Go.Proofs.YthfiijdbnkaabaaGreat
set_option linter.unusedVariables false
set_option linter.unusedSimpArgs false
open Go Go.G Go.Proofs Go.PL
def dcT (l : List Int) (a b : Int) : T × Int :=
  if (unfP [l] a b).2.2 ≠ 0 then (T0,(unfP [l] a b).2.2)
  else if cnOk 131072 (norm (unfP [l] a b).1) = true∧l = cnW 131072 (norm (unfP [l] a b).1) then (norm (unfP [l] a b).1,0) else (T0,5)
theorem cDecode_spec {l : List Int} (hs : Sg [l]) (a b c d : Int) : G.Spec Tryz.prog 55 [uws l,liX a b c d] (.tup [tX (dcT l a b).1,iv (dcT l a b).2]) := by
  have hlen := hs.b l (by simp)
  have hM := uMessage_spec hs a b c d
  have hmean := unfold_means hs (a := a) (b := b)
  have hsz := unf_size hs (a := a) (b := b)
  unfold dcT
  generalize unfP [l] a b = x at hM hmean hsz
  obtain ⟨t,wt,e⟩ := x
  simp only at hM hmean hsz ⊢
  refine spec_of t_canon_Decode (by simp) fun w0 I0 => ?_
  unfold c_canon_Decode
  simp
  refine sc_call ((of_spec [l] (by simp) hs.b).soft (by simp [A.softL,A.soft,soft_uv])) (by simp) ?_
  simp
  refine sc_call hM (by simp) ?_
  by_cases he : e = 0
  · subst he
    have hw := means_wf hs _ _ (hmean rfl)
    have hz := hsz rfl
    have hE := cnEnc_spec (wf_norm _ hw) 131072 (fun _ _ => by rw [norm_norm]; omega)
    have e1 : A.agg [iv t.kind,uws (norm t).words,tKs (norm t).kids] = tX (norm t) := by simp
    simp [updF_app]
    refine sc_calle (L := [tX (norm t),iv 131072]) (by simp) hE (by simp) ?_
    by_cases hc : cnOk 131072 (norm t) = true
    · simp [hc]
      refine sc_call_gf rfl (fun _ => sEqual_spec l _ hlen) (fun _ => rfl) (by simp) ?_
      by_cases hq : l = cnW 131072 (norm t)
      · rw [← hq]
        simp
        rw [e1]
        exact frz_bare (tup_bare (by simp))
      · simp [hq]
        exact frz_tup (by simp; exact ⟨frz_T0,frz_bare rfl⟩)
    · simp at hc
      simp [hc]
      refine sc_call_off rfl ?_
      simp
      exact frz_tup (by simp; exact ⟨frz_T0,frz_bare rfl⟩)
  · simp [he]
    exact frz_tup (by simp; exact ⟨frz_T0,frz_bare rfl⟩)
theorem dcT_right {l : List Int} (hs : Sg [l]) {a b : Int} (h : (dcT l a b).2 = 0) : wfT (dcT l a b).1∧rightT 64 (dcT l a b).1 = true := by
  unfold dcT at h ⊢
  split at h
  · rename_i h0; exact absurd h h0
  · rename_i h0
    rw [if_neg h0]
    split at h
    · rename_i h1
      rw [if_pos h1]
      exact ⟨wf_norm _ (means_wf hs _ _ (unfold_means hs (by simpa using h0))),(cnOk_iff.1 h1.1).1⟩
    · cases h
noncomputable def dcE (l : List Int) : E × Int := if (dcT l 64 65536).2 ≠ 0 then (E0,(dcT l 64 65536).2) else if rdB (dcT l 64 65536).1 = true then (rdE (dcT l 64 65536).1,0) else (E0,12)
theorem pDecode_spec {l : List Int} (hs : Sg [l]) : G.Spec Tryz.prog 27 [uws l] (.tup [eX (dcE l).1,iv (dcE l).2]) := by
  have hD := cDecode_spec hs 64 65536 0 0
  have hr := dcT_right hs (a := 64) (b := 65536)
  unfold dcE
  generalize dcT l 64 65536 = x at hD hr
  obtain ⟨t,e⟩ := x
  simp only at hD hr ⊢
  refine spec_of t_patch_Decode (by simp) fun w0 I0 => ?_
  unfold c_patch_Decode
  simp
  refine sc_call pLimits_spec (by simp) ?_
  simp
  refine sc_call hD (by simp) ?_
  by_cases he : e = 0
  · subst he
    obtain ⟨hw,hr64⟩ := hr rfl
    simp [updF_app]
    refine sc_call (pReadT_spec hw ⟨64,hr64⟩) (by simp) ?_
    by_cases hB : rdB t = true
    · simp [hB]
      exact frz_bare (tup_bare (by simp))
    · simp at hB
      simp [hB]
      exact frz_tup (by simp; exact ⟨frz_E0,frz_bare rfl⟩)
  · simp [he]
    exact frz_tup (by simp; exact ⟨frz_E0,frz_bare rfl⟩)
section
variable {n0 : Nat} {w0 : World} {I0 : Nat→Prop} {Q : Exit→Sta→Prop}
end
end Go.Proofs.YthfiijdbnkaabaaGreat

namespace Go.Proofs.YthfiijdbnkaabaaGreat
set_option linter.unusedVariables false
set_option linter.unusedSimpArgs false
open Go Go.G Go.Proofs Go.PL
inductive Lk (R : T→T→Prop) : E→E→Prop
  | mk (k : Int) (o n o' n' : T) (ws : List WE) (ks ks' : List KE) (l : Int) (os os' : List OP) : R o o'→R n n'→ks.length = ks'.length →
    (∀ (i : Nat) (h : i < ks.length) (h' : i < ks'.length),ks[i].at_ = ks'[i].at_)→(∀ (i : Nat) (h : i < ks.length) (h' : i < ks'.length),Lk R ks[i].e ks'[i].e)→os.length = os'.length →
    (∀ (i : Nat) (h : i < os.length) (h' : i < os'.length),os[i].kind = os'[i].kind∧os[i].n = os'[i].n∧(os[i].l.length = os'[i].l.length∧∀ (j : Nat) (g : j < os[i].l.length) (g' : j < os'[i].l.length),R (os[i].l[j]) (os'[i].l[j]))) →
    (∀ (i : Nat) (h : i < os.length) (h' : i < os'.length),Lk R os[i].e os'[i].e) →
    Lk R (.mk k o n ws ks l os) (.mk k o' n' ws ks' l os')
theorem lk_refl {R : T→T→Prop} (h : ∀ t,R t t) : ∀ e,Lk R e e := by
  refine E.ind fun k o n ws ks l os ihk iho => ?_
  exact .mk _ _ _ _ _ _ _ _ _ _ _ (h o) (h n) rfl (fun i h1 _ => rfl) (fun i h1 _ => ihk _ (List.getElem_mem h1)) rfl (fun i h1 _ => ⟨rfl,rfl,⟨rfl,fun j _ _ => h _⟩⟩) (fun i h1 _ => iho _ (List.getElem_mem h1))
section
variable {n0 : Nat} {w0 : World} {I0 : Nat→Prop} {Q : Exit→Sta→Prop}
theorem eqE_t1 {a b : List T} {H : Hp} (hl : a.length = b.length) (hb : a.length * 56≤140737488355328) (h : ∀ (i : Nat) (h1 : i < a.length) (h2 : i < b.length),G.Spec Tryz.prog 43 [tX a[i],tX b[i]] (bv true)) (hq : ∀ i q,Q (.exit 0) ⟨lk [(0,tKs a),(1,tKs b),(5,iv i),(14,bv q)],H⟩) : ∀ (m i : Nat),i + m = a.length →
    LoopC (cx Tryz.prog w0 I0 n0) l1_centoref20_sameTrees Q ⟨lk [(0,tKs a),(1,tKs b),(5,nv i)],H⟩ := by
  intro m
  induction m with
  | zero =>
    intro i hi
    have : i = a.length := by omega
    subst this
    refine loopC_once mixed l1_centoref20_sameTrees.eq_1 ?_
    simp
    exact hq _ _
  | succ m ih =>
    intro i hi
    have hlt : i < a.length := by omega
    have hlt2 : i < b.length := by omega
    have ei : IntKind.i64.wrap ((i : Int) + 1) = ((i + 1 : Nat) : Int) := i64_same (by omega) (by omega)
    refine loopC_once mixed l1_centoref20_sameTrees.eq_1 ?_
    simp [hlt,hlt2]
    refine sc_call (h i hlt hlt2) (by simp) ?_
    simp [ei]
    exact ih (i + 1) (by omega)
end
theorem eqE_trees {a b : List T} (hl : a.length = b.length) (hb : a.length * 56≤140737488355328) (h : ∀ (i : Nat) (h1 : i < a.length) (h2 : i < b.length),G.Spec Tryz.prog 43 [tX a[i],tX b[i]] (bv true)) : G.Spec Tryz.prog 44 [tKs a,tKs b] (bv true) := by
  refine spec_of t_centoref20_sameTrees (by simp) fun w0 I0 => ?_
  unfold c_centoref20_sameTrees
  simp [hl]
  refine eqE_t1 hl hb h (fun i q => ?_) a.length 0 (by omega)
  simp
  exact frz_bare rfl
section
variable {n0 : Nat} {w0 : World} {I0 : Nat→Prop} {Q : Exit→Sta→Prop}
theorem eqE_l1 {e f : E} {H : Hp} (h0 : H [0] = ⟨1,.cells (eL e)⟩) (h1 : H [1] = ⟨1,.cells (eL f)⟩) (hw : e.words = f.words) (hb : e.words.length * 32≤140737488355328) (hq : ∀ i q,Q (.exit 0) ⟨lk [(2,.pob [0] 1 0),(3,.pob [1] 1 0),(5,iv i),(69,bv q)],H⟩) : ∀ (m i : Nat),i + m = e.words.length →
    LoopC (cx Tryz.prog w0 I0 n0) l1_centoref20_Equal Q ⟨lk [(2,.pob [0] 1 0),(3,.pob [1] 1 0),(5,nv i)],H⟩ := by
  intro m
  induction m with
  | zero =>
    intro i hi
    have : i = e.words.length := by omega
    subst this
    refine loopC_once mixed l1_centoref20_Equal.eq_1 ?_
    simp [h0,h1]
    exact hq _ _
  | succ m ih =>
    intro i hi
    have hlt : i < e.words.length := by omega
    have hlt2 : i < f.words.length := by rw [← hw]; omega
    have ei : IntKind.i64.wrap ((i : Int) + 1) = ((i + 1 : Nat) : Int) := i64_same (by omega) (by omega)
    have hx : e.words[i] = f.words[i] := by simp only [hw]
    refine loopC_once mixed l1_centoref20_Equal.eq_1 ?_
    simp [hlt,hlt2,h0,h1,hx]
    simp [ei]
    exact ih (i + 1) (by omega)
theorem eqE_l2 {e f : E} {H : Hp} (h0 : H [0] = ⟨1,.cells (eL e)⟩) (h1 : H [1] = ⟨1,.cells (eL f)⟩) (hl : e.kids.length = f.kids.length) (hb : e.kids.length * 208≤140737488355328) (hk : ∀ (i : Nat) (g : i < e.kids.length) (g' : i < f.kids.length),e.kids[i].at_ = f.kids[i].at_∧G.Spec Tryz.prog 18 [eX e.kids[i].e,eX f.kids[i].e] (bv true)) (hq : ∀ i q,Q (.exit 2) ⟨lk [(2,.pob [0] 1 0),(3,.pob [1] 1 0),(6,iv i),(87,bv q)],H⟩) : ∀ (m i : Nat),i + m = e.kids.length →
    LoopC (cx Tryz.prog w0 I0 n0) l2_centoref20_Equal Q ⟨lk [(2,.pob [0] 1 0),(3,.pob [1] 1 0),(6,nv i)],H⟩ := by
  intro m
  induction m with
  | zero =>
    intro i hi
    have : i = e.kids.length := by omega
    subst this
    refine loopC_once mixed l2_centoref20_Equal.eq_1 ?_
    simp [h0,h1]
    exact hq _ _
  | succ m ih =>
    intro i hi
    have hlt : i < e.kids.length := by omega
    have hlt2 : i < f.kids.length := by omega
    have ei : IntKind.i64.wrap ((i : Int) + 1) = ((i + 1 : Nat) : Int) := i64_same (by omega) (by omega)
    obtain ⟨ha,hs⟩ := hk i hlt hlt2
    refine loopC_once mixed l2_centoref20_Equal.eq_1 ?_
    simp [hlt,hlt2,h0,h1,ha]
    refine sc_call_gf rfl (fun _ => hs) (fun _ => rfl) (by simp) ?_
    simp [ei]
    exact ih (i + 1) (by omega)
theorem eqE_l3 {e f : E} (hl : e.ops.length = f.ops.length) (hb : e.ops.length * 240≤140737488355328) (hk : ∀ (i : Nat) (g : i < e.ops.length) (g' : i < f.ops.length),e.ops[i].kind = f.ops[i].kind∧e.ops[i].n = f.ops[i].n∧G.Spec Tryz.prog 44 [tKs e.ops[i].l,tKs f.ops[i].l] (bv true)∧G.Spec Tryz.prog 18 [eX e.ops[i].e,eX f.ops[i].e] (bv true)) (hq : ∀ H' i q,Q (.exit 4) ⟨lk [(2,.pob [0] 1 0),(3,.pob [1] 1 0),(7,iv i),(123,bv q)],H'⟩) : ∀ (m i : Nat) (H : Hp),i + m = e.ops.length→H [0] = ⟨1,.cells (eL e)⟩→H [1] = ⟨1,.cells (eL f)⟩ →
    LoopC (cx Tryz.prog w0 I0 n0) l3_centoref20_Equal Q ⟨lk [(2,.pob [0] 1 0),(3,.pob [1] 1 0),(7,nv i)],H⟩ := by
  intro m
  induction m with
  | zero =>
    intro i H hi h0 h1
    have : i = e.ops.length := by omega
    subst this
    refine loopC_once mixed l3_centoref20_Equal.eq_1 ?_
    simp [h0,h1]
    exact hq _ _ _
  | succ m ih =>
    intro i H hi h0 h1
    have hlt : i < e.ops.length := by omega
    have hlt2 : i < f.ops.length := by omega
    have ei : IntKind.i64.wrap ((i : Int) + 1) = ((i + 1 : Nat) : Int) := i64_same (by omega) (by omega)
    obtain ⟨ha,hn,ht,hs⟩ := hk i hlt hlt2
    refine loopC_once mixed l3_centoref20_Equal.eq_1 ?_
    simp [hlt,hlt2,h0,h1,updF_app,ha,hn]
    refine sc_call_gf rfl (fun _ => ht) (fun _ => rfl) (by simp) ?_
    simp [updF_app]
    refine sc_call_gf rfl (fun _ => hs) (fun _ => rfl) (by simp) ?_
    simp [ei]
    exact ih (i + 1) _ (by omega) (by simp [updF_app,h0]) (by simp [updF_app,h1])
end
set_option maxRecDepth 10000 in
theorem eqE_spec {R : T→T→Prop} (hR : ∀ a b,wfT a→wfT b→R a b→G.Spec Tryz.prog 43 [tX a,tX b] (bv true)) : ∀ (e f : E),wfE e→wfE f→Lk R e f→G.Spec Tryz.prog 18 [eX e,eX f] (bv true) := by
  refine E.ind fun k o nn ws ks l os ihk iho f hw hwf hl => ?_
  cases hl with
  | mk _ _ _ o' n' _ _ ks' _ _ os' r1 r2 r3 r4 r4b r5 r6 r6b =>
    have h := wfE_iff.1 hw
    have g := wfE_iff.1 hwf
    have h1 := hR _ _ h.o g.o r1
    have h2 := hR _ _ h.n g.n r2
    simp only [E.old_mk,E.new_mk] at h1 h2
    refine spec_of t_centoref20_Equal (by simp) fun w0 I0 => ?_
    unfold c_centoref20_Equal
    simp
    refine sc_call_gf rfl (fun _ => h1) (fun _ => rfl) (by simp) ?_
    simp
    refine sc_call_gf rfl (fun _ => h2) (fun _ => rfl) (by simp) ?_
    simp [r3,r5]
    refine eqE_l1 (e := .mk k o nn ws ks l os) (f := .mk k o' n' ws ks' l os') (by simp) (by simp) rfl h.wl (fun i q => ?_) ws.length 0 (by simp)
    simp
    refine eqE_l2 (e := .mk k o nn ws ks l os) (f := .mk k o' n' ws ks' l os') (by simp) (by simp) r3 h.kl (fun i a b => ⟨r4 i a b,ihk _ (List.getElem_mem a) _ (h.ks _ (List.getElem_mem a)).2 (g.ks _ (List.getElem_mem b)).2 (r4b i a b)⟩) (fun i q => ?_) ks.length 0 (by simp)
    simp
    refine eqE_l3 (e := .mk k o nn ws ks l os) (f := .mk k o' n' ws ks' l os') r5 h.ol (fun i a b => ?_) (fun H' i q => ?_) os.length 0 _ (by simp) (by simp) (by simp)
    · obtain ⟨q1,q2,q3,q4⟩ := r6 i a b
      have q5 := r6b i a b
      have ha := h.os _ (List.getElem_mem a)
      have hb := g.os _ (List.getElem_mem b)
      exact ⟨q1,q2,eqE_trees q3 ha.ll (fun j g1 g2 => hR _ _ (ha.l _ (List.getElem_mem g1)) (hb.l _ (List.getElem_mem g2)) (q4 j g1 g2)),iho _ (List.getElem_mem a) _ ha.e hb.e q5⟩
    · simp
      exact frz_bare rfl
section
variable {n0 : Nat} {w0 : World} {I0 : Nat→Prop} {Q : Exit→Sta→Prop}
theorem smEd_t1 {a b : List T} {H : Hp} (hl : a.length = b.length) (hb : a.length * 56≤140737488355328) (h : ∀ (i : Nat) (h1 : i < a.length) (h2 : i < b.length),G.Spec Tryz.prog 14 [tX a[i],tX b[i]] (bv true)) (hq : ∀ i q,Q (.exit 0) ⟨lk [(0,tKs a),(1,tKs b),(5,iv i),(14,bv q)],H⟩) : ∀ (m i : Nat),i + m = a.length →
    LoopC (cx Tryz.prog w0 I0 n0) l1_centoref22_sameTrees Q ⟨lk [(0,tKs a),(1,tKs b),(5,nv i)],H⟩ := by
  intro m
  induction m with
  | zero =>
    intro i hi
    have : i = a.length := by omega
    subst this
    refine loopC_once mixed l1_centoref22_sameTrees.eq_1 ?_
    simp
    exact hq _ _
  | succ m ih =>
    intro i hi
    have hlt : i < a.length := by omega
    have hlt2 : i < b.length := by omega
    have ei : IntKind.i64.wrap ((i : Int) + 1) = ((i + 1 : Nat) : Int) := i64_same (by omega) (by omega)
    refine loopC_once mixed l1_centoref22_sameTrees.eq_1 ?_
    simp [hlt,hlt2]
    refine sc_call (h i hlt hlt2) (by simp) ?_
    simp [ei]
    exact ih (i + 1) (by omega)
end
theorem smEd_trees {a b : List T} (hl : a.length = b.length) (hb : a.length * 56≤140737488355328) (h : ∀ (i : Nat) (h1 : i < a.length) (h2 : i < b.length),G.Spec Tryz.prog 14 [tX a[i],tX b[i]] (bv true)) : G.Spec Tryz.prog 47 [tKs a,tKs b] (bv true) := by
  refine spec_of t_centoref22_sameTrees (by simp) fun w0 I0 => ?_
  unfold c_centoref22_sameTrees
  simp [hl]
  refine smEd_t1 hl hb h (fun i q => ?_) a.length 0 (by omega)
  simp
  exact frz_bare rfl
section
variable {n0 : Nat} {w0 : World} {I0 : Nat→Prop} {Q : Exit→Sta→Prop}
theorem smEd_l1 {e f : E} {H : Hp} (h0 : H [0] = ⟨1,.cells (eL e)⟩) (h1 : H [1] = ⟨1,.cells (eL f)⟩) (hw : e.words = f.words) (hb : e.words.length * 32≤140737488355328) (hq : ∀ i q,Q (.exit 0) ⟨lk [(2,.pob [0] 1 0),(3,.pob [1] 1 0),(5,iv i),(69,bv q)],H⟩) : ∀ (m i : Nat),i + m = e.words.length →
    LoopC (cx Tryz.prog w0 I0 n0) l1_centoref22_Same Q ⟨lk [(2,.pob [0] 1 0),(3,.pob [1] 1 0),(5,nv i)],H⟩ := by
  intro m
  induction m with
  | zero =>
    intro i hi
    have : i = e.words.length := by omega
    subst this
    refine loopC_once mixed l1_centoref22_Same.eq_1 ?_
    simp [h0,h1]
    exact hq _ _
  | succ m ih =>
    intro i hi
    have hlt : i < e.words.length := by omega
    have hlt2 : i < f.words.length := by rw [← hw]; omega
    have ei : IntKind.i64.wrap ((i : Int) + 1) = ((i + 1 : Nat) : Int) := i64_same (by omega) (by omega)
    have hx : e.words[i] = f.words[i] := by simp only [hw]
    refine loopC_once mixed l1_centoref22_Same.eq_1 ?_
    simp [hlt,hlt2,h0,h1,hx]
    simp [ei]
    exact ih (i + 1) (by omega)
theorem smEd_l2 {e f : E} {H : Hp} (h0 : H [0] = ⟨1,.cells (eL e)⟩) (h1 : H [1] = ⟨1,.cells (eL f)⟩) (hl : e.kids.length = f.kids.length) (hb : e.kids.length * 208≤140737488355328) (hk : ∀ (i : Nat) (g : i < e.kids.length) (g' : i < f.kids.length),e.kids[i].at_ = f.kids[i].at_∧G.Spec Tryz.prog 21 [eX e.kids[i].e,eX f.kids[i].e] (bv true)) (hq : ∀ i q,Q (.exit 2) ⟨lk [(2,.pob [0] 1 0),(3,.pob [1] 1 0),(6,iv i),(87,bv q)],H⟩) : ∀ (m i : Nat),i + m = e.kids.length →
    LoopC (cx Tryz.prog w0 I0 n0) l2_centoref22_Same Q ⟨lk [(2,.pob [0] 1 0),(3,.pob [1] 1 0),(6,nv i)],H⟩ := by
  intro m
  induction m with
  | zero =>
    intro i hi
    have : i = e.kids.length := by omega
    subst this
    refine loopC_once mixed l2_centoref22_Same.eq_1 ?_
    simp [h0,h1]
    exact hq _ _
  | succ m ih =>
    intro i hi
    have hlt : i < e.kids.length := by omega
    have hlt2 : i < f.kids.length := by omega
    have ei : IntKind.i64.wrap ((i : Int) + 1) = ((i + 1 : Nat) : Int) := i64_same (by omega) (by omega)
    obtain ⟨ha,hs⟩ := hk i hlt hlt2
    refine loopC_once mixed l2_centoref22_Same.eq_1 ?_
    simp [hlt,hlt2,h0,h1,ha]
    refine sc_call_gf rfl (fun _ => hs) (fun _ => rfl) (by simp) ?_
    simp [ei]
    exact ih (i + 1) (by omega)
theorem smEd_l3 {e f : E} (hl : e.ops.length = f.ops.length) (hb : e.ops.length * 240≤140737488355328) (hk : ∀ (i : Nat) (g : i < e.ops.length) (g' : i < f.ops.length),e.ops[i].kind = f.ops[i].kind∧e.ops[i].n = f.ops[i].n∧G.Spec Tryz.prog 47 [tKs e.ops[i].l,tKs f.ops[i].l] (bv true)∧G.Spec Tryz.prog 21 [eX e.ops[i].e,eX f.ops[i].e] (bv true)) (hq : ∀ H' i q,Q (.exit 4) ⟨lk [(2,.pob [0] 1 0),(3,.pob [1] 1 0),(7,iv i),(123,bv q)],H'⟩) : ∀ (m i : Nat) (H : Hp),i + m = e.ops.length→H [0] = ⟨1,.cells (eL e)⟩→H [1] = ⟨1,.cells (eL f)⟩ →
    LoopC (cx Tryz.prog w0 I0 n0) l3_centoref22_Same Q ⟨lk [(2,.pob [0] 1 0),(3,.pob [1] 1 0),(7,nv i)],H⟩ := by
  intro m
  induction m with
  | zero =>
    intro i H hi h0 h1
    have : i = e.ops.length := by omega
    subst this
    refine loopC_once mixed l3_centoref22_Same.eq_1 ?_
    simp [h0,h1]
    exact hq _ _ _
  | succ m ih =>
    intro i H hi h0 h1
    have hlt : i < e.ops.length := by omega
    have hlt2 : i < f.ops.length := by omega
    have ei : IntKind.i64.wrap ((i : Int) + 1) = ((i + 1 : Nat) : Int) := i64_same (by omega) (by omega)
    obtain ⟨ha,hn,ht,hs⟩ := hk i hlt hlt2
    refine loopC_once mixed l3_centoref22_Same.eq_1 ?_
    simp [hlt,hlt2,h0,h1,updF_app,ha,hn]
    refine sc_call_gf rfl (fun _ => ht) (fun _ => rfl) (by simp) ?_
    simp [updF_app]
    refine sc_call_gf rfl (fun _ => hs) (fun _ => rfl) (by simp) ?_
    simp [ei]
    exact ih (i + 1) _ (by omega) (by simp [updF_app,h0]) (by simp [updF_app,h1])
end
set_option maxRecDepth 10000 in
theorem smEd_spec {R : T→T→Prop} (hR : ∀ a b,wfT a→wfT b→R a b→G.Spec Tryz.prog 14 [tX a,tX b] (bv true)) : ∀ (e f : E),wfE e→wfE f→Lk R e f→G.Spec Tryz.prog 21 [eX e,eX f] (bv true) := by
  refine E.ind fun k o nn ws ks l os ihk iho f hw hwf hl => ?_
  cases hl with
  | mk _ _ _ o' n' _ _ ks' _ _ os' r1 r2 r3 r4 r4b r5 r6 r6b =>
    have h := wfE_iff.1 hw
    have g := wfE_iff.1 hwf
    have h1 := hR _ _ h.o g.o r1
    have h2 := hR _ _ h.n g.n r2
    simp only [E.old_mk,E.new_mk] at h1 h2
    refine spec_of t_centoref22_Same (by simp) fun w0 I0 => ?_
    unfold c_centoref22_Same
    simp
    refine sc_call_gf rfl (fun _ => h1) (fun _ => rfl) (by simp) ?_
    simp
    refine sc_call_gf rfl (fun _ => h2) (fun _ => rfl) (by simp) ?_
    simp [r3,r5]
    refine smEd_l1 (e := .mk k o nn ws ks l os) (f := .mk k o' n' ws ks' l os') (by simp) (by simp) rfl h.wl (fun i q => ?_) ws.length 0 (by simp)
    simp
    refine smEd_l2 (e := .mk k o nn ws ks l os) (f := .mk k o' n' ws ks' l os') (by simp) (by simp) r3 h.kl (fun i a b => ⟨r4 i a b,ihk _ (List.getElem_mem a) _ (h.ks _ (List.getElem_mem a)).2 (g.ks _ (List.getElem_mem b)).2 (r4b i a b)⟩) (fun i q => ?_) ks.length 0 (by simp)
    simp
    refine smEd_l3 (e := .mk k o nn ws ks l os) (f := .mk k o' n' ws ks' l os') r5 h.ol (fun i a b => ?_) (fun H' i q => ?_) os.length 0 _ (by simp) (by simp) (by simp)
    · obtain ⟨q1,q2,q3,q4⟩ := r6 i a b
      have q5 := r6b i a b
      have ha := h.os _ (List.getElem_mem a)
      have hb := g.os _ (List.getElem_mem b)
      exact ⟨q1,q2,smEd_trees q3 ha.ll (fun j g1 g2 => hR _ _ (ha.l _ (List.getElem_mem g1)) (hb.l _ (List.getElem_mem g2)) (q4 j g1 g2)),iho _ (List.getElem_mem a) _ ha.e hb.e q5⟩
    · simp
      exact frz_bare rfl
end Go.Proofs.YthfiijdbnkaabaaGreat

namespace Go.Proofs.YthfiijdbnkaabaaGreat
set_option linter.unusedVariables false
set_option linter.unusedSimpArgs false
open Go Go.G Go.Proofs Go.PL
theorem wf_mask : ∀ e : E,wfE e→maskE e := by
  refine E.ind fun k o nn ws ks l os ihk iho h => ?_
  have h := wfE_iff.1 h
  rw [maskE_mk,maskKs_all,maskOs_all]
  exact ⟨fun w hw => (h.w w hw).2.1,fun x hx => ihk x hx (h.ks x hx).2,fun x hx => iho x hx (h.os x hx).e⟩
theorem pkOk_iff {most : Int} {e : E} : pkOk most e = true ↔ rightE 64 e = true∧cnOk most (treeE e) = true∧(unfP [cnW most (treeE e)] 64 65536).2.2 = 0 := by
  unfold pkOk
  simp only [Bool.and_eq_true,decide_eq_true_eq,and_assoc]
theorem cnW_yes {most : Int} {t : T} (h : cnOk most t = true) : cnW most t = layT (norm t) 0 [0] := by simp [cnW,h]
theorem norm_kind' {t : T} : (norm t).kind = t.kind := by simp
theorem dcT_of {most : Int} {t : T} (hw : wfT t) (hc : cnOk most t = true) (hu : (unfP [cnW most t] 64 65536).2.2 = 0) : dcT (cnW most t) 64 65536 = (norm t,0) := by
  obtain ⟨hr,h10,hm,hs⟩ := cnOk_iff.1 hc
  have hW := cnW_yes hc
  have hlen := cnW_len hw hc
  have hok := laid_right t 64 hr hw h10
  obtain ⟨r,u,g1,g2,g3⟩ := lay_root (t := norm t) hok (right_norm t 64 hr) (by rw [← hW]; omega)
  rw [← hW] at g1 g2
  have sg := cn_sg (most := most) hw
  have hme := unfold_means sg hu
  rw [g1] at hme
  have hsame := means_same _ _ _ hme g2
  have hn : norm (unfP [cnW most t] 64 65536).1 = norm t := by rw [hsame,g3,norm_norm]
  have hc2 : cnOk 131072 (norm t) = true := cnOk_iff.2 ⟨right_norm t 64 hr,by rw [norm_kind']; exact h10,by rw [norm_norm]; omega,by rw [norm_norm]; omega⟩
  unfold dcT
  have hq : cnW most t = cnW 131072 (norm t) := by rw [hW,cnW_yes hc2,norm_norm]
  rw [if_neg (by simpa using hu),hn,if_pos ⟨hc2,hq⟩]
theorem rd_norm {e : E} (hw : wfE e) (hr : rightE 64 e = true) : rdB (norm (treeE e)) = true∧rdE (norm (treeE e)) = normEd e := by
  have hg := guess_norm e 64 (wf_mask e hw) hr
  have hB : rdB (norm (treeE e)) = true := by
    unfold rdB
    rw [hg,norm_rightE e 64 hr,Bool.true_and,eqT_iff,tree_normEd,norm_norm]
  exact ⟨hB,by rw [rdE,if_pos hB,hg]⟩
theorem dcE_of {most : Int} {e : E} (hw : wfE e) (hs : smE 1048575 e) (h : pkOk most e = true) : dcE (cnW most (treeE e)) = (normEd e,0) := by
  obtain ⟨hr,hc,hu⟩ := pkOk_iff.1 h
  have hwt := wf_tree e hw hs (.inr trivial)
  obtain ⟨hB,hE⟩ := rd_norm hw hr
  unfold dcE
  rw [dcT_of hwt hc hu]
  rw [if_neg (by simp),if_pos hB,hE]
abbrev E2 : E := .mk 2 T0 T0 [] [] 0 []
theorem tree_E2 : treeE E2 = .mk 1 [2] [T0,T0] := by rw [treeE_mk]; simp [treeKs,u64m]
theorem norm_E2 : norm (treeE E2) = .mk 1 [2] [] := by rw [tree_E2,norm_mk]; simp [trimW,trimK,T0]
theorem lay_E2 : layT (.mk 1 [2] []) 0 [0] = [4294967296,2] := by rw [layT_mk]; simp [ptrZ]
theorem unf_E2 : (unfP [[4294967296,2]] 64 65536).2.2 = 0 := by kernel_rfl
theorem unf_E0 : (unfP [[0]] 64 65536).2.2 = 0 := by kernel_rfl
theorem right_E2 : rightE 64 E2 = true := by kernel_rfl
theorem right_E0 : rightE 64 E0 = true := by kernel_rfl
theorem cn_E2 : cnOk 2 (treeE E2) = true∧cnW 2 (treeE E2) = [4294967296,2] := by
  have h : cnOk 2 (treeE E2) = true := cnOk_iff.2 ⟨by rw [tree_E2]; kernel_rfl,by rw [tree_E2]; simp,by rw [norm_E2,sizeT_mk]; simp,by rw [norm_E2,sizeT_mk]; simp⟩
  exact ⟨h,by rw [cnW_yes h,norm_E2,lay_E2]⟩
theorem cn_E0 : cnOk 1 (treeE E0) = true∧cnW 1 (treeE E0) = [0] := by
  have ht : treeE E0 = T0 := by rw [treeE_mk]; simp
  have hn : norm T0 = T0 := by simp [T0,norm_mk]
  have h : cnOk 1 (treeE E0) = true := cnOk_iff.2 ⟨by rw [ht]; exact right_null 64,by rw [ht]; decide,by rw [ht,hn,sizeT_mk]; simp,by rw [ht,hn,sizeT_mk]; simp⟩
  exact ⟨h,by rw [cnW_yes h,ht,hn,layT_mk]; simp⟩
theorem sm_E2 : smE 1048575 E2 := by rw [smE]; simp [smKs,smOs]
theorem wf_E2 : wfE E2 := wf_E 2 (by simp [i64R])
theorem pk_E2 : pkOk 2 E2 = true∧pkW 2 E2 = [4294967296,2] := by
  have h : pkOk 2 E2 = true := pkOk_iff.2 ⟨right_E2,cn_E2.1,by rw [cn_E2.2]; exact unf_E2⟩
  exact ⟨h,by rw [pkW,if_pos h,cn_E2.2]⟩
theorem pk_E0 : pkOk 1 E0 = true∧pkW 1 E0 = [0] := by
  have h : pkOk 1 E0 = true := pkOk_iff.2 ⟨right_E0,cn_E0.1,by rw [cn_E0.2]; exact unf_E0⟩
  exact ⟨h,by rw [pkW,if_pos h,cn_E0.2]⟩
theorem awake27_spec : G.Spec Tryz.prog 12 [] (bv true) := by
  have h0 := pkEnc_spec wf_E0 sm_E0 1 (fun _ _ => by rw [show treeE E0 = T0 from by rw [treeE_mk]; simp,show norm T0 = T0 from by simp [T0,norm_mk],sizeT_mk]; simp)
  have h2 := pkEnc_spec wf_E2 sm_E2 2 (fun _ _ => by rw [norm_E2,sizeT_mk]; simp)
  rw [pk_E0.1,pk_E0.2] at h0
  rw [pk_E2.1,pk_E2.2] at h2
  have hd := dcE_of wf_E2 sm_E2 pk_E2.1
  rw [cn_E2.2] at hd
  have sg := cn_sg (most := 2) (wf_tree E2 wf_E2 sm_E2 (.inr trivial))
  rw [cn_E2.2] at sg
  have hD := pDecode_spec sg
  rw [hd] at hD
  refine spec_of t_centolaw27_awake (by simp) fun w0 I0 => ?_
  unfold c_centolaw27_awake
  simp
  refine sc_call (h0.soft (by simp [A.softL,A.soft])) rfl ?_
  simp
  refine sc_call (h2.soft (by simp [A.softL,A.soft])) rfl ?_
  simp
  refine sc_call (hD.soft (by simp [A.softL,A.soft])) rfl ?_
  simp
  refine sc_call_gt rfl (fun _ => (rSame_spec [0] [0] (by simp)).soft (by simp [A.softL,A.soft])) (fun _ => rfl) rfl ?_
  simp
  refine sc_call_gt rfl (fun _ => (rSame_spec [4294967296,2] [4294967296,2] (by simp)).soft (by simp [A.softL,A.soft])) (fun _ => rfl) rfl ?_
  simp [normEd_mk]
  exact frz_bare rfl
end Go.Proofs.YthfiijdbnkaabaaGreat

namespace Go.Proofs.YthfiijdbnkaabaaGreat
set_option linter.unusedVariables false
set_option linter.unusedSimpArgs false
open Go Go.G Go.Proofs Go.PL
theorem eqR {a b : T} (ha : wfT a) (hb : wfT b) (h : norm a = norm b) : G.Spec Tryz.prog 43 [tX a,tX b] (bv true) := by
  have := rEqual_spec ha hb (wf_norm _ ha)
  rwa [eqT_iff.2 h] at this
theorem smR {a b : T} (ha : wfT a) (hb : wfT b) (h : a = b) : G.Spec Tryz.prog 14 [tX a,tX b] (bv true) := by
  have := rTSame_spec a ha b
  rwa [sameB_iff.2 h] at this
theorem equal_refl {e : E} (h : wfE e) : G.Spec Tryz.prog 18 [eX e,eX e] (bv true) := eqE_spec (R := fun a b => norm a = norm b) (fun a b => eqR) e e h h (lk_refl (R := fun a b => norm a = norm b) (fun t => rfl) e)
theorem same_refl {e : E} (h : wfE e) : G.Spec Tryz.prog 21 [eX e,eX e] (bv true) := smEd_spec (R := fun a b => a = b) (fun a b => smR) e e h h (lk_refl (fun t => by rfl) e)
theorem rd_tree {e : E} (hw : wfE e) (hr : rightE 64 e = true) : rdB (treeE e) = true∧rdE (treeE e) = e := by
  have hg := guess_tree e 64 (wf_mask e hw) hr
  have hB : rdB (treeE e) = true := by
    unfold rdB
    rw [hg,hr,Bool.true_and,eqT_iff]
  exact ⟨hB,by rw [rdE,if_pos hB,hg]⟩
theorem PatchTrees_spec {e : E} (h : wfE e) : G.Spec Tryz.prog 4 [eX e] (bv true) := by
  refine spec_of t_centolaw27_PatchTrees (by simp) fun w0 I0 => ?_
  unfold c_centolaw27_PatchTrees
  simp
  refine sc_call (good_spec h) rfl ?_
  cases hg : goodE e with
  | false =>
    simp
    refine sc_call awake27_spec rfl ?_
    simp
    exact frz_bare rfl
  | true =>
    simp [goodE] at hg
    obtain ⟨⟨hf,hr⟩,_⟩ := hg
    have hs := few_sm hf
    have hwt := wf_tree e h hs (.inr trivial)
    obtain ⟨hB,hE⟩ := rd_tree h hr
    have hR := pReadT_spec hwt (tree_right e 64 hs hr)
    rw [hB,hE] at hR
    have hT := pTree_all e h hs ⟨64,hr⟩
    unfold PTreeS at hT
    simp
    refine sc_call hT (by simp) ?_
    simp [updF_app]
    refine sc_call (tree_spec e hs) (by simp) ?_
    simp [updF_app]
    refine sc_call (smR hwt hwt rfl) (by simp) ?_
    simp [updF_app]
    refine sc_call hR (by simp) ?_
    simp [updF_app]
    refine sc_call (rRight_spec (treeE e) hwt 64 (by omega)) (by simp) ?_
    cases ht : rightT 64 (treeE e) with
    | false =>
      simp
      refine sc_call_off rfl ?_
      simp
      refine sc_call_gt rfl (fun _ => awake27_spec) (fun _ => rfl) rfl ?_
      simp
      exact frz_bare rfl
    | true =>
      simp [updF_app]
      refine sc_call_gt rfl (fun _ => equal_refl h) (fun _ => rfl) (by simp) ?_
      simp
      refine sc_call_gt rfl (fun _ => awake27_spec) (fun _ => rfl) rfl ?_
      simp
      exact frz_bare rfl
theorem wf_rdE {t : T} (hw : wfT t) (hr : ∃ d,rightT d t = true) : wfE (rdE t) := by
  unfold rdE
  split
  · exact guess_wf _ t (Nat.le_refl _) hw hr
  · exact wf_E0
theorem PatchReads_spec {t : T} (h : wfT t) : G.Spec Tryz.prog 5 [tX t] (bv true) := by
  refine spec_of t_centolaw27_PatchReads (by simp) fun w0 I0 => ?_
  unfold c_centolaw27_PatchReads
  simp
  refine sc_call (few_spec h) rfl ?_
  cases hf : fewT t with
  | false =>
    simp
    refine sc_call_off rfl ?_
    simp
    refine sc_call awake27_spec rfl ?_
    simp
    exact frz_bare rfl
  | true =>
    simp
    refine sc_call_gf rfl (fun _ => rRight_spec t h 64 (by omega)) (fun _ => rfl) (by simp) ?_
    cases hr : rightT 64 t with
    | false =>
      simp
      refine sc_call awake27_spec rfl ?_
      simp
      exact frz_bare rfl
    | true =>
      simp
      refine sc_call (pReadT_spec h ⟨64,hr⟩) (by simp) ?_
      simp [updF_app]
      refine sc_call (rReadT_spec h ⟨64,hr⟩) (by simp) ?_
      simp [updF_app]
      refine sc_call_gt rfl (fun _ => same_refl (wf_rdE h ⟨64,hr⟩)) (fun _ => rfl) (by simp) ?_
      simp
      refine sc_call_gt rfl (fun _ => awake27_spec) (fun _ => rfl) rfl ?_
      simp
      exact frz_bare rfl
end Go.Proofs.YthfiijdbnkaabaaGreat

namespace Go.Proofs.YthfiijdbnkaabaaGreat
set_option linter.unusedVariables false
set_option linter.unusedSimpArgs false
open Go Go.G Go.Proofs Go.PL Go.RowKit
theorem lit_i64 {m : Int} (h : (Lit.int .i64 m).wf = true) : i64R m := by
  simp [Lit.wf,IntKind.min,IntKind.max,IntKind.bits,IntKind.signed] at h
  unfold i64R; omega
theorem lit_u64 {m : Int} (h : (Lit.int .u64 m).wf = true) : u64R m := by
  simp [Lit.wf,IntKind.min,IntKind.max,IntKind.bits,IntKind.signed] at h
  unfold u64R; omega
theorem lit_u8 {m : Int} (h : (Lit.int .u8 m).wf = true) : 0≤m∧m < 256 := by
  simp [Lit.wf,IntKind.min,IntKind.max,IntKind.bits,IntKind.signed] at h
  omega
theorem und_int' : Tryz.prog.underlying 3 = some (.int .i64) := by kernel_rfl
theorem und_u64' : Tryz.prog.underlying 60 = some (.int .u64) := by kernel_rfl
theorem hasI {n : Nat} {b : List A} (h : Has Tryz.prog n 3 b) : ∃ m,i64R m∧b = [iv m] := by
  cases n with
  | zero => exact h.elim
  | succ n =>
    unfold Has at h
    rw [und_int'] at h
    obtain ⟨m,hm,rfl⟩ := h
    exact ⟨m,lit_i64 hm,rfl⟩
theorem hasU {n : Nat} {b : List A} (h : Has Tryz.prog n 60 b) : ∃ m,u64R m∧b = [uv m] := by
  cases n with
  | zero => exact h.elim
  | succ n =>
    unfold Has at h
    rw [und_u64'] at h
    obtain ⟨m,hm,rfl⟩ := h
    exact ⟨m,lit_u64 hm,rfl⟩
theorem rowOf {α : Type} {xs : List A} {g : α→A} {R : α→Prop} (h : ∀ x,x ∈ xs→∃ y,R y∧x.soft = g y) : ∃ l : List α,A.softL xs = l.map g∧l.length = xs.length∧∀ y,y ∈ l→R y := by
  induction xs with
  | nil => exact ⟨[],rfl,rfl,fun y h => nomatch h⟩
  | cons x xs ih =>
    obtain ⟨y,hy,e⟩ := h x (by simp)
    obtain ⟨l,e2,e3,hl⟩ := ih fun z hz => h z (by simp [hz])
    refine ⟨y :: l,by simp [A.softL,e,e2],by simp [e3],fun z hz => ?_⟩
    rcases List.mem_cons.1 hz with rfl | hz
    · exact hy
    · exact hl z hz
theorem hasSl {P : Program} {t e : TypeId} {m : Nat} (u : P.underlying t = some (.slice e)) (hb : P.bytesOf e = m) {n : Nat} {b : List A} (h : Has P n t b) {α : Type} {g : α→A} {R : α→Prop} (hx : ∀ k b,k < n→Has P k e b→∃ y,R y∧(mk P e b).soft = g y) :
    ∃ (f : Bool) (xs : List A) (l : List α),b = [.sl f xs]∧A.softL xs = l.map g∧l.length * m≤140737488355328∧∀ y,y ∈ l→R y := by
  cases n with
  | zero => exact h.elim
  | succ n =>
    unfold Has at h
    rw [u] at h
    obtain ⟨f,xs,rfl,_,hz,hf,hx'⟩ := h
    rw [hb] at hz
    obtain ⟨l,e1,e2,hl⟩ := rowOf (g := g) (R := R) (xs := xs) fun x hxx => by
      obtain ⟨b,hb',rfl⟩ := hx' x hxx
      exact hx n b (by omega) hb'
    exact ⟨f,xs,l,rfl,e1,by rw [e2]; exact Nat.le_trans hz (by decide),hl⟩
theorem mk_u64 (b : List A) : mk Tryz.prog 60 b = b.headD .any := by unfold mk; rw [und_u64']
theorem hasWs {n : Nat} {b : List A} (h : Has Tryz.prog n 22 b) : ∃ (f : Bool) (xs : List A) (l : List Int),b = [.sl f xs]∧A.softL xs = l.map uv∧l.length * 8≤140737488355328∧∀ y,y ∈ l→u64R y :=
  hasSl (e := 60) (by kernel_rfl) (by kernel_rfl) h fun k b _ hb => by
    obtain ⟨m,h1,rfl⟩ := hasU hb
    exact ⟨m,h1,by rw [mk_u64]; rfl⟩
theorem und_tree : Tryz.prog.underlying 25 = some (.struct (Tryz.prog.fieldsOf 25)) := by kernel_rfl
theorem fld_tree : (Tryz.prog.fieldsOf 25).toList.map Field.type = [3,22,23] := by kernel_rfl
theorem mk_tree (b : List A) : mk Tryz.prog 25 b = .agg b := by unfold mk; rw [und_tree]
theorem hasTree : ∀ (n : Nat) (b : List A),Has Tryz.prog n 25 b→∃ t,wfT t∧A.softL b = [iv t.kind,uws t.words,tKs t.kids] := by
  intro n
  induction n using Nat.strongRecOn with
  | ind n ih =>
    intro b h
    cases n with
    | zero => exact h.elim
    | succ n =>
      unfold Has at h
      rw [und_tree] at h
      simp only at h
      rw [hasL_types,fld_tree] at h
      obtain ⟨_,_,rfl,h1,_,_,rfl,h2,_,_,rfl,h3,rfl⟩ := h
      obtain ⟨k,hk,rfl⟩ := hasI h1
      obtain ⟨f,xs,w,rfl,e2,l2,r2⟩ := hasWs h2
      obtain ⟨f3,ys,l,rfl,e3,l3,r3⟩ := hasSl (m := 56) (e := 25) (g := tA) (R := wfT) (by kernel_rfl) (by kernel_rfl) h3 fun j b hj hb => by
        obtain ⟨t,ht,e⟩ := ih j (by omega) b hb
        exact ⟨t,ht,by rw [mk_tree]; simp only [A.soft,e]; rw [tA_eq]⟩
      refine ⟨.mk k w l,wfT_iff.2 ⟨hk,r2,l2,l3,r3⟩,?_⟩
      simp only [List.cons_append,List.nil_append,List.append_nil,A.softL,A.soft,e2,e3]
      rfl
theorem hasTrees {n : Nat} {b : List A} (h : Has Tryz.prog n 23 b) : ∃ (f : Bool) (xs : List A) (l : List T),b = [.sl f xs]∧A.softL xs = l.map tA∧l.length * 56≤140737488355328∧∀ y,y ∈ l→wfT y :=
  hasSl (e := 25) (by kernel_rfl) (by kernel_rfl) h fun k b _ hb => by
    obtain ⟨t,h1,e⟩ := hasTree k b hb
    exact ⟨t,h1,by rw [mk_tree]; simp only [A.soft,e]; rw [tA_eq]⟩
end Go.Proofs.YthfiijdbnkaabaaGreat

namespace Go.Proofs.YthfiijdbnkaabaaGreat
set_option linter.unusedVariables false
set_option linter.unusedSimpArgs false
open Go Go.G Go.Proofs Go.PL Go.RowKit
theorem softL_app : ∀ (a b : List A),A.softL (a ++ b) = A.softL a ++ A.softL b
  | [],b => by simp [A.softL]
  | x :: a,b => by simp [A.softL,softL_app a b]
theorem und_we : Tryz.prog.underlying 63 = some (.struct (Tryz.prog.fieldsOf 63)) := by kernel_rfl
theorem fld_we : (Tryz.prog.fieldsOf 63).toList.map Field.type = [3,5,60,60] := by kernel_rfl
theorem mk_we (b : List A) : mk Tryz.prog 63 b = .agg b := by unfold mk; rw [und_we]
theorem hasB8 {n : Nat} {b : List A} (h : Has Tryz.prog n 5 b) : ∃ m,(0≤m∧m < 256)∧b = [u8 m] := by
  cases n with
  | zero => exact h.elim
  | succ n =>
    have u : Tryz.prog.underlying 5 = some (.int .u8) := by kernel_rfl
    unfold Has at h
    rw [u] at h
    obtain ⟨m,hm,rfl⟩ := h
    exact ⟨m,lit_u8 hm,rfl⟩
theorem hasWE {n : Nat} {b : List A} (h : Has Tryz.prog n 63 b) : ∃ w : WE,WE.wf w∧(mk Tryz.prog 63 b).soft = wA w := by
  cases n with
  | zero => exact h.elim
  | succ n =>
    unfold Has at h
    rw [und_we] at h
    simp only at h
    rw [hasL_types,fld_we] at h
    obtain ⟨_,_,rfl,h1,_,_,rfl,h2,_,_,rfl,h3,_,_,rfl,h4,rfl⟩ := h
    obtain ⟨a,ha,rfl⟩ := hasI h1
    obtain ⟨m,hm,rfl⟩ := hasB8 h2
    obtain ⟨o,ho,rfl⟩ := hasU h3
    obtain ⟨w,hw,rfl⟩ := hasU h4
    exact ⟨⟨a,m,o,w⟩,⟨ha,hm,ho,hw⟩,by rw [mk_we]; rfl⟩
theorem und_e : Tryz.prog.underlying 30 = some (.struct (Tryz.prog.fieldsOf 30)) := by kernel_rfl
theorem fld_e : (Tryz.prog.fieldsOf 30).toList.map Field.type = [3,25,25,26,27,3,28] := by kernel_rfl
theorem mk_e (b : List A) : mk Tryz.prog 30 b = .agg b := by unfold mk; rw [und_e]
theorem und_ke : Tryz.prog.underlying 66 = some (.struct (Tryz.prog.fieldsOf 66)) := by kernel_rfl
theorem fld_ke : (Tryz.prog.fieldsOf 66).toList.map Field.type = [3,30] := by kernel_rfl
theorem mk_ke (b : List A) : mk Tryz.prog 66 b = .agg b := by unfold mk; rw [und_ke]
theorem und_op : Tryz.prog.underlying 69 = some (.struct (Tryz.prog.fieldsOf 69)) := by kernel_rfl
theorem fld_op : (Tryz.prog.fieldsOf 69).toList.map Field.type = [3,3,23,30] := by kernel_rfl
theorem mk_op (b : List A) : mk Tryz.prog 69 b = .agg b := by unfold mk; rw [und_op]
theorem hasEdit : ∀ (n : Nat) (b : List A),Has Tryz.prog n 30 b→∃ e,wfE e∧A.softL b = eL e := by
  intro n
  induction n using Nat.strongRecOn with
  | ind n ih =>
    intro b h
    cases n with
    | zero => exact h.elim
    | succ n =>
      unfold Has at h
      rw [und_e] at h
      simp only at h
      rw [hasL_types,fld_e] at h
      obtain ⟨_,_,rfl,h1,_,_,rfl,h2,_,_,rfl,h3,_,_,rfl,h4,_,_,rfl,h5,_,_,rfl,h6,_,_,rfl,h7,rfl⟩ := h
      obtain ⟨k,hk,rfl⟩ := hasI h1
      obtain ⟨o,ho,e2⟩ := hasTree _ _ h2
      obtain ⟨nn,hn,e3⟩ := hasTree _ _ h3
      obtain ⟨f4,x4,ws,rfl,e4,l4,r4⟩ := hasSl (m := 32) (e := 63) (g := wA) (R := WE.wf) (by kernel_rfl) (by kernel_rfl) h4 fun j b hj hb => hasWE hb
      obtain ⟨f5,x5,ks,rfl,e5,l5,r5⟩ := hasSl (m := 208) (e := 66) (g := kA) (R := fun x => i64R x.at_∧wfE x.e) (by kernel_rfl) (by kernel_rfl) h5 fun j b hj hb => by
        cases j with
        | zero => exact hb.elim
        | succ j =>
          unfold Has at hb
          rw [und_ke] at hb
          simp only at hb
          rw [hasL_types,fld_ke] at hb
          obtain ⟨_,_,rfl,g1,_,_,rfl,g2,rfl⟩ := hb
          obtain ⟨a,ha,rfl⟩ := hasI g1
          obtain ⟨e,he,ee⟩ := ih j (by omega) _ g2
          refine ⟨.mk a e,⟨ha,he⟩,?_⟩
          rw [mk_ke,kA_eq]
          simp only [A.soft,List.cons_append,List.nil_append,List.append_nil,A.softL,ee]
          rfl
      obtain ⟨l,hl,rfl⟩ := hasI h6
      obtain ⟨f7,x7,os,rfl,e7,l7,r7⟩ := hasSl (m := 240) (e := 69) (g := oA) (R := WfO) (by kernel_rfl) (by kernel_rfl) h7 fun j b hj hb => by
        cases j with
        | zero => exact hb.elim
        | succ j =>
          unfold Has at hb
          rw [und_op] at hb
          simp only at hb
          rw [hasL_types,fld_op] at hb
          obtain ⟨_,_,rfl,g1,_,_,rfl,g2,_,_,rfl,g3,_,_,rfl,g4,rfl⟩ := hb
          obtain ⟨k,hk,rfl⟩ := hasI g1
          obtain ⟨m,hm,rfl⟩ := hasI g2
          obtain ⟨f,xs,tl,rfl,et,lt,rt⟩ := hasTrees g3
          obtain ⟨e,he,ee⟩ := ih j (by omega) _ g4
          refine ⟨.mk k m tl e,⟨hk,hm,rt,lt,he⟩,?_⟩
          rw [mk_op,oA_eq]
          simp only [A.soft,List.cons_append,List.nil_append,List.append_nil,A.softL,ee,et]
          rfl
      refine ⟨.mk k o nn ws ks l os,wfE_iff.2 ⟨hk,hl,ho,hn,r4,l4,l5,l7,r5,r7⟩,?_⟩
      simp only [List.cons_append,List.nil_append,List.append_nil,A.softL,A.soft,softL_app,e2,e3,e4,e5,e7]
      rfl
end Go.Proofs.YthfiijdbnkaabaaGreat

namespace Go.Proofs.YthfiijdbnkaabaaGreat
set_option linter.unusedVariables false
set_option linter.unusedSimpArgs false
open Go Go.G Go.Proofs Go.PL Go.RowKit
set_option maxRecDepth 100000 in
theorem said_patchTrees (xs : List A) (h : ArgsHas Tryz.prog Tryz.f4.params.toList xs) : G.Spec Tryz.prog 4 xs (.v (.bool true)) := by
  have h : ArgsHas Tryz.prog [30] xs := h
  match xs,h with
  | [a],⟨⟨n,b,h1,h2⟩,_⟩ =>
    obtain ⟨e,he,ee⟩ := hasEdit _ _ h1
    rw [h2,mk_e]
    exact (PatchTrees_spec he).soft (by simp only [A.softL,A.soft,ee])
set_option maxRecDepth 100000 in
theorem said_patchReads (xs : List A) (h : ArgsHas Tryz.prog Tryz.f5.params.toList xs) : G.Spec Tryz.prog 5 xs (.v (.bool true)) := by
  have h : ArgsHas Tryz.prog [25] xs := h
  match xs,h with
  | [a],⟨⟨n,b,h1,h2⟩,_⟩ =>
    obtain ⟨t,ht,et⟩ := hasTree _ _ h1
    rw [h2,mk_tree]
    exact (PatchReads_spec ht).soft (by simp only [A.softL,A.soft,et])
end Go.Proofs.YthfiijdbnkaabaaGreat

namespace Go.G
set_option linter.unusedVariables false
set_option linter.unusedSimpArgs false
open Go.RowKit Go.ChangeShapes Go.WideShapes
section
variable {H : Type} {enc : TypeId × Value→H} {P : Program}
def rowsRead (P : Program) (ts : List TypeId) : Bool := ts.all fun t => P.readableRec t && decide (t < P.types.size)
theorem trodAll_below (hl : laidOutB P = true) {W W' : World} (hb : Below W.heap.size W W') (sp : Nat→Bool) : ∀ {ts : List TypeId} {vs : List Value} {ds : List (DataW H)} {ps : List MemPlace},rowsRead P ts = true →
    DataW.TrodAll enc P W 0 (fun _ => true) true ts vs ds ps→(∀ x ∈ ps,x.block < W.heap.size)→(∀ x ∈ ps,sp x.block = true)→DataW.TrodAll enc P W' 0 sp true ts vs ds ps
  | [],_,_,_,_,h,_,_ => by
    obtain ⟨rfl,rfl,rfl⟩ := trodAll_nil h
    exact trodAll_mk0
  | t :: ts,_,_,_,hr,h,hlt,hsp => by
    obtain ⟨v,vs,d,ds,p,q,rfl,rfl,rfl,h1,h2⟩ := trodAll_cons h
    simp only [rowsRead,List.all_cons,Bool.and_eq_true,decide_eq_true_eq] at hr
    exact ⟨p,q,WideElems.Trod_stays hl hr.1.1 hr.1.2 h1 (fun x hx => hb.same (hlt x (by simp [hx]))) (fun x hx => hsp x (by simp [hx])),
      trodAll_below hl hb sp (by simpa [rowsRead] using hr.2) h2 (fun x hx => hlt x (by simp [hx])) (fun x hx => hsp x (by simp [hx])),rfl⟩
theorem trodAll_length {w : World} {base : Nat} {spare : Nat→Bool} {held : Bool} : ∀ {ts : List TypeId} {vs : List Value} {ds : List (DataW H)} {ps : List MemPlace},DataW.TrodAll enc P w base spare held ts vs ds ps→ds.length = ts.length∧vs.length = ts.length
  | [],_,_,_,h => by
    obtain ⟨rfl,rfl,rfl⟩ := trodAll_nil h
    exact ⟨rfl,rfl⟩
  | t :: ts,_,_,_,h => by
    obtain ⟨v,vs,d,ds,p,q,rfl,rfl,rfl,h1,h2⟩ := trodAll_cons h
    have := trodAll_length h2
    simp [this]
theorem post_law {f : Func} {s : ChangeSpec} {apart fresh handsOn again : Bool} {W W' : World} {args : Array Value} {ds gs : List (DataW H)} {before : List MemPlace} {t : TypeId}
    (hl : laidOutB P = true) (hp : rowsRead P f.params.toList = true) (hsv : s.vars = []) (hW : DataW.Whole enc P f.params.toList s.vars apart W args.toList ds gs before) (hB : Below W.heap.size W W')
    (hrt : f.resultTypes = #[t]) (ht : P.underlying t = some .bool) (hfn : ∀ ds' : List (DataW H),ds'.length = f.params.size→s.fn H ds' = { results := [.lit (.bool true)],args := ds' }) :
    s.post enc P f apart fresh handsOn again W args (.bool true) W' := by
  have hlt := hW.lt
  have hW' := hW
  obtain ⟨p,q,hA,hV,rfl,hz,hn⟩ := hW'
  rw [hsv] at hV
  obtain ⟨rfl,rfl⟩ := trodVars_none hV
  have hfn := hfn ds (by have := (trodAll_length hA).1; simpa using this)
  simp only [List.append_nil] at hlt hz hn
  have hA' := fun sp => trodAll_below hl hB sp hp hA hlt
  have hr : ∀ (b : Nat) (sp : Nat→Bool) (hd : Bool),DataW.TrodAll enc P W' b sp hd f.resultTypes.toList ((Value.bool true).resultList f.resultTypes.size) [.lit (.bool true)] [] := fun b sp hd => by
    rw [hrt]
    exact trodAll_cons_mk (shut_bool ht _) trodAll_mk0
  refine ⟨ds,[],p ++ [],[],p,[],hW,?_,?_,?_,Below.frame hB _,fun _ => ?_⟩
  · simp only [List.append_nil,hfn]; exact hr _ _ _
  · simp only [List.append_nil,hfn]; exact hA' _ (fun x hx => by simpa using hlt x hx)
  · simp only [List.append_nil,hfn,hsv]; exact rfl
  · refine ⟨ok_one hrt rfl (okWide_bool_mk ht _),_,[],([] ++ p) ++ [],⟨[] ++ p,[],trodAll_append (hA' (fun _ => true) (fun _ _ => rfl)) (hr _ _ _),by rw [hsv]; rfl,rfl,?_,?_⟩,?_⟩
    · intro b off hx
      have hx : MemPlace.cell b off ∈ p := by simpa using hx
      rw [Below.frozen hB (hlt _ hx)]
      exact hz b off hx
    · intro ha
      have := hn ha
      simpa using this
    · intro x hx _
      simpa using hx
theorem law_calls {f : Func} {fid : FuncId} {s : ChangeSpec} {apart fresh handsOn again : Bool} {W : World} {base : Nat} {args : Array Value} {ds gs : List (DataW H)} {before : List MemPlace} {t : TypeId} (S : List TypeId)
    (hl : laidOutB P = true) (hp : rowsRead P f.params.toList = true) (hS : plainT P S = true) (hts : f.params.toList.all S.contains = true) (hsv : s.vars = []) (hrt : f.resultTypes = #[t]) (ht : P.underlying t = some .bool)
    (hfn : ∀ ds' : List (DataW H),ds'.length = f.params.size→s.fn H ds' = { results := [.lit (.bool true)],args := ds' })
    (hspec : ∀ as',ArgsHas P f.params.toList as'→Spec P fid as' (.v (.bool true)))
    (hval : ∀ (j : Nat) t v,f.params[j]? = some t→args[j]? = some v→Value.okWide P W .any base t v) (hW : DataW.Whole enc P f.params.toList s.vars apart W args.toList ds gs before)
    (hwt : (DataW.weightsEach P (f.params.toList ++ s.plain.varTypes P) (ds ++ gs)).all (·≤reachBytes) = true) :
    Calls P fid args W fun e W' => ∃ v,e = .returned v∧s.post enc P f apart fresh handsOn again W args v W' := by
  have hW' := hW
  obtain ⟨p,q,hA,hV,rfl,hz,hn⟩ := hW
  have hV' := hV
  rw [hsv] at hV'
  obtain ⟨rfl,_⟩ := trodVars_none hV'
  have hwt' : ∀ m,m ∈ DataW.weightsEach P f.params.toList ds→m≤reachBytes := by
    have e : s.plain.varTypes P = [] := by simp [ChangeSpec.plain,DataSpec.varTypes,hsv]
    rw [e,List.append_nil,List.append_nil,List.all_eq_true] at hwt
    exact fun m hm => by simpa using hwt m hm
  obtain ⟨as',h1,h2,h3⟩ := args_of_trod hS (fun t ht => by rw [List.all_eq_true] at hts; simpa using hts t ht) hwt' hA (fun j u v hj hv => hval j u v (by simpa using hj) (by simpa using hv))
  refine ((hspec as' h2).2 W (Old W) args (fun _ h => h) (by simpa using h1.symm) (fun k y hk => ?_)).mono fun e W' ⟨v,he,hB,hr⟩ => ?_
  · have := h3 k y hk
    simpa [List.getD,Array.getD_eq_getD_getElem?] using this
  · cases hr
    exact ⟨_,he,post_law hl hp hsv hW' hB hrt ht hfn⟩
end
end Go.G
