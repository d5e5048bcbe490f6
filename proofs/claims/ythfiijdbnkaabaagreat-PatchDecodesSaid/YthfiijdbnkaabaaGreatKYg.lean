/-
  Texts, merged, without what is not reached.
-/
import Derived.Test.YthfiijdbnkaabaaGreatKYf
namespace Go.Proofs.YthfiijdbnkaabaaGreat
set_option linter.unusedVariables false
set_option linter.unusedSimpArgs false
open Go Go.G Go.Proofs Go.PL
inductive Lk (R : T→T→Prop) : E→E→Prop
  | mk (k : Int) (o n o' n' : T) (ws : List WE) (ks ks' : List KE) (l : Int) (os os' : List OP) : R o o'→R n n'→ks.length = ks'.length →
    (∀ (i : Nat) (h : i < ks.length) (h' : i < ks'.length),ks[i].at_ = ks'[i].at_)→(∀ (i : Nat) (h : i < ks.length) (h' : i < ks'.length),Lk R ks[i].e ks'[i].e)→os.length = os'.length →
    (∀ (i : Nat) (h : i < os.length) (h' : i < os'.length),os[i].kind = os'[i].kind∧os[i].n = os'[i].n∧(os[i].l.length = os'[i].l.length∧∀ (j : Nat) (g : j < os[i].l.length) (g' : j < os'[i].l.length),R (os[i].l[j]) (os'[i].l[j]))) →
    (∀ (i : Nat) (h : i < os.length) (h' : i < os'.length),Lk R os[i].e os'[i].e) →
    Lk R (.mk k o n ws ks l os) (.mk k o' n' ws ks' l os')
theorem lk_refl {R : T→T→Prop} (h : ∀ t,R t t) : ∀ e,Lk R e e := by
  refine E.ind fun k o n ws ks l os ihk iho => ?_
  exact .mk _ _ _ _ _ _ _ _ _ _ _ (h o) (h n) rfl (fun i h1 _ => rfl) (fun i h1 _ => ihk _ (List.getElem_mem h1)) rfl (fun i h1 _ => ⟨rfl,rfl,⟨rfl,fun j _ _ => h _⟩⟩) (fun i h1 _ => iho _ (List.getElem_mem h1))
section
variable {n0 : Nat} {w0 : World} {I0 : Nat→Prop} {Q : Exit→Sta→Prop}
end
section
variable {n0 : Nat} {w0 : World} {I0 : Nat→Prop} {Q : Exit→Sta→Prop}
end
section
variable {n0 : Nat} {w0 : World} {I0 : Nat→Prop} {Q : Exit→Sta→Prop}
theorem smEd_t1 {a b : List T} {H : Hp} (hl : a.length = b.length) (hb : a.length * 56≤140737488355328) (h : ∀ (i : Nat) (h1 : i < a.length) (h2 : i < b.length),G.Spec Tryz.prog 14 [tX a[i],tX b[i]] (bv true)) (hq : ∀ i q,Q (.exit 0) ⟨lk [(0,tKs a),(1,tKs b),(5,iv i),(14,bv q)],H⟩) : ∀ (m i : Nat),i + m = a.length →
    LoopC (cx Tryz.prog w0 I0 n0) l1_centoref22_sameTrees Q ⟨lk [(0,tKs a),(1,tKs b),(5,nv i)],H⟩ := by
  intro m
  induction m with
  | zero =>
    intro i hi
    have : i = a.length := by omega
    subst this
    refine loopC_once mixed l1_centoref22_sameTrees.eq_1 ?_
    simp
    exact hq _ _
  | succ m ih =>
    intro i hi
    have hlt : i < a.length := by omega
    have hlt2 : i < b.length := by omega
    have ei : IntKind.i64.wrap ((i : Int) + 1) = ((i + 1 : Nat) : Int) := i64_same (by omega) (by omega)
    refine loopC_once mixed l1_centoref22_sameTrees.eq_1 ?_
    simp [hlt,hlt2]
    refine sc_call (h i hlt hlt2) (by simp) ?_
    simp [ei]
    exact ih (i + 1) (by omega)
end
theorem smEd_trees {a b : List T} (hl : a.length = b.length) (hb : a.length * 56≤140737488355328) (h : ∀ (i : Nat) (h1 : i < a.length) (h2 : i < b.length),G.Spec Tryz.prog 14 [tX a[i],tX b[i]] (bv true)) : G.Spec Tryz.prog 47 [tKs a,tKs b] (bv true) := by
  refine spec_of t_centoref22_sameTrees (by simp) fun w0 I0 => ?_
  unfold c_centoref22_sameTrees
  simp [hl]
  refine smEd_t1 hl hb h (fun i q => ?_) a.length 0 (by omega)
  simp
  exact frz_bare rfl
section
variable {n0 : Nat} {w0 : World} {I0 : Nat→Prop} {Q : Exit→Sta→Prop}
theorem smEd_l1 {e f : E} {H : Hp} (h0 : H [0] = ⟨1,.cells (eL e)⟩) (h1 : H [1] = ⟨1,.cells (eL f)⟩) (hw : e.words = f.words) (hb : e.words.length * 32≤140737488355328) (hq : ∀ i q,Q (.exit 0) ⟨lk [(2,.pob [0] 1 0),(3,.pob [1] 1 0),(5,iv i),(69,bv q)],H⟩) : ∀ (m i : Nat),i + m = e.words.length →
    LoopC (cx Tryz.prog w0 I0 n0) l1_centoref22_Same Q ⟨lk [(2,.pob [0] 1 0),(3,.pob [1] 1 0),(5,nv i)],H⟩ := by
  intro m
  induction m with
  | zero =>
    intro i hi
    have : i = e.words.length := by omega
    subst this
    refine loopC_once mixed l1_centoref22_Same.eq_1 ?_
    simp [h0,h1]
    exact hq _ _
  | succ m ih =>
    intro i hi
    have hlt : i < e.words.length := by omega
    have hlt2 : i < f.words.length := by rw [← hw]; omega
    have ei : IntKind.i64.wrap ((i : Int) + 1) = ((i + 1 : Nat) : Int) := i64_same (by omega) (by omega)
    have hx : e.words[i] = f.words[i] := by simp only [hw]
    refine loopC_once mixed l1_centoref22_Same.eq_1 ?_
    simp [hlt,hlt2,h0,h1,hx]
    simp [ei]
    exact ih (i + 1) (by omega)
theorem smEd_l2 {e f : E} {H : Hp} (h0 : H [0] = ⟨1,.cells (eL e)⟩) (h1 : H [1] = ⟨1,.cells (eL f)⟩) (hl : e.kids.length = f.kids.length) (hb : e.kids.length * 208≤140737488355328) (hk : ∀ (i : Nat) (g : i < e.kids.length) (g' : i < f.kids.length),e.kids[i].at_ = f.kids[i].at_∧G.Spec Tryz.prog 21 [eX e.kids[i].e,eX f.kids[i].e] (bv true)) (hq : ∀ i q,Q (.exit 2) ⟨lk [(2,.pob [0] 1 0),(3,.pob [1] 1 0),(6,iv i),(87,bv q)],H⟩) : ∀ (m i : Nat),i + m = e.kids.length →
    LoopC (cx Tryz.prog w0 I0 n0) l2_centoref22_Same Q ⟨lk [(2,.pob [0] 1 0),(3,.pob [1] 1 0),(6,nv i)],H⟩ := by
  intro m
  induction m with
  | zero =>
    intro i hi
    have : i = e.kids.length := by omega
    subst this
    refine loopC_once mixed l2_centoref22_Same.eq_1 ?_
    simp [h0,h1]
    exact hq _ _
  | succ m ih =>
    intro i hi
    have hlt : i < e.kids.length := by omega
    have hlt2 : i < f.kids.length := by omega
    have ei : IntKind.i64.wrap ((i : Int) + 1) = ((i + 1 : Nat) : Int) := i64_same (by omega) (by omega)
    obtain ⟨ha,hs⟩ := hk i hlt hlt2
    refine loopC_once mixed l2_centoref22_Same.eq_1 ?_
    simp [hlt,hlt2,h0,h1,ha]
    refine sc_call_gf rfl (fun _ => hs) (fun _ => rfl) (by simp) ?_
    simp [ei]
    exact ih (i + 1) (by omega)
theorem smEd_l3 {e f : E} (hl : e.ops.length = f.ops.length) (hb : e.ops.length * 240≤140737488355328) (hk : ∀ (i : Nat) (g : i < e.ops.length) (g' : i < f.ops.length),e.ops[i].kind = f.ops[i].kind∧e.ops[i].n = f.ops[i].n∧G.Spec Tryz.prog 47 [tKs e.ops[i].l,tKs f.ops[i].l] (bv true)∧G.Spec Tryz.prog 21 [eX e.ops[i].e,eX f.ops[i].e] (bv true)) (hq : ∀ H' i q,Q (.exit 4) ⟨lk [(2,.pob [0] 1 0),(3,.pob [1] 1 0),(7,iv i),(123,bv q)],H'⟩) : ∀ (m i : Nat) (H : Hp),i + m = e.ops.length→H [0] = ⟨1,.cells (eL e)⟩→H [1] = ⟨1,.cells (eL f)⟩ →
    LoopC (cx Tryz.prog w0 I0 n0) l3_centoref22_Same Q ⟨lk [(2,.pob [0] 1 0),(3,.pob [1] 1 0),(7,nv i)],H⟩ := by
  intro m
  induction m with
  | zero =>
    intro i H hi h0 h1
    have : i = e.ops.length := by omega
    subst this
    refine loopC_once mixed l3_centoref22_Same.eq_1 ?_
    simp [h0,h1]
    exact hq _ _ _
  | succ m ih =>
    intro i H hi h0 h1
    have hlt : i < e.ops.length := by omega
    have hlt2 : i < f.ops.length := by omega
    have ei : IntKind.i64.wrap ((i : Int) + 1) = ((i + 1 : Nat) : Int) := i64_same (by omega) (by omega)
    obtain ⟨ha,hn,ht,hs⟩ := hk i hlt hlt2
    refine loopC_once mixed l3_centoref22_Same.eq_1 ?_
    simp [hlt,hlt2,h0,h1,updF_app,ha,hn]
    refine sc_call_gf rfl (fun _ => ht) (fun _ => rfl) (by simp) ?_
    simp [updF_app]
    refine sc_call_gf rfl (fun _ => hs) (fun _ => rfl) (by simp) ?_
    simp [ei]
    exact ih (i + 1) _ (by omega) (by simp [updF_app,h0]) (by simp [updF_app,h1])
end
set_option maxRecDepth 10000 in
theorem smEd_spec {R : T→T→Prop} (hR : ∀ a b,wfT a→wfT b→R a b→G.Spec Tryz.prog 14 [tX a,tX b] (bv true)) : ∀ (e f : E),wfE e→wfE f→Lk R e f→G.Spec Tryz.prog 21 [eX e,eX f] (bv true) := by
  refine E.ind fun k o nn ws ks l os ihk iho f hw hwf hl => ?_
  cases hl with
  | mk _ _ _ o' n' _ _ ks' _ _ os' r1 r2 r3 r4 r4b r5 r6 r6b =>
    have h := wfE_iff.1 hw
    have g := wfE_iff.1 hwf
    have h1 := hR _ _ h.o g.o r1
    have h2 := hR _ _ h.n g.n r2
    simp only [E.old_mk,E.new_mk] at h1 h2
    refine spec_of t_centoref22_Same (by simp) fun w0 I0 => ?_
    unfold c_centoref22_Same
    simp
    refine sc_call_gf rfl (fun _ => h1) (fun _ => rfl) (by simp) ?_
    simp
    refine sc_call_gf rfl (fun _ => h2) (fun _ => rfl) (by simp) ?_
    simp [r3,r5]
    refine smEd_l1 (e := .mk k o nn ws ks l os) (f := .mk k o' n' ws ks' l os') (by simp) (by simp) rfl h.wl (fun i q => ?_) ws.length 0 (by simp)
    simp
    refine smEd_l2 (e := .mk k o nn ws ks l os) (f := .mk k o' n' ws ks' l os') (by simp) (by simp) r3 h.kl (fun i a b => ⟨r4 i a b,ihk _ (List.getElem_mem a) _ (h.ks _ (List.getElem_mem a)).2 (g.ks _ (List.getElem_mem b)).2 (r4b i a b)⟩) (fun i q => ?_) ks.length 0 (by simp)
    simp
    refine smEd_l3 (e := .mk k o nn ws ks l os) (f := .mk k o' n' ws ks' l os') r5 h.ol (fun i a b => ?_) (fun H' i q => ?_) os.length 0 _ (by simp) (by simp) (by simp)
    · obtain ⟨q1,q2,q3,q4⟩ := r6 i a b
      have q5 := r6b i a b
      have ha := h.os _ (List.getElem_mem a)
      have hb := g.os _ (List.getElem_mem b)
      exact ⟨q1,q2,smEd_trees q3 ha.ll (fun j g1 g2 => hR _ _ (ha.l _ (List.getElem_mem g1)) (hb.l _ (List.getElem_mem g2)) (q4 j g1 g2)),iho _ (List.getElem_mem a) _ ha.e hb.e q5⟩
    · simp
      exact frz_bare rfl
end Go.Proofs.YthfiijdbnkaabaaGreat

namespace Go.Proofs.YthfiijdbnkaabaaGreat
set_option linter.unusedVariables false
set_option linter.unusedSimpArgs false
open Go Go.G Go.Proofs Go.PL
theorem wf_mask : ∀ e : E,wfE e→maskE e := by
  refine E.ind fun k o nn ws ks l os ihk iho h => ?_
  have h := wfE_iff.1 h
  rw [maskE_mk,maskKs_all,maskOs_all]
  exact ⟨fun w hw => (h.w w hw).2.1,fun x hx => ihk x hx (h.ks x hx).2,fun x hx => iho x hx (h.os x hx).e⟩
theorem pkOk_iff {most : Int} {e : E} : pkOk most e = true ↔ rightE 64 e = true∧cnOk most (treeE e) = true∧(unfP [cnW most (treeE e)] 64 65536).2.2 = 0 := by
  unfold pkOk
  simp only [Bool.and_eq_true,decide_eq_true_eq,and_assoc]
theorem cnW_yes {most : Int} {t : T} (h : cnOk most t = true) : cnW most t = layT (norm t) 0 [0] := by simp [cnW,h]
theorem norm_kind' {t : T} : (norm t).kind = t.kind := by simp
theorem dcT_of {most : Int} {t : T} (hw : wfT t) (hc : cnOk most t = true) (hu : (unfP [cnW most t] 64 65536).2.2 = 0) : dcT (cnW most t) 64 65536 = (norm t,0) := by
  obtain ⟨hr,h10,hm,hs⟩ := cnOk_iff.1 hc
  have hW := cnW_yes hc
  have hlen := cnW_len hw hc
  have hok := laid_right t 64 hr hw h10
  obtain ⟨r,u,g1,g2,g3⟩ := lay_root (t := norm t) hok (right_norm t 64 hr) (by rw [← hW]; omega)
  rw [← hW] at g1 g2
  have sg := cn_sg (most := most) hw
  have hme := unfold_means sg hu
  rw [g1] at hme
  have hsame := means_same _ _ _ hme g2
  have hn : norm (unfP [cnW most t] 64 65536).1 = norm t := by rw [hsame,g3,norm_norm]
  have hc2 : cnOk 131072 (norm t) = true := cnOk_iff.2 ⟨right_norm t 64 hr,by rw [norm_kind']; exact h10,by rw [norm_norm]; omega,by rw [norm_norm]; omega⟩
  unfold dcT
  have hq : cnW most t = cnW 131072 (norm t) := by rw [hW,cnW_yes hc2,norm_norm]
  rw [if_neg (by simpa using hu),hn,if_pos ⟨hc2,hq⟩]
theorem rd_norm {e : E} (hw : wfE e) (hr : rightE 64 e = true) : rdB (norm (treeE e)) = true∧rdE (norm (treeE e)) = normEd e := by
  have hg := guess_norm e 64 (wf_mask e hw) hr
  have hB : rdB (norm (treeE e)) = true := by
    unfold rdB
    rw [hg,norm_rightE e 64 hr,Bool.true_and,eqT_iff,tree_normEd,norm_norm]
  exact ⟨hB,by rw [rdE,if_pos hB,hg]⟩
theorem dcE_of {most : Int} {e : E} (hw : wfE e) (hs : smE 1048575 e) (h : pkOk most e = true) : dcE (cnW most (treeE e)) = (normEd e,0) := by
  obtain ⟨hr,hc,hu⟩ := pkOk_iff.1 h
  have hwt := wf_tree e hw hs (.inr trivial)
  obtain ⟨hB,hE⟩ := rd_norm hw hr
  unfold dcE
  rw [dcT_of hwt hc hu]
  rw [if_neg (by simp),if_pos hB,hE]
abbrev E2 : E := .mk 2 T0 T0 [] [] 0 []
theorem tree_E2 : treeE E2 = .mk 1 [2] [T0,T0] := by rw [treeE_mk]; simp [treeKs,u64m]
theorem norm_E2 : norm (treeE E2) = .mk 1 [2] [] := by rw [tree_E2,norm_mk]; simp [trimW,trimK,T0]
theorem lay_E2 : layT (.mk 1 [2] []) 0 [0] = [4294967296,2] := by rw [layT_mk]; simp [ptrZ]
theorem unf_E2 : (unfP [[4294967296,2]] 64 65536).2.2 = 0 := by kernel_rfl
theorem unf_E0 : (unfP [[0]] 64 65536).2.2 = 0 := by kernel_rfl
theorem right_E2 : rightE 64 E2 = true := by kernel_rfl
theorem right_E0 : rightE 64 E0 = true := by kernel_rfl
theorem cn_E2 : cnOk 2 (treeE E2) = true∧cnW 2 (treeE E2) = [4294967296,2] := by
  have h : cnOk 2 (treeE E2) = true := cnOk_iff.2 ⟨by rw [tree_E2]; kernel_rfl,by rw [tree_E2]; simp,by rw [norm_E2,sizeT_mk]; simp,by rw [norm_E2,sizeT_mk]; simp⟩
  exact ⟨h,by rw [cnW_yes h,norm_E2,lay_E2]⟩
theorem cn_E0 : cnOk 1 (treeE E0) = true∧cnW 1 (treeE E0) = [0] := by
  have ht : treeE E0 = T0 := by rw [treeE_mk]; simp
  have hn : norm T0 = T0 := by simp [T0,norm_mk]
  have h : cnOk 1 (treeE E0) = true := cnOk_iff.2 ⟨by rw [ht]; exact right_null 64,by rw [ht]; decide,by rw [ht,hn,sizeT_mk]; simp,by rw [ht,hn,sizeT_mk]; simp⟩
  exact ⟨h,by rw [cnW_yes h,ht,hn,layT_mk]; simp⟩
theorem sm_E2 : smE 1048575 E2 := by rw [smE]; simp [smKs,smOs]
theorem wf_E2 : wfE E2 := wf_E 2 (by simp [i64R])
theorem pk_E2 : pkOk 2 E2 = true∧pkW 2 E2 = [4294967296,2] := by
  have h : pkOk 2 E2 = true := pkOk_iff.2 ⟨right_E2,cn_E2.1,by rw [cn_E2.2]; exact unf_E2⟩
  exact ⟨h,by rw [pkW,if_pos h,cn_E2.2]⟩
theorem pk_E0 : pkOk 1 E0 = true∧pkW 1 E0 = [0] := by
  have h : pkOk 1 E0 = true := pkOk_iff.2 ⟨right_E0,cn_E0.1,by rw [cn_E0.2]; exact unf_E0⟩
  exact ⟨h,by rw [pkW,if_pos h,cn_E0.2]⟩
theorem awake27_spec : G.Spec Tryz.prog 12 [] (bv true) := by
  have h0 := pkEnc_spec wf_E0 sm_E0 1 (fun _ _ => by rw [show treeE E0 = T0 from by rw [treeE_mk]; simp,show norm T0 = T0 from by simp [T0,norm_mk],sizeT_mk]; simp)
  have h2 := pkEnc_spec wf_E2 sm_E2 2 (fun _ _ => by rw [norm_E2,sizeT_mk]; simp)
  rw [pk_E0.1,pk_E0.2] at h0
  rw [pk_E2.1,pk_E2.2] at h2
  have hd := dcE_of wf_E2 sm_E2 pk_E2.1
  rw [cn_E2.2] at hd
  have sg := cn_sg (most := 2) (wf_tree E2 wf_E2 sm_E2 (.inr trivial))
  rw [cn_E2.2] at sg
  have hD := pDecode_spec sg
  rw [hd] at hD
  refine spec_of t_centolaw27_awake (by simp) fun w0 I0 => ?_
  unfold c_centolaw27_awake
  simp
  refine sc_call (h0.soft (by simp [A.softL,A.soft])) rfl ?_
  simp
  refine sc_call (h2.soft (by simp [A.softL,A.soft])) rfl ?_
  simp
  refine sc_call (hD.soft (by simp [A.softL,A.soft])) rfl ?_
  simp
  refine sc_call_gt rfl (fun _ => (rSame_spec [0] [0] (by simp)).soft (by simp [A.softL,A.soft])) (fun _ => rfl) rfl ?_
  simp
  refine sc_call_gt rfl (fun _ => (rSame_spec [4294967296,2] [4294967296,2] (by simp)).soft (by simp [A.softL,A.soft])) (fun _ => rfl) rfl ?_
  simp [normEd_mk]
  exact frz_bare rfl
end Go.Proofs.YthfiijdbnkaabaaGreat

namespace Go.Proofs.YthfiijdbnkaabaaGreat
set_option linter.unusedVariables false
set_option linter.unusedSimpArgs false
open Go Go.G Go.Proofs Go.PL
theorem smR {a b : T} (ha : wfT a) (hb : wfT b) (h : a = b) : G.Spec Tryz.prog 14 [tX a,tX b] (bv true) := by
  have := rTSame_spec a ha b
  rwa [sameB_iff.2 h] at this
theorem same_refl {e : E} (h : wfE e) : G.Spec Tryz.prog 21 [eX e,eX e] (bv true) := smEd_spec (R := fun a b => a = b) (fun a b => smR) e e h h (lk_refl (fun t => by rfl) e)
end Go.Proofs.YthfiijdbnkaabaaGreat

namespace Go.Proofs.YthfiijdbnkaabaaGreat
set_option linter.unusedVariables false
set_option linter.unusedSimpArgs false
open Go Go.G Go.Proofs Go.PL
theorem dcE_back {l : List Int} (hs : Sg [l]) (h : (dcE l).2 = 0) : wfE (dcE l).1∧smE 1048575 (dcE l).1∧pkOk 131072 (dcE l).1 = true∧pkW 131072 (dcE l).1 = l := by
  have hmean := unfold_means hs (a := 64) (b := 65536)
  unfold dcE at h ⊢
  split at h
  · rename_i h0; exact absurd h h0
  rename_i h0
  rw [if_neg h0]
  split at h
  rotate_left
  · cases h
  rename_i hB
  rw [if_pos hB]
  obtain ⟨hw,hr64⟩ := dcT_right hs (by simpa using h0)
  have hdc : dcT l 64 65536 = dcT l 64 65536 := rfl
  conv at hdc => rhs; unfold dcT
  split at hdc
  · rename_i h1; rw [hdc] at h0; simp at h0; exact absurd h0 h1
  rename_i h1
  split at hdc
  rotate_left
  · rw [hdc] at h0; simp at h0
  rename_i h2
  obtain ⟨hc,hl⟩ := h2
  rw [hdc] at hw hr64 hB ⊢
  simp only at hw hr64 hB ⊢
  generalize hx : norm (unfP [l] 64 65536).1 = t at *
  have hnt : norm t = t := by rw [← hx,norm_norm]
  have hE : rdE t = guess t := by rw [rdE,if_pos hB]
  rw [hE]
  unfold rdB at hB
  rw [Bool.and_eq_true] at hB
  obtain ⟨b1,b2⟩ := hB
  have hn : norm (treeE (guess t)) = t := by rw [eqT_iff.1 b2,hnt]
  have wfg := guess_wf _ t (Nat.le_refl _) hw ⟨64,hr64⟩
  have smg := guess_sm _ t (Nat.le_refl _) ⟨64,hr64⟩
  obtain ⟨D,hD⟩ := tree_right (guess t) 64 smg b1
  have hrr : rightT 64 (treeE (guess t)) = true := right_of_norm _ D 64 hD (by rw [hn]; exact hr64)
  obtain ⟨_,_,c1,c2⟩ := cnOk_iff.1 hc
  rw [hnt] at c1 c2
  have hc2 : cnOk 131072 (treeE (guess t)) = true := cnOk_iff.2 ⟨hrr,by rw [treeE_kind]; split <;> decide,by rw [hn]; exact c1,by rw [hn]; exact c2⟩
  have hl2 : cnW 131072 (treeE (guess t)) = l := by rw [cnW_yes hc2,hn,hl,cnW_yes hc,hnt]
  have hk : pkOk 131072 (guess t) = true := pkOk_iff.2 ⟨b1,hc2,by rw [hl2]; simpa using h1⟩
  exact ⟨wfg,smg,hk,by rw [pkW,if_pos hk,hl2]⟩
theorem wf_dcE {l : List Int} (hs : Sg [l]) : wfE (dcE l).1 := by
  by_cases h : (dcE l).2 = 0
  · exact (dcE_back hs h).1
  · unfold dcE at h ⊢
    split
    · exact wf_E0
    · rename_i h0
      rw [if_neg h0] at h
      split
      · rename_i h1; rw [if_pos h1] at h; exact absurd rfl h
      · exact wf_E0
theorem PatchDecodes_spec {l : List Int} (hl : l.length * 8≤140737488355328) (hw : ∀ x,x ∈ l→u64R x) : G.Spec Tryz.prog 7 [uws l] (bv true) := by
  refine spec_of t_centolaw27_PatchDecodes (by simp) fun w0 I0 => ?_
  unfold c_centolaw27_PatchDecodes
  have key : ∀ (l : List Int) (H : Hp),l.length≤400→(∀ x,x ∈ l→u64R x)→WPC (cx Tryz.prog w0 I0 50) k1_centolaw27_PatchDecodes (RetC Tryz.prog [.tmp 2] (bv true)) ⟨lk [(0,uws l)],H⟩ := fun l H hl hw => by
    have sg : Sg [l] := ⟨fun x hx => by simp at hx; subst hx; omega,fun x hx y hy => by simp at hx; subst hx; exact hw y hy⟩
    have hP := pDecode_spec sg
    have hR := rDecode_spec sg
    have hS := same_refl (wf_dcE sg)
    have hB := dcE_back sg
    generalize dcE l = x at hP hR hS hB
    obtain ⟨e,c⟩ := x
    simp only at hP hR hS hB
    unfold k1_centolaw27_PatchDecodes
    simp
    refine sc_call hP (by simp) ?_
    simp [updF_app]
    refine sc_call hR (by simp) ?_
    simp [updF_app]
    refine sc_call_gf rfl (fun _ => hS) (fun _ => rfl) (by simp) ?_
    simp [updF_app]
    by_cases hc : c = 0
    · obtain ⟨b1,b2,b3,b4⟩ := hB hc
      have hE := pkEnc_spec b1 b2 131072 (fun _ _ => by
        obtain ⟨_,hc,_⟩ := pkOk_iff.1 b3
        obtain ⟨_,_,_,c2⟩ := cnOk_iff.1 hc
        omega)
      rw [b3,b4] at hE
      simp [hc]
      refine sc_call hE (by simp) ?_
      simp
      refine sc_call_gt rfl (fun _ => rSame_spec l l (by omega)) (fun _ => rfl) (by simp) ?_
      simp
      refine sc_call_gt rfl (fun _ => awake27_spec) (fun _ => rfl) rfl ?_
      simp
      exact frz_bare rfl
    · simp [hc]
      refine sc_call awake27_spec rfl ?_
      simp
      exact frz_bare rfl
  by_cases h : l.length≤400
  · have hn : ¬ (400 : Int) < l.length := by omega
    simp [hn]
    exact key l _ h hw
  · have hn : (400 : Int) < l.length := by omega
    have hle : (400 : Int)≤l.length := by omega
    have hle2 : 400≤l.length := by omega
    simp [hn,hle,hle2]
    have := key (l.take 400) (lkH []) (by simp; omega) (fun x hx => hw x (List.mem_of_mem_take hx))
    have e : uws (l.take 400) = .sl false (List.take 400 (l.map uv)) := by simp [uws,List.map_take]
    rw [e] at this
    exact this
end Go.Proofs.YthfiijdbnkaabaaGreat

namespace Go.Proofs.YthfiijdbnkaabaaGreat
set_option linter.unusedVariables false
set_option linter.unusedSimpArgs false
open Go Go.G Go.Proofs Go.PL Go.RowKit
theorem lit_u64 {m : Int} (h : (Lit.int .u64 m).wf = true) : u64R m := by
  simp [Lit.wf,IntKind.min,IntKind.max,IntKind.bits,IntKind.signed] at h
  unfold u64R; omega
theorem und_u64' : Tryz.prog.underlying 60 = some (.int .u64) := by kernel_rfl
theorem hasU {n : Nat} {b : List A} (h : Has Tryz.prog n 60 b) : ∃ m,u64R m∧b = [uv m] := by
  cases n with
  | zero => exact h.elim
  | succ n =>
    unfold Has at h
    rw [und_u64'] at h
    obtain ⟨m,hm,rfl⟩ := h
    exact ⟨m,lit_u64 hm,rfl⟩
theorem rowOf {α : Type} {xs : List A} {g : α→A} {R : α→Prop} (h : ∀ x,x ∈ xs→∃ y,R y∧x.soft = g y) : ∃ l : List α,A.softL xs = l.map g∧l.length = xs.length∧∀ y,y ∈ l→R y := by
  induction xs with
  | nil => exact ⟨[],rfl,rfl,fun y h => nomatch h⟩
  | cons x xs ih =>
    obtain ⟨y,hy,e⟩ := h x (by simp)
    obtain ⟨l,e2,e3,hl⟩ := ih fun z hz => h z (by simp [hz])
    refine ⟨y :: l,by simp [A.softL,e,e2],by simp [e3],fun z hz => ?_⟩
    rcases List.mem_cons.1 hz with rfl | hz
    · exact hy
    · exact hl z hz
theorem hasSl {P : Program} {t e : TypeId} {m : Nat} (u : P.underlying t = some (.slice e)) (hb : P.bytesOf e = m) {n : Nat} {b : List A} (h : Has P n t b) {α : Type} {g : α→A} {R : α→Prop} (hx : ∀ k b,k < n→Has P k e b→∃ y,R y∧(mk P e b).soft = g y) :
    ∃ (f : Bool) (xs : List A) (l : List α),b = [.sl f xs]∧A.softL xs = l.map g∧l.length * m≤140737488355328∧∀ y,y ∈ l→R y := by
  cases n with
  | zero => exact h.elim
  | succ n =>
    unfold Has at h
    rw [u] at h
    obtain ⟨f,xs,rfl,_,hz,hf,hx'⟩ := h
    rw [hb] at hz
    obtain ⟨l,e1,e2,hl⟩ := rowOf (g := g) (R := R) (xs := xs) fun x hxx => by
      obtain ⟨b,hb',rfl⟩ := hx' x hxx
      exact hx n b (by omega) hb'
    exact ⟨f,xs,l,rfl,e1,by rw [e2]; exact Nat.le_trans hz (by decide),hl⟩
theorem mk_u64 (b : List A) : mk Tryz.prog 60 b = b.headD .any := by unfold mk; rw [und_u64']
theorem hasWs {n : Nat} {b : List A} (h : Has Tryz.prog n 22 b) : ∃ (f : Bool) (xs : List A) (l : List Int),b = [.sl f xs]∧A.softL xs = l.map uv∧l.length * 8≤140737488355328∧∀ y,y ∈ l→u64R y :=
  hasSl (e := 60) (by kernel_rfl) (by kernel_rfl) h fun k b _ hb => by
    obtain ⟨m,h1,rfl⟩ := hasU hb
    exact ⟨m,h1,by rw [mk_u64]; rfl⟩
end Go.Proofs.YthfiijdbnkaabaaGreat

namespace Go.Proofs.YthfiijdbnkaabaaGreat
set_option linter.unusedVariables false
set_option linter.unusedSimpArgs false
open Go Go.G Go.Proofs Go.PL Go.RowKit
theorem und27_w : Tryz.prog.underlying 22 = some (.slice 60) := by kernel_rfl
theorem mk27_w (b : List A) : mk Tryz.prog 22 b = b.headD .any := by unfold mk; rw [und27_w]
set_option maxRecDepth 100000 in
theorem said_patchDecodes (xs : List A) (h : ArgsHas Tryz.prog Tryz.f7.params.toList xs) : G.Spec Tryz.prog 7 xs (.v (.bool true)) := by
  have h : ArgsHas Tryz.prog [22] xs := h
  match xs,h with
  | [a],⟨⟨n,b,h1,h2⟩,_⟩ =>
    obtain ⟨f,ys,l,e1,e2,e3,e4⟩ := hasWs h1
    rw [h2,mk27_w,e1]
    exact (PatchDecodes_spec e3 e4).soft (by simp only [A.softL,A.soft,List.headD,e2])
end Go.Proofs.YthfiijdbnkaabaaGreat

namespace Go.G
set_option linter.unusedVariables false
set_option linter.unusedSimpArgs false
open Go.RowKit Go.ChangeShapes Go.WideShapes
section
variable {H : Type} {enc : TypeId × Value→H} {P : Program}
def rowsRead (P : Program) (ts : List TypeId) : Bool := ts.all fun t => P.readableRec t && decide (t < P.types.size)
theorem trodAll_below (hl : laidOutB P = true) {W W' : World} (hb : Below W.heap.size W W') (sp : Nat→Bool) : ∀ {ts : List TypeId} {vs : List Value} {ds : List (DataW H)} {ps : List MemPlace},rowsRead P ts = true →
    DataW.TrodAll enc P W 0 (fun _ => true) true ts vs ds ps→(∀ x ∈ ps,x.block < W.heap.size)→(∀ x ∈ ps,sp x.block = true)→DataW.TrodAll enc P W' 0 sp true ts vs ds ps
  | [],_,_,_,_,h,_,_ => by
    obtain ⟨rfl,rfl,rfl⟩ := trodAll_nil h
    exact trodAll_mk0
  | t :: ts,_,_,_,hr,h,hlt,hsp => by
    obtain ⟨v,vs,d,ds,p,q,rfl,rfl,rfl,h1,h2⟩ := trodAll_cons h
    simp only [rowsRead,List.all_cons,Bool.and_eq_true,decide_eq_true_eq] at hr
    exact ⟨p,q,WideElems.Trod_stays hl hr.1.1 hr.1.2 h1 (fun x hx => hb.same (hlt x (by simp [hx]))) (fun x hx => hsp x (by simp [hx])),
      trodAll_below hl hb sp (by simpa [rowsRead] using hr.2) h2 (fun x hx => hlt x (by simp [hx])) (fun x hx => hsp x (by simp [hx])),rfl⟩
theorem trodAll_length {w : World} {base : Nat} {spare : Nat→Bool} {held : Bool} : ∀ {ts : List TypeId} {vs : List Value} {ds : List (DataW H)} {ps : List MemPlace},DataW.TrodAll enc P w base spare held ts vs ds ps→ds.length = ts.length∧vs.length = ts.length
  | [],_,_,_,h => by
    obtain ⟨rfl,rfl,rfl⟩ := trodAll_nil h
    exact ⟨rfl,rfl⟩
  | t :: ts,_,_,_,h => by
    obtain ⟨v,vs,d,ds,p,q,rfl,rfl,rfl,h1,h2⟩ := trodAll_cons h
    have := trodAll_length h2
    simp [this]
theorem post_law {f : Func} {s : ChangeSpec} {apart fresh handsOn again : Bool} {W W' : World} {args : Array Value} {ds gs : List (DataW H)} {before : List MemPlace} {t : TypeId}
    (hl : laidOutB P = true) (hp : rowsRead P f.params.toList = true) (hsv : s.vars = []) (hW : DataW.Whole enc P f.params.toList s.vars apart W args.toList ds gs before) (hB : Below W.heap.size W W')
    (hrt : f.resultTypes = #[t]) (ht : P.underlying t = some .bool) (hfn : ∀ ds' : List (DataW H),ds'.length = f.params.size→s.fn H ds' = { results := [.lit (.bool true)],args := ds' }) :
    s.post enc P f apart fresh handsOn again W args (.bool true) W' := by
  have hlt := hW.lt
  have hW' := hW
  obtain ⟨p,q,hA,hV,rfl,hz,hn⟩ := hW'
  rw [hsv] at hV
  obtain ⟨rfl,rfl⟩ := trodVars_none hV
  have hfn := hfn ds (by have := (trodAll_length hA).1; simpa using this)
  simp only [List.append_nil] at hlt hz hn
  have hA' := fun sp => trodAll_below hl hB sp hp hA hlt
  have hr : ∀ (b : Nat) (sp : Nat→Bool) (hd : Bool),DataW.TrodAll enc P W' b sp hd f.resultTypes.toList ((Value.bool true).resultList f.resultTypes.size) [.lit (.bool true)] [] := fun b sp hd => by
    rw [hrt]
    exact trodAll_cons_mk (shut_bool ht _) trodAll_mk0
  refine ⟨ds,[],p ++ [],[],p,[],hW,?_,?_,?_,Below.frame hB _,fun _ => ?_⟩
  · simp only [List.append_nil,hfn]; exact hr _ _ _
  · simp only [List.append_nil,hfn]; exact hA' _ (fun x hx => by simpa using hlt x hx)
  · simp only [List.append_nil,hfn,hsv]; exact rfl
  · refine ⟨ok_one hrt rfl (okWide_bool_mk ht _),_,[],([] ++ p) ++ [],⟨[] ++ p,[],trodAll_append (hA' (fun _ => true) (fun _ _ => rfl)) (hr _ _ _),by rw [hsv]; rfl,rfl,?_,?_⟩,?_⟩
    · intro b off hx
      have hx : MemPlace.cell b off ∈ p := by simpa using hx
      rw [Below.frozen hB (hlt _ hx)]
      exact hz b off hx
    · intro ha
      have := hn ha
      simpa using this
    · intro x hx _
      simpa using hx
theorem law_calls {f : Func} {fid : FuncId} {s : ChangeSpec} {apart fresh handsOn again : Bool} {W : World} {base : Nat} {args : Array Value} {ds gs : List (DataW H)} {before : List MemPlace} {t : TypeId} (S : List TypeId)
    (hl : laidOutB P = true) (hp : rowsRead P f.params.toList = true) (hS : plainT P S = true) (hts : f.params.toList.all S.contains = true) (hsv : s.vars = []) (hrt : f.resultTypes = #[t]) (ht : P.underlying t = some .bool)
    (hfn : ∀ ds' : List (DataW H),ds'.length = f.params.size→s.fn H ds' = { results := [.lit (.bool true)],args := ds' })
    (hspec : ∀ as',ArgsHas P f.params.toList as'→Spec P fid as' (.v (.bool true)))
    (hval : ∀ (j : Nat) t v,f.params[j]? = some t→args[j]? = some v→Value.okWide P W .any base t v) (hW : DataW.Whole enc P f.params.toList s.vars apart W args.toList ds gs before)
    (hwt : (DataW.weightsEach P (f.params.toList ++ s.plain.varTypes P) (ds ++ gs)).all (·≤reachBytes) = true) :
    Calls P fid args W fun e W' => ∃ v,e = .returned v∧s.post enc P f apart fresh handsOn again W args v W' := by
  have hW' := hW
  obtain ⟨p,q,hA,hV,rfl,hz,hn⟩ := hW
  have hV' := hV
  rw [hsv] at hV'
  obtain ⟨rfl,_⟩ := trodVars_none hV'
  have hwt' : ∀ m,m ∈ DataW.weightsEach P f.params.toList ds→m≤reachBytes := by
    have e : s.plain.varTypes P = [] := by simp [ChangeSpec.plain,DataSpec.varTypes,hsv]
    rw [e,List.append_nil,List.append_nil,List.all_eq_true] at hwt
    exact fun m hm => by simpa using hwt m hm
  obtain ⟨as',h1,h2,h3⟩ := args_of_trod hS (fun t ht => by rw [List.all_eq_true] at hts; simpa using hts t ht) hwt' hA (fun j u v hj hv => hval j u v (by simpa using hj) (by simpa using hv))
  refine ((hspec as' h2).2 W (Old W) args (fun _ h => h) (by simpa using h1.symm) (fun k y hk => ?_)).mono fun e W' ⟨v,he,hB,hr⟩ => ?_
  · have := h3 k y hk
    simpa [List.getD,Array.getD_eq_getD_getElem?] using this
  · cases hr
    exact ⟨_,he,post_law hl hp hsv hW' hB hrt ht hfn⟩
end
end Go.G
