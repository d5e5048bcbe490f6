/-
  Texts, merged, without what is not reached.
-/
import Derived.Test.YthfiijdbnkaabaaGreatKXf
namespace Go.Proofs.YthfiijdbnkaabaaGreat
set_option linter.unusedVariables false
set_option linter.unusedSimpArgs false
open Go Go.G Go.Proofs Go.PL
theorem eqR {a b : T} (ha : wfT a) (hb : wfT b) (h : norm a = norm b) : G.Spec Tryz.prog 43 [tX a,tX b] (bv true) := by
  have := rEqual_spec ha hb (wf_norm _ ha)
  rwa [eqT_iff.2 h] at this
theorem equal_norm {e : E} (h : wfE e) (g : wfE (normEd e)) : G.Spec Tryz.prog 18 [eX e,eX (normEd e)] (bv true) := eqE_spec (R := fun a b => norm a = norm b) (fun a b => eqR) e _ h g (lk_norm e)
end Go.Proofs.YthfiijdbnkaabaaGreat

namespace Go.Proofs.YthfiijdbnkaabaaGreat
set_option linter.unusedVariables false
set_option linter.unusedSimpArgs false
open Go Go.G Go.Proofs Go.PL
theorem wf_normEd {e : E} (h : wfE e) (hs : smE 1048575 e) (hr : rightE 64 e = true) : wfE (normEd e) := by
  have hwt := wf_tree e h hs (.inr trivial)
  obtain ⟨D,hD⟩ := tree_right e 64 hs hr
  have := guess_wf _ (norm (treeE e)) (Nat.le_refl _) (wf_norm _ hwt) ⟨D,right_norm _ D hD⟩
  rwa [guess_norm e 64 (wf_mask e h) hr] at this
theorem pkW_len {most : Int} {e : E} (h : wfE e) (hs : smE 1048575 e) (hk : pkOk most e = true) : pkW most e = cnW most (treeE e)∧((pkW most e).length : Int)≤most∧(pkW most e).length≤131072 := by
  have hW : pkW most e = cnW most (treeE e) := by rw [pkW,if_pos hk]
  obtain ⟨hr,hc,hu⟩ := pkOk_iff.1 hk
  obtain ⟨_,_,h1,h2⟩ := cnOk_iff.1 hc
  have := cnW_len (wf_tree e h hs (.inr trivial)) hc
  rw [hW]
  exact ⟨rfl,by omega,by omega⟩
theorem pkW_short {most : Int} {e : E} (h : wfE e) (hs : smE 1048575 e) : (pkW most e).length * 8≤140737488355328 := by
  by_cases hk : pkOk most e = true
  · have := (pkW_len h hs hk).2.2
    omega
  · rw [pkW,if_neg hk]; simp
set_option maxRecDepth 10000 in
theorem PatchCodes_spec {e : E} (h : wfE e) (most : Int) : G.Spec Tryz.prog 6 [eX e,iv most] (bv true) := by
  refine spec_of t_centolaw27_PatchCodes (by simp) fun w0 I0 => ?_
  unfold c_centolaw27_PatchCodes
  simp
  refine sc_call (fewE_spec h) rfl ?_
  cases hf : fewE e with
  | false =>
    simp
    refine sc_call_off rfl ?_
    simp
    refine sc_call_off rfl ?_
    simp
    refine sc_call awake27_spec rfl ?_
    simp
    exact frz_bare rfl
  | true =>
    have hs := few_sm hf
    have main : ∀ H : Hp,H [0] = ⟨1,.cells (eL e)⟩→True := fun _ _ => trivial
    simp
    refine sc_call_gf rfl (fun _ => eright_spec e h 64 (by omega)) (fun _ => rfl) (by simp) ?_
    cases hr : rightE 64 e with
    | false =>
      simp
      refine sc_call_off rfl ?_
      simp
      refine sc_call (pkEnc_spec h hs most (few_enc hf)) (by simp) ?_
      simp [updF_app]
      refine sc_call (rkEnc_spec h hs most (few_enc hf)) (by simp) ?_
      simp [updF_app]
      refine sc_call_gf rfl (fun _ => rSame_spec (pkW most e) (pkW most e) (pkW_short h hs)) (fun _ => rfl) (by simp) ?_
      simp [updF_app]
      have hk : pkOk most e = false := by simp [pkOk,hr]
      rw [hk]
      simp
      refine sc_call awake27_spec rfl ?_
      simp
      exact frz_bare rfl
    | true =>
      simp
      refine sc_call_gt rfl (fun _ => elight_spec e h (nice_right e 64 hr)) (fun _ => rfl) (by simp) ?_
      cases hlt : lightE e with
      | false =>
        simp
        refine sc_call awake27_spec rfl ?_
        simp
        exact frz_bare rfl
      | true =>
        simp
        refine sc_call (pkEnc_spec h hs most (few_enc hf)) (by simp) ?_
        simp [updF_app]
        refine sc_call (rkEnc_spec h hs most (few_enc hf)) (by simp) ?_
        simp [updF_app]
        refine sc_call_gf rfl (fun _ => rSame_spec (pkW most e) (pkW most e) (pkW_short h hs)) (fun _ => rfl) (by simp) ?_
        simp [updF_app]
        cases hk : pkOk most e with
        | false =>
          simp
          refine sc_call awake27_spec rfl ?_
          simp
          exact frz_bare rfl
        | true =>
          obtain ⟨hW,hl1,hl2⟩ := pkW_len h hs hk
          have sg := cn_sg (most := most) (wf_tree e h hs (.inr trivial))
          have hD := pDecode_spec sg
          rw [dcE_of h hs hk,← hW] at hD
          simp
          refine sc_call hD (by simp) ?_
          simp [updF_app]
          refine sc_call_gt rfl (fun _ => equal_norm h (wf_normEd h hs hr)) (fun _ => by simp) (by simp) ?_
          simp [hl1]
          refine sc_call_gt rfl (fun _ => awake27_spec) (fun _ => rfl) rfl ?_
          simp
          exact frz_bare rfl
end Go.Proofs.YthfiijdbnkaabaaGreat

namespace Go.Proofs.YthfiijdbnkaabaaGreat
set_option linter.unusedVariables false
set_option linter.unusedSimpArgs false
open Go Go.G Go.Proofs Go.PL Go.RowKit
theorem lit_i64 {m : Int} (h : (Lit.int .i64 m).wf = true) : i64R m := by
  simp [Lit.wf,IntKind.min,IntKind.max,IntKind.bits,IntKind.signed] at h
  unfold i64R; omega
theorem lit_u64 {m : Int} (h : (Lit.int .u64 m).wf = true) : u64R m := by
  simp [Lit.wf,IntKind.min,IntKind.max,IntKind.bits,IntKind.signed] at h
  unfold u64R; omega
theorem lit_u8 {m : Int} (h : (Lit.int .u8 m).wf = true) : 0≤m∧m < 256 := by
  simp [Lit.wf,IntKind.min,IntKind.max,IntKind.bits,IntKind.signed] at h
  omega
theorem und_int' : Tryz.prog.underlying 3 = some (.int .i64) := by kernel_rfl
theorem und_u64' : Tryz.prog.underlying 60 = some (.int .u64) := by kernel_rfl
theorem hasI {n : Nat} {b : List A} (h : Has Tryz.prog n 3 b) : ∃ m,i64R m∧b = [iv m] := by
  cases n with
  | zero => exact h.elim
  | succ n =>
    unfold Has at h
    rw [und_int'] at h
    obtain ⟨m,hm,rfl⟩ := h
    exact ⟨m,lit_i64 hm,rfl⟩
theorem hasU {n : Nat} {b : List A} (h : Has Tryz.prog n 60 b) : ∃ m,u64R m∧b = [uv m] := by
  cases n with
  | zero => exact h.elim
  | succ n =>
    unfold Has at h
    rw [und_u64'] at h
    obtain ⟨m,hm,rfl⟩ := h
    exact ⟨m,lit_u64 hm,rfl⟩
theorem rowOf {α : Type} {xs : List A} {g : α→A} {R : α→Prop} (h : ∀ x,x ∈ xs→∃ y,R y∧x.soft = g y) : ∃ l : List α,A.softL xs = l.map g∧l.length = xs.length∧∀ y,y ∈ l→R y := by
  induction xs with
  | nil => exact ⟨[],rfl,rfl,fun y h => nomatch h⟩
  | cons x xs ih =>
    obtain ⟨y,hy,e⟩ := h x (by simp)
    obtain ⟨l,e2,e3,hl⟩ := ih fun z hz => h z (by simp [hz])
    refine ⟨y :: l,by simp [A.softL,e,e2],by simp [e3],fun z hz => ?_⟩
    rcases List.mem_cons.1 hz with rfl | hz
    · exact hy
    · exact hl z hz
theorem hasSl {P : Program} {t e : TypeId} {m : Nat} (u : P.underlying t = some (.slice e)) (hb : P.bytesOf e = m) {n : Nat} {b : List A} (h : Has P n t b) {α : Type} {g : α→A} {R : α→Prop} (hx : ∀ k b,k < n→Has P k e b→∃ y,R y∧(mk P e b).soft = g y) :
    ∃ (f : Bool) (xs : List A) (l : List α),b = [.sl f xs]∧A.softL xs = l.map g∧l.length * m≤140737488355328∧∀ y,y ∈ l→R y := by
  cases n with
  | zero => exact h.elim
  | succ n =>
    unfold Has at h
    rw [u] at h
    obtain ⟨f,xs,rfl,_,hz,hf,hx'⟩ := h
    rw [hb] at hz
    obtain ⟨l,e1,e2,hl⟩ := rowOf (g := g) (R := R) (xs := xs) fun x hxx => by
      obtain ⟨b,hb',rfl⟩ := hx' x hxx
      exact hx n b (by omega) hb'
    exact ⟨f,xs,l,rfl,e1,by rw [e2]; exact Nat.le_trans hz (by decide),hl⟩
theorem mk_int (b : List A) : mk Tryz.prog 3 b = b.headD .any := by unfold mk; rw [und_int']
theorem mk_u64 (b : List A) : mk Tryz.prog 60 b = b.headD .any := by unfold mk; rw [und_u64']
theorem hasWs {n : Nat} {b : List A} (h : Has Tryz.prog n 22 b) : ∃ (f : Bool) (xs : List A) (l : List Int),b = [.sl f xs]∧A.softL xs = l.map uv∧l.length * 8≤140737488355328∧∀ y,y ∈ l→u64R y :=
  hasSl (e := 60) (by kernel_rfl) (by kernel_rfl) h fun k b _ hb => by
    obtain ⟨m,h1,rfl⟩ := hasU hb
    exact ⟨m,h1,by rw [mk_u64]; rfl⟩
theorem und_tree : Tryz.prog.underlying 25 = some (.struct (Tryz.prog.fieldsOf 25)) := by kernel_rfl
theorem fld_tree : (Tryz.prog.fieldsOf 25).toList.map Field.type = [3,22,23] := by kernel_rfl
theorem mk_tree (b : List A) : mk Tryz.prog 25 b = .agg b := by unfold mk; rw [und_tree]
theorem hasTree : ∀ (n : Nat) (b : List A),Has Tryz.prog n 25 b→∃ t,wfT t∧A.softL b = [iv t.kind,uws t.words,tKs t.kids] := by
  intro n
  induction n using Nat.strongRecOn with
  | ind n ih =>
    intro b h
    cases n with
    | zero => exact h.elim
    | succ n =>
      unfold Has at h
      rw [und_tree] at h
      simp only at h
      rw [hasL_types,fld_tree] at h
      obtain ⟨_,_,rfl,h1,_,_,rfl,h2,_,_,rfl,h3,rfl⟩ := h
      obtain ⟨k,hk,rfl⟩ := hasI h1
      obtain ⟨f,xs,w,rfl,e2,l2,r2⟩ := hasWs h2
      obtain ⟨f3,ys,l,rfl,e3,l3,r3⟩ := hasSl (m := 56) (e := 25) (g := tA) (R := wfT) (by kernel_rfl) (by kernel_rfl) h3 fun j b hj hb => by
        obtain ⟨t,ht,e⟩ := ih j (by omega) b hb
        exact ⟨t,ht,by rw [mk_tree]; simp only [A.soft,e]; rw [tA_eq]⟩
      refine ⟨.mk k w l,wfT_iff.2 ⟨hk,r2,l2,l3,r3⟩,?_⟩
      simp only [List.cons_append,List.nil_append,List.append_nil,A.softL,A.soft,e2,e3]
      rfl
theorem hasTrees {n : Nat} {b : List A} (h : Has Tryz.prog n 23 b) : ∃ (f : Bool) (xs : List A) (l : List T),b = [.sl f xs]∧A.softL xs = l.map tA∧l.length * 56≤140737488355328∧∀ y,y ∈ l→wfT y :=
  hasSl (e := 25) (by kernel_rfl) (by kernel_rfl) h fun k b _ hb => by
    obtain ⟨t,h1,e⟩ := hasTree k b hb
    exact ⟨t,h1,by rw [mk_tree]; simp only [A.soft,e]; rw [tA_eq]⟩
end Go.Proofs.YthfiijdbnkaabaaGreat

namespace Go.Proofs.YthfiijdbnkaabaaGreat
set_option linter.unusedVariables false
set_option linter.unusedSimpArgs false
open Go Go.G Go.Proofs Go.PL Go.RowKit
theorem softL_app : ∀ (a b : List A),A.softL (a ++ b) = A.softL a ++ A.softL b
  | [],b => by simp [A.softL]
  | x :: a,b => by simp [A.softL,softL_app a b]
theorem und_we : Tryz.prog.underlying 63 = some (.struct (Tryz.prog.fieldsOf 63)) := by kernel_rfl
theorem fld_we : (Tryz.prog.fieldsOf 63).toList.map Field.type = [3,5,60,60] := by kernel_rfl
theorem mk_we (b : List A) : mk Tryz.prog 63 b = .agg b := by unfold mk; rw [und_we]
theorem hasB8 {n : Nat} {b : List A} (h : Has Tryz.prog n 5 b) : ∃ m,(0≤m∧m < 256)∧b = [u8 m] := by
  cases n with
  | zero => exact h.elim
  | succ n =>
    have u : Tryz.prog.underlying 5 = some (.int .u8) := by kernel_rfl
    unfold Has at h
    rw [u] at h
    obtain ⟨m,hm,rfl⟩ := h
    exact ⟨m,lit_u8 hm,rfl⟩
theorem hasWE {n : Nat} {b : List A} (h : Has Tryz.prog n 63 b) : ∃ w : WE,WE.wf w∧(mk Tryz.prog 63 b).soft = wA w := by
  cases n with
  | zero => exact h.elim
  | succ n =>
    unfold Has at h
    rw [und_we] at h
    simp only at h
    rw [hasL_types,fld_we] at h
    obtain ⟨_,_,rfl,h1,_,_,rfl,h2,_,_,rfl,h3,_,_,rfl,h4,rfl⟩ := h
    obtain ⟨a,ha,rfl⟩ := hasI h1
    obtain ⟨m,hm,rfl⟩ := hasB8 h2
    obtain ⟨o,ho,rfl⟩ := hasU h3
    obtain ⟨w,hw,rfl⟩ := hasU h4
    exact ⟨⟨a,m,o,w⟩,⟨ha,hm,ho,hw⟩,by rw [mk_we]; rfl⟩
theorem und_e : Tryz.prog.underlying 30 = some (.struct (Tryz.prog.fieldsOf 30)) := by kernel_rfl
theorem fld_e : (Tryz.prog.fieldsOf 30).toList.map Field.type = [3,25,25,26,27,3,28] := by kernel_rfl
theorem mk_e (b : List A) : mk Tryz.prog 30 b = .agg b := by unfold mk; rw [und_e]
theorem und_ke : Tryz.prog.underlying 66 = some (.struct (Tryz.prog.fieldsOf 66)) := by kernel_rfl
theorem fld_ke : (Tryz.prog.fieldsOf 66).toList.map Field.type = [3,30] := by kernel_rfl
theorem mk_ke (b : List A) : mk Tryz.prog 66 b = .agg b := by unfold mk; rw [und_ke]
theorem und_op : Tryz.prog.underlying 69 = some (.struct (Tryz.prog.fieldsOf 69)) := by kernel_rfl
theorem fld_op : (Tryz.prog.fieldsOf 69).toList.map Field.type = [3,3,23,30] := by kernel_rfl
theorem mk_op (b : List A) : mk Tryz.prog 69 b = .agg b := by unfold mk; rw [und_op]
theorem hasEdit : ∀ (n : Nat) (b : List A),Has Tryz.prog n 30 b→∃ e,wfE e∧A.softL b = eL e := by
  intro n
  induction n using Nat.strongRecOn with
  | ind n ih =>
    intro b h
    cases n with
    | zero => exact h.elim
    | succ n =>
      unfold Has at h
      rw [und_e] at h
      simp only at h
      rw [hasL_types,fld_e] at h
      obtain ⟨_,_,rfl,h1,_,_,rfl,h2,_,_,rfl,h3,_,_,rfl,h4,_,_,rfl,h5,_,_,rfl,h6,_,_,rfl,h7,rfl⟩ := h
      obtain ⟨k,hk,rfl⟩ := hasI h1
      obtain ⟨o,ho,e2⟩ := hasTree _ _ h2
      obtain ⟨nn,hn,e3⟩ := hasTree _ _ h3
      obtain ⟨f4,x4,ws,rfl,e4,l4,r4⟩ := hasSl (m := 32) (e := 63) (g := wA) (R := WE.wf) (by kernel_rfl) (by kernel_rfl) h4 fun j b hj hb => hasWE hb
      obtain ⟨f5,x5,ks,rfl,e5,l5,r5⟩ := hasSl (m := 208) (e := 66) (g := kA) (R := fun x => i64R x.at_∧wfE x.e) (by kernel_rfl) (by kernel_rfl) h5 fun j b hj hb => by
        cases j with
        | zero => exact hb.elim
        | succ j =>
          unfold Has at hb
          rw [und_ke] at hb
          simp only at hb
          rw [hasL_types,fld_ke] at hb
          obtain ⟨_,_,rfl,g1,_,_,rfl,g2,rfl⟩ := hb
          obtain ⟨a,ha,rfl⟩ := hasI g1
          obtain ⟨e,he,ee⟩ := ih j (by omega) _ g2
          refine ⟨.mk a e,⟨ha,he⟩,?_⟩
          rw [mk_ke,kA_eq]
          simp only [A.soft,List.cons_append,List.nil_append,List.append_nil,A.softL,ee]
          rfl
      obtain ⟨l,hl,rfl⟩ := hasI h6
      obtain ⟨f7,x7,os,rfl,e7,l7,r7⟩ := hasSl (m := 240) (e := 69) (g := oA) (R := WfO) (by kernel_rfl) (by kernel_rfl) h7 fun j b hj hb => by
        cases j with
        | zero => exact hb.elim
        | succ j =>
          unfold Has at hb
          rw [und_op] at hb
          simp only at hb
          rw [hasL_types,fld_op] at hb
          obtain ⟨_,_,rfl,g1,_,_,rfl,g2,_,_,rfl,g3,_,_,rfl,g4,rfl⟩ := hb
          obtain ⟨k,hk,rfl⟩ := hasI g1
          obtain ⟨m,hm,rfl⟩ := hasI g2
          obtain ⟨f,xs,tl,rfl,et,lt,rt⟩ := hasTrees g3
          obtain ⟨e,he,ee⟩ := ih j (by omega) _ g4
          refine ⟨.mk k m tl e,⟨hk,hm,rt,lt,he⟩,?_⟩
          rw [mk_op,oA_eq]
          simp only [A.soft,List.cons_append,List.nil_append,List.append_nil,A.softL,ee,et]
          rfl
      refine ⟨.mk k o nn ws ks l os,wfE_iff.2 ⟨hk,hl,ho,hn,r4,l4,l5,l7,r5,r7⟩,?_⟩
      simp only [List.cons_append,List.nil_append,List.append_nil,A.softL,A.soft,softL_app,e2,e3,e4,e5,e7]
      rfl
end Go.Proofs.YthfiijdbnkaabaaGreat

namespace Go.Proofs.YthfiijdbnkaabaaGreat
set_option linter.unusedVariables false
set_option linter.unusedSimpArgs false
open Go Go.G Go.Proofs Go.PL Go.RowKit
set_option maxRecDepth 100000 in
theorem said_patchCodes (xs : List A) (h : ArgsHas Tryz.prog Tryz.f6.params.toList xs) : G.Spec Tryz.prog 6 xs (.v (.bool true)) := by
  have h : ArgsHas Tryz.prog [30,3] xs := h
  match xs,h with
  | [a,a2],⟨⟨n,b,h1,h2⟩,⟨n2,b2,h12,h22⟩,_⟩ =>
    obtain ⟨e,he,ee⟩ := hasEdit _ _ h1
    obtain ⟨m,hm,em⟩ := hasI h12
    rw [h2,mk_e,h22,mk_int,em]
    exact (PatchCodes_spec he m).soft (by simp only [A.softL,A.soft,ee]; rfl)
end Go.Proofs.YthfiijdbnkaabaaGreat

namespace Go.G
set_option linter.unusedVariables false
set_option linter.unusedSimpArgs false
open Go.RowKit Go.ChangeShapes Go.WideShapes
section
variable {H : Type} {enc : TypeId × Value→H} {P : Program}
def rowsRead (P : Program) (ts : List TypeId) : Bool := ts.all fun t => P.readableRec t && decide (t < P.types.size)
theorem trodAll_below (hl : laidOutB P = true) {W W' : World} (hb : Below W.heap.size W W') (sp : Nat→Bool) : ∀ {ts : List TypeId} {vs : List Value} {ds : List (DataW H)} {ps : List MemPlace},rowsRead P ts = true →
    DataW.TrodAll enc P W 0 (fun _ => true) true ts vs ds ps→(∀ x ∈ ps,x.block < W.heap.size)→(∀ x ∈ ps,sp x.block = true)→DataW.TrodAll enc P W' 0 sp true ts vs ds ps
  | [],_,_,_,_,h,_,_ => by
    obtain ⟨rfl,rfl,rfl⟩ := trodAll_nil h
    exact trodAll_mk0
  | t :: ts,_,_,_,hr,h,hlt,hsp => by
    obtain ⟨v,vs,d,ds,p,q,rfl,rfl,rfl,h1,h2⟩ := trodAll_cons h
    simp only [rowsRead,List.all_cons,Bool.and_eq_true,decide_eq_true_eq] at hr
    exact ⟨p,q,WideElems.Trod_stays hl hr.1.1 hr.1.2 h1 (fun x hx => hb.same (hlt x (by simp [hx]))) (fun x hx => hsp x (by simp [hx])),
      trodAll_below hl hb sp (by simpa [rowsRead] using hr.2) h2 (fun x hx => hlt x (by simp [hx])) (fun x hx => hsp x (by simp [hx])),rfl⟩
theorem trodAll_length {w : World} {base : Nat} {spare : Nat→Bool} {held : Bool} : ∀ {ts : List TypeId} {vs : List Value} {ds : List (DataW H)} {ps : List MemPlace},DataW.TrodAll enc P w base spare held ts vs ds ps→ds.length = ts.length∧vs.length = ts.length
  | [],_,_,_,h => by
    obtain ⟨rfl,rfl,rfl⟩ := trodAll_nil h
    exact ⟨rfl,rfl⟩
  | t :: ts,_,_,_,h => by
    obtain ⟨v,vs,d,ds,p,q,rfl,rfl,rfl,h1,h2⟩ := trodAll_cons h
    have := trodAll_length h2
    simp [this]
theorem post_law {f : Func} {s : ChangeSpec} {apart fresh handsOn again : Bool} {W W' : World} {args : Array Value} {ds gs : List (DataW H)} {before : List MemPlace} {t : TypeId}
    (hl : laidOutB P = true) (hp : rowsRead P f.params.toList = true) (hsv : s.vars = []) (hW : DataW.Whole enc P f.params.toList s.vars apart W args.toList ds gs before) (hB : Below W.heap.size W W')
    (hrt : f.resultTypes = #[t]) (ht : P.underlying t = some .bool) (hfn : ∀ ds' : List (DataW H),ds'.length = f.params.size→s.fn H ds' = { results := [.lit (.bool true)],args := ds' }) :
    s.post enc P f apart fresh handsOn again W args (.bool true) W' := by
  have hlt := hW.lt
  have hW' := hW
  obtain ⟨p,q,hA,hV,rfl,hz,hn⟩ := hW'
  rw [hsv] at hV
  obtain ⟨rfl,rfl⟩ := trodVars_none hV
  have hfn := hfn ds (by have := (trodAll_length hA).1; simpa using this)
  simp only [List.append_nil] at hlt hz hn
  have hA' := fun sp => trodAll_below hl hB sp hp hA hlt
  have hr : ∀ (b : Nat) (sp : Nat→Bool) (hd : Bool),DataW.TrodAll enc P W' b sp hd f.resultTypes.toList ((Value.bool true).resultList f.resultTypes.size) [.lit (.bool true)] [] := fun b sp hd => by
    rw [hrt]
    exact trodAll_cons_mk (shut_bool ht _) trodAll_mk0
  refine ⟨ds,[],p ++ [],[],p,[],hW,?_,?_,?_,Below.frame hB _,fun _ => ?_⟩
  · simp only [List.append_nil,hfn]; exact hr _ _ _
  · simp only [List.append_nil,hfn]; exact hA' _ (fun x hx => by simpa using hlt x hx)
  · simp only [List.append_nil,hfn,hsv]; exact rfl
  · refine ⟨ok_one hrt rfl (okWide_bool_mk ht _),_,[],([] ++ p) ++ [],⟨[] ++ p,[],trodAll_append (hA' (fun _ => true) (fun _ _ => rfl)) (hr _ _ _),by rw [hsv]; rfl,rfl,?_,?_⟩,?_⟩
    · intro b off hx
      have hx : MemPlace.cell b off ∈ p := by simpa using hx
      rw [Below.frozen hB (hlt _ hx)]
      exact hz b off hx
    · intro ha
      have := hn ha
      simpa using this
    · intro x hx _
      simpa using hx
theorem law_calls {f : Func} {fid : FuncId} {s : ChangeSpec} {apart fresh handsOn again : Bool} {W : World} {base : Nat} {args : Array Value} {ds gs : List (DataW H)} {before : List MemPlace} {t : TypeId} (S : List TypeId)
    (hl : laidOutB P = true) (hp : rowsRead P f.params.toList = true) (hS : plainT P S = true) (hts : f.params.toList.all S.contains = true) (hsv : s.vars = []) (hrt : f.resultTypes = #[t]) (ht : P.underlying t = some .bool)
    (hfn : ∀ ds' : List (DataW H),ds'.length = f.params.size→s.fn H ds' = { results := [.lit (.bool true)],args := ds' })
    (hspec : ∀ as',ArgsHas P f.params.toList as'→Spec P fid as' (.v (.bool true)))
    (hval : ∀ (j : Nat) t v,f.params[j]? = some t→args[j]? = some v→Value.okWide P W .any base t v) (hW : DataW.Whole enc P f.params.toList s.vars apart W args.toList ds gs before)
    (hwt : (DataW.weightsEach P (f.params.toList ++ s.plain.varTypes P) (ds ++ gs)).all (·≤reachBytes) = true) :
    Calls P fid args W fun e W' => ∃ v,e = .returned v∧s.post enc P f apart fresh handsOn again W args v W' := by
  have hW' := hW
  obtain ⟨p,q,hA,hV,rfl,hz,hn⟩ := hW
  have hV' := hV
  rw [hsv] at hV'
  obtain ⟨rfl,_⟩ := trodVars_none hV'
  have hwt' : ∀ m,m ∈ DataW.weightsEach P f.params.toList ds→m≤reachBytes := by
    have e : s.plain.varTypes P = [] := by simp [ChangeSpec.plain,DataSpec.varTypes,hsv]
    rw [e,List.append_nil,List.append_nil,List.all_eq_true] at hwt
    exact fun m hm => by simpa using hwt m hm
  obtain ⟨as',h1,h2,h3⟩ := args_of_trod hS (fun t ht => by rw [List.all_eq_true] at hts; simpa using hts t ht) hwt' hA (fun j u v hj hv => hval j u v (by simpa using hj) (by simpa using hv))
  refine ((hspec as' h2).2 W (Old W) args (fun _ h => h) (by simpa using h1.symm) (fun k y hk => ?_)).mono fun e W' ⟨v,he,hB,hr⟩ => ?_
  · have := h3 k y hk
    simpa [List.getD,Array.getD_eq_getD_getElem?] using this
  · cases hr
    exact ⟨_,he,post_law hl hp hsv hW' hB hrt ht hfn⟩
end
end Go.G
