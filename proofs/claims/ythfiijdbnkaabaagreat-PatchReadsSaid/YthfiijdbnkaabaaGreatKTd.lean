/-
  Texts, merged, without what is not reached.
-/
import Derived.Test.YthfiijdbnkaabaaGreatKTc
namespace Go.Proofs.YthfiijdbnkaabaaGreat
set_option linter.unusedVariables false
set_option linter.unusedSimpArgs false
open Go Go.G Go.Proofs Go.PL
theorem wf_norm : ∀ (t : T),wfT t→wfT (norm t) := by
  refine T.ind fun k w l ih hw => ?_
  have hw' := wfT_iff.1 hw
  rw [norm_mk]
  have h2 : ∀ (l : List T),(∀ t,t ∈ l→∃ u,u ∈ l∧t = u)→True := fun _ _ => trivial
  have hm : ∀ t,t ∈ l.map norm→wfT t := fun t ht => by
    obtain ⟨u,hu,rfl⟩ := List.mem_map.1 ht
    exact ih u hu (hw'.ks u hu)
  split
  · exact wfT_iff.2 ⟨by simp [i64R],by simp,by simp,by simp,by simp⟩
  · split
    · refine wfT_iff.2 ⟨by simp [i64R],fun x hx => ?_,?_,?_,fun t ht => ?_⟩
      · simp only [T.words_mk] at hx
        rw [trimW_take] at hx
        exact hw'.w x (List.mem_of_mem_take hx)
      · have := trimW_le w
        have := hw'.wl
        simp at this ⊢
        omega
      · have := trimK_le (l.map norm)
        have := hw'.kl
        simp at this ⊢
        simp at *
        omega
      · simp only [T.kids_mk] at ht
        rw [trimK_take] at ht
        exact hm t (List.mem_of_mem_take ht)
    · exact wfT_iff.2 ⟨hw'.k,hw'.w,hw'.wl,by simpa using hw'.kl,by simpa using hm⟩
section
variable {n0 : Nat} {w0 : World} {I0 : Nat→Prop} {Q : Exit→Sta→Prop}
end
theorem fits_word {c : T} (h : wfT c) (hl : c.words.length = 1) : ∃ x,c.words = [x]∧u64R x := by
  have := (wfT_iff.1 h).w
  match hc : c.words,hl with
  | [x],_ => exact ⟨x,rfl,this x (by simp [hc])⟩
theorem right_kind10 {d : Nat} {c : T} (h : rightT d c = true) (h10 : c.kind = 10) : c.words.length = 1 := by
  obtain ⟨k,w,l⟩ := c
  simp at h10
  subst h10
  rw [rightT_mk] at h
  simp at h
  exact h.1
section
variable {n0 : Nat} {w0 : World} {I0 : Nat→Prop} {Q : Exit→Sta→Prop}
theorem right_l1 {t : T} (hl : t.kids.length * 56≤140737488355328) (hk0 : 0≤t.kind) (hk1 : t.kind≤10) {d : Nat} (hd : 1≤d) (hd1 : d≤1000) (hw : ∀ c,c ∈ t.kids→wfT c) (ih : ∀ c,c ∈ t.kids→∀ d : Nat,d≤1000→G.Spec Tryz.prog 17 [tX c,iv d] (bv (rightT d c))) : ∀ (m i : Nat) (H : Hp),i + m = t.kids.length→H [0] = ⟨1,.cells (tL t)⟩ →
    (rightL (d - 1) t.kind (t.kids.drop i) = true→∀ i' q H',Q (.exit 0) ⟨lk [(1,iv d),(2,.pob [0] 1 0),(5,iv i'),(82,bv q)],H'⟩)→(rightL (d - 1) t.kind (t.kids.drop i) = false→∀ H',Q .ret ⟨lk [(4,bv false)],H'⟩) →
    LoopC (cx Tryz.prog w0 I0 n0) l1_centoref07_Right Q ⟨lk [(1,iv d),(2,.pob [0] 1 0),(5,iv i)],H⟩ := by
  intro m
  induction m with
  | zero =>
    intro i H hi hA h1 h2
    have : i = t.kids.length := by omega
    subst this
    refine loopC_once mixed l1_centoref07_Right.eq_1 ?_
    simp [hA]
    exact h1 (by simp) _ _ _
  | succ m ihm =>
    intro i H hi hA h1 h2
    have hlt : i < t.kids.length := by omega
    have e : t.kids.drop i = t.kids[i] :: t.kids.drop (i + 1) := List.drop_eq_getElem_cons hlt
    have ei : IntKind.i64.wrap ((i : Int) + 1) = ((i + 1 : Nat) : Int) := i64_same (by omega) (by omega)
    have ed : IntKind.i64.wrap ((d : Int) - 1) = ((d - 1 : Nat) : Int) := by rw [i64_same (by omega) (by omega)]; omega
    rw [e,rightL_cons] at h1 h2
    have hwc := hw _ (List.getElem_mem hlt)
    have ihc := ih _ (List.getElem_mem hlt) (d - 1) (by omega)
    generalize hc : t.kids[i] = c at *
    refine loopC_once mixed l1_centoref07_Right.eq_1 ?_
    simp [hA,hlt,hc,updF_app,ed]
    refine sc_call ihc rfl ?_
    cases hr : rightT (d - 1) c with
    | false =>
      simp
      exact h2 (by simp [hr]) _
    | true =>
      rw [hr] at h1 h2
      have good : kidOk t.kind c = true→∀ H',H' [0] = ⟨1,.cells (tL t)⟩→LoopC (cx Tryz.prog w0 I0 n0) l1_centoref07_Right Q ⟨lk [(1,iv d),(2,.pob [0] 1 0),(5,iv ((i : Int) + 1))],H'⟩ := fun hg H' hA' =>
        ihm (i + 1) H' (by omega) hA' (fun hh => h1 (by simp [hg,hh])) (fun hh => h2 (by simp [hh]))
      have bad : kidOk t.kind c = false→∀ H',Q .ret ⟨lk [(4,bv false)],H'⟩ := fun hg => h2 (by simp [hg])
      rw [show ((i + 1 : Nat) : Int) = (i : Int) + 1 from rfl] at ei
      by_cases hD : 2≤t.kind∧t.kind≤7
      · obtain ⟨d2,d7⟩ := hD
        have d9 : ¬ t.kind = 9 := by omega
        by_cases h10 : c.kind = 10
        · obtain ⟨x,hx,hx64⟩ := fits_word hwc (right_kind10 hr h10)
          have hk : kidOk t.kind c = fitsZ (t.kind - 2) x := by simp [kidOk,isData,d2,d7,d9,h10,hx]
          have e2 : IntKind.i64.wrap (t.kind - 2) = t.kind - 2 := i64_same (by omega) (by omega)
          simp [updF_app,hA,d2,d7,d9,h10,hx,e2]
          refine sc_call_gt rfl (fun _ => rFits_spec hx64) (fun _ => rfl) rfl ?_
          cases hf : fitsZ (t.kind - 2) x with
          | false => simp; exact bad (by rw [hk,hf]) _
          | true => simp [ei]; exact good (by rw [hk,hf]) _ (by simp [updF_app,hA])
        · have hk : kidOk t.kind c = false := by simp [kidOk,isData,d2,d7,d9,h10]
          simp [updF_app,hA,d2,d7,d9,h10]
          refine sc_call_off rfl ?_
          simp
          exact bad hk _
      · have hD' : (decide (2≤t.kind) && decide (t.kind≤7)) = false := by simp; omega
        by_cases h10 : c.kind = 10
        · have hk : kidOk t.kind c = false := by simp [kidOk,isData,hD',h10]
          simp [updF_app,hA,hD',h10]
          refine sc_call_off rfl ?_
          simp
          exact bad hk _
        · by_cases h9 : t.kind = 9
          · by_cases h1' : c.kind = 1
            · have hk : kidOk t.kind c = true := by simp [kidOk,isData,hD',h9,h1']
              rw [h9] at hD'
              simp [updF_app,hA,hD',h10,h9,h1']
              refine sc_call_off rfl ?_
              simp [ei]
              exact good hk _ (by simp [updF_app,hA])
            · have hk : kidOk t.kind c = false := by simp [kidOk,isData,hD',h9,h1',h10]
              rw [h9] at hD'
              simp [updF_app,hA,hD',h10,h9,h1']
              refine sc_call_off rfl ?_
              simp
              exact bad hk _
          · have hk : kidOk t.kind c = true := by simp [kidOk,isData,hD',h9,h10]
            simp [updF_app,hA,hD',h10,h9]
            refine sc_call_off rfl ?_
            simp [ei]
            exact good hk _ (by simp [updF_app,hA])
end
theorem rRight_spec : ∀ (t : T),wfT t→∀ d : Nat,d≤1000→G.Spec Tryz.prog 17 [tX t,iv d] (bv (rightT d t)) := by
  refine T.ind fun k w l ih hw d hd => ?_
  have hw' := wfT_iff.1 hw
  have hwl := hw'.wl
  have hkl := hw'.kl
  simp at hwl hkl
  refine spec_of t_centoref07_Right (by simp) fun w0 I0 => ?_
  unfold c_centoref07_Right
  rw [rightT_mk]
  by_cases h0 : k = 0
  · simp [h0]
    exact frz_bool (by cases w <;> cases l <;> simp <;> (rw [← List.length_eq_zero_iff]; omega))
  by_cases h10 : k = 10
  · simp [h10]
    exact frz_bool (by cases w <;> cases l <;> simp <;> (rw [← List.length_eq_zero_iff]; omega))
  rw [if_neg h0,if_neg h10]
  have bad : tooBig k d w.length l.length = true→∀ H,Frz H (bv false) (bv (if tooBig k d w.length l.length = true then false else rightL (d - 1) k l)) := fun hb H => frz_bool (by simp [hb])
  by_cases ha : k < 0∨10 < k∨d = 0∨65536≤w.length
  · have ha' : (decide (k < 0) || decide (10 < k) || decide (d = 0) || decide (65536≤(w.length : Int))) = true := by simp; omega
    simp [h0,h10,ha']
    have := bad (by simp [tooBig]; omega) (lkH [([0],{ u := 1,ob := Ob.cells [iv k,uws w,tKs l] })])
    simpa using this
  have ha' : (decide (k < 0) || decide (10 < k) || decide (d = 0) || decide (65536≤(w.length : Int))) = false := by simp; omega
  by_cases h1 : k = 1∧65536≤l.length
  · have hl : (65536 : Int)≤l.length := by omega
    simp [h0,h10,ha',h1.1,hl]
    have := bad (by simp [tooBig]; omega) (lkH [([0],{ u := 1,ob := Ob.cells [iv k,uws w,tKs l] })])
    simpa [h1.1] using this
  by_cases h2 : 1048576≤l.length
  · have hl : (1048576 : Int)≤l.length := by omega
    have hk1 : ¬ k = 1 := by omega
    simp [h0,h10,ha',hk1,hl]
    have := bad (by simp [tooBig]; omega) (lkH [([0],{ u := 1,ob := Ob.cells [iv k,uws w,tKs l] })])
    simpa using this
  have hl2 : ¬ (1048576 : Int)≤l.length := by omega
  by_cases h3 : 1 < k∧0 < w.length
  · have hk1 : ¬ k = 1 := by omega
    have hw0 : w ≠ [] := fun e => by simp [e] at h3
    simp [h0,h10,ha',hk1,hl2,h3.1,h3.2,hw0]
    have := bad (by simp [tooBig]; omega) (lkH [([0],{ u := 1,ob := Ob.cells [iv k,uws w,tKs l] })])
    simpa using this
  have hb : tooBig k d w.length l.length = false := by
    rw [Bool.eq_false_iff]
    unfold tooBig
    simp only [Bool.or_eq_true,Bool.and_eq_true,decide_eq_true_eq,ne_eq]
    omega
  have hw0 : (1 < k→w = []) := fun h => List.eq_nil_of_length_eq_zero (by omega)
  have fin : LoopC (cx Tryz.prog w0 I0 132) l1_centoref07_Right (InBlock 0 (ThenC (WPC (cx Tryz.prog w0 I0 132) (.keep [] (.seq (.reg [co (some 4) (.assign (.const (.bool true))) none] [4]) .ret)) (RetC Tryz.prog [.tmp 4] (bv (rightL (d - 1) k l)))) (RetC Tryz.prog [.tmp 4] (bv (rightL (d - 1) k l))))) ⟨lk [(1,iv d),(2,.pob [0] 1 0),(5,iv 0)],lkH [([0],⟨1,.cells [iv k,uws w,tKs l]⟩)]⟩ := by
    refine right_l1 (t := .mk k w l) (by simpa using hkl) (by simp; omega) (by simp; omega) (by omega) hd (fun c hc => hw'.ks c hc) (fun c hc => ih c hc (hw'.ks c hc)) l.length 0 _ (by simp) (by simp) (fun hr i' q H' => ?_) (fun hr H' => ?_)
    · simp
      exact frz_bool (by simpa using hr.symm)
    · simp
      exact frz_bool (by simpa using hr.symm)
  rw [if_neg (by simp [hb])]
  by_cases k1 : k = 1
  · have hl3 : ¬ (65536 : Int)≤l.length := by omega
    have ha1 : (decide (d = 0) || decide (65536≤(w.length : Int))) = false := by simp; omega
    simp [ha1,k1,hl2,hl3]
    simpa [k1] using fin
  · simp [h0,h10,ha',k1,hl2]
    refine ⟨fun a b => absurd ⟨a,by omega⟩ h3,fun _ => ?_⟩
    exact fin
end Go.Proofs.YthfiijdbnkaabaaGreat

namespace Go.Proofs.YthfiijdbnkaabaaGreat
set_option linter.unusedVariables false
set_option linter.unusedSimpArgs false
open Go Go.G Go.Proofs Go.PL
theorem means_wf {l : List (List Int)} (hs : Sg l) : ∀ (t : T) (r : Rf),Means l r t→wfT t := by
  refine T.ind fun k w ks ih r ht => ?_
  have hln := means_len ht
  have hk := means_kind ht
  have hok := means_ok ht
  simp at hln hk
  refine wfT_iff.2 ⟨?_,?_,?_,?_,?_⟩
  · simp only [T.kind_mk]
    rw [← hk]
    unfold i64R
    cases hok <;> simp [Rf.zero] <;> omega
  · intro x hx
    obtain ⟨i,hi,rfl⟩ := List.mem_iff_getElem.1 hx
    have := (means_word ht).2 i hi
    rw [← this]
    unfold u64R wordAt
    split
    · omega
    · split
      · cases hok with
        | atom n a1 a2 => exact ⟨a1,a2⟩
        | dat c s a n a1 a2 a3 a4 h => simp
        | _ => simp [Rf.zero]
      · cases e : word l r.s (r.at_ + i) with
        | none => simp
        | some x => exact word_in hs.w e
  · simp; omega
  · simp; omega
  · intro c hc
    obtain ⟨i,hi,rfl⟩ := List.mem_iff_getElem.1 hc
    exact ih _ (List.getElem_mem hi) _ (means_kid ht hi).2
end Go.Proofs.YthfiijdbnkaabaaGreat

namespace Go.G
set_option linter.unusedVariables false
set_option linter.unusedSimpArgs false
open Go.RowKit
structure Fam where
  F : Nat→Nm→VOb
  ren : ∀ {g : Nm→Nm} {δ : Nm→Nat} {r r' : Nat},(∀ p,g (r :: p) = r' :: p)→(∀ p,δ (r :: p) = 0)→∀ p,(F r p).ren g δ 0 = F r' p
  refs : ∀ {D : Nm→Prop} {r : Nat},(∀ p,D (r :: p))→∀ p,(F r p).ob.refs D
def Fam.no : Fam := ⟨fun _ _ => ⟨0,.none⟩,fun _ _ _ => rfl,fun _ _ => trivial⟩
@[simp] theorem Fam.no_F {r : Nat} {p : Nm} : Fam.no.F r p = ⟨0,.none⟩ := rfl
structure FamA (a : Nat→A) : Prop where
  ren : ∀ {g : Nm→Nm} {δ : Nm→Nat} {r r' : Nat},(∀ p,g (r :: p) = r' :: p)→(∀ p,δ (r :: p) = 0)→(a r).ren g δ = a r'
  refs : ∀ {D : Nm→Prop} {r : Nat},(∀ p,D (r :: p))→(a r).refs D
structure FamL (a : Nat→List A) : Prop where
  ren : ∀ {g : Nm→Nm} {δ : Nm→Nat} {r r' : Nat},(∀ p,g (r :: p) = r' :: p)→(∀ p,δ (r :: p) = 0)→A.renL g δ (a r) = a r'
  refs : ∀ {D : Nm→Prop} {r : Nat},(∀ p,D (r :: p))→A.refsL D (a r)
@[simp] theorem famL_nil : FamL (fun _ => []) := ⟨fun _ _ => by simp [A.renL],fun _ => by simp [A.refsL]⟩
theorem famL_cons {a : Nat→A} {l : Nat→List A} (h : FamA a) (k : FamL l) : FamL (fun r => a r :: l r) := ⟨fun h1 h2 => by simp [A.renL,h.ren h1 h2,k.ren h1 h2],fun h1 => by simp only [A.refsL]; exact ⟨h.refs h1,k.refs h1⟩⟩
@[simp] theorem famL_cons_iff {a : Nat→A} {l : Nat→List A} (h : FamA a) : FamL (fun r => a r :: l r) = FamL l := by
  refine propext ⟨fun k => ⟨fun h1 h2 => ?_,fun h1 => ?_⟩,famL_cons h⟩
  · have := k.ren h1 h2
    simp only [A.renL,List.cons.injEq] at this
    exact this.2
  · have := k.refs h1
    simp only [A.refsL] at this
    exact this.2
theorem FamL.all {l : List A} (h : ∀ x,x ∈ l→FamA (fun _ => x)) : FamL (fun _ => l) := by
  induction l with
  | nil => simp
  | cons x l ih => exact famL_cons (h x (by simp)) (ih fun y hy => h y (by simp [hy]))
@[simp] theorem famA_any : FamA (fun _ => .any) := ⟨fun _ _ => by simp [A.ren],fun _ => by simp [A.refs]⟩
@[simp] theorem famA_v {x : Value} : FamA (fun _ => .v x) := ⟨fun _ _ => by simp [A.ren],fun _ => by simp [A.refs]⟩
@[simp] theorem famA_sl {f : Bool} {xs : List A} : FamA (fun _ => .sl f xs) := ⟨fun _ _ => by simp [A.ren],fun _ => by simp [A.refs]⟩
@[simp] theorem famA_pim {xs : List A} : FamA (fun _ => .pim xs) := ⟨fun _ _ => by simp [A.ren],fun _ => by simp [A.refs]⟩
@[simp] theorem famA_pob {u off : Nat} {q : Nm} : FamA (fun r => .pob (r :: q) u off) := ⟨fun h1 h2 => by simp [A.ren,h1,h2],fun h => by simp [A.refs,h]⟩
@[simp] theorem famA_osl {u sz off len : Nat} {q : Nm} : FamA (fun r => .osl (r :: q) u sz off len) := ⟨fun h1 h2 => by simp [A.ren,h1,h2],fun h => by simp [A.refs,h]⟩
@[simp] theorem famA_pel {u i j : Nat} {q : Nm} : FamA (fun r => .pel (r :: q) u i j) := ⟨fun h1 h2 => by simp [A.ren,h1,h2],fun h => by simp [A.refs,h]⟩
@[simp] theorem famA_agg {l : Nat→List A} (h : FamL l) : FamA (fun r => .agg (l r)) := ⟨fun h1 h2 => by simp [A.ren,h.ren h1 h2],fun h1 => by simp only [A.refs]; exact h.refs h1⟩
@[simp] theorem famA_tup {l : Nat→List A} (h : FamL l) : FamA (fun r => .tup (l r)) := ⟨fun h1 h2 => by simp [A.ren,h.ren h1 h2],fun h1 => by simp only [A.refs]; exact h.refs h1⟩
@[simp] theorem famA_fnc {f : FuncId} {l m : Nat→List A} (h : FamL l) (k : FamL m) : FamA (fun r => .fnc f (l r) (m r)) := ⟨fun h1 h2 => by simp [A.ren,h.ren h1 h2,k.ren h1 h2],fun h1 => by simp only [A.refs]; exact ⟨h.refs h1,k.refs h1⟩⟩
theorem famA_bare1 {a : A} (h : a.bare1 = true) : FamA (fun _ => a) := by cases a <;> simp [A.bare1] at h ⊢
theorem famA_bare {a : A} {cs : List A} (ha : a = .agg cs) (h : ∀ x,x ∈ cs→x.bare1 = true) : FamA (fun _ => a) := by
  subst ha
  exact famA_agg (l := fun _ => cs) (FamL.all fun x hx => famA_bare1 (h x hx))
theorem Fam.cells_ren {g : Nm→Nm} {δ : Nm→Nat} {u : Nat} {l l' : List A} (h : A.renL g δ l = l') : VOb.ren g δ 0 ⟨u,.cells l⟩ = ⟨u,.cells l'⟩ := by simp [VOb.ren,Ob.ren,h]
theorem Fam.arr_ren {g : Nm→Nm} {δ : Nm→Nat} {u sz : Nat} {l l' : List A} (h : A.renL g δ l = l') : VOb.ren g δ 0 ⟨u,.arr sz l⟩ = ⟨u,.arr sz l'⟩ := by simp [VOb.ren,Ob.ren,h]
structure SpecF (P : Program) (f : FuncId) (as' : Nat→List A) (F : Fam) (x : Nat→A) (F' : Fam) : Prop where
  fa : FamL as'
  fx : FamA x
  h : SpecH P f 1 (as' 0) (ov 0 (F.F 0) (lkH [])) (x 0) (ov 0 (F'.F 0) (lkH []))
section
variable {P : Program} {K : Sta→Prop} {rest : List CO} {s : Nat→A} {H : Hp} {dd : Option Nat} {nm : Nm} {ix : Nat} {un : List Nat} {l : Bool} {lg : Lg} {g : FuncId} {aa : Array Operand} {ts : Array TypeId}
theorem fam_in {r : Nat} {F : Fam} (hF : ∀ p,H (r :: p) = F.F r p) : inHp [r] 1 H = ov 0 (F.F 0) (lkH []) := by
  funext o
  cases o with
  | nil => rfl
  | cons i p =>
    by_cases hi : i < 1
    · have : i = 0 := by omega
      subst this
      simp only [inHp,if_pos hi,ov_cons,if_true]
      show (H (r :: p)).ren _ _ 0 = _
      rw [hF]
      exact F.ren (fun q => by simp [dnN]) (fun _ => rfl) p
    · simp only [inHp,if_neg hi,ov_cons]
      rw [if_neg (by omega)]
      rfl
theorem fam_out {r : Nat} {F' : Fam} : outG [r] (dlt [r] 1 H) H (ov 0 (F'.F 0) (lkH [])) = ov r (F'.F r) H := by
  have hd : ∀ p,dlt [r] 1 H (0 :: p) = 0 := fun p => rfl
  funext o
  cases o with
  | nil => rfl
  | cons j p =>
    by_cases hj : j = r
    · subst hj
      simp only [outG,ov_cons,if_true]
      rw [if_pos (by simp)]
      have : [j].idxOf j = 0 := by simp
      rw [this,if_pos rfl,hd]
      exact F'.ren (fun q => by simp [upN]) hd p
    · have : ¬ [r].contains j = true := by simpa using hj
      simp only [outG,if_neg this,ov_cons,if_neg hj]
theorem fam_closed {r : Nat} {F : Fam} (hF : ∀ p,H (r :: p) = F.F r p) : ClosedH [r] 1 H := by
  intro j p hj
  have hjr : j = r := by
    have := (idx_mem (rs := [r])).1 (by simpa using hj)
    simpa using this
  rw [hjr,hF]
  exact F.refs (fun q => by simp [inS]) p
theorem fam_refs {F' : Fam} (i : Nat) (p : Nm) (hi : i < 1) : ((ov 0 (F'.F 0) (lkH [])) (i :: p)).ob.refs (outS 1) := by
  have : i = 0 := by omega
  subst this
  simp only [ov_cons,if_true]
  exact F'.refs (fun q => by simp [outS]) p
theorem sc_fam {as' : Nat→List A} {F F' : Fam} {x : Nat→A} (r : Nat) (hS : SpecF P g as' F x F') (hF : ∀ p,H (r :: p) = F.F r p) (ha : aa.toList.map (evs s) = as' r) (hck : Ck un lg ⟨[],[([r],true)]⟩)
    (h : SeqC P K rest (addL l ix ⟨[],[([r],true)]⟩ lg) (Sta.put ⟨s,H⟩ dd (x r) (ov r (F'.F r) H))) :
    SeqC P K (⟨dd,.call { callee := .value (.func g),args := aa,argTypes := ts },none,nm,ix,un,l⟩ :: rest) lg ⟨s,H⟩ := by
  have hd : ∀ p,dlt [r] 1 H (0 :: p) = 0 := fun p => rfl
  refine sc_callH [r] 1 hS.h (by simp) (by simp) ?_ ?_ (fam_in hF) (fam_closed hF) (hS.fx.refs (fun p => by simp [outS])) (fun i p hi => fam_refs i p hi) (fun i p h1 h2 => by simp at h2; omega) (hS.fx.ren (fun q => by simp [upN]) hd) fam_out hck h
  · rw [ha]; exact hS.fa.ren (fun q => by simp [dnN]) (fun _ => rfl)
  · rw [ha]; exact hS.fa.refs (fun q => by simp [inS])
end
theorem ov_ov {r : Nat} {F F' : Nm→VOb} {H : Hp} : ov r F (ov r F' H) = ov r F H := by
  funext o
  cases o with
  | nil => rfl
  | cons j p => by_cases hj : j = r <;> simp [hj]
@[simp] theorem ov_same {r : Nat} {F F' : Nm→VOb} {H : Hp} : ov r F (ov r F' H) = ov r F H := ov_ov
theorem specF_of {P : Program} {f : FuncId} {n : Nat} {rs : List ResultVar} {cc : CC} {as' : Nat→List A} {F F' : Fam} {x : Nat→A} (t : Txt P f n rs cc) (ha : (as' 0).length≤n) (h0 : FamL as') (h1 : FamA x)
    (h : ∀ w0 I0 M0 m0,WPC (cxh P w0 I0 M0 n m0) cc (RetH (cxh P w0 I0 M0 n m0) rs 1 (x 0) (ov 0 (F'.F 0) (lkH []))) ⟨argS (as' 0),ov 0 (F.F 0) (lkH [])⟩) : SpecF P f as' F x F' :=
  ⟨h0,h1,specH_of t ha h⟩
theorem reth_fam {c : Cx} {rs : List ResultVar} {x : A} {F' : Nm→VOb} {r0 : A} {st : Sta} (h : resA c.P st rs = some r0) (he : r0 = x) (hh : ∀ p,st.H (0 :: p) = F' p) : RetH c rs 1 x (ov 0 F' (lkH [])) .ret st :=
  reth_ret h he fun i p hi => by
    have : i = 0 := by omega
    subst this
    rw [hh]
    simp
theorem reth_famN {c : Cx} {rs : List ResultVar} {x : A} {F' : Nm→VOb} {r0 : A} {st : Sta} (h : resA c.P st rs = some r0) (he : r0 = x) (hh : ∀ p,st.H (0 :: p) = F' p) : RetH c rs 1 x (ov 0 F' (lkH [])) .normal st :=
  reth_normal h he fun i p hi => by
    have : i = 0 := by omega
    subst this
    rw [hh]
    simp
structure FamL2 (a : Nat→Nat→List A) : Prop where
  ren : ∀ {g : Nm→Nm} {δ : Nm→Nat} {r r' q q' : Nat},(∀ p,g (r :: p) = r' :: p)→(∀ p,δ (r :: p) = 0)→(∀ p,g (q :: p) = q' :: p)→(∀ p,δ (q :: p) = 0)→A.renL g δ (a r q) = a r' q'
  refs : ∀ {D : Nm→Prop} {r q : Nat},(∀ p,D (r :: p))→(∀ p,D (q :: p))→A.refsL D (a r q)
@[simp] theorem famL2_nil : FamL2 (fun _ _ => []) := ⟨fun _ _ _ _ => by simp [A.renL],fun _ _ => by simp [A.refsL]⟩
section
variable {P : Program} {K : Sta→Prop} {rest : List CO} {s : Nat→A} {H : Hp} {dd : Option Nat} {nm : Nm} {ix : Nat} {un : List Nat} {l : Bool} {lg : Lg} {g : FuncId} {aa : Array Operand} {ts : Array TypeId}
end
def rowM (u sz : Nat) (xs : List A) (h : ∀ x,x ∈ xs→FamA (fun _ => x)) : Fam := ⟨fun _ p => if p = [] then ⟨u,.arr sz xs⟩ else ⟨0,.none⟩,fun {g δ r r'} hg hd p => by
    by_cases hp : p = []
    · rw [if_pos hp]
      exact Fam.arr_ren ((FamL.all h).ren hg hd)
    · rw [if_neg hp]; rfl,fun {D r} hD p => by
    by_cases hp : p = []
    · rw [if_pos hp]
      exact (FamL.all h).refs hD
    · rw [if_neg hp]; trivial⟩
@[simp] theorem rowM_F {u sz : Nat} {xs : List A} {h : ∀ x,x ∈ xs→FamA (fun _ => x)} {r : Nat} {p : Nm} : (rowM u sz xs h).F r p = if p = [] then ⟨u,.arr sz xs⟩ else ⟨0,.none⟩ := rfl
structure Fam2 where
  B : Nat→Nat→Nm→VOb
  C : Nat→Nat→Nm→VOb
  ren : ∀ {g : Nm→Nm} {δ : Nm→Nat} {r r' q q' : Nat},(∀ p,g (r :: p) = r' :: p)→(∀ p,δ (r :: p) = 0)→(∀ p,g (q :: p) = q' :: p)→(∀ p,δ (q :: p) = 0)→∀ p,(B r q p).ren g δ 0 = B r' q' p∧(C r q p).ren g δ 0 = C r' q' p
  refs : ∀ {D : Nm→Prop} {r q : Nat},(∀ p,D (r :: p))→(∀ p,D (q :: p))→∀ p,(B r q p).ob.refs D∧(C r q p).ob.refs D
def Fam.two (F G : Fam) : Fam2 := ⟨fun r _ => F.F r,fun _ q => G.F q,fun h1 h2 h3 h4 p => ⟨F.ren h1 h2 p,G.ren h3 h4 p⟩,fun h1 h2 p => ⟨F.refs h1 p,G.refs h2 p⟩⟩
@[simp] theorem two_B {F G : Fam} {r q : Nat} : (F.two G).B r q = F.F r := rfl
@[simp] theorem two_C {F G : Fam} {r q : Nat} : (F.two G).C r q = G.F q := rfl
section
variable {P : Program} {K : Sta→Prop} {rest : List CO} {s : Nat→A} {H : Hp} {dd : Option Nat} {nm : Nm} {ix : Nat} {un : List Nat} {l : Bool} {lg : Lg} {g : FuncId} {aa : Array Operand} {ts : Array TypeId}
end
end Go.G

namespace Go.PL
set_option linter.unusedVariables false
set_option linter.unusedSimpArgs false
def fndP (stop : Nat→Bool) (pl : List Nat) : Nat→Nat→Nat
  | 0,a => a
  | f + 1,a => if pl.getD a 0 = 0 then a else if stop (pl.getD a 0) = true then a else fndP stop pl f ((a + 1) % pl.length)
theorem mod_succ (a d m : Nat) : ((a + 1) % m + d) % m = (a + (d + 1)) % m := by
  rw [Nat.mod_add_mod]
  congr 1
  omega
theorem fndP_spec {stop : Nat→Bool} {pl : List Nat} : ∀ (f a d : Nat),a < pl.length→d < f→pl.getD ((a + d) % pl.length) 0 = 0 →
    fndP stop pl f a < pl.length∧(pl.getD (fndP stop pl f a) 0 = 0∨stop (pl.getD (fndP stop pl f a) 0) = true) ∧
      ∃ k,fndP stop pl f a = (a + k) % pl.length∧∀ e,e < k→pl.getD ((a + e) % pl.length) 0 ≠ 0∧stop (pl.getD ((a + e) % pl.length) 0) = false := by
  intro f
  induction f with
  | zero => intro a d _ h; omega
  | succ f ih =>
    intro a d ha hd hz
    unfold fndP
    have hself : ∃ k,a = (a + k) % pl.length∧∀ e,e < k→pl.getD ((a + e) % pl.length) 0 ≠ 0∧stop (pl.getD ((a + e) % pl.length) 0) = false := ⟨0,by rw [Nat.add_zero,Nat.mod_eq_of_lt ha],fun e he => by omega⟩
    split
    · rename_i h0
      exact ⟨ha,.inl h0,hself⟩
    · rename_i h0
      split
      · rename_i h1
        exact ⟨ha,.inr h1,hself⟩
      · rename_i h1
        cases d with
        | zero => rw [Nat.add_zero,Nat.mod_eq_of_lt ha] at hz; exact absurd hz h0
        | succ d =>
          obtain ⟨p1,p2,k,p3,p4⟩ := ih ((a + 1) % pl.length) d (Nat.mod_lt _ (by omega)) (by omega) (by rw [mod_succ]; exact hz)
          refine ⟨p1,p2,k + 1,by rw [p3,mod_succ],fun e he => ?_⟩
          cases e with
          | zero => rw [Nat.add_zero,Nat.mod_eq_of_lt ha]; exact ⟨h0,by simpa using h1⟩
          | succ e =>
            have := p4 e (by omega)
            rwa [mod_succ] at this
structure Pl (hs : List Nat) (pl : List Nat) : Prop where
  cnt : pl.countP (fun v => v != 0) = hs.length
  vals : ∀ v,v ∈ pl→v≤hs.length
  reach : ∀ (c : Nat) (hc : c < hs.length),∃ d,pl[(hs[c] + d) % pl.length]? = some (c + 1)∧∀ e,e < d→pl.getD ((hs[c] + e) % pl.length) 0 ≠ 0
theorem Pl.free {hs pl : List Nat} (h : Pl hs pl) (hl : hs.length < pl.length) (a : Nat) : ∃ d,d < pl.length∧pl.getD ((a + d) % pl.length) 0 = 0 := by
  have hm : ∃ v,v ∈ pl∧v = 0 := by
    apply Classical.byContradiction
    intro hn
    have : pl.countP (fun v => v != 0) = pl.length := List.countP_eq_length.2 fun v hv => by
      simp only [bne_iff_ne,ne_eq]
      exact fun e => hn ⟨v,hv,e⟩
    have := h.cnt
    omega
  obtain ⟨v,hv,rfl⟩ := hm
  obtain ⟨i,hi,e⟩ := List.mem_iff_getElem.1 hv
  refine ⟨(i + (pl.length - a % pl.length)) % pl.length,Nat.mod_lt _ (by omega),?_⟩
  have : (a + (i + (pl.length - a % pl.length)) % pl.length) % pl.length = i := by
    rw [Nat.add_mod_mod]
    have h1 := Nat.mod_lt a (show 0 < pl.length by omega)
    have h2 := Nat.div_add_mod a pl.length
    have h3 : a + (i + (pl.length - a % pl.length)) = i + pl.length * (a / pl.length + 1) := by
      rw [Nat.mul_add,Nat.mul_one]
      omega
    rw [h3,Nat.add_mul_mod_self_left,Nat.mod_eq_of_lt hi]
  rw [this]
  simp [hi,e]
theorem countP_set {pl : List Nat} {a v : Nat} (ha : a < pl.length) (h0 : pl.getD a 0 = 0) (hv : v ≠ 0) : (pl.set a v).countP (fun v => v != 0) = pl.countP (fun v => v != 0) + 1 := by
  induction pl generalizing a with
  | nil => simp at ha
  | cons x l ih =>
    cases a with
    | zero =>
      simp at h0
      subst h0
      simp [hv]
    | succ a =>
      simp only [List.set_cons_succ,List.countP_cons]
      rw [ih (by simpa using ha) (by simpa using h0)]
      omega
theorem Pl.ins {hs pl : List Nat} (h : Pl hs pl) {x a k : Nat} (ha : a < pl.length) (h0 : pl.getD a 0 = 0) (he : a = (x + k) % pl.length) (hk : ∀ e,e < k→pl.getD ((x + e) % pl.length) 0 ≠ 0) : Pl (hs ++ [x]) (pl.set a (hs.length + 1)) := by
  have hmod : ∀ y,y % pl.length < pl.length := fun y => Nat.mod_lt _ (by omega)
  have nz : ∀ y,pl.getD (y % pl.length) 0 ≠ 0→(pl.set a (hs.length + 1)).getD (y % pl.length) 0 ≠ 0 := fun y hy => by
    have hne : a ≠ y % pl.length := fun e => hy (by rw [← e]; exact h0)
    simpa [List.getD_eq_getElem?_getD,List.getElem?_set_ne hne] using hy
  refine ⟨?_,fun v hv => ?_,fun c hc => ?_⟩
  · rw [countP_set ha h0 (by omega),h.cnt]; simp
  · rw [List.length_append,List.length_singleton]
    rcases List.mem_or_eq_of_mem_set hv with hv | rfl
    · have := h.vals v hv; omega
    · omega
  · simp only [List.length_set]
    by_cases hcl : c < hs.length
    · obtain ⟨d,h1,h2⟩ := h.reach c hcl
      rw [List.getElem_append_left hcl]
      refine ⟨d,?_,fun e he => nz _ (h2 e he)⟩
      have hne : a ≠ (hs[c] + d) % pl.length := fun e => by
        rw [← e] at h1
        rw [List.getD_eq_getElem?_getD,h1] at h0
        simp at h0
      rw [List.getElem?_set_ne hne,h1]
    · have : c = hs.length := by simp at hc; omega
      subst this
      rw [List.getElem_append_right (Nat.le_refl _)]
      simp only [Nat.sub_self,List.getElem_cons_zero]
      refine ⟨k,?_,fun e he => nz _ (hk e he)⟩
      rw [← he,List.getElem?_set_self ha]
def insP (pl : List Nat) (x v : Nat) : List Nat := pl.set (fndP (fun _ => false) pl pl.length (x % pl.length)) v
def growP : List Nat→Nat→List Nat→List Nat
  | pl,_,[] => pl
  | pl,i,x :: hs => growP (insP pl x (i + 1)) (i + 1) hs
@[simp] theorem insP_length {pl : List Nat} {x v : Nat} : (insP pl x v).length = pl.length := by simp [insP]
theorem Pl.nil (m : Nat) : Pl [] (List.replicate m 0) := by
  refine ⟨?_,fun v hv => ?_,fun c hc => ?_⟩
  · simp [List.countP_replicate]
  · simp at hv; omega
  · simp at hc
theorem fndP_mod {stop : Nat→Bool} {pl : List Nat} {x : Nat} {hs : List Nat} (h : Pl hs pl) (hl : hs.length < pl.length) :
    fndP stop pl pl.length (x % pl.length) < pl.length∧(pl.getD (fndP stop pl pl.length (x % pl.length)) 0 = 0∨stop (pl.getD (fndP stop pl pl.length (x % pl.length)) 0) = true) ∧
      ∃ k,fndP stop pl pl.length (x % pl.length) = (x + k) % pl.length∧∀ e,e < k→pl.getD ((x + e) % pl.length) 0 ≠ 0∧stop (pl.getD ((x + e) % pl.length) 0) = false := by
  obtain ⟨d,h1,h2⟩ := h.free hl (x % pl.length)
  have := fndP_spec (stop := stop) pl.length (x % pl.length) d (Nat.mod_lt _ (by omega)) h1 h2
  simpa using this
theorem Pl.insP {hs pl : List Nat} (h : Pl hs pl) (hl : hs.length < pl.length) (x : Nat) : Pl (hs ++ [x]) (insP pl x (hs.length + 1)) := by
  obtain ⟨h1,h2,k,h3,h4⟩ := fndP_mod (stop := fun _ => false) (x := x) h hl
  refine h.ins h1 (h2.resolve_right (by simp)) h3 fun e he => (h4 e he).1
theorem Pl.grow : ∀ {hs2 hs pl : List Nat},Pl hs pl→hs.length + hs2.length≤pl.length→Pl (hs ++ hs2) (growP pl hs.length hs2)
  | [],hs,pl,h,_ => by simpa [growP] using h
  | x :: hs2,hs,pl,h,hl => by
    simp only [List.length_cons] at hl
    have h1 := h.insP (by omega) x
    have := Pl.grow (hs2 := hs2) h1 (by simp; omega)
    rw [List.append_assoc] at this
    simpa [growP] using this
end Go.PL

namespace Go.Proofs.YthfiijdbnkaabaaGreat
set_option linter.unusedVariables false
set_option linter.unusedSimpArgs false
open Go Go.G Go.Proofs Go.PL
structure Cl where
  l : List (List Int)
  r : Rf
  t : T
noncomputable def Cl.h (c : Cl) : Int := hashN (norm c.t)
noncomputable def Cl.hn (c : Cl) : Nat := c.h.toNat
abbrev clL (h : Int) (l : List (List Int)) (r : Rf) : List A := uv h :: paL l r
noncomputable def Cl.a (c : Cl) : A := .agg (clL c.h c.l c.r)
abbrev nv (n : Nat) : A := iv (n : Int)
structure Tb where
  u : Nat
  uc : Nat
  up : Nat
  cl : List Cl
  pl : List Nat
structure Tb.Ok (S : Tb) : Prop where
  p8 : 8≤S.pl.length
  half : 2 * S.cl.length≤S.pl.length
  most : S.pl.length≤8 + 4 * S.cl.length
  pl : Pl (S.cl.map Cl.hn) S.pl
  means : ∀ c,c ∈ S.cl→Sg c.l∧Means c.l c.r c.t
  nd : (S.cl.map fun c => norm c.t).Nodup
noncomputable def Tb.ks (S : Tb) : List T := S.cl.map fun c => norm c.t
@[simp] theorem Tb.ks_length (S : Tb) : S.ks.length = S.cl.length := by simp [Tb.ks]
theorem Tb.Ok.lt {S : Tb} (h : S.Ok) : S.cl.length < S.pl.length := by have := h.p8; have := h.half; omega
structure Tb.Ok1 (S : Tb) : Prop where
  p8 : 8≤S.pl.length
  half : 2 * S.cl.length≤S.pl.length + 2
  most : S.pl.length≤8 + 4 * S.cl.length
  pl : Pl (S.cl.map Cl.hn) S.pl
  means : ∀ c,c ∈ S.cl→Sg c.l∧Means c.l c.r c.t
  nd : (S.cl.map fun c => norm c.t).Nodup
theorem Tb.Ok1.ok {S : Tb} (h : S.Ok1) (hf : ¬ S.pl.length < 2 * S.cl.length) : S.Ok := ⟨h.p8,by omega,h.most,h.pl,h.means,h.nd⟩
section
variable {n0 : Nat} {w0 : World} {I0 : Nat→Prop} {Q : Exit→Sta→Prop}
end
end Go.Proofs.YthfiijdbnkaabaaGreat

namespace Go.Proofs.YthfiijdbnkaabaaGreat
set_option linter.unusedVariables false
set_option linter.unusedSimpArgs false
open Go Go.G Go.Proofs Go.PL
section
variable {n0 : Nat} {w0 : World} {I0 : Nat→Prop} {M0 : Nm→Nat→Prop} {m0 : Mu} {Q : Exit→Sta→Prop}
end
theorem famL_ref (l : List (List Int)) (r : Rf) : FamA (fun _ => paX l r) := famA_bare rfl fun x hx => by
  simp at hx
  rcases hx with rfl | rfl | rfl | rfl | rfl | rfl | rfl | rfl <;> simp
end Go.Proofs.YthfiijdbnkaabaaGreat

namespace Go.Proofs.YthfiijdbnkaabaaGreat
set_option linter.unusedVariables false
set_option linter.unusedSimpArgs false
open Go Go.G Go.Proofs Go.PL
structure Cp where
  v : Nat
  W : List Int
theorem renL_uv {g : Nm→Nm} {δ : Nm→Nat} (l : List Int) : A.renL g δ (l.map uv) = l.map uv := by
  rw [renL_map,List.map_map]
  rfl
def ptQ (p : Pt) (at_ to : Int) : Pt := { p with off := if p.kind = 1∧p.data + p.ptrs = 0 then -1 else to - at_ - 1 }
abbrev ptL (p : Pt) : List A := [iv p.kind,iv p.off,iv p.data,iv p.ptrs,iv p.code,iv p.count,iv p.seg,bv p.dbl]
theorem enc_str {at_ to w k : Int} (h0 : 0≤at_) (h1 : at_≤200000) (h2 : 0≤to) (h3 : to≤200000) (w0 : 0≤w) (w1 : w < 65536) (k0 : 0≤k) (k1 : k < 65536) : encW (ptQ ⟨1,0,w,k,0,0,0,false⟩ at_ to) = ptrZ at_ (if w + k = 0 then at_ else to) 0 (w + 65536 * k) := by
  by_cases hz : w + k = 0
  · have e : ptQ ⟨1,0,w,k,0,0,0,false⟩ at_ to = ⟨1,-1,w,k,0,0,0,false⟩ := by simp [ptQ,hz]
    rw [e,if_pos hz]
    unfold encW ptrZ
    simp only
    rw [if_pos trivial,if_pos (by omega),if_pos (by omega)]
    omega
  · have e : ptQ ⟨1,0,w,k,0,0,0,false⟩ at_ to = ⟨1,to - at_ - 1,w,k,0,0,0,false⟩ := by simp [ptQ,hz]
    rw [e,if_neg hz]
    unfold encW ptrZ
    simp only
    rw [if_pos trivial,if_pos (by omega)]
    split <;> omega
theorem enc_list {at_ to c n : Int} (h0 : 0≤at_) (h1 : at_≤200000) (h2 : 0≤to) (h3 : to≤200000) (c0 : 0≤c) (c1 : c≤7) (n0 : 0≤n) (n1 : n < 536870912) : encW (ptQ ⟨2,0,0,0,c,n,0,false⟩ at_ to) = ptrZ at_ to 1 (c + 8 * n) := by
  have e : ptQ ⟨2,0,0,0,c,n,0,false⟩ at_ to = ⟨2,to - at_ - 1,0,0,c,n,0,false⟩ := by simp [ptQ]
  rw [e]
  unfold encW ptrZ
  simp only
  rw [if_neg (by decide),if_pos trivial,if_pos (by omega)]
  split <;> omega
end Go.Proofs.YthfiijdbnkaabaaGreat

namespace Go.Proofs.YthfiijdbnkaabaaGreat
set_option linter.unusedVariables false
set_option linter.unusedSimpArgs false
open Go Go.G Go.Proofs Go.PL
theorem kid_lay {l : List (List Int)} (hs : Sg l) {r : Rf} {t : T} (hm : Means l r t) (hk : t.kind = 1∨t.kind = 8) {i : Nat} (hi : i < t.kids.length) : t.kids[i].kind ≠ 10∧LayOk (norm t.kids[i]) := by
  obtain ⟨h1,h2⟩ := means_kid hm hi
  have hr := means_kind hm
  have : t.kids[i].kind ≠ 10 := by
    rw [← means_kind h2]
    exact kid_kind (by omega) i
  exact ⟨this,laid_of hs _ _ h2 this⟩
theorem kids_lay {l : List (List Int)} (hs : Sg l) {r : Rf} {t : T} (hm : Means l r t) (hk : t.kind = 1∨t.kind = 8) (n i : Nat) : ∀ u,u ∈ ((t.kids.take n).drop i).map norm→LayOk u := fun u hu => by
  obtain ⟨v,hv,rfl⟩ := List.mem_map.1 hu
  obtain ⟨j,hj,rfl⟩ := List.mem_iff_getElem.1 (List.mem_of_mem_take (List.mem_of_mem_drop hv))
  exact (kid_lay hs hm hk hj).2
theorem sizeL_nonneg {ts : List T} (h : ∀ u,u ∈ ts→LayOk u) : 0≤sizeL ts := by
  have := layL_len h 0 []
  simp at this
  omega
section
variable {n0 : Nat} {w0 : World} {I0 : Nat→Prop} {M0 : Nm→Nat→Prop} {m0 : Mu} {Q : Exit→Sta→Prop}
end
theorem norm_w_len {l : List (List Int)} {r : Rf} {t : T} (hm : Means l r t) : (norm t).words.length = nW t∧(norm t).kids.length = nK t := by
  have h1 := norm_words (means_bare hm)
  have h2 := norm_kids (means_bare hm)
  have := nW_le t
  have := nK_le t
  rw [h1,h2]
  simp
  omega
end Go.Proofs.YthfiijdbnkaabaaGreat

namespace Go.Proofs.YthfiijdbnkaabaaGreat
set_option linter.unusedVariables false
set_option linter.unusedSimpArgs false
open Go Go.G Go.Proofs Go.PL
theorem frame_bound {ts : List T} {w k : Nat} (h : ∀ t,t ∈ ts→t.words.length≤w∧t.kids.length≤k) : frameW ts≤w∧frameK ts≤k := by
  induction ts with
  | nil => simp [frameW,frameK]
  | cons t ts ih =>
    have h1 := h t (by simp)
    have h2 := ih fun u hu => h u (by simp [hu])
    simp only [frameW,frameK]
    omega
section
variable {n0 : Nat} {w0 : World} {I0 : Nat→Prop} {Q : Exit→Sta→Prop}
end
theorem sizeLL_nonneg {ts : List T} (h : ∀ t,t ∈ ts→∀ u,u ∈ t.kids→LayOk u) : 0≤sizeLL ts := by
  induction ts with
  | nil => simp
  | cons t ts ih =>
    rw [sizeLL_cons]
    have := sizeL_nonneg (h t (by simp))
    have := ih fun u hu => h u (by simp [hu])
    omega
end Go.Proofs.YthfiijdbnkaabaaGreat

namespace Go.Proofs.YthfiijdbnkaabaaGreat
set_option linter.unusedVariables false
set_option linter.unusedSimpArgs false
open Go Go.G Go.Proofs Go.PL
theorem width_cases {c : Int} (h0 : 0≤c) (h6 : c < 6) : ∃ w : Nat,widthZ c = w∧bitsZ c = w∧(w = 0∨w = 1∨w = 8∨w = 16∨w = 32∨w = 64) := by
  have : c = 0∨c = 1∨c = 2∨c = 3∨c = 4∨c = 5 := by omega
  rcases this with rfl | rfl | rfl | rfl | rfl | rfl
  · exact ⟨0,rfl,rfl,by simp⟩
  · exact ⟨1,rfl,rfl,by simp⟩
  · exact ⟨8,rfl,rfl,by simp⟩
  · exact ⟨16,rfl,rfl,by simp⟩
  · exact ⟨32,rfl,rfl,by simp⟩
  · exact ⟨64,rfl,rfl,by simp⟩
theorem fits_lt {c n : Int} {w : Nat} (hw : widthZ c = w) (h0 : 0≤n) (h : fitsZ c n = true) : n < 2 ^ w := by
  simp only [fitsZ,Bool.and_eq_true,decide_eq_true_eq,hw] at h
  have hp : (0 : Int) < 2 ^ w := Int.pow_pos (by decide)
  have h2 := h.2
  simp only [Int.toNat_natCast] at h2
  have h3 := Int.emod_add_mul_ediv n (2 ^ w)
  rw [h2,Int.mul_zero,Int.add_zero] at h3
  rw [← h3]
  exact Int.emod_lt_of_pos _ hp
theorem prod_mod {i w : Nat} (hw : w≤64) (hi : i≤1000000000) : IntKind.i64.wrap ((i : Int) * w) = (i : Int) * w∧((i : Int) * w).tmod 64 = ((i * w % 64 : Nat) : Int)∧((i : Int) * w).tdiv 64 = ((i * w / 64 : Nat) : Int) := by
  have him : i * w≤1000000000 * 64 := Nat.mul_le_mul hi hw
  have e : (i : Int) * w = ((i * w : Nat) : Int) := by rw [Int.natCast_mul]
  rw [e]
  refine ⟨i64_same (by omega) (by omega),?_,?_⟩
  · rw [Int.tmod_eq_emod_of_nonneg (by omega)]; omega
  · rw [Int.tdiv_eq_ediv_of_nonneg (by omega)]; omega
section
variable {n0 : Nat} {w0 : World} {I0 : Nat→Prop} {Q : Exit→Sta→Prop}
end
section
variable {n0 : Nat} {w0 : World} {I0 : Nat→Prop} {M0 : Nm→Nat→Prop} {m0 : Mu} {Q : Exit→Sta→Prop}
end
end Go.Proofs.YthfiijdbnkaabaaGreat

namespace Go.PL
set_option linter.unusedVariables false
set_option linter.unusedSimpArgs false
def trimG {α : Type} (p : α→Bool) (l : List α) : List α := (l.reverse.dropWhile p).reverse
theorem trimG_snoc {α : Type} {p : α→Bool} (l : List α) (x : α) : trimG p (l ++ [x]) = if p x = true then trimG p l else l ++ [x] := by
  unfold trimG
  rw [List.reverse_append,List.reverse_singleton,List.singleton_append,List.dropWhile_cons]
  split <;> simp
theorem snocRec {α : Type} {P : List α→Prop} (h0 : P []) (h1 : ∀ l x,P l→P (l ++ [x])) (l : List α) : P l := by
  have : ∀ m : List α,P m.reverse := by
    intro m
    induction m with
    | nil => exact h0
    | cons x m ih => rw [List.reverse_cons]; exact h1 _ _ ih
  have := this l.reverse
  rwa [List.reverse_reverse] at this
theorem trimG_getD {α : Type} {p : α→Bool} {z : α} (l : List α) : (∀ x,x ∈ l→p x = true→x = z)→∀ i,(trimG p l).getD i z = l.getD i z := by
  refine snocRec (P := fun l => (∀ x,x ∈ l→p x = true→x = z)→∀ i,(trimG p l).getD i z = l.getD i z) (fun _ i => rfl) (fun l x ih h i => ?_) l
  rw [trimG_snoc]
  split
  · rename_i hx
    rw [ih (fun y hy => h y (by simp [hy])) i]
    have := h x (by simp) hx
    subst this
    simp only [List.getD_eq_getElem?_getD,List.getElem?_append]
    split
    · rfl
    · rw [List.getElem?_eq_none (by omega)]
      by_cases e : i - l.length = 0
      · simp [e]
      · rw [List.getElem?_eq_none (by simp; omega)]
  · rfl
theorem trimG_last {α : Type} {p : α→Bool} {z : α} (l : List α) : trimG p l ≠ []→p ((trimG p l).getD ((trimG p l).length - 1) z) = false := by
  refine snocRec (P := fun l => trimG p l ≠ []→p ((trimG p l).getD ((trimG p l).length - 1) z) = false) (fun h => absurd rfl h) (fun l x ih h => ?_) l
  rw [trimG_snoc] at h ⊢
  split
  · rename_i hx
    rw [if_pos hx] at h
    exact ih h
  · rename_i hx
    simp at hx ⊢
    exact hx
theorem trimG_eq {α : Type} {p : α→Bool} {z : α} (hz : p z = true) {a b : List α} (ha : ∀ x,x ∈ a→p x = true→x = z) (hb : ∀ x,x ∈ b→p x = true→x = z) : trimG p a = trimG p b ↔ ∀ i,a.getD i z = b.getD i z := by
  constructor
  · intro h i
    rw [← trimG_getD a ha,h,trimG_getD b hb]
  · intro h
    have h' : ∀ i,(trimG p a).getD i z = (trimG p b).getD i z := fun i => by rw [trimG_getD a ha,trimG_getD b hb,h]
    have one : ∀ c d : List α,(∀ i,(trimG p c).getD i z = (trimG p d).getD i z)→(trimG p c).length≤(trimG p d).length := fun c d hcd => by
      by_cases e : trimG p c = []
      · simp [e]
      · have hl := trimG_last (z := z) c e
        have hpos : 0 < (trimG p c).length := List.length_pos_iff.2 e
        rw [hcd] at hl
        refine Nat.le_of_not_lt fun hlt => ?_
        rw [List.getD_eq_getElem?_getD,List.getElem?_eq_none (by omega)] at hl
        simp [hz] at hl
    have hlen : (trimG p a).length = (trimG p b).length := Nat.le_antisymm (one a b h') (one b a fun i => (h' i).symm)
    apply List.ext_getElem hlen
    intro i h1 h2
    have := h' i
    simpa [List.getD_eq_getElem?_getD,h1,h2] using this
theorem trimW_G (l : List Int) : trimW l = trimG (fun x => x == 0) l := rfl
theorem trimK_G (l : List T) : trimK l = trimG (fun x => x.kind == 0) l := rfl
theorem trimW_eq {a b : List Int} : trimW a = trimW b ↔ ∀ i,a.getD i 0 = b.getD i 0 := by
  rw [trimW_G,trimW_G]
  exact trimG_eq rfl (fun x _ h => by simpa using h) (fun x _ h => by simpa using h)
theorem norm_kind0 {t : T} (h : t.kind = 0) : norm t = T0 := by cases t; simp at h; rw [norm_mk,if_pos h]
theorem norm_T0 : norm T0 = T0 := norm_kind0 rfl
theorem getD_norm (l : List T) (i : Nat) : (l.map norm).getD i T0 = norm (l.getD i T0) := by
  simp only [List.getD_eq_getElem?_getD,List.getElem?_map]
  cases l[i]? with
  | none => simp [norm_T0]
  | some x => rfl
theorem trimK_eq {a b : List T} : trimK (a.map norm) = trimK (b.map norm) ↔ ∀ i,norm (a.getD i T0) = norm (b.getD i T0) := by
  have hz : ∀ c : List T,∀ x,x ∈ c.map norm→(x.kind == 0) = true→x = T0 := fun c x hx h0 => by
    obtain ⟨y,_,rfl⟩ := List.mem_map.1 hx
    simp at h0
    exact norm_kind0 h0
  rw [trimK_G,trimK_G,trimG_eq (z := T0) rfl (hz a) (hz b)]
  constructor
  · intro h i; rw [← getD_norm,← getD_norm]; exact h i
  · intro h i; rw [getD_norm,getD_norm]; exact h i
theorem struct_eq {w w' : List Int} {a b : List T} : norm (.mk 1 w a) = norm (.mk 1 w' b) ↔ (∀ i,w.getD i 0 = w'.getD i 0)∧∀ i,norm (a.getD i T0) = norm (b.getD i T0) := by
  rw [norm_mk,norm_mk]
  simp only [if_neg (show ¬ (1 : Int) = 0 by decide),if_true,T.mk.injEq,true_and]
  rw [trimW_eq,trimK_eq]
theorem other_eq {k : Int} {w w' : List Int} {a b : List T} (h0 : k ≠ 0) (h1 : k ≠ 1) : norm (.mk k w a) = norm (.mk k w' b) ↔ w = w'∧a.map norm = b.map norm := by
  rw [norm_mk,norm_mk]
  simp [h0,h1]
theorem norm_norm : ∀ t,norm (norm t) = norm t := by
  refine T.ind fun k w ks ih => ?_
  have hm : (ks.map norm).map norm = ks.map norm := by
    rw [List.map_map]
    exact List.map_congr_left fun x hx => ih x hx
  rw [norm_mk]
  split
  · exact norm_T0
  · rename_i h0
    split
    · rename_i h1
      subst h1
      rw [struct_eq (w' := w) (b := ks) |>.2 ⟨fun i => ?_,fun i => ?_⟩,norm_mk]
      · simp
      · rw [trimW_G]
        exact trimG_getD w (fun x _ h => by simpa using h) i
      · have hz : ∀ x,x ∈ ks.map norm→(x.kind == 0) = true→x = T0 := fun x hx h0 => by
          obtain ⟨y,_,rfl⟩ := List.mem_map.1 hx
          simp at h0
          exact norm_kind0 h0
        rw [trimK_G,trimG_getD _ hz i,← getD_norm,hm,getD_norm]
    · rename_i h1
      rw [norm_mk,if_neg h0,if_neg h1,hm]
end Go.PL

namespace Go.PL
set_option linter.unusedVariables false
set_option linter.unusedSimpArgs false
def fieldZ (w : Nat) (out : List Int) (j : Nat) : Int := out.getD (j * w / 64) 0 / 2 ^ (j * w % 64) % 2 ^ w
theorem pow_split {a b : Nat} : (2 : Int) ^ (a + b) = 2 ^ a * 2 ^ b := Int.pow_add _ _ _
theorem field_low {x n : Int} {a b w : Nat} (h : a + w≤b) : (x + n * 2 ^ b) / 2 ^ a % 2 ^ w = x / 2 ^ a % 2 ^ w := by
  obtain ⟨c,rfl⟩ : ∃ c,b = a + (w + c) := ⟨b - a - w,by omega⟩
  have pa : (0 : Int) < 2 ^ a := Int.pow_pos (by decide)
  have e : n * 2 ^ (a + (w + c)) = (n * 2 ^ c * 2 ^ w) * 2 ^ a := by
    rw [pow_split,pow_split]
    rw [Int.mul_comm ((2 : Int) ^ w) (2 ^ c),Int.mul_comm ((2 : Int) ^ a),← Int.mul_assoc,← Int.mul_assoc]
  rw [e,Int.add_mul_ediv_right _ _ (by omega),Int.add_mul_emod_self_right]
theorem field_here {x n : Int} {b w : Nat} (h0 : 0≤x) (h1 : x < 2 ^ b) (n0 : 0≤n) (n1 : n < 2 ^ w) : (x + n * 2 ^ b) / 2 ^ b % 2 ^ w = n := by
  have pb : (0 : Int) < 2 ^ b := Int.pow_pos (by decide)
  rw [Int.add_mul_ediv_right _ _ (by omega),Int.ediv_eq_zero_of_lt h0 h1,Int.zero_add,Int.emod_eq_of_lt n0 n1]
theorem getD_set_same {l : List Int} {q : Nat} {x : Int} (h : q < l.length) : (l.set q x).getD q 0 = x := by simp [List.getD_eq_getElem?_getD,h]
theorem getD_set_other {l : List Int} {q p : Nat} {x : Int} (h : q ≠ p) : (l.set q x).getD p 0 = l.getD p 0 := by simp [List.getD_eq_getElem?_getD,List.getElem?_set_ne h]
theorem putL_field {w : Nat} (hw : w = 1∨w = 8∨w = 16∨w = 32∨w = 64) : ∀ (ns : List Int) (i : Nat) (out : List Int),PutI w i out→(∀ x,x ∈ ns→0≤x∧x < 2 ^ w)→(∀ j,j < i + ns.length→j * w / 64 < out.length) →
    (∀ j,j < i→fieldZ w (putL w ns i out) j = fieldZ w out j)∧∀ (j : Nat) (h : j < ns.length),fieldZ w (putL w ns i out) (i + j) = ns[j]
  | [],i,out,_,_,_ => ⟨fun j _ => by rw [putL],fun j h => by simp at h⟩
  | n :: ns,i,out,h,hn,hl => by
    have hat := hl i (by simp)
    obtain ⟨n0,n1⟩ := hn n (by simp)
    obtain ⟨g,x0,x1,g2,g3⟩ := putI_step h hw n0 n1 hat
    have hrec := putL_field hw ns (i + 1) _ g (fun x hx => hn x (by simp [hx])) (fun j hj => by rw [List.length_set]; exact hl j (by simp; omega))
    obtain ⟨r1,r2⟩ := hrec
    rw [putL,if_neg (by omega)]
    refine ⟨fun j hj => ?_,fun j hj => ?_⟩
    · rw [r1 j (by omega)]
      unfold fieldZ
      by_cases hq : i * w / 64 = j * w / 64
      · rw [← hq,getD_set_same hat]
        refine field_low ?_
        have h1 : (j + 1) * w≤i * w := Nat.mul_le_mul_right _ hj
        rw [Nat.add_mul,Nat.one_mul] at h1
        omega
      · rw [getD_set_other hq]
    · cases j with
      | zero =>
        have e0 : i + 0 = i := rfl
        rw [e0,r1 i (by omega)]
        unfold fieldZ
        rw [getD_set_same hat]
        exact field_here x0 x1 n0 n1
      | succ j =>
        have := r2 j (by simpa using hj)
        rw [show i + (j + 1) = i + 1 + j by omega]
        simpa using this
theorem keep_of {f : Nat→List Int→List Int} {n : Nat} (h : LS f n) (hm : LM f) {a p : Nat} {l : List Int} (hp : p < l.length) (hr : p < a∨a + n≤p) : (f a l)[p]? = l[p]? := by
  have h1 := h a p l[p] l hp hr
  rw [List.set_getElem_self] at h1
  have h2 := hm a l
  rw [h1,List.getElem?_set_self (by omega),List.getElem?_eq_getElem hp]
theorem keepT {t : T} {a p : Nat} {l : List Int} (hp : p < l.length) (hr : p ≠ a) : (layT t a l)[p]? = l[p]? := keep_of (lay_ls t).1.1 (lay_ls t).1.2 hp (by omega)
theorem layL_lm (ts : List T) : LM (layL ts) := (layL_ls fun t _ => (lay_ls t).1).2
theorem layC_lm (w k : Nat) (ts : List T) : LM (layC w k ts) := (layC_ls (w := w) (k := k) fun t _ => (lay_ls t).2).2
theorem keepL {ts : List T} {a p : Nat} {l : List Int} (hp : p < l.length) (hr : p < a∨a + ts.length≤p) : (layL ts a l)[p]? = l[p]? := keep_of (layL_set ts) (layL_lm ts) hp hr
theorem mul_succ' (i m : Nat) : (i + 1) * m = m + i * m := by rw [Nat.add_mul,Nat.one_mul,Nat.add_comm]
theorem keepC {w k : Nat} : ∀ {ts : List T} {b p : Nat} {l : List Int},(∀ t,t ∈ ts→t.kids.length≤k)→p < l.length→(∀ i,i < ts.length→¬ (b + i * (w + k) + w≤p∧p < b + i * (w + k) + w + k))→(layC w k ts b l)[p]? = l[p]?
  | [],b,p,l,_,_,_ => by rw [layC_nil]
  | t :: ts,b,p,l,hk,hp,hr => by
    have h0 := hr 0 (by simp)
    have hkt := hk t (by simp)
    have hm := layL_lm t.kids (b + w) l
    rw [layC_cons,keepC (fun u hu => hk u (by simp [hu])) (by omega) (fun i hi => ?_),keepL hp (by omega)]
    have := hr (i + 1) (by simp; omega)
    rw [mul_succ'] at this
    omega
theorem rowsC_get {w k : Nat} : ∀ {ts : List T},(∀ t,t ∈ ts→t.words.length≤w)→∀ (i : Nat) (hi : i < ts.length) (j : Nat),j < w + k→(rowsC w k ts)[i * (w + k) + j]? = some (ts[i].words.getD j 0)
  | t :: ts,h,i,hi,j,hj => by
    have ht := h t (by simp)
    have hlen : (t.words ++ List.replicate (w + k - t.words.length) (0 : Int)).length = w + k := by simp; omega
    rw [rowsC]
    cases i with
    | zero =>
      rw [List.getElem?_append_left (by rw [hlen]; omega)]
      simp only [Nat.zero_mul,Nat.zero_add,List.getElem_cons_zero]
      rw [List.getElem?_append]
      split
      · rename_i hl
        rw [List.getD_eq_getElem?_getD,List.getElem?_eq_getElem hl]; rfl
      · rename_i hl
        rw [List.getElem?_replicate,if_pos (by omega),List.getD_eq_getElem?_getD,List.getElem?_eq_none (by omega)]; rfl
    | succ i =>
      rw [List.getElem?_append_right (by rw [hlen,mul_succ']; omega),hlen,show (i + 1) * (w + k) + j - (w + k) = i * (w + k) + j by rw [mul_succ']; omega]
      rw [rowsC_get (fun u hu => h u (by simp [hu])) i (by simpa using hi) j hj]
      simp
theorem frame_ltW {B : Nat} (hB : 0 < B) : ∀ {ts : List T},(∀ t,t ∈ ts→t.words.length < B)→frameW ts < B
  | [],_ => hB
  | t :: ts,h => by
    have h1 := h t (by simp)
    have h2 := frame_ltW hB (ts := ts) fun u hu => h u (by simp [hu])
    simp only [frameW]; omega
theorem frame_ltK {B : Nat} (hB : 0 < B) : ∀ {ts : List T},(∀ t,t ∈ ts→t.kids.length < B)→frameK ts < B
  | [],_ => hB
  | t :: ts,h => by
    have h1 := h t (by simp)
    have h2 := frame_ltK hB (ts := ts) fun u hu => h u (by simp [hu])
    simp only [frameK]; omega
theorem listOf {α : Type} {n : Nat} {P : Nat→α→Prop} (h : ∀ i,i < n→∃ u,P i u) : ∃ us : List α,us.length = n∧∀ (i : Nat) (hi : i < us.length),P i us[i] := by
  induction n with
  | zero => exact ⟨[],rfl,fun i hi => by simp at hi⟩
  | succ n ih =>
    obtain ⟨us,h1,h2⟩ := ih fun i hi => h i (by omega)
    obtain ⟨u,hu⟩ := h n (by omega)
    refine ⟨us ++ [u],by simp [h1],fun i hi => ?_⟩
    rw [List.getElem_append]
    split
    · exact h2 i _
    · have : i = n := by simp at hi; omega
      subst this
      simpa using hu
theorem map_norm_eq {a b : List T} (hl : a.length = b.length) (h : ∀ (i : Nat) (h1 : i < a.length) (h2 : i < b.length),norm a[i] = norm b[i]) : a.map norm = b.map norm := by
  apply List.ext_getElem (by simpa using hl)
  intro i h1 h2
  simp only [List.getElem_map]
  exact h i (by simpa using h1) (by simpa using h2)
end Go.PL

namespace Go.Proofs.YthfiijdbnkaabaaGreat
set_option linter.unusedVariables false
set_option linter.unusedSimpArgs false
open Go Go.G Go.Proofs Go.PL
theorem word_1 {L : List Int} {a : Nat} {x : Int} (h : L[a]? = some x) : word [L] 0 a = some x := by
  unfold word seg
  simp [h]
theorem hasW_1 {L : List Int} {a n : Nat} (h : a + n≤L.length) : hasW [L] 0 a n = true := by
  simp only [hasW,decide_eq_true_eq,szAt,seg]
  simp
  omega
theorem part_1 {L : List Int} {a n : Nat} : part [L] 0 a n = (L.drop a).take n := by
  unfold part seg
  simp
theorem dec_struct {a to w k : Nat} (ha : a < 200000) (ht : to≤200000) (hw : w < 65536) (hk : k < 65536) (hz : w + k = 0→to = a) :
    dec (ptrZ a to 0 ((w : Int) + 65536 * k)) = ⟨1,(to : Int) - a - 1,w,k,0,0,0,false⟩ := by
  unfold ptrZ
  split
  · rename_i h
    generalize hv : 4 * ((to : Int) - a - 1 + 1073741824) + 0 + ((w : Int) + 65536 * k) * 4294967296 = v
    unfold dec offs
    rw [if_neg (by omega),if_pos (by omega)]
    simp only [Pt.mk.injEq,true_and,and_true]
    refine ⟨?_,by omega,by omega⟩
    split <;> omega
  · rename_i h
    generalize hv : 4 * ((to : Int) - a - 1) + 0 + ((w : Int) + 65536 * k) * 4294967296 = v
    unfold dec offs
    rw [if_neg (by omega),if_pos (by omega)]
    simp only [Pt.mk.injEq,true_and,and_true]
    refine ⟨?_,by omega,by omega⟩
    split <;> omega
theorem dec_list {a to : Nat} {c n : Int} (ha : a < 200000) (ht : to≤200000) (c0 : 0≤c) (c8 : c < 8) (n0 : 0≤n) (hn : n < 536870912) :
    dec (ptrZ a to 1 (c + 8 * n)) = ⟨2,(to : Int) - a - 1,0,0,c,n,0,false⟩ := by
  unfold ptrZ
  split
  · rename_i h
    generalize hv : 4 * ((to : Int) - a - 1 + 1073741824) + 1 + (c + 8 * n) * 4294967296 = v
    unfold dec offs
    rw [if_neg (by omega),if_neg (by omega),if_pos (by omega)]
    simp only [Pt.mk.injEq,true_and,and_true]
    refine ⟨?_,by omega,by omega⟩
    split <;> omega
  · rename_i h
    generalize hv : 4 * ((to : Int) - a - 1) + 1 + (c + 8 * n) * 4294967296 = v
    unfold dec offs
    rw [if_neg (by omega),if_neg (by omega),if_pos (by omega)]
    simp only [Pt.mk.injEq,true_and,and_true]
    refine ⟨?_,by omega,by omega⟩
    split <;> omega
theorem at_null {L : List Int} {a : Nat} (h : L[a]? = some 0) : atP [L] 0 a = (Rf.zero,0) := by
  have e : followP [L] 0 a = (Lc.zero,0) := by
    unfold followP
    rw [word_1 h]
    rfl
  unfold atP
  rw [e]
  rfl
theorem follow_near {L : List Int} {a to : Nat} {v n : Int} {p : Pt} (h : L[a]? = some v) (hd : dec v = p) (hk : p.kind = 1∨p.kind = 2) (ho : p.off = (to : Int) - a - 1) (hp : wordsP p = some n) (hn : hasW [L] 0 to n = true) :
    followP [L] 0 a = (⟨{ p with off := 0 },0,to⟩,0) := by
  unfold followP
  rw [word_1 h]
  simp only [hd]
  rw [if_neg (by omega),if_pos (by omega)]
  unfold nearP
  rw [if_pos hk]
  unfold insideP
  have e : (a : Int) + 1 + p.off = to := by omega
  simp only [e,hp,Option.getD_some]
  rw [if_pos hn]
theorem at_struct {L : List Int} {a to w k : Nat} (hL : L.length≤200000) (h : L[a]? = some (ptrZ a to 0 ((w : Int) + 65536 * k))) (ha : a < L.length) (hw : w < 65536) (hk : k < 65536) (hz : w + k = 0→to = a) (hin : to + (w + k)≤L.length) :
    atP [L] 0 a = (⟨1,0,to,w,k,0,0⟩,0) := by
  have hd := dec_struct (a := a) (to := to) (by omega) (by omega) hw hk hz
  have e := follow_near (n := (w : Int) + k) h hd (.inl rfl) rfl (by simp [wordsP]) (by have := hasW_1 (L := L) (a := to) (n := w + k) hin; simpa using this)
  unfold atP
  rw [e]
  simp [refP]
theorem at_list {L : List Int} {a to : Nat} {c : Int} {n m : Nat} (hL : L.length≤200000) (h : L[a]? = some (ptrZ a to 1 (c + 8 * n))) (ha : a < L.length) (c0 : 0≤c) (c7 : c < 7) (hn : n < 536870912) (hm : ((n : Int) * bitsOf c + 63) / 64 = m) (hin : to + m≤L.length) :
    atP [L] 0 a = (⟨2 + c,0,to,0,0,n,0⟩,0) := by
  have hd := dec_list (a := a) (to := to) (c := c) (n := n) (by omega) (by omega) c0 (by omega) (by omega) (by omega)
  have e := follow_near (n := (m : Int)) h hd (.inr rfl) rfl (by rw [wordsP_dat rfl ⟨by simp,by simp; omega,by simp⟩ c7]; simp [hm]) (hasW_1 hin)
  unfold atP
  rw [e]
  simp [refP,c7]
theorem at_comp {L : List Int} {a to n w k : Nat} (hL : L.length≤200000) (h : L[a]? = some (ptrZ a to 1 (7 + 8 * (n * (w + k) : Nat)))) (ha : a < L.length) (ht : L[to]? = some (4 * (n : Int) + 4294967296 * ((w : Int) + 65536 * k))) (hn : n < 536870912) (hw : w < 65536) (hk : k < 65536) (hin : to + (n * (w + k) + 1)≤L.length) :
    atP [L] 0 a = (⟨9,0,(to : Int) + 1,w,k,n,0⟩,0) := by
  have hd := dec_list (a := a) (to := to) (c := 7) (n := ((n * (w + k) : Nat) : Int)) (by omega) (by omega) (by omega) (by omega) (by omega) (by omega)
  have e := follow_near (n := ((n * (w + k) + 1 : Nat) : Int)) h hd (.inr rfl) rfl (by rw [wordsP_comp rfl rfl]; simp) (hasW_1 hin)
  unfold atP
  rw [e]
  have hm : ((n * (w + k) : Nat) : Int) = (n : Int) * ((w : Int) + k) := by rw [Int.natCast_mul,Int.natCast_add]
  have hdt : (4 * (n : Int) + 4294967296 * ((w : Int) + 65536 * k) = 0∧n = 0∧w = 0∧k = 0)∨dec (4 * (n : Int) + 4294967296 * ((w : Int) + 65536 * k)) = ⟨1,n,w,k,0,0,0,false⟩ := by
    by_cases h0 : 4 * (n : Int) + 4294967296 * ((w : Int) + 65536 * k) = 0
    · exact .inl ⟨h0,by omega,by omega,by omega⟩
    · right
      unfold dec offs
      rw [if_neg h0,if_pos (by omega)]
      simp only [Pt.mk.injEq,true_and,and_true]
      refine ⟨?_,by omega,by omega⟩
      split <;> omega
  simp only [refP,if_neg (show ¬ (2 : Int) = 1 by decide),if_neg (show ¬ (7 : Int) < 7 by decide)]
  rw [if_neg (by simp)]
  unfold compP
  rw [word_1 ht]
  simp only [Option.getD_some]
  rcases hdt with ⟨h0,rfl,rfl,rfl⟩ | hdt
  · rw [h0]
    simp [dec]
  · rw [hdt]
    simp only
    rw [if_neg]
    rw [← hm]
    simp
def LMean (t : T) : Prop := ∀ (a : Nat) (l L : List Int),a < l.length→l[a]? = some 0→(layT t a l).length≤L.length→L.length≤200000→(∀ p,(p = a∨l.length≤p)→p < (layT t a l).length→L[p]? = (layT t a l)[p]?) →
  ∃ r u,atP [L] 0 a = (r,0)∧Means [L] r u∧norm u = norm t
theorem lmeanL : ∀ {ts : List T},(∀ t,t ∈ ts→LMean t)→∀ (b : Nat) (l L : List Int),b + ts.length≤l.length→(∀ i,i < ts.length→l[b + i]? = some 0)→(layL ts b l).length≤L.length→L.length≤200000 →
    (∀ p,((b≤p∧p < b + ts.length)∨l.length≤p)→p < (layL ts b l).length→L[p]? = (layL ts b l)[p]?)→∀ (i : Nat) (hi : i < ts.length),∃ r u,atP [L] 0 ((b + i : Nat) : Int) = (r,0)∧Means [L] r u∧norm u = norm ts[i]
  | t :: ts,h,b,l,L,hb,hz,hl,hL,hag,i,hi => by
    have hm1 := (lay_ls t).1.2 b l
    have hm2 := layL_lm ts (b + 1) (layT t b l)
    rw [layL_cons] at hl hag
    simp only [List.length_cons] at hb hz hag hi
    cases i with
    | zero =>
      refine h t (by simp) b l L (by omega) (hz 0 (by omega)) (by omega) hL fun p hp hlt => ?_
      rw [hag p (by omega) (by omega),keepL hlt (by omega)]
    | succ i =>
      have := lmeanL (ts := ts) (fun u hu => h u (by simp [hu])) (b + 1) (layT t b l) L (by omega) (fun j hj => ?_) hl hL (fun p hp hlt => hag p (by omega) hlt) i (by omega)
      · rw [show b + 1 + i = b + (i + 1) by omega] at this
        simpa using this
      · rw [keepT (by omega) (by omega),show b + 1 + j = b + (j + 1) by omega]
        exact hz (j + 1) (by omega)
theorem means_zero (l : List (List Int)) : Means l Rf.zero T0 := .mk _ _ .zero rfl (by simp [wordsR,Rf.zero]) (by simp [nk,Rf.zero]) (fun i h => by simp at h) (fun i h => by simp at h)
theorem lmeanC {w k : Nat} : ∀ {ts : List T},(∀ t,t ∈ ts→t.kids.length≤k∧∀ c,c ∈ t.kids→LMean c)→∀ (b : Nat) (l L : List Int),b + ts.length * (w + k)≤l.length→(∀ i,i < ts.length→∀ j,j < k→l[b + i * (w + k) + w + j]? = some 0)→(layC w k ts b l).length≤L.length→L.length≤200000 →
    (∀ p,((∃ i,i < ts.length∧b + i * (w + k) + w≤p∧p < b + i * (w + k) + w + k)∨l.length≤p)→p < (layC w k ts b l).length→L[p]? = (layC w k ts b l)[p]?) →
    ∀ (i : Nat) (hi : i < ts.length) (j : Nat),j < k→∃ r u,atP [L] 0 ((b + i * (w + k) + w + j : Nat) : Int) = (r,0)∧Means [L] r u∧norm u = norm (ts[i].kids.getD j T0)
  | t :: ts,h,b,l,L,hb,hz,hl,hL,hag,i,hi,j,hj => by
    obtain ⟨hk,hc⟩ := h t (by simp)
    have hm1 := layL_lm t.kids (b + w) l
    have hm2 := layC_lm w k ts (b + (w + k)) (layL t.kids (b + w) l)
    have hks : ∀ u,u ∈ ts→u.kids.length≤k := fun u hu => (h u (by simp [hu])).1
    rw [layC_cons] at hl hag
    simp only [List.length_cons] at hb hz hag hi
    rw [mul_succ'] at hb
    have hout : ∀ p,p < b + (w + k)∨l.length≤p→∀ i,i < ts.length→¬ (b + (w + k) + i * (w + k) + w≤p∧p < b + (w + k) + i * (w + k) + w + k) := fun p hp i hi => by
      have h1 : (i + 1) * (w + k)≤ts.length * (w + k) := Nat.mul_le_mul_right _ hi
      rw [mul_succ'] at h1
      omega
    cases i with
    | zero =>
      rw [Nat.zero_mul,Nat.add_zero]
      by_cases hjk : j < t.kids.length
      · have := lmeanL hc (b + w) l L (by omega) (fun i hi => ?_) (by omega) hL (fun p hp hlt => ?_) j hjk
        · simpa [List.getD_eq_getElem?_getD,hjk] using this
        · have := hz 0 (by omega) i (by omega)
          rwa [Nat.zero_mul,Nat.add_zero] at this
        · rw [hag p ?_ (by omega),keepC hks hlt (hout p (by omega))]
          rcases hp with hp | hp
          · exact .inl ⟨0,by omega,by omega,by omega⟩
          · exact .inr hp
      · have e : L[b + w + j]? = some 0 := by
          have h0 := hz 0 (by omega) j hj
          rw [Nat.zero_mul,Nat.add_zero] at h0
          have hlt : b + w + j < l.length := by omega
          rw [hag (b + w + j) (.inl ⟨0,by omega,by omega,by omega⟩) (by omega),keepC hks (by omega) (hout _ (by omega)),keepL hlt (by omega),h0]
        refine ⟨Rf.zero,T0,at_null e,means_zero _,?_⟩
        simp [List.getD_eq_getElem?_getD,List.getElem?_eq_none (by omega : t.kids.length≤j)]
    | succ i =>
      have := lmeanC (ts := ts) (fun u hu => h u (by simp [hu])) (b + (w + k)) (layL t.kids (b + w) l) L (by omega) (fun x hx y hy => ?_) hl hL (fun p hp hlt => hag p ?_ hlt) i (by omega) j hj
      · rw [mul_succ',show b + (w + k + i * (w + k)) + w + j = b + (w + k) + i * (w + k) + w + j by omega]
        simpa using this
      · have h1 : (x + 1) * (w + k)≤ts.length * (w + k) := Nat.mul_le_mul_right _ hx
        have h2 := hz (x + 1) (by omega) y hy
        rw [mul_succ'] at h1 h2
        rw [keepL (by omega) (by omega),show b + (w + k) + x * (w + k) + w + y = b + (w + k + x * (w + k)) + w + y by omega]
        exact h2
      · rcases hp with ⟨x,hx,hp1,hp2⟩ | hp
        · refine .inl ⟨x + 1,by omega,?_,?_⟩ <;> rw [mul_succ'] <;> omega
        · exact .inr (by omega)
theorem means_struct {L : List Int} {to w k : Nat} {W : List Int} {us : List T} (hw : w < 65536) (hk : k < 65536) (hin : to + (w + k)≤L.length) (hW : (L.drop to).take w = W) (hu : us.length = k) (hm : ∀ (i : Nat) (hi : i < us.length),∃ r,atP [L] 0 ((to + w + i : Nat) : Int) = (r,0)∧Means [L] r us[i]) :
    Means [L] ⟨1,0,to,w,k,0,0⟩ (.mk 1 W us) := by
  have hkid : ∀ (i : Nat),i < us.length→kidP [L] ⟨1,0,to,w,k,0,0⟩ i = atP [L] 0 ((to + w + i : Nat) : Int) := fun i hi => by
    unfold kidP
    rw [if_neg (by simp [nk]; omega),if_pos rfl]
    simp
  refine .mk _ _ (.str _ _ _ _ (by omega) (by omega) (by omega) (by omega) (by have := hasW_1 (L := L) (a := to) (n := w + k) hin; simpa using this)) rfl ?_ (by simp [nk,hu]) (fun i hi => ?_) (fun i hi => ?_)
  · simp [wordsR,part_1,hW]
  · obtain ⟨r,e,_⟩ := hm i hi
    rw [hkid i hi,e]
  · obtain ⟨r,e,h⟩ := hm i hi
    rw [hkid i hi,e]
    exact h
theorem right_kids {d : Nat} {t : T} (h : rightT d t = true) : ∀ c,c ∈ t.kids→rightT (d - 1) c = true∧kidOk t.kind c = true := by
  cases t
  exact rightT_struct h
theorem kidP_data {l : List (List Int)} {kd s a n i : Int} (h1 : kd ≠ 1) (h8 : kd ≠ 8) (h9 : kd ≠ 9) (h0 : 0≤i) (hn : i < n) : kidP l ⟨kd,s,a,0,0,n,0⟩ i = (⟨10,0,0,0,0,0,atomZ l ⟨kd,s,a,0,0,n,0⟩ i⟩,0) := by
  unfold kidP nk
  simp only [if_neg h1,if_neg h8,if_neg h9]
  rw [if_neg (by omega)]
theorem bits_width {c : Int} (c0 : 0≤c) (c6 : c < 6) : bitsOf c = bitsZ c := by
  have : c = 0∨c = 1∨c = 2∨c = 3∨c = 4∨c = 5 := by omega
  rcases this with rfl | rfl | rfl | rfl | rfl | rfl <;> rfl
theorem lay_means : ∀ t : T,(LayOk t→(∃ d,rightT d t = true)→LMean t)∧∀ c,c ∈ t.kids→LayOk c→(∃ d,rightT d c = true)→LMean c := by
  refine T.ind fun k w ks ih => ?_
  refine ⟨fun hok hr => ?_,fun c hc => (ih c hc).1⟩
  obtain ⟨d,hr⟩ := hr
  have hkr := rightT_struct hr
  intro a l L ha h0 hl hL hag
  have hw0 : 2≤k→w = [] := fun hk2 => by
    rw [rightT_mk,if_neg (by omega)] at hr
    split at hr
    · rename_i h10
      cases hok <;> omega
    · split at hr
      · cases hr
      · rename_i hb
        simp [tooBig] at hb
        have := hb.2 (by omega)
        exact this
  cases hok with
  | null =>
    rw [layT_mk,if_pos rfl] at hag hl
    exact ⟨Rf.zero,T0,at_null (by rw [hag a (.inl rfl) ha,h0]),means_zero _,by rw [norm_T0,norm_kind0 rfl]⟩
  | str w ks b1 b2 hk =>
    rw [layT_mk,if_neg (by decide),if_pos rfl] at hag hl
    obtain ⟨to,hto⟩ : ∃ to : Nat,to = if w.length + ks.length = 0 then a else l.length := ⟨_,rfl⟩
    rw [show (if w.length + ks.length = 0 then (a : Int) else (l.length : Int)) = (to : Int) by rw [hto]; split <;> rfl] at hag hl
    obtain ⟨P,hP⟩ : ∃ P : Int,P = ptrZ a to 0 ((w.length : Int) + 65536 * ks.length) := ⟨_,rfl⟩
    rw [← hP] at hag hl
    obtain ⟨l2,hl2⟩ : ∃ l2,l2 = l.set a P ++ w ++ List.replicate ks.length (0 : Int) := ⟨_,rfl⟩
    rw [← hl2] at hag hl
    have hlen : l2.length = l.length + w.length + ks.length := by rw [hl2]; simp; omega
    have hm := layL_lm ks (l.length + w.length) l2
    have ga : L[a]? = some P := by
      rw [hag a (.inl rfl) (by omega),keepL (by omega) (by omega),hl2,List.append_assoc,List.getElem?_append_left (by simpa using ha),List.getElem?_set_self ha]
    have gw : (L.drop to).take w.length = w := by
      by_cases hz : w.length + ks.length = 0
      · have : w = [] := List.length_eq_zero_iff.1 (by omega)
        subst this; simp
      · rw [if_neg hz] at hto
        subst hto
        apply List.ext_getElem?
        intro i
        rw [List.getElem?_take]
        split
        · rename_i hi
          rw [List.getElem?_drop,hag _ (.inr (by omega)) (by omega),keepL (by omega) (by omega),hl2,List.getElem?_append_left (by simp; omega),List.getElem?_append_right (by simp)]
          simp
        · rename_i hi
          rw [List.getElem?_eq_none (by omega)]
    have hkm := lmeanL (fun t ht => (ih t ht).1 (hk t ht) ⟨_,(hkr t ht).1⟩) (l.length + w.length) l2 L (by omega) (fun i hi => by
      rw [hl2,List.getElem?_append_right (by simp),List.getElem?_replicate]
      simp
      omega) hl hL (fun p hp hlt => hag p (.inr (by omega)) hlt)
    obtain ⟨us,u1,u2⟩ := listOf (P := fun i u => ∃ r,atP [L] 0 ((l.length + w.length + i : Nat) : Int) = (r,0)∧Means [L] r u∧∀ hi : i < ks.length,norm u = norm ks[i]) (n := ks.length) fun i hi => by
      obtain ⟨r,u,e1,e2,e3⟩ := hkm i hi
      exact ⟨u,r,e1,e2,fun _ => e3⟩
    refine ⟨⟨1,0,to,w.length,ks.length,0,0⟩,.mk 1 w us,at_struct hL (by rw [ga,hP]) (by omega) b1 b2 (fun e => by rw [hto,if_pos e]) (by rw [hto]; split <;> omega),?_,?_⟩
    · refine means_struct b1 b2 (by rw [hto]; split <;> omega) gw u1 fun i hi => ?_
      obtain ⟨r,e1,e2,_⟩ := u2 i hi
      have : to = l.length := by rw [hto,if_neg (by omega)]
      rw [this]
      exact ⟨r,e1,e2⟩
    · refine struct_eq.2 ⟨fun i => rfl,fun i => ?_⟩
      by_cases hi : i < ks.length
      · obtain ⟨_,_,_,e3⟩ := u2 i (by omega)
        simpa [List.getD_eq_getElem?_getD,hi,u1] using e3 hi
      · simp [List.getD_eq_getElem?_getD,List.getElem?_eq_none (by omega : ks.length≤i),List.getElem?_eq_none (by omega : us.length≤i)]
  | ptrs w ks b1 hk =>
    obtain rfl := hw0 (by omega)
    rw [layT_mk,if_neg (by decide),if_neg (by decide),if_pos rfl] at hag hl
    obtain ⟨P,hP⟩ : ∃ P : Int,P = ptrZ a l.length 1 (6 + 8 * (ks.length : Int)) := ⟨_,rfl⟩
    rw [← hP] at hag hl
    obtain ⟨l2,hl2⟩ : ∃ l2,l2 = l.set a P ++ List.replicate ks.length (0 : Int) := ⟨_,rfl⟩
    rw [← hl2] at hag hl
    have hlen : l2.length = l.length + ks.length := by rw [hl2]; simp
    have hm := layL_lm ks l.length l2
    have ga : L[a]? = some P := by
      rw [hag a (.inl rfl) (by omega),keepL (by omega) (by omega),hl2,List.getElem?_append_left (by simpa using ha),List.getElem?_set_self ha]
    have hkm := lmeanL (fun t ht => (ih t ht).1 (hk t ht) ⟨_,(hkr t ht).1⟩) l.length l2 L (by omega) (fun i hi => by
      rw [hl2,List.getElem?_append_right (by simp),List.getElem?_replicate]
      simp
      omega) hl hL (fun p hp hlt => hag p (.inr (by omega)) hlt)
    obtain ⟨us,u1,u2⟩ := listOf (P := fun i u => ∃ r,atP [L] 0 ((l.length + i : Nat) : Int) = (r,0)∧Means [L] r u∧∀ hi : i < ks.length,norm u = norm ks[i]) (n := ks.length) fun i hi => by
      obtain ⟨r,u,e1,e2,e3⟩ := hkm i hi
      exact ⟨u,r,e1,e2,fun _ => e3⟩
    have hb : bitsOf 6 = 64 := by decide
    have hin : l.length + ks.length≤L.length := by omega
    have hat := at_list (L := L) (a := a) (to := l.length) (c := 6) (n := ks.length) (m := ks.length) hL (by rw [ga,hP]) (by omega) (by omega) (by omega) b1 (by rw [hb]; omega) hin
    have hkid : ∀ (i : Nat),i < us.length→kidP [L] ⟨8,0,(l.length : Int),0,0,ks.length,0⟩ i = atP [L] 0 ((l.length + i : Nat) : Int) := fun i hi => by
      unfold kidP
      rw [if_neg (by simp [nk]; omega),if_neg (by simp),if_pos rfl]
      simp
    refine ⟨⟨8,0,l.length,0,0,ks.length,0⟩,.mk 8 [] us,hat,?_,?_⟩
    · refine .mk _ _ (.ptrs _ _ _ (by omega) (by omega) (hasW_1 hin)) rfl (by simp [wordsR]) (by simp [nk,u1]) (fun i hi => ?_) (fun i hi => ?_)
      · obtain ⟨r,e,_⟩ := u2 i hi
        rw [hkid i hi,e]
      · obtain ⟨r,e,h,_⟩ := u2 i hi
        rw [hkid i hi,e]
        exact h
    · refine (other_eq (by decide) (by decide)).2 ⟨rfl,map_norm_eq u1 fun i h1 h2 => ?_⟩
      obtain ⟨_,_,_,e⟩ := u2 i h1
      exact e h2
  | comp w ks b1 b2 hk =>
    obtain rfl := hw0 (by omega)
    have hF1 : frameW ks < 65536 := frame_ltW (by decide) fun t ht => (b2 t ht).1
    have hF2 : frameK ks < 65536 := frame_ltK (by decide) fun t ht => (b2 t ht).2
    have hfw : ∀ t,t ∈ ks→t.words.length≤frameW ks := fun t ht => frameW_le ht
    have hfk : ∀ t,t ∈ ks→t.kids.length≤frameK ks := fun t ht => frameK_le ht
    rw [layT_mk,if_neg (by decide),if_neg (by decide),if_neg (by decide),if_pos rfl] at hag hl
    generalize hW : frameW ks = W at *
    generalize hK : frameK ks = K at *
    obtain ⟨P,hP⟩ : ∃ P : Int,P = ptrZ a l.length 1 (7 + 8 * (ks.length * (W + K) : Nat)) := ⟨_,rfl⟩
    rw [← hP] at hag hl
    obtain ⟨l2,hl2⟩ : ∃ l2,l2 = l.set a P ++ [4 * (ks.length : Int) + 4294967296 * ((W : Int) + 65536 * K)] ++ rowsC W K ks := ⟨_,rfl⟩
    rw [← hl2] at hag hl
    have hrl := rowsC_length (w := W) (k := K) ks fun t ht => by have := hfw t ht; omega
    have hlen : l2.length = l.length + 1 + ks.length * (W + K) := by rw [hl2]; simp [hrl]; omega
    have hm := layC_lm W K ks (l.length + 1) l2
    have ga : L[a]? = some P := by
      rw [hag a (.inl rfl) (by omega),keepC hfk (by omega) (fun i hi => by omega),hl2,List.append_assoc,List.getElem?_append_left (by simpa using ha),List.getElem?_set_self ha]
    have gt : L[l.length]? = some (4 * (ks.length : Int) + 4294967296 * ((W : Int) + 65536 * K)) := by
      rw [hag _ (.inr (by omega)) (by omega),keepC hfk (by omega) (fun i hi => by omega),hl2,List.getElem?_append_left (by simp),List.getElem?_append_right (by simp)]
      simp
    have hrow : ∀ (i : Nat) (hi : i < ks.length) (j : Nat),j < W + K→l2[l.length + 1 + i * (W + K) + j]? = some (ks[i].words.getD j 0) := fun i hi j hj => by
      rw [hl2,List.getElem?_append_right (by simp; omega)]
      simp only [List.length_append,List.length_set,List.length_singleton]
      rw [show l.length + 1 + i * (W + K) + j - (l.length + 1) = i * (W + K) + j by omega]
      exact rowsC_get hfw i hi j hj
    have hin1 : ∀ i,i < ks.length→i * (W + K) + (W + K)≤ks.length * (W + K) := fun i hi => by
      have h1 : (i + 1) * (W + K)≤ks.length * (W + K) := Nat.mul_le_mul_right _ hi
      rw [mul_succ'] at h1
      omega
    have hz : ∀ i,i < ks.length→∀ j,j < K→l2[l.length + 1 + i * (W + K) + W + j]? = some 0 := fun i hi j hj => by
      rw [show l.length + 1 + i * (W + K) + W + j = l.length + 1 + i * (W + K) + (W + j) by omega,hrow i hi (W + j) (by omega)]
      have := hfw _ (List.getElem_mem hi)
      simp [List.getD_eq_getElem?_getD,List.getElem?_eq_none (by omega : ks[i].words.length≤W + j)]
    have hkm := lmeanC (w := W) (k := K) (ts := ks) (fun t ht => ⟨hfk t ht,fun c hc => (ih t ht).2 c hc (hk t ht c hc) ⟨_,(right_kids (hkr t ht).1 c hc).1⟩⟩) (l.length + 1) l2 L (by omega) hz hl hL (fun p hp hlt => hag p (.inr (by
      rcases hp with ⟨i,_,hp,_⟩ | hp <;> omega)) hlt)
    have hin : l.length + (ks.length * (W + K) + 1)≤L.length := by omega
    have hst : ∀ i,i < ks.length→∃ u,Means [L] ⟨1,0,((l.length + 1 + i * (W + K) : Nat) : Int),W,K,0,0⟩ u∧∀ hi : i < ks.length,norm u = norm ks[i] := fun i hi => by
      have hc1 : ks[i].kind = 1 := kidOk_9 (hkr _ (List.getElem_mem hi)).2
      have h5 := hin1 i hi
      obtain ⟨us,u1,u2⟩ := listOf (P := fun j u => ∃ r,atP [L] 0 ((l.length + 1 + i * (W + K) + W + j : Nat) : Int) = (r,0)∧Means [L] r u∧norm u = norm (ks[i].kids.getD j T0)) (n := K) fun j hj => by
        obtain ⟨r,u,e1,e2,e3⟩ := hkm i hi j hj
        exact ⟨u,r,e1,e2,e3⟩
      refine ⟨.mk 1 ((L.drop (l.length + 1 + i * (W + K))).take W) us,means_struct hF1 hF2 (by omega) rfl u1 fun j hj => ?_,fun _ => ?_⟩
      · obtain ⟨r,e1,e2,_⟩ := u2 j hj
        exact ⟨r,e1,e2⟩
      · have e : ks[i] = .mk 1 ks[i].words ks[i].kids := by rw [← hc1]; exact T.eta _
        rw [e]
        refine struct_eq.2 ⟨fun j => ?_,fun j => ?_⟩
        · by_cases hj : j < W
          · have : ∀ x,x < ks.length→¬ (l.length + 1 + x * (W + K) + W≤l.length + 1 + i * (W + K) + j∧l.length + 1 + i * (W + K) + j < l.length + 1 + x * (W + K) + W + K) := fun x hx => by
              rcases Nat.lt_trichotomy x i with c | c | c
              · have h1 : (x + 1) * (W + K)≤i * (W + K) := Nat.mul_le_mul_right _ c
                rw [mul_succ'] at h1
                omega
              · subst c; omega
              · have h1 : (i + 1) * (W + K)≤x * (W + K) := Nat.mul_le_mul_right _ c
                rw [mul_succ'] at h1
                omega
            rw [List.getD_eq_getElem?_getD,List.getElem?_take,if_pos hj,List.getElem?_drop,hag _ (.inr (by omega)) (by omega),keepC hfk (by omega) this,hrow i hi j (by omega)]
            rfl
          · have := hfw _ (List.getElem_mem hi)
            simp [List.getD_eq_getElem?_getD,List.getElem?_take,hj,List.getElem?_eq_none (by omega : ks[i].words.length≤j)]
        · by_cases hj : j < K
          · obtain ⟨_,_,_,e3⟩ := u2 j (by omega)
            rw [← e3]
            simp [List.getD_eq_getElem?_getD,u1,hj]
          · have := hfk _ (List.getElem_mem hi)
            simp [List.getD_eq_getElem?_getD,List.getElem?_eq_none (by omega : ks[i].kids.length≤j),List.getElem?_eq_none (by omega : us.length≤j)]
    obtain ⟨us,u1,u2⟩ := listOf hst
    have hat := at_comp (L := L) (a := a) (to := l.length) (n := ks.length) (w := W) (k := K) hL (by rw [ga,hP]) (by omega) gt b1 hF1 hF2 hin
    have hkid : ∀ (i : Nat),i < us.length→kidP [L] ⟨9,0,(l.length : Int) + 1,W,K,ks.length,0⟩ i = (⟨1,0,((l.length + 1 + i * (W + K) : Nat) : Int),W,K,0,0⟩,0) := fun i hi => by
      unfold kidP
      rw [if_neg (by simp [nk]; omega),if_neg (by simp),if_neg (by simp),if_pos rfl]
      simp
    refine ⟨⟨9,0,(l.length : Int) + 1,W,K,ks.length,0⟩,.mk 9 [] us,hat,?_,?_⟩
    · have hh := hasW_1 (L := L) (a := l.length + 1) (n := ks.length * (W + K)) (by omega)
      refine .mk _ _ (.comp _ _ _ _ _ (by omega) (by omega) (by omega) (by omega) (by omega) (by omega) (by simpa using hh)) rfl (by simp [wordsR]) (by simp [nk,u1]) (fun i hi => ?_) (fun i hi => ?_)
      · rw [hkid i hi]
      · rw [hkid i hi]
        exact (u2 i hi).1
    · refine (other_eq (by decide) (by decide)).2 ⟨rfl,map_norm_eq u1 fun i h1 h2 => ?_⟩
      exact (u2 i h1).2 h2
  | data k w ks h1 h2 b1 b2 =>
    obtain rfl := hw0 h1
    rw [layT_mk,if_neg (by omega),if_neg (by omega),if_neg (by omega),if_neg (by omega)] at hag hl
    obtain ⟨P,hP⟩ : ∃ P : Int,P = ptrZ a l.length 1 (k - 2 + 8 * (ks.length : Int)) := ⟨_,rfl⟩
    rw [← hP] at hag hl
    obtain ⟨wd,w1,w2,w3⟩ := width_cases (c := k - 2) (by omega) (by omega)
    have hroom : roomZ (k - 2) (ks.map hd).length = (((ks.length * wd + 63) / 64 : Nat) : Int) := by
      unfold roomZ
      rw [List.length_map,if_neg (by omega),w2]
      have e : (ks.length : Int) * wd = ((ks.length * wd : Nat) : Int) := by rw [Int.natCast_mul]
      rw [e]
      omega
    have hpl : (putZ (k - 2) (ks.map hd)).length = (ks.length * wd + 63) / 64 := by rw [putZ_length,hroom]; omega
    simp only [List.length_append,List.length_set,hpl] at hl hag
    have ga : L[a]? = some P := by
      rw [hag a (.inl rfl) (by omega),List.getElem?_append_left (by simpa using ha),List.getElem?_set_self ha]
    have hm : ((ks.length : Int) * bitsOf (k - 2) + 63) / 64 = (((ks.length * wd + 63) / 64 : Nat) : Int) := by
      rw [bits_width (by omega) (by omega),w2]
      have e : (ks.length : Int) * wd = ((ks.length * wd : Nat) : Int) := by rw [Int.natCast_mul]
      rw [e]
      omega
    have hat := at_list (L := L) (a := a) (to := l.length) (c := k - 2) (n := ks.length) (m := (ks.length * wd + 63) / 64) hL (by rw [ga,hP]) (by omega) (by omega) (by omega) b1 hm (by omega)
    have hk2 : 2 + (k - 2) = k := by omega
    have hq : ∀ q,q < (ks.length * wd + 63) / 64→(L.drop l.length)[q]? = (putZ (k - 2) (ks.map hd))[q]? := fun q hq => by
      rw [List.getElem?_drop,hag _ (.inr (by omega)) (by omega),List.getElem?_append_right (by simp)]
      simp
    have hkid : ∀ (i : Nat) (hi : i < ks.length),kidP [L] ⟨2 + (k - 2),0,l.length,0,0,ks.length,0⟩ i = (⟨10,0,0,0,0,0,hd ks[i]⟩,0) := fun i hi => by
      rw [kidP_data (by omega) (by omega) (by omega) (by omega) (by omega)]
      have : atomZ [L] ⟨2 + (k - 2),0,l.length,0,0,ks.length,0⟩ i = hd ks[i] := by
        unfold atomZ getZ
        have e0 : ((seg [L] 0).getD []).drop (l.length : Int).toNat = L.drop l.length := by simp [seg]
        simp only [e0,show 2 + (k - 2) - 2 = k - 2 by omega,w1]
        obtain ⟨x,hx1,hx2,hx3,hx4⟩ := b2 _ (List.getElem_mem hi)
        have hhd : hd ks[i] = x := by unfold hd; rw [hx1]; rfl
        by_cases hw0 : wd = 0
        · subst hw0
          rw [if_pos (by omega),hhd]
          unfold fitsZ at hx4
          rw [w1] at hx4
          simp at hx4
          omega
        · rw [if_neg (by omega)]
          have e1 : ((i : Int) * wd / 64).toNat = i * wd / 64 := by
            have : (i : Int) * wd = ((i * wd : Nat) : Int) := by rw [Int.natCast_mul]
            rw [this]; omega
          have e2 : ((i : Int) * wd % 64).toNat = i * wd % 64 := by
            have : (i : Int) * wd = ((i * wd : Nat) : Int) := by rw [Int.natCast_mul]
            rw [this]; omega
          rw [e1,e2,Int.toNat_natCast]
          have hat2 : ∀ j,j < ks.length→j * wd / 64 < (ks.length * wd + 63) / 64 := fun j hj => put_at (by omega) hj
          rw [hq _ (hat2 i hi)]
          have hput : putZ (k - 2) (ks.map hd) = putL wd (ks.map hd) 0 (List.replicate ((ks.length * wd + 63) / 64) 0) := by
            unfold putZ
            rw [w1,hroom]
            simp only [Int.toNat_natCast]
          have hf := (putL_field (w := wd) (by omega) (ks.map hd) 0 _ (PutI.start wd ((ks.length * wd + 63) / 64)) (fun y hy => by
            obtain ⟨c,hc,rfl⟩ := List.mem_map.1 hy
            obtain ⟨z,z1,z2,z3,z4⟩ := b2 c hc
            have : hd c = z := by unfold hd; rw [z1]; rfl
            rw [this]
            exact ⟨z2,fits_lt w1 z2 z4⟩) (fun j hj => by
            rw [List.length_replicate]
            exact hat2 j (by simpa using hj))).2 i (by simpa using hi)
          rw [Nat.zero_add,← hput] at hf
          unfold fieldZ at hf
          rw [List.getD_eq_getElem?_getD] at hf
          rw [hf]
          simp
      rw [this]
    refine ⟨⟨2 + (k - 2),0,l.length,0,0,ks.length,0⟩,.mk k [] ks,hat,?_,rfl⟩
    have hh := hasW_1 (L := L) (a := l.length) (n := (ks.length * wd + 63) / 64) (by omega)
    rw [← hm] at hh
    refine .mk _ _ (.dat _ _ _ _ (by omega) (by omega) (by omega) (by omega) hh) hk2 ?_ ?_ (fun i hi => ?_) (fun i hi => ?_)
    · unfold wordsR
      rw [if_neg (by simp only; omega),if_pos (by simp only; omega)]
      rfl
    · unfold nk
      rw [if_neg (by simp only; omega)]
      rfl
    · change i < ks.length at hi
      rw [hkid i hi]
    · change i < ks.length at hi
      rw [hkid i hi]
      obtain ⟨x,hx1,hx2,hx3,hx4⟩ := b2 _ (List.getElem_mem hi)
      obtain ⟨g1,g2⟩ := hkr _ (List.getElem_mem hi)
      have hhd : hd ks[i] = x := by unfold hd; rw [hx1]; rfl
      have hkd : ks[i].kind = 10 := by
        have hd : isData k = true := by simp [isData]; omega
        unfold kidOk at g2
        rw [hd] at g2
        simp at g2
        first | exact g2.1.1 | exact of_decide_eq_true g2.1.1
      have hks : ks[i].kids = [] := by
        rw [T.eta ks[i],rightT_mk,hkd] at g1
        simp at g1
        exact g1.2
      have e : ks[i] = .mk 10 [x] [] := by rw [T.eta ks[i],hkd,hx1,hks]
      show Means [L] _ ks[i]
      rw [hhd,e]
      exact .mk _ _ (.atom _ hx2 hx3) rfl (by simp [wordsR]) (by simp [nk]) (fun i hi => by simp at hi) (fun i hi => by simp at hi)
theorem lay_root {t : T} (hok : LayOk t) {d : Nat} (hr : rightT d t = true) (hL : (layT t 0 [0]).length≤200000) : ∃ r u,atP [layT t 0 [0]] 0 0 = (r,0)∧Means [layT t 0 [0]] r u∧norm u = norm t := by
  have := (lay_means t).1 hok ⟨d,hr⟩ 0 [0] (layT t 0 [0]) (by simp) rfl (Nat.le_refl _) hL (fun p _ _ => rfl)
  simpa using this
theorem means_same {l : List (List Int)} : ∀ (t u : T) (r : Rf),Means l r t→Means l r u→t = u := by
  refine T.ind fun k w ks ih u r h1 h2 => ?_
  obtain ⟨_,_,_,a1,a2,a3,a4,a5⟩ := h1
  obtain ⟨_,_,_,b1,b2,b3,b4,b5⟩ := h2
  obtain ⟨k',w',ks'⟩ := u
  simp only [T.kind_mk,T.words_mk,T.kids_mk] at *
  have hl : ks.length = ks'.length := by omega
  have e : ks = ks' := by
    apply List.ext_getElem hl
    intro i h1 h2
    exact ih _ (List.getElem_mem h1) _ _ (a5 i h1) (b5 i h2)
  rw [← a1,← a2,b1,b2,e]
end Go.Proofs.YthfiijdbnkaabaaGreat

namespace Go.PL
set_option linter.unusedVariables false
set_option linter.unusedSimpArgs false
def wdT (t : T) (i : Nat) : Int := t.words.getD i 0
def kdT (t : T) (i : Nat) : T := t.kids.getD i T0
theorem sizeOf_T0 (t : T) : SizeOf.sizeOf T0≤SizeOf.sizeOf t := by
  obtain ⟨k,w,l⟩ := t
  have h1 : 1≤SizeOf.sizeOf k := by
    cases k with
    | ofNat n => rw [Int.ofNat.sizeOf_spec]; omega
    | negSucc n => rw [Int.negSucc.sizeOf_spec]; omega
  have h2 : 1≤SizeOf.sizeOf w := by cases w <;> simp <;> omega
  have h3 : 1≤SizeOf.sizeOf l := by cases l <;> simp <;> omega
  simp only [T.mk.sizeOf_spec]
  have e1 : SizeOf.sizeOf (0 : Int) = 1 := rfl
  have e2 : SizeOf.sizeOf ([] : List Int) = 1 := rfl
  have e3 : SizeOf.sizeOf ([] : List T) = 1 := rfl
  omega
theorem kd_mem {t : T} {i : Nat} {x : T} (hx : x ∈ (kdT t i).kids) : kdT t i ∈ t.kids := by
  unfold kdT at hx ⊢
  rw [List.getD_eq_getElem?_getD] at hx ⊢
  cases h : t.kids[i]? with
  | none => rw [h] at hx; simp at hx
  | some y => exact List.mem_of_getElem? (by rw [h]; rfl)
theorem kids_lt {t c : T} (h : c ∈ t.kids) : SizeOf.sizeOf c < SizeOf.sizeOf t := by
  obtain ⟨k,w,l⟩ := t
  have := List.sizeOf_lt_of_mem h
  simp only [T.kids_mk] at this
  simp only [T.mk.sizeOf_spec]
  omega
theorem kd_lt {t x : T} {i : Nat} (hx : x ∈ (kdT t i).kids) (j : Nat) : SizeOf.sizeOf (kdT x j) < SizeOf.sizeOf t := by
  have h1 := kids_lt (kd_mem hx)
  have h2 := kids_lt hx
  have h3 : SizeOf.sizeOf (kdT x j)≤SizeOf.sizeOf x := by
    have e : kdT x j = T0∨kdT x j ∈ x.kids := by
      unfold kdT
      rw [List.getD_eq_getElem?_getD]
      cases h : x.kids[j]? with
      | none => exact .inl rfl
      | some y => exact .inr (List.mem_of_getElem? (by rw [h]; rfl))
    rcases e with e | e
    · rw [e]; exact sizeOf_T0 x
    · exact Nat.le_of_lt (kids_lt e)
  omega
def wordG (x : T) : WE := ⟨wdT x 0 % 4294967296,wdT x 0 / 4294967296 % 256,wdT x 1,wdT x 2⟩
def guess (t : T) : E :=
  if t.kind ≠ 1 then E0 else
  .mk (wdT t 0 % 256) (if wdT t 0 % 256 = 1 then kdT t 0 else T0) (if wdT t 0 % 256 = 1 then kdT t 1 else T0)
    (if wdT t 0 % 256 = 2 then (kdT t 0).kids.map wordG else [])
    (if wdT t 0 % 256 = 2 then (kdT t 1).kids.attach.map (fun x => KE.mk (wdT x.1 0 % 4294967296) (guess (kdT x.1 0))) else [])
    (wdT t 0 / 256 % 256)
    (if wdT t 0 % 256 = 3 then (kdT t 0).kids.attach.map (fun x => OP.mk (wdT x.1 0 % 256) (wdT x.1 0 / 256 % 1099511627776) (if wdT x.1 0 % 256 = 1∨wdT x.1 0 % 256 = 2 then (kdT x.1 0).kids else []) (if wdT x.1 0 % 256 = 3 then guess (kdT x.1 0) else E0)) else [])
termination_by SizeOf.sizeOf t
decreasing_by all_goals exact kd_lt x.2 0
def kidG (x : T) : KE := KE.mk (wdT x 0 % 4294967296) (guess (kdT x 0))
def stpG (x : T) : OP := OP.mk (wdT x 0 % 256) (wdT x 0 / 256 % 1099511627776) (if wdT x 0 % 256 = 1∨wdT x 0 % 256 = 2 then (kdT x 0).kids else []) (if wdT x 0 % 256 = 3 then guess (kdT x 0) else E0)
theorem guess_eq (t : T) : guess t = if t.kind ≠ 1 then E0 else
    .mk (wdT t 0 % 256) (if wdT t 0 % 256 = 1 then kdT t 0 else T0) (if wdT t 0 % 256 = 1 then kdT t 1 else T0) (if wdT t 0 % 256 = 2 then (kdT t 0).kids.map wordG else [])
      (if wdT t 0 % 256 = 2 then (kdT t 1).kids.map kidG else []) (wdT t 0 / 256 % 256) (if wdT t 0 % 256 = 3 then (kdT t 0).kids.map stpG else []) := by
  rw [guess]
  have h1 : ∀ l : List T,l.attach.map (fun x => KE.mk (wdT x.1 0 % 4294967296) (guess (kdT x.1 0))) = l.map kidG := fun l => by
    rw [show (fun x : { x // x ∈ l } => KE.mk (wdT x.1 0 % 4294967296) (guess (kdT x.1 0))) = kidG ∘ Subtype.val from rfl,← List.map_map,List.attach_map_subtype_val]
  have h2 : ∀ l : List T,l.attach.map (fun x => OP.mk (wdT x.1 0 % 256) (wdT x.1 0 / 256 % 1099511627776) (if wdT x.1 0 % 256 = 1∨wdT x.1 0 % 256 = 2 then (kdT x.1 0).kids else []) (if wdT x.1 0 % 256 = 3 then guess (kdT x.1 0) else E0)) = l.map stpG := fun l => by
    rw [show (fun x : { x // x ∈ l } => OP.mk (wdT x.1 0 % 256) (wdT x.1 0 / 256 % 1099511627776) (if wdT x.1 0 % 256 = 1∨wdT x.1 0 % 256 = 2 then (kdT x.1 0).kids else []) (if wdT x.1 0 % 256 = 3 then guess (kdT x.1 0) else E0)) = stpG ∘ Subtype.val from rfl,← List.map_map,List.attach_map_subtype_val]
  rw [h1,h2]
@[simp] theorem rowT'_kids (l : List T) : (rowT' l).kids = l := by cases l <;> simp
theorem noneT_T0 {t : T} (h : noneT t = true) : t = T0 := by
  obtain ⟨k,w,l⟩ := t
  simp only [noneT,Bool.and_eq_true,decide_eq_true_eq,List.isEmpty_iff,T.kind_mk,T.words_mk,T.kids_mk] at h
  obtain ⟨⟨h0,rfl⟩,rfl⟩ := h
  obtain rfl := of_decide_eq_true h0
  rfl
theorem sameE_eq {e : E} (h : sameE e = true) : e = E0 := by
  obtain ⟨k,o,n,ws,ks,l,os⟩ := e
  simp only [sameE,Bool.and_eq_true,decide_eq_true_eq,List.isEmpty_iff,E.kind_mk,E.old_mk,E.new_mk,E.words_mk,E.kids_mk,E.list_mk,E.ops_mk] at h
  obtain ⟨⟨⟨⟨h0,h1⟩,h2⟩,⟨rfl,rfl⟩,rfl⟩,h3⟩ := h
  obtain rfl := of_decide_eq_true h0
  obtain rfl := of_decide_eq_true h3
  rw [noneT_T0 h1,noneT_T0 h2]
theorem headOk_iff {d : Nat} {k : Int} {o n : T} {nw nk : Nat} {l : Int} {no : Nat} : headOk d k o n nw nk l no = true ↔ d ≠ 0∧0≤k∧k≤3∧(k ≠ 1→noneT o = true∧noneT n = true)∧(k ≠ 2→nw = 0∧nk = 0)∧(k ≠ 3→l = 0∧no = 0) := by
  unfold headOk
  simp only [Bool.and_eq_true,Bool.not_eq_true',Bool.or_eq_false_iff,Bool.and_eq_false_iff,decide_eq_false_iff_not,Bool.not_eq_false',decide_eq_true_eq]
  constructor
  · rintro ⟨⟨⟨h1,h2⟩,h3⟩,⟨h4,h5⟩,h6⟩
    refine ⟨h1,by omega,by omega,fun hk => ?_,fun hk => ?_,fun hk => ?_⟩
    · rcases h4 with h4 | h4
      · exact absurd h4 hk
      · exact h4
    · rcases h5 with h5 | h5
      · exact absurd h5 hk
      · omega
    · rcases h6 with h6 | h6
      · exact absurd h6 hk
      · exact ⟨h6.1,by omega⟩
  · rintro ⟨h1,h2,h3,h4,h5,h6⟩
    refine ⟨⟨⟨h1,by omega⟩,by omega⟩,⟨?_,?_⟩,?_⟩
    · by_cases hk : k = 1
      · exact .inl hk
      · exact .inr (h4 hk)
    · by_cases hk : k = 2
      · exact .inl hk
      · exact .inr (by have := h5 hk; omega)
    · by_cases hk : k = 3
      · exact .inl hk
      · exact .inr ⟨(h6 hk).1,by have := h6 hk; omega⟩
structure RightE (d : Nat) (k : Int) (o n : T) (ws : List WE) (ks : List KE) (l : Int) (os : List OP) : Prop where
  d0 : d ≠ 0
  k0 : 0≤k
  k3 : k≤3
  one : k ≠ 1→o = T0∧n = T0
  two : k ≠ 2→ws = []∧ks = []
  three : k ≠ 3→l = 0∧os = []
  rep : k = 1→rightT 64 o = true∧rightT 64 n = true∧o.kind ≠ 10∧n.kind ≠ 10
  wok : wordsOk (-1) ws = true
  kok : rightKs (d - 1) (-1) ks = true
  lst : k = 3→2≤l∧l≤9
  ook : rightOs (d - 1) l os = true
  len : (lengths 0 0 os).1 < 1048576∧(lengths 0 0 os).2 < 1048576
theorem rightE_iff {d : Nat} {k : Int} {o n : T} {ws : List WE} {ks : List KE} {l : Int} {os : List OP} : rightE d (.mk k o n ws ks l os) = true ↔ RightE d k o n ws ks l os := by
  rw [rightE_mk]
  constructor
  · intro h
    by_cases hh : headOk d k o n ws.length ks.length l os.length = true
    · rw [if_neg (by rw [hh]; simp)] at h
      obtain ⟨h1,h2,h3,h4,h5,h6⟩ := headOk_iff.1 hh
      have g1 : k ≠ 1→o = T0∧n = T0 := fun hk => ⟨noneT_T0 (h4 hk).1,noneT_T0 (h4 hk).2⟩
      have g2 : k ≠ 2→ws = []∧ks = [] := fun hk => ⟨List.length_eq_zero_iff.1 (h5 hk).1,List.length_eq_zero_iff.1 (h5 hk).2⟩
      have g3 : k ≠ 3→l = 0∧os = [] := fun hk => ⟨(h6 hk).1,List.length_eq_zero_iff.1 (h6 hk).2⟩
      by_cases hk : k = 1
      · rw [if_pos hk] at h
        simp at h
        obtain ⟨rfl,rfl⟩ := g2 (by omega)
        obtain ⟨rfl,rfl⟩ := g3 (by omega)
        exact ⟨h1,h2,h3,g1,g2,g3,fun _ => ⟨h.1.1.1,h.1.1.2,h.1.2,h.2⟩,by simp [wordsOk],by simp,fun e => by omega,by simp,by simp [lengths]⟩
      · rw [if_neg hk] at h
        split at h
        · cases h
        · rename_i hw
          split at h
          · cases h
          · rename_i hks
            split at h
            · cases h
            · rename_i hl
              split at h
              · cases h
              · rename_i ho
                simp at h hw hks ho
                exact ⟨h1,h2,h3,g1,g2,g3,fun e => absurd e hk,hw,hks,fun e => by omega,ho,h⟩
    · rw [if_pos (by simpa using hh)] at h
      cases h
  · intro h
    have hh : headOk d k o n ws.length ks.length l os.length = true := headOk_iff.2 ⟨h.d0,h.k0,h.k3,fun hk => by rw [(h.one hk).1,(h.one hk).2]; exact ⟨rfl,rfl⟩,fun hk => by rw [(h.two hk).1,(h.two hk).2]; exact ⟨rfl,rfl⟩,fun hk => by rw [(h.three hk).1,(h.three hk).2]; exact ⟨rfl,rfl⟩⟩
    rw [if_neg (by rw [hh]; simp)]
    by_cases hk : k = 1
    · rw [if_pos hk]
      obtain ⟨a,b,c,e⟩ := h.rep hk
      simp [a,b,c,e]
    · rw [if_neg hk,if_neg (by rw [h.wok]; simp),if_neg (by rw [h.kok]; simp),if_neg (by have := h.lst; omega),if_neg (by rw [h.ook]; simp)]
      simp [h.len]
theorem wordsOk_in : ∀ {l : List WE} {last : Int},-1≤last→wordsOk last l = true→∀ w,w ∈ l→0≤w.at_∧w.at_≤65534∧w.mask ≠ 0
  | [],_,_,_,w,hw => nomatch hw
  | x :: l,last,hl,h,w,hw => by
    rw [wordsOk,Bool.and_eq_true] at h
    have h1 := h.1
    simp [wordOk] at h1
    rcases List.mem_cons.1 hw with rfl | hw
    · exact ⟨by omega,by omega,h1.1.1.2⟩
    · exact wordsOk_in (by omega) h.2 w hw
theorem rightKs_allE : ∀ {l : List KE} {d : Nat} {last : Int},-1≤last→rightKs d last l = true→∀ x,x ∈ l→0≤x.at_∧x.at_≤65534∧x.e.kind ≠ 0∧rightE d x.e = true
  | [],_,_,_,_,x,hx => nomatch hx
  | y :: l,d,last,hl,h,x,hx => by
    rw [rightKs_cons] at h
    simp at h
    rcases List.mem_cons.1 hx with rfl | hx
    · exact ⟨by omega,by omega,h.1.1.2,h.1.2⟩
    · exact rightKs_allE (by omega) h.2 x hx
structure RightO (d : Nat) (list : Int) (x : OP) : Prop where
  k0 : 0≤x.kind
  k3 : x.kind≤3
  keep : x.kind = 0→1≤x.n∧x.n≤1048576∧x.l = []
  nn : x.kind ≠ 0→x.n = 0
  same : x.kind ≠ 3→x.e = E0
  some : x.kind = 1∨x.kind = 2→x.l ≠ []∧∀ t,t ∈ x.l→rightT 64 (.mk list [] [t]) = true
  down : x.kind = 3→x.l = []∧x.e.kind ≠ 0∧8≤list∧rightE d x.e = true∧opFit list x = true
theorem rightO_of {d : Nat} {list : Int} {x : OP} (h : rightO d list x = true) : RightO d list x := by
  rw [rightO_eq,Bool.and_eq_true] at h
  obtain ⟨h1,h2⟩ := h
  unfold opFlat at h1
  by_cases k0 : x.kind = 0
  · rw [if_pos k0] at h1
    simp at h1
    exact ⟨by omega,by omega,fun _ => ⟨h1.1.1.1,h1.1.1.2,h1.1.2⟩,fun e => absurd k0 e,fun _ => sameE_eq h1.2,fun e => by omega,fun e => by omega⟩
  · rw [if_neg k0] at h1
    split at h1
    · cases h1
    · rename_i hn
      by_cases k3 : x.kind < 3
      · rw [if_pos k3] at h1
        simp at h1
        exact ⟨by omega,by omega,fun e => absurd e k0,fun _ => by omega,fun _ => sameE_eq h1.2,fun _ => ⟨by simpa using h1.1.2,h1.1.1⟩,fun e => by omega⟩
      · have k3' : x.kind = 3 := by omega
        rw [if_pos k3'] at h2
        simp [opDeep] at h2
        exact ⟨by omega,by omega,fun e => absurd e k0,fun _ => by omega,fun e => absurd k3' e,fun e => by omega,fun _ => ⟨h2.1.1.1.1,h2.1.1.1.2,by omega,h2.1.2,h2.2⟩⟩
theorem sameE_E0 : sameE E0 = true := rfl
theorem rightO_to {d : Nat} {list : Int} {x : OP} (O : RightO d list x) : rightO d list x = true := by
  rw [rightO_eq,Bool.and_eq_true]
  unfold opFlat
  by_cases k0 : x.kind = 0
  · obtain ⟨a,b,c⟩ := O.keep k0
    rw [if_pos k0,if_neg (by omega),O.same (by omega),c]
    exact ⟨by simp [a,b,sameE_E0],rfl⟩
  · have hn := O.nn k0
    have h0 := O.k0
    have h3 := O.k3
    rw [if_neg k0,if_neg (by omega)]
    by_cases k3 : x.kind = 3
    · obtain ⟨a,b,c,e,f⟩ := O.down k3
      rw [if_neg (by omega),if_pos k3]
      refine ⟨rfl,?_⟩
      rw [e,f]
      simp [opDeep,a,b]
      omega
    · obtain ⟨a,b⟩ := O.some (by omega)
      rw [if_pos (by omega),if_neg k3,O.same k3]
      refine ⟨?_,rfl⟩
      simp [sameE_E0,a]
      exact b
theorem u64m_of {n : Int} (h : 0≤n) (h1 : n < 18446744073709551616) : u64m n = n := Int.emod_eq_of_lt h h1
theorem wordG_tree {w : WE} (h : 0≤w.at_∧w.at_≤65534) (hm : 0≤w.mask∧w.mask < 256) : wordG (treeW w) = w := by
  obtain ⟨a,m,o,n⟩ := w
  simp only at h hm
  unfold wordG treeW wdT
  simp only [T.words_mk]
  rw [u64m_of (by omega) (by omega)]
  simp
  omega
mutual
def maskE : E→Prop
  | .mk _ _ _ ws ks _ os => (∀ w,w ∈ ws→0≤w.mask∧w.mask < 256)∧maskKs ks∧maskOs os
def maskKs : List KE→Prop
  | [] => True
  | .mk _ e :: l => maskE e∧maskKs l
def maskOs : List OP→Prop
  | [] => True
  | .mk _ _ _ e :: l => maskE e∧maskOs l
end
theorem maskE_mk (k : Int) (o n : T) (ws : List WE) (ks : List KE) (l : Int) (os : List OP) : maskE (.mk k o n ws ks l os) ↔ (∀ w,w ∈ ws→0≤w.mask∧w.mask < 256)∧maskKs ks∧maskOs os := by rw [maskE]
theorem maskKs_all : ∀ {l : List KE},maskKs l ↔ ∀ x,x ∈ l→maskE x.e
  | [] => by rw [maskKs]; simp
  | .mk a e :: l => by rw [maskKs,maskKs_all]; simp
theorem maskOs_all : ∀ {l : List OP},maskOs l ↔ ∀ x,x ∈ l→maskE x.e
  | [] => by rw [maskOs]; simp
  | .mk k n t e :: l => by rw [maskOs,maskOs_all]; simp
theorem guess_T0 : guess T0 = E0 := by rw [guess_eq]; simp
theorem map_same {α β : Type} {f : α→β} {g : β→α} {l : List α} (h : ∀ x,x ∈ l→g (f x) = x) : (l.map f).map g = l := by
  rw [List.map_map]
  have : l.map (g ∘ f) = l.map id := List.map_congr_left fun x hx => h x hx
  rw [this,List.map_id]
theorem guess_tree : ∀ (e : E) (d : Nat),maskE e→rightE d e = true→guess (treeE e) = e := by
  refine E.ind fun k o n ws ks l os ihk iho d hm h => ?_
  have R := rightE_iff.1 h
  rw [maskE_mk] at hm
  obtain ⟨m1,m2,m3⟩ := hm
  have hk : k = 0∨k = 1∨k = 2∨k = 3 := by have := R.k0; have := R.k3; omega
  rw [treeE_mk]
  rcases hk with rfl | rfl | rfl | rfl
  · obtain ⟨rfl,rfl⟩ := R.one (by omega)
    obtain ⟨rfl,rfl⟩ := R.two (by omega)
    obtain ⟨rfl,rfl⟩ := R.three (by omega)
    simp [guess_T0]
  · obtain ⟨rfl,rfl⟩ := R.two (by omega)
    obtain ⟨rfl,rfl⟩ := R.three (by omega)
    rw [if_neg (by decide),if_pos rfl,guess_eq]
    simp [wdT,kdT,u64m]
  · obtain ⟨rfl,rfl⟩ := R.one (by omega)
    obtain ⟨rfl,rfl⟩ := R.three (by omega)
    have e1 : (ws.map treeW).map wordG = ws := map_same fun w hw => wordG_tree (by have := wordsOk_in (by omega) R.wok w hw; omega) (m1 w hw)
    have e2 : (ks.map treeK).map kidG = ks := map_same fun x hx => by
      obtain ⟨g1,g2,g3,g4⟩ := rightKs_allE (by omega) R.kok x hx
      have := ihk x hx _ (maskKs_all.1 m2 x hx) g4
      obtain ⟨a,e⟩ := x
      simp at g1 g2 this
      unfold kidG treeK wdT kdT
      simp only [T.words_mk,T.kids_mk,KE.at_mk,KE.e_mk]
      rw [u64m_of g1 (by omega)]
      simp [this]
      omega
    rw [if_neg (by decide),if_neg (by decide),if_pos rfl,treeKs_map,guess_eq]
    simp [wdT,kdT,u64m,e1,e2]
  · obtain ⟨rfl,rfl⟩ := R.one (by omega)
    obtain ⟨rfl,rfl⟩ := R.two (by omega)
    obtain ⟨l2,l9⟩ := R.lst rfl
    have e3 : (os.map (treeO l)).map stpG = os := map_same fun x hx => by
      have O := rightO_of (rightOs_all.1 R.ook x hx)
      have ih := fun q => iho x hx _ (maskOs_all.1 m3 x hx) (O.down q).2.2.2.1
      obtain ⟨xk,xn,xl,xe⟩ := x
      obtain ⟨k0,k3,keep,nn,same,some,down⟩ := O
      simp only [OP.kind_mk,OP.n_mk,OP.l_mk,OP.e_mk] at *
      have hn : 0≤xn∧xn≤1048576 := by
        by_cases q : xk = 0
        · have := keep q; omega
        · have := nn q; omega
      have hw : wdT (treeO l (OP.mk xk xn xl xe)) 0 = xk + 256 * xn := by
        unfold treeO wdT
        simp only [T.words_mk,OP.kind_mk,OP.n_mk]
        rw [u64m_of (by omega) (by omega)]
        rfl
      have a1 : (xk + 256 * xn) % 256 = xk := by omega
      have a2 : (xk + 256 * xn) / 256 % 1099511627776 = xn := by omega
      unfold stpG
      simp only [hw,a1,a2]
      unfold treeO kdT
      simp only [T.kids_mk,OP.kind_mk,OP.n_mk,OP.l_mk,OP.e_mk]
      have hk : xk = 0∨xk = 1∨xk = 2∨xk = 3 := by omega
      rcases hk with rfl | rfl | rfl | rfl
      · simp [same (by omega),(keep rfl).2.2]
      · simp [same (by omega)]
      · simp [same (by omega)]
      · simp [(down rfl).1,ih rfl]
    rw [if_neg (by decide),if_neg (by decide),if_neg (by decide),treeOs_map,guess_eq]
    have b1 : u64m (3 + 256 * l) = 3 + 256 * l := u64m_of (by omega) (by omega)
    have b2 : (3 + 256 * l) % 256 = 3 := by omega
    have b3 : (3 + 256 * l) / 256 % 256 = l := by omega
    simp [wdT,kdT,b1,b2,b3,e3]
end Go.PL

namespace Go.PL
set_option linter.unusedVariables false
set_option linter.unusedSimpArgs false
mutual
def normEd : E→E
  | .mk k o n ws ks l os => .mk k (norm o) (norm n) ws (normKs ks) l (normOs os)
def normKs : List KE→List KE
  | [] => []
  | .mk a e :: l => .mk a (normEd e) :: normKs l
def normOs : List OP→List OP
  | [] => []
  | .mk k n t e :: l => .mk k n (t.map norm) (normEd e) :: normOs l
end
def normKe (x : KE) : KE := .mk x.at_ (normEd x.e)
def normOp (x : OP) : OP := .mk x.kind x.n (x.l.map norm) (normEd x.e)
theorem normKs_map : ∀ l,normKs l = l.map normKe
  | [] => by rw [normKs]; rfl
  | .mk a e :: l => by rw [normKs,normKs_map l]; rfl
theorem normOs_map : ∀ l,normOs l = l.map normOp
  | [] => by rw [normOs]; rfl
  | .mk k n t e :: l => by rw [normOs,normOs_map l]; rfl
theorem normEd_mk (k : Int) (o n : T) (ws : List WE) (ks : List KE) (l : Int) (os : List OP) : normEd (.mk k o n ws ks l os) = .mk k (norm o) (norm n) ws (ks.map normKe) l (os.map normOp) := by rw [normEd,normKs_map,normOs_map]
theorem normEd_E0 : normEd E0 = E0 := by rw [normEd_mk]; simp [norm_T0]
@[simp] theorem normEd_kind (e : E) : (normEd e).kind = e.kind := by cases e; rw [normEd_mk]; rfl
theorem wd_norm {t : T} (h : t.kind = 1) (i : Nat) : wdT (norm t) i = wdT t i := by
  obtain ⟨k,w,l⟩ := t
  simp at h
  subst h
  unfold wdT
  rw [norm_mk]
  simp only [if_neg (show ¬ (1 : Int) = 0 by decide),if_true,T.words_mk]
  rw [trimW_G]
  exact trimG_getD w (fun x _ h => by simpa using h) i
theorem kd_norm {t : T} (h : t.kind = 1) (i : Nat) : kdT (norm t) i = norm (kdT t i) := by
  obtain ⟨k,w,l⟩ := t
  simp at h
  subst h
  unfold kdT
  rw [norm_mk]
  simp only [if_neg (show ¬ (1 : Int) = 0 by decide),if_true,T.kids_mk]
  have hz : ∀ x,x ∈ l.map norm→(x.kind == 0) = true→x = T0 := fun x hx h0 => by
    obtain ⟨y,_,rfl⟩ := List.mem_map.1 hx
    simp at h0
    exact norm_kind0 h0
  rw [trimK_G,trimG_getD _ hz i,getD_norm]
theorem rowT'_norm (l : List T) : (norm (rowT' l)).kids = l.map norm := by
  cases l with
  | nil => simp [norm_T0]
  | cons t l => rw [rowT'_cons,norm_mk]; simp
theorem kidsOf_norm {k : Int} (h : 2≤k) (w : List Int) (l : List T) : (norm (.mk k w l)).kids = l.map norm := by
  rw [norm_mk,if_neg (by omega),if_neg (by omega)]; rfl
theorem map_map_eq {α β γ : Type} {f : α→β} {g : β→γ} {h : α→γ} {l : List α} (e : ∀ x,x ∈ l→g (f x) = h x) : (l.map f).map g = l.map h := by
  rw [List.map_map]
  exact List.map_congr_left e
theorem treeW_norm {w : WE} (h : 0≤w.at_∧w.at_≤65534) (hm : 0≤w.mask∧w.mask < 256) : wordG (norm (treeW w)) = w := by
  have hk : (treeW w).kind = 1 := rfl
  have := wordG_tree h hm
  unfold wordG at this ⊢
  rw [wd_norm hk,wd_norm hk,wd_norm hk]
  exact this
theorem treeE_one {e : E} (h : e.kind ≠ 0) : (treeE e).kind = 1 := by
  cases e; rw [treeE_mk]
  simp at h
  rw [if_neg h]
  repeat' split
  all_goals rfl
theorem treeE_zero {e : E} (h : e.kind = 0) : treeE e = T0 := by
  cases e; rw [treeE_mk]
  simp at h
  rw [if_pos h]
theorem wd_treeE {k : Int} {o n : T} {ws : List WE} {ks : List KE} {l : Int} {os : List OP} (k0 : 1≤k) (k3 : k≤3) (hl : 0≤l∧l≤9) : wdT (treeE (.mk k o n ws ks l os)) 0 = k + 256 * l := by
  have e : u64m (k + 256 * l) = k + 256 * l := u64m_of (by omega) (by omega)
  unfold wdT
  rw [treeE_mk,if_neg (by omega),e]
  repeat' split
  all_goals rfl
theorem kdT_0 (k : Int) (w : List Int) (a : T) (l : List T) : kdT (.mk k w (a :: l)) 0 = a := rfl
theorem kdT_1 (k : Int) (w : List Int) (a b : T) (l : List T) : kdT (.mk k w (a :: b :: l)) 1 = b := rfl
theorem guess_norm : ∀ (e : E) (d : Nat),maskE e→rightE d e = true→guess (norm (treeE e)) = normEd e := by
  refine E.ind fun k o n ws ks l os ihk iho d hm h => ?_
  have R := rightE_iff.1 h
  rw [maskE_mk] at hm
  obtain ⟨m1,m2,m3⟩ := hm
  have hk : k = 0∨k = 1∨k = 2∨k = 3 := by have := R.k0; have := R.k3; omega
  have hl : 0≤l∧l≤9 := by
    by_cases q : k = 3
    · have := R.lst q; omega
    · have := (R.three q).1; omega
  by_cases k0 : k = 0
  · subst k0
    obtain ⟨rfl,rfl⟩ := R.one (by omega)
    obtain ⟨rfl,rfl⟩ := R.two (by omega)
    obtain ⟨rfl,rfl⟩ := R.three (by omega)
    rw [treeE_zero rfl,norm_T0,guess_T0,normEd_E0]
  have hw : wdT (norm (treeE (.mk k o n ws ks l os))) 0 = k + 256 * l := by rw [wd_norm (treeE_one (by simpa using k0)),wd_treeE (by omega) (by omega) hl]
  have hkd : ∀ i,kdT (norm (treeE (.mk k o n ws ks l os))) i = norm (kdT (treeE (.mk k o n ws ks l os)) i) := kd_norm (treeE_one (by simpa using k0))
  have a1 : (k + 256 * l) % 256 = k := by omega
  have a2 : (k + 256 * l) / 256 % 256 = l := by omega
  rw [guess_eq,if_neg (by rw [norm_kind,treeE_one (by simpa using k0)]; simp)]
  simp only [hw,hkd,a1,a2]
  rw [normEd_mk,treeE_mk,if_neg k0]
  rcases hk with rfl | rfl | rfl | rfl
  · exact absurd rfl k0
  · obtain ⟨rfl,rfl⟩ := R.two (by omega)
    obtain ⟨rfl,rfl⟩ := R.three (by omega)
    simp [kdT_0,kdT_1]
  · obtain ⟨rfl,rfl⟩ := R.one (by omega)
    obtain ⟨rfl,rfl⟩ := R.three (by omega)
    have e1 : (ws.map treeW).map (fun x => wordG (norm x)) = ws := map_same (g := fun x => wordG (norm x)) fun w hw => treeW_norm (by have := wordsOk_in (by omega) R.wok w hw; omega) (m1 w hw)
    have e2 : (ks.map treeK).map (fun x => kidG (norm x)) = ks.map normKe := map_map_eq fun x hx => by
      obtain ⟨g1,g2,g3,g4⟩ := rightKs_allE (by omega) R.kok x hx
      have := ihk x hx _ (maskKs_all.1 m2 x hx) g4
      have hk : (treeK x).kind = 1 := rfl
      unfold kidG normKe
      rw [wd_norm hk,kd_norm hk]
      unfold treeK wdT
      simp only [T.words_mk,kdT_0]
      rw [u64m_of g1 (by omega),this]
      have : x.at_ % 4294967296 = x.at_ := by omega
      simp [this]
    simp only [if_neg (show ¬ (2 : Int) = 1 by decide),if_true,kdT_0,kdT_1,rowT'_norm,treeKs_map,List.map_map]
    have e1' : ws.map (wordG ∘ norm ∘ treeW) = ws := by rw [List.map_map] at e1; exact e1
    have e2' : ks.map (kidG ∘ norm ∘ treeK) = ks.map normKe := by rw [List.map_map] at e2; exact e2
    rw [e1',e2']
    simp [norm_T0]
  · obtain ⟨rfl,rfl⟩ := R.one (by omega)
    obtain ⟨rfl,rfl⟩ := R.two (by omega)
    obtain ⟨l2,l9⟩ := R.lst rfl
    have e3 : (os.map (treeO l)).map (fun x => stpG (norm x)) = os.map normOp := map_map_eq fun x hx => by
      have O := rightO_of (rightOs_all.1 R.ook x hx)
      have ih := fun q => iho x hx _ (maskOs_all.1 m3 x hx) (O.down q).2.2.2.1
      have hk : (treeO l x).kind = 1 := rfl
      obtain ⟨xk,xn,xl,xe⟩ := x
      obtain ⟨k0,k3,keep,nn,same,some,down⟩ := O
      simp only [OP.kind_mk,OP.n_mk,OP.l_mk,OP.e_mk] at *
      have hn : 0≤xn∧xn≤1048576 := by
        by_cases q : xk = 0
        · have := keep q; omega
        · have := nn q; omega
      have hw : wdT (norm (treeO l (OP.mk xk xn xl xe))) 0 = xk + 256 * xn := by
        rw [wd_norm hk]
        unfold treeO wdT
        simp only [T.words_mk,OP.kind_mk,OP.n_mk]
        rw [u64m_of (by omega) (by omega)]
        rfl
      have a1 : (xk + 256 * xn) % 256 = xk := by omega
      have a2 : (xk + 256 * xn) / 256 % 1099511627776 = xn := by omega
      unfold stpG normOp
      simp only [hw,a1,a2,kd_norm hk]
      unfold treeO kdT
      simp only [T.kids_mk,OP.kind_mk,OP.n_mk,OP.l_mk,OP.e_mk]
      have hk : xk = 0∨xk = 1∨xk = 2∨xk = 3 := by omega
      rcases hk with rfl | rfl | rfl | rfl
      · simp [same (by omega),(keep rfl).2.2,normEd_E0]
      · simp [same (by omega),normEd_E0,kidsOf_norm l2]
      · simp [same (by omega),normEd_E0,kidsOf_norm l2]
      · simp [(down rfl).1,ih rfl]
    simp only [if_neg (show ¬ (3 : Int) = 1 by decide),if_neg (show ¬ (3 : Int) = 2 by decide),if_true,kdT_0,rowT'_norm,treeOs_map,List.map_map]
    have e3' : os.map (stpG ∘ norm ∘ treeO l) = os.map normOp := by rw [List.map_map] at e3; exact e3
    rw [e3']
    simp [norm_T0]
theorem right_norm : ∀ (t : T) (d : Nat),rightT d t = true→rightT d (norm t) = true := by
  refine T.ind fun k w l ih d h => ?_
  have hk := rightT_struct h
  rw [rightT_mk] at h
  rw [norm_mk]
  by_cases h0 : k = 0
  · rw [if_pos h0,rightT_mk]; rfl
  rw [if_neg h0] at h ⊢
  by_cases h10 : k = 10
  · subst h10
    rw [if_pos rfl] at h
    simp at h
    obtain ⟨hw,rfl⟩ := h
    rw [if_neg (by decide),rightT_mk]
    simp [hw]
  rw [if_neg h10] at h
  by_cases hb : tooBig k d w.length l.length = true
  · rw [if_pos hb] at h; cases h
  have hm : ∀ (m : List T),(∀ t,t ∈ m→∃ u,u ∈ l∧t = norm u)→rightL (d - 1) k m = true := fun m hm => rightL_all.2 fun t ht => by
    obtain ⟨u,hu,rfl⟩ := hm t ht
    obtain ⟨g1,g2⟩ := hk u hu
    refine ⟨ih u hu _ g1,?_⟩
    unfold kidOk at g2 ⊢
    rw [norm_kind]
    cases hd : isData k with
    | false => rw [hd] at g2; simpa using g2
    | true =>
      rw [hd] at g2
      simp at g2
      obtain ⟨⟨g3,g4⟩,g5⟩ := g2
      obtain ⟨uk,uw,ul⟩ := u
      simp at g3
      subst g3
      rw [norm_mk]
      simp at g4 g5 ⊢
      exact ⟨g4,g5⟩
  by_cases h1 : k = 1
  · subst h1
    have hw := trimW_le w
    have hl := trimK_le (l.map norm)
    rw [List.length_map] at hl
    have hb' : ¬ tooBig 1 d (trimW w).length (trimK (l.map norm)).length = true := by
      simp [tooBig] at hb ⊢
      omega
    rw [if_pos rfl,rightT_mk,if_neg (by decide),if_neg (by decide),if_neg hb']
    refine hm _ fun t ht => ?_
    rw [trimK_take] at ht
    obtain ⟨u,hu,rfl⟩ := List.mem_map.1 (List.mem_of_mem_take ht)
    exact ⟨u,hu,rfl⟩
  · rw [if_neg h1,rightT_mk,if_neg h0,if_neg h10,if_neg (by rw [List.length_map]; exact hb)]
    refine hm _ fun t ht => ?_
    obtain ⟨u,hu,rfl⟩ := List.mem_map.1 ht
    exact ⟨u,hu,rfl⟩
theorem lengths_norm : ∀ (os : List OP) (n m : Int),lengths n m (os.map normOp) = lengths n m os
  | [],n,m => rfl
  | x :: os,n,m => by
    have e : opLen (normOp x) = opLen x := by simp [opLen,normOp]
    have e2 : (normOp x).kind = x.kind := rfl
    rw [List.map_cons,lengths,lengths,e,e2,lengths_norm os]
theorem norm_rightE : ∀ (e : E) (d : Nat),rightE d e = true→rightE d (normEd e) = true := by
  refine E.ind fun k o n ws ks l os ihk iho d h => ?_
  have R := rightE_iff.1 h
  rw [normEd_mk,rightE_iff]
  refine ⟨R.d0,R.k0,R.k3,fun q => ?_,fun q => ?_,fun q => ?_,fun q => ?_,R.wok,?_,R.lst,?_,by rw [lengths_norm]; exact R.len⟩
  · obtain ⟨rfl,rfl⟩ := R.one q; exact ⟨norm_T0,norm_T0⟩
  · obtain ⟨rfl,rfl⟩ := R.two q; exact ⟨rfl,rfl⟩
  · obtain ⟨rfl,rfl⟩ := R.three q; exact ⟨rfl,rfl⟩
  · obtain ⟨a,b,c,f⟩ := R.rep q
    exact ⟨right_norm _ _ a,right_norm _ _ b,by rw [norm_kind]; exact c,by rw [norm_kind]; exact f⟩
  · have : ∀ (m : List KE) (last : Int),(∀ x,x ∈ m→x ∈ ks)→rightKs (d - 1) last m = true→rightKs (d - 1) last (m.map normKe) = true := by
      intro m
      induction m with
      | nil => intros; simp
      | cons x m ih =>
        intro last hs hr
        rw [rightKs_cons,Bool.and_eq_true,Bool.and_eq_true] at hr
        rw [List.map_cons,rightKs_cons,Bool.and_eq_true,Bool.and_eq_true]
        have e1 : (normKe x).at_ = x.at_ := rfl
        have e2 : (normKe x).e = normEd x.e := rfl
        rw [e1,e2,normEd_kind]
        exact ⟨⟨hr.1.1,ihk x (hs x (by simp)) _ hr.1.2⟩,ih _ (fun y hy => hs y (by simp [hy])) hr.2⟩
    exact this ks _ (fun x hx => hx) R.kok
  · refine rightOs_all.2 fun y hy => ?_
    obtain ⟨x,hx,rfl⟩ := List.mem_map.1 hy
    have O := rightO_of (rightOs_all.1 R.ook x hx)
    have hl : 2≤l∧l≤9 := R.lst (by
      by_cases q : k = 3
      · exact q
      · rw [(R.three q).2] at hx; cases hx)
    refine rightO_to ⟨O.k0,O.k3,fun q => ?_,O.nn,fun q => ?_,fun q => ?_,fun q => ?_⟩
    · obtain ⟨a,b,c⟩ := O.keep q
      exact ⟨a,b,by show x.l.map norm = []; rw [c]; rfl⟩
    · show normEd x.e = E0
      rw [O.same q,normEd_E0]
    · obtain ⟨a,b⟩ := O.some q
      refine ⟨fun e => a (List.map_eq_nil_iff.1 e),fun t ht => ?_⟩
      obtain ⟨u,hu,rfl⟩ := List.mem_map.1 ht
      have := right_norm _ _ (b u hu)
      rw [norm_mk,if_neg (by omega),if_neg (by omega)] at this
      exact this
    · obtain ⟨a,b,c,e,f⟩ := O.down q
      refine ⟨by show x.l.map norm = []; rw [a]; rfl,by show (normEd x.e).kind ≠ 0; rw [normEd_kind]; exact b,c,iho x hx _ e,?_⟩
      have g : ∀ y : E,opFit l (.mk x.kind x.n x.l y) = (decide (l = 8) || decide (y.kind = 2) || decide (y.kind = 1) && decide (y.old.kind = 1) && decide (y.new.kind = 1)) := fun y => rfl
      have f' : opFit l (.mk x.kind x.n x.l x.e) = true := f
      have e' : opFit l (.mk x.kind x.n x.l (normEd x.e)) = true := by
        rw [g] at f' ⊢
        generalize x.e = y at f'
        obtain ⟨ek,eo,en,ew,eks,el,eos⟩ := y
        rw [normEd_mk]
        show (decide (l = 8) || decide (ek = 2) || decide (ek = 1) && decide ((norm eo).kind = 1) && decide ((norm en).kind = 1)) = true
        rw [norm_kind,norm_kind]
        exact f'
      exact e'
theorem rowT'_normEq {a b : List T} (h : a.map norm = b.map norm) : norm (rowT' a) = norm (rowT' b) := by
  cases a with
  | nil =>
    cases b with
    | nil => rfl
    | cons y b => simp at h
  | cons x a =>
    cases b with
    | nil => simp at h
    | cons y b =>
      rw [rowT'_cons,rowT'_cons,norm_mk,norm_mk]
      simp only [if_neg (show ¬ (9 : Int) = 0 by decide),if_neg (show ¬ (9 : Int) = 1 by decide)]
      rw [h]
theorem norm_one_eq {w : List Int} {a b : List T} (h : a.map norm = b.map norm) : norm (.mk 1 w a) = norm (.mk 1 w b) := by
  rw [norm_mk,norm_mk,h]
theorem tree_normEd : ∀ (e : E),norm (treeE (normEd e)) = norm (treeE e) := by
  refine E.ind fun k o n ws ks l os ihk iho => ?_
  rw [normEd_mk,treeE_mk,treeE_mk]
  split
  · rfl
  split
  · exact norm_one_eq (by simp [norm_norm])
  split
  · refine norm_one_eq ?_
    simp only [List.map_cons,List.map_nil]
    rw [rowT'_normEq (a := treeKs (ks.map normKe)) (b := treeKs ks)]
    rw [treeKs_map,treeKs_map,List.map_map,List.map_map,List.map_map]
    refine List.map_congr_left fun x hx => ?_
    exact norm_one_eq (by simpa [normKe] using ihk x hx)
  · refine norm_one_eq ?_
    simp only [List.map_cons,List.map_nil]
    rw [rowT'_normEq (a := treeOs l (os.map normOp)) (b := treeOs l os)]
    rw [treeOs_map,treeOs_map,List.map_map,List.map_map,List.map_map]
    refine List.map_congr_left fun x hx => ?_
    have := iho x hx
    obtain ⟨xk,xn,xl,xe⟩ := x
    have e1 : ((norm ∘ treeO l) ∘ normOp) (OP.mk xk xn xl xe) = norm (.mk 1 [u64m (xk + 256 * xn)] (if xk = 3 then [treeE (normEd xe)] else if xk > 0 then [.mk l [] (xl.map norm)] else [])) := rfl
    have e2 : (norm ∘ treeO l) (OP.mk xk xn xl xe) = norm (.mk 1 [u64m (xk + 256 * xn)] (if xk = 3 then [treeE xe] else if xk > 0 then [.mk l [] xl] else [])) := rfl
    rw [e1,e2]
    refine norm_one_eq ?_
    by_cases q : xk = 3
    · rw [if_pos q,if_pos q]
      simpa using this
    · rw [if_neg q,if_neg q]
      split
      · simp only [List.map_cons,List.map_nil]
        rw [norm_mk,norm_mk,List.map_map,show (norm ∘ norm) = norm from funext norm_norm]
      · rfl
inductive SmT : T→Prop
  | mk (k : Int) (w : List Int) (l : List T) : l.length≤1048576→(∀ t,t ∈ l→SmT t)→SmT (.mk k w l)
theorem SmT.len {t : T} (h : SmT t) : t.kids.length≤1048576 := by cases h; assumption
theorem SmT.kid {t : T} (h : SmT t) : ∀ c,c ∈ t.kids→SmT c := by cases h; assumption
theorem sm_T0 : SmT T0 := .mk _ _ _ (Nat.zero_le _) (fun t h => by cases h)
theorem SmT.kd {t : T} (h : SmT t) (i : Nat) : SmT (kdT t i) := by
  unfold kdT
  rw [List.getD_eq_getElem?_getD]
  cases e : t.kids[i]? with
  | none => exact sm_T0
  | some x => exact h.kid x (List.mem_of_getElem? e)
theorem sm_right : ∀ (t : T) (d : Nat),rightT d t = true→SmT t := by
  refine T.ind fun k w l ih d h => ?_
  have hk := rightT_struct h
  rw [rightT_mk] at h
  refine .mk _ _ _ ?_ fun t ht => ih t ht _ (hk t ht).1
  by_cases h0 : k = 0
  · rw [if_pos h0] at h; simp at h; rw [h.2]; exact Nat.zero_le _
  rw [if_neg h0] at h
  by_cases h10 : k = 10
  · rw [if_pos h10] at h; simp at h; rw [h.2]; exact Nat.zero_le _
  rw [if_neg h10] at h
  split at h
  · cases h
  · rename_i hb
    simp [tooBig] at hb
    omega
theorem sat_le {n : Int} : sat n≤1048576 := by unfold sat; split <;> omega
theorem lengths_mono : ∀ (os : List OP) (n m : Int),(∀ x,x ∈ os→0≤opLen x)→n≤1048576→m≤1048576→n≤(lengths n m os).1∧m≤(lengths n m os).2
  | [],n,m,_,_,_ => ⟨Int.le_refl _,Int.le_refl _⟩
  | x :: os,n,m,h,hn,hm => by
    have h0 := h x (by simp)
    rw [lengths]
    have := lengths_mono os (sat (if x.kind ≠ 2 then n + opLen x else n)) (sat (if x.kind ≠ 1 then m + opLen x else m)) (fun y hy => h y (by simp [hy])) sat_le sat_le
    have a : n≤sat (if x.kind ≠ 2 then n + opLen x else n) := by unfold sat; split <;> split <;> omega
    have b : m≤sat (if x.kind ≠ 1 then m + opLen x else m) := by unfold sat; split <;> split <;> omega
    omega
theorem lengths_each (os : List OP) : ∀ (n m : Int),(∀ x,x ∈ os→0≤opLen x)→0≤n→n≤1048576→0≤m→m≤1048576→(lengths n m os).1 < 1048576→(lengths n m os).2 < 1048576→∀ x,x ∈ os→opLen x < 1048576 := by
  induction os with
  | nil => intro n m _ _ _ _ _ _ _ x hx; cases hx
  | cons y os ih =>
    intro n m h n0 n1 m0 m1 g1 g2 x hx
    have h0 := h y (by simp)
    rw [lengths] at g1 g2
    have mono := lengths_mono os (sat (if y.kind ≠ 2 then n + opLen y else n)) (sat (if y.kind ≠ 1 then m + opLen y else m)) (fun z hz => h z (by simp [hz])) sat_le sat_le
    have a : 0≤sat (if y.kind ≠ 2 then n + opLen y else n) := by unfold sat; split <;> split <;> omega
    have b : 0≤sat (if y.kind ≠ 1 then m + opLen y else m) := by unfold sat; split <;> split <;> omega
    rcases List.mem_cons.1 hx with rfl | hx
    · by_cases k2 : x.kind = 2
      · have e : sat (if x.kind ≠ 1 then m + opLen x else m) = sat (m + opLen x) := by rw [if_pos (by omega)]
        have : sat (m + opLen x) < 1048576 := by rw [← e]; omega
        unfold sat at this
        split at this <;> omega
      · have e : sat (if x.kind ≠ 2 then n + opLen x else n) = sat (n + opLen x) := by rw [if_pos k2]
        have : sat (n + opLen x) < 1048576 := by rw [← e]; omega
        unfold sat at this
        split at this <;> omega
    · exact ih _ _ (fun z hz => h z (by simp [hz])) a sat_le b sat_le g1 g2 x hx
end Go.PL

namespace Go.Proofs.YthfiijdbnkaabaaGreat
set_option linter.unusedVariables false
set_option linter.unusedSimpArgs false
set_option maxRecDepth 20000
open Go Go.G Go.Proofs
@[simp] theorem zeroT_30 : zeroT Tryz.prog 30 = some (Value.agg #[Value.int IntKind.i64 0,Value.int IntKind.i64 0,Value.slice none 0 0,Value.slice none 0 0,Value.int IntKind.i64 0,Value.slice none 0 0,Value.slice none 0 0,Value.slice none 0 0,Value.slice none 0 0,Value.int IntKind.i64 0,Value.slice none 0 0]) := by kernel_rfl
@[simp] theorem fieldOffT_88_0 : fieldOffT Tryz.prog 88 0 = some 0 := by kernel_rfl
@[simp] theorem fieldOffT_98_0 : fieldOffT Tryz.prog 98 0 = some 0 := by kernel_rfl
@[simp] theorem fieldOffT_98_1 : fieldOffT Tryz.prog 98 1 = some 1 := by kernel_rfl
@[simp] theorem buildA_63 (ps : List (Nat × A)) : buildA Tryz.prog 63 ps = (fillA (fun i => ([(0,1),(1,1),(2,1),(3,1)] : List (Nat × Nat))[i]?) [A.v (Value.int IntKind.i64 0),A.v (Value.int IntKind.u8 0),A.v (Value.int IntKind.u64 0),A.v (Value.int IntKind.u64 0)] ps).map A.agg := by kernel_rfl
@[simp] theorem buildA_66 (ps : List (Nat × A)) : buildA Tryz.prog 66 ps = (fillA (fun i => ([(0,1),(1,11)] : List (Nat × Nat))[i]?) [A.v (Value.int IntKind.i64 0),A.v (Value.int IntKind.i64 0),A.v (Value.int IntKind.i64 0),A.sl true [],A.sl true [],A.v (Value.int IntKind.i64 0),A.sl true [],A.sl true [],A.sl true [],A.sl true [],A.v (Value.int IntKind.i64 0),A.sl true []] ps).map A.agg := by kernel_rfl
@[simp] theorem buildA_69 (ps : List (Nat × A)) : buildA Tryz.prog 69 ps = (fillA (fun i => ([(0,1),(1,1),(2,1),(3,11)] : List (Nat × Nat))[i]?) [A.v (Value.int IntKind.i64 0),A.v (Value.int IntKind.i64 0),A.sl true [],A.v (Value.int IntKind.i64 0),A.v (Value.int IntKind.i64 0),A.sl true [],A.sl true [],A.v (Value.int IntKind.i64 0),A.sl true [],A.sl true [],A.sl true [],A.sl true [],A.v (Value.int IntKind.i64 0),A.sl true []] ps).map A.agg := by kernel_rfl
@[simp] theorem buildA_88 (ps : List (Nat × A)) : buildA Tryz.prog 88 ps = (fillA (fun i => ([(0,1)] : List (Nat × Nat))[i]?) [A.sl true []] ps).map A.agg := by kernel_rfl
@[simp] theorem buildA_98 (ps : List (Nat × A)) : buildA Tryz.prog 98 ps = (fillA (fun i => ([(0,1),(1,1)] : List (Nat × Nat))[i]?) [A.v (Value.int IntKind.i64 0),A.v (Value.int IntKind.i64 0)] ps).map A.agg := by kernel_rfl
@[simp] theorem eqA_63 (x0 y0 : Int) (x1 y1 : Int) (x2 y2 : Int) (x3 y3 : Int) : eqA Tryz.prog 100 63 (.agg [A.v (.int .i64 x0),A.v (.int .u8 x1),A.v (.int .u64 x2),A.v (.int .u64 x3)]) (.agg [A.v (.int .i64 y0),A.v (.int .u8 y1),A.v (.int .u64 y2),A.v (.int .u64 y3)]) = some (((x0 == y0) && ((x1 == y1) && ((x2 == y2) && ((x3 == y3) && (true)))))) := by kernel_rfl
@[simp] theorem eqG_63 : Tryz.prog.eqGuardType Tryz.prog.depth 63 = false := by kernel_rfl
@[simp] theorem fieldT_25_2 : fieldT Tryz.prog 25 2 = some (23,2) := by kernel_rfl
def c_word_Fits : CC := sR [oO 4 (.assign (nB false))] [0,1] (sR [mO 8 0,oO 9 (cL 133 #[(xT 8)] #[3]),mO 7 9,xO 10 7 0,xO 11 7 1,aO 5 10,aO 6 11] [1,5,6] (sR [mO 12 6,mO 13 12,oG 14 (mV 5) 13 true,oG 15 (.binOp .eql 3 (xT 14) (nI 64) 3) 13 true,oG 16 (mV 15) 13 true,oG 17 (mV 1) 16 false,oG 18 (mV 5) 16 false,oG 19 (bO .shr 60 17 18 3) 16 false,oG 20 (.binOp .eql 60 (xT 19) (.const (.int .u64 0)) 60) 16 false,oG 21 (.pick (xT 16) (nB true) (xT 20)) 13 true,oO 22 (.pick (xT 13) (xT 21) (nB false)),aO 4 22] [4] (.ret)))
theorem t_word_Fits : Txt Tryz.prog 134 23 [(.tmp 4)] c_word_Fits := txt_of (code := Tryz.f134.body.getD .ret) mixed (by kernel_rfl) Tryz.func134 (by kernel_rfl) Tryz.ntmps134 (by kernel_rfl) (ls := lsOf c_word_Fits) (by kernel_rfl)
def l1_word_Put : CC := sR [oO 26 (bO .lss 3 25 24 3)] [0,6,8,23,24,25,26] (.seq (cD 26 (.skip) (.exit 0)) (.keep [0,6,8,23,24,25] (.seq (.block 1 (sR [mO 27 25,oO 28 (iA 22 23 25),lO 29 60 28,aO 9 27,aO 10 29] [0,6,8,9,10,23,24,25] (.seq (sR [mO 30 0,mO 31 10,oO 32 (cL 134 #[(xT 30),(xT 31)] #[3,60]),oO 33 (.unOp .not 4 (xT 32))] [0,6,8,9,10,23,24,25,33] (cD 33 (sR [oO 4 (.assign nS),oO 5 (.assign (nB false))] [4,5] (.ret)) (.skip))) (.keep [0,6,8,9,10,23,24,25] (sR [mO 34 6,oO 35 (.binOp .gtr 3 (xT 34) (nI 0) 3)] [0,6,8,9,10,23,24,25,35] (cD 35 (.reg [mO 36 8,mO 37 9,mO 38 6,oO 39 (bO .mul 3 37 38 3),oO 40 (.binOp .quo 3 (xT 39) (nI 64) 3),oO 41 (iA 22 36 40),lO 42 60 41,mO 43 10,mO 44 9,mO 45 6,oO 46 (bO .mul 3 44 45 3),oO 47 (.binOp .rem 3 (xT 46) (nI 64) 3),oO 48 (bO .shl 60 43 47 3),oO 49 (bO .or 60 42 48 60),oO 50 (iA 22 36 40),oS (.store 60 (xT 50) (xT 49))] [0,6,8,23,24,25]) (.skip))))))) (.keep [0,6,8,23,24,25] (.reg [oO 51 (.binOp .add 3 (xT 25) (nI 1) 3),mO 25 51] [0,6,8,23,24,25]))))) 
def c_word_Put : CC := sR [oO 4 (.assign nS),oO 5 (.assign (nB false))] [0,1] (sR [mO 12 0,oO 13 (cL 133 #[(xT 12)] #[3]),mO 11 13,xO 14 11 0,xO 15 11 1,aO 6 14,aO 7 15] [0,1,6,7] (.seq (sR [mO 16 7,oO 17 (.unOp .not 4 (xT 16))] [0,1,6,17] (cD 17 (sR [oO 4 (.assign nS),oO 5 (.assign (nB false))] [4,5] (.ret)) (.skip))) (.keep [0,1,6] (sR [mO 18 0,mO 19 1,oO 20 (bL 19 22),oO 21 (cL 130 #[(xT 18),(xT 20)] #[3,3]),oN 22 (.makeSlice 22 (xT 21) (xT 21)) [0],aO 8 22] [0,1,6,8] (.seq (sR [mO 23 1,oO 24 (bL 23 22),oO 25 (.move (nI 0))] [0,6,8,23,24,25] (.block 0 (.loop l1_word_Put))) (.keep [8] (sR [mO 52 8,aO 4 52,oO 5 (.assign (nB true))] [4,5] (.ret))))))))
theorem t_word_Put : Txt Tryz.prog 99 53 [(.tmp 4),(.tmp 5)] c_word_Put := txt_of (code := Tryz.f99.body.getD .ret) mixed (by kernel_rfl) Tryz.func99 (by kernel_rfl) Tryz.ntmps99 (by kernel_rfl) (ls := lsOf c_word_Put) (by kernel_rfl)
def c_tree_List : CC := sR [oO 2 (.assign (nB false))] [0] (sR [mO 3 0,oO 4 (.binOp .geq 3 (xT 3) (nI 2) 3),mO 5 4,oG 6 (mV 0) 5 true,oG 7 (.binOp .leq 3 (xT 6) (nI 9) 3) 5 true,oO 8 (.pick (xT 5) (xT 7) (nB false)),aO 2 8] [2] (.ret))
theorem t_tree_List : Txt Tryz.prog 91 9 [(.tmp 2)] c_tree_List := txt_of (code := Tryz.f91.body.getD .ret) mixed (by kernel_rfl) Tryz.func91 (by kernel_rfl) Tryz.ntmps91 (by kernel_rfl) (ls := lsOf c_tree_List) (by kernel_rfl)
def c_tree_kid : CC := sR [oN 3 (.box 25 (xT 1)) [0],oO 4 (.assign (nB false))] [0,3] (.seq (.block 0 (sR [mO 6 0,oO 7 (cL 105 #[(xT 6)] #[3]),aO 5 7] [0,3,5] (cD 5 (sR [fO 8 25 3 0,lO 9 3 8,oO 10 (.binOp .eql 3 (xT 9) (nI 10) 3),mO 11 10,oG 12 (fA 25 3 2) 11 true,oG 13 (lD 23 12) 11 true,oG 14 (bL 13 23) 11 true,oG 15 (.binOp .eql 3 (xT 14) (nI 0) 3) 11 true,oO 16 (.pick (xT 11) (xT 15) (nB false)),mO 17 16,oG 18 (fA 25 3 1) 17 true,oG 19 (lD 22 18) 17 true,oG 20 (bL 19 22) 17 true,oG 21 (.binOp .eql 3 (xT 20) (nI 1) 3) 17 true,oO 22 (.pick (xT 17) (xT 21) (nB false)),mO 23 22,oG 24 (mV 0) 23 true,oG 25 (.binOp .sub 3 (xT 24) (nI 2) 3) 23 true,oG 26 (fA 25 3 1) 23 true,oG 27 (lD 22 26) 23 true,oG 28 (.indexAddr 22 (xT 27) (nI 0)) 23 true,oG 29 (lD 60 28) 23 true,oG 30 (cL 134 #[(xT 25),(xT 29)] #[3,60]) 23 true,oO 31 (.pick (xT 23) (xT 30) (nB false)),aO 4 31] [4] (.ret)) (sR [mO 33 0,oO 34 (.binOp .eql 3 (xT 33) (nI 9) 3),aO 32 34] [3,32] (cD 32 (sR [fO 35 25 3 0,lO 36 3 35,oO 37 (.binOp .eql 3 (xT 36) (nI 1) 3),aO 4 37] [4] (.ret)) (.skip)))))) (.keep [3] (sR [fO 38 25 3 0,lO 39 3 38,oO 40 (.binOp .neq 3 (xT 39) (nI 10) 3),aO 4 40] [4] (.ret))))
theorem t_tree_kid : Txt Tryz.prog 129 41 [(.tmp 4)] c_tree_kid := txt_of (code := Tryz.f129.body.getD .ret) mixed (by kernel_rfl) Tryz.func129 (by kernel_rfl) Tryz.ntmps129 (by kernel_rfl) (ls := lsOf c_tree_kid) (by kernel_rfl)
def k1_tree_right : CC := sR [mO 87 7,oO 88 (.unOp .not 4 (xT 87)),mO 89 88,oG 90 (lD 25 6) 89 false,oG 91 (mV 1) 89 false,oG 92 (.binOp .sub 3 (xT 91) (nI 1) 3) 89 false,oG 93 (cL 93 #[(xT 90),(xT 92)] #[25,3]) 89 false,oG 94 (.unOp .not 4 (xT 93)) 89 false,oO 95 (.pick (xT 89) (nB true) (xT 94))] [1,2,71,72,73,95] (cD 95 (sR [oO 4 (.assign (nB false))] [4] (.ret)) (.skip))
def l1_tree_right : CC := sR [oO 74 (bO .lss 3 73 72 3)] [1,2,71,72,73,74] (.seq (cD 74 (.skip) (.exit 1)) (.keep [1,2,71,72,73] (.seq (.block 2 (sR [oO 75 (iA 23 71 73),lO 76 25 75,oN 6 (.alloc 25) [1],oS (.store 25 (xT 6) (xT 76))] [1,2,6,71,72,73] (sR [fO 77 25 6 0,lO 78 3 77,oO 79 (.binOp .neq 3 (xT 78) (nI 10) 3),aO 7 79] [1,2,6,7,71,72,73] (.seq (sR [fO 80 25 2 0,lO 81 3 80,oO 82 (.binOp .neq 3 (xT 81) (nI 1) 3)] [1,2,6,7,71,72,73,82] (cD 82 (.reg [fO 83 25 2 0,lO 84 3 83,lO 85 25 6,oO 86 (cL 129 #[(xT 84),(xT 85)] #[3,25]),aO 7 86] [1,2,6,7,71,72,73]) (.skip))) (.keep [1,2,6,7,71,72,73] k1_tree_right))))) (.keep [1,2,71,72,73] (.reg [oO 96 (.binOp .add 3 (xT 73) (nI 1) 3),mO 73 96] [1,2,71,72,73])))))
def k2_tree_right : CC := .seq (sR [fO 70 25 2 2,lO 71 23 70,oO 72 (bL 71 23),oO 73 (.move (nI 0))] [1,2,71,72,73] (.block 1 (.loop l1_tree_right))) (.keep [] (sR [oO 4 (.assign (nB true))] [4] (.ret))) 
def c_tree_right : CC := sR [oN 2 (.box 25 (xT 0)) [0],oO 4 (.assign (nB false))] [1,2] (.seq (.block 0 (sR [fO 9 25 2 0,lO 10 3 9,oO 11 (.binOp .eql 3 (xT 10) (nI 0) 3),aO 8 11] [1,2,8] (cD 8 (sR [fO 12 25 2 1,lO 13 22 12,oO 14 (bL 13 22),oO 15 (.binOp .eql 3 (xT 14) (nI 0) 3),mO 16 15,oG 17 (fA 25 2 2) 16 true,oG 18 (lD 23 17) 16 true,oG 19 (bL 18 23) 16 true,oG 20 (.binOp .eql 3 (xT 19) (nI 0) 3) 16 true,oO 21 (.pick (xT 16) (xT 20) (nB false)),aO 4 21] [4] (.ret)) (sR [fO 23 25 2 0,lO 24 3 23,oO 25 (.binOp .eql 3 (xT 24) (nI 10) 3),aO 22 25] [1,2,22] (cD 22 (sR [fO 26 25 2 1,lO 27 22 26,oO 28 (bL 27 22),oO 29 (.binOp .eql 3 (xT 28) (nI 1) 3),mO 30 29,oG 31 (fA 25 2 2) 30 true,oG 32 (lD 23 31) 30 true,oG 33 (bL 32 23) 30 true,oG 34 (.binOp .eql 3 (xT 33) (nI 0) 3) 30 true,oO 35 (.pick (xT 30) (xT 34) (nB false)),aO 4 35] [4] (.ret)) (sR [mO 37 1,oO 38 (.binOp .eql 3 (xT 37) (nI 0) 3),aO 36 38] [1,2,36] (cD 36 (sR [oO 4 (.assign (nB false))] [4] (.ret)) (sR [fO 40 25 2 0,lO 41 3 40,oO 42 (.binOp .eql 3 (xT 41) (nI 1) 3),aO 39 42] [1,2,39] (cD 39 (sR [fO 43 25 2 1,lO 44 22 43,oO 45 (bL 44 22),oO 46 (.binOp .geq 3 (xT 45) (nI 65536) 3),mO 47 46,oG 48 (fA 25 2 2) 47 false,oG 49 (lD 23 48) 47 false,oG 50 (bL 49 23) 47 false,oG 51 (.binOp .geq 3 (xT 50) (nI 65536) 3) 47 false,oO 52 (.pick (xT 47) (nB true) (xT 51))] [1,2,52] (cD 52 (sR [oO 4 (.assign (nB false))] [4] (.ret)) (.skip))) (sR [fO 54 25 2 0,lO 55 3 54,oO 56 (cL 91 #[(xT 55)] #[3]),oO 57 (.unOp .not 4 (xT 56)),mO 58 57,oG 59 (fA 25 2 1) 58 false,oG 60 (lD 22 59) 58 false,oG 61 (bL 60 22) 58 false,oG 62 (.binOp .gtr 3 (xT 61) (nI 0) 3) 58 false,oO 63 (.pick (xT 58) (nB true) (xT 62)),mO 64 63,oG 65 (fA 25 2 2) 64 false,oG 66 (lD 23 65) 64 false,oG 67 (bL 66 23) 64 false,oG 68 (.binOp .geq 3 (xT 67) (nI 1048576) 3) 64 false,oO 69 (.pick (xT 64) (nB true) (xT 68)),aO 53 69] [1,2,53] (cD 53 (sR [oO 4 (.assign (nB false))] [4] (.ret)) (.skip)))))))))))) (.keep [1,2] k2_tree_right))
theorem t_tree_right : Txt Tryz.prog 93 97 [(.tmp 4)] c_tree_right := txt_of (code := Tryz.f93.body.getD .ret) mixed (by kernel_rfl) Tryz.func93 (by kernel_rfl) Tryz.ntmps93 (by kernel_rfl) (ls := lsOf c_tree_right) (by kernel_rfl)
def c_tree_Right : CC := sR [oN 1 (.box 25 (xT 0)) [0],oO 2 (.assign (nB false))] [1] (sR [lO 3 25 1,oO 4 (cL 93 #[(xT 3),(nI 64)] #[25,3]),aO 2 4] [2] (.ret))
theorem t_tree_Right : Txt Tryz.prog 58 5 [(.tmp 2)] c_tree_Right := txt_of (code := Tryz.f58.body.getD .ret) mixed (by kernel_rfl) Tryz.func58 (by kernel_rfl) Tryz.ntmps58 (by kernel_rfl) (ls := lsOf c_tree_Right) (by kernel_rfl)
def l1_slices_Equal_uint64_uint64 : CC := sR [oO 14 (bO .lss 3 13 12 3)] [0,1,12,13,14] (.seq (cD 14 (.skip) (.exit 0)) (.keep [0,1,12,13] (.seq (.block 1 (sR [mO 15 13,aO 5 15] [0,1,5,12,13] (sR [mO 16 0,mO 17 5,oO 18 (iA 22 16 17),lO 19 60 18,mO 20 1,mO 21 5,oO 22 (iA 22 20 21),lO 23 60 22,oO 24 (bO .neq 60 19 23 60)] [0,1,12,13,24] (cD 24 (sR [oO 4 (.assign (nB false))] [4] (.ret)) (.skip))))) (.keep [0,1,12,13] (.reg [oO 25 (.binOp .add 3 (xT 13) (nI 1) 3),mO 13 25] [0,1,12,13]))))) 
def c_slices_Equal_uint64_uint64 : CC := sR [oO 4 (.assign (nB false))] [0,1] (.seq (sR [mO 6 0,oO 7 (bL 6 22),mO 8 1,oO 9 (bL 8 22),oO 10 (bO .neq 3 7 9 3)] [0,1,10] (cD 10 (sR [oO 4 (.assign (nB false))] [4] (.ret)) (.skip))) (.keep [0,1] (.seq (sR [mO 11 0,oO 12 (bL 11 22),oO 13 (.move (nI 0))] [0,1,12,13] (.block 0 (.loop l1_slices_Equal_uint64_uint64))) (.keep [] (sR [oO 4 (.assign (nB true))] [4] (.ret))))))
theorem t_slices_Equal_uint64_uint64 : Txt Tryz.prog 74 26 [(.tmp 4)] c_slices_Equal_uint64_uint64 := txt_of (code := Tryz.f74.body.getD .ret) mixed (by kernel_rfl) Tryz.func74 (by kernel_rfl) Tryz.ntmps74 (by kernel_rfl) (ls := lsOf c_slices_Equal_uint64_uint64) (by kernel_rfl)
def l1_tree_Equal : CC := sR [oO 50 (bO .lss 3 49 48 3)] [2,3,48,49,50] (.seq (cD 50 (.skip) (.exit 0)) (.keep [2,3,48,49] (.seq (.block 1 (sR [mO 51 49,aO 5 51] [2,3,5,48,49] (sR [lO 52 25 2,mO 53 5,⟨some 54,(cL 70 #[(xT 52),(xT 53)] #[25,3]),none,[],2,[],true⟩,⟨some 55,(lD 25 3),none,[],3,[2],false⟩,mO 56 5,oO 57 (cL 70 #[(xT 55),(xT 56)] #[25,3]),oO 58 (bO .neq 60 54 57 60)] [2,3,48,49,58] (cD 58 (sR [oO 4 (.assign (nB false))] [4] (.ret)) (.skip))))) (.keep [2,3,48,49] (.reg [oO 59 (.binOp .add 3 (xT 49) (nI 1) 3),mO 49 59] [2,3,48,49])))))
def l2_tree_Equal : CC := sR [oO 68 (bO .lss 3 67 66 3)] [2,3,66,67,68] (.seq (cD 68 (.skip) (.exit 2)) (.keep [2,3,66,67] (.seq (.block 3 (sR [mO 69 67,aO 6 69] [2,3,6,66,67] (sR [lO 70 25 2,mO 71 6,⟨some 72,(cL 72 #[(xT 70),(xT 71)] #[25,3]),none,[],2,[],true⟩,⟨some 73,(lD 25 3),none,[],3,[2],false⟩,mO 74 6,oO 75 (cL 72 #[(xT 73),(xT 74)] #[25,3]),oO 76 (cL 41 #[(xT 72),(xT 75)] #[25,25]),oO 77 (.unOp .not 4 (xT 76))] [2,3,66,67,77] (cD 77 (sR [oO 4 (.assign (nB false))] [4] (.ret)) (.skip))))) (.keep [2,3,66,67] (.reg [oO 78 (.binOp .add 3 (xT 67) (nI 1) 3),mO 67 78] [2,3,66,67])))))
def k1_tree_Equal : CC := .seq (sR [fO 42 25 2 1,lO 43 22 42,oO 44 (bL 43 22),fO 45 25 3 1,lO 46 22 45,oO 47 (bL 46 22),oO 48 (bC .max #[(xT 44),(xT 47)] #[3,3]),oO 49 (.move (nI 0))] [2,3,48,49] (.block 0 (.loop l1_tree_Equal))) (.keep [2,3] (.seq (sR [fO 60 25 2 2,lO 61 23 60,oO 62 (bL 61 23),fO 63 25 3 2,lO 64 23 63,oO 65 (bL 64 23),oO 66 (bC .max #[(xT 62),(xT 65)] #[3,3]),oO 67 (.move (nI 0))] [2,3,66,67] (.block 2 (.loop l2_tree_Equal))) (.keep [] (sR [oO 4 (.assign (nB true))] [4] (.ret))))) 
def c_tree_Equal : CC := sR [oN 2 (.box 25 (xT 0)) [0],oN 3 (.box 25 (xT 1)) [1],oO 4 (.assign (nB false))] [2,3] (.seq (sR [fO 7 25 2 0,lO 8 3 7,fO 9 25 3 0,lO 10 3 9,oO 11 (bO .neq 3 8 10 3),mO 12 11,oG 13 (fA 25 2 0) 12 false,oG 14 (lD 3 13) 12 false,oG 15 (.binOp .eql 3 (xT 14) (nI 0) 3) 12 false,oO 16 (.pick (xT 12) (nB true) (xT 15))] [2,3,16] (cD 16 (sR [fO 17 25 2 0,lO 18 3 17,fO 19 25 3 0,lO 20 3 19,oO 21 (bO .eql 3 18 20 3),aO 4 21] [4] (.ret)) (.skip))) (.keep [2,3] (.seq (sR [fO 22 25 2 0,lO 23 3 22,oO 24 (.binOp .neq 3 (xT 23) (nI 1) 3),mO 25 24,oG 26 (fA 25 2 2) 25 true,oG 27 (lD 23 26) 25 true,oG 28 (bL 27 23) 25 true,oG 29 (fA 25 3 2) 25 true,oG 30 (lD 23 29) 25 true,oG 31 (bL 30 23) 25 true,oG 32 (bO .neq 3 28 31 3) 25 true,oG 33 (mV 32) 25 true,oG 34 (fA 25 2 1) 33 false,oG 35 (lD 22 34) 33 false,oG 36 (fA 25 3 1) 33 false,oG 37 (lD 22 36) 33 false,oG 38 (cL 74 #[(xT 35),(xT 37)] #[22,22]) 33 false,oG 39 (.unOp .not 4 (xT 38)) 33 false,oG 40 (.pick (xT 33) (nB true) (xT 39)) 25 true,oO 41 (.pick (xT 25) (xT 40) (nB false))] [2,3,41] (cD 41 (sR [oO 4 (.assign (nB false))] [4] (.ret)) (.skip))) (.keep [2,3] (.stop k1_tree_Equal)))))
theorem t_tree_Equal : Txt Tryz.prog 41 79 [(.tmp 4)] c_tree_Equal := txt_of (code := Tryz.f41.body.getD .ret) mixed (by kernel_rfl) Tryz.func41 (by kernel_rfl) Tryz.ntmps41 (by kernel_rfl) (ls := lsOf c_tree_Equal) (by kernel_rfl)
def c_edit_bare_1 : CC := sR [oN 1 (.box 25 (xT 0)) [0],oO 2 (.assign (nB false))] [1] (sR [fO 3 25 1 0,lO 4 3 3,oO 5 (.binOp .eql 3 (xT 4) (nI 0) 3),mO 6 5,oG 7 (fA 25 1 1) 6 true,oG 8 (lD 22 7) 6 true,oG 9 (bL 8 22) 6 true,oG 10 (fA 25 1 2) 6 true,oG 11 (lD 23 10) 6 true,oG 12 (bL 11 23) 6 true,oG 13 (bO .add 3 9 12 3) 6 true,oG 14 (.binOp .eql 3 (xT 13) (nI 0) 3) 6 true,oO 15 (.pick (xT 6) (xT 14) (nB false)),aO 2 15] [2] (.ret))
theorem t_edit_bare_1 : Txt Tryz.prog 125 16 [(.tmp 2)] c_edit_bare_1 := txt_of (code := Tryz.f125.body.getD .ret) mixed (by kernel_rfl) Tryz.func125 (by kernel_rfl) Tryz.ntmps125 (by kernel_rfl) (ls := lsOf c_edit_bare_1) (by kernel_rfl)
def c_edit_bare : CC := sR [oN 1 (.box 30 (xT 0)) [0],oO 2 (.assign (nB false))] [1] (sR [oO 3 (.assign (.func 125))] [1,3] (.seq (.block 0 (sR [fO 5 30 1 0,lO 6 3 5,oO 7 (.binOp .neq 3 (xT 6) (nI 1) 3),mO 8 7,oG 9 (mV 3) 8 true,oG 10 (fA 30 1 1) 8 true,oG 11 (lD 25 10) 8 true,oG 12 (.call { callee := (.value (xT 9)),args := #[(xT 11)],argTypes := #[25] }) 8 true,oG 13 (mV 12) 8 true,oG 14 (mV 3) 13 true,oG 15 (fA 30 1 2) 13 true,oG 16 (lD 25 15) 13 true,oG 17 (.call { callee := (.value (xT 14)),args := #[(xT 16)],argTypes := #[25] }) 13 true,oG 18 (.pick (xT 13) (xT 17) (nB false)) 8 true,oG 19 (.unOp .not 4 (xT 18)) 8 true,oO 20 (.pick (xT 8) (xT 19) (nB false)),aO 4 20] [1,4] (cD 4 (sR [oO 2 (.assign (nB false))] [2] (.ret)) (sR [fO 22 30 1 0,lO 23 3 22,oO 24 (.binOp .neq 3 (xT 23) (nI 2) 3),mO 25 24,oG 26 (fA 30 1 3) 25 true,oG 27 (lD 26 26) 25 true,oG 28 (bL 27 26) 25 true,oG 29 (fA 30 1 4) 25 true,oG 30 (lD 27 29) 25 true,oG 31 (bL 30 27) 25 true,oG 32 (bO .add 3 28 31 3) 25 true,oG 33 (.binOp .gtr 3 (xT 32) (nI 0) 3) 25 true,oO 34 (.pick (xT 25) (xT 33) (nB false)),aO 21 34] [1,21] (cD 21 (sR [oO 2 (.assign (nB false))] [2] (.ret)) (.skip)))))) (.keep [1] (sR [fO 35 30 1 0,lO 36 3 35,oO 37 (.binOp .eql 3 (xT 36) (nI 3) 3),mO 38 37,oG 39 (fA 30 1 5) 38 false,oG 40 (lD 3 39) 38 false,oG 41 (.binOp .eql 3 (xT 40) (nI 0) 3) 38 false,oG 42 (mV 41) 38 false,oG 43 (fA 30 1 6) 42 true,oG 44 (lD 28 43) 42 true,oG 45 (bL 44 28) 42 true,oG 46 (.binOp .eql 3 (xT 45) (nI 0) 3) 42 true,oG 47 (.pick (xT 42) (xT 46) (nB false)) 38 false,oO 48 (.pick (xT 38) (nB true) (xT 47)),aO 2 48] [2] (.ret)))))
theorem t_edit_bare : Txt Tryz.prog 87 49 [(.tmp 2)] c_edit_bare := txt_of (code := Tryz.f87.body.getD .ret) mixed (by kernel_rfl) Tryz.func87 (by kernel_rfl) Tryz.ntmps87 (by kernel_rfl) (ls := lsOf c_edit_bare) (by kernel_rfl)
def c_edit_value : CC := sR [oN 1 (.box 25 (xT 0)) [0],oO 2 (.assign (nB false))] [1] (sR [fO 3 25 1 0,lO 4 3 3,oO 5 (.binOp .neq 3 (xT 4) (nI 10) 3),mO 6 5,oG 7 (lD 25 1) 6 true,oG 8 (cL 58 #[(xT 7)] #[25]) 6 true,oO 9 (.pick (xT 6) (xT 8) (nB false)),aO 2 9] [2] (.ret))
theorem t_edit_value : Txt Tryz.prog 88 10 [(.tmp 2)] c_edit_value := txt_of (code := Tryz.f88.body.getD .ret) mixed (by kernel_rfl) Tryz.func88 (by kernel_rfl) Tryz.ntmps88 (by kernel_rfl) (ls := lsOf c_edit_value) (by kernel_rfl)
def k1_edit_words : CC := sR [fO 40 63 4 2,lO 41 60 40,fO 42 63 4 1,lO 43 5 42,oO 44 (cL 126 #[(xT 41),(.const (.int .u64 0)),(xT 43)] #[60,60,5]),oO 45 (.binOp .neq 60 (xT 44) (.const (.int .u64 0)) 60),mO 46 45,oG 47 (fA 63 4 3) 46 false,oG 48 (lD 60 47) 46 false,oG 49 (fA 63 4 1) 46 false,oG 50 (lD 5 49) 46 false,oG 51 (cL 126 #[(xT 48),(.const (.int .u64 0)),(xT 50)] #[60,60,5]) 46 false,oG 52 (.binOp .neq 60 (xT 51) (.const (.int .u64 0)) 60) 46 false,oO 53 (.pick (xT 46) (nB true) (xT 52))] [0,5,6,7,53] (cD 53 (sR [oO 2 (.assign (nB false))] [2] (.ret)) (.skip))
def l1_edit_words : CC := sR [oO 8 (bO .lss 3 7 6 3)] [0,5,6,7,8] (.seq (cD 8 (.skip) (.exit 0)) (.keep [0,5,6,7] (.seq (.block 1 (sR [mO 9 7,oO 10 (iA 26 5 7),lO 11 63 10,oN 4 (.alloc 63) [0],aO 3 9,oS (.store 63 (xT 4) (xT 11))] [0,3,4,5,6,7] (.seq (sR [fO 12 63 4 0,lO 13 3 12,oO 14 (.binOp .lss 3 (xT 13) (nI 0) 3),mO 15 14,oG 16 (fA 63 4 0) 15 false,oG 17 (lD 3 16) 15 false,oG 18 (.binOp .geq 3 (xT 17) (nI 65535) 3) 15 false,oO 19 (.pick (xT 15) (nB true) (xT 18)),mO 20 19,oG 21 (mV 3) 20 false,oG 22 (.binOp .gtr 3 (xT 21) (nI 0) 3) 20 false,oG 23 (mV 22) 20 false,oG 24 (mV 0) 23 true,oG 25 (mV 3) 23 true,oG 26 (.binOp .sub 3 (xT 25) (nI 1) 3) 23 true,oG 27 (iA 26 24 26) 23 true,oG 28 (fA 63 27 0) 23 true,oG 29 (lD 3 28) 23 true,oG 30 (fA 63 4 0) 23 true,oG 31 (lD 3 30) 23 true,oG 32 (bO .geq 3 29 31 3) 23 true,oG 33 (.pick (xT 23) (xT 32) (nB false)) 20 false,oO 34 (.pick (xT 20) (nB true) (xT 33)),mO 35 34,oG 36 (fA 63 4 1) 35 false,oG 37 (lD 5 36) 35 false,oG 38 (.binOp .eql 5 (xT 37) (.const (.int .u8 0)) 5) 35 false,oO 39 (.pick (xT 35) (nB true) (xT 38))] [0,4,5,6,7,39] (cD 39 (sR [oO 2 (.assign (nB false))] [2] (.ret)) (.skip))) (.keep [0,4,5,6,7] (.stop k1_edit_words))))) (.keep [0,5,6,7] (.reg [oO 54 (.binOp .add 3 (xT 7) (nI 1) 3),mO 7 54] [0,5,6,7]))))) 
def c_edit_words : CC := sR [oO 2 (.assign (nB false))] [0] (.seq (sR [mO 5 0,oO 6 (bL 5 26),oO 7 (.move (nI 0))] [0,5,6,7] (.block 0 (.loop l1_edit_words))) (.keep [] (sR [oO 2 (.assign (nB true))] [2] (.ret))))
theorem t_edit_words : Txt Tryz.prog 89 55 [(.tmp 2)] c_edit_words := txt_of (code := Tryz.f89.body.getD .ret) mixed (by kernel_rfl) Tryz.func89 (by kernel_rfl) Tryz.ntmps89 (by kernel_rfl) (ls := lsOf c_edit_words) (by kernel_rfl)
def l1_edit_kids : CC := sR [oO 10 (bO .lss 3 9 8 3)] [0,1,7,8,9,10] (.seq (cD 10 (.skip) (.exit 0)) (.keep [0,1,7,8,9] (.seq (.block 1 (sR [mO 11 9,oO 12 (iA 27 7 9),lO 13 66 12,oN 6 (.alloc 66) [0],aO 5 11,oS (.store 66 (xT 6) (xT 13))] [0,1,5,6,7,8,9] (sR [fO 14 66 6 0,lO 15 3 14,oO 16 (.binOp .lss 3 (xT 15) (nI 0) 3),mO 17 16,oG 18 (fA 66 6 0) 17 false,oG 19 (lD 3 18) 17 false,oG 20 (.binOp .geq 3 (xT 19) (nI 65535) 3) 17 false,oO 21 (.pick (xT 17) (nB true) (xT 20)),mO 22 21,oG 23 (mV 5) 22 false,oG 24 (.binOp .gtr 3 (xT 23) (nI 0) 3) 22 false,oG 25 (mV 24) 22 false,oG 26 (mV 0) 25 true,oG 27 (mV 5) 25 true,oG 28 (.binOp .sub 3 (xT 27) (nI 1) 3) 25 true,oG 29 (iA 27 26 28) 25 true,oG 30 (fA 66 29 0) 25 true,oG 31 (lD 3 30) 25 true,oG 32 (fA 66 6 0) 25 true,oG 33 (lD 3 32) 25 true,oG 34 (bO .geq 3 31 33 3) 25 true,oG 35 (.pick (xT 25) (xT 34) (nB false)) 22 false,oO 36 (.pick (xT 22) (nB true) (xT 35)),mO 37 36,oG 38 (fA 66 6 1) 37 false,oG 39 (fA 30 38 0) 37 false,oG 40 (lD 3 39) 37 false,oG 41 (.binOp .eql 3 (xT 40) (nI 0) 3) 37 false,oO 42 (.pick (xT 37) (nB true) (xT 41)),mO 43 42,oG 44 (fA 66 6 1) 43 false,oG 45 (lD 30 44) 43 false,oG 46 (mV 1) 43 false,oG 47 (cL 57 #[(xT 45),(xT 46)] #[30,3]) 43 false,oG 48 (.unOp .not 4 (xT 47)) 43 false,oO 49 (.pick (xT 43) (nB true) (xT 48))] [0,1,7,8,9,49] (cD 49 (sR [oO 4 (.assign (nB false))] [4] (.ret)) (.skip))))) (.keep [0,1,7,8,9] (.reg [oO 50 (.binOp .add 3 (xT 9) (nI 1) 3),mO 9 50] [0,1,7,8,9]))))) 
def c_edit_kids : CC := sR [oO 4 (.assign (nB false))] [0,1] (.seq (sR [mO 7 0,oO 8 (bL 7 27),oO 9 (.move (nI 0))] [0,1,7,8,9] (.block 0 (.loop l1_edit_kids))) (.keep [] (sR [oO 4 (.assign (nB true))] [4] (.ret))))
theorem t_edit_kids : Txt Tryz.prog 90 51 [(.tmp 4)] c_edit_kids := txt_of (code := Tryz.f90.body.getD .ret) mixed (by kernel_rfl) Tryz.func90 (by kernel_rfl) Tryz.ntmps90 (by kernel_rfl) (ls := lsOf c_edit_kids) (by kernel_rfl)
def c_edit_kid : CC := sR [oN 3 (.box 25 (xT 1)) [0],oO 4 (.assign (nB false))] [0,3] (sR [mO 5 0,lO 6 25 3,oO 7 (.buildSlice 23 1 #[(0,(xT 6))]),oO 8 (.build 25 #[(0,(xT 5)),(2,(xT 7))]),oO 9 (cL 58 #[(xT 8)] #[25]),aO 4 9] [4] (.ret))
theorem t_edit_kid : Txt Tryz.prog 149 10 [(.tmp 4)] c_edit_kid := txt_of (code := Tryz.f149.body.getD .ret) mixed (by kernel_rfl) Tryz.func149 (by kernel_rfl) Tryz.ntmps149 (by kernel_rfl) (ls := lsOf c_edit_kid) (by kernel_rfl)
def c_edit_within : CC := sR [oN 3 (.box 30 (xT 1)) [0],oO 4 (.assign (nB false))] [0,3] (.seq (.block 0 (sR [mO 6 0,oO 7 (cL 105 #[(xT 6)] #[3]),mO 8 7,oG 9 (fA 30 3 0) 8 false,oG 10 (lD 3 9) 8 false,oG 11 (.binOp .eql 3 (xT 10) (nI 0) 3) 8 false,oO 12 (.pick (xT 8) (nB true) (xT 11)),aO 5 12] [0,3,5] (cD 5 (sR [oO 4 (.assign (nB false))] [4] (.ret)) (sR [mO 14 0,oO 15 (.binOp .eql 3 (xT 14) (nI 8) 3),mO 16 15,oG 17 (fA 30 3 0) 16 false,oG 18 (lD 3 17) 16 false,oG 19 (.binOp .eql 3 (xT 18) (nI 2) 3) 16 false,oO 20 (.pick (xT 16) (nB true) (xT 19)),aO 13 20] [3,13] (cD 13 (sR [oO 4 (.assign (nB true))] [4] (.ret)) (.skip)))))) (.keep [3] (sR [fO 21 30 3 0,lO 22 3 21,oO 23 (.binOp .eql 3 (xT 22) (nI 1) 3),mO 24 23,oG 25 (fA 30 3 1) 24 true,oG 26 (fA 25 25 0) 24 true,oG 27 (lD 3 26) 24 true,oG 28 (.binOp .eql 3 (xT 27) (nI 1) 3) 24 true,oO 29 (.pick (xT 24) (xT 28) (nB false)),mO 30 29,oG 31 (fA 30 3 2) 30 true,oG 32 (fA 25 31 0) 30 true,oG 33 (lD 3 32) 30 true,oG 34 (.binOp .eql 3 (xT 33) (nI 1) 3) 30 true,oO 35 (.pick (xT 30) (xT 34) (nB false)),aO 4 35] [4] (.ret))))
theorem t_edit_within : Txt Tryz.prog 150 36 [(.tmp 4)] c_edit_within := txt_of (code := Tryz.f150.body.getD .ret) mixed (by kernel_rfl) Tryz.func150 (by kernel_rfl) Tryz.ntmps150 (by kernel_rfl) (ls := lsOf c_edit_within) (by kernel_rfl)
def c_edit_op_1 : CC := sR [oN 2 (.box 25 (xT 0)) [0],oO 3 (.assign (nB false))] [1,2] (sR [lO 4 3 1,lO 5 25 2,oO 6 (cL 149 #[(xT 4),(xT 5)] #[3,25]),oO 7 (.unOp .not 4 (xT 6)),aO 3 7] [3] (.ret))
theorem t_edit_op_1 : Txt Tryz.prog 148 8 [(.tmp 3)] c_edit_op_1 := txt_of (code := Tryz.f148.body.getD .ret) mixed (by kernel_rfl) Tryz.func148 (by kernel_rfl) Tryz.ntmps148 (by kernel_rfl) (ls := lsOf c_edit_op_1) (by kernel_rfl)
def l1_slices_IndexFunc_api_Tree_api_Tree : CC := sR [oO 9 (bO .lss 3 8 7 3)] [0,1,7,8,9] (.seq (cD 9 (.skip) (.exit 0)) (.keep [0,1,7,8] (.seq (.block 1 (sR [mO 10 8,aO 5 10] [0,1,5,7,8] (sR [mO 11 1,mO 12 0,mO 13 5,oO 14 (iA 23 12 13),lO 15 25 14,oO 16 (.call { callee := (.value (xT 11)),args := #[(xT 15)],argTypes := #[25] })] [0,1,5,7,8,16] (cD 16 (sR [mO 17 5,aO 4 17] [4] (.ret)) (.skip))))) (.keep [0,1,7,8] (.reg [oO 18 (.binOp .add 3 (xT 8) (nI 1) 3),mO 8 18] [0,1,7,8]))))) 
def c_slices_IndexFunc_api_Tree_api_Tree : CC := sR [oO 4 (.assign (nI 0))] [0,1] (.seq (sR [mO 6 0,oO 7 (bL 6 23),oO 8 (.move (nI 0))] [0,1,7,8] (.block 0 (.loop l1_slices_IndexFunc_api_Tree_api_Tree))) (.keep [] (sR [oO 4 (.assign (.const (.int .i64 (-1))))] [4] (.ret))))
theorem t_slices_IndexFunc_api_Tree_api_Tree : Txt Tryz.prog 161 19 [(.tmp 4)] c_slices_IndexFunc_api_Tree_api_Tree := txt_of (code := Tryz.f161.body.getD .ret) mixed (by kernel_rfl) Tryz.func161 (by kernel_rfl) Tryz.ntmps161 (by kernel_rfl) (ls := lsOf c_slices_IndexFunc_api_Tree_api_Tree) (by kernel_rfl)
def c_slices_ContainsFunc_api_Tree_api_Tree : CC := sR [oO 4 (.assign (nB false))] [0,1] (sR [mO 5 0,mO 6 1,oO 7 (cL 161 #[(xT 5),(xT 6)] #[23,42]),oO 8 (.binOp .geq 3 (xT 7) (nI 0) 3),aO 4 8] [4] (.ret))
theorem t_slices_ContainsFunc_api_Tree_api_Tree : Txt Tryz.prog 147 9 [(.tmp 4)] c_slices_ContainsFunc_api_Tree_api_Tree := txt_of (code := Tryz.f147.body.getD .ret) mixed (by kernel_rfl) Tryz.func147 (by kernel_rfl) Tryz.ntmps147 (by kernel_rfl) (ls := lsOf c_slices_ContainsFunc_api_Tree_api_Tree) (by kernel_rfl)
def k1_edit_op : CC := .seq (sR [fO 42 69 4 1,lO 43 3 42,oO 44 (.binOp .eql 3 (xT 43) (nI 0) 3),mO 45 44,oG 46 (fA 69 4 2) 45 true,oG 47 (lD 23 46) 45 true,oG 48 (bL 47 23) 45 true,oG 49 (.binOp .gtr 3 (xT 48) (nI 0) 3) 45 true,oO 50 (.pick (xT 45) (xT 49) (nB false)),mO 51 50,oG 52 (fA 69 4 3) 51 true,oG 53 (lD 30 52) 51 true,oG 54 (cL 57 #[(xT 53),(nI 1)] #[30,3]) 51 true,oO 55 (.pick (xT 51) (xT 54) (nB false)),mO 56 55,oG 57 (fA 69 4 3) 56 true,oG 58 (fA 30 57 0) 56 true,oG 59 (lD 3 58) 56 true,oG 60 (.binOp .eql 3 (xT 59) (nI 0) 3) 56 true,oO 61 (.pick (xT 56) (xT 60) (nB false)),mO 62 61,oG 63 (fA 69 4 2) 62 true,oG 64 (lD 23 63) 62 true,oG 65 (.makeFunc (.func 148) #[] #[(xT 3)]) 62 true,oG 66 (cL 147 #[(xT 64),(xT 65)] #[23,42]) 62 true,oG 67 (.unOp .not 4 (xT 66)) 62 true,oO 68 (.pick (xT 62) (xT 67) (nB false)),aO 6 68] [6] (.ret)) (.exit 0) 
def c_edit_op : CC := sR [oN 3 (.box 3 (xT 0)) [0],oN 4 (.box 69 (xT 1)) [1],oO 6 (.assign (nB false))] [2,3,4] (.seq (sR [fO 7 69 4 0,lO 8 3 7] [2,3,4,8] (.block 0 (.seq (.block 4 (.seq (.block 3 (.block 2 (.seq (.block 1 (.seq (.seq (sR [oO 10 (.binOp .eql 3 (xT 8) (nI 0) 3),aO 9 10] [2,3,4,8,9] (cD 9 (.exit 1) (.skip))) (.keep [2,3,4,8] (.seq (sR [oO 12 (.binOp .eql 3 (xT 8) (nI 1) 3),aO 11 12] [2,3,4,8,11] (cD 11 (.exit 2) (.skip))) (.keep [2,3,4,8] (.seq (sR [oO 14 (.binOp .eql 3 (xT 8) (nI 2) 3),aO 13 14] [2,3,4,8,13] (cD 13 (.exit 3) (.skip))) (.keep [2,3,4,8] (sR [oO 16 (.binOp .eql 3 (xT 8) (nI 3) 3),aO 15 16] [2,3,4,15] (cD 15 (.exit 4) (.skip))))))))) (.exit 0))) (.keep [4] (.seq (sR [fO 17 69 4 1,lO 18 3 17,oO 19 (.binOp .geq 3 (xT 18) (nI 1) 3),mO 20 19,oG 21 (fA 69 4 1) 20 true,oG 22 (lD 3 21) 20 true,oG 23 (.binOp .leq 3 (xT 22) (nI 1048576) 3) 20 true,oO 24 (.pick (xT 20) (xT 23) (nB false)),mO 25 24,oG 26 (fA 69 4 2) 25 true,oG 27 (lD 23 26) 25 true,oG 28 (bL 27 23) 25 true,oG 29 (.binOp .eql 3 (xT 28) (nI 0) 3) 25 true,oO 30 (.pick (xT 25) (xT 29) (nB false)),mO 31 30,oG 32 (fA 69 4 3) 31 true,oG 33 (lD 30 32) 31 true,oG 34 (cL 57 #[(xT 33),(nI 1)] #[30,3]) 31 true,oO 35 (.pick (xT 31) (xT 34) (nB false)),mO 36 35,oG 37 (fA 69 4 3) 36 true,oG 38 (fA 30 37 0) 36 true,oG 39 (lD 3 38) 36 true,oG 40 (.binOp .eql 3 (xT 39) (nI 0) 3) 36 true,oO 41 (.pick (xT 36) (xT 40) (nB false)),aO 6 41] [6] (.ret)) (.exit 0)))))) (.keep [3,4] (.stop k1_edit_op)))) (.keep [2,3,4] (.seq (sR [fO 69 69 4 1,lO 70 3 69,oO 71 (.binOp .eql 3 (xT 70) (nI 0) 3),mO 72 71,oG 73 (fA 69 4 2) 72 true,oG 74 (lD 23 73) 72 true,oG 75 (bL 74 23) 72 true,oG 76 (.binOp .eql 3 (xT 75) (nI 0) 3) 72 true,oO 77 (.pick (xT 72) (xT 76) (nB false)),mO 78 77,oG 79 (lD 3 3) 78 true,oG 80 (fA 69 4 3) 78 true,oG 81 (lD 30 80) 78 true,oG 82 (cL 150 #[(xT 79),(xT 81)] #[3,30]) 78 true,oO 83 (.pick (xT 78) (xT 82) (nB false)),mO 84 83,oG 85 (fA 69 4 3) 84 true,oG 86 (lD 30 85) 84 true,oG 87 (mV 2) 84 true,oG 88 (cL 57 #[(xT 86),(xT 87)] #[30,3]) 84 true,oO 89 (.pick (xT 84) (xT 88) (nB false)),aO 6 89] [6] (.ret)) (.exit 0)))))) (.keep [] (sR [oO 6 (.assign (nB false))] [6] (.ret))))
theorem t_edit_op : Txt Tryz.prog 127 90 [(.tmp 6)] c_edit_op := txt_of (code := Tryz.f127.body.getD .ret) mixed (by kernel_rfl) Tryz.func127 (by kernel_rfl) Tryz.ntmps127 (by kernel_rfl) (ls := lsOf c_edit_op) (by kernel_rfl)
def k1_edit_Lengths : CC := sR [fO 32 69 7 0,lO 33 3 32,oO 34 (.binOp .neq 3 (xT 33) (nI 1) 3)] [4,5,8,10,11,12,34] (cD 34 (.reg [mO 35 5,mO 36 8,oO 37 (bO .add 3 35 36 3),oO 38 (bC .min #[(xT 37),(nI 1048576)] #[3,3]),aO 5 38] [4,5,10,11,12]) (.skip))
def k2_edit_Lengths : CC := .seq (sR [fO 25 69 7 0,lO 26 3 25,oO 27 (.binOp .neq 3 (xT 26) (nI 2) 3)] [4,5,7,8,10,11,12,27] (cD 27 (.reg [mO 28 4,mO 29 8,oO 30 (bO .add 3 28 29 3),oO 31 (bC .min #[(xT 30),(nI 1048576)] #[3,3]),aO 4 31] [4,5,7,8,10,11,12]) (.skip))) (.keep [4,5,7,8,10,11,12] k1_edit_Lengths)
def l1_edit_Lengths : CC := sR [oO 13 (bO .lss 3 12 11 3)] [4,5,10,11,12,13] (.seq (cD 13 (.skip) (.exit 0)) (.keep [4,5,10,11,12] (.seq (.block 1 (sR [oO 14 (iA 28 10 12),lO 15 69 14,oN 7 (.alloc 69) [1],oS (.store 69 (xT 7) (xT 15))] [4,5,7,10,11,12] (sR [fO 16 69 7 1,lO 17 3 16,fO 18 69 7 2,lO 19 23 18,oO 20 (bL 19 23),oO 21 (bO .add 3 17 20 3),aO 8 21] [4,5,7,8,10,11,12] (.seq (sR [fO 22 69 7 0,lO 23 3 22,oO 24 (.binOp .eql 3 (xT 23) (nI 3) 3)] [4,5,7,8,10,11,12,24] (cD 24 (.reg [oO 8 (.assign (nI 1))] [4,5,7,8,10,11,12]) (.skip))) (.keep [4,5,7,8,10,11,12] k2_edit_Lengths))))) (.keep [4,5,10,11,12] (.reg [oO 39 (.binOp .add 3 (xT 12) (nI 1) 3),mO 12 39] [4,5,10,11,12]))))) 
def c_edit_Lengths : CC := sR [oN 1 (.box 30 (xT 0)) [0],oO 2 (.assign (nI 0)),oO 3 (.assign (nI 0))] [1] (sR [oO 4 (.assign (nI 0)),oO 5 (.assign (nI 0))] [1,4,5] (.seq (sR [fO 9 30 1 6,lO 10 28 9,oO 11 (bL 10 28),oO 12 (.move (nI 0))] [4,5,10,11,12] (.block 0 (.loop l1_edit_Lengths))) (.keep [4,5] (sR [mO 40 4,mO 41 5,aO 2 40,aO 3 41] [2,3] (.ret)))))
theorem t_edit_Lengths : Txt Tryz.prog 128 42 [(.tmp 2),(.tmp 3)] c_edit_Lengths := txt_of (code := Tryz.f128.body.getD .ret) mixed (by kernel_rfl) Tryz.func128 (by kernel_rfl) Tryz.ntmps128 (by kernel_rfl) (ls := lsOf c_edit_Lengths) (by kernel_rfl)
def l1_edit_ops : CC := sR [oO 13 (bO .lss 3 12 11 3)] [1,2,10,11,12,13] (.seq (cD 13 (.skip) (.exit 0)) (.keep [1,2,10,11,12] (.seq (.block 1 (sR [oO 14 (iA 28 10 12),lO 15 69 14,oN 6 (.alloc 69) [1],oS (.store 69 (xT 6) (xT 15))] [1,2,6,10,11,12] (sR [fO 16 30 2 5,lO 17 3 16,lO 18 69 6,mO 19 1,oO 20 (cL 127 #[(xT 17),(xT 18),(xT 19)] #[3,69,3]),oO 21 (.unOp .not 4 (xT 20))] [1,2,10,11,12,21] (cD 21 (sR [oO 4 (.assign (nB false))] [4] (.ret)) (.skip))))) (.keep [1,2,10,11,12] (.reg [oO 22 (.binOp .add 3 (xT 12) (nI 1) 3),mO 12 22] [1,2,10,11,12]))))) 
def c_edit_ops : CC := sR [oN 2 (.box 30 (xT 0)) [0],oO 4 (.assign (nB false))] [1,2] (.seq (sR [fO 9 30 2 6,lO 10 28 9,oO 11 (bL 10 28),oO 12 (.move (nI 0))] [1,2,10,11,12] (.block 0 (.loop l1_edit_ops))) (.keep [2] (sR [lO 24 30 2,oO 25 (cL 128 #[(xT 24)] #[30]),mO 23 25,xO 26 23 0,xO 27 23 1,aO 7 26,aO 8 27] [7,8] (sR [mO 28 7,oO 29 (.binOp .lss 3 (xT 28) (nI 1048576) 3),mO 30 29,oG 31 (mV 8) 30 true,oG 32 (.binOp .lss 3 (xT 31) (nI 1048576) 3) 30 true,oO 33 (.pick (xT 30) (xT 32) (nB false)),aO 4 33] [4] (.ret)))))
theorem t_edit_ops : Txt Tryz.prog 92 34 [(.tmp 4)] c_edit_ops := txt_of (code := Tryz.f92.body.getD .ret) mixed (by kernel_rfl) Tryz.func92 (by kernel_rfl) Tryz.ntmps92 (by kernel_rfl) (ls := lsOf c_edit_ops) (by kernel_rfl)
def c_edit_right : CC := sR [oN 2 (.box 30 (xT 0)) [0],oO 4 (.assign (nB false))] [1,2] (.seq (sR [lO 5 30 2,oO 6 (cL 87 #[(xT 5)] #[30]),oO 7 (.unOp .not 4 (xT 6)),mO 8 7,oG 9 (mV 1) 8 false,oG 10 (.binOp .eql 3 (xT 9) (nI 0) 3) 8 false,oO 11 (.pick (xT 8) (nB true) (xT 10))] [1,2,11] (cD 11 (sR [oO 4 (.assign (nB false))] [4] (.ret)) (.skip))) (.keep [1,2] (.seq (sR [fO 12 30 2 0,lO 13 3 12] [1,2,13] (.block 0 (sR [oO 15 (.binOp .eql 3 (xT 13) (nI 0) 3),aO 14 15] [1,2,13,14] (cD 14 (sR [oO 4 (.assign (nB true))] [4] (.ret)) (sR [oO 17 (.binOp .eql 3 (xT 13) (nI 1) 3),aO 16 17] [1,2,13,16] (cD 16 (sR [fO 18 30 2 1,lO 19 25 18,oO 20 (cL 88 #[(xT 19)] #[25]),mO 21 20,oG 22 (fA 30 2 2) 21 true,oG 23 (lD 25 22) 21 true,oG 24 (cL 88 #[(xT 23)] #[25]) 21 true,oO 25 (.pick (xT 21) (xT 24) (nB false)),aO 4 25] [4] (.ret)) (sR [oO 27 (.binOp .eql 3 (xT 13) (nI 2) 3),aO 26 27] [1,2,13,26] (cD 26 (sR [fO 28 30 2 3,lO 29 26 28,oO 30 (cL 89 #[(xT 29)] #[26]),mO 31 30,oG 32 (fA 30 2 4) 31 true,oG 33 (lD 27 32) 31 true,oG 34 (mV 1) 31 true,oG 35 (.binOp .sub 3 (xT 34) (nI 1) 3) 31 true,oG 36 (cL 90 #[(xT 33),(xT 35)] #[27,3]) 31 true,oO 37 (.pick (xT 31) (xT 36) (nB false)),aO 4 37] [4] (.ret)) (sR [oO 39 (.binOp .eql 3 (xT 13) (nI 3) 3),aO 38 39] [1,2,38] (cD 38 (sR [fO 40 30 2 5,lO 41 3 40,oO 42 (cL 91 #[(xT 41)] #[3]),mO 43 42,oG 44 (lD 30 2) 43 true,oG 45 (mV 1) 43 true,oG 46 (.binOp .sub 3 (xT 45) (nI 1) 3) 43 true,oG 47 (cL 92 #[(xT 44),(xT 46)] #[30,3]) 43 true,oO 48 (.pick (xT 43) (xT 47) (nB false)),aO 4 48] [4] (.ret)) (.skip))))))))))) (.keep [] (sR [oO 4 (.assign (nB false))] [4] (.ret))))))
theorem t_edit_right : Txt Tryz.prog 57 49 [(.tmp 4)] c_edit_right := txt_of (code := Tryz.f57.body.getD .ret) mixed (by kernel_rfl) Tryz.func57 (by kernel_rfl) Tryz.ntmps57 (by kernel_rfl) (ls := lsOf c_edit_right) (by kernel_rfl)
def c_edit_Right : CC := sR [oN 1 (.box 30 (xT 0)) [0],oO 2 (.assign (nB false))] [1] (sR [lO 3 30 1,oO 4 (cL 57 #[(xT 3),(nI 64)] #[30,3]),aO 2 4] [2] (.ret))
theorem t_edit_Right : Txt Tryz.prog 29 5 [(.tmp 2)] c_edit_Right := txt_of (code := Tryz.f29.body.getD .ret) mixed (by kernel_rfl) Tryz.func29 (by kernel_rfl) Tryz.ntmps29 (by kernel_rfl) (ls := lsOf c_edit_Right) (by kernel_rfl)
def c_patch_number : CC := sR [oO 6 (.assign (.const (.int .u64 0)))] [0,1,2] (sR [mO 7 0,oO 8 (.convert 3 60 (xT 7)),mO 9 1,oO 10 (.convert 3 60 (xT 9)),mO 11 2,oO 12 (bO .shl 60 10 11 3),oO 13 (bO .or 60 8 12 60),aO 6 13] [6] (.ret))
theorem t_patch_number : Txt Tryz.prog 36 14 [(.tmp 6)] c_patch_number := txt_of (code := Tryz.f36.body.getD .ret) mixed (by kernel_rfl) Tryz.func36 (by kernel_rfl) Tryz.ntmps36 (by kernel_rfl) (ls := lsOf c_patch_number) (by kernel_rfl)
def c_patch_structure : CC := sR [oN 4 (.alloc 25) [0]] [0,1,4] (sR [mO 5 0,mO 6 1,oO 7 (.build 25 #[(0,(nI 1)),(1,(xT 5)),(2,(xT 6))]),oS (.store 25 (xT 4) (xT 7))] [4] (.ret))
theorem t_patch_structure : Txt Tryz.prog 35 8 [(.cell 4 25)] c_patch_structure := txt_of (code := Tryz.f35.body.getD .ret) mixed (by kernel_rfl) Tryz.func35 (by kernel_rfl) Tryz.ntmps35 (by kernel_rfl) (ls := lsOf c_patch_structure) (by kernel_rfl)
def c_patch_row : CC := sR [oN 2 (.alloc 25) [0]] [0,2] (.seq (sR [mO 3 0,oO 4 (bL 3 23),oO 5 (.binOp .eql 3 (xT 4) (nI 0) 3)] [0,2,5] (cD 5 (sR [oO 6 (.build 25 #[]),oS (.store 25 (xT 2) (xT 6))] [2] (.ret)) (.skip))) (.keep [0,2] (sR [mO 7 0,oO 8 (.build 25 #[(0,(nI 9)),(2,(xT 7))]),oS (.store 25 (xT 2) (xT 8))] [2] (.ret))))
theorem t_patch_row : Txt Tryz.prog 37 9 [(.cell 2 25)] c_patch_row := txt_of (code := Tryz.f37.body.getD .ret) mixed (by kernel_rfl) Tryz.func37 (by kernel_rfl) Tryz.ntmps37 (by kernel_rfl) (ls := lsOf c_patch_row) (by kernel_rfl)
def l1_patch_Tree : CC := sR [oO 29 (bO .lss 3 28 27 3)] [1,2,3,4,26,27,28,29] (.seq (cD 29 (.skip) (.exit 1)) (.keep [1,2,3,4,26,27,28] (.seq (.block 2 (sR [oO 30 (iA 26 26 28),lO 31 63 30,oN 6 (.alloc 63) [2],oS (.store 63 (xT 6) (xT 31))] [1,2,3,4,6,26,27,28] (.reg [mO 32 3,fO 33 63 6 0,lO 34 3 33,fO 35 63 6 1,lO 36 5 35,oO 37 (.convert 5 3 (xT 36)),⟨some 38,(cL 36 #[(xT 34),(xT 37),(nI 32)] #[3,3,3]),none,[],6,[],true⟩,fO 39 63 6 2,⟨some 40,(lD 60 39),none,[],8,[6],false⟩,fO 41 63 6 3,⟨some 42,(lD 60 41),none,[],10,[6],false⟩,oO 43 (.buildSlice 22 3 #[(0,(xT 38)),(1,(xT 40)),(2,(xT 42))]),oO 44 (cL 35 #[(xT 43),nS] #[22,23]),oO 45 (.buildSlice 23 1 #[(0,(xT 44))]),oN 46 (bC .append #[(xT 32),(xT 45)] #[23,23]) [3],aO 3 46] [1,2,3,4,26,27,28]))) (.reg [oO 47 (.binOp .add 3 (xT 28) (nI 1) 3),mO 28 47] [1,2,3,4,26,27,28]))))
def l2_patch_Tree : CC := sR [oO 52 (bO .lss 3 51 50 3)] [2,3,4,49,50,51,52] (.seq (cD 52 (.skip) (.exit 3)) (.keep [2,3,4,49,50,51] (.seq (.block 4 (sR [oO 53 (iA 27 49 51),lO 54 66 53,oN 8 (.alloc 66) [4],oS (.store 66 (xT 8) (xT 54))] [2,3,4,8,49,50,51] (.reg [mO 55 4,fO 56 66 8 0,⟨some 57,(lD 3 56),none,[],2,[],true⟩,oO 58 (.convert 3 60 (xT 57)),⟨some 59,(.buildSlice 22 1 #[(0,(xT 58))]),none,[],4,[],true⟩,fO 60 66 8 1,⟨some 61,(lD 30 60),none,[],6,[4],false⟩,⟨some 62,(cL 13 #[(xT 61)] #[30]),none,[],7,[2,4],false⟩,⟨some 63,(.buildSlice 23 1 #[(0,(xT 62))]),none,[],8,[2,4],false⟩,oO 64 (cL 35 #[(xT 59),(xT 63)] #[22,23]),oO 65 (.buildSlice 23 1 #[(0,(xT 64))]),oN 66 (bC .append #[(xT 55),(xT 65)] #[23,23]) [5],aO 4 66] [2,3,4,49,50,51]))) (.reg [oO 67 (.binOp .add 3 (xT 51) (nI 1) 3),mO 51 67] [2,3,4,49,50,51]))))
def l3_patch_Tree : CC := sR [oO 81 (bO .lss 3 80 79 3)] [1,2,9,78,79,80,81] (.seq (cD 81 (.skip) (.exit 5)) (.keep [1,2,9,78,79,80] (.seq (.block 6 (sR [oO 82 (iA 28 78 80),lO 83 69 82,oN 11 (.alloc 69) [6],oS (.store 69 (xT 11) (xT 83))] [1,2,9,11,78,79,80] (.reg [mO 84 9,fO 85 30 1 5,lO 86 3 85,lO 87 69 11,oO 88 (cL 38 #[(xT 86),(xT 87)] #[3,69]),oO 89 (.buildSlice 23 1 #[(0,(xT 88))]),oN 90 (bC .append #[(xT 84),(xT 89)] #[23,23]) [7],aO 9 90] [1,2,9,78,79,80]))) (.reg [oO 91 (.binOp .add 3 (xT 80) (nI 1) 3),mO 80 91] [1,2,9,78,79,80])))) 
def c_patch_Tree : CC := sR [oN 1 (.box 30 (xT 0)) [0],oN 2 (.alloc 25) [1]] [1,2] (.seq (sR [fO 12 30 1 0,lO 13 3 12] [1,2,13] (.block 0 (sR [oO 15 (.binOp .eql 3 (xT 13) (nI 1) 3),aO 14 15] [1,2,13,14] (cD 14 (sR [oO 16 (.buildSlice 22 1 #[(0,(.const (.int .u64 1)))]),fO 17 30 1 1,lO 18 25 17,fO 19 30 1 2,lO 20 25 19,oO 21 (.buildSlice 23 2 #[(0,(xT 18)),(1,(xT 20))]),oO 22 (cL 35 #[(xT 16),(xT 21)] #[22,23]),oS (.store 25 (xT 2) (xT 22))] [2] (.ret)) (sR [oO 24 (.binOp .eql 3 (xT 13) (nI 2) 3),aO 23 24] [1,2,13,23] (cD 23 (sR [oO 3 (.assign nS),oO 4 (.assign nS)] [1,2,3,4] (.seq (sR [fO 25 30 1 3,lO 26 26 25,oO 27 (bL 26 26),oO 28 (.move (nI 0))] [1,2,3,4,26,27,28] (.block 1 (.loop l1_patch_Tree))) (.keep [1,2,3,4] (.seq (sR [fO 48 30 1 4,lO 49 27 48,oO 50 (bL 49 27),oO 51 (.move (nI 0))] [2,3,4,49,50,51] (.block 3 (.loop l2_patch_Tree))) (.keep [2,3,4] (.stop (sR [oO 68 (.buildSlice 22 1 #[(0,(.const (.int .u64 2)))]),mO 69 3,oO 70 (cL 37 #[(xT 69)] #[23]),mO 71 4,oO 72 (cL 37 #[(xT 71)] #[23]),oO 73 (.buildSlice 23 2 #[(0,(xT 70)),(1,(xT 72))]),oO 74 (cL 35 #[(xT 68),(xT 73)] #[22,23]),oS (.store 25 (xT 2) (xT 74))] [2] (.ret)))))))) (sR [oO 76 (.binOp .eql 3 (xT 13) (nI 3) 3),aO 75 76] [1,2,75] (cD 75 (sR [oO 9 (.assign nS)] [1,2,9] (.seq (sR [fO 77 30 1 6,lO 78 28 77,oO 79 (bL 78 28),oO 80 (.move (nI 0))] [1,2,9,78,79,80] (.block 5 (.loop l3_patch_Tree))) (.keep [1,2,9] (.stop (sR [fO 92 30 1 5,lO 93 3 92,oO 94 (cL 36 #[(nI 3),(xT 93),(nI 8)] #[3,3,3]),oO 95 (.buildSlice 22 1 #[(0,(xT 94))]),mO 96 9,oO 97 (cL 37 #[(xT 96)] #[23]),oO 98 (.buildSlice 23 1 #[(0,(xT 97))]),oO 99 (cL 35 #[(xT 95),(xT 98)] #[22,23]),oS (.store 25 (xT 2) (xT 99))] [2] (.ret)))))) (.skip))))))))) (.keep [2] (sR [oO 100 (.build 25 #[]),oS (.store 25 (xT 2) (xT 100))] [2] (.ret))))
theorem t_patch_Tree : Txt Tryz.prog 13 101 [(.cell 2 25)] c_patch_Tree := txt_of (code := Tryz.f13.body.getD .ret) mixed (by kernel_rfl) Tryz.func13 (by kernel_rfl) Tryz.ntmps13 (by kernel_rfl) (ls := lsOf c_patch_Tree) (by kernel_rfl)
def k1_patch_op : CC := cD 14 (sR [mO 17 5,mO 18 0,fO 19 69 3 2,lO 20 23 19,oO 21 (.build 25 #[(0,(xT 18)),(2,(xT 20))]),oO 22 (.buildSlice 23 1 #[(0,(xT 21))]),oO 23 (cL 35 #[(xT 17),(xT 22)] #[22,23]),oS (.store 25 (xT 4) (xT 23))] [4] (.ret)) (sR [oO 25 (.binOp .eql 3 (xT 13) (nI 3) 3),aO 24 25] [3,4,5,24] (cD 24 (sR [mO 26 5,fO 27 69 3 3,lO 28 30 27,oO 29 (cL 13 #[(xT 28)] #[30]),oO 30 (.buildSlice 23 1 #[(0,(xT 29))]),oO 31 (cL 35 #[(xT 26),(xT 30)] #[22,23]),oS (.store 25 (xT 4) (xT 31))] [4] (.ret)) (.skip))) 
def c_patch_op : CC := sR [oN 3 (.box 69 (xT 1)) [0],oN 4 (.alloc 25) [1]] [0,3,4] (sR [fO 6 69 3 0,lO 7 3 6,fO 8 69 3 1,lO 9 3 8,oO 10 (cL 36 #[(xT 7),(xT 9),(nI 8)] #[3,3,3]),oO 11 (.buildSlice 22 1 #[(0,(xT 10))]),aO 5 11] [0,3,4,5] (.seq (sR [fO 12 69 3 0,lO 13 3 12] [0,3,4,5,13] (.block 0 (.seq (sR [oO 15 (.binOp .eql 3 (xT 13) (nI 1) 3),aO 14 15] [0,3,4,5,13,14] (cD 14 (.skip) (.reg [oO 16 (.binOp .eql 3 (xT 13) (nI 2) 3),aO 14 16] [0,3,4,5,13,14]))) (.keep [0,3,4,5,13,14] k1_patch_op)))) (.keep [4,5] (sR [mO 32 5,oO 33 (cL 35 #[(xT 32),nS] #[22,23]),oS (.store 25 (xT 4) (xT 33))] [4] (.ret)))))
theorem t_patch_op : Txt Tryz.prog 38 34 [(.cell 4 25)] c_patch_op := txt_of (code := Tryz.f38.body.getD .ret) mixed (by kernel_rfl) Tryz.func38 (by kernel_rfl) Tryz.ntmps38 (by kernel_rfl) (ls := lsOf c_patch_op) (by kernel_rfl)
def c_patch_part : CC := sR [oO 6 (.assign (nI 0))] [0,1,2] (sR [mO 7 0,mO 8 1,oO 9 (bO .shr 60 7 8 3),mO 10 2,oO 11 (.binOp .shl 60 (.const (.int .u64 1)) (xT 10) 3),oO 12 (.binOp .sub 60 (xT 11) (.const (.int .u64 1)) 60),oO 13 (bO .and 60 9 12 60),oO 14 (.convert 60 3 (xT 13)),aO 6 14] [6] (.ret))
theorem t_patch_part : Txt Tryz.prog 71 15 [(.tmp 6)] c_patch_part := txt_of (code := Tryz.f71.body.getD .ret) mixed (by kernel_rfl) Tryz.func71 (by kernel_rfl) Tryz.ntmps71 (by kernel_rfl) (ls := lsOf c_patch_part) (by kernel_rfl)
def l1_patch_read : CC := sR [oO 43 (bO .lss 3 42 41 3)] [2,4,6,40,41,42,43] (.seq (cD 43 (.skip) (.exit 1)) (.keep [2,4,6,40,41,42] (.seq (.block 2 (sR [oO 44 (iA 23 40 42),lO 45 25 44,oN 8 (.alloc 25) [5],oS (.store 25 (xT 8) (xT 45))] [2,4,6,8,40,41,42] (sR [lO 46 25 8,oO 47 (cL 70 #[(xT 46),(nI 0)] #[25,3]),aO 9 47] [2,4,6,8,9,40,41,42] (.reg [fO 48 30 4 3,⟨some 49,(lD 26 48),none,[],1,[],true⟩,mO 50 9,⟨some 51,(cL 71 #[(xT 50),(nI 0),(nI 32)] #[60,3,3]),none,[],3,[1],true⟩,mO 52 9,⟨some 53,(cL 71 #[(xT 52),(nI 32),(nI 8)] #[60,3,3]),none,[],5,[1],true⟩,oO 54 (.convert 3 5 (xT 53)),⟨some 55,(lD 25 8),none,[],7,[3,5],false⟩,⟨some 56,(cL 70 #[(xT 55),(nI 1)] #[25,3]),none,[],8,[1],true⟩,⟨some 57,(lD 25 8),none,[],9,[3,5,8],false⟩,⟨some 58,(cL 70 #[(xT 57),(nI 2)] #[25,3]),none,[],10,[1],false⟩,oO 59 (.build 63 #[(0,(xT 51)),(1,(xT 54)),(2,(xT 56)),(3,(xT 58))]),⟨some 60,(.buildSlice 26 1 #[(0,(xT 59))]),none,[],12,[1],false⟩,oN 61 (bC .append #[(xT 49),(xT 60)] #[26,26]) [6],fO 62 30 4 3,oS (.store 26 (xT 62) (xT 61))] [2,4,6,40,41,42])))) (.reg [oO 63 (.binOp .add 3 (xT 42) (nI 1) 3),mO 42 63] [2,4,6,40,41,42]))))
def l2_patch_read : CC := sR [oO 68 (bO .lss 3 67 66 3)] [2,4,65,66,67,68] (.seq (cD 68 (.skip) (.exit 3)) (.keep [2,4,65,66,67] (.seq (.block 4 (sR [oO 69 (iA 23 65 67),lO 70 25 69,oN 11 (.alloc 25) [7],oS (.store 25 (xT 11) (xT 70))] [2,4,11,65,66,67] (.reg [fO 71 30 4 4,⟨some 72,(lD 27 71),none,[],1,[],true⟩,lO 73 25 11,⟨some 74,(cL 70 #[(xT 73),(nI 0)] #[25,3]),none,[],3,[1],true⟩,⟨some 75,(cL 71 #[(xT 74),(nI 0),(nI 32)] #[60,3,3]),none,[],4,[1],true⟩,⟨some 76,(lD 25 11),none,[],5,[3,4],false⟩,⟨some 77,(cL 72 #[(xT 76),(nI 0)] #[25,3]),none,[],6,[1],false⟩,⟨some 78,(cL 40 #[(xT 77)] #[25]),none,[],7,[1],false⟩,oO 79 (.build 66 #[(0,(xT 75)),(1,(xT 78))]),⟨some 80,(.buildSlice 27 1 #[(0,(xT 79))]),none,[],9,[1],false⟩,oN 81 (bC .append #[(xT 72),(xT 80)] #[27,27]) [8],fO 82 30 4 4,oS (.store 27 (xT 82) (xT 81))] [2,4,65,66,67]))) (.reg [oO 83 (.binOp .add 3 (xT 67) (nI 1) 3),mO 67 83] [2,4,65,66,67]))))
def l3_patch_read : CC := sR [oO 90 (bO .lss 3 89 88 3)] [2,4,87,88,89,90] (.seq (cD 90 (.skip) (.exit 5)) (.keep [2,4,87,88,89] (.seq (.block 6 (sR [oO 91 (iA 23 87 89),lO 92 25 91,oN 13 (.alloc 25) [9],oS (.store 25 (xT 13) (xT 92))] [2,4,13,87,88,89] (.reg [fO 93 30 4 6,⟨some 94,(lD 28 93),none,[],1,[],true⟩,lO 95 25 13,⟨some 96,(cL 73 #[(xT 95)] #[25]),none,[],3,[1],false⟩,⟨some 97,(.buildSlice 28 1 #[(0,(xT 96))]),none,[],4,[1],false⟩,oN 98 (bC .append #[(xT 94),(xT 97)] #[28,28]) [10],fO 99 30 4 6,oS (.store 28 (xT 99) (xT 98))] [2,4,87,88,89]))) (.reg [oO 100 (.binOp .add 3 (xT 89) (nI 1) 3),mO 89 100] [2,4,87,88,89])))) 
def c_patch_read : CC := sR [oN 1 (.box 25 (xT 0)) [0],oN 2 (.alloc 30) [1]] [1,2] (sR [lO 14 25 1,oO 15 (cL 70 #[(xT 14),(nI 0)] #[25,3]),aO 3 15] [1,2,3] (sR [mO 16 3,oO 17 (cL 71 #[(xT 16),(nI 0),(nI 8)] #[60,3,3]),mO 18 3,oO 19 (cL 71 #[(xT 18),(nI 8),(nI 8)] #[60,3,3]),oO 20 (.build 30 #[(0,(xT 17)),(5,(xT 19))]),oN 4 (.alloc 30) [2],oS (.store 30 (xT 4) (xT 20))] [1,2,4] (.seq (sR [fO 21 25 1 0,lO 22 3 21,oO 23 (.binOp .neq 3 (xT 22) (nI 1) 3)] [1,2,4,23] (cD 23 (sR [oO 24 (.build 30 #[]),oS (.store 30 (xT 2) (xT 24))] [2] (.ret)) (.skip))) (.keep [1,2,4] (sR [⟨some 25,(lD 25 1),none,[],0,[],true⟩,⟨some 26,(cL 72 #[(xT 25),(nI 0)] #[25,3]),none,[],1,[],true⟩,⟨some 27,(lD 25 1),none,[],2,[1],true⟩,⟨some 28,(cL 72 #[(xT 27),(nI 1)] #[25,3]),none,[],3,[],true⟩,⟨some 5,(.alloc 25),none,[3],4,[0,1,2,3],true⟩,⟨some 6,(.alloc 25),none,[4],5,[0,1,2,3,4],false⟩,oS (.store 25 (xT 5) (xT 26)),oS (.store 25 (xT 6) (xT 28))] [2,4,5,6] (.seq (sR [fO 29 30 4 0,lO 30 3 29] [2,4,5,6,30] (.block 0 (sR [oO 32 (.binOp .eql 3 (xT 30) (nI 1) 3),aO 31 32] [2,4,5,6,30,31] (cD 31 (.reg [lO 33 25 5,⟨some 34,(lD 25 6),none,[],1,[],true⟩,fO 35 30 4 1,⟨none,(.store 25 (xT 35) (xT 33)),none,[],3,[1],false⟩,fO 36 30 4 2,oS (.store 25 (xT 36) (xT 34))] [2,4]) (sR [oO 38 (.binOp .eql 3 (xT 30) (nI 2) 3),aO 37 38] [2,4,5,6,30,37] (cD 37 (.seq (sR [fO 39 25 5 2,lO 40 23 39,oO 41 (bL 40 23),oO 42 (.move (nI 0))] [2,4,6,40,41,42] (.block 1 (.loop l1_patch_read))) (.keep [2,4,6] (sR [fO 64 25 6 2,lO 65 23 64,oO 66 (bL 65 23),oO 67 (.move (nI 0))] [2,4,65,66,67] (.block 3 (.loop l2_patch_read))))) (sR [oO 85 (.binOp .eql 3 (xT 30) (nI 3) 3),aO 84 85] [2,4,5,84] (cD 84 (sR [fO 86 25 5 2,lO 87 23 86,oO 88 (bL 87 23),oO 89 (.move (nI 0))] [2,4,87,88,89] (.block 5 (.loop l3_patch_read))) (.skip))))))))) (.keep [2,4] (sR [lO 101 30 4,oS (.store 30 (xT 2) (xT 101))] [2] (.ret)))))))))
theorem t_patch_read : Txt Tryz.prog 40 102 [(.cell 2 30)] c_patch_read := txt_of (code := Tryz.f40.body.getD .ret) mixed (by kernel_rfl) Tryz.func40 (by kernel_rfl) Tryz.ntmps40 (by kernel_rfl) (ls := lsOf c_patch_read) (by kernel_rfl)
def k1_patch_step : CC := cD 14 (.reg [lO 17 25 1,oO 18 (cL 72 #[(xT 17),(nI 0)] #[25,3]),oO 19 (.field 25 (xT 18) 2),fO 20 69 4 2,oS (.store 23 (xT 20) (xT 19))] [2,4]) (sR [oO 22 (.binOp .eql 3 (xT 13) (nI 3) 3),aO 21 22] [1,2,4,21] (cD 21 (.reg [lO 23 25 1,oO 24 (cL 72 #[(xT 23),(nI 0)] #[25,3]),oO 25 (cL 40 #[(xT 24)] #[25]),fO 26 69 4 3,oS (.store 30 (xT 26) (xT 25))] [2,4]) (.skip))) 
def c_patch_step : CC := sR [oN 1 (.box 25 (xT 0)) [0],oN 2 (.alloc 69) [1]] [1,2] (sR [lO 5 25 1,oO 6 (cL 70 #[(xT 5),(nI 0)] #[25,3]),aO 3 6] [1,2,3] (sR [mO 7 3,oO 8 (cL 71 #[(xT 7),(nI 0),(nI 8)] #[60,3,3]),mO 9 3,oO 10 (cL 71 #[(xT 9),(nI 8),(nI 40)] #[60,3,3]),oO 11 (.build 69 #[(0,(xT 8)),(1,(xT 10))]),oN 4 (.alloc 69) [2],oS (.store 69 (xT 4) (xT 11))] [1,2,4] (.seq (sR [fO 12 69 4 0,lO 13 3 12] [1,2,4,13] (.block 0 (.seq (sR [oO 15 (.binOp .eql 3 (xT 13) (nI 1) 3),aO 14 15] [1,2,4,13,14] (cD 14 (.skip) (.reg [oO 16 (.binOp .eql 3 (xT 13) (nI 2) 3),aO 14 16] [1,2,4,13,14]))) (.keep [1,2,4,13,14] k1_patch_step)))) (.keep [2,4] (sR [lO 27 69 4,oS (.store 69 (xT 2) (xT 27))] [2] (.ret))))))
theorem t_patch_step : Txt Tryz.prog 73 28 [(.cell 2 69)] c_patch_step := txt_of (code := Tryz.f73.body.getD .ret) mixed (by kernel_rfl) Tryz.func73 (by kernel_rfl) Tryz.ntmps73 (by kernel_rfl) (ls := lsOf c_patch_step) (by kernel_rfl)
def c_patch_Read : CC := sR [oN 1 (.box 25 (xT 0)) [0],oN 2 (.alloc 30) [1],oO 3 (.assign (nB false))] [1,2] (sR [lO 5 25 1,oO 6 (cL 40 #[(xT 5)] #[25]),oN 4 (.alloc 30) [2],oS (.store 30 (xT 4) (xT 6))] [1,2,4] (.seq (sR [lO 7 30 4,oO 8 (cL 29 #[(xT 7)] #[30]),oO 9 (.unOp .not 4 (xT 8)),mO 10 9,oG 11 (lD 30 4) 10 false,⟨some 12,(cL 13 #[(xT 11)] #[30]),(some (10,false)),[],5,[],true⟩,⟨some 13,(lD 25 1),(some (10,false)),[],6,[5],false⟩,oG 14 (cL 41 #[(xT 12),(xT 13)] #[25,25]) 10 false,oG 15 (.unOp .not 4 (xT 14)) 10 false,oO 16 (.pick (xT 10) (nB true) (xT 15))] [2,4,16] (cD 16 (sR [oO 17 (.build 30 #[]),oS (.store 30 (xT 2) (xT 17)),oO 3 (.assign (nB false))] [2,3] (.ret)) (.skip))) (.keep [2,4] (sR [lO 18 30 4,oS (.store 30 (xT 2) (xT 18)),oO 3 (.assign (nB true))] [2,3] (.ret)))))
theorem t_patch_Read : Txt Tryz.prog 16 19 [(.cell 2 30),(.tmp 3)] c_patch_Read := txt_of (code := Tryz.f16.body.getD .ret) mixed (by kernel_rfl) Tryz.func16 (by kernel_rfl) Tryz.ntmps16 (by kernel_rfl) (ls := lsOf c_patch_Read) (by kernel_rfl)
def c_patch_limits : CC := sR [oN 0 (.alloc 58) [0]] [0] (sR [oO 1 (.build 58 #[(0,(nI 64)),(1,(nI 65536))]),oS (.store 58 (xT 0) (xT 1))] [0] (.ret))
theorem t_patch_limits : Txt Tryz.prog 33 2 [(.cell 0 58)] c_patch_limits := txt_of (code := Tryz.f33.body.getD .ret) mixed (by kernel_rfl) Tryz.func33 (by kernel_rfl) Tryz.ntmps33 (by kernel_rfl) (ls := lsOf c_patch_limits) (by kernel_rfl)
def c_patch_Encode : CC := sR [oN 2 (.box 30 (xT 0)) [0],oO 4 (.assign nS),oO 5 (.assign (nB false))] [1,2] (.seq (sR [lO 10 30 2,oO 11 (cL 29 #[(xT 10)] #[30]),oO 12 (.unOp .not 4 (xT 11))] [1,2,12] (cD 12 (sR [oO 4 (.assign nS),oO 5 (.assign (nB false))] [4,5] (.ret)) (.skip))) (.keep [1,2] (sR [lO 14 30 2,oO 15 (cL 13 #[(xT 14)] #[30]),mO 16 1,oO 17 (cL 30 #[(xT 15),(xT 16)] #[25,3]),mO 13 17,xO 18 13 0,xO 19 13 1,aO 6 18,aO 7 19] [6,7] (.seq (sR [mO 20 7,oO 21 (.unOp .not 4 (xT 20))] [6,21] (cD 21 (sR [oO 4 (.assign nS),oO 5 (.assign (nB false))] [4,5] (.ret)) (.skip))) (.keep [6] (.seq (sR [mO 23 6,oO 24 (.buildSlice 56 1 #[(0,(xT 23))]),oO 25 (cL 32 #[(xT 24)] #[56]),oO 26 (cL 33 #[] #[]),oO 27 (cL 31 #[(xT 25),(xT 26)] #[54,58]),mO 22 27,xO 28 22 0,xO 29 22 1,aO 8 28,aO 9 29] [6,9] (sR [mO 30 9,oO 31 (.binOp .neq 45 (xT 30) (nI 0) 45)] [6,31] (cD 31 (sR [oO 4 (.assign nS),oO 5 (.assign (nB false))] [4,5] (.ret)) (.skip)))) (.keep [6] (sR [mO 32 6,aO 4 32,oO 5 (.assign (nB true))] [4,5] (.ret)))))))))
theorem t_patch_Encode : Txt Tryz.prog 10 33 [(.tmp 4),(.tmp 5)] c_patch_Encode := txt_of (code := Tryz.f10.body.getD .ret) mixed (by kernel_rfl) Tryz.func10 (by kernel_rfl) Tryz.ntmps10 (by kernel_rfl) (ls := lsOf c_patch_Encode) (by kernel_rfl)
def c_patch_Decode : CC := sR [oN 2 (.alloc 30) [0],oO 3 (.assign (nI 0))] [0,2] (sR [mO 9 0,oO 10 (cL 33 #[] #[]),oO 11 (cL 55 #[(xT 9),(xT 10)] #[22,58]),mO 8 11,xO 12 8 0,xO 13 8 1,oN 4 (.alloc 25) [1],oS (.store 25 (xT 4) (xT 12)),aO 5 13] [2,4,5] (.seq (sR [mO 14 5,oO 15 (.binOp .neq 45 (xT 14) (nI 0) 45)] [2,4,5,15] (cD 15 (sR [oO 16 (.build 30 #[]),mO 17 5,oS (.store 30 (xT 2) (xT 16)),aO 3 17] [2,3] (.ret)) (.skip))) (.keep [2,4] (sR [lO 19 25 4,oO 20 (cL 16 #[(xT 19)] #[25]),mO 18 20,xO 21 18 0,xO 22 18 1,oN 6 (.alloc 30) [2],oS (.store 30 (xT 6) (xT 21)),aO 7 22] [2,6,7] (.seq (sR [mO 23 7,oO 24 (.unOp .not 4 (xT 23))] [2,6,24] (cD 24 (sR [oO 25 (.build 30 #[]),oS (.store 30 (xT 2) (xT 25)),oO 3 (.assign (nI 12))] [2,3] (.ret)) (.skip))) (.keep [2,6] (sR [lO 26 30 6,oS (.store 30 (xT 2) (xT 26)),oO 3 (.assign (nI 0))] [2,3] (.ret))))))))
theorem t_patch_Decode : Txt Tryz.prog 27 27 [(.cell 2 30),(.tmp 3)] c_patch_Decode := txt_of (code := Tryz.f27.body.getD .ret) mixed (by kernel_rfl) Tryz.func27 (by kernel_rfl) Tryz.ntmps27 (by kernel_rfl) (ls := lsOf c_patch_Decode) (by kernel_rfl)
def c_canon_writer_give : CC := sR [oO 4 (.assign (nI 0))] [0,1] (sR [mO 6 0,oO 7 (.nilCheck (xT 6)),fO 8 88 7 0,lO 9 22 8,oO 10 (bL 9 22),aO 5 10] [0,1,5] (sR [mO 11 0,mO 12 0,oO 13 (.nilCheck (xT 12)),fO 14 88 13 0,lO 15 22 14,mO 16 1,oN 17 (bC .append #[(xT 15),(xT 16)] #[22,3]) [1],oO 18 (.nilCheck (xT 11)),fO 19 88 18 0,oS (.store 22 (xT 19) (xT 17))] [5] (sR [mO 20 5,aO 4 20] [4] (.ret))))
theorem t_canon_writer_give : Txt Tryz.prog 62 21 [(.tmp 4)] c_canon_writer_give := txt_of (code := Tryz.f62.body.getD .ret) mixed (by kernel_rfl) Tryz.func62 (by kernel_rfl) Tryz.ntmps62 (by kernel_rfl) (ls := lsOf c_canon_writer_give) (by kernel_rfl)
def k1_canon_writer_point : CC := sR [lO 29 121 7,oO 30 (cL 132 #[(xT 29)] #[121]),mO 28 30,xO 31 28 0,xO 32 28 1,aO 9 31,aO 10 32] [0,1,9,10] (sR [mO 33 0,oO 34 (.nilCheck (xT 33)),fO 35 88 34 0,lO 36 22 35,mO 37 1,mO 38 9,oO 39 (iA 22 36 37),oS (.store 60 (xT 39) (xT 38))] [10] (sR [mO 40 10,aO 8 40] [8] (.ret))) 
def c_canon_writer_point : CC := sR [oN 7 (.box 121 (xT 3)) [1],oO 8 (.assign (nB false))] [0,1,2,7] (sR [mO 11 2,mO 12 1,oO 13 (bO .sub 3 11 12 3),oO 14 (.binOp .sub 3 (xT 13) (nI 1) 3),fO 15 121 7 1,oS (.store 3 (xT 15) (xT 14))] [0,1,7] (.seq (sR [fO 16 121 7 0,lO 17 3 16,oO 18 (.binOp .eql 3 (xT 17) (nI 1) 3),mO 19 18,oG 20 (fA 121 7 2) 19 true,oG 21 (lD 3 20) 19 true,oG 22 (fA 121 7 3) 19 true,oG 23 (lD 3 22) 19 true,oG 24 (bO .add 3 21 23 3) 19 true,oG 25 (.binOp .eql 3 (xT 24) (nI 0) 3) 19 true,oO 26 (.pick (xT 19) (xT 25) (nB false))] [0,1,7,26] (cD 26 (.reg [fO 27 121 7 1,oS (.store 3 (xT 27) (.const (.int .i64 (-1))))] [0,1,7]) (.skip))) (.keep [0,1,7] k1_canon_writer_point)))
theorem t_canon_writer_point : Txt Tryz.prog 95 41 [(.tmp 8)] c_canon_writer_point := txt_of (code := Tryz.f95.body.getD .ret) mixed (by kernel_rfl) Tryz.func95 (by kernel_rfl) Tryz.ntmps95 (by kernel_rfl) (ls := lsOf c_canon_writer_point) (by kernel_rfl)
def l1_canon_writer_tree : CC := sR [oO 91 (bO .lss 3 90 89 3)] [0,1,5,9,10,88,89,90,91] (.seq (cD 91 (.skip) (.exit 1)) (.keep [0,1,5,9,10,88,89,90] (.seq (.block 2 (sR [oO 92 (iA 23 88 90),lO 93 25 92,oN 12 (.alloc 25) [2],oS (.store 25 (xT 12) (xT 93))] [0,1,5,9,10,12,88,89,90] (.reg [mO 94 10,lO 95 25 12,oO 96 (cL 70 #[(xT 95),(nI 0)] #[25,3]),oO 97 (.buildSlice 22 1 #[(0,(xT 96))]),oN 98 (bC .append #[(xT 94),(xT 97)] #[22,22]) [3],aO 10 98] [0,1,5,9,10,88,89,90]))) (.reg [oO 99 (.binOp .add 3 (xT 90) (nI 1) 3),mO 90 99] [0,1,5,9,10,88,89,90])))) 
def c_canon_writer_tree : CC := sR [oN 5 (.box 25 (xT 2)) [1],oO 6 (.assign (nB false))] [0,1,5] (.seq (.block 0 (sR [fO 17 25 5 0,lO 18 3 17,oO 19 (.binOp .eql 3 (xT 18) (nI 0) 3),aO 16 19] [0,1,5,16] (cD 16 (sR [oO 6 (.assign (nB true))] [6] (.ret)) (sR [fO 21 25 5 0,lO 22 3 21,oO 23 (.binOp .eql 3 (xT 22) (nI 1) 3),aO 20 23] [0,1,5,20] (cD 20 (sR [mO 24 0,fO 25 25 5 1,lO 26 22 25,oO 27 (bL 26 22),fO 28 25 5 2,lO 29 23 28,oO 30 (bL 29 23),oO 31 (bO .add 3 27 30 3),oO 32 (cL 62 #[(xT 24),(xT 31)] #[86,3]),aO 7 32] [0,1,5,7] (sR [mO 33 0,mO 34 1,mO 35 7,fO 36 25 5 1,lO 37 22 36,oO 38 (bL 37 22),fO 39 25 5 2,lO 40 23 39,oO 41 (bL 40 23),oO 42 (.build 121 #[(0,(nI 1)),(2,(xT 38)),(3,(xT 41))]),oO 43 (cL 95 #[(xT 33),(xT 34),(xT 35),(xT 42)] #[86,3,3,121]),mO 44 43,oG 45 (mV 0) 44 true,oG 46 (mV 7) 44 true,oG 47 (fA 25 5 1) 44 true,oG 48 (lD 22 47) 44 true,oG 49 (bL 48 22) 44 true,oG 50 (lD 25 5) 44 true,oG 51 (cL 96 #[(xT 45),(xT 46),(xT 49),(xT 50)] #[86,3,3,25]) 44 true,oO 52 (.pick (xT 44) (xT 51) (nB false)),aO 6 52] [6] (.ret))) (sR [fO 54 25 5 0,lO 55 3 54,oO 56 (.binOp .eql 3 (xT 55) (nI 9) 3),aO 53 56] [0,1,5,53] (cD 53 (sR [mO 57 0,mO 58 1,lO 59 25 5,oO 60 (cL 97 #[(xT 57),(xT 58),(xT 59)] #[86,3,25]),aO 6 60] [6] (.ret)) (sR [fO 62 25 5 0,lO 63 3 62,oO 64 (.binOp .eql 3 (xT 63) (nI 8) 3),aO 61 64] [0,1,5,61] (cD 61 (sR [mO 65 0,fO 66 25 5 2,lO 67 23 66,oO 68 (bL 67 23),oO 69 (cL 62 #[(xT 65),(xT 68)] #[86,3]),aO 8 69] [0,1,5,8] (sR [mO 70 0,mO 71 1,mO 72 8,fO 73 25 5 2,lO 74 23 73,oO 75 (bL 74 23),oO 76 (.build 121 #[(0,(nI 2)),(4,(nI 6)),(5,(xT 75))]),oO 77 (cL 95 #[(xT 70),(xT 71),(xT 72),(xT 76)] #[86,3,3,121]),mO 78 77,oG 79 (mV 0) 78 true,oG 80 (mV 8) 78 true,oG 81 (lD 25 5) 78 true,oG 82 (cL 98 #[(xT 79),(xT 80),(xT 81)] #[86,3,25]) 78 true,oO 83 (.pick (xT 78) (xT 82) (nB false)),aO 6 83] [6] (.ret))) (.skip)))))))))) (.keep [0,1,5] (sR [fO 84 25 5 0,lO 85 3 84,oO 86 (.binOp .sub 3 (xT 85) (nI 2) 3),aO 9 86] [0,1,5,9] (sR [oO 10 (.assign nS)] [0,1,5,9,10] (.seq (sR [fO 87 25 5 2,lO 88 23 87,oO 89 (bL 88 23),oO 90 (.move (nI 0))] [0,1,5,9,10,88,89,90] (.block 1 (.loop l1_canon_writer_tree))) (.keep [0,1,5,9,10] (.stop (sR [mO 101 9,mO 102 10,oO 103 (cL 99 #[(xT 101),(xT 102)] #[3,22]),mO 100 103,xO 104 100 0,xO 105 100 1,aO 13 104,aO 14 105] [0,1,5,9,13,14] (sR [mO 106 0,mO 107 13,oO 108 (bL 107 22),oO 109 (cL 62 #[(xT 106),(xT 108)] #[86,3]),aO 15 109] [0,1,5,9,13,14,15] (sR [mO 110 0,oO 111 (.nilCheck (xT 110)),fO 112 88 111 0,lO 113 22 112,mO 114 15,oO 115 (.slice 22 (xT 113) (some (xT 114)) none none),mO 116 13,oO 117 (bC .copy #[(xT 115),(xT 116)] #[22,22])] [0,1,5,9,14,15] (sR [mO 118 14,mO 119 118,oG 120 (mV 0) 119 true,oG 121 (mV 1) 119 true,oG 122 (mV 15) 119 true,oG 123 (mV 9) 119 true,oG 124 (fA 25 5 2) 119 true,oG 125 (lD 23 124) 119 true,oG 126 (bL 125 23) 119 true,oG 127 (.build 121 #[(0,(nI 2)),(4,(xT 123)),(5,(xT 126))]) 119 true,oG 128 (cL 95 #[(xT 120),(xT 121),(xT 122),(xT 127)] #[86,3,3,121]) 119 true,oO 129 (.pick (xT 119) (xT 128) (nB false)),aO 6 129] [6] (.ret))))))))))))
theorem t_canon_writer_tree : Txt Tryz.prog 61 130 [(.tmp 6)] c_canon_writer_tree := txt_of (code := Tryz.f61.body.getD .ret) mixed (by kernel_rfl) Tryz.func61 (by kernel_rfl) Tryz.ntmps61 (by kernel_rfl) (ls := lsOf c_canon_writer_tree) (by kernel_rfl)
def l1_canon_writer_kids : CC := sR [oO 13 (bO .lss 3 12 11 3)] [0,1,10,11,12,13] (.seq (cD 13 (.skip) (.exit 0)) (.keep [0,1,10,11,12] (.seq (.block 1 (sR [mO 14 12,oO 15 (iA 23 10 12),lO 16 25 15,oN 8 (.alloc 25) [2],aO 7 14,oS (.store 25 (xT 8) (xT 16))] [0,1,7,8,10,11,12] (sR [mO 17 0,mO 18 1,mO 19 7,oO 20 (bO .add 3 18 19 3),lO 21 25 8,oO 22 (cL 61 #[(xT 17),(xT 20),(xT 21)] #[86,3,25]),oO 23 (.unOp .not 4 (xT 22))] [0,1,10,11,12,23] (cD 23 (sR [oO 6 (.assign (nB false))] [6] (.ret)) (.skip))))) (.keep [0,1,10,11,12] (.reg [oO 24 (.binOp .add 3 (xT 12) (nI 1) 3),mO 12 24] [0,1,10,11,12]))))) 
def c_canon_writer_kids : CC := sR [oN 5 (.box 25 (xT 2)) [1],oO 6 (.assign (nB false))] [0,1,5] (.seq (sR [fO 9 25 5 2,lO 10 23 9,oO 11 (bL 10 23),oO 12 (.move (nI 0))] [0,1,10,11,12] (.block 0 (.loop l1_canon_writer_kids))) (.keep [] (sR [oO 6 (.assign (nB true))] [6] (.ret))))
theorem t_canon_writer_kids : Txt Tryz.prog 98 25 [(.tmp 6)] c_canon_writer_kids := txt_of (code := Tryz.f98.body.getD .ret) mixed (by kernel_rfl) Tryz.func98 (by kernel_rfl) Tryz.ntmps98 (by kernel_rfl) (ls := lsOf c_canon_writer_kids) (by kernel_rfl)
def c_canon_writer_structure : CC := sR [oN 7 (.box 25 (xT 3)) [1],oO 8 (.assign (nB false))] [0,1,2,7] (sR [mO 9 0,oO 10 (.nilCheck (xT 9)),fO 11 88 10 0,lO 12 22 11,mO 13 1,oO 14 (.slice 22 (xT 12) (some (xT 13)) none none),fO 15 25 7 1,lO 16 22 15,oO 17 (bC .copy #[(xT 14),(xT 16)] #[22,22])] [0,1,2,7] (sR [mO 18 0,mO 19 1,mO 20 2,oO 21 (bO .add 3 19 20 3),lO 22 25 7,oO 23 (cL 98 #[(xT 18),(xT 21),(xT 22)] #[86,3,25]),aO 8 23] [8] (.ret)))
theorem t_canon_writer_structure : Txt Tryz.prog 96 24 [(.tmp 8)] c_canon_writer_structure := txt_of (code := Tryz.f96.body.getD .ret) mixed (by kernel_rfl) Tryz.func96 (by kernel_rfl) Tryz.ntmps96 (by kernel_rfl) (ls := lsOf c_canon_writer_structure) (by kernel_rfl)
def l1_canon_writer_composite : CC := sR [oO 65 (bO .lss 3 64 63 3)] [0,5,7,9,11,12,62,63,64,65] (.seq (cD 65 (.skip) (.exit 0)) (.keep [0,5,7,9,11,12,62,63,64] (.seq (.block 1 (sR [mO 66 64,oO 67 (iA 23 62 64),lO 68 25 67,oN 14 (.alloc 25) [2],aO 13 66,oS (.store 25 (xT 14) (xT 68))] [0,5,7,9,11,12,13,14,62,63,64] (sR [mO 69 0,mO 70 12,oO 71 (.binOp .add 3 (xT 70) (nI 1) 3),mO 72 13,mO 73 9,oO 74 (bO .mul 3 72 73 3),oO 75 (bO .add 3 71 74 3),mO 76 7,lO 77 25 14,oO 78 (cL 96 #[(xT 69),(xT 75),(xT 76),(xT 77)] #[86,3,3,25]),oO 79 (.unOp .not 4 (xT 78))] [0,5,7,9,11,12,62,63,64,79] (cD 79 (sR [oO 6 (.assign (nB false))] [6] (.ret)) (.skip))))) (.keep [0,5,7,9,11,12,62,63,64] (.reg [oO 80 (.binOp .add 3 (xT 64) (nI 1) 3),mO 64 80] [0,5,7,9,11,12,62,63,64])))))
def k1_canon_writer_composite : CC := sR [mO 35 0,fO 36 25 5 2,lO 37 23 36,oO 38 (bL 37 23),mO 39 9,oO 40 (bO .mul 3 38 39 3),oO 41 (.binOp .add 3 (nI 1) (xT 40) 3),oO 42 (cL 62 #[(xT 35),(xT 41)] #[86,3]),aO 12 42] [0,1,5,7,9,10,11,12] (sR [mO 43 0,oO 44 (.nilCheck (xT 43)),fO 45 88 44 0,lO 46 22 45,mO 47 12,mO 48 10,oO 49 (iA 22 46 47),oS (.store 60 (xT 49) (xT 48))] [0,1,5,7,9,11,12] (.seq (sR [mO 50 0,mO 51 1,mO 52 12,fO 53 25 5 2,lO 54 23 53,oO 55 (bL 54 23),mO 56 9,oO 57 (bO .mul 3 55 56 3),oO 58 (.build 121 #[(0,(nI 2)),(4,(nI 7)),(5,(xT 57))]),oO 59 (cL 95 #[(xT 50),(xT 51),(xT 52),(xT 58)] #[86,3,3,121]),oO 60 (.unOp .not 4 (xT 59))] [0,5,7,9,11,12,60] (cD 60 (sR [oO 6 (.assign (nB false))] [6] (.ret)) (.skip))) (.keep [0,5,7,9,11,12] (.seq (sR [fO 61 25 5 2,lO 62 23 61,oO 63 (bL 62 23),oO 64 (.move (nI 0))] [0,5,7,9,11,12,62,63,64] (.block 0 (.loop l1_canon_writer_composite))) (.keep [5,9,11] (sR [mO 81 11,mO 82 81,oG 83 (fA 25 5 2) 82 false,oG 84 (lD 23 83) 82 false,oG 85 (bL 84 23) 82 false,oG 86 (mV 9) 82 false,oG 87 (bO .add 3 85 86 3) 82 false,oG 88 (.binOp .eql 3 (xT 87) (nI 0) 3) 82 false,oO 89 (.pick (xT 82) (nB true) (xT 88)),aO 6 89] [6] (.ret))))))) 
def c_canon_writer_composite : CC := sR [oN 5 (.box 25 (xT 2)) [1],oO 6 (.assign (nB false))] [0,1,5] (sR [lO 16 25 5,oO 17 (cL 131 #[(xT 16)] #[25]),mO 15 17,xO 18 15 0,xO 19 15 1,aO 7 18,aO 8 19] [0,1,5,7,8] (sR [mO 20 7,mO 21 8,oO 22 (bO .add 3 20 21 3),aO 9 22] [0,1,5,7,8,9] (sR [fO 24 25 5 2,lO 25 23 24,oO 26 (bL 25 23),mO 27 7,mO 28 8,oO 29 (.build 121 #[(0,(nI 1)),(1,(xT 26)),(2,(xT 27)),(3,(xT 28))]),oO 30 (cL 132 #[(xT 29)] #[121]),mO 23 30,xO 31 23 0,xO 32 23 1,aO 10 31,aO 11 32] [0,1,5,7,9,10,11] (.seq (sR [mO 33 11,oO 34 (.unOp .not 4 (xT 33))] [0,1,5,7,9,10,11,34] (cD 34 (.reg [oO 10 (.assign (.const (.int .u64 0)))] [0,1,5,7,9,10,11]) (.skip))) (.keep [0,1,5,7,9,10,11] k1_canon_writer_composite)))))
theorem t_canon_writer_composite : Txt Tryz.prog 97 90 [(.tmp 6)] c_canon_writer_composite := txt_of (code := Tryz.f97.body.getD .ret) mixed (by kernel_rfl) Tryz.func97 (by kernel_rfl) Tryz.ntmps97 (by kernel_rfl) (ls := lsOf c_canon_writer_composite) (by kernel_rfl)
def c_canon_Encode : CC := sR [oN 2 (.box 25 (xT 0)) [0],oO 4 (.assign nS),oO 5 (.assign (nB false))] [1,2] (.seq (sR [lO 9 25 2,oO 10 (cL 58 #[(xT 9)] #[25]),oO 11 (.unOp .not 4 (xT 10)),mO 12 11,oG 13 (fA 25 2 0) 12 false,oG 14 (lD 3 13) 12 false,oG 15 (.binOp .eql 3 (xT 14) (nI 10) 3) 12 false,oO 16 (.pick (xT 12) (nB true) (xT 15))] [1,2,16] (cD 16 (sR [oO 4 (.assign nS),oO 5 (.assign (nB false))] [4,5] (.ret)) (.skip))) (.keep [1,2] (sR [lO 17 25 2,oO 18 (cL 59 #[(xT 17)] #[25]),oS (.store 25 (xT 2) (xT 18))] [1,2] (.seq (sR [lO 19 25 2,oO 20 (cL 60 #[(xT 19)] #[25]),aO 6 20] [1,2,6] (sR [mO 21 6,mO 22 1,oO 23 (bO .geq 3 21 22 3),mO 24 23,oG 25 (mV 6) 24 false,oG 26 (.binOp .geq 3 (xT 25) (nI 131072) 3) 24 false,oO 27 (.pick (xT 24) (nB true) (xT 26))] [2,27] (cD 27 (sR [oO 4 (.assign nS),oO 5 (.assign (nB false))] [4,5] (.ret)) (.skip)))) (.keep [2] (sR [oO 28 (.build 88 #[]),oN 29 (.box 88 (xT 28)) [1],aO 7 29] [2,7] (.stop (sR [mO 30 7,mO 31 7,⟨some 32,(cL 62 #[(xT 31),(nI 1)] #[86,3]),none,[],2,[],true⟩,⟨some 33,(lD 25 2),none,[],3,[2],false⟩,oO 34 (cL 61 #[(xT 30),(xT 32),(xT 33)] #[86,3,25]),aO 8 34] [7,8] (sR [mO 35 7,oO 36 (.nilCheck (xT 35)),fO 37 88 36 0,lO 38 22 37,mO 39 8,aO 4 38,aO 5 39] [4,5] (.ret))))))))))
theorem t_canon_Encode : Txt Tryz.prog 30 40 [(.tmp 4),(.tmp 5)] c_canon_Encode := txt_of (code := Tryz.f30.body.getD .ret) mixed (by kernel_rfl) Tryz.func30 (by kernel_rfl) Tryz.ntmps30 (by kernel_rfl) (ls := lsOf c_canon_Encode) (by kernel_rfl)
def c_canon_Decode : CC := sR [oN 3 (.box 58 (xT 1)) [0],oN 4 (.alloc 25) [1],oO 5 (.assign (nI 0))] [0,3,4] (sR [mO 11 0,⟨some 12,(.buildSlice 56 1 #[(0,(xT 11))]),none,[],1,[],true⟩,⟨some 13,(cL 32 #[(xT 12)] #[56]),none,[],2,[],true⟩,⟨some 14,(lD 58 3),none,[],3,[1,2],true⟩,⟨some 15,(cL 85 #[(xT 13),(xT 14)] #[54,58]),none,[],4,[],true⟩,mO 10 15,xO 16 10 0,xO 17 10 1,⟨some 6,(.alloc 25),none,[2],8,[1,2,3,4],false⟩,oS (.store 25 (xT 6) (xT 16)),aO 7 17] [0,4,6,7] (.seq (sR [mO 18 7,oO 19 (.binOp .neq 45 (xT 18) (nI 0) 45)] [0,4,6,7,19] (cD 19 (sR [oO 20 (.build 25 #[]),mO 21 7,oS (.store 25 (xT 4) (xT 20)),aO 5 21] [4,5] (.ret)) (.skip))) (.keep [0,4,6] (.seq (sR [lO 23 25 6,oO 24 (cL 30 #[(xT 23),(nI 131072)] #[25,3]),mO 22 24,xO 25 22 0,xO 26 22 1,aO 8 25,aO 9 26] [0,4,6,8,9] (sR [mO 27 9,oO 28 (.unOp .not 4 (xT 27)),mO 29 28,oG 30 (mV 0) 29 false,oG 31 (mV 8) 29 false,oG 32 (cL 74 #[(xT 30),(xT 31)] #[22,22]) 29 false,oG 33 (.unOp .not 4 (xT 32)) 29 false,oO 34 (.pick (xT 29) (nB true) (xT 33))] [4,6,34] (cD 34 (sR [oO 35 (.build 25 #[]),oS (.store 25 (xT 4) (xT 35)),oO 5 (.assign (nI 5))] [4,5] (.ret)) (.skip)))) (.keep [4,6] (sR [lO 36 25 6,oS (.store 25 (xT 4) (xT 36)),oO 5 (.assign (nI 0))] [4,5] (.ret)))))))
theorem t_canon_Decode : Txt Tryz.prog 55 37 [(.cell 4 25),(.tmp 5)] c_canon_Decode := txt_of (code := Tryz.f55.body.getD .ret) mixed (by kernel_rfl) Tryz.func55 (by kernel_rfl) Tryz.ntmps55 (by kernel_rfl) (ls := lsOf c_canon_Decode) (by kernel_rfl)
def c_valid_meter_spend : CC := sR [oO 4 (.assign (nB false))] [0,1] (.seq (sR [mO 5 1,mO 6 0,oO 7 (.nilCheck (xT 6)),fO 8 98 7 1,lO 9 3 8,mO 10 0,oO 11 (.nilCheck (xT 10)),fO 12 98 11 0,lO 13 3 12,oO 14 (bO .sub 3 9 13 3),oO 15 (bO .gtr 3 5 14 3)] [0,1,15] (cD 15 (sR [oO 4 (.assign (nB false))] [4] (.ret)) (.skip))) (.keep [0,1] (sR [mO 16 0,oO 17 (.nilCheck (xT 16)),fO 18 98 17 0,lO 19 3 18,mO 20 1,oO 21 (bO .add 3 19 20 3),oO 22 (.nilCheck (xT 16)),fO 23 98 22 0,oS (.store 3 (xT 23) (xT 21))] [] (sR [oO 4 (.assign (nB true))] [4] (.ret)))))
theorem t_valid_meter_spend : Txt Tryz.prog 103 24 [(.tmp 4)] c_valid_meter_spend := txt_of (code := Tryz.f103.body.getD .ret) mixed (by kernel_rfl) Tryz.func103 (by kernel_rfl) Tryz.ntmps103 (by kernel_rfl) (ls := lsOf c_valid_meter_spend) (by kernel_rfl)
def c_valid_own : CC := sR [oN 1 (.box 93 (xT 0)) [0],oO 2 (.assign (nI 0))] [1] (.seq (.block 0 (sR [lO 6 93 1,oO 7 (cL 101 #[(xT 6)] #[93]),oO 8 (.binOp .eql 3 (xT 7) (nI 1) 3),aO 5 8] [1,5] (cD 5 (sR [lO 9 93 1,⟨some 10,(cL 137 #[(xT 9)] #[93]),none,[],1,[],true⟩,oO 11 (.binOp .add 3 (nI 1) (xT 10) 3),⟨some 12,(lD 93 1),none,[],3,[1],false⟩,oO 13 (cL 102 #[(xT 12)] #[93]),oO 14 (bO .add 3 11 13 3),aO 2 14] [2] (.ret)) (sR [lO 16 93 1,oO 17 (cL 101 #[(xT 16)] #[93]),oO 18 (.binOp .eql 3 (xT 17) (nI 9) 3),aO 15 18] [1,15] (cD 15 (sR [lO 20 93 1,oO 21 (cL 138 #[(xT 20)] #[93]),mO 19 21,xO 22 19 0,xO 23 19 1,aO 3 22,aO 4 23] [1,3,4] (sR [lO 24 93 1,oO 25 (cL 102 #[(xT 24)] #[93]),mO 26 3,oO 27 (.binOp .add 3 (nI 1) (xT 26) 3),mO 28 4,oO 29 (bO .add 3 27 28 3),oO 30 (bO .mul 3 25 29 3),oO 31 (.binOp .add 3 (nI 1) (xT 30) 3),aO 2 31] [2] (.ret))) (.skip)))))) (.keep [1] (sR [lO 32 93 1,oO 33 (cL 102 #[(xT 32)] #[93]),oO 34 (.binOp .add 3 (nI 1) (xT 33) 3),aO 2 34] [2] (.ret))))
theorem t_valid_own : Txt Tryz.prog 104 35 [(.tmp 2)] c_valid_own := txt_of (code := Tryz.f104.body.getD .ret) mixed (by kernel_rfl) Tryz.func104 (by kernel_rfl) Tryz.ntmps104 (by kernel_rfl) (ls := lsOf c_valid_own) (by kernel_rfl)
def l1_valid_meter_walk : CC := sR [oO 44 (bO .lss 3 43 42 3)] [0,4,7,42,43,44] (.seq (cD 44 (.skip) (.exit 0)) (.keep [0,4,7,42,43] (.seq (.block 1 (sR [mO 45 43,aO 8 45] [0,4,7,8,42,43] (sR [mO 46 0,lO 47 93 4,mO 48 8,mO 49 7,oO 50 (cL 106 #[(xT 46),(xT 47),(xT 48),(xT 49)] #[96,93,3,3]),aO 9 50] [0,4,7,9,42,43] (sR [mO 51 9,oO 52 (.binOp .neq 45 (xT 51) (nI 0) 45)] [0,4,7,9,42,43,52] (cD 52 (sR [mO 53 9,aO 6 53] [6] (.ret)) (.skip)))))) (.keep [0,4,7,42,43] (.reg [oO 54 (.binOp .add 3 (xT 43) (nI 1) 3),mO 43 54] [0,4,7,42,43])))))
def k1_valid_meter_walk : CC := .seq (sR [mO 25 2,oO 26 (.binOp .lss 3 (xT 25) (nI 1) 3),mO 27 26,oG 28 (mV 7) 27 false,oG 29 (.binOp .lss 3 (xT 28) (nI 0) 3) 27 false,oO 30 (.pick (xT 27) (nB true) (xT 29)),mO 31 30,oG 32 (mV 0) 31 false,oG 33 (lD 93 4) 31 false,oG 34 (cL 104 #[(xT 33)] #[93]) 31 false,oG 35 (cL 103 #[(xT 32),(xT 34)] #[96,3]) 31 false,oG 36 (.unOp .not 4 (xT 35)) 31 false,oO 37 (.pick (xT 31) (nB true) (xT 36))] [0,4,7,37] (cD 37 (sR [oO 6 (.assign (nI 3))] [6] (.ret)) (.skip))) (.keep [0,4,7] (.seq (sR [lO 38 93 4,oO 39 (cL 101 #[(xT 38)] #[93]),oO 40 (cL 105 #[(xT 39)] #[3])] [0,4,7,40] (cD 40 (sR [oO 6 (.assign (nI 0))] [6] (.ret)) (.skip))) (.keep [0,4,7] (.seq (sR [lO 41 93 4,oO 42 (cL 102 #[(xT 41)] #[93]),oO 43 (.move (nI 0))] [0,4,7,42,43] (.block 0 (.loop l1_valid_meter_walk))) (.keep [] (sR [oO 6 (.assign (nI 0))] [6] (.ret))))))) 
def c_valid_meter_walk : CC := sR [oN 4 (.box 93 (xT 1)) [1],oO 6 (.assign (nI 0))] [0,2,4] (.seq (sR [lO 10 93 4,oO 11 (cL 101 #[(xT 10)] #[93]),oO 12 (.binOp .eql 3 (xT 11) (nI 0) 3)] [0,2,4,12] (cD 12 (sR [oO 6 (.assign (nI 0))] [6] (.ret)) (.skip))) (.keep [0,2,4] (sR [mO 13 2,oO 14 (.binOp .sub 3 (xT 13) (nI 1) 3),aO 7 14] [0,2,4,7] (.seq (sR [lO 15 93 4,oO 16 (cL 101 #[(xT 15)] #[93]),oO 17 (.binOp .eql 3 (xT 16) (nI 9) 3),mO 18 17,oG 19 (lD 93 4) 18 true,oG 20 (cL 102 #[(xT 19)] #[93]) 18 true,oG 21 (.binOp .gtr 3 (xT 20) (nI 0) 3) 18 true,oO 22 (.pick (xT 18) (xT 21) (nB false))] [0,2,4,7,22] (cD 22 (.reg [mO 23 7,oO 24 (.binOp .sub 3 (xT 23) (nI 1) 3),aO 7 24] [0,2,4,7]) (.skip))) (.keep [0,2,4,7] k1_valid_meter_walk)))))
theorem t_valid_meter_walk : Txt Tryz.prog 65 55 [(.tmp 6)] c_valid_meter_walk := txt_of (code := Tryz.f65.body.getD .ret) mixed (by kernel_rfl) Tryz.func65 (by kernel_rfl) Tryz.ntmps65 (by kernel_rfl) (ls := lsOf c_valid_meter_walk) (by kernel_rfl)
def l1_valid_meter_kid : CC := sR [oO 32 (bO .lss 3 31 30 3)] [0,3,9,30,31,32] (.seq (cD 32 (.skip) (.exit 0)) (.keep [0,3,9,30,31] (.seq (.block 1 (sR [mO 33 31,aO 11 33] [0,3,9,11,30,31] (sR [mO 34 0,lO 35 93 9,mO 36 11,mO 37 3,oO 38 (cL 106 #[(xT 34),(xT 35),(xT 36),(xT 37)] #[96,93,3,3]),aO 12 38] [0,3,9,12,30,31] (sR [mO 39 12,oO 40 (.binOp .neq 45 (xT 39) (nI 0) 45)] [0,3,9,12,30,31,40] (cD 40 (sR [mO 41 12,aO 8 41] [8] (.ret)) (.skip)))))) (.keep [0,3,9,30,31] (.reg [oO 42 (.binOp .add 3 (xT 31) (nI 1) 3),mO 31 42] [0,3,9,30,31]))))) 
def c_valid_meter_kid : CC := sR [oN 5 (.box 93 (xT 1)) [1],oO 8 (.assign (nI 0))] [0,2,3,5] (sR [lO 14 93 5,mO 15 2,oO 16 (cL 139 #[(xT 14),(xT 15)] #[93,3]),mO 13 16,xO 17 13 0,xO 18 13 1,oN 9 (.alloc 93) [2],oS (.store 93 (xT 9) (xT 17)),aO 10 18] [0,3,5,9,10] (.seq (sR [mO 19 10,oO 20 (.binOp .neq 45 (xT 19) (nI 0) 45)] [0,3,5,9,10,20] (cD 20 (sR [mO 21 10,aO 8 21] [8] (.ret)) (.skip))) (.keep [0,3,5,9] (.seq (sR [lO 22 93 5,oO 23 (cL 101 #[(xT 22)] #[93]),oO 24 (.binOp .neq 3 (xT 23) (nI 9) 3)] [0,3,9,24] (cD 24 (sR [mO 25 0,lO 26 93 9,mO 27 3,oO 28 (cL 65 #[(xT 25),(xT 26),(xT 27)] #[96,93,3]),aO 8 28] [8] (.ret)) (.skip))) (.keep [0,3,9] (.seq (sR [lO 29 93 9,oO 30 (cL 102 #[(xT 29)] #[93]),oO 31 (.move (nI 0))] [0,3,9,30,31] (.block 0 (.loop l1_valid_meter_kid))) (.keep [] (sR [oO 8 (.assign (nI 0))] [8] (.ret)))))))))
theorem t_valid_meter_kid : Txt Tryz.prog 106 43 [(.tmp 8)] c_valid_meter_kid := txt_of (code := Tryz.f106.body.getD .ret) mixed (by kernel_rfl) Tryz.func106 (by kernel_rfl) Tryz.ntmps106 (by kernel_rfl) (ls := lsOf c_valid_meter_kid) (by kernel_rfl)
def c_valid_Limits : CC := sR [oN 1 (.box 58 (xT 0)) [0],oN 2 (.alloc 58) [1]] [1,2] (sR [fO 3 58 1 0,lO 4 3 3,oO 5 (bC .max #[(xT 4),(nI 0)] #[3,3]),oO 6 (bC .min #[(xT 5),(nI 64)] #[3,3]),fO 7 58 1 1,lO 8 3 7,oO 9 (bC .max #[(xT 8),(nI 0)] #[3,3]),oO 10 (bC .min #[(xT 9),(nI 65536)] #[3,3]),fO 11 58 1 2,lO 12 3 11,oO 13 (bC .max #[(xT 12),(nI 0)] #[3,3]),oO 14 (bC .min #[(xT 13),(nI 4096)] #[3,3]),fO 15 58 1 3,lO 16 3 15,oO 17 (bC .max #[(xT 16),(nI 0)] #[3,3]),oO 18 (bC .min #[(xT 17),(nI 131072)] #[3,3]),oO 19 (.build 58 #[(0,(xT 6)),(1,(xT 10)),(2,(xT 14)),(3,(xT 18))]),oS (.store 58 (xT 2) (xT 19))] [2] (.ret))
theorem t_valid_Limits : Txt Tryz.prog 63 20 [(.cell 2 58)] c_valid_Limits := txt_of (code := Tryz.f63.body.getD .ret) mixed (by kernel_rfl) Tryz.func63 (by kernel_rfl) Tryz.ntmps63 (by kernel_rfl) (ls := lsOf c_valid_Limits) (by kernel_rfl)
def c_valid_Check : CC := sR [oN 3 (.box 58 (xT 1)) [0],oO 4 (.assign (nI 0)),oO 5 (.assign (nI 0))] [0,3] (sR [lO 10 58 3,oO 11 (cL 63 #[(xT 10)] #[58]),oS (.store 58 (xT 3) (xT 11))] [0,3] (sR [mO 13 0,oO 14 (cL 64 #[(xT 13)] #[54]),mO 12 14,xO 15 12 0,xO 16 12 1,oN 6 (.alloc 93) [1],oS (.store 93 (xT 6) (xT 15)),aO 7 16] [3,6,7] (.seq (sR [mO 17 7,oO 18 (.binOp .neq 45 (xT 17) (nI 0) 45)] [3,6,7,18] (cD 18 (sR [mO 19 7,oO 4 (.assign (nI 0)),aO 5 19] [4,5] (.ret)) (.skip))) (.keep [3,6] (sR [fO 20 58 3 1,lO 21 3 20,oO 22 (.build 98 #[(1,(xT 21))]),oN 23 (.box 98 (xT 22)) [2],aO 8 23] [3,6,8] (.seq (sR [mO 24 8,lO 25 93 6,fO 26 58 3 0,lO 27 3 26,oO 28 (cL 65 #[(xT 24),(xT 25),(xT 27)] #[96,93,3]),aO 9 28] [8,9] (sR [mO 29 9,oO 30 (.binOp .neq 45 (xT 29) (nI 0) 45)] [8,9,30] (cD 30 (sR [mO 31 9,oO 4 (.assign (nI 0)),aO 5 31] [4,5] (.ret)) (.skip)))) (.keep [8] (sR [mO 32 8,oO 33 (.nilCheck (xT 32)),fO 34 98 33 0,lO 35 3 34,aO 4 35,oO 5 (.assign (nI 0))] [4,5] (.ret)))))))))
theorem t_valid_Check : Txt Tryz.prog 31 36 [(.tmp 4),(.tmp 5)] c_valid_Check := txt_of (code := Tryz.f31.body.getD .ret) mixed (by kernel_rfl) Tryz.func31 (by kernel_rfl) Tryz.ntmps31 (by kernel_rfl) (ls := lsOf c_valid_Check) (by kernel_rfl)
def c_reader_Ref_Frame : CC := sR [oN 1 (.box 93 (xT 0)) [0],oO 2 (.assign (nI 0)),oO 3 (.assign (nI 0))] [1] (.seq (sR [fO 4 93 1 1,lO 5 3 4,oO 6 (.binOp .neq 3 (xT 5) (nI 9) 3)] [1,6] (cD 6 (sR [oO 2 (.assign (nI 0)),oO 3 (.assign (nI 0))] [2,3] (.ret)) (.skip))) (.keep [1] (sR [fO 7 93 1 4,lO 8 3 7,fO 9 93 1 5,lO 10 3 9,aO 2 8,aO 3 10] [2,3] (.ret))))
theorem t_reader_Ref_Frame : Txt Tryz.prog 138 11 [(.tmp 2),(.tmp 3)] c_reader_Ref_Frame := txt_of (code := Tryz.f138.body.getD .ret) mixed (by kernel_rfl) Tryz.func138 (by kernel_rfl) Tryz.ntmps138 (by kernel_rfl) (ls := lsOf c_reader_Ref_Frame) (by kernel_rfl)
def c_unfold_Message : CC := sR [oN 3 (.box 58 (xT 1)) [0],oN 4 (.alloc 25) [1],oO 5 (.assign (nI 0))] [0,3,4] (.seq (sR [mO 12 0,lO 13 58 3,oO 14 (cL 31 #[(xT 12),(xT 13)] #[54,58]),mO 11 14,xO 15 11 0,xO 16 11 1,aO 6 15,aO 7 16] [0,4,7] (sR [mO 17 7,oO 18 (.binOp .neq 45 (xT 17) (nI 0) 45)] [0,4,7,18] (cD 18 (sR [oO 19 (.build 25 #[]),mO 20 7,oS (.store 25 (xT 4) (xT 19)),aO 5 20] [4,5] (.ret)) (.skip)))) (.keep [0,4] (sR [mO 22 0,oO 23 (cL 64 #[(xT 22)] #[54]),mO 21 23,xO 24 21 0,xO 25 21 1,oN 8 (.alloc 93) [2],oS (.store 93 (xT 8) (xT 24)),aO 9 25] [4,8,9] (.seq (sR [mO 26 9,oO 27 (.binOp .neq 45 (xT 26) (nI 0) 45)] [4,8,9,27] (cD 27 (sR [oO 28 (.build 25 #[]),mO 29 9,oS (.store 25 (xT 4) (xT 28)),aO 5 29] [4,5] (.ret)) (.skip))) (.keep [4,8] (sR [lO 31 93 8,oO 32 (cL 124 #[(xT 31)] #[93]),mO 30 32,xO 33 30 0,xO 34 30 1,oN 10 (.alloc 25) [3],oS (.store 25 (xT 10) (xT 33)),aO 9 34] [4,9,10] (sR [lO 35 25 10,oO 36 (cL 59 #[(xT 35)] #[25]),mO 37 9,oS (.store 25 (xT 4) (xT 36)),aO 5 37] [4,5] (.ret))))))))
theorem t_unfold_Message : Txt Tryz.prog 85 38 [(.cell 4 25),(.tmp 5)] c_unfold_Message := txt_of (code := Tryz.f85.body.getD .ret) mixed (by kernel_rfl) Tryz.func85 (by kernel_rfl) Tryz.ntmps85 (by kernel_rfl) (ls := lsOf c_unfold_Message) (by kernel_rfl)
def l1_centoref20_sameTrees : CC := .seq (sR [mO 11 5,mO 12 0,oO 13 (bL 12 23),oO 14 (bO .lss 3 11 13 3)] [0,1,5,14] (cD 14 (.skip) (.exit 0))) (.keep [0,1,5] (.seq (.block 1 (sR [mO 17 0,mO 18 5,oO 19 (iA 23 17 18),lO 20 25 19,mO 21 1,mO 22 5,oO 23 (iA 23 21 22),lO 24 25 23,oO 25 (cL 43 #[(xT 20),(xT 24)] #[25,25]),oO 26 (.unOp .not 4 (xT 25))] [0,1,5,26] (cD 26 (sR [oO 4 (.assign (nB false))] [4] (.ret)) (.skip)))) (.keep [0,1,5] (.reg [mO 15 5,oO 16 (.binOp .add 3 (xT 15) (nI 1) 3),aO 5 16] [0,1,5])))) 
def c_centoref20_sameTrees : CC := sR [oO 4 (.assign (nB false))] [0,1] (.seq (sR [mO 6 0,oO 7 (bL 6 23),mO 8 1,oO 9 (bL 8 23),oO 10 (bO .neq 3 7 9 3)] [0,1,10] (cD 10 (sR [oO 4 (.assign (nB false))] [4] (.ret)) (.skip))) (.keep [0,1] (.seq (sR [oO 5 (.assign (nI 0))] [0,1,5] (.block 0 (.loop l1_centoref20_sameTrees))) (.keep [] (sR [oO 4 (.assign (nB true))] [4] (.ret))))))
theorem t_centoref20_sameTrees : Txt Tryz.prog 44 27 [(.tmp 4)] c_centoref20_sameTrees := txt_of (code := Tryz.f44.body.getD .ret) mixed (by kernel_rfl) Tryz.func44 (by kernel_rfl) Tryz.ntmps44 (by kernel_rfl) (ls := lsOf c_centoref20_sameTrees) (by kernel_rfl)
def l1_centoref20_Equal : CC := .seq (sR [mO 65 5,fO 66 30 2 3,lO 67 26 66,oO 68 (bL 67 26),oO 69 (bO .lss 3 65 68 3)] [2,3,5,69] (cD 69 (.skip) (.exit 0))) (.keep [2,3,5] (.seq (.block 1 (sR [fO 72 30 2 3,lO 73 26 72,mO 74 5,oO 75 (iA 26 73 74),lO 76 63 75,fO 77 30 3 3,lO 78 26 77,mO 79 5,oO 80 (iA 26 78 79),lO 81 63 80,oO 82 (bO .neq 63 76 81 63)] [2,3,5,82] (cD 82 (sR [oO 4 (.assign (nB false))] [4] (.ret)) (.skip)))) (.keep [2,3,5] (.reg [mO 70 5,oO 71 (.binOp .add 3 (xT 70) (nI 1) 3),aO 5 71] [2,3,5]))))
def l2_centoref20_Equal : CC := .seq (sR [mO 83 6,fO 84 30 2 4,lO 85 27 84,oO 86 (bL 85 27),oO 87 (bO .lss 3 83 86 3)] [2,3,6,87] (cD 87 (.skip) (.exit 2))) (.keep [2,3,6] (.seq (.block 3 (sR [fO 90 30 2 4,lO 91 27 90,mO 92 6,oO 93 (iA 27 91 92),fO 94 66 93 0,lO 95 3 94,fO 96 30 3 4,lO 97 27 96,mO 98 6,oO 99 (iA 27 97 98),fO 100 66 99 0,lO 101 3 100,oO 102 (bO .neq 3 95 101 3),mO 103 102,oG 104 (fA 30 2 4) 103 false,oG 105 (lD 27 104) 103 false,oG 106 (mV 6) 103 false,oG 107 (iA 27 105 106) 103 false,oG 108 (fA 66 107 1) 103 false,oG 109 (lD 30 108) 103 false,oG 110 (fA 30 3 4) 103 false,oG 111 (lD 27 110) 103 false,oG 112 (mV 6) 103 false,oG 113 (iA 27 111 112) 103 false,oG 114 (fA 66 113 1) 103 false,oG 115 (lD 30 114) 103 false,oG 116 (cL 18 #[(xT 109),(xT 115)] #[30,30]) 103 false,oG 117 (.unOp .not 4 (xT 116)) 103 false,oO 118 (.pick (xT 103) (nB true) (xT 117))] [2,3,6,118] (cD 118 (sR [oO 4 (.assign (nB false))] [4] (.ret)) (.skip)))) (.keep [2,3,6] (.reg [mO 88 6,oO 89 (.binOp .add 3 (xT 88) (nI 1) 3),aO 6 89] [2,3,6]))))
def l3_centoref20_Equal : CC := .seq (sR [mO 119 7,fO 120 30 2 6,lO 121 28 120,oO 122 (bL 121 28),oO 123 (bO .lss 3 119 122 3)] [2,3,7,123] (cD 123 (.skip) (.exit 4))) (.keep [2,3,7] (.seq (.block 5 (sR [fO 126 30 2 6,⟨some 127,(lD 28 126),none,[],1,[],true⟩,mO 128 7,oO 129 (iA 28 127 128),⟨some 130,(lD 69 129),none,[],4,[],true⟩,fO 131 30 3 6,⟨some 132,(lD 28 131),none,[],6,[],true⟩,mO 133 7,oO 134 (iA 28 132 133),⟨some 135,(lD 69 134),none,[],9,[],true⟩,⟨some 8,(.alloc 69),none,[2],10,[1,4,6,9],true⟩,⟨some 9,(.alloc 69),none,[3],11,[1,4,6,9,10],false⟩,⟨none,(.store 69 (xT 8) (xT 130)),none,[],12,[6,9],false⟩,oS (.store 69 (xT 9) (xT 135))] [2,3,7,8,9] (sR [fO 136 69 8 0,lO 137 3 136,fO 138 69 9 0,lO 139 3 138,oO 140 (bO .neq 3 137 139 3),mO 141 140,oG 142 (fA 69 8 1) 141 false,oG 143 (lD 3 142) 141 false,oG 144 (fA 69 9 1) 141 false,oG 145 (lD 3 144) 141 false,oG 146 (bO .neq 3 143 145 3) 141 false,oO 147 (.pick (xT 141) (nB true) (xT 146)),mO 148 147,oG 149 (fA 69 8 2) 148 false,oG 150 (lD 23 149) 148 false,oG 151 (fA 69 9 2) 148 false,oG 152 (lD 23 151) 148 false,oG 153 (cL 44 #[(xT 150),(xT 152)] #[23,23]) 148 false,oG 154 (.unOp .not 4 (xT 153)) 148 false,oO 155 (.pick (xT 148) (nB true) (xT 154)),mO 156 155,oG 157 (fA 69 8 3) 156 false,oG 158 (lD 30 157) 156 false,oG 159 (fA 69 9 3) 156 false,oG 160 (lD 30 159) 156 false,oG 161 (cL 18 #[(xT 158),(xT 160)] #[30,30]) 156 false,oG 162 (.unOp .not 4 (xT 161)) 156 false,oO 163 (.pick (xT 156) (nB true) (xT 162))] [2,3,7,163] (cD 163 (sR [oO 4 (.assign (nB false))] [4] (.ret)) (.skip))))) (.keep [2,3,7] (.reg [mO 124 7,oO 125 (.binOp .add 3 (xT 124) (nI 1) 3),aO 7 125] [2,3,7])))) 
def c_centoref20_Equal : CC := sR [oN 2 (.box 30 (xT 0)) [0],oN 3 (.box 30 (xT 1)) [1],oO 4 (.assign (nB false))] [2,3] (.seq (sR [fO 10 30 2 0,lO 11 3 10,fO 12 30 3 0,lO 13 3 12,oO 14 (bO .neq 3 11 13 3),mO 15 14,oG 16 (fA 30 2 5) 15 false,oG 17 (lD 3 16) 15 false,oG 18 (fA 30 3 5) 15 false,oG 19 (lD 3 18) 15 false,oG 20 (bO .neq 3 17 19 3) 15 false,oO 21 (.pick (xT 15) (nB true) (xT 20)),mO 22 21,oG 23 (fA 30 2 1) 22 false,oG 24 (lD 25 23) 22 false,oG 25 (fA 30 3 1) 22 false,oG 26 (lD 25 25) 22 false,oG 27 (cL 43 #[(xT 24),(xT 26)] #[25,25]) 22 false,oG 28 (.unOp .not 4 (xT 27)) 22 false,oO 29 (.pick (xT 22) (nB true) (xT 28)),mO 30 29,oG 31 (fA 30 2 2) 30 false,oG 32 (lD 25 31) 30 false,oG 33 (fA 30 3 2) 30 false,oG 34 (lD 25 33) 30 false,oG 35 (cL 43 #[(xT 32),(xT 34)] #[25,25]) 30 false,oG 36 (.unOp .not 4 (xT 35)) 30 false,oO 37 (.pick (xT 30) (nB true) (xT 36)),mO 38 37,oG 39 (fA 30 2 3) 38 false,oG 40 (lD 26 39) 38 false,oG 41 (bL 40 26) 38 false,oG 42 (fA 30 3 3) 38 false,oG 43 (lD 26 42) 38 false,oG 44 (bL 43 26) 38 false,oG 45 (bO .neq 3 41 44 3) 38 false,oO 46 (.pick (xT 38) (nB true) (xT 45)),mO 47 46,oG 48 (fA 30 2 4) 47 false,oG 49 (lD 27 48) 47 false,oG 50 (bL 49 27) 47 false,oG 51 (fA 30 3 4) 47 false,oG 52 (lD 27 51) 47 false,oG 53 (bL 52 27) 47 false,oG 54 (bO .neq 3 50 53 3) 47 false,oO 55 (.pick (xT 47) (nB true) (xT 54)),mO 56 55,oG 57 (fA 30 2 6) 56 false,oG 58 (lD 28 57) 56 false,oG 59 (bL 58 28) 56 false,oG 60 (fA 30 3 6) 56 false,oG 61 (lD 28 60) 56 false,oG 62 (bL 61 28) 56 false,oG 63 (bO .neq 3 59 62 3) 56 false,oO 64 (.pick (xT 56) (nB true) (xT 63))] [2,3,64] (cD 64 (sR [oO 4 (.assign (nB false))] [4] (.ret)) (.skip))) (.keep [2,3] (.seq (sR [oO 5 (.assign (nI 0))] [2,3,5] (.block 0 (.loop l1_centoref20_Equal))) (.keep [2,3] (.seq (sR [oO 6 (.assign (nI 0))] [2,3,6] (.block 2 (.loop l2_centoref20_Equal))) (.keep [2,3] (.seq (sR [oO 7 (.assign (nI 0))] [2,3,7] (.block 4 (.loop l3_centoref20_Equal))) (.keep [] (sR [oO 4 (.assign (nB true))] [4] (.ret))))))))))
theorem t_centoref20_Equal : Txt Tryz.prog 18 164 [(.tmp 4)] c_centoref20_Equal := txt_of (code := Tryz.f18.body.getD .ret) mixed (by kernel_rfl) Tryz.func18 (by kernel_rfl) Tryz.ntmps18 (by kernel_rfl) (ls := lsOf c_centoref20_Equal) (by kernel_rfl)
def l1_centoref22_sameTrees : CC := .seq (sR [mO 11 5,mO 12 0,oO 13 (bL 12 23),oO 14 (bO .lss 3 11 13 3)] [0,1,5,14] (cD 14 (.skip) (.exit 0))) (.keep [0,1,5] (.seq (.block 1 (sR [mO 17 0,mO 18 5,oO 19 (iA 23 17 18),lO 20 25 19,mO 21 1,mO 22 5,oO 23 (iA 23 21 22),lO 24 25 23,oO 25 (cL 14 #[(xT 20),(xT 24)] #[25,25]),oO 26 (.unOp .not 4 (xT 25))] [0,1,5,26] (cD 26 (sR [oO 4 (.assign (nB false))] [4] (.ret)) (.skip)))) (.keep [0,1,5] (.reg [mO 15 5,oO 16 (.binOp .add 3 (xT 15) (nI 1) 3),aO 5 16] [0,1,5])))) 
def c_centoref22_sameTrees : CC := sR [oO 4 (.assign (nB false))] [0,1] (.seq (sR [mO 6 0,oO 7 (bL 6 23),mO 8 1,oO 9 (bL 8 23),oO 10 (bO .neq 3 7 9 3)] [0,1,10] (cD 10 (sR [oO 4 (.assign (nB false))] [4] (.ret)) (.skip))) (.keep [0,1] (.seq (sR [oO 5 (.assign (nI 0))] [0,1,5] (.block 0 (.loop l1_centoref22_sameTrees))) (.keep [] (sR [oO 4 (.assign (nB true))] [4] (.ret))))))
theorem t_centoref22_sameTrees : Txt Tryz.prog 47 27 [(.tmp 4)] c_centoref22_sameTrees := txt_of (code := Tryz.f47.body.getD .ret) mixed (by kernel_rfl) Tryz.func47 (by kernel_rfl) Tryz.ntmps47 (by kernel_rfl) (ls := lsOf c_centoref22_sameTrees) (by kernel_rfl)
def l1_centoref22_Same : CC := .seq (sR [mO 65 5,fO 66 30 2 3,lO 67 26 66,oO 68 (bL 67 26),oO 69 (bO .lss 3 65 68 3)] [2,3,5,69] (cD 69 (.skip) (.exit 0))) (.keep [2,3,5] (.seq (.block 1 (sR [fO 72 30 2 3,lO 73 26 72,mO 74 5,oO 75 (iA 26 73 74),lO 76 63 75,fO 77 30 3 3,lO 78 26 77,mO 79 5,oO 80 (iA 26 78 79),lO 81 63 80,oO 82 (bO .neq 63 76 81 63)] [2,3,5,82] (cD 82 (sR [oO 4 (.assign (nB false))] [4] (.ret)) (.skip)))) (.keep [2,3,5] (.reg [mO 70 5,oO 71 (.binOp .add 3 (xT 70) (nI 1) 3),aO 5 71] [2,3,5]))))
def l2_centoref22_Same : CC := .seq (sR [mO 83 6,fO 84 30 2 4,lO 85 27 84,oO 86 (bL 85 27),oO 87 (bO .lss 3 83 86 3)] [2,3,6,87] (cD 87 (.skip) (.exit 2))) (.keep [2,3,6] (.seq (.block 3 (sR [fO 90 30 2 4,lO 91 27 90,mO 92 6,oO 93 (iA 27 91 92),fO 94 66 93 0,lO 95 3 94,fO 96 30 3 4,lO 97 27 96,mO 98 6,oO 99 (iA 27 97 98),fO 100 66 99 0,lO 101 3 100,oO 102 (bO .neq 3 95 101 3),mO 103 102,oG 104 (fA 30 2 4) 103 false,oG 105 (lD 27 104) 103 false,oG 106 (mV 6) 103 false,oG 107 (iA 27 105 106) 103 false,oG 108 (fA 66 107 1) 103 false,oG 109 (lD 30 108) 103 false,oG 110 (fA 30 3 4) 103 false,oG 111 (lD 27 110) 103 false,oG 112 (mV 6) 103 false,oG 113 (iA 27 111 112) 103 false,oG 114 (fA 66 113 1) 103 false,oG 115 (lD 30 114) 103 false,oG 116 (cL 21 #[(xT 109),(xT 115)] #[30,30]) 103 false,oG 117 (.unOp .not 4 (xT 116)) 103 false,oO 118 (.pick (xT 103) (nB true) (xT 117))] [2,3,6,118] (cD 118 (sR [oO 4 (.assign (nB false))] [4] (.ret)) (.skip)))) (.keep [2,3,6] (.reg [mO 88 6,oO 89 (.binOp .add 3 (xT 88) (nI 1) 3),aO 6 89] [2,3,6]))))
def l3_centoref22_Same : CC := .seq (sR [mO 119 7,fO 120 30 2 6,lO 121 28 120,oO 122 (bL 121 28),oO 123 (bO .lss 3 119 122 3)] [2,3,7,123] (cD 123 (.skip) (.exit 4))) (.keep [2,3,7] (.seq (.block 5 (sR [fO 126 30 2 6,⟨some 127,(lD 28 126),none,[],1,[],true⟩,mO 128 7,oO 129 (iA 28 127 128),⟨some 130,(lD 69 129),none,[],4,[],true⟩,fO 131 30 3 6,⟨some 132,(lD 28 131),none,[],6,[],true⟩,mO 133 7,oO 134 (iA 28 132 133),⟨some 135,(lD 69 134),none,[],9,[],true⟩,⟨some 8,(.alloc 69),none,[2],10,[1,4,6,9],true⟩,⟨some 9,(.alloc 69),none,[3],11,[1,4,6,9,10],false⟩,⟨none,(.store 69 (xT 8) (xT 130)),none,[],12,[6,9],false⟩,oS (.store 69 (xT 9) (xT 135))] [2,3,7,8,9] (sR [fO 136 69 8 0,lO 137 3 136,fO 138 69 9 0,lO 139 3 138,oO 140 (bO .neq 3 137 139 3),mO 141 140,oG 142 (fA 69 8 1) 141 false,oG 143 (lD 3 142) 141 false,oG 144 (fA 69 9 1) 141 false,oG 145 (lD 3 144) 141 false,oG 146 (bO .neq 3 143 145 3) 141 false,oO 147 (.pick (xT 141) (nB true) (xT 146)),mO 148 147,oG 149 (fA 69 8 2) 148 false,oG 150 (lD 23 149) 148 false,oG 151 (fA 69 9 2) 148 false,oG 152 (lD 23 151) 148 false,oG 153 (cL 47 #[(xT 150),(xT 152)] #[23,23]) 148 false,oG 154 (.unOp .not 4 (xT 153)) 148 false,oO 155 (.pick (xT 148) (nB true) (xT 154)),mO 156 155,oG 157 (fA 69 8 3) 156 false,oG 158 (lD 30 157) 156 false,oG 159 (fA 69 9 3) 156 false,oG 160 (lD 30 159) 156 false,oG 161 (cL 21 #[(xT 158),(xT 160)] #[30,30]) 156 false,oG 162 (.unOp .not 4 (xT 161)) 156 false,oO 163 (.pick (xT 156) (nB true) (xT 162))] [2,3,7,163] (cD 163 (sR [oO 4 (.assign (nB false))] [4] (.ret)) (.skip))))) (.keep [2,3,7] (.reg [mO 124 7,oO 125 (.binOp .add 3 (xT 124) (nI 1) 3),aO 7 125] [2,3,7])))) 
def c_centoref22_Same : CC := sR [oN 2 (.box 30 (xT 0)) [0],oN 3 (.box 30 (xT 1)) [1],oO 4 (.assign (nB false))] [2,3] (.seq (sR [fO 10 30 2 0,lO 11 3 10,fO 12 30 3 0,lO 13 3 12,oO 14 (bO .neq 3 11 13 3),mO 15 14,oG 16 (fA 30 2 5) 15 false,oG 17 (lD 3 16) 15 false,oG 18 (fA 30 3 5) 15 false,oG 19 (lD 3 18) 15 false,oG 20 (bO .neq 3 17 19 3) 15 false,oO 21 (.pick (xT 15) (nB true) (xT 20)),mO 22 21,oG 23 (fA 30 2 1) 22 false,oG 24 (lD 25 23) 22 false,oG 25 (fA 30 3 1) 22 false,oG 26 (lD 25 25) 22 false,oG 27 (cL 14 #[(xT 24),(xT 26)] #[25,25]) 22 false,oG 28 (.unOp .not 4 (xT 27)) 22 false,oO 29 (.pick (xT 22) (nB true) (xT 28)),mO 30 29,oG 31 (fA 30 2 2) 30 false,oG 32 (lD 25 31) 30 false,oG 33 (fA 30 3 2) 30 false,oG 34 (lD 25 33) 30 false,oG 35 (cL 14 #[(xT 32),(xT 34)] #[25,25]) 30 false,oG 36 (.unOp .not 4 (xT 35)) 30 false,oO 37 (.pick (xT 30) (nB true) (xT 36)),mO 38 37,oG 39 (fA 30 2 3) 38 false,oG 40 (lD 26 39) 38 false,oG 41 (bL 40 26) 38 false,oG 42 (fA 30 3 3) 38 false,oG 43 (lD 26 42) 38 false,oG 44 (bL 43 26) 38 false,oG 45 (bO .neq 3 41 44 3) 38 false,oO 46 (.pick (xT 38) (nB true) (xT 45)),mO 47 46,oG 48 (fA 30 2 4) 47 false,oG 49 (lD 27 48) 47 false,oG 50 (bL 49 27) 47 false,oG 51 (fA 30 3 4) 47 false,oG 52 (lD 27 51) 47 false,oG 53 (bL 52 27) 47 false,oG 54 (bO .neq 3 50 53 3) 47 false,oO 55 (.pick (xT 47) (nB true) (xT 54)),mO 56 55,oG 57 (fA 30 2 6) 56 false,oG 58 (lD 28 57) 56 false,oG 59 (bL 58 28) 56 false,oG 60 (fA 30 3 6) 56 false,oG 61 (lD 28 60) 56 false,oG 62 (bL 61 28) 56 false,oG 63 (bO .neq 3 59 62 3) 56 false,oO 64 (.pick (xT 56) (nB true) (xT 63))] [2,3,64] (cD 64 (sR [oO 4 (.assign (nB false))] [4] (.ret)) (.skip))) (.keep [2,3] (.seq (sR [oO 5 (.assign (nI 0))] [2,3,5] (.block 0 (.loop l1_centoref22_Same))) (.keep [2,3] (.seq (sR [oO 6 (.assign (nI 0))] [2,3,6] (.block 2 (.loop l2_centoref22_Same))) (.keep [2,3] (.seq (sR [oO 7 (.assign (nI 0))] [2,3,7] (.block 4 (.loop l3_centoref22_Same))) (.keep [] (sR [oO 4 (.assign (nB true))] [4] (.ret))))))))))
theorem t_centoref22_Same : Txt Tryz.prog 21 164 [(.tmp 4)] c_centoref22_Same := txt_of (code := Tryz.f21.body.getD .ret) mixed (by kernel_rfl) Tryz.func21 (by kernel_rfl) Tryz.ntmps21 (by kernel_rfl) (ls := lsOf c_centoref22_Same) (by kernel_rfl)
def c_centoref27_word : CC := sR [oN 2 (.box 25 (xT 0)) [0],oO 4 (.assign (.const (.int .u64 0)))] [1,2] (.seq (sR [mO 5 1,fO 6 25 2 1,lO 7 22 6,oO 8 (bL 7 22),oO 9 (bO .lss 3 5 8 3)] [1,2,9] (cD 9 (sR [fO 10 25 2 1,lO 11 22 10,mO 12 1,oO 13 (iA 22 11 12),lO 14 60 13,aO 4 14] [4] (.ret)) (.skip))) (.keep [] (sR [oO 4 (.assign (.const (.int .u64 0)))] [4] (.ret))))
theorem t_centoref27_word : Txt Tryz.prog 76 15 [(.tmp 4)] c_centoref27_word := txt_of (code := Tryz.f76.body.getD .ret) mixed (by kernel_rfl) Tryz.func76 (by kernel_rfl) Tryz.ntmps76 (by kernel_rfl) (ls := lsOf c_centoref27_word) (by kernel_rfl)
def c_centoref27_kid : CC := sR [oN 2 (.box 25 (xT 0)) [0],oN 4 (.alloc 25) [1]] [1,2,4] (.seq (sR [mO 5 1,fO 6 25 2 2,lO 7 23 6,oO 8 (bL 7 23),oO 9 (bO .lss 3 5 8 3)] [1,2,4,9] (cD 9 (sR [fO 10 25 2 2,lO 11 23 10,mO 12 1,oO 13 (iA 23 11 12),lO 14 25 13,oS (.store 25 (xT 4) (xT 14))] [4] (.ret)) (.skip))) (.keep [4] (sR [oO 15 (.build 25 #[]),oS (.store 25 (xT 4) (xT 15))] [4] (.ret))))
theorem t_centoref27_kid : Txt Tryz.prog 77 16 [(.cell 4 25)] c_centoref27_kid := txt_of (code := Tryz.f77.body.getD .ret) mixed (by kernel_rfl) Tryz.func77 (by kernel_rfl) Tryz.ntmps77 (by kernel_rfl) (ls := lsOf c_centoref27_kid) (by kernel_rfl)
def l1_centoref27_Guess : CC := .seq (sR [mO 39 7,fO 40 25 5 2,lO 41 23 40,oO 42 (bL 41 23),oO 43 (bO .lss 3 39 42 3),mO 44 43,oG 45 (fA 30 4 0) 44 true,oG 46 (lD 3 45) 44 true,oG 47 (.binOp .eql 3 (xT 46) (nI 2) 3) 44 true,oO 48 (.pick (xT 44) (xT 47) (nB false))] [2,4,5,6,7,48] (cD 48 (.skip) (.exit 0))) (.keep [2,4,5,6,7] (.seq (.block 1 (sR [fO 51 25 5 2,lO 52 23 51,mO 53 7,oO 54 (iA 23 52 53),lO 55 25 54,oN 8 (.alloc 25) [5],oS (.store 25 (xT 8) (xT 55))] [2,4,5,6,7,8] (.reg [fO 56 30 4 3,⟨some 57,(lD 26 56),none,[],1,[],true⟩,lO 58 25 8,⟨some 59,(cL 76 #[(xT 58),(nI 0)] #[25,3]),none,[],3,[1],true⟩,oO 60 (.binOp .rem 60 (xT 59) (.const (.int .u64 4294967296)) 60),oO 61 (.convert 60 3 (xT 60)),⟨some 62,(lD 25 8),none,[],6,[3],false⟩,⟨some 63,(cL 76 #[(xT 62),(nI 0)] #[25,3]),none,[],7,[1],true⟩,oO 64 (.binOp .quo 60 (xT 63) (.const (.int .u64 4294967296)) 60),oO 65 (.binOp .rem 60 (xT 64) (.const (.int .u64 256)) 60),oO 66 (.convert 60 5 (xT 65)),⟨some 67,(lD 25 8),none,[],11,[3,7],false⟩,⟨some 68,(cL 76 #[(xT 67),(nI 1)] #[25,3]),none,[],12,[1],true⟩,⟨some 69,(lD 25 8),none,[],13,[3,7,12],false⟩,⟨some 70,(cL 76 #[(xT 69),(nI 2)] #[25,3]),none,[],14,[1],false⟩,oO 71 (.build 63 #[(0,(xT 61)),(1,(xT 66)),(2,(xT 68)),(3,(xT 70))]),⟨some 72,(.buildSlice 26 1 #[(0,(xT 71))]),none,[],16,[1],false⟩,oN 73 (bC .append #[(xT 57),(xT 72)] #[26,26]) [6],fO 74 30 4 3,oS (.store 26 (xT 74) (xT 73))] [2,4,5,6,7]))) (.reg [mO 49 7,oO 50 (.binOp .add 3 (xT 49) (nI 1) 3),aO 7 50] [2,4,5,6,7])))
def l2_centoref27_Guess : CC := .seq (sR [mO 75 9,fO 76 25 6 2,lO 77 23 76,oO 78 (bL 77 23),oO 79 (bO .lss 3 75 78 3),mO 80 79,oG 81 (fA 30 4 0) 80 true,oG 82 (lD 3 81) 80 true,oG 83 (.binOp .eql 3 (xT 82) (nI 2) 3) 80 true,oO 84 (.pick (xT 80) (xT 83) (nB false))] [2,4,5,6,9,84] (cD 84 (.skip) (.exit 2))) (.keep [2,4,5,6,9] (.seq (.block 3 (sR [fO 87 25 6 2,lO 88 23 87,mO 89 9,oO 90 (iA 23 88 89),lO 91 25 90,oN 10 (.alloc 25) [7],oS (.store 25 (xT 10) (xT 91))] [2,4,5,6,9,10] (.reg [fO 92 30 4 4,⟨some 93,(lD 27 92),none,[],1,[],true⟩,lO 94 25 10,⟨some 95,(cL 76 #[(xT 94),(nI 0)] #[25,3]),none,[],3,[1],true⟩,oO 96 (.binOp .rem 60 (xT 95) (.const (.int .u64 4294967296)) 60),oO 97 (.convert 60 3 (xT 96)),⟨some 98,(lD 25 10),none,[],6,[3],false⟩,⟨some 99,(cL 77 #[(xT 98),(nI 0)] #[25,3]),none,[],7,[1],false⟩,⟨some 100,(cL 46 #[(xT 99)] #[25]),none,[],8,[1],false⟩,oO 101 (.build 66 #[(0,(xT 97)),(1,(xT 100))]),⟨some 102,(.buildSlice 27 1 #[(0,(xT 101))]),none,[],10,[1],false⟩,oN 103 (bC .append #[(xT 93),(xT 102)] #[27,27]) [8],fO 104 30 4 4,oS (.store 27 (xT 104) (xT 103))] [2,4,5,6,9]))) (.reg [mO 85 9,oO 86 (.binOp .add 3 (xT 85) (nI 1) 3),aO 9 86] [2,4,5,6,9])))
def l3_centoref27_Guess : CC := .seq (sR [mO 105 11,fO 106 25 5 2,lO 107 23 106,oO 108 (bL 107 23),oO 109 (bO .lss 3 105 108 3),mO 110 109,oG 111 (fA 30 4 0) 110 true,oG 112 (lD 3 111) 110 true,oG 113 (.binOp .eql 3 (xT 112) (nI 3) 3) 110 true,oO 114 (.pick (xT 110) (xT 113) (nB false))] [2,4,5,11,114] (cD 114 (.skip) (.exit 4))) (.keep [2,4,5,11] (.seq (.block 5 (sR [fO 117 25 5 2,lO 118 23 117,mO 119 11,oO 120 (iA 23 118 119),lO 121 25 120,oN 12 (.alloc 25) [9],oS (.store 25 (xT 12) (xT 121))] [2,4,5,11,12] (sR [⟨some 122,(lD 25 12),none,[],0,[],true⟩,⟨some 123,(cL 76 #[(xT 122),(nI 0)] #[25,3]),none,[],1,[],true⟩,oO 124 (.binOp .rem 60 (xT 123) (.const (.int .u64 256)) 60),oO 125 (.convert 60 3 (xT 124)),⟨some 126,(lD 25 12),none,[],4,[1],true⟩,⟨some 127,(cL 76 #[(xT 126),(nI 0)] #[25,3]),none,[],5,[],true⟩,oO 128 (.binOp .quo 60 (xT 127) (.const (.int .u64 256)) 60),oO 129 (.binOp .rem 60 (xT 128) (.const (.int .u64 1099511627776)) 60),oO 130 (.convert 60 3 (xT 129)),oO 131 (.build 69 #[(0,(xT 125)),(1,(xT 130))]),⟨some 13,(.alloc 69),none,[10],10,[0,1,4,5],false⟩,oS (.store 69 (xT 13) (xT 131))] [2,4,5,11,12,13] (.seq (sR [fO 132 69 13 0,lO 133 3 132,oO 134 (.binOp .eql 3 (xT 133) (nI 3) 3)] [2,4,5,11,12,13,134] (cD 134 (.reg [lO 135 25 12,oO 136 (cL 77 #[(xT 135),(nI 0)] #[25,3]),oO 137 (cL 46 #[(xT 136)] #[25]),fO 138 69 13 3,oS (.store 30 (xT 138) (xT 137))] [2,4,5,11,13]) (sR [fO 139 69 13 0,lO 140 3 139,oO 141 (.binOp .eql 3 (xT 140) (nI 1) 3),mO 142 141,oG 143 (fA 69 13 0) 142 false,oG 144 (lD 3 143) 142 false,oG 145 (.binOp .eql 3 (xT 144) (nI 2) 3) 142 false,oO 146 (.pick (xT 142) (nB true) (xT 145))] [2,4,5,11,12,13,146] (cD 146 (.reg [lO 147 25 12,oO 148 (cL 77 #[(xT 147),(nI 0)] #[25,3]),oO 149 (.field 25 (xT 148) 2),fO 150 69 13 2,oS (.store 23 (xT 150) (xT 149))] [2,4,5,11,13]) (.skip))))) (.keep [2,4,5,11,13] (.reg [fO 151 30 4 6,lO 152 28 151,lO 153 69 13,oO 154 (.buildSlice 28 1 #[(0,(xT 153))]),oN 155 (bC .append #[(xT 152),(xT 154)] #[28,28]) [11],fO 156 30 4 6,oS (.store 28 (xT 156) (xT 155))] [2,4,5,11])))))) (.keep [2,4,5,11] (.reg [mO 115 11,oO 116 (.binOp .add 3 (xT 115) (nI 1) 3),aO 11 116] [2,4,5,11]))))
def k1_centoref27_Guess : CC := .seq (sR [oO 7 (.assign (nI 0))] [2,4,5,6,7] (.block 0 (.loop l1_centoref27_Guess))) (.keep [2,4,5,6] (.seq (sR [oO 9 (.assign (nI 0))] [2,4,5,6,9] (.block 2 (.loop l2_centoref27_Guess))) (.keep [2,4,5] (.seq (sR [oO 11 (.assign (nI 0))] [2,4,5,11] (.block 4 (.loop l3_centoref27_Guess))) (.keep [2,4] (sR [lO 157 30 4,oS (.store 30 (xT 2) (xT 157))] [2] (.ret))))))) 
def c_centoref27_Guess : CC := sR [oN 1 (.box 25 (xT 0)) [0],oN 2 (.alloc 30) [1]] [1,2] (.seq (sR [fO 14 25 1 0,lO 15 3 14,oO 16 (.binOp .neq 3 (xT 15) (nI 1) 3)] [1,2,16] (cD 16 (sR [oO 17 (.build 30 #[]),oS (.store 30 (xT 2) (xT 17))] [2] (.ret)) (.skip))) (.keep [1,2] (sR [lO 18 25 1,oO 19 (cL 76 #[(xT 18),(nI 0)] #[25,3]),aO 3 19] [1,2,3] (sR [mO 20 3,oO 21 (.binOp .rem 60 (xT 20) (.const (.int .u64 256)) 60),oO 22 (.convert 60 3 (xT 21)),mO 23 3,oO 24 (.binOp .quo 60 (xT 23) (.const (.int .u64 256)) 60),oO 25 (.binOp .rem 60 (xT 24) (.const (.int .u64 256)) 60),oO 26 (.convert 60 3 (xT 25)),oO 27 (.build 30 #[(0,(xT 22)),(5,(xT 26))]),oN 4 (.alloc 30) [2],oS (.store 30 (xT 4) (xT 27))] [1,2,4] (sR [⟨some 28,(lD 25 1),none,[],0,[],true⟩,⟨some 29,(cL 77 #[(xT 28),(nI 0)] #[25,3]),none,[],1,[],true⟩,⟨some 30,(lD 25 1),none,[],2,[1],true⟩,⟨some 31,(cL 77 #[(xT 30),(nI 1)] #[25,3]),none,[],3,[],true⟩,⟨some 5,(.alloc 25),none,[3],4,[0,1,2,3],true⟩,⟨some 6,(.alloc 25),none,[4],5,[0,1,2,3,4],false⟩,oS (.store 25 (xT 5) (xT 29)),oS (.store 25 (xT 6) (xT 31))] [2,4,5,6] (.seq (sR [fO 32 30 4 0,lO 33 3 32,oO 34 (.binOp .eql 3 (xT 33) (nI 1) 3)] [2,4,5,6,34] (cD 34 (sR [lO 35 25 5,fO 36 30 4 1,oS (.store 25 (xT 36) (xT 35))] [2,4,5,6] (.reg [lO 37 25 6,fO 38 30 4 2,oS (.store 25 (xT 38) (xT 37))] [2,4,5,6])) (.skip))) (.keep [2,4,5,6] k1_centoref27_Guess)))))))
theorem t_centoref27_Guess : Txt Tryz.prog 46 158 [(.cell 2 30)] c_centoref27_Guess := txt_of (code := Tryz.f46.body.getD .ret) mixed (by kernel_rfl) Tryz.func46 (by kernel_rfl) Tryz.ntmps46 (by kernel_rfl) (ls := lsOf c_centoref27_Guess) (by kernel_rfl)
def c_centoref27_Read : CC := sR [oN 1 (.box 25 (xT 0)) [0],oN 2 (.alloc 30) [1],oO 3 (.assign (nB false))] [1,2] (sR [lO 5 25 1,oO 6 (cL 46 #[(xT 5)] #[25]),oN 4 (.alloc 30) [2],oS (.store 30 (xT 4) (xT 6))] [1,2,4] (.seq (sR [lO 7 30 4,oO 8 (cL 23 #[(xT 7),(nI 64)] #[30,3]),oO 9 (.unOp .not 4 (xT 8)),mO 10 9,oG 11 (lD 30 4) 10 false,⟨some 12,(cL 15 #[(xT 11)] #[30]),(some (10,false)),[],5,[],true⟩,⟨some 13,(lD 25 1),(some (10,false)),[],6,[5],false⟩,oG 14 (cL 43 #[(xT 12),(xT 13)] #[25,25]) 10 false,oG 15 (.unOp .not 4 (xT 14)) 10 false,oO 16 (.pick (xT 10) (nB true) (xT 15))] [2,4,16] (cD 16 (sR [oO 17 (.build 30 #[]),oS (.store 30 (xT 2) (xT 17)),oO 3 (.assign (nB false))] [2,3] (.ret)) (.skip))) (.keep [2,4] (sR [lO 18 30 4,oS (.store 30 (xT 2) (xT 18)),oO 3 (.assign (nB true))] [2,3] (.ret)))))
theorem t_centoref27_Read : Txt Tryz.prog 20 19 [(.cell 2 30),(.tmp 3)] c_centoref27_Read := txt_of (code := Tryz.f20.body.getD .ret) mixed (by kernel_rfl) Tryz.func20 (by kernel_rfl) Tryz.ntmps20 (by kernel_rfl) (ls := lsOf c_centoref27_Read) (by kernel_rfl)
def c_centolaw27_awake : CC := sR [oO 0 (.assign (nB false))] [] (sR [oO 8 (.build 30 #[]),oO 9 (cL 10 #[(xT 8),(nI 1)] #[30,3]),mO 7 9,xO 10 7 0,xO 11 7 1,aO 1 10,aO 2 11] [1,2] (sR [oO 13 (.build 30 #[(0,(nI 2))]),oO 14 (cL 10 #[(xT 13),(nI 2)] #[30,3]),mO 12 14,xO 15 12 0,xO 16 12 1,aO 3 15,aO 4 16] [1,2,3,4] (sR [oO 18 (.buildSlice 22 2 #[(0,(.const (.int .u64 4294967296))),(1,(.const (.int .u64 2)))]),oO 19 (cL 27 #[(xT 18)] #[22]),mO 17 19,xO 20 17 0,xO 21 17 1,oN 5 (.alloc 30) [0],oS (.store 30 (xT 5) (xT 20)),aO 6 21] [1,2,3,4,5,6] (sR [mO 22 2,mO 23 22,oG 24 (mV 4) 23 true,oO 25 (.pick (xT 23) (xT 24) (nB false)),mO 26 25,oG 27 (mV 1) 26 true,oG 28 (.buildSlice 22 1 #[(0,(.const (.int .u64 0)))]) 26 true,oG 29 (cL 26 #[(xT 27),(xT 28)] #[22,22]) 26 true,oO 30 (.pick (xT 26) (xT 29) (nB false)),mO 31 30,oG 32 (mV 3) 31 true,oG 33 (.buildSlice 22 2 #[(0,(.const (.int .u64 4294967296))),(1,(.const (.int .u64 2)))]) 31 true,oG 34 (cL 26 #[(xT 32),(xT 33)] #[22,22]) 31 true,oO 35 (.pick (xT 31) (xT 34) (nB false)),mO 36 35,oG 37 (mV 6) 36 true,oG 38 (.binOp .eql 45 (xT 37) (nI 0) 45) 36 true,oO 39 (.pick (xT 36) (xT 38) (nB false)),mO 40 39,oG 41 (fA 30 5 0) 40 true,oG 42 (lD 3 41) 40 true,oG 43 (.binOp .eql 3 (xT 42) (nI 2) 3) 40 true,oO 44 (.pick (xT 40) (xT 43) (nB false)),aO 0 44] [0] (.ret)))))
theorem t_centolaw27_awake : Txt Tryz.prog 12 45 [(.tmp 0)] c_centolaw27_awake := txt_of (code := Tryz.f12.body.getD .ret) mixed (by kernel_rfl) Tryz.func12 (by kernel_rfl) Tryz.ntmps12 (by kernel_rfl) (ls := lsOf c_centolaw27_awake) (by kernel_rfl)
def c_centolaw27_PatchTrees : CC := sR [oN 1 (.box 30 (xT 0)) [0],oO 2 (.assign (nB false))] [1] (.seq (sR [lO 6 30 1,oO 7 (cL 8 #[(xT 6)] #[30]),oO 8 (.unOp .not 4 (xT 7))] [1,8] (cD 8 (sR [oO 9 (cL 12 #[] #[]),aO 2 9] [2] (.ret)) (.skip))) (.keep [1] (sR [lO 10 30 1,oO 11 (cL 13 #[(xT 10)] #[30]),oN 3 (.alloc 25) [1],oS (.store 25 (xT 3) (xT 11))] [1,3] (.seq (sR [⟨some 12,(lD 25 3),none,[],0,[],true⟩,lO 13 30 1,⟨some 14,(cL 15 #[(xT 13)] #[30]),none,[],2,[0],false⟩,oO 15 (cL 14 #[(xT 12),(xT 14)] #[25,25]),oO 16 (.unOp .not 4 (xT 15))] [1,3,16] (cD 16 (sR [oO 2 (.assign (nB false))] [2] (.ret)) (.skip))) (.keep [1,3] (sR [lO 18 25 3,oO 19 (cL 16 #[(xT 18)] #[25]),mO 17 19,xO 20 17 0,xO 21 17 1,oN 4 (.alloc 30) [2],oS (.store 30 (xT 4) (xT 20)),aO 5 21] [1,3,4,5] (sR [lO 22 25 3,oO 23 (cL 17 #[(xT 22),(nI 64)] #[25,3]),oO 24 (.unOp .not 4 (xT 23)),mO 25 24,oG 26 (mV 5) 25 false,oG 27 (mV 26) 25 false,oG 28 (lD 30 1) 27 true,oG 29 (lD 30 4) 27 true,oG 30 (cL 18 #[(xT 28),(xT 29)] #[30,30]) 27 true,oG 31 (.pick (xT 27) (xT 30) (nB false)) 25 false,oO 32 (.pick (xT 25) (nB true) (xT 31)),mO 33 32,oG 34 (cL 12 #[] #[]) 33 true,oO 35 (.pick (xT 33) (xT 34) (nB false)),aO 2 35] [2] (.ret))))))))
theorem t_centolaw27_PatchTrees : Txt Tryz.prog 4 36 [(.tmp 2)] c_centolaw27_PatchTrees := txt_of (code := Tryz.f4.body.getD .ret) mixed (by kernel_rfl) Tryz.func4 (by kernel_rfl) Tryz.ntmps4 (by kernel_rfl) (ls := lsOf c_centolaw27_PatchTrees) (by kernel_rfl)
def c_centolaw27_PatchReads : CC := sR [oN 1 (.box 25 (xT 0)) [0],oO 2 (.assign (nB false))] [1] (.seq (sR [lO 7 25 1,oO 8 (cL 19 #[(xT 7)] #[25]),oO 9 (.unOp .not 4 (xT 8)),mO 10 9,oG 11 (lD 25 1) 10 false,oG 12 (cL 17 #[(xT 11),(nI 64)] #[25,3]) 10 false,oG 13 (.unOp .not 4 (xT 12)) 10 false,oO 14 (.pick (xT 10) (nB true) (xT 13))] [1,14] (cD 14 (sR [oO 15 (cL 12 #[] #[]),aO 2 15] [2] (.ret)) (.skip))) (.keep [1] (sR [lO 17 25 1,oO 18 (cL 16 #[(xT 17)] #[25]),mO 16 18,xO 19 16 0,xO 20 16 1,oN 3 (.alloc 30) [1],oS (.store 30 (xT 3) (xT 19)),aO 4 20] [1,3,4] (sR [lO 22 25 1,oO 23 (cL 20 #[(xT 22)] #[25]),mO 21 23,xO 24 21 0,xO 25 21 1,oN 5 (.alloc 30) [2],oS (.store 30 (xT 5) (xT 24)),aO 6 25] [3,4,5,6] (sR [mO 26 4,mO 27 6,oO 28 (bO .eql 4 26 27 4),mO 29 28,oG 30 (lD 30 3) 29 true,oG 31 (lD 30 5) 29 true,oG 32 (cL 21 #[(xT 30),(xT 31)] #[30,30]) 29 true,oO 33 (.pick (xT 29) (xT 32) (nB false)),mO 34 33,oG 35 (cL 12 #[] #[]) 34 true,oO 36 (.pick (xT 34) (xT 35) (nB false)),aO 2 36] [2] (.ret))))))
theorem t_centolaw27_PatchReads : Txt Tryz.prog 5 37 [(.tmp 2)] c_centolaw27_PatchReads := txt_of (code := Tryz.f5.body.getD .ret) mixed (by kernel_rfl) Tryz.func5 (by kernel_rfl) Tryz.ntmps5 (by kernel_rfl) (ls := lsOf c_centolaw27_PatchReads) (by kernel_rfl)
end Go.Proofs.YthfiijdbnkaabaaGreat

namespace Go.Proofs.YthfiijdbnkaabaaGreat
set_option linter.unusedVariables false
set_option linter.unusedSimpArgs false
open Go Go.G Go.Proofs Go.PL
theorem pFits_spec {c n : Int} (h : u64R n) : G.Spec Tryz.prog 134 [iv c,uv n] (bv (fitsZ c n)) := by
  refine spec_of t_word_Fits (by simp) fun w0 I0 => ?_
  unfold c_word_Fits
  simp
  refine sc_call (width_spec c) rfl ?_
  have hw := widthZ_cases c
  unfold fitsZ
  rcases hw with h1 | h1 | h1 | h1 | h1 | h1 | h1
  all_goals
    rw [h1]
    simp
    refine frz_bool ?_
  all_goals try rfl
  all_goals
    obtain ⟨n0,n1⟩ := h
    have hb : IntKind.u64.bits = 64 := rfl
    simp [hb]
  all_goals omega
theorem tList_spec (k : Int) : G.Spec Tryz.prog 91 [iv k] (bv (decide (2≤k) && decide (k≤9))) := by
  refine spec_of t_tree_List (by simp) fun w0 I0 => ?_
  unfold c_tree_List
  simp
  exact frz_bare rfl
def pkid (list : Int) (t : T) : Bool := if isData list = true then decide (t.kind = 10) && t.kids.isEmpty && decide (t.words.length = 1) && fitsZ (list - 2) (t.words.headD 0) else if list = 9 then decide (t.kind = 1) else !decide (t.kind = 10)
theorem pkid_eq {list : Int} {t : T} {d : Nat} (h1 : list ≠ 1) : (pkid list t && rightT d t) = (rightT d t && kidOk list t) := by
  unfold pkid kidOk
  cases hd : isData list with
  | true =>
    simp only [if_true]
    by_cases h10 : t.kind = 10
    · have e : rightT d t = (decide (t.words.length = 1) && t.kids.isEmpty) := by
        obtain ⟨k,w,l⟩ := t
        simp at h10
        subst h10
        rw [rightT_mk]
        rfl
      have n9 : list ≠ 9 := fun e => by subst e; simp [isData] at hd
      rw [e]
      simp [h10,n9]
      cases decide (t.words.length = 1) <;> cases t.kids.isEmpty <;> simp
    · simp [h10]
  | false =>
    simp
    by_cases h9 : list = 9
    · subst h9
      simp
      cases h : rightT d t <;> simp
      by_cases h1 : t.kind = 1 <;> simp [h1]
    · simp [h9]
      cases h : rightT d t <;> simp
theorem pKid_spec (list : Int) (hl : i64R list) {t : T} (h : wfT t) : G.Spec Tryz.prog 129 [iv list,tX t] (bv (pkid list t)) := by
  have hw := wfT_iff.1 h
  refine spec_of t_tree_kid (by simp) fun w0 I0 => ?_
  unfold c_tree_kid
  simp
  refine sc_call (data_spec list) rfl ?_
  cases hd : isData list with
  | false =>
    simp
    by_cases h9 : list = 9
    · simp [h9]
      refine frz_bool ?_
      simp [pkid,isData]
    · simp [h9]
      refine frz_bool ?_
      simp [pkid,hd,h9]
  | true =>
    have hd' := hd
    simp [isData] at hd'
    by_cases hc : t.kind = 10∧t.kids = []∧t.words.length = 1
    · obtain ⟨c1,c2,c3⟩ := hc
      obtain ⟨x,hx⟩ : ∃ x,t.words = [x] := List.length_eq_one_iff.1 c3
      have hxr : u64R x := hw.w x (by rw [hx]; simp)
      have e2 : IntKind.i64.wrap (list - 2) = list - 2 := i64_same (by omega) (by omega)
      simp [c1,c2,hx,e2]
      refine sc_call_gt rfl (fun _ => pFits_spec hxr) (fun _ => rfl) rfl ?_
      simp
      refine frz_bool ?_
      simp [pkid,hd,c1,c2,hx]
    · have hp : pkid list t = false := by
        unfold pkid
        rw [if_pos hd]
        rw [Bool.eq_false_iff]
        intro e
        simp at e
        exact hc ⟨e.1.1.1,e.1.1.2,e.1.2⟩
      by_cases c1 : t.kind = 10
      · by_cases c2 : t.kids = []
        · have c3 : ¬ t.words.length = 1 := fun e => hc ⟨c1,c2,e⟩
          have c3' : ¬ (t.words.length : Int) = 1 := by omega
          simp [c1,c2,c3,c3']
          refine sc_call_off rfl ?_
          simp
          rw [hp]
          exact frz_bare rfl
        · have c2' : ¬ (t.kids.length : Int) = 0 := fun e => c2 (List.length_eq_zero_iff.1 (by omega))
          simp [c1,c2,c2']
          refine sc_call_off rfl ?_
          simp
          rw [hp]
          exact frz_bare rfl
      · simp [c1]
        refine sc_call_off rfl ?_
        simp
        rw [hp]
        exact frz_bare rfl
section
variable {n0 : Nat} {w0 : World} {I0 : Nat→Prop} {Q : Exit→Sta→Prop}
theorem pright_k1 {Q' : Exit→Sta→Prop} {c : T} {d : Nat} {b : Bool} {u : Nat} {p x y z : A} {H : Hp} (hd : 1≤d) (hd1 : d≤1000) (ihc : G.Spec Tryz.prog 93 [tX c,iv (d - 1 : Nat)] (bv (rightT (d - 1) c))) (hB : H [1] = ⟨u,.cells (tL c)⟩)
    (h1 : (b && rightT (d - 1) c) = true→Q' .normal ⟨lk [(1,iv d),(2,p),(71,x),(72,y),(73,z),(95,bv false)],H⟩) (h2 : (b && rightT (d - 1) c) = false→Q' .ret ⟨lk [(4,bv false)],H⟩) :
    WPC (cx Tryz.prog w0 I0 n0) k1_tree_right Q' ⟨lk [(1,iv d),(2,p),(6,.pob [1] u 0),(7,bv b),(71,x),(72,y),(73,z)],H⟩ := by
  rw [k1_tree_right.eq_1]
  have ed : IntKind.i64.wrap ((d : Int) - 1) = ((d - 1 : Nat) : Int) := by rw [i64_same (by omega) (by omega)]; omega
  cases b with
  | false =>
    simp
    refine sc_call_off rfl ?_
    simp
    exact h2 rfl
  | true =>
    simp [hB,ed]
    refine sc_call_gf rfl (fun _ => ihc) (fun _ => rfl) rfl ?_
    cases hr : rightT (d - 1) c with
    | false => simp; exact h2 (by simp [hr])
    | true => simp; exact h1 (by simp [hr])
theorem pright_l1 {t : T} (hk : i64R t.kind) (hl : t.kids.length * 56≤140737488355328) {d : Nat} (hd : 1≤d) (hd1 : d≤1000) (hw : ∀ c,c ∈ t.kids→wfT c) (ih : ∀ c,c ∈ t.kids→∀ d : Nat,d≤1000→G.Spec Tryz.prog 93 [tX c,iv d] (bv (rightT d c))) : ∀ (m i : Nat) (H : Hp),i + m = t.kids.length→H [0] = ⟨1,.cells (tL t)⟩ →
    (rightL (d - 1) t.kind (t.kids.drop i) = true→∀ i' q H',Q (.exit 1) ⟨lk [(1,iv d),(2,.pob [0] 1 0),(71,tKs t.kids),(72,iv t.kids.length),(73,iv i'),(74,bv q)],H'⟩)→(rightL (d - 1) t.kind (t.kids.drop i) = false→∀ H',Q .ret ⟨lk [(4,bv false)],H'⟩) →
    LoopC (cx Tryz.prog w0 I0 n0) l1_tree_right Q ⟨lk [(1,iv d),(2,.pob [0] 1 0),(71,tKs t.kids),(72,iv t.kids.length),(73,iv i)],H⟩ := by
  intro m
  induction m with
  | zero =>
    intro i H hi hA h1 h2
    have : i = t.kids.length := by omega
    subst this
    refine loopC_once mixed l1_tree_right.eq_1 ?_
    simp
    exact h1 (by simp) _ _ _
  | succ m ihm =>
    intro i H hi hA h1 h2
    have hlt : i < t.kids.length := by omega
    have e : t.kids.drop i = t.kids[i] :: t.kids.drop (i + 1) := List.drop_eq_getElem_cons hlt
    have ei : IntKind.i64.wrap ((i : Int) + 1) = ((i + 1 : Nat) : Int) := i64_same (by omega) (by omega)
    rw [e,rightL_cons] at h1 h2
    have hwc := hw _ (List.getElem_mem hlt)
    have ihc := ih _ (List.getElem_mem hlt) (d - 1) (by omega)
    generalize hc : t.kids[i] = c at *
    refine loopC_once mixed l1_tree_right.eq_1 ?_
    simp [hA,hlt,hc,updF_app]
    refine ⟨fun h10 => ?_,fun h10 => ?_⟩
    · have ek : kidOk t.kind c = !decide (c.kind = 10) := by
        unfold kidOk
        rw [h10]
        by_cases e : c.kind = 10 <;> simp [isData,e]
      try simp [hA,updF_app,h10]
      refine pright_k1 (c := c) hd hd1 ihc (by simp [updF_app]) (fun hr => ?_) (fun hr => ?_)
      · simp [ei]
        refine ihm (i + 1) _ (by omega) (by simp [updF_app,hA]) (fun hh => h1 ?_) (fun hh => h2 ?_)
        · rw [ek,hh]; simpa using And.comm.1 (by simpa using hr)
        · rw [hh]; simp
      · simp
        refine h2 ?_ _
        rw [ek]
        have : (rightT (d - 1) c && !decide (c.kind = 10)) = false := by rw [Bool.and_comm]; simpa using hr
        rw [this]; rfl
    · have ek := pkid_eq (t := c) (d := d - 1) h10
      simp [hA,updF_app,h10]
      refine sc_call (pKid_spec t.kind hk hwc) rfl ?_
      simp
      refine pright_k1 (c := c) hd hd1 ihc (by simp [updF_app]) (fun hr => ?_) (fun hr => ?_)
      · simp [ei]
        rw [ek] at hr
        refine ihm (i + 1) _ (by omega) (by simp [updF_app,hA]) (fun hh => h1 ?_) (fun hh => h2 ?_)
        · rw [hr,hh]; rfl
        · rw [hh]; simp
      · simp
        refine h2 ?_ _
        rw [ek] at hr
        rw [hr]; rfl
end
theorem pRight_spec : ∀ (t : T),wfT t→∀ d : Nat,d≤1000→G.Spec Tryz.prog 93 [tX t,iv d] (bv (rightT d t)) := by
  refine T.ind fun k w l ih hw d hd => ?_
  have hw' := wfT_iff.1 hw
  have hwl := hw'.wl
  have hkl := hw'.kl
  have hk := hw'.k
  simp at hwl hkl hk
  refine spec_of t_tree_right (by simp) fun w0 I0 => ?_
  unfold c_tree_right
  rw [rightT_mk]
  by_cases h0 : k = 0
  · simp [h0]
    exact frz_bool (by cases w <;> cases l <;> simp <;> (rw [← List.length_eq_zero_iff]; omega))
  by_cases h10 : k = 10
  · simp [h10]
    exact frz_bool (by cases w <;> cases l <;> simp <;> (rw [← List.length_eq_zero_iff]; omega))
  rw [if_neg h0,if_neg h10]
  obtain ⟨R,hR⟩ : ∃ R,R = (if tooBig k d w.length l.length = true then false else rightL (d - 1) k l) := ⟨_,rfl⟩
  rw [← hR]
  have bad : tooBig k d w.length l.length = true→R = false := fun h => by rw [hR,if_pos h]
  by_cases hd0 : d = 0
  · subst hd0
    simp [h0,h10]
    exact frz_bool (bad (by simp [tooBig])).symm
  have fin : tooBig k d w.length l.length = false→WPC (cx Tryz.prog w0 I0 97) k2_tree_right (RetC Tryz.prog [.tmp 4] (bv R)) ⟨lk [(1,iv d),(2,.pob [0] 1 0)],lkH [([0],⟨1,.cells [iv k,uws w,tKs l]⟩)]⟩ := fun hb => by
    rw [if_neg (by rw [hb]; simp)] at hR
    subst hR
    rw [k2_tree_right.eq_1]
    simp
    refine pright_l1 (t := .mk k w l) (by simpa using hk) (by simpa using hkl) (by omega) hd (fun c hc => hw'.ks c hc) (fun c hc => ih c hc (hw'.ks c hc)) l.length 0 _ (by simp) (by simp) (fun hr i' q H' => ?_) (fun hr H' => ?_)
    · simp
      exact frz_bool (by simpa using hr.symm)
    · simp
      exact frz_bool (by simpa using hr.symm)
  by_cases h1 : k = 1
  · subst h1
    by_cases hb : 65536≤w.length∨65536≤l.length
    · have hb' : (decide (65536≤(w.length : Int)) || decide (65536≤(l.length : Int))) = true := by simp; omega
      simp [hd0,hb']
      exact frz_bool (bad (by simp [tooBig]; omega)).symm
    · have hb' : (decide (65536≤(w.length : Int)) || decide (65536≤(l.length : Int))) = false := by simp; omega
      simp [hd0,hb']
      exact fin (by simp [tooBig]; omega)
  · simp [h0,h10,h1,hd0]
    refine sc_call (tList_spec k) rfl ?_
    simp
    refine ⟨fun hc => ?_,fun a b c e => ?_⟩
    · exact frz_bool (bad (by simp [tooBig]; omega)).symm
    · refine fin ?_
      rw [Bool.eq_false_iff]
      unfold tooBig
      simp only [Bool.or_eq_true,Bool.and_eq_true,decide_eq_true_eq,ne_eq]
      have hl0 : w.length = 0 := by first | omega | simp [c]
      omega
theorem ptRight_spec {t : T} (h : wfT t) : G.Spec Tryz.prog 58 [tX t] (bv (rightT 64 t)) := by
  refine spec_of t_tree_Right (by simp) fun w0 I0 => ?_
  unfold c_tree_Right
  simp
  refine sc_call (pRight_spec t h 64 (by omega)) (by simp) ?_
  simp
  exact frz_bare rfl
end Go.Proofs.YthfiijdbnkaabaaGreat

namespace Go.G
set_option linter.unusedVariables false
set_option linter.unusedSimpArgs false
open Go.RowKit
theorem Sim.move {c : Cx} {w : World} {I : Nat→Prop} {μ : Mu} {H : Hp} (hs : Sim c w I μ H) {d d' : Nm} (hne : d ≠ d') (h0 : (H d').u = 0) (h1 : 1≤(H d).u) (hM : ∀ b,¬ c.M0 d b) :
    Ext I μ w I (updF μ d' (μ d)) w∧Sim c w I (updF μ d' (μ d)) (updF (updF H d' (H d)) d ⟨(H d).u,.none⟩) := by
  have hu0 : (μ d').u = 0 := by rw [hs.ver,h0]
  have hu1 : 1≤(μ d).u := by rw [hs.ver]; exact h1
  have hm : MuLe μ (updF μ d' (μ d)) := fun o => by
    by_cases e : o = d'
    · subst e
      rw [updF_self]
      exact ⟨by omega,fun e => by omega⟩
    · rw [updF_ne e]
      exact ⟨Nat.le_refl _,fun _ => rfl⟩
  have hx : Ext I μ w I (updF μ d' (μ d)) w := ⟨fun b h => h,fun b h => rfl,hm⟩
  have hd : (updF (updF H d' (H d)) d ⟨(H d).u,.none⟩ : Hp) d = ⟨(H d).u,.none⟩ := updF_self
  have hd' : (updF (updF H d' (H d)) d ⟨(H d).u,.none⟩ : Hp) d' = H d := by rw [updF_ne (Ne.symm hne),updF_self]
  have hoth : ∀ o,o ≠ d→o ≠ d'→(updF (updF H d' (H d)) d ⟨(H d).u,.none⟩ : Hp) o = H o := fun o e1 e2 => by rw [updF_ne e1,updF_ne e2]
  -- who has a block has it in the old state,under an old name
  have old : ∀ o,hasB (updF μ d' (μ d) o) ((updF (updF H d' (H d)) d ⟨(H d).u,.none⟩ : Hp) o).ob = true→∃ p,hasB (μ p) (H p).ob = true∧(updF μ d' (μ d) o) = μ p∧(o = d'∧p = d∨o ≠ d'∧o ≠ d∧p = o) := fun o h => by
    by_cases e1 : o = d
    · subst e1
      rw [hd] at h
      cases h
    · by_cases e2 : o = d'
      · subst e2
        rw [hd',updF_self] at h
        exact ⟨d,h,updF_self,.inl ⟨rfl,rfl⟩⟩
      · rw [hoth o e1 e2,updF_ne e2] at h
        exact ⟨o,h,updF_ne e2,.inr ⟨e2,e1,rfl⟩⟩
  refine ⟨hx,hs.kept,hs.lt,hs.old,hs.new,fun o => ?_,fun o => ?_,fun o o' k k' hoo => ?_,fun o k => ?_,hs.mle.trans hm⟩
  · by_cases e1 : o = d
    · subst e1
      rw [hd,updF_ne hne]
      exact hs.ver o
    · by_cases e2 : o = d'
      · subst e2
        rw [hd',updF_self]
        exact hs.ver d
      · rw [hoth o e1 e2,updF_ne e2]
        exact hs.ver o
  · by_cases e1 : o = d
    · subst e1
      rw [hd]
      trivial
    · by_cases e2 : o = d'
      · subst e2
        rw [hd',updF_self]
        exact OSim.keep hx (fun _ => rfl) (hs.ob d)
      · rw [hoth o e1 e2,updF_ne e2]
        exact OSim.keep hx (fun _ => rfl) (hs.ob o)
  · obtain ⟨p,k1,k2,k3⟩ := old o k
    obtain ⟨p',g1,g2,g3⟩ := old o' k'
    rw [k2,g2]
    refine hs.apart p p' k1 g1 fun e => hoo ?_
    rcases k3 with ⟨a1,a2⟩ | ⟨a1,a2,a3⟩ <;> rcases g3 with ⟨b1,b2⟩ | ⟨b1,b2,b3⟩
    · rw [a1,b1]
    · exact absurd (by rw [← b3,← e,a2]) b2
    · exact absurd (by rw [← a3,e,b2]) a2
    · rw [← a3,← b3,e]
  · obtain ⟨p,k1,k2,k3⟩ := old o k
    rw [k2]
    obtain ⟨q1,q2,q3⟩ := hs.own p k1
    refine ⟨q1,?_,q3⟩
    rcases k3 with ⟨a1,a2⟩ | ⟨a1,a2,a3⟩
    · subst a2
      rcases q2 with h | h
      · exact (hM _ h).elim
      · exact .inr h
    · subst a3
      exact q2
theorem specF_of' {P : Program} {f : FuncId} {n : Nat} {rs : List ResultVar} {cc : CC} {as' : Nat→List A} {F F' : Fam} {x : Nat→A} (t : Txt P f n rs cc) (ha : (as' 0).length≤n) (h0 : FamL as') (h1 : FamA x)
    (h : ∀ w0 I0 M0 m0,(∀ r p b,1≤r→¬ M0 (r :: p) b)→WPC (cxh P w0 I0 M0 n m0) cc (RetH (cxh P w0 I0 M0 n m0) rs 1 (x 0) (ov 0 (F'.F 0) (lkH []))) ⟨argS (as' 0),ov 0 (F.F 0) (lkH [])⟩) : SpecF P f as' F x F' :=
  ⟨h0,h1,specH_of' t ha fun w0 I0 M0 m0 hM => h w0 I0 M0 m0 fun r p b hr => hM (r :: p) b (by
    simp only [ov_cons]
    rw [if_neg (by omega)]
    rfl)⟩
end Go.G

namespace Go.Proofs.YthfiijdbnkaabaaGreat
set_option linter.unusedVariables false
set_option linter.unusedSimpArgs false
open Go Go.G Go.Proofs Go.PL
abbrev z0 : List A := [iv 0,.sl true [],.sl true []]
theorem famA_pa (l : List (List Int)) (r : Rf) : FamA (fun _ => paX l r) := famL_ref l r
end Go.Proofs.YthfiijdbnkaabaaGreat

namespace Go.Proofs.YthfiijdbnkaabaaGreat
set_option linter.unusedVariables false
set_option linter.unusedSimpArgs false
open Go Go.G Go.Proofs Go.PL
structure ShT (t : T) : Prop where
  z : t.kind = 0→t.words = []∧t.kids = []
  a : t.kind = 10→t.words.length = 1∧t.kids = []
  o : t.kind ≠ 0→t.kind ≠ 1→t.kind ≠ 10→t.words = []
theorem shp_right {d : Nat} {t : T} (h : rightT d t = true) : ShT t := by
  obtain ⟨k,w,ks⟩ := t
  rw [rightT_mk] at h
  by_cases h0 : k = 0
  · subst h0
    simp at h
    exact ⟨fun _ => h,fun h => by simp at h,fun h => absurd rfl h⟩
  rw [if_neg h0] at h
  by_cases h1 : k = 10
  · subst h1
    simp at h
    exact ⟨fun h => by simp at h,fun _ => h,fun _ _ h => absurd rfl h⟩
  rw [if_neg h1] at h
  refine ⟨fun h => absurd h h0,fun h => absurd h h1,fun _ h2 _ => ?_⟩
  have htb : tooBig k d w.length ks.length = false := by
    cases e : tooBig k d w.length ks.length with
    | false => rfl
    | true => rw [e] at h; simp at h
  simp [tooBig] at htb
  have h3 : ¬ k = 1 := h2
  by_cases h4 : 1 < k
  · have := htb.2
    simp only [T.words_mk]
    first | exact this h4 | exact List.eq_nil_of_length_eq_zero (this h4) | exact List.eq_nil_of_length_eq_zero (by omega)
  · exfalso; omega
theorem kids_same {a b : List T} (hl : a.length = b.length) : a.map norm = b.map norm ↔ ∀ i,norm (a.getD i T0) = norm (b.getD i T0) := by
  constructor
  · intro h i; rw [← getD_norm,h,getD_norm]
  · intro h
    apply List.ext_getElem (by simpa using hl)
    intro i h1 h2
    have := h i
    simp at h1 h2
    simpa [List.getD_eq_getElem?_getD,h1,h2] using this
theorem words_same {a b : List Int} (hl : a.length = b.length) : a = b ↔ ∀ i,a.getD i 0 = b.getD i 0 := by
  constructor
  · intro h i; rw [h]
  · intro h
    apply List.ext_getElem hl
    intro i h1 h2
    have := h i
    simpa [List.getD_eq_getElem?_getD,h1,h2] using this
theorem eqT_shp {t u : T} (ht : ShT t) (hu : ShT u) : eqT t u = true ↔ t.kind = u.kind∧(t.kind = 1∨t.kids.length = u.kids.length)∧(∀ i,t.words.getD i 0 = u.words.getD i 0)∧∀ i,norm (t.kids.getD i T0) = norm (u.kids.getD i T0) := by
  rw [eqT_iff]
  obtain ⟨k,w,a⟩ := t
  obtain ⟨k',w',b⟩ := u
  by_cases hk : k = k'
  rotate_left
  · constructor
    · intro h
      have := congrArg T.kind h
      simp at this
      exact absurd this hk
    · intro h; exact absurd h.1 hk
  subst hk
  by_cases h0 : k = 0
  · subst h0
    obtain ⟨e1,e2⟩ := ht.z rfl
    obtain ⟨e3,e4⟩ := hu.z rfl
    simp at e1 e2 e3 e4
    subst e1 e2 e3 e4
    simp
  by_cases h1 : k = 1
  · subst h1
    rw [struct_eq]
    simp
  rw [other_eq h0 h1]
  have hwl : w.length = w'.length := by
    by_cases h10 : k = 10
    · subst h10
      have := (ht.a rfl).1
      have := (hu.a rfl).1
      simp at *
      omega
    · have e1 := ht.o h0 h1 h10
      have e2 := hu.o h0 h1 h10
      simp at e1 e2
      rw [e1,e2]
  rw [words_same hwl]
  constructor
  · rintro ⟨g1,g2⟩
    have hl : a.length = b.length := by have := congrArg List.length g2; simpa using this
    exact ⟨rfl,.inr hl,g1,(kids_same hl).1 g2⟩
  · rintro ⟨_,g0,g1,g2⟩
    rcases g0 with g0 | g0
    · exact absurd g0 h1
    · exact ⟨g1,(kids_same g0).2 g2⟩
section
variable {n0 : Nat} {w0 : World} {I0 : Nat→Prop} {Q : Exit→Sta→Prop}
end
end Go.Proofs.YthfiijdbnkaabaaGreat
