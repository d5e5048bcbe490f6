/-
  Texts, merged, without what is not reached.
-/
import Derived.Test.YtmeldaflhkiopaaKKd
namespace Go.Proofs.Ytmeldaflhkiopaa
set_option linter.unusedVariables false
set_option linter.unusedSimpArgs false
open Go Go.G Go.Proofs Go.PL
theorem wf_norm : ∀ (t : T),wfT t→wfT (norm t) := by
  refine T.ind fun k w l ih hw => ?_
  have hw' := wfT_iff.1 hw
  rw [norm_mk]
  have h2 : ∀ (l : List T),(∀ t,t ∈ l→∃ u,u ∈ l∧t = u)→True := fun _ _ => trivial
  have hm : ∀ t,t ∈ l.map norm→wfT t := fun t ht => by
    obtain ⟨u,hu,rfl⟩ := List.mem_map.1 ht
    exact ih u hu (hw'.ks u hu)
  split
  · exact wfT_iff.2 ⟨by simp [i64R],by simp,by simp,by simp,by simp⟩
  · split
    · refine wfT_iff.2 ⟨by simp [i64R],fun x hx => ?_,?_,?_,fun t ht => ?_⟩
      · simp only [T.words_mk] at hx
        rw [trimW_take] at hx
        exact hw'.w x (List.mem_of_mem_take hx)
      · have := trimW_le w
        have := hw'.wl
        simp at this ⊢
        omega
      · have := trimK_le (l.map norm)
        have := hw'.kl
        simp at this ⊢
        simp at *
        omega
      · simp only [T.kids_mk] at ht
        rw [trimK_take] at ht
        exact hm t (List.mem_of_mem_take ht)
    · exact wfT_iff.2 ⟨hw'.k,hw'.w,hw'.wl,by simpa using hw'.kl,by simpa using hm⟩
section
variable {n0 : Nat} {w0 : World} {I0 : Nat→Prop} {Q : Exit→Sta→Prop}
end
theorem fits_word {c : T} (h : wfT c) (hl : c.words.length = 1) : ∃ x,c.words = [x]∧u64R x := by
  have := (wfT_iff.1 h).w
  match hc : c.words,hl with
  | [x],_ => exact ⟨x,rfl,this x (by simp [hc])⟩
theorem right_kind10 {d : Nat} {c : T} (h : rightT d c = true) (h10 : c.kind = 10) : c.words.length = 1 := by
  obtain ⟨k,w,l⟩ := c
  simp at h10
  subst h10
  rw [rightT_mk] at h
  simp at h
  exact h.1
section
variable {n0 : Nat} {w0 : World} {I0 : Nat→Prop} {Q : Exit→Sta→Prop}
theorem right_l1 {t : T} (hl : t.kids.length * 56≤140737488355328) (hk0 : 0≤t.kind) (hk1 : t.kind≤10) {d : Nat} (hd : 1≤d) (hd1 : d≤1000) (hw : ∀ c,c ∈ t.kids→wfT c) (ih : ∀ c,c ∈ t.kids→∀ d : Nat,d≤1000→G.Spec Try.prog 31 [tX c,iv d] (bv (rightT d c))) : ∀ (m i : Nat) (H : Hp),i + m = t.kids.length→H [0] = ⟨1,.cells (tL t)⟩ →
    (rightL (d - 1) t.kind (t.kids.drop i) = true→∀ i' q H',Q (.exit 0) ⟨lk [(1,iv d),(2,.pob [0] 1 0),(5,iv i'),(82,bv q)],H'⟩)→(rightL (d - 1) t.kind (t.kids.drop i) = false→∀ H',Q .ret ⟨lk [(4,bv false)],H'⟩) →
    LoopC (cx Try.prog w0 I0 n0) l1_centoref07_Right Q ⟨lk [(1,iv d),(2,.pob [0] 1 0),(5,iv i)],H⟩ := by
  intro m
  induction m with
  | zero =>
    intro i H hi hA h1 h2
    have : i = t.kids.length := by omega
    subst this
    refine loopC_once mixed l1_centoref07_Right.eq_1 ?_
    simp [hA]
    exact h1 (by simp) _ _ _
  | succ m ihm =>
    intro i H hi hA h1 h2
    have hlt : i < t.kids.length := by omega
    have e : t.kids.drop i = t.kids[i] :: t.kids.drop (i + 1) := List.drop_eq_getElem_cons hlt
    have ei : IntKind.i64.wrap ((i : Int) + 1) = ((i + 1 : Nat) : Int) := i64_same (by omega) (by omega)
    have ed : IntKind.i64.wrap ((d : Int) - 1) = ((d - 1 : Nat) : Int) := by rw [i64_same (by omega) (by omega)]; omega
    rw [e,rightL_cons] at h1 h2
    have hwc := hw _ (List.getElem_mem hlt)
    have ihc := ih _ (List.getElem_mem hlt) (d - 1) (by omega)
    generalize hc : t.kids[i] = c at *
    refine loopC_once mixed l1_centoref07_Right.eq_1 ?_
    simp [hA,hlt,hc,updF_app,ed]
    refine sc_call ihc rfl ?_
    cases hr : rightT (d - 1) c with
    | false =>
      simp
      exact h2 (by simp [hr]) _
    | true =>
      rw [hr] at h1 h2
      have good : kidOk t.kind c = true→∀ H',H' [0] = ⟨1,.cells (tL t)⟩→LoopC (cx Try.prog w0 I0 n0) l1_centoref07_Right Q ⟨lk [(1,iv d),(2,.pob [0] 1 0),(5,iv ((i : Int) + 1))],H'⟩ := fun hg H' hA' =>
        ihm (i + 1) H' (by omega) hA' (fun hh => h1 (by simp [hg,hh])) (fun hh => h2 (by simp [hh]))
      have bad : kidOk t.kind c = false→∀ H',Q .ret ⟨lk [(4,bv false)],H'⟩ := fun hg => h2 (by simp [hg])
      rw [show ((i + 1 : Nat) : Int) = (i : Int) + 1 from rfl] at ei
      by_cases hD : 2≤t.kind∧t.kind≤7
      · obtain ⟨d2,d7⟩ := hD
        have d9 : ¬ t.kind = 9 := by omega
        by_cases h10 : c.kind = 10
        · obtain ⟨x,hx,hx64⟩ := fits_word hwc (right_kind10 hr h10)
          have hk : kidOk t.kind c = fitsZ (t.kind - 2) x := by simp [kidOk,isData,d2,d7,d9,h10,hx]
          have e2 : IntKind.i64.wrap (t.kind - 2) = t.kind - 2 := i64_same (by omega) (by omega)
          simp [updF_app,hA,d2,d7,d9,h10,hx,e2]
          refine sc_call_gt rfl (fun _ => rFits_spec hx64) (fun _ => rfl) rfl ?_
          cases hf : fitsZ (t.kind - 2) x with
          | false => simp; exact bad (by rw [hk,hf]) _
          | true => simp [ei]; exact good (by rw [hk,hf]) _ (by simp [updF_app,hA])
        · have hk : kidOk t.kind c = false := by simp [kidOk,isData,d2,d7,d9,h10]
          simp [updF_app,hA,d2,d7,d9,h10]
          refine sc_call_off rfl ?_
          simp
          exact bad hk _
      · have hD' : (decide (2≤t.kind) && decide (t.kind≤7)) = false := by simp; omega
        by_cases h10 : c.kind = 10
        · have hk : kidOk t.kind c = false := by simp [kidOk,isData,hD',h10]
          simp [updF_app,hA,hD',h10]
          refine sc_call_off rfl ?_
          simp
          exact bad hk _
        · by_cases h9 : t.kind = 9
          · by_cases h1' : c.kind = 1
            · have hk : kidOk t.kind c = true := by simp [kidOk,isData,hD',h9,h1']
              rw [h9] at hD'
              simp [updF_app,hA,hD',h10,h9,h1']
              refine sc_call_off rfl ?_
              simp [ei]
              exact good hk _ (by simp [updF_app,hA])
            · have hk : kidOk t.kind c = false := by simp [kidOk,isData,hD',h9,h1',h10]
              rw [h9] at hD'
              simp [updF_app,hA,hD',h10,h9,h1']
              refine sc_call_off rfl ?_
              simp
              exact bad hk _
          · have hk : kidOk t.kind c = true := by simp [kidOk,isData,hD',h9,h10]
            simp [updF_app,hA,hD',h10,h9]
            refine sc_call_off rfl ?_
            simp [ei]
            exact good hk _ (by simp [updF_app,hA])
end
theorem rRight_spec : ∀ (t : T),wfT t→∀ d : Nat,d≤1000→G.Spec Try.prog 31 [tX t,iv d] (bv (rightT d t)) := by
  refine T.ind fun k w l ih hw d hd => ?_
  have hw' := wfT_iff.1 hw
  have hwl := hw'.wl
  have hkl := hw'.kl
  simp at hwl hkl
  refine spec_of t_centoref07_Right (by simp) fun w0 I0 => ?_
  unfold c_centoref07_Right
  rw [rightT_mk]
  by_cases h0 : k = 0
  · simp [h0]
    exact frz_bool (by cases w <;> cases l <;> simp <;> (rw [← List.length_eq_zero_iff]; omega))
  by_cases h10 : k = 10
  · simp [h10]
    exact frz_bool (by cases w <;> cases l <;> simp <;> (rw [← List.length_eq_zero_iff]; omega))
  rw [if_neg h0,if_neg h10]
  have bad : tooBig k d w.length l.length = true→∀ H,Frz H (bv false) (bv (if tooBig k d w.length l.length = true then false else rightL (d - 1) k l)) := fun hb H => frz_bool (by simp [hb])
  by_cases ha : k < 0∨10 < k∨d = 0∨65536≤w.length
  · have ha' : (decide (k < 0) || decide (10 < k) || decide (d = 0) || decide (65536≤(w.length : Int))) = true := by simp; omega
    simp [h0,h10,ha']
    have := bad (by simp [tooBig]; omega) (lkH [([0],{ u := 1,ob := Ob.cells [iv k,uws w,tKs l] })])
    simpa using this
  have ha' : (decide (k < 0) || decide (10 < k) || decide (d = 0) || decide (65536≤(w.length : Int))) = false := by simp; omega
  by_cases h1 : k = 1∧65536≤l.length
  · have hl : (65536 : Int)≤l.length := by omega
    simp [h0,h10,ha',h1.1,hl]
    have := bad (by simp [tooBig]; omega) (lkH [([0],{ u := 1,ob := Ob.cells [iv k,uws w,tKs l] })])
    simpa [h1.1] using this
  by_cases h2 : 1048576≤l.length
  · have hl : (1048576 : Int)≤l.length := by omega
    have hk1 : ¬ k = 1 := by omega
    simp [h0,h10,ha',hk1,hl]
    have := bad (by simp [tooBig]; omega) (lkH [([0],{ u := 1,ob := Ob.cells [iv k,uws w,tKs l] })])
    simpa using this
  have hl2 : ¬ (1048576 : Int)≤l.length := by omega
  by_cases h3 : 1 < k∧0 < w.length
  · have hk1 : ¬ k = 1 := by omega
    have hw0 : w ≠ [] := fun e => by simp [e] at h3
    simp [h0,h10,ha',hk1,hl2,h3.1,h3.2,hw0]
    have := bad (by simp [tooBig]; omega) (lkH [([0],{ u := 1,ob := Ob.cells [iv k,uws w,tKs l] })])
    simpa using this
  have hb : tooBig k d w.length l.length = false := by
    rw [Bool.eq_false_iff]
    unfold tooBig
    simp only [Bool.or_eq_true,Bool.and_eq_true,decide_eq_true_eq,ne_eq]
    omega
  have hw0 : (1 < k→w = []) := fun h => List.eq_nil_of_length_eq_zero (by omega)
  have fin : LoopC (cx Try.prog w0 I0 132) l1_centoref07_Right (InBlock 0 (ThenC (WPC (cx Try.prog w0 I0 132) (.keep [] (.seq (.reg [co (some 4) (.assign (.const (.bool true))) none] [4]) .ret)) (RetC Try.prog [.tmp 4] (bv (rightL (d - 1) k l)))) (RetC Try.prog [.tmp 4] (bv (rightL (d - 1) k l))))) ⟨lk [(1,iv d),(2,.pob [0] 1 0),(5,iv 0)],lkH [([0],⟨1,.cells [iv k,uws w,tKs l]⟩)]⟩ := by
    refine right_l1 (t := .mk k w l) (by simpa using hkl) (by simp; omega) (by simp; omega) (by omega) hd (fun c hc => hw'.ks c hc) (fun c hc => ih c hc (hw'.ks c hc)) l.length 0 _ (by simp) (by simp) (fun hr i' q H' => ?_) (fun hr H' => ?_)
    · simp
      exact frz_bool (by simpa using hr.symm)
    · simp
      exact frz_bool (by simpa using hr.symm)
  rw [if_neg (by simp [hb])]
  by_cases k1 : k = 1
  · have hl3 : ¬ (65536 : Int)≤l.length := by omega
    have ha1 : (decide (d = 0) || decide (65536≤(w.length : Int))) = false := by simp; omega
    simp [ha1,k1,hl2,hl3]
    simpa [k1] using fin
  · simp [h0,h10,ha',k1,hl2]
    refine ⟨fun a b => absurd ⟨a,by omega⟩ h3,fun _ => ?_⟩
    exact fin
end Go.Proofs.Ytmeldaflhkiopaa

namespace Go.PL
set_option linter.unusedVariables false
set_option linter.unusedSimpArgs false
def fndP (stop : Nat→Bool) (pl : List Nat) : Nat→Nat→Nat
  | 0,a => a
  | f + 1,a => if pl.getD a 0 = 0 then a else if stop (pl.getD a 0) = true then a else fndP stop pl f ((a + 1) % pl.length)
theorem mod_succ (a d m : Nat) : ((a + 1) % m + d) % m = (a + (d + 1)) % m := by
  rw [Nat.mod_add_mod]
  congr 1
  omega
theorem fndP_spec {stop : Nat→Bool} {pl : List Nat} : ∀ (f a d : Nat),a < pl.length→d < f→pl.getD ((a + d) % pl.length) 0 = 0 →
    fndP stop pl f a < pl.length∧(pl.getD (fndP stop pl f a) 0 = 0∨stop (pl.getD (fndP stop pl f a) 0) = true) ∧
      ∃ k,fndP stop pl f a = (a + k) % pl.length∧∀ e,e < k→pl.getD ((a + e) % pl.length) 0 ≠ 0∧stop (pl.getD ((a + e) % pl.length) 0) = false := by
  intro f
  induction f with
  | zero => intro a d _ h; omega
  | succ f ih =>
    intro a d ha hd hz
    unfold fndP
    have hself : ∃ k,a = (a + k) % pl.length∧∀ e,e < k→pl.getD ((a + e) % pl.length) 0 ≠ 0∧stop (pl.getD ((a + e) % pl.length) 0) = false := ⟨0,by rw [Nat.add_zero,Nat.mod_eq_of_lt ha],fun e he => by omega⟩
    split
    · rename_i h0
      exact ⟨ha,.inl h0,hself⟩
    · rename_i h0
      split
      · rename_i h1
        exact ⟨ha,.inr h1,hself⟩
      · rename_i h1
        cases d with
        | zero => rw [Nat.add_zero,Nat.mod_eq_of_lt ha] at hz; exact absurd hz h0
        | succ d =>
          obtain ⟨p1,p2,k,p3,p4⟩ := ih ((a + 1) % pl.length) d (Nat.mod_lt _ (by omega)) (by omega) (by rw [mod_succ]; exact hz)
          refine ⟨p1,p2,k + 1,by rw [p3,mod_succ],fun e he => ?_⟩
          cases e with
          | zero => rw [Nat.add_zero,Nat.mod_eq_of_lt ha]; exact ⟨h0,by simpa using h1⟩
          | succ e =>
            have := p4 e (by omega)
            rwa [mod_succ] at this
structure Pl (hs : List Nat) (pl : List Nat) : Prop where
  cnt : pl.countP (fun v => v != 0) = hs.length
  vals : ∀ v,v ∈ pl→v≤hs.length
  reach : ∀ (c : Nat) (hc : c < hs.length),∃ d,pl[(hs[c] + d) % pl.length]? = some (c + 1)∧∀ e,e < d→pl.getD ((hs[c] + e) % pl.length) 0 ≠ 0
theorem Pl.free {hs pl : List Nat} (h : Pl hs pl) (hl : hs.length < pl.length) (a : Nat) : ∃ d,d < pl.length∧pl.getD ((a + d) % pl.length) 0 = 0 := by
  have hm : ∃ v,v ∈ pl∧v = 0 := by
    apply Classical.byContradiction
    intro hn
    have : pl.countP (fun v => v != 0) = pl.length := List.countP_eq_length.2 fun v hv => by
      simp only [bne_iff_ne,ne_eq]
      exact fun e => hn ⟨v,hv,e⟩
    have := h.cnt
    omega
  obtain ⟨v,hv,rfl⟩ := hm
  obtain ⟨i,hi,e⟩ := List.mem_iff_getElem.1 hv
  refine ⟨(i + (pl.length - a % pl.length)) % pl.length,Nat.mod_lt _ (by omega),?_⟩
  have : (a + (i + (pl.length - a % pl.length)) % pl.length) % pl.length = i := by
    rw [Nat.add_mod_mod]
    have h1 := Nat.mod_lt a (show 0 < pl.length by omega)
    have h2 := Nat.div_add_mod a pl.length
    have h3 : a + (i + (pl.length - a % pl.length)) = i + pl.length * (a / pl.length + 1) := by
      rw [Nat.mul_add,Nat.mul_one]
      omega
    rw [h3,Nat.add_mul_mod_self_left,Nat.mod_eq_of_lt hi]
  rw [this]
  simp [hi,e]
theorem countP_set {pl : List Nat} {a v : Nat} (ha : a < pl.length) (h0 : pl.getD a 0 = 0) (hv : v ≠ 0) : (pl.set a v).countP (fun v => v != 0) = pl.countP (fun v => v != 0) + 1 := by
  induction pl generalizing a with
  | nil => simp at ha
  | cons x l ih =>
    cases a with
    | zero =>
      simp at h0
      subst h0
      simp [hv]
    | succ a =>
      simp only [List.set_cons_succ,List.countP_cons]
      rw [ih (by simpa using ha) (by simpa using h0)]
      omega
theorem Pl.ins {hs pl : List Nat} (h : Pl hs pl) {x a k : Nat} (ha : a < pl.length) (h0 : pl.getD a 0 = 0) (he : a = (x + k) % pl.length) (hk : ∀ e,e < k→pl.getD ((x + e) % pl.length) 0 ≠ 0) : Pl (hs ++ [x]) (pl.set a (hs.length + 1)) := by
  have hmod : ∀ y,y % pl.length < pl.length := fun y => Nat.mod_lt _ (by omega)
  have nz : ∀ y,pl.getD (y % pl.length) 0 ≠ 0→(pl.set a (hs.length + 1)).getD (y % pl.length) 0 ≠ 0 := fun y hy => by
    have hne : a ≠ y % pl.length := fun e => hy (by rw [← e]; exact h0)
    simpa [List.getD_eq_getElem?_getD,List.getElem?_set_ne hne] using hy
  refine ⟨?_,fun v hv => ?_,fun c hc => ?_⟩
  · rw [countP_set ha h0 (by omega),h.cnt]; simp
  · rw [List.length_append,List.length_singleton]
    rcases List.mem_or_eq_of_mem_set hv with hv | rfl
    · have := h.vals v hv; omega
    · omega
  · simp only [List.length_set]
    by_cases hcl : c < hs.length
    · obtain ⟨d,h1,h2⟩ := h.reach c hcl
      rw [List.getElem_append_left hcl]
      refine ⟨d,?_,fun e he => nz _ (h2 e he)⟩
      have hne : a ≠ (hs[c] + d) % pl.length := fun e => by
        rw [← e] at h1
        rw [List.getD_eq_getElem?_getD,h1] at h0
        simp at h0
      rw [List.getElem?_set_ne hne,h1]
    · have : c = hs.length := by simp at hc; omega
      subst this
      rw [List.getElem_append_right (Nat.le_refl _)]
      simp only [Nat.sub_self,List.getElem_cons_zero]
      refine ⟨k,?_,fun e he => nz _ (hk e he)⟩
      rw [← he,List.getElem?_set_self ha]
def insP (pl : List Nat) (x v : Nat) : List Nat := pl.set (fndP (fun _ => false) pl pl.length (x % pl.length)) v
def growP : List Nat→Nat→List Nat→List Nat
  | pl,_,[] => pl
  | pl,i,x :: hs => growP (insP pl x (i + 1)) (i + 1) hs
@[simp] theorem insP_length {pl : List Nat} {x v : Nat} : (insP pl x v).length = pl.length := by simp [insP]
theorem Pl.nil (m : Nat) : Pl [] (List.replicate m 0) := by
  refine ⟨?_,fun v hv => ?_,fun c hc => ?_⟩
  · simp [List.countP_replicate]
  · simp at hv; omega
  · simp at hc
theorem fndP_mod {stop : Nat→Bool} {pl : List Nat} {x : Nat} {hs : List Nat} (h : Pl hs pl) (hl : hs.length < pl.length) :
    fndP stop pl pl.length (x % pl.length) < pl.length∧(pl.getD (fndP stop pl pl.length (x % pl.length)) 0 = 0∨stop (pl.getD (fndP stop pl pl.length (x % pl.length)) 0) = true) ∧
      ∃ k,fndP stop pl pl.length (x % pl.length) = (x + k) % pl.length∧∀ e,e < k→pl.getD ((x + e) % pl.length) 0 ≠ 0∧stop (pl.getD ((x + e) % pl.length) 0) = false := by
  obtain ⟨d,h1,h2⟩ := h.free hl (x % pl.length)
  have := fndP_spec (stop := stop) pl.length (x % pl.length) d (Nat.mod_lt _ (by omega)) h1 h2
  simpa using this
theorem Pl.insP {hs pl : List Nat} (h : Pl hs pl) (hl : hs.length < pl.length) (x : Nat) : Pl (hs ++ [x]) (insP pl x (hs.length + 1)) := by
  obtain ⟨h1,h2,k,h3,h4⟩ := fndP_mod (stop := fun _ => false) (x := x) h hl
  refine h.ins h1 (h2.resolve_right (by simp)) h3 fun e he => (h4 e he).1
theorem Pl.grow : ∀ {hs2 hs pl : List Nat},Pl hs pl→hs.length + hs2.length≤pl.length→Pl (hs ++ hs2) (growP pl hs.length hs2)
  | [],hs,pl,h,_ => by simpa [growP] using h
  | x :: hs2,hs,pl,h,hl => by
    simp only [List.length_cons] at hl
    have h1 := h.insP (by omega) x
    have := Pl.grow (hs2 := hs2) h1 (by simp; omega)
    rw [List.append_assoc] at this
    simpa [growP] using this
noncomputable def clsI (ks : List T) (n : T) : Nat := ks.findIdx (fun k => sameB k n)
noncomputable def clsK (ks : List T) (n : T) : List T := if clsI ks n < ks.length then ks else ks ++ [n]
theorem clsI_at {ks : List T} {n : T} {i : Nat} (h : i < ks.length) (e : ks[i] = n) (hd : ks.Nodup) : clsI ks n = i := by
  have h1 : clsI ks n≤i := by
    apply Classical.byContradiction
    intro hn
    have := List.not_of_lt_findIdx (p := fun k => sameB k n) (xs := ks) (i := i) (by unfold clsI at hn; omega)
    simp [sameB_iff.2 e] at this
  have h2 : clsI ks n < ks.length := by omega
  have h3 : ks[clsI ks n] = n := sameB_iff.1 (List.findIdx_getElem (p := fun k => sameB k n) (w := h2))
  apply Classical.byContradiction
  intro hn
  have h4 : clsI ks n < i := by omega
  have := List.pairwise_iff_getElem.1 hd _ _ h2 h h4
  exact this (by rw [h3,e])
theorem clsI_none {ks : List T} {n : T} (h : n ∉ ks) : clsI ks n = ks.length := by
  unfold clsI
  rw [List.findIdx_eq_length]
  intro x hx
  rw [Bool.eq_false_iff]
  intro e
  rw [sameB_iff] at e
  subst e
  exact h hx
theorem clsI_le (ks : List T) (n : T) : clsI ks n≤ks.length := List.findIdx_le_length
theorem clsI_lt {ks : List T} {n : T} : clsI ks n < ks.length ↔ n ∈ ks := by
  constructor
  · intro h
    have h3 : ks[clsI ks n] = n := sameB_iff.1 (List.findIdx_getElem (p := fun k => sameB k n) (w := h))
    rw [← h3]
    exact List.getElem_mem _
  · intro h
    have := clsI_le ks n
    apply Classical.byContradiction
    intro hn
    have e : clsI ks n = ks.length := by omega
    have := (List.findIdx_eq_length (p := fun k => sameB k n) (xs := ks)).1 e n h
    rw [Bool.eq_false_iff] at this
    exact this (sameB_iff.2 rfl)
theorem clsK_nodup {ks : List T} {n : T} (h : ks.Nodup) : (clsK ks n).Nodup := by
  unfold clsK
  split
  · exact h
  · rename_i hn
    rw [clsI_lt] at hn
    rw [List.nodup_append]
    exact ⟨h,by simp,fun a ha b hb => by simp at hb; subst hb; exact fun e => hn (e ▸ ha)⟩
noncomputable def clsL : List T→List T→List T × List Nat
  | ks,[] => (ks,[])
  | ks,t :: l => ((clsL (clsK ks (norm t)) l).1,clsI ks (norm t) :: (clsL (clsK ks (norm t)) l).2)
end Go.PL

namespace Go.Proofs.Ytmeldaflhkiopaa
set_option linter.unusedVariables false
set_option linter.unusedSimpArgs false
open Go Go.G Go.Proofs Go.PL
structure Cl where
  l : List (List Int)
  r : Rf
  t : T
noncomputable def Cl.h (c : Cl) : Int := hashN (norm c.t)
noncomputable def Cl.hn (c : Cl) : Nat := c.h.toNat
abbrev clL (h : Int) (l : List (List Int)) (r : Rf) : List A := uv h :: paL l r
noncomputable def Cl.a (c : Cl) : A := .agg (clL c.h c.l c.r)
abbrev nv (n : Nat) : A := iv (n : Int)
structure Tb where
  u : Nat
  uc : Nat
  up : Nat
  cl : List Cl
  pl : List Nat
structure Tb.Ok (S : Tb) : Prop where
  p8 : 8≤S.pl.length
  half : 2 * S.cl.length≤S.pl.length
  most : S.pl.length≤8 + 4 * S.cl.length
  pl : Pl (S.cl.map Cl.hn) S.pl
  means : ∀ c,c ∈ S.cl→Sg c.l∧Means c.l c.r c.t
  nd : (S.cl.map fun c => norm c.t).Nodup
noncomputable def Tb.ks (S : Tb) : List T := S.cl.map fun c => norm c.t
@[simp] theorem Tb.ks_length (S : Tb) : S.ks.length = S.cl.length := by simp [Tb.ks]
theorem Tb.Ok.lt {S : Tb} (h : S.Ok) : S.cl.length < S.pl.length := by have := h.p8; have := h.half; omega
structure Tb.Ok1 (S : Tb) : Prop where
  p8 : 8≤S.pl.length
  half : 2 * S.cl.length≤S.pl.length + 2
  most : S.pl.length≤8 + 4 * S.cl.length
  pl : Pl (S.cl.map Cl.hn) S.pl
  means : ∀ c,c ∈ S.cl→Sg c.l∧Means c.l c.r c.t
  nd : (S.cl.map fun c => norm c.t).Nodup
theorem Tb.Ok1.ok {S : Tb} (h : S.Ok1) (hf : ¬ S.pl.length < 2 * S.cl.length) : S.Ok := ⟨h.p8,by omega,h.most,h.pl,h.means,h.nd⟩
section
variable {n0 : Nat} {w0 : World} {I0 : Nat→Prop} {Q : Exit→Sta→Prop}
end
end Go.Proofs.Ytmeldaflhkiopaa

namespace Go.Proofs.Ytmeldaflhkiopaa
set_option linter.unusedVariables false
set_option linter.unusedSimpArgs false
open Go Go.G Go.Proofs Go.PL
theorem nvs_fam {l : List Nat} : ∀ x,x ∈ l.map nv→FamA (fun _ => x) := fun x hx => by
  obtain ⟨n,_,rfl⟩ := List.mem_map.1 hx
  exact famA_v
abbrev nvM (u : Nat) (l : List Nat) : Fam := rowM u 1 (l.map nv) nvs_fam
theorem clsL_append : ∀ (l : List T) (ks : List T) (t : T),clsL ks (l ++ [t]) = (clsK (clsL ks l).1 (norm t),(clsL ks l).2 ++ [clsI (clsL ks l).1 (norm t)])
  | [],ks,t => by simp [clsL]
  | a :: l,ks,t => by simp [clsL,clsL_append l]
theorem clsL_length : ∀ (l : List T) (ks : List T),(clsL ks l).2.length = l.length
  | [],ks => rfl
  | a :: l,ks => by simp [clsL,clsL_length l]
section
variable {n0 : Nat} {w0 : World} {I0 : Nat→Prop} {M0 : Nm→Nat→Prop} {m0 : Mu} {Q : Exit→Sta→Prop}
end
end Go.Proofs.Ytmeldaflhkiopaa

namespace Go.Proofs.Ytmeldaflhkiopaa
set_option linter.unusedVariables false
set_option linter.unusedSimpArgs false
open Go Go.G Go.Proofs Go.PL
theorem trs_fam {l : List T} : ∀ x,x ∈ l.map tA→FamA (fun _ => x) := fun x hx => by
  obtain ⟨t,_,rfl⟩ := List.mem_map.1 hx
  exact famA_bare (tA_eq t) fun y hy => by
    simp at hy
    rcases hy with rfl | rfl | rfl <;> rfl
abbrev trM (u : Nat) (l : List T) : Fam := rowM u 3 (l.map tA) trs_fam
theorem famA_tX (t : T) : FamA (fun _ => tX t) := famA_bare rfl fun y hy => by
  simp at hy
  rcases hy with rfl | rfl | rfl <;> rfl
theorem clsI_first {ks : List T} {n : T} {i : Nat} (h : i < ks.length) (e : ks[i] = n) (hb : ∀ (x : Nat) (hx : x < i),ks[x]'(by omega) ≠ n) : clsI ks n = i := by
  unfold clsI
  rw [List.findIdx_eq h]
  refine ⟨sameB_iff.2 e,fun j hj => ?_⟩
  rw [Bool.eq_false_iff]
  exact fun h2 => hb j hj (sameB_iff.1 h2)
noncomputable def clsU (u : Nat) (ks : List T) (n : T) : Nat := if clsI ks n < ks.length then u else u + 1
section
variable {n0 : Nat} {w0 : World} {I0 : Nat→Prop} {M0 : Nm→Nat→Prop} {m0 : Mu} {Q : Exit→Sta→Prop}
theorem rcls_l1 {ks : List T} (hw : ∀ k,k ∈ ks→wfT k) (hl : ks.length≤1000000) {n : T} {u : Nat} {H : Hp} (hN : H [2] = ⟨1,.cells (tL n)⟩) (hK : H [0] = ⟨u,.arr 3 (ks.map tA)⟩)
    (hq : clsI ks n = ks.length→∀ i q,Q (.exit 0) ⟨lk [(0,.osl [0] u 3 0 ks.length),(6,.pob [2] 1 0),(7,i),(13,bv q)],H⟩) (hq2 : clsI ks n < ks.length→Q .ret ⟨lk [(4,.osl [0] u 3 0 ks.length),(5,nv (clsI ks n))],H⟩) : ∀ (j i : Nat),i + j = ks.length→(∀ (x : Nat) (hx : x < i) (h : x < ks.length),ks[x] ≠ n) →
    LoopC (cxh Try.prog w0 I0 M0 n0 m0) l1_centoref16_Class Q ⟨lk [(0,.osl [0] u 3 0 ks.length),(6,.pob [2] 1 0),(7,nv i)],H⟩ := by
  intro j
  induction j with
  | zero =>
    intro i hi hb
    have : i = ks.length := by omega
    subst this
    refine loopC_once mixed l1_centoref16_Class.eq_1 ?_
    simp
    exact hq (clsI_none fun hm => by
      obtain ⟨x,hx,e⟩ := List.mem_iff_getElem.1 hm
      exact hb x hx hx e) _ _
  | succ j ih =>
    intro i hi hb
    have hlt : i < ks.length := by omega
    have ei : IntKind.i64.wrap ((i : Int) + 1) = ((i + 1 : Nat) : Int) := i64_same (by omega) (by omega)
    refine loopC_once mixed l1_centoref16_Class.eq_1 ?_
    simp [hlt,hN,hK]
    refine sc_call (rTSame_spec _ (hw _ (List.getElem_mem hlt)) n) (by simp) ?_
    by_cases he : ks[i] = n
    · have hc := clsI_first hlt he fun x hx => hb x hx (by omega)
      rw [hc] at hq2
      have : sameB ks[i] n = true := sameB_iff.2 he
      simp [this]
      exact hq2 hlt
    · have : sameB ks[i] n = false := by rw [Bool.eq_false_iff]; exact fun h => he (sameB_iff.1 h)
      simp [this,ei]
      refine ih (i + 1) (by omega) fun x hx h => ?_
      by_cases e : x = i
      · subst e; exact he
      · exact hb x (by omega) h
end
theorem rClass_spec {ks : List T} (hw : ∀ k,k ∈ ks→wfT k) (hl : ks.length≤1000000) {t : T} (ht : wfT t) (u : Nat) :
    SpecF Try.prog 33 (fun r => [.osl [r] u 3 0 ks.length,tX t]) (trM u ks) (fun r => .tup [.osl [r] (clsU u ks (norm t)) 3 0 (clsK ks (norm t)).length,nv (clsI ks (norm t))]) (trM (clsU u ks (norm t)) (clsK ks (norm t))) := by
  refine specF_of t_centoref16_Class (by simp) (famL_cons famA_osl (famL_cons (famA_tX t) famL_nil)) (famA_tup (famL_cons famA_osl (famL_cons famA_v famL_nil))) fun w0 I0 M0 m0 => ?_
  unfold c_centoref16_Class
  simp
  refine sc_call (rNorm_spec t ht) (by simp) ?_
  simp
  refine rcls_l1 hw hl (n := norm t) (u := u) (by simp) (by simp) (fun hc i q => ?_) (fun hc => ?_) ks.length 0 (by omega) (fun x hx => by omega)
  · have h1 : clsU u ks (norm t) = u + 1 := by simp [clsU,hc]
    have h2 : clsK ks (norm t) = ks ++ [norm t] := by simp [clsK,hc]
    have h3 : (ks.length + 1) * 56≤140737488355328 := by omega
    simp [h3]
    refine reth_fam rfl ?_ fun p => ?_
    · simp [h1,h2,hc]
    · rw [h1,h2]
      by_cases hp : p = []
      · subst hp; simp [updF_app,List.take_of_length_le]
      · simp [updF_app,hp]
  · have h1 : clsU u ks (norm t) = u := by simp [clsU,hc]
    have h2 : clsK ks (norm t) = ks := by simp [clsK,hc]
    simp [h1,h2]
    exact reth_fam rfl rfl fun p => rfl
noncomputable def clsLU : Nat→List T→List T→Nat
  | u,_,[] => u
  | u,ks,t :: l => clsLU (clsU u ks (norm t)) (clsK ks (norm t)) l
theorem clsLU_append : ∀ (l : List T) (u : Nat) (ks : List T) (t : T),clsLU u ks (l ++ [t]) = clsU (clsLU u ks l) (clsL ks l).1 (norm t)
  | [],u,ks,t => by simp [clsLU,clsL]
  | a :: l,u,ks,t => by simp [clsLU,clsL,clsLU_append l]
theorem clsK_len (ks : List T) (n : T) : (clsK ks n).length≤ks.length + 1 := by
  unfold clsK
  split <;> simp
theorem clsL_len : ∀ (l ks : List T),(clsL ks l).1.length≤ks.length + l.length
  | [],ks => by simp [clsL]
  | t :: l,ks => by
    have := clsL_len l (clsK ks (norm t))
    have := clsK_len ks (norm t)
    simp only [clsL,List.length_cons]
    omega
theorem clsK_wf {ks : List T} {n : T} (h : ∀ k,k ∈ ks→wfT k) (hn : wfT n) : ∀ k,k ∈ clsK ks n→wfT k := by
  unfold clsK
  split
  · exact h
  · intro k hk
    rcases List.mem_append.1 hk with hk | hk
    · exact h k hk
    · simp at hk; subst hk; exact hn
theorem clsL_wf : ∀ {l ks : List T},(∀ k,k ∈ ks→wfT k)→(∀ k,k ∈ l→wfT k)→∀ k,k ∈ (clsL ks l).1→wfT k
  | [],ks,h,_ => h
  | t :: l,ks,h,hl => clsL_wf (l := l) (clsK_wf h (wf_norm _ (hl t (by simp)))) fun k hk => hl k (by simp [hk])
section
variable {n0 : Nat} {w0 : World} {I0 : Nat→Prop} {M0 : Nm→Nat→Prop} {m0 : Mu} {Q : Exit→Sta→Prop}
theorem rclss_l1 {ks0 ts : List T} (hw : ∀ k,k ∈ ks0→wfT k) (ht : ∀ k,k ∈ ts→wfT k) (hl : ks0.length + ts.length≤1000000) {u0 : Nat} (hq : ∀ (q : Bool) (H : Hp),(∀ p,H (0 :: p) = (trM (clsLU u0 ks0 ts) (clsL ks0 ts).1).F 0 p)→(∀ p,H (1 :: p) = (nvM (ts.length + 1) (clsL ks0 ts).2).F 1 p) →
      Q (.exit 0) ⟨lk [(0,.osl [0] (clsLU u0 ks0 ts) 3 0 (clsL ks0 ts).1.length),(1,tKs ts),(6,.osl [1] (ts.length + 1) 1 0 ts.length),(7,nv ts.length),(13,bv q)],H⟩) :
    ∀ (j i : Nat) (H : Hp),i + j = ts.length→(∀ p,H (0 :: p) = (trM (clsLU u0 ks0 (ts.take i)) (clsL ks0 (ts.take i)).1).F 0 p)→(∀ p,H (1 :: p) = (nvM (i + 1) (clsL ks0 (ts.take i)).2).F 1 p) →
    LoopC (cxh Try.prog w0 I0 M0 n0 m0) l1_centoref16_Classes Q ⟨lk [(0,.osl [0] (clsLU u0 ks0 (ts.take i)) 3 0 (clsL ks0 (ts.take i)).1.length),(1,tKs ts),(6,.osl [1] (i + 1) 1 0 i),(7,nv i)],H⟩ := by
  intro j
  induction j with
  | zero =>
    intro i H hi hH hN
    have : i = ts.length := by omega
    subst this
    rw [List.take_of_length_le (Nat.le_refl _)] at hH hN ⊢
    refine loopC_once mixed l1_centoref16_Classes.eq_1 ?_
    simp
    exact hq _ H hH hN
  | succ j ih =>
    intro i H hi hH hN
    have hlt : i < ts.length := by omega
    have ei : IntKind.i64.wrap ((i : Int) + 1) = ((i + 1 : Nat) : Int) := i64_same (by omega) (by omega)
    have htk : ts.take (i + 1) = ts.take i ++ [ts[i]] := List.take_succ_eq_append_getElem hlt
    have hlen := clsL_len (ts.take i) ks0
    rw [List.length_take,Nat.min_eq_left (by omega)] at hlen
    have hwt := ht _ (List.getElem_mem hlt)
    have hC := rClass_spec (clsL_wf hw (l := ts.take i) fun k hk => ht k (List.mem_of_mem_take hk)) (by omega) hwt (clsLU u0 ks0 (ts.take i))
    have hlL : (clsL ks0 (ts.take i)).2.length = i := by rw [clsL_length,List.length_take,Nat.min_eq_left (by omega)]
    have ihn := ih (i + 1)
    rw [htk,clsLU_append,clsL_append] at ihn
    simp only at ihn
    have hN0 := hN []
    simp at hN0
    refine loopC_once mixed l1_centoref16_Classes.eq_1 ?_
    simp [hlt]
    refine sc_fam 0 hC hH (by simp) (by simp) ?_
    generalize (clsL ks0 (ts.take i)).2 = L at hN hN0 ihn hlL
    simp [hN0,ei]
    refine ⟨⟨by omega,by omega⟩,?_⟩
    refine ihn _ (by omega) (fun p => by simp) (fun p => ?_)
    by_cases hp : p = []
    · subst hp
      simp [updF_app,List.take_of_length_le,hlL]
    · simp [updF_app,hp,hN]
end
theorem rClasses_spec {ks ts : List T} (hw : ∀ k,k ∈ ks→wfT k) (ht : ∀ k,k ∈ ts→wfT k) (hl : ks.length + ts.length≤1000000) (u : Nat) :
    SpecN Try.prog 16 (fun r => [.osl [r] u 3 0 ks.length,tKs ts]) (trM u ks) (fun r q => .tup [.osl [r] (clsLU u ks ts) 3 0 (clsL ks ts).1.length,.osl [q] (ts.length + 1) 1 0 ts.length]) (trM (clsLU u ks ts) (clsL ks ts).1) (nvM (ts.length + 1) (clsL ks ts).2) := by
  refine specN_of t_centoref16_Classes (by simp) (famL_cons famA_osl (famL_cons famA_sl famL_nil)) (famA2_tup (famL2_cons (famA2_l famA_osl) (famL2_cons (famA2_r famA_osl) famL2_nil))) (fun p => ?_) fun w0 I0 M0 m0 => ?_
  · by_cases hp : p = []
    · subst hp; exact .inr (by simp)
    · exact .inl (by simp [hp])
  unfold c_centoref16_Classes
  simp
  refine LoopC.le (le_blank 6 [1] 1 (by simp)) ?_
  simp
  refine LoopC.le (le_list [(0,.osl [0] u 3 0 ks.length),(1,tKs ts),(6,.osl [1] 1 1 0 0),(7,nv 0)] (by simp [upd])) ?_
  refine rclss_l1 hw ht hl (u0 := u) (fun q H h1 h2 => ?_) ts.length 0 _ (by omega) (fun p => by simp [clsLU,clsL]) (fun p => ?_)
  · simp
    exact reth_fam2 rfl rfl h1 h2
  · by_cases hp : p = []
    · subst hp
      simp [clsL]
    · simp [hp,Ne.symm hp]
section
variable {n0 : Nat} {w0 : World} {I0 : Nat→Prop} {Q : Exit→Sta→Prop} {H : Hp}
end
end Go.Proofs.Ytmeldaflhkiopaa

namespace Go.Proofs.Ytmeldaflhkiopaa
set_option linter.unusedVariables false
set_option linter.unusedSimpArgs false
open Go Go.G Go.Proofs Go.PL
theorem treeWord_spec (t : T) (i : Nat) : G.Spec Try.prog 46 [tX t,iv i] (uv (t.words.getD i 0)) := by
  refine spec_of t_tree_Word (by simp) fun w0 I0 => ?_
  unfold c_tree_Word
  have hn : ¬ (i : Int) < 0 := by omega
  by_cases h : i < t.words.length
  · have h2 : ¬ t.words.length≤i := by omega
    simp [h,hn,h2]
    exact frz_is rfl (by simp [h])
  · have h2 : t.words.length≤i := by omega
    simp [h,hn,h2]
    exact frz_is rfl (by simp [List.getElem?_eq_none (Nat.le_of_not_lt h)])
theorem treeKid_spec (t : T) (i : Nat) : G.Spec Try.prog 47 [tX t,iv i] (tX (t.kids.getD i T0)) := by
  refine spec_of t_tree_Kid (by simp) fun w0 I0 => ?_
  unfold c_tree_Kid
  have hn : ¬ (i : Int) < 0 := by omega
  by_cases h : i < t.kids.length
  · have h2 : ¬ t.kids.length≤i := by omega
    simp [h,hn,h2]
    exact frz_bare (by simp)
  · have h2 : t.kids.length≤i := by omega
    simp [h,hn,h2]
    exact frz_agg (by simp; exact ⟨frz_bare rfl,frz_sl,frz_sl⟩)
section
variable {n0 : Nat} {w0 : World} {I0 : Nat→Prop} {Q : Exit→Sta→Prop}
end
end Go.Proofs.Ytmeldaflhkiopaa

namespace Go.PL
set_option linter.unusedVariables false
set_option linter.unusedSimpArgs false
def hd (t : T) : Int := t.words.headD 0
structure PutI (w i : Nat) (out : List Int) : Prop where
  rng : ∀ (j : Nat) (h : j < out.length),0≤out[j]∧out[j] < 18446744073709551616
  here : ∀ (h : i * w / 64 < out.length),out[i * w / 64] < 2 ^ (i * w % 64)
  zero : ∀ (j : Nat) (h : j < out.length),i * w / 64 < j→out[j] = 0
theorem PutI.start (w m : Nat) : PutI w 0 (List.replicate m 0) := ⟨fun j h => by simp,fun h => by simp,fun j h _ => by simp⟩
end Go.PL

namespace Go.PL
set_option linter.unusedVariables false
set_option linter.unusedSimpArgs false
def trimG {α : Type} (p : α→Bool) (l : List α) : List α := (l.reverse.dropWhile p).reverse
theorem trimG_snoc {α : Type} {p : α→Bool} (l : List α) (x : α) : trimG p (l ++ [x]) = if p x = true then trimG p l else l ++ [x] := by
  unfold trimG
  rw [List.reverse_append,List.reverse_singleton,List.singleton_append,List.dropWhile_cons]
  split <;> simp
theorem snocRec {α : Type} {P : List α→Prop} (h0 : P []) (h1 : ∀ l x,P l→P (l ++ [x])) (l : List α) : P l := by
  have : ∀ m : List α,P m.reverse := by
    intro m
    induction m with
    | nil => exact h0
    | cons x m ih => rw [List.reverse_cons]; exact h1 _ _ ih
  have := this l.reverse
  rwa [List.reverse_reverse] at this
theorem trimG_getD {α : Type} {p : α→Bool} {z : α} (l : List α) : (∀ x,x ∈ l→p x = true→x = z)→∀ i,(trimG p l).getD i z = l.getD i z := by
  refine snocRec (P := fun l => (∀ x,x ∈ l→p x = true→x = z)→∀ i,(trimG p l).getD i z = l.getD i z) (fun _ i => rfl) (fun l x ih h i => ?_) l
  rw [trimG_snoc]
  split
  · rename_i hx
    rw [ih (fun y hy => h y (by simp [hy])) i]
    have := h x (by simp) hx
    subst this
    simp only [List.getD_eq_getElem?_getD,List.getElem?_append]
    split
    · rfl
    · rw [List.getElem?_eq_none (by omega)]
      by_cases e : i - l.length = 0
      · simp [e]
      · rw [List.getElem?_eq_none (by simp; omega)]
  · rfl
theorem trimG_last {α : Type} {p : α→Bool} {z : α} (l : List α) : trimG p l ≠ []→p ((trimG p l).getD ((trimG p l).length - 1) z) = false := by
  refine snocRec (P := fun l => trimG p l ≠ []→p ((trimG p l).getD ((trimG p l).length - 1) z) = false) (fun h => absurd rfl h) (fun l x ih h => ?_) l
  rw [trimG_snoc] at h ⊢
  split
  · rename_i hx
    rw [if_pos hx] at h
    exact ih h
  · rename_i hx
    simp at hx ⊢
    exact hx
theorem trimG_eq {α : Type} {p : α→Bool} {z : α} (hz : p z = true) {a b : List α} (ha : ∀ x,x ∈ a→p x = true→x = z) (hb : ∀ x,x ∈ b→p x = true→x = z) : trimG p a = trimG p b ↔ ∀ i,a.getD i z = b.getD i z := by
  constructor
  · intro h i
    rw [← trimG_getD a ha,h,trimG_getD b hb]
  · intro h
    have h' : ∀ i,(trimG p a).getD i z = (trimG p b).getD i z := fun i => by rw [trimG_getD a ha,trimG_getD b hb,h]
    have one : ∀ c d : List α,(∀ i,(trimG p c).getD i z = (trimG p d).getD i z)→(trimG p c).length≤(trimG p d).length := fun c d hcd => by
      by_cases e : trimG p c = []
      · simp [e]
      · have hl := trimG_last (z := z) c e
        have hpos : 0 < (trimG p c).length := List.length_pos_iff.2 e
        rw [hcd] at hl
        refine Nat.le_of_not_lt fun hlt => ?_
        rw [List.getD_eq_getElem?_getD,List.getElem?_eq_none (by omega)] at hl
        simp [hz] at hl
    have hlen : (trimG p a).length = (trimG p b).length := Nat.le_antisymm (one a b h') (one b a fun i => (h' i).symm)
    apply List.ext_getElem hlen
    intro i h1 h2
    have := h' i
    simpa [List.getD_eq_getElem?_getD,h1,h2] using this
theorem trimW_G (l : List Int) : trimW l = trimG (fun x => x == 0) l := rfl
theorem trimK_G (l : List T) : trimK l = trimG (fun x => x.kind == 0) l := rfl
theorem trimW_eq {a b : List Int} : trimW a = trimW b ↔ ∀ i,a.getD i 0 = b.getD i 0 := by
  rw [trimW_G,trimW_G]
  exact trimG_eq rfl (fun x _ h => by simpa using h) (fun x _ h => by simpa using h)
theorem norm_kind0 {t : T} (h : t.kind = 0) : norm t = T0 := by cases t; simp at h; rw [norm_mk,if_pos h]
theorem norm_T0 : norm T0 = T0 := norm_kind0 rfl
theorem getD_norm (l : List T) (i : Nat) : (l.map norm).getD i T0 = norm (l.getD i T0) := by
  simp only [List.getD_eq_getElem?_getD,List.getElem?_map]
  cases l[i]? with
  | none => simp [norm_T0]
  | some x => rfl
theorem trimK_eq {a b : List T} : trimK (a.map norm) = trimK (b.map norm) ↔ ∀ i,norm (a.getD i T0) = norm (b.getD i T0) := by
  have hz : ∀ c : List T,∀ x,x ∈ c.map norm→(x.kind == 0) = true→x = T0 := fun c x hx h0 => by
    obtain ⟨y,_,rfl⟩ := List.mem_map.1 hx
    simp at h0
    exact norm_kind0 h0
  rw [trimK_G,trimK_G,trimG_eq (z := T0) rfl (hz a) (hz b)]
  constructor
  · intro h i; rw [← getD_norm,← getD_norm]; exact h i
  · intro h i; rw [getD_norm,getD_norm]; exact h i
theorem struct_eq {w w' : List Int} {a b : List T} : norm (.mk 1 w a) = norm (.mk 1 w' b) ↔ (∀ i,w.getD i 0 = w'.getD i 0)∧∀ i,norm (a.getD i T0) = norm (b.getD i T0) := by
  rw [norm_mk,norm_mk]
  simp only [if_neg (show ¬ (1 : Int) = 0 by decide),if_true,T.mk.injEq,true_and]
  rw [trimW_eq,trimK_eq]
theorem other_eq {k : Int} {w w' : List Int} {a b : List T} (h0 : k ≠ 0) (h1 : k ≠ 1) : norm (.mk k w a) = norm (.mk k w' b) ↔ w = w'∧a.map norm = b.map norm := by
  rw [norm_mk,norm_mk]
  simp [h0,h1]
theorem norm_norm : ∀ t,norm (norm t) = norm t := by
  refine T.ind fun k w ks ih => ?_
  have hm : (ks.map norm).map norm = ks.map norm := by
    rw [List.map_map]
    exact List.map_congr_left fun x hx => ih x hx
  rw [norm_mk]
  split
  · exact norm_T0
  · rename_i h0
    split
    · rename_i h1
      subst h1
      rw [struct_eq (w' := w) (b := ks) |>.2 ⟨fun i => ?_,fun i => ?_⟩,norm_mk]
      · simp
      · rw [trimW_G]
        exact trimG_getD w (fun x _ h => by simpa using h) i
      · have hz : ∀ x,x ∈ ks.map norm→(x.kind == 0) = true→x = T0 := fun x hx h0 => by
          obtain ⟨y,_,rfl⟩ := List.mem_map.1 hx
          simp at h0
          exact norm_kind0 h0
        rw [trimK_G,trimG_getD _ hz i,← getD_norm,hm,getD_norm]
    · rename_i h1
      rw [norm_mk,if_neg h0,if_neg h1,hm]
end Go.PL

namespace Go.PL
set_option linter.unusedVariables false
set_option linter.unusedSimpArgs false
def wdT (t : T) (i : Nat) : Int := t.words.getD i 0
end Go.PL

namespace Go.PL
set_option linter.unusedVariables false
set_option linter.unusedSimpArgs false
theorem right_norm : ∀ (t : T) (d : Nat),rightT d t = true→rightT d (norm t) = true := by
  refine T.ind fun k w l ih d h => ?_
  have hk := rightT_struct h
  rw [rightT_mk] at h
  rw [norm_mk]
  by_cases h0 : k = 0
  · rw [if_pos h0,rightT_mk]; rfl
  rw [if_neg h0] at h ⊢
  by_cases h10 : k = 10
  · subst h10
    rw [if_pos rfl] at h
    simp at h
    obtain ⟨hw,rfl⟩ := h
    rw [if_neg (by decide),rightT_mk]
    simp [hw]
  rw [if_neg h10] at h
  by_cases hb : tooBig k d w.length l.length = true
  · rw [if_pos hb] at h; cases h
  have hm : ∀ (m : List T),(∀ t,t ∈ m→∃ u,u ∈ l∧t = norm u)→rightL (d - 1) k m = true := fun m hm => rightL_all.2 fun t ht => by
    obtain ⟨u,hu,rfl⟩ := hm t ht
    obtain ⟨g1,g2⟩ := hk u hu
    refine ⟨ih u hu _ g1,?_⟩
    unfold kidOk at g2 ⊢
    rw [norm_kind]
    cases hd : isData k with
    | false => rw [hd] at g2; simpa using g2
    | true =>
      rw [hd] at g2
      simp at g2
      obtain ⟨⟨g3,g4⟩,g5⟩ := g2
      obtain ⟨uk,uw,ul⟩ := u
      simp at g3
      subst g3
      rw [norm_mk]
      simp at g4 g5 ⊢
      exact ⟨g4,g5⟩
  by_cases h1 : k = 1
  · subst h1
    have hw := trimW_le w
    have hl := trimK_le (l.map norm)
    rw [List.length_map] at hl
    have hb' : ¬ tooBig 1 d (trimW w).length (trimK (l.map norm)).length = true := by
      simp [tooBig] at hb ⊢
      omega
    rw [if_pos rfl,rightT_mk,if_neg (by decide),if_neg (by decide),if_neg hb']
    refine hm _ fun t ht => ?_
    rw [trimK_take] at ht
    obtain ⟨u,hu,rfl⟩ := List.mem_map.1 (List.mem_of_mem_take ht)
    exact ⟨u,hu,rfl⟩
  · rw [if_neg h1,rightT_mk,if_neg h0,if_neg h10,if_neg (by rw [List.length_map]; exact hb)]
    refine hm _ fun t ht => ?_
    obtain ⟨u,hu,rfl⟩ := List.mem_map.1 ht
    exact ⟨u,hu,rfl⟩
inductive SmT : T→Prop
  | mk (k : Int) (w : List Int) (l : List T) : l.length≤1048576→(∀ t,t ∈ l→SmT t)→SmT (.mk k w l)
theorem SmT.len {t : T} (h : SmT t) : t.kids.length≤1048576 := by cases h; assumption
end Go.PL

namespace Go.Proofs.Ytmeldaflhkiopaa
set_option linter.unusedVariables false
set_option linter.unusedSimpArgs false
open Go Go.G Go.Proofs Go.PL
theorem tList_spec (k : Int) : G.Spec Try.prog 53 [iv k] (bv (decide (2≤k) && decide (k≤9))) := by
  refine spec_of t_tree_List (by simp) fun w0 I0 => ?_
  unfold c_tree_List
  simp
  exact frz_bare rfl
section
variable {n0 : Nat} {w0 : World} {I0 : Nat→Prop} {Q : Exit→Sta→Prop}
end
end Go.Proofs.Ytmeldaflhkiopaa

namespace Go.Proofs.Ytmeldaflhkiopaa
set_option linter.unusedVariables false
set_option linter.unusedSimpArgs false
open Go Go.G Go.Proofs Go.PL
theorem kids_same {a b : List T} (hl : a.length = b.length) : a.map norm = b.map norm ↔ ∀ i,norm (a.getD i T0) = norm (b.getD i T0) := by
  constructor
  · intro h i; rw [← getD_norm,h,getD_norm]
  · intro h
    apply List.ext_getElem (by simpa using hl)
    intro i h1 h2
    have := h i
    simp at h1 h2
    simpa [List.getD_eq_getElem?_getD,h1,h2] using this
section
variable {n0 : Nat} {w0 : World} {I0 : Nat→Prop} {Q : Exit→Sta→Prop}
end
end Go.Proofs.Ytmeldaflhkiopaa

namespace Go.Proofs.Ytmeldaflhkiopaa
set_option linter.unusedVariables false
set_option linter.unusedSimpArgs false
open Go Go.G Go.Proofs Go.PL
section
variable {n0 : Nat} {w0 : World} {I0 : Nat→Prop} {Q : Exit→Sta→Prop}
theorem seq_l1 {a b : List Int} (hl : a.length = b.length) (hb : a.length * 8≤140737488355328) {H : Hp} : ∀ (m i : Nat),i + m = a.length→a.take i = b.take i→(a = b→∀ q,Q (.exit 0) ⟨lk [(0,uws a),(1,uws b),(12,iv a.length),(13,iv a.length),(14,bv q)],H⟩)→(a ≠ b→Q .ret ⟨lk [(4,bv false)],H⟩) →
    LoopC (cx Try.prog w0 I0 n0) l1_slices_Equal_uint64_uint64 Q ⟨lk [(0,uws a),(1,uws b),(12,iv a.length),(13,iv i)],H⟩ := by
  intro m
  induction m with
  | zero =>
    intro i hi ht h1 h2
    have : i = a.length := by omega
    subst this
    rw [List.take_of_length_le (Nat.le_refl _),List.take_of_length_le (by omega)] at ht
    refine loopC_once mixed l1_slices_Equal_uint64_uint64.eq_1 ?_
    simp
    exact h1 ht _
  | succ m ih =>
    intro i hi ht h1 h2
    have hlt : i < a.length := by omega
    have hlt' : i < b.length := by omega
    have ei : IntKind.i64.wrap ((i : Int) + 1) = ((i + 1 : Nat) : Int) := i64_same (by omega) (by omega)
    refine loopC_once mixed l1_slices_Equal_uint64_uint64.eq_1 ?_
    by_cases e : a[i] = b[i]
    · simp [hlt,hlt',e,ei]
      refine ih (i + 1) (by omega) ?_ h1 h2
      rw [List.take_succ_eq_append_getElem hlt,List.take_succ_eq_append_getElem hlt',ht,e]
    · simp [hlt,hlt',e]
      exact h2 fun q => e (by simp [q])
end
theorem sEqual_spec (a b : List Int) (hb : a.length * 8≤140737488355328) : G.Spec Try.prog 45 [uws a,uws b] (bv (decide (a = b))) := by
  refine spec_of t_slices_Equal_uint64_uint64 (by simp) fun w0 I0 => ?_
  unfold c_slices_Equal_uint64_uint64
  by_cases hl : a.length = b.length
  · simp [hl]
    have := seq_l1 (n0 := 26) (w0 := w0) (I0 := I0) (a := a) (b := b) (H := lkH []) (Q := InBlock 0 (ThenC (WPC (cx Try.prog w0 I0 26) (.keep [] (.seq (.reg [co (some 4) (.assign (.const (.bool true))) none] [4]) .ret)) (RetC Try.prog [.tmp 4] (bv (decide (a = b))))) (RetC Try.prog [.tmp 4] (bv (decide (a = b)))))) hl hb a.length 0 (by simp) rfl (fun e q => ?_) (fun e => ?_)
    · rw [hl] at this
      simpa using this
    · simp
      exact frz_bool (by simp [e])
    · simp
      exact frz_bool (by simp [e])
  · have hl' : ¬ (a.length : Int) = b.length := by omega
    simp [hl,hl']
    exact frz_bool (by simp; intro e; exact absurd (by rw [e]) hl)
theorem eqS_kind {t u : T} (h : t.kind ≠ u.kind∨t.kind = 0) : eqT t u = decide (t.kind = u.kind) := by
  rw [Bool.eq_iff_iff,eqT_iff,decide_eq_true_eq]
  constructor
  · intro e; rw [← norm_kind t,e,norm_kind]
  · intro e
    rcases h with h | h
    · exact absurd e h
    · rw [norm_kind0 h,norm_kind0 (by omega)]
theorem pEqual_null {t u : T} (h : t.kind ≠ u.kind∨t.kind = 0) : G.Spec Try.prog 29 [tX t,tX u] (bv (eqT t u)) := by
  refine spec_of t_tree_Equal (by simp) fun w0 I0 => ?_
  unfold c_tree_Equal
  rw [eqS_kind h]
  by_cases e : t.kind = u.kind
  · have h0 : u.kind = 0 := by omega
    simp [e,h0]
    exact frz_bare rfl
  · simp [e]
    exact frz_bool (by simp [e])
section
variable {n0 : Nat} {w0 : World} {I0 : Nat→Prop} {Q : Exit→Sta→Prop}
theorem pequal_l1 {t u : T} {n : Nat} (hN : n≤100000000000000) {H : Hp} (h0 : H [0] = ⟨1,.cells (tL t)⟩) (h1 : H [1] = ⟨1,.cells (tL u)⟩)
    (hq : (∀ i,i < n→t.words.getD i 0 = u.words.getD i 0)→∀ (q : Bool),Q (.exit 0) ⟨lk [(2,.pob [0] 1 0),(3,.pob [1] 1 0),(48,iv n),(49,iv n),(50,bv q)],H⟩)
    (hf : (∃ i,t.words.getD i 0 ≠ u.words.getD i 0)→Q .ret ⟨lk [(4,bv false)],H⟩) :
    ∀ (j i : Nat),i + j = n→(∀ i',i' < i→t.words.getD i' 0 = u.words.getD i' 0) →
    LoopC (cx Try.prog w0 I0 n0) l1_tree_Equal Q ⟨lk [(2,.pob [0] 1 0),(3,.pob [1] 1 0),(48,iv n),(49,iv i)],H⟩ := by
  intro j
  induction j with
  | zero =>
    intro i hi he
    have : i = n := by omega
    subst this
    refine loopC_once mixed l1_tree_Equal.eq_1 ?_
    simp
    exact hq he _
  | succ j ih =>
    intro i hi he
    have hlt : i < n := by omega
    have ei : IntKind.i64.wrap ((i : Int) + 1) = ((i + 1 : Nat) : Int) := i64_same (by omega) (by omega)
    refine loopC_once mixed l1_tree_Equal.eq_1 ?_
    simp [hlt,h0,h1]
    refine sc_call (treeWord_spec t i) (by simp) ?_
    simp [h0,h1]
    refine sc_call (treeWord_spec u i) (by simp) ?_
    by_cases hw : t.words.getD i 0 = u.words.getD i 0
    · have hw' := hw
      simp only [List.getD_eq_getElem?_getD] at hw'
      simp [hw',ei]
      refine ih (i + 1) (by omega) (fun i' hi' => ?_)
      by_cases e : i' = i
      · rw [e]; exact hw
      · exact he i' (by omega)
    · have hw' := hw
      simp only [List.getD_eq_getElem?_getD] at hw'
      simp [hw']
      exact hf ⟨i,hw⟩
end
theorem getD_none {α : Type} {l : List α} {i : Nat} {z : α} (h : l.length≤i) : l.getD i z = z := by rw [List.getD_eq_getElem?_getD,List.getElem?_eq_none h]; rfl
end Go.Proofs.Ytmeldaflhkiopaa

namespace Go.Proofs.Ytmeldaflhkiopaa
set_option linter.unusedVariables false
set_option linter.unusedSimpArgs false
open Go Go.G Go.Proofs Go.PL
theorem wfG_getD {u : T} (hw : wfT u) (i : Nat) : wfT (u.kids.getD i T0) := by
  by_cases hi' : i < u.kids.length
  · have e : u.kids.getD i T0 = u.kids[i] := by simp [List.getD_eq_getElem?_getD,hi']
    rw [e]
    exact (wfT_iff.1 hw).ks _ (List.getElem_mem hi')
  · have e : u.kids.getD i T0 = T0 := by rw [List.getD_eq_getElem?_getD,List.getElem?_eq_none (by simpa using hi')]; rfl
    rw [e]
    exact wfT_iff.2 ⟨by simp [i64R],by simp,by simp,by simp,by simp⟩
def EqG (t : T) : Prop := ∀ u : T,wfT t→wfT u→G.Spec Try.prog 29 [tX t,tX u] (bv (eqT t u))
theorem eqT_any {k : Int} {w : List Int} {a : List T} {u : T} (h0 : k ≠ 0) : eqT (.mk k w a) u = true ↔ k = u.kind∧(k = 1∨(a.length = u.kids.length∧w = u.words))∧(∀ i,w.getD i 0 = u.words.getD i 0)∧∀ i,norm (a.getD i T0) = norm (u.kids.getD i T0) := by
  rw [eqT_iff]
  obtain ⟨k',w',b⟩ := u
  by_cases hk : k = k'
  rotate_left
  · constructor
    · intro h
      have := congrArg T.kind h
      simp at this
      exact absurd this hk
    · intro h; exact absurd h.1 hk
  subst hk
  by_cases h1 : k = 1
  · subst h1
    rw [struct_eq]
    simp
  rw [other_eq h0 h1]
  constructor
  · rintro ⟨rfl,h⟩
    have hl : a.length = b.length := by simpa using congrArg List.length h
    exact ⟨rfl,.inr ⟨hl,rfl⟩,fun i => rfl,(kids_same hl).1 h⟩
  · rintro ⟨_,h,_,h3⟩
    rcases h with h | ⟨hl,rfl⟩
    · exact absurd h h1
    · exact ⟨rfl,(kids_same hl).2 h3⟩
section
variable {n0 : Nat} {w0 : World} {I0 : Nat→Prop} {Q : Exit→Sta→Prop}
theorem eqg_l2 {t u : T} {n : Nat} (hn : n≤100000000000000) (hw : wfT t) (hwu : wfT u) (hk : ∀ i,i < n→EqG (t.kids.getD i T0)) {H : Hp} (h0 : H [0] = ⟨1,.cells (tL t)⟩) (h1 : H [1] = ⟨1,.cells (tL u)⟩)
    (hq : (∀ i,i < n→norm (t.kids.getD i T0) = norm (u.kids.getD i T0))→∀ (q : Bool),Q (.exit 2) ⟨lk [(2,.pob [0] 1 0),(3,.pob [1] 1 0),(66,iv n),(67,iv n),(68,bv q)],H⟩)
    (hf : (∃ i,norm (t.kids.getD i T0) ≠ norm (u.kids.getD i T0))→Q .ret ⟨lk [(4,bv false)],H⟩) :
    ∀ (j i : Nat),i + j = n→(∀ i',i' < i→norm (t.kids.getD i' T0) = norm (u.kids.getD i' T0)) →
    LoopC (cx Try.prog w0 I0 n0) l2_tree_Equal Q ⟨lk [(2,.pob [0] 1 0),(3,.pob [1] 1 0),(66,iv n),(67,iv i)],H⟩ := by
  intro j
  induction j with
  | zero =>
    intro i hi he
    have : i = n := by omega
    subst this
    refine loopC_once mixed l2_tree_Equal.eq_1 ?_
    simp
    exact hq he _
  | succ j ih =>
    intro i hi he
    have hlt : i < n := by omega
    have ei : IntKind.i64.wrap ((i : Int) + 1) = ((i + 1 : Nat) : Int) := i64_same (by omega) (by omega)
    have hrec := hk i hlt (u.kids.getD i T0) (wfG_getD hw i) (wfG_getD hwu i)
    refine loopC_once mixed l2_tree_Equal.eq_1 ?_
    simp [hlt,h0,h1]
    refine sc_call (treeKid_spec t i) (by simp) ?_
    simp [h0,h1]
    refine sc_call (treeKid_spec u i) (by simp) ?_
    simp [h0,h1]
    refine sc_call hrec (by simp) ?_
    cases hb : eqT (t.kids.getD i T0) (u.kids.getD i T0) with
    | true =>
      simp [ei]
      refine ih (i + 1) (by omega) (fun i' hi' => ?_)
      by_cases e : i' = i
      · rw [e]; exact eqT_iff.1 hb
      · exact he i' (by omega)
    | false =>
      simp
      exact hf ⟨i,fun e => by rw [eqT_iff.2 e] at hb; cases hb⟩
end
set_option maxRecDepth 8000 in
theorem eqG_all : ∀ t : T,EqG t := by
  refine T.ind fun k w ks ih u hw hwu => ?_
  have hw' := wfT_iff.1 hw
  have hu' := wfT_iff.1 hwu
  have hwl := hw'.wl
  have hkl := hw'.kl
  have hul := hu'.wl
  have huk := hu'.kl
  simp only [T.words_mk,T.kids_mk] at hwl hkl
  have hk0 : ∀ i,EqG ((T.mk k w ks).kids.getD i T0) := fun i => by
    by_cases hi : i < ks.length
    · have e : (T.mk k w ks).kids.getD i T0 = ks[i] := by simp [List.getD_eq_getElem?_getD,hi]
      rw [e]; exact ih _ (List.getElem_mem hi)
    · have e : (T.mk k w ks).kids.getD i T0 = T0 := getD_none (by simpa using hi)
      rw [e]
      intro u _ _
      exact pEqual_null (.inr rfl)
  by_cases hkk : k ≠ u.kind∨k = 0
  · exact pEqual_null hkk
  have h1 : k = u.kind := by omega
  have h0 : ¬ u.kind = 0 := by omega
  simp only [T.kids_mk] at hk0
  have yes : (k = 1∨(ks.length = u.kids.length∧w = u.words))→(∀ i,w.getD i 0 = u.words.getD i 0)→(∀ i,norm (ks.getD i T0) = norm (u.kids.getD i T0))→eqT (.mk k w ks) u = true := fun a b c => (eqT_any (by omega)).2 ⟨h1,a,b,c⟩
  have no : ¬ ((k = 1∨(ks.length = u.kids.length∧w = u.words))∧(∀ i,w.getD i 0 = u.words.getD i 0)∧(∀ i,norm (ks.getD i T0) = norm (u.kids.getD i T0)))→eqT (.mk k w ks) u = false := fun h => by
    rw [Bool.eq_false_iff]
    intro e
    exact h ((eqT_any (by omega)).1 e).2
  obtain ⟨N,hN⟩ : ∃ N : Nat,N = max w.length u.words.length := ⟨_,rfl⟩
  obtain ⟨M,hM⟩ : ∃ M : Nat,M = max ks.length u.kids.length := ⟨_,rfl⟩
  have eN : max (w.length : Int) (u.words.length : Int) = (N : Int) := by omega
  have eM : max (ks.length : Int) (u.kids.length : Int) = (M : Int) := by omega
  refine spec_of t_tree_Equal (by simp) fun w0 I0 => ?_
  have main : (k = 1∨(ks.length = u.kids.length∧w = u.words))→WPC (cx Try.prog w0 I0 79) k1_tree_Equal (RetC Try.prog [.tmp 4] (bv (eqT (.mk k w ks) u))) ⟨lk [(2,.pob [0] 1 0),(3,.pob [1] 1 0)],lkH [([0],⟨1,.cells [iv k,uws w,tKs ks]⟩),([1],⟨1,.cells [iv u.kind,uws u.words,tKs u.kids]⟩)]⟩ := fun hc => by
    rw [k1_tree_Equal.eq_1]
    simp [eN]
    refine pequal_l1 (t := .mk k w ks) (u := u) (by omega) (by simp) (by simp) (fun he q => ?_) (fun hf => ?_) N 0 (by omega) (fun i hi => by omega)
    · have heq : ∀ i,w.getD i 0 = u.words.getD i 0 := fun i => by
        by_cases hi : i < N
        · exact he i hi
        · rw [getD_none (by omega),getD_none (by omega)]
      simp [eM]
      refine eqg_l2 (t := .mk k w ks) (u := u) (by omega) hw hwu (fun i _ => hk0 i) (by simp) (by simp) (fun he2 q => ?_) (fun hf => ?_) M 0 (by omega) (fun i hi => by omega)
      · simp
        refine frz_bool (yes hc heq fun i => ?_).symm
        by_cases hi : i < M
        · exact he2 i hi
        · rw [getD_none (by omega),getD_none (by omega)]
      · simp
        refine frz_bool (no fun h => ?_).symm
        obtain ⟨i,hi⟩ := hf
        exact hi (h.2.2 i)
    · simp
      refine frz_bool (no fun h => ?_).symm
      obtain ⟨i,hi⟩ := hf
      exact hi (h.2.1 i)
  unfold c_tree_Equal
  by_cases k1 : k = 1
  · have u1 : u.kind = 1 := by omega
    have hm := main (.inl k1)
    rw [u1] at hm
    subst k1
    simp [u1]
    refine sc_call_off rfl ?_
    simp
    exact stop_go hm
  · have u1 : ¬ u.kind = 1 := by omega
    by_cases hl : ks.length = u.kids.length
    · have hl' : (ks.length : Int) = u.kids.length := by omega
      simp [h1,h0,u1,hl']
      refine sc_call_gf rfl (fun _ => sEqual_spec w u.words (by omega)) (fun _ => rfl) rfl ?_
      by_cases hww : w = u.words
      · simp [hww]
        have := main (.inr ⟨hl,hww⟩)
        rw [h1,hww] at this
        exact stop_go this
      · simp [hww]
        refine frz_bool ?_
        rw [← h1]
        refine (no fun h => ?_).symm
        rcases h.1 with h | h
        · exact k1 h
        · exact hww h.2
    · have hl' : ¬ (ks.length : Int) = u.kids.length := by omega
      simp [h1,h0,u1,hl,hl']
      refine sc_call_off rfl ?_
      simp
      refine frz_bool ?_
      rw [← h1]
      exact (no fun h => by
        rcases h.1 with h | h
        · exact k1 h
        · exact hl h.1).symm
theorem eqG_spec {t u : T} (hw : wfT t) (hwu : wfT u) : G.Spec Try.prog 29 [tX t,tX u] (bv (eqT t u)) := eqG_all t u hw hwu
end Go.Proofs.Ytmeldaflhkiopaa

namespace Go.Proofs.Ytmeldaflhkiopaa
set_option linter.unusedVariables false
set_option linter.unusedSimpArgs false
open Go Go.G Go.Proofs Go.PL
def kmF (v : Nat) (l : List T) : Fam := ⟨fun r p => if p = [] then ⟨1,.cells [.osl (r :: [0]) v 3 0 l.length]⟩ else if p = [0] then ⟨v,.arr 3 (l.map tA)⟩ else ⟨0,.none⟩,fun {γ δ r r'} hg hd p => by
    by_cases h1 : p = []
    · rw [if_pos h1,if_pos h1]
      refine Fam.cells_ren ?_
      simp [A.renL,A.ren,hg,hd]
    · rw [if_neg h1,if_neg h1]
      by_cases h2 : p = [0]
      · rw [if_pos h2]
        exact Fam.arr_ren ((FamL.all trs_fam).ren hg hd)
      · rw [if_neg h2]; rfl,fun {D r} hD p => by
    by_cases h1 : p = []
    · rw [if_pos h1]
      simp [Ob.refs,A.refsL,A.refs,hD]
    · rw [if_neg h1]
      by_cases h2 : p = [0]
      · rw [if_pos h2]
        exact (FamL.all trs_fam).refs hD
      · rw [if_neg h2]; trivial⟩
@[simp] theorem kmF_F {v : Nat} {l : List T} {r : Nat} {p : Nm} : (kmF v l).F r p = if p = [] then ⟨1,.cells [.osl (r :: [0]) v 3 0 l.length]⟩ else if p = [0] then ⟨v,.arr 3 (l.map tA)⟩ else ⟨0,.none⟩ := rfl
noncomputable def ofU (v : Nat) (ks : List T) (t : T) : Nat := if clsI ks t < ks.length then v else v + 1
noncomputable def ofVs : Nat→List T→List T→Nat
  | v,_,[] => v
  | v,ks,t :: l => ofVs (ofU v ks (norm t)) (clsK ks (norm t)) l
theorem ofVs_append : ∀ (l : List T) (u : Nat) (ks : List T) (t : T),ofVs u ks (l ++ [t]) = ofU (ofVs u ks l) (clsL ks l).1 (norm t)
  | [],u,ks,t => by simp [ofVs,clsL]
  | a :: l,u,ks,t => by simp [ofVs,clsL,ofVs_append l]
theorem clsK_nrm {ks : List T} {n : T} (h : ∀ k,k ∈ ks→norm k = k) (hn : norm n = n) : ∀ k,k ∈ clsK ks n→norm k = k := by
  unfold clsK
  split
  · exact h
  · intro k hk
    rcases List.mem_append.1 hk with hk | hk
    · exact h k hk
    · simp at hk; subst hk; exact hn
theorem clsL_nrm : ∀ {l ks : List T},(∀ k,k ∈ ks→norm k = k)→∀ k,k ∈ (clsL ks l).1→norm k = k
  | [],ks,h => h
  | t :: l,ks,h => clsL_nrm (l := l) (clsK_nrm h (norm_norm t))
section
variable {n0 : Nat} {w0 : World} {I0 : Nat→Prop} {M0 : Nm→Nat→Prop} {m0 : Mu} {Q : Exit→Sta→Prop}
theorem of_l1 {ks : List T} (hw : ∀ k,k ∈ ks→wfT k) (hn : ∀ k,k ∈ ks→norm k = k) (hl : ks.length≤1000000) {t : T} (wt : wfT t) (nt : norm t = t) {v w i N y : Nat} {na : Nat} {acc : List Nat} (hna : na = acc.length) (hacc : acc.length≤1000000) {X : A}
    (hq : clsI ks t = ks.length→∀ (st : List (Nat × A)) (H' : Hp),(∀ p,H' (0 :: p) = (kmF v ks).F 0 p)→H' [1] = ⟨y,.cells (tL t)⟩→H' [3] = ⟨w,.arr 1 (acc.map nv)⟩→Q (.exit 2) ⟨lk ([(0,.pob [0] 1 0),(5,.osl [3] w 1 0 na),(7,.pob [1] y 0),(10,X),(11,iv N),(12,iv i)] ++ st),H'⟩)
    (hq2 : clsI ks t < ks.length→∀ (H' : Hp),(∀ p,H' (0 :: p) = (kmF v ks).F 0 p)→H' [3] = ⟨w + 1,.arr 1 ((acc ++ [clsI ks t]).map nv)⟩→Q (.exit 1) ⟨lk [(0,.pob [0] 1 0),(5,.osl [3] (w + 1) 1 0 (na + 1)),(10,X),(11,iv N),(12,iv i)],H'⟩) :
    ∀ (m j : Nat) (H : Hp),j + m = ks.length→(∀ (x : Nat) (hx : x < j) (h : x < ks.length),ks[x] ≠ t)→(∀ p,H (0 :: p) = (kmF v ks).F 0 p)→H [1] = ⟨y,.cells (tL t)⟩→H [3] = ⟨w,.arr 1 (acc.map nv)⟩ →
    LoopC (cxh Try.prog w0 I0 M0 n0 m0) l1_diff_classes_of Q ⟨lk [(0,.pob [0] 1 0),(5,.osl [3] w 1 0 na),(7,.pob [1] y 0),(10,X),(11,iv N),(12,iv i),(19,.osl [0,0] v 3 0 ks.length),(20,iv ks.length),(21,iv j)],H⟩ := by
  subst hna
  intro m
  induction m with
  | zero =>
    intro j H hj hb hF h1 h3
    have : j = ks.length := by omega
    subst this
    refine loopC_once mixed l1_diff_classes_of.eq_1 ?_
    simp
    exact hq (clsI_none fun hm => by
      obtain ⟨x,hx,e⟩ := List.mem_iff_getElem.1 hm
      exact hb x hx hx e) [(19,.osl [0,0] v 3 0 ks.length),(20,iv ks.length),(21,iv ks.length),(22,bv false)] H hF h1 h3
  | succ m ih =>
    intro j H hj hb hF h1 h3
    have hlt : j < ks.length := by omega
    have ew : IntKind.i64.wrap ((j : Int) + 1) = ((j + 1 : Nat) : Int) := by rw [i64_same (by omega) (by omega)]; omega
    have hF1 := hF [0]
    simp at hF1
    have hk := List.getElem_mem hlt
    refine loopC_once mixed l1_diff_classes_of.eq_1 ?_
    simp [hlt,hF1,h1,updF_app]
    refine sc_call (eqG_spec (hw _ hk) wt) (by simp) ?_
    have hE : eqT ks[j] t = sameB ks[j] t := by unfold eqT; rw [hn _ hk,nt]
    rw [hE]
    by_cases he : ks[j] = t
    · have hc := clsI_first hlt he fun x hx => hb x hx (by omega)
      have hs : sameB ks[j] t = true := sameB_iff.2 he
      rw [hc] at hq2
      simp [hs,updF_app,h3]
      refine ⟨by omega,?_⟩
      simp [InBlock]
      exact hq2 hlt _ (fun p => by simp [updF_app,hF]) (by simp [updF_app,List.take_of_length_le])
    · have hs : sameB ks[j] t = false := by rw [Bool.eq_false_iff]; exact fun h => he (sameB_iff.1 h)
      simp [hs,ew]
      refine ih (j + 1) _ (by omega) (fun x hx h => ?_) (fun p => by simp [updF_app,hF]) (by simp [updF_app,h1]) (by simp [updF_app,h3])
      by_cases e : x = j
      · subst e; exact he
      · exact hb x (by omega) h
theorem of_l2 {ks0 ts : List T} (hw : ∀ k,k ∈ ks0→wfT k) (hn : ∀ k,k ∈ ks0→norm k = k) (ht : ∀ k,k ∈ ts→wfT k) (htn : ∀ k,k ∈ ts→norm k = k) (hl : ks0.length + ts.length≤1000000) {v0 : Nat}
    (hq : ∀ (st : List (Nat × A)) (H' : Hp),(∀ p,H' (0 :: p) = (kmF (ofVs v0 ks0 ts) (clsL ks0 ts).1).F 0 p)→H' [3] = ⟨ts.length + 1,.arr 1 ((clsL ks0 ts).2.map nv)⟩→Q (.exit 0) ⟨lk ([(0,.pob [0] 1 0),(5,.osl [3] (ts.length + 1) 1 0 ts.length)] ++ st),H'⟩) :
    ∀ (m i : Nat) (H : Hp),i + m = ts.length→(∀ p,H (0 :: p) = (kmF (ofVs v0 ks0 (ts.take i)) (clsL ks0 (ts.take i)).1).F 0 p)→H [3] = ⟨i + 1,.arr 1 ((clsL ks0 (ts.take i)).2.map nv)⟩ →
    LoopC (cxh Try.prog w0 I0 M0 n0 m0) l2_diff_classes_of Q ⟨lk [(0,.pob [0] 1 0),(5,.osl [3] (i + 1) 1 0 i),(10,tKs ts),(11,iv ts.length),(12,iv i)],H⟩ := by
  intro m
  induction m with
  | zero =>
    intro i H hi hF h3
    have : i = ts.length := by omega
    subst this
    rw [List.take_of_length_le (Nat.le_refl _)] at hF h3
    refine loopC_once mixed l2_diff_classes_of.eq_1 ?_
    simp
    exact hq [(10,tKs ts),(11,iv ts.length),(12,iv ts.length),(13,bv false)] H hF h3
  | succ m ih =>
    intro i H hi hF h3
    have hlt : i < ts.length := by omega
    have ew : IntKind.i64.wrap ((i : Int) + 1) = ((i + 1 : Nat) : Int) := by rw [i64_same (by omega) (by omega)]; omega
    have htk : ts.take (i + 1) = ts.take i ++ [ts[i]] := List.take_succ_eq_append_getElem hlt
    have hti := List.getElem_mem hlt
    have nt := htn _ hti
    have hlen := clsL_len (ts.take i) ks0
    rw [List.length_take,Nat.min_eq_left (by omega)] at hlen
    have hkw := clsL_wf hw (l := ts.take i) fun k hk => ht k (List.mem_of_mem_take hk)
    have hkn := clsL_nrm hn (l := ts.take i) 
    have hlL : (clsL ks0 (ts.take i)).2.length = i := by rw [clsL_length,List.length_take,Nat.min_eq_left (by omega)]
    have ihn := ih (i + 1)
    rw [htk,ofVs_append,clsL_append,nt] at ihn
    simp only at ihn
    have hF0 := hF []
    have hF1 := hF [0]
    simp at hF0 hF1
    generalize hv : ofVs v0 ks0 (ts.take i) = v at *
    generalize hL : (clsL ks0 (ts.take i)).2 = L at *
    generalize hK : (clsL ks0 (ts.take i)).1 = K at *
    refine loopC_once mixed l2_diff_classes_of.eq_1 ?_
    simp [hlt,hF0,updF_app]
    refine LoopC.le (le_list [(0,.pob [0] 1 0),(5,.osl [3] (i + 1) 1 0 i),(7,.pob [1] ((H [1]).u + 1) 0),(10,tKs ts),(11,iv ts.length),(12,iv i),(19,.osl [0,0] v 3 0 K.length),(20,iv K.length),(21,iv (0 : Nat))] (by simp)) ?_
    refine of_l1 hkw hkn (by omega) (ht _ hti) nt (v := v) (w := i + 1) (i := i) (N := ts.length) (acc := L) hlL.symm (by omega) (X := tKs ts) (y := (H [1]).u + 1) (fun hc st H' g0 g1 g3 => ?_) (fun hc H' g0 g3 => ?_) K.length 0 _ (by omega) (fun x hx => by omega) (fun p => by simp [hF,updF_app]) (by simp [updF_app]) (by simp [updF_app,h3])
    · have g00 := g0 []
      have g01 := g0 [0]
      simp at g00 g01
      rw [hc] at ihn
      have hcK : clsK K ts[i] = K ++ [ts[i]] := by unfold clsK; rw [if_neg (by omega)]
      have hcU : ofU v K ts[i] = v + 1 := by unfold ofU; rw [if_neg (by omega)]
      rw [hcK,hcU] at ihn
      simp [InBlock,g00,g01,g1,g3,hlL,updF_app]
      refine ⟨by omega,by omega,by omega,?_⟩
      rw [ew]
      refine ihn _ (by omega) (fun p => ?_) (by simp [updF_app,hlL,List.take_of_length_le])
      by_cases h1 : p = []
      · subst h1; simp [updF_app]
      · by_cases h2 : p = [0]
        · subst h2; simp [updF_app,List.take_of_length_le]
        · simp [h1,h2,updF_app,g0]
    · have hcK : clsK K ts[i] = K := by unfold clsK; rw [if_pos hc]
      have hcU : ofU v K ts[i] = v := by unfold ofU; rw [if_pos hc]
      rw [hcK,hcU] at ihn
      simp [InBlock,ew]
      exact ihn _ (by omega) g0 g3
end
theorem clsOf_spec {ks ts : List T} (hw : ∀ k,k ∈ ks→wfT k) (hn : ∀ k,k ∈ ks→norm k = k) (ht : ∀ k,k ∈ ts→wfT k) (htn : ∀ k,k ∈ ts→norm k = k) (hl : ks.length + ts.length≤1000000) (v : Nat) :
    SpecF Try.prog 74 (fun r => [.pob [r] 1 0,tKs ts]) (kmF v ks) (fun r => .sl false ((clsL ks ts).2.map nv)) (kmF (ofVs v ks ts) (clsL ks ts).1) := by
  refine specF_of' t_diff_classes_of (by simp) (famL_cons famA_pob (famL_cons famA_sl famL_nil)) famA_sl fun w0 I0 M0 m0 hM => ?_
  unfold c_diff_classes_of
  simp
  refine LoopC.le (le_blank 5 [3] 1 (by simp)) ?_
  refine LoopC.le (le_list [(0,.pob [0] 1 0),(5,.osl [3] (0 + 1) 1 0 0),(10,tKs ts),(11,iv ts.length),(12,iv (0 : Nat))] (by simp [upd])) ?_
  refine of_l2 hw hn ht htn hl (v0 := v) (fun st H' g0 g3 => ?_) ts.length 0 _ (by omega) (fun p => ?_) ?_
  · simp
    obtain ⟨H2,k1,k2⟩ := le_freezeR (c := cxh Try.prog w0 I0 M0 55 m0) (s := lk [(5,.osl [3] (ts.length + 1) 1 0 ts.length)]) (H := H') (fun r => 1≤r) (fun r p b hr => hM r p b hr) 5 (.sl false ((clsL ks ts).2.map nv)) (fun H1 e1 => by
      have e2 : H1 [3] = H' [3] := e1 3 [] (by omega)
      simp
      exact frz_row (o := [3]) (u := ts.length + 1) (n := ts.length) (sz := 1) (l := (clsL ks ts).2) (f := nv) (by rw [e2,g3]; simp) (clsL_length ts ks).symm (fun x => rfl))
    refine stop_le k1 (stop_go ?_)
    simp [upd]
    exact reth_fam rfl rfl fun p => (k2 0 p (by omega)).trans (g0 p)
  · simp [clsL,ofVs]
  · simp [clsL]
end Go.Proofs.Ytmeldaflhkiopaa

namespace Go.PL
set_option linter.unusedVariables false
set_option linter.unusedSimpArgs false
def cntW : List Int→List Int→Nat
  | a :: l,b :: m => (if a = b then 1 else 0) + cntW l m
  | _,_ => 0
noncomputable def cntK : List T→List T→Nat
  | a :: l,b :: m => (if eqT a b = true then 1 else 0) + cntK l m
  | _,_ => 0
noncomputable def scoreT (a b : T) : Nat := if a.kind ≠ b.kind∨a.kind = 0∨a.kind = 10 then 0 else 1 + cntW a.words b.words + cntK a.kids b.kids
theorem cntW_at {l m : List Int} {i : Nat} (h1 : i < l.length) (h2 : i < m.length) : cntW (l.drop i) (m.drop i) = (if l[i] = m[i] then 1 else 0) + cntW (l.drop (i + 1)) (m.drop (i + 1)) := by
  rw [(List.getElem_cons_drop h1).symm,(List.getElem_cons_drop h2).symm,cntW]
theorem cntK_at {l m : List T} {i : Nat} (h1 : i < l.length) (h2 : i < m.length) : cntK (l.drop i) (m.drop i) = (if eqT l[i] m[i] = true then 1 else 0) + cntK (l.drop (i + 1)) (m.drop (i + 1)) := by
  rw [(List.getElem_cons_drop h1).symm,(List.getElem_cons_drop h2).symm,cntK]
theorem cntW_end {l m : List Int} {i : Nat} (h : i = min l.length m.length) : cntW (l.drop i) (m.drop i) = 0 := by
  by_cases h1 : i = l.length
  · rw [List.drop_eq_nil_of_le (by omega : l.length≤i)]; cases m.drop i <;> rfl
  · rw [List.drop_eq_nil_of_le (by omega : m.length≤i)]; cases l.drop i <;> rfl
theorem cntK_end {l m : List T} {i : Nat} (h : i = min l.length m.length) : cntK (l.drop i) (m.drop i) = 0 := by
  by_cases h1 : i = l.length
  · rw [List.drop_eq_nil_of_le (by omega : l.length≤i)]; cases m.drop i <;> rfl
  · rw [List.drop_eq_nil_of_le (by omega : m.length≤i)]; cases l.drop i <;> rfl
theorem cntW_len : ∀ l m,cntW l m≤l.length
  | [],_ => by simp [cntW]
  | _ :: _,[] => by simp [cntW]
  | a :: l,b :: m => by
    have := cntW_len l m
    unfold cntW
    simp
    split <;> omega
end Go.PL

namespace Go.PL
set_option linter.unusedVariables false
set_option linter.unusedSimpArgs false
open List
theorem candS_mem : ∀ {rs : List (List Int)} {i : Nat} {x : Sc},x ∈ candS i rs→i≤x.i∧x.i < 16∧x.j < 16∧0 < x.n∧∃ r,rs[x.i - i]? = some r∧r[x.j]? = some x.n
  | [],i,x,h => by simp [candS] at h
  | r :: rs,i,x,h => by
    unfold candS at h
    rcases List.mem_append.1 h with h | h
    · obtain ⟨h1,h2,h3,h4,h5,h6,h7⟩ := candR_lt h
      exact ⟨by omega,by omega,h3,h7,r,by rw [h1]; simp,by simpa using h6⟩
    · obtain ⟨h1,h2,h3,h4,r',h5,h6⟩ := candS_mem h
      refine ⟨by omega,h2,h3,h4,r',?_,h6⟩
      rw [show x.i - i = (x.i - (i + 1)) + 1 by omega]
      simpa using h5
end Go.PL

namespace Go.Proofs.Ytmeldaflhkiopaa
set_option linter.unusedVariables false
set_option linter.unusedSimpArgs false
open Go Go.G Go.Proofs Go.PL
theorem picks_all26 (rs : List (List Int)) : ∃ o',Picks (candS 0 rs) [] o'∧o'.length≤16 := by
  obtain ⟨o',h⟩ := picks_any (all := candS 0 rs) (by have := candS_len (rs := rs) (i := 0); omega)
  obtain ⟨h1,h2⟩ := picks_facts h
  refine ⟨o',h,?_⟩
  have hs := srt_ok h1
  rw [← hs.2.length_eq]
  have := rises_len (srtI o') 0 16 hs.1 fun x hx => ⟨by omega,(candS_mem (h2 x (hs.2.subset hx))).2.1⟩
  omega
noncomputable def scR (a b : List T) : List (List Int) := a.map fun x => b.map fun y => (scoreT x y : Int)
noncomputable def pkO (rs : List (List Int)) : List Sc := (picks_all26 rs).choose
noncomputable def pkG (rs : List (List Int)) : List Sc := srtI (pkO rs)
theorem pkO_ok (rs : List (List Int)) : Picks (candS 0 rs) [] (pkO rs)∧(pkO rs).length≤16 := (picks_all26 rs).choose_spec
def gapO (one : T→T→E) (a b : List T) : List Sc→Nat→Nat→List OP→List OP
  | [],i,j,out => out ++ delO (a.drop i) ++ insO (b.drop j)
  | x :: xs,i,j,out => gapO one a b xs (x.i + 1) (x.j + 1) (out ++ delO ((a.take x.i).drop i) ++ insO ((b.take x.j).drop j) ++ [.mk 3 0 [] (one (a.getD x.i T0) (b.getD x.j T0))])
noncomputable def gapE (one : T→T→E) (a b : List T) : List OP := gapO one a b (pkG (scR a b)) 0 0 []
def opsG (gap : List T→List T→List OP) : List Sp→List T→List T→List OP→List OP
  | [],_,_,out => out
  | [s],a,b,out => if s.k = 0 then out ++ [.mk 0 s.n [] E0] else if s.k = 2 then out ++ insO (b.take s.n) else out ++ delO (a.take s.n)
  | s :: s2 :: ss,a,b,out =>
    if s.k = 0 then opsG gap (s2 :: ss) (a.drop s.n) (b.drop s.n) (out ++ [.mk 0 s.n [] E0])
    else if s.k = 2 then opsG gap (s2 :: ss) a (b.drop s.n) (out ++ insO (b.take s.n))
    else if s2.k = 2 then opsG gap ss (a.drop s.n) (b.drop s2.n) (out ++ gap (a.take s.n) (b.take s2.n))
    else opsG gap (s2 :: ss) (a.drop s.n) b (out ++ delO (a.take s.n))
abbrev zsN (l : List Nat) : List Int := l.map fun n : Nat => (n : Int)
noncomputable def caL (a : T) : List Int := zsN (clsL [] a.kids).2
noncomputable def cbL (a b : T) : List Int := zsN (clsL (clsL [] a.kids).1 b.kids).2
noncomputable def listE (one : T→T→E) (most : Int) (a b : T) : E :=
  .mk 3 T0 T0 [] [] a.kind (if (distL (caL a) (cbL a b) : Int)≤most then opsG (gapE one) (nrmS (wayU (caL a) (cbL a b))) a.kids b.kids [] else gapE one a.kids b.kids)
def wrdL (a b : T) (m : Nat) : List WE := (List.range m).filterMap fun i => if unlZ (a.words.getD i 0) (b.words.getD i 0) = 0 then none else some (wdE i (a.words.getD i 0) (b.words.getD i 0))
def kidL26 (one : T→T→E) (a b : T) (m : Nat) : List KE := (List.range m).filterMap fun i => if (one (a.kids.getD i T0) (b.kids.getD i T0)).kind = 0 then none else some (.mk i (one (a.kids.getD i T0) (b.kids.getD i T0)))
def strE (one : T→T→E) (a b : T) : E := .mk 2 T0 T0 (wrdL a b (max a.words.length b.words.length)) (kidL26 one a b (max a.kids.length b.kids.length)) 0 []
noncomputable def oneE (most : Int) : Nat→T→T→E
  | 0,a,b => if eqT a b = true then E0 else .mk 1 a b [] [] 0 []
  | f + 1,a,b => if eqT a b = true then E0 else if a.kind = 1∧b.kind = 1 then strE (oneE most f) a b else if a.kind = b.kind∧2≤a.kind∧a.kind≤9 then listE (oneE most f) most a b else .mk 1 a b [] [] 0 []
def dA (us : List Nat) : Nat := us.countP fun x => x != 2
def dB (us : List Nat) : Nat := us.countP fun x => x != 1
theorem dA_rep (n k : Nat) : dA (List.replicate n k) = if k = 2 then 0 else n := by unfold dA; rw [List.countP_replicate]; by_cases h : k = 2 <;> simp [h]
theorem dB_rep (n k : Nat) : dB (List.replicate n k) = if k = 1 then 0 else n := by unfold dB; rw [List.countP_replicate]; by_cases h : k = 1 <;> simp [h]
theorem dA_app (a b : List Nat) : dA (a ++ b) = dA a + dA b := List.countP_append
theorem dB_app (a b : List Nat) : dB (a ++ b) = dB a + dB b := List.countP_append
theorem goU_dA : ∀ (us : List Nat) (k d i : Nat),(∀ x,x ∈ us→x≤2)→dA (unitsS (goU us k d i)) = k + d + dA us∧dB (unitsS (goU us k d i)) = k + i + dB us
  | [],k,d,i,_ => by
    simp only [goU,units_app,units_fl,dA_app,dB_app,dA_rep,dB_rep]
    simp [dA,dB]
  | x :: us,k,d,i,h => by
    have hx := h x (by simp)
    have hu : ∀ y,y ∈ us→y≤2 := fun y hy => h y (by simp [hy])
    have e1 : dA (x :: us) = (if x = 2 then 0 else 1) + dA us := by
      have := dA_app [x] us
      rw [show [x] = List.replicate 1 x from rfl,dA_rep] at this
      simpa using this
    have e2 : dB (x :: us) = (if x = 1 then 0 else 1) + dB us := by
      have := dB_app [x] us
      rw [show [x] = List.replicate 1 x from rfl,dB_rep] at this
      simpa using this
    rw [e1,e2,goU]
    have hx3 : x = 0∨x = 1∨x = 2 := by omega
    rcases hx3 with rfl | rfl | rfl
    · obtain ⟨h1,h2⟩ := goU_dA us (k + 1) 0 0 hu
      simp only [if_true,units_app,units_fl,dA_app,dB_app,dA_rep,dB_rep,h1,h2]
      simp
      omega
    · obtain ⟨h1,h2⟩ := goU_dA us 0 (d + 1) i hu
      simp [dA_app,dB_app,dA_rep,dB_rep,h1,h2]
      omega
    · obtain ⟨h1,h2⟩ := goU_dA us 0 d (i + 1) hu
      simp [dA_app,dB_app,dA_rep,dB_rep,h1,h2]
      omega
theorem nrmS_d (us : List Nat) (h : ∀ x,x ∈ us→x≤2) : dA (unitsS (nrmS us)) = dA us∧dB (unitsS (nrmS us)) = dB us := by
  have := goU_dA us 0 0 0 h
  unfold nrmS
  omega
theorem goU_ok : ∀ (us : List Nat) (k d i : Nat),(∀ x,x ∈ us→x≤2)→∀ s,s ∈ goU us k d i→s.k≤2∧1≤s.n
  | [],k,d,i,_,s,hs => by
    simp only [goU,List.mem_append] at hs
    rcases hs with hs | hs | hs <;> (unfold fl at hs; split at hs <;> simp at hs; subst hs; simp; omega)
  | x :: us,k,d,i,h,s,hs => by
    have hu : ∀ y,y ∈ us→y≤2 := fun y hy => h y (by simp [hy])
    rw [goU] at hs
    have fin : ∀ q n,q≤2→s ∈ fl q n→s.k≤2∧1≤s.n := fun q n hq hs => by
      unfold fl at hs; split at hs <;> simp at hs; subst hs; simp; omega
    split at hs
    · simp only [List.mem_append] at hs
      rcases hs with hs | hs | hs
      · exact fin 1 _ (by omega) hs
      · exact fin 2 _ (by omega) hs
      · exact goU_ok us _ _ _ hu s hs
    · rw [List.mem_append] at hs
      rcases hs with hs | hs
      · exact fin 0 _ (by omega) hs
      · split at hs
        · exact goU_ok us _ _ _ hu s hs
        · exact goU_ok us _ _ _ hu s hs
theorem stpU_in (p q : Nat) : ∀ x,x ∈ stpU p q→x≤2 := by
  intro x hx
  unfold stpU at hx
  split at hx
  · rcases List.mem_append.1 hx with h | h
    · have := List.eq_of_mem_replicate h; omega
    · simp at h; omega
  · simp at hx; omega
theorem stpU_d {p q : Nat} (h : p≤q) : dA (stpU p q) = 1∧dB (stpU p q) = q - p := by
  unfold stpU
  split
  · rw [dA_app,dB_app,dA_rep,dB_rep]
    simp [dA,dB]
    omega
  · simp [dA,dB]
    omega
theorem wayU_in (a b : List Int) : ∀ x,x ∈ wayU a b→x≤2 := by
  intro x hx
  unfold wayU at hx
  rcases List.mem_append.1 hx with h | h
  · obtain ⟨i,_,hi⟩ := List.mem_flatMap.1 h
    exact stpU_in _ _ x hi
  · have := List.eq_of_mem_replicate h; omega
theorem wayU_dp (a b : List Int) : ∀ n,n≤a.length→dA ((List.range n).flatMap (fun i => stpU (wayN a b i) (wayN a b (i + 1)))) = n∧dB ((List.range n).flatMap (fun i => stpU (wayN a b i) (wayN a b (i + 1)))) = wayN a b n
  | 0,_ => by simp [dA,dB,way_zero]
  | n + 1,h => by
    obtain ⟨h1,h2⟩ := wayU_dp a b n (by omega)
    have hm := way_mono (a := a) (b := b) (i := n) (h := n + 1) (by omega) h
    obtain ⟨g1,g2⟩ := stpU_d hm
    rw [List.range_succ,List.flatMap_append,dA_app,dB_app,h1,h2]
    simp [g1,g2]
    omega
theorem wayU_d (a b : List Int) : dA (wayU a b) = a.length∧dB (wayU a b) = b.length := by
  obtain ⟨h1,h2⟩ := wayU_dp a b a.length (Nat.le_refl _)
  have hl := (way_on (a := a) (b := b) (i := a.length) (Nat.le_refl _)).2.1
  unfold wayU
  rw [dA_app,dB_app,h1,h2,dA_rep,dB_rep]
  simp
  omega
end Go.Proofs.Ytmeldaflhkiopaa

namespace Go.Proofs.Ytmeldaflhkiopaa
set_option linter.unusedVariables false
set_option linter.unusedSimpArgs false
open Go Go.G Go.Proofs Go.PL
abbrev prs (l : List Sc) : A := .sl false (l.map prA)
end Go.Proofs.Ytmeldaflhkiopaa

namespace Go.Proofs.Ytmeldaflhkiopaa
set_option linter.unusedVariables false
set_option linter.unusedSimpArgs false
open Go Go.G Go.Proofs Go.PL
section
variable {n0 : Nat} {w0 : World} {I0 : Nat→Prop} {Q : Exit→Sta→Prop}
end
section
variable {n0 : Nat} {w0 : World} {I0 : Nat→Prop} {Q : Exit→Sta→Prop}
theorem psc_l1 {a b : T} {H : Hp} (ha : wfT a) (hb : wfT b) (h0 : H [0] = ⟨1,.cells (tL a)⟩) (h1 : H [1] = ⟨1,.cells (tL b)⟩) : ∀ (m i n : Nat),i + m = min a.words.length b.words.length→n≤1 + i →
    (∀ st,Q (.exit 0) ⟨lk ([(2,.pob [0] 1 0),(3,.pob [1] 1 0),(5,nv (n + cntW (a.words.drop i) (b.words.drop i)))] ++ st),H⟩) →
    LoopC (cx Try.prog w0 I0 n0) l1_pair_Score Q ⟨lk [(2,.pob [0] 1 0),(3,.pob [1] 1 0),(5,nv n),(29,iv (min a.words.length b.words.length : Nat)),(30,iv i)],H⟩ := by
  have hal := (wfT_iff.1 ha).wl
  intro m
  induction m with
  | zero =>
    intro i n hm hn hq
    refine loopC_once mixed l1_pair_Score.eq_1 ?_
    rw [cntW_end (by omega)] at hq
    generalize min a.words.length b.words.length = N at *
    simp [show ¬ i < N by omega]
    exact hq [(29,iv N),(30,iv i),(31,bv false)]
  | succ m ih =>
    intro i n hm hn hq
    have hi : i < a.words.length := by omega
    have hj : i < b.words.length := by omega
    have e1 : IntKind.i64.wrap ((i : Int) + 1) = ((i + 1 : Nat) : Int) := by rw [i64_same (by omega) (by omega)]; omega
    have e2 : IntKind.i64.wrap ((n : Int) + 1) = ((n + 1 : Nat) : Int) := by rw [i64_same (by omega) (by omega)]; omega
    rw [cntW_at hi hj] at hq
    generalize min a.words.length b.words.length = N at *
    have hN : i < N := by omega
    refine loopC_once mixed l1_pair_Score.eq_1 ?_
    by_cases h : a.words[i] = b.words[i]
    · simp [h0,h1,hi,hj,hN,h,e1,e2]
      refine ih (i + 1) (n + 1) (by omega) (by omega) fun st => ?_
      have := hq st
      rw [if_pos h] at this
      rw [show n + 1 + cntW (a.words.drop (i + 1)) (b.words.drop (i + 1)) = n + (1 + cntW (a.words.drop (i + 1)) (b.words.drop (i + 1))) by omega]
      exact this
    · simp [h0,h1,hi,hj,hN,h,e1]
      refine ih (i + 1) n (by omega) (by omega) fun st => ?_
      have := hq st
      rw [if_neg h,Nat.zero_add] at this
      exact this
theorem psc_l2 {a b : T} {H : Hp} (ha : wfT a) (hb : wfT b) (h0 : H [0] = ⟨1,.cells (tL a)⟩) (h1 : H [1] = ⟨1,.cells (tL b)⟩) : ∀ (m i n : Nat),i + m = min a.kids.length b.kids.length→n≤100000000000000 + i →
    (∀ st,Q (.exit 2) ⟨lk ([(2,.pob [0] 1 0),(3,.pob [1] 1 0),(5,nv (n + cntK (a.kids.drop i) (b.kids.drop i)))] ++ st),H⟩) →
    LoopC (cx Try.prog w0 I0 n0) l2_pair_Score Q ⟨lk [(2,.pob [0] 1 0),(3,.pob [1] 1 0),(5,nv n),(53,iv (min a.kids.length b.kids.length : Nat)),(54,iv i)],H⟩ := by
  have hal := (wfT_iff.1 ha).kl
  intro m
  induction m with
  | zero =>
    intro i n hm hn hq
    refine loopC_once mixed l2_pair_Score.eq_1 ?_
    rw [cntK_end (by omega)] at hq
    generalize min a.kids.length b.kids.length = N at *
    simp [show ¬ i < N by omega]
    exact hq [(53,iv N),(54,iv i),(55,bv false)]
  | succ m ih =>
    intro i n hm hn hq
    have hi : i < a.kids.length := by omega
    have hj : i < b.kids.length := by omega
    have e1 : IntKind.i64.wrap ((i : Int) + 1) = ((i + 1 : Nat) : Int) := by rw [i64_same (by omega) (by omega)]; omega
    have e2 : IntKind.i64.wrap ((n : Int) + 1) = ((n + 1 : Nat) : Int) := by rw [i64_same (by omega) (by omega)]; omega
    have hE := eqG_spec ((wfT_iff.1 ha).ks _ (List.getElem_mem hi)) ((wfT_iff.1 hb).ks _ (List.getElem_mem hj))
    rw [cntK_at hi hj] at hq
    generalize min a.kids.length b.kids.length = N at *
    have hN : i < N := by omega
    refine loopC_once mixed l2_pair_Score.eq_1 ?_
    simp [h0,h1,hi,hj,hN]
    refine sc_call hE (by simp) ?_
    cases h : eqT a.kids[i] b.kids[i] with
    | true =>
      simp [e1,e2]
      refine ih (i + 1) (n + 1) (by omega) (by omega) fun st => ?_
      have := hq st
      rw [if_pos h] at this
      rw [show n + 1 + cntK (a.kids.drop (i + 1)) (b.kids.drop (i + 1)) = n + (1 + cntK (a.kids.drop (i + 1)) (b.kids.drop (i + 1))) by omega]
      exact this
    | false =>
      simp [e1]
      refine ih (i + 1) n (by omega) (by omega) fun st => ?_
      have := hq st
      rw [if_neg (by rw [h]; decide),Nat.zero_add] at this
      exact this
end
theorem pScore_spec {a b : T} (ha : wfT a) (hb : wfT b) : G.Spec Try.prog 12 [tX a,tX b] (nv (scoreT a b)) := by
  have hal := (wfT_iff.1 ha).wl
  refine spec_of t_pair_Score (by simp) fun w0 I0 => ?_
  unfold c_pair_Score
  by_cases hk : a.kind = b.kind
  · by_cases h0 : b.kind = 0
    · simp [hk,h0]
      exact frz_int (by simp [scoreT,hk,h0])
    · by_cases h10 : b.kind = 10
      · simp [hk,h0,h10]
        exact frz_int (by simp [scoreT,hk,h10])
      · simp [hk,h0,h10]
        refine LoopC.le (le_list [(2,.pob [0] 1 0),(3,.pob [1] 1 0),(5,nv 1),(29,iv (min a.words.length b.words.length : Nat)),(30,iv (0 : Nat))] (by simp; omega)) ?_
        refine psc_l1 ha hb (by simp [updF_app,hk]) (by simp [updF_app]) _ 0 1 (Nat.zero_add _) (by omega) fun st => ?_
        simp
        refine LoopC.le (le_list [(2,.pob [0] 1 0),(3,.pob [1] 1 0),(5,nv (1 + cntW a.words b.words)),(53,iv (min a.kids.length b.kids.length : Nat)),(54,iv (0 : Nat))] (by simp; omega)) ?_
        have := cntW_len a.words b.words
        refine psc_l2 ha hb (by simp [updF_app,hk]) (by simp [updF_app]) _ 0 _ (Nat.zero_add _) (by omega) fun st => ?_
        simp
        refine frz_int ?_
        simp [scoreT,hk,h0,h10]
  · simp [hk]
    exact frz_int (by simp [scoreT,hk])
end Go.Proofs.Ytmeldaflhkiopaa

namespace Go.Proofs.Ytmeldaflhkiopaa
set_option linter.unusedVariables false
set_option linter.unusedSimpArgs false
open Go Go.G Go.Proofs Go.PL
section
variable {n0 : Nat} {w0 : World} {I0 : Nat→Prop} {Q : Exit→Sta→Prop}
end
section
variable {n0 : Nat} {w0 : World} {I0 : Nat→Prop} {Q : Exit→Sta→Prop}
theorem tnorm_l1 {t : T} (hl : t.kids.length * 56≤140737488355328) (ih : ∀ c,c ∈ t.kids→G.Spec Try.prog 37 [tX c] (tX (norm c))) {v v0 : VOb} {k w : A} : ∀ (m i : Nat) (u : Nat) (H : Hp),i + m = t.kids.length→H [0] = v0→H [1] = v→H [2] = ⟨1,.cells [k,w,.osl [4] u 3 0 i]⟩→H [4] = ⟨u,.arr 3 ((t.kids.take i).map (tA ∘ norm))⟩ →
    (∀ i' q (u' : Nat) (H' : Hp),H' [0] = v0→H' [1] = v→H' [2] = ⟨1,.cells [k,w,.osl [4] u' 3 0 t.kids.length]⟩→H' [4] = ⟨u',.arr 3 (t.kids.map (tA ∘ norm))⟩→Q (.exit 0) ⟨lk [(1,.pob [0] 1 0),(2,.pob [1] 1 0),(3,.pob [2] 1 0),(17,tKs t.kids),(18,iv t.kids.length),(19,iv i'),(20,bv q)],H'⟩) →
    LoopC (cx Try.prog w0 I0 n0) l1_tree_Norm Q ⟨lk [(1,.pob [0] 1 0),(2,.pob [1] 1 0),(3,.pob [2] 1 0),(17,tKs t.kids),(18,iv t.kids.length),(19,iv i)],H⟩ := by
  intro m
  induction m with
  | zero =>
    intro i u H hi hA hR hO hB hq
    have : i = t.kids.length := by omega
    subst this
    refine loopC_once mixed l1_tree_Norm.eq_1 ?_
    simp
    exact hq _ _ u H hA hR hO (by rw [hB]; simp)
  | succ m ihm =>
    intro i u H hi hA hR hO hB hq
    have hlt : i < t.kids.length := by omega
    have ei : IntKind.i64.wrap ((i : Int) + 1) = ((i + 1 : Nat) : Int) := i64_same (by omega) (by omega)
    refine loopC_once mixed l1_tree_Norm.eq_1 ?_
    simp [hlt,updF_app,hO]
    refine sc_call (ih _ (List.getElem_mem hlt)) rfl ?_
    simp [updF_app,hO,hB]
    have hrow := row_succ (f := tA ∘ norm) hlt (x := tX (norm t.kids[i])) (by simp)
    rw [hrow,ei]
    refine ⟨⟨by omega,by omega⟩,?_⟩
    exact ihm (i + 1) (u + 1) _ (by omega) (by simp [updF_app,hA]) (by simp [updF_app,hR]) (by simp [updF_app]) (by simp [updF_app]) hq
theorem tnorm_l2 {w : List Int} (hl : w.length * 8≤140737488355328) {v v4 : VOb} {K : A} : ∀ (n : Nat) (H : Hp),n≤w.length→trimW (w.take n) = trimW w→H [1] = v→H [2] = ⟨1,.cells [iv 1,uws (w.take n),K]⟩→H [4] = v4 →
    (∀ q (H' : Hp),H' [1] = v→H' [2] = ⟨1,.cells [iv 1,uws (trimW w),K]⟩→H' [4] = v4→Q (.exit 2) ⟨lk [(2,.pob [1] 1 0),(3,.pob [2] 1 0),(48,bv q)],H'⟩) →
    LoopC (cx Try.prog w0 I0 n0) l2_tree_Norm Q ⟨lk [(2,.pob [1] 1 0),(3,.pob [2] 1 0)],H⟩ := by
  intro n
  induction n with
  | zero =>
    intro H hn ht hR hO hB hq
    refine loopC_once mixed l2_tree_Norm.eq_1 ?_
    simp [hO]
    refine hq _ H hR ?_ hB
    rw [← ht]
    simpa using hO
  | succ n ihn =>
    intro H hn ht hR hO hB hq
    have hlt : n < w.length := by omega
    have en : IntKind.i64.wrap (n : Int) = n := i64_same (by omega) (by omega)
    have emin : min (n + 1) w.length = n + 1 := by omega
    refine loopC_once mixed l2_tree_Norm.eq_1 ?_
    by_cases h0 : w[n] = 0
    · have hnn : (n : Int) < n + 1 := by omega
      have hnn' : (n : Int)≤n + 1 := by omega
      have hs : List.take n (List.take (n + 1) (List.map uv w)) = (w.take n).map uv := by rw [List.take_take,Nat.min_eq_left (by omega),List.map_take]
      simp [hO,emin,en,hlt,h0,hnn,hnn',hs]
      exact ihn _ (by omega) (by rw [← trimW_zero hlt h0]; exact ht) (by simp [updF_app,hR]) (by simp [updF_app]) (by simp [updF_app,hB]) hq
    · have hnn : (n : Int) < n + 1 := by omega
      simp [hO,emin,en,hlt,h0,hnn]
      refine hq _ H hR ?_ hB
      rw [hO,← ht,trimW_stop hlt h0]
theorem tnorm_l3 {l : List T} (hl : l.length * 56≤140737488355328) {v : VOb} {W : A} {u : Nat} : ∀ (n : Nat) (H : Hp),n≤l.length→trimK (l.take n) = trimK l→H [1] = v→H [2] = ⟨1,.cells [iv 1,W,.osl [4] u 3 0 n]⟩→H [4] = ⟨u,.arr 3 (l.map (tA ∘ norm))⟩ →
    (∀ q (H' : Hp),H' [1] = v→H' [2] = ⟨1,.cells [iv 1,W,.osl [4] u 3 0 (trimK l).length]⟩→H' [4] = ⟨u,.arr 3 (l.map (tA ∘ norm))⟩→Q (.exit 4) ⟨lk [(2,.pob [1] 1 0),(3,.pob [2] 1 0),(72,bv q)],H'⟩) →
    LoopC (cx Try.prog w0 I0 n0) l3_tree_Norm Q ⟨lk [(2,.pob [1] 1 0),(3,.pob [2] 1 0)],H⟩ := by
  intro n
  induction n with
  | zero =>
    intro H hn ht hR hO hB hq
    refine loopC_once mixed l3_tree_Norm.eq_1 ?_
    simp [hO]
    refine hq _ H hR ?_ hB
    rw [← ht]
    simpa using hO
  | succ n ihn =>
    intro H hn ht hR hO hB hq
    have hlt : n < l.length := by omega
    have en : IntKind.i64.wrap (n : Int) = n := i64_same (by omega) (by omega)
    have hnn : (n : Int) < n + 1 := by omega
    have hnn' : (n : Int)≤n + 1 := by omega
    refine loopC_once mixed l3_tree_Norm.eq_1 ?_
    by_cases h0 : l[n].kind = 0
    · simp [hO,hB,en,hlt,h0,hnn,hnn']
      exact ihn _ (by omega) (by rw [← trimK_zero hlt h0]; exact ht) (by simp [updF_app,hR]) (by simp [updF_app]) (by simp [updF_app,hB]) hq
    · simp [hO,hB,en,hlt,h0,hnn]
      refine hq _ H hR ?_ hB
      rw [hO,← ht,trimK_stop hlt h0]
      simp; omega
end
theorem tNorm_spec : ∀ (t : T),wfT t→G.Spec Try.prog 37 [tX t] (tX (norm t)) := by
  refine T.ind fun k w l ih hw => ?_
  have hw' := wfT_iff.1 hw
  have hwl := hw'.wl
  have hkl := hw'.kl
  simp at hwl hkl
  refine spec_of t_tree_Norm (by simp) fun w0 I0 => ?_
  unfold c_tree_Norm
  rw [norm_mk]
  by_cases h0 : k = 0
  · simp [h0]
    exact frz_T0
  · simp [h0]
    refine sc_call (clone_spec false w hwl).spec rfl ?_
    simp
    refine LoopC.le (le_blankC (d := [2]) 2 [4] 3 rfl rfl (by simp)) ?_
    simp
    refine tnorm_l1 (t := .mk k w l) (k := iv k) (w := uws w) (by simpa using hkl) (fun c hc => ih c hc (hw'.ks c hc)) l.length 0 1 _ (by simp) rfl rfl (by simp) (by simp) fun i' q u' H' hA hR hO hB => ?_
    by_cases h1 : k = 1
    · subst h1
      simp at hA hR hO hB
      simp [hA,hR,hO,hB]
      refine LoopC.le (le_list [(2,.pob [1] 1 0),(3,.pob [2] 1 0)] (by simp)) ?_
      refine tnorm_l2 hwl w.length _ (Nat.le_refl _) (by rw [List.take_of_length_le (Nat.le_refl _)]) hR (by rw [hO,List.take_of_length_le (Nat.le_refl _)]) hB fun q H2 hR2 hO2 hB2 => ?_
      simp
      refine tnorm_l3 hkl l.length _ (Nat.le_refl _) (by rw [List.take_of_length_le (Nat.le_refl _)]) hR2 hO2 hB2 fun q H3 hR3 hO3 hB3 => ?_
      simp [hO3,hR3,updF_app]
      refine frz_agg ?_
      simp
      rw [trimK_map]
      refine ⟨frz_bare rfl,frz_bare rfl,?_⟩
      have := frz_rowT (H := updF H3 [1] ⟨1,.cells [iv 1,uws (trimW w),A.osl [4] u' 3 0 (trimK l).length]⟩) (o := [4]) (u := u') (sz := 3) (l := l) (f := tA ∘ norm) (by simp [updF_app,hB3]) (trimK_le l) (by simp)
      rw [← List.map_take]
      show Frz _ _ (A.sl false (((l.take (trimK l).length).map norm).map tA))
      rw [List.map_map]
      exact this
    · simp at hA hR hO hB
      simp [hA,hR,hO,hB,h1,updF_app]
      refine frz_agg ?_
      simp
      refine ⟨frz_bare rfl,frz_bare rfl,?_⟩
      have := frz_row (H := updF H' [1] ⟨1,.cells [iv k,uws w,A.osl [4] u' 3 0 l.length]⟩) (o := [4]) (u := u') (sz := 3) (l := l) (f := tA ∘ norm) (by simp [updF_app,hB]) rfl (by simp)
      show Frz _ _ (A.sl false ((l.map norm).map tA))
      rw [List.map_map]
      exact this
section
variable {n0 : Nat} {w0 : World} {I0 : Nat→Prop} {Q : Exit→Sta→Prop}
end
end Go.Proofs.Ytmeldaflhkiopaa

namespace Go.PL
set_option linter.unusedVariables false
set_option linter.unusedSimpArgs false
def masks (ws : List WE) : Prop := ∀ w,w ∈ ws→0≤w.mask∧w.mask < 256
end Go.PL

namespace Go.Proofs.Ytmeldaflhkiopaa
set_option linter.unusedVariables false
set_option linter.unusedSimpArgs false
open Go Go.G Go.Proofs Go.PL
theorem frz_rowF {α : Type} {H : Hp} {o : Nm} {u n sz : Nat} {l : List α} {f g : α→A} (h : vr (H o) u = some (sz,l.map f)) (hn : n = l.length)
    (hf : ∀ x,x ∈ l→(f x).cells.all A.bare = true∧(f x).cells.map A.soft = (g x).cells∧(g x).cells.length = sz∧A.ones (g x).cells = true) : Frz H (.osl o u sz 0 n) (.sl false (l.map g)) := by
  subst hn
  refine frz_osl' (xs := l.map f) (by simpa using h) (by simp) (by simp) (fun y hy => ?_) ?_ ?_
  · obtain ⟨x,hx,rfl⟩ := List.mem_map.1 hy
    exact (hf x hx).2.2.1
  · simp only [A.ones,List.all_eq_true,List.mem_flatMap]
    rintro y ⟨z,hz,hy⟩
    obtain ⟨x,hx,rfl⟩ := List.mem_map.1 hz
    have := (hf x hx).2.2.2
    simp only [A.ones,List.all_eq_true] at this
    exact this y hy
  · rw [List.drop_zero,List.take_of_length_le (by simp)]
    have : ∀ (m : List α),(∀ x,x ∈ m→x ∈ l)→FrzL H ((m.map f).flatMap A.cells) ((m.map g).flatMap A.cells) := by
      intro m
      induction m with
      | nil => intro _; simp
      | cons x m ih =>
        intro hm
        obtain ⟨h1,h2,_,_⟩ := hf x (hm x (by simp))
        simp only [List.map_cons,List.flatMap_cons]
        rw [← h2]
        have hr := ih fun y hy => hm y (by simp [hy])
        have : ∀ (c : List A) (p q : List A),c.all A.bare = true→FrzL H p q→FrzL H (c ++ p) (c.map A.soft ++ q) := by
          intro c
          induction c with
          | nil => intro p q _ hpq; exact hpq
          | cons y c ihc =>
            intro p q hc hpq
            simp only [List.all_cons,Bool.and_eq_true] at hc
            exact ⟨frz_soft hc.1,ihc p q hc.2 hpq⟩
        exact this _ _ _ h1 hr
    exact this l fun x h => h
section
variable {n0 : Nat} {w0 : World} {I0 : Nat→Prop} {Q : Exit→Sta→Prop}
end
end Go.Proofs.Ytmeldaflhkiopaa

namespace Go.Proofs.Ytmeldaflhkiopaa
set_option linter.unusedVariables false
set_option linter.unusedSimpArgs false
open Go Go.G Go.Proofs Go.PL
theorem wd_in {t : T} (h : wfT t) (i : Nat) : u64R (wdT t i) := by
  unfold wdT
  rw [List.getD_eq_getElem?_getD]
  cases e : t.words[i]? with
  | none => exact ⟨by simp,by simp⟩
  | some x => exact (wfT_iff.1 h).w x (List.mem_of_getElem? e)
section
variable {n0 : Nat} {w0 : World} {I0 : Nat→Prop} {Q : Exit→Sta→Prop}
end
end Go.Proofs.Ytmeldaflhkiopaa

namespace Go.Proofs.Ytmeldaflhkiopaa
set_option linter.unusedVariables false
set_option linter.unusedSimpArgs false
open Go Go.G Go.Proofs Go.PL
inductive WI where
  | keep (n : Int)
  | del (k v : Nat) (l : List T)
  | ins (k v : Nat) (l : List T)
  | desc (e : E)
def WI.op : WI→OP
  | .keep n => .mk 0 n [] E0
  | .del _ _ l => .mk 1 0 l E0
  | .ins _ _ l => .mk 2 0 l E0
  | .desc e => .mk 3 0 [] e
def rawE : List A := [iv 0,iv 0,.sl true [],.sl true [],iv 0,.sl true [],.sl true [],.sl true [],.sl true [],iv 0,.sl true []]
def wiC (r : Nat) : WI→List A
  | .keep n => iv 0 :: iv n :: .sl true [] :: rawE
  | .del k v l => iv 1 :: iv 0 :: .osl (r :: [k]) v 3 0 l.length :: rawE
  | .ins k v l => iv 2 :: iv 0 :: .osl (r :: [k]) v 3 0 l.length :: rawE
  | .desc e => iv 3 :: iv 0 :: .sl true [] :: eL e
def wiA (r : Nat) (x : WI) : A := .agg (wiC r x)
@[simp] theorem wiA_cells {r : Nat} {x : WI} : (wiA r x).cells = wiC r x := rfl
@[simp] theorem wiC_len {r : Nat} {x : WI} : (wiC r x).length = 14 := by cases x <;> rfl
theorem wiC_ren {g : Nm→Nm} {δ : Nm→Nat} {r r' : Nat} (hg : ∀ p,g (r :: p) = r' :: p) (hd : ∀ p,δ (r :: p) = 0) (x : WI) : A.renL g δ (wiC r x) = wiC r' x := by
  cases x <;> simp [wiC,rawE,A.renL,A.ren,hg,hd]
theorem wiC_refs {D : Nm→Prop} {r : Nat} (hD : ∀ p,D (r :: p)) (x : WI) : A.refsL D (wiC r x) := by
  cases x <;> simp [wiC,rawE,A.refsL,A.refs,hD]
def wtV (r : Nat) : Option (Nat × Nat × List T)→A
  | some (k,v,l) => .osl (r :: [k]) v 3 0 l.length
  | none => .sl true []
abbrev Rws := Nat→Option (Nat × List T)
def rwB : Option (Nat × List T)→VOb
  | some (v,l) => ⟨v,.arr 3 (l.map tA)⟩
  | none => ⟨0,.none⟩
theorem wtV_ren {g : Nm→Nm} {δ : Nm→Nat} {r r' : Nat} (hg : ∀ p,g (r :: p) = r' :: p) (hd : ∀ p,δ (r :: p) = 0) (o : Option (Nat × Nat × List T)) : (wtV r o).ren g δ = wtV r' o := by
  rcases o with _ | ⟨k,v,l⟩
  · simp [wtV,A.ren]
  · simp [wtV,A.ren,hg,hd]
def rowAt (R : Rws) : Nm→VOb
  | [k] => rwB (R k)
  | _ => ⟨0,.none⟩
@[simp] theorem rowAt_one {R : Rws} {k : Nat} : rowAt R [k] = rwB (R k) := rfl
theorem rwB_ren {g : Nm→Nm} {δ : Nm→Nat} (o : Option (Nat × List T)) : VOb.ren g δ 0 (rwB o) = rwB o := by
  rcases o with _ | ⟨v,l⟩
  · rfl
  · refine Fam.arr_ren ?_
    simp only [renL_map,List.map_map]
    refine List.map_congr_left fun x _ => ?_
    simp [A.ren,A.renL]
theorem rowAt_ren {g : Nm→Nm} {δ : Nm→Nat} (R : Rws) : ∀ p,VOb.ren g δ 0 (rowAt R p) = rowAt R p
  | [] => rfl
  | [k] => rwB_ren _
  | _ :: _ :: _ => rfl
theorem rwB_refs {D : Nm→Prop} (o : Option (Nat × List T)) : (rwB o).ob.refs D := by
  rcases o with _ | ⟨v,l⟩
  · trivial
  · simp only [rwB,Ob.refs,refsL_iff]
    intro y hy
    obtain ⟨x,_,rfl⟩ := List.mem_map.1 hy
    simp [A.refs,A.refsL]
theorem rowAt_refs {D : Nm→Prop} (R : Rws) : ∀ p,(rowAt R p).ob.refs D
  | [] => trivial
  | [k] => rwB_refs _
  | _ :: _ :: _ => trivial
def wlF (its : List WI) (vo : Nat) (g b : Option (Nat × Nat × List T)) (R : Rws) : Fam := ⟨fun r p => if p = [] then ⟨1,.cells [.osl (r :: [0]) vo 14 0 its.length,wtV r g,wtV r b]⟩ else if p = [0] then ⟨vo,.arr 14 (its.map (wiA r))⟩ else rowAt R p,fun {γ δ r r'} hg hd p => by
    by_cases h1 : p = []
    · rw [if_pos h1,if_pos h1]
      refine Fam.cells_ren ?_
      simp [A.renL,A.ren,hg,hd,wtV_ren hg hd]
    · rw [if_neg h1,if_neg h1]
      by_cases h2 : p = [0]
      · rw [if_pos h2,if_pos h2]
        refine Fam.arr_ren ?_
        simp only [renL_map,List.map_map]
        refine List.map_congr_left fun x _ => ?_
        simp [wiA,A.ren,wiC_ren hg hd]
      · rw [if_neg h2,if_neg h2]
        exact rowAt_ren R p,fun {D r} hD p => by
    by_cases h1 : p = []
    · rw [if_pos h1]
      rcases g with _ | ⟨k,v,l⟩ <;> rcases b with _ | ⟨k',v',l'⟩ <;> simp [Ob.refs,A.refsL,A.refs,hD,wtV]
    · rw [if_neg h1]
      by_cases h2 : p = [0]
      · rw [if_pos h2]
        simp only [Ob.refs,refsL_iff]
        intro y hy
        obtain ⟨x,_,rfl⟩ := List.mem_map.1 hy
        simp only [A.refs,wiA]
        exact wiC_refs hD x
      · rw [if_neg h2]
        exact rowAt_refs R p⟩
@[simp] theorem wlF_F {its : List WI} {vo : Nat} {g b : Option (Nat × Nat × List T)} {R : Rws} {r : Nat} {p : Nm} : (wlF its vo g b R).F r p = if p = [] then ⟨1,.cells [.osl (r :: [0]) vo 14 0 its.length,wtV r g,wtV r b]⟩ else if p = [0] then ⟨vo,.arr 14 (its.map (wiA r))⟩ else rowAt R p := rfl
abbrev wrP (r : Nat) : A := .pob [r] 1 0
theorem lens_wi {r : Nat} {l : List WI} : lens 14 (l.map (wiA r)) = true := by rw [lens_all]; simp
def delI : Nat × Nat × List T→List WI
  | (k,v,l) => if l = [] then [] else [.del k v l]
def insI22 : Nat × Nat × List T→List WI
  | (k,v,l) => if l = [] then [] else [.ins k v l]
theorem flush_spec22 (its : List WI) (vo : Nat) (g b : Nat × Nat × List T) (R : Rws) (hl : its.length≤1000000) (hg : R g.1 = some (g.2.1,g.2.2)) (hb : R b.1 = some (b.2.1,b.2.2)) (hg0 : 1≤g.1) (hb0 : 1≤b.1) : SpecF Try.prog 72 (fun r => [wrP r]) (wlF its vo (some g) (some b) R) (fun _ => .tup []) (wlF (its ++ (delI g ++ insI22 b)) (vo + (delI g ++ insI22 b).length) none none R) := by
  obtain ⟨gk,gv,gl⟩ := g
  obtain ⟨bk,bv',bl⟩ := b
  refine specF_of t_normal_writer_flush (by simp) (famL_cons famA_pob famL_nil) (famA_tup famL_nil) fun w0 I0 M0 m0 => ?_
  unfold c_normal_writer_flush
  by_cases h1 : gl = []
  · by_cases h2 : bl = []
    · simp [h1,h2,wtV]
      rw [k1_normal_writer_flush.eq_1]
      simp [h1,h2,wtV,updF_app]
      refine reth_famN rfl rfl (fun p => ?_)
      by_cases p1 : p = []
      · subst p1; simp [updF_app,delI,insI22,wtV]
      · by_cases p2 : p = [0]
        · subst p2; simp [updF_app,delI,insI22]
        · simp [p1,p2,updF_app]
    · have h2' : (0 : Int) < bl.length := by have := List.length_pos_iff.2 h2; omega
      have h2n := List.length_pos_iff.2 h2
      simp [h1,h2,wtV]
      rw [k1_normal_writer_flush.eq_1]
      simp [h1,h2,h2',h2n,wtV,updF_app,lens_wi]
      refine ⟨by omega,by omega,?_⟩
      refine reth_famN rfl rfl (fun p => ?_)
      by_cases p1 : p = []
      · subst p1; simp [updF_app,delI,insI22,wtV,h1,h2]
      · by_cases p2 : p = [0]
        · subst p2; simp [updF_app,delI,insI22,h1,h2,wiA,wiC,rawE,List.take_of_length_le]
        · simp [p1,p2,updF_app]
  · have h1' : (0 : Int) < gl.length := by have := List.length_pos_iff.2 h1; omega
    have h1n := List.length_pos_iff.2 h1
    by_cases h2 : bl = []
    · simp [h1,h1',h1n,h2,wtV,updF_app,lens_wi]
      refine ⟨by omega,by omega,?_⟩
      rw [k1_normal_writer_flush.eq_1]
      simp [h1,h2,wtV,updF_app]
      refine reth_famN rfl rfl (fun p => ?_)
      by_cases p1 : p = []
      · subst p1; simp [updF_app,delI,insI22,wtV,h1,h2]
      · by_cases p2 : p = [0]
        · subst p2; simp [updF_app,delI,insI22,h1,h2,wiA,wiC,rawE,List.take_of_length_le]
        · simp [p1,p2,updF_app]
    · have h2' : (0 : Int) < bl.length := by have := List.length_pos_iff.2 h2; omega
      have h2n := List.length_pos_iff.2 h2
      simp [h1,h1',h1n,h2,wtV,updF_app,lens_wi]
      refine ⟨by omega,by omega,?_⟩
      rw [k1_normal_writer_flush.eq_1]
      simp [h1,h2,h2',h2n,wtV,updF_app]
      refine ⟨by omega,⟨by omega,by omega⟩,?_⟩
      refine reth_famN rfl rfl (fun p => ?_)
      by_cases p1 : p = []
      · subst p1; simp [updF_app,delI,insI22,wtV,h1,h2]
      · by_cases p2 : p = [0]
        · subst p2; simp [updF_app,delI,insI22,h1,h2,wiA,wiC,rawE,List.take_of_length_le]
        · simp [p1,p2,updF_app]
theorem tk_at (l : List T) (x : A) : (l.map tA ++ [x])[l.length]? = some x := by rw [List.getElem?_append_right (by simp)]; simp
theorem tk_take (l : List T) : List.take l.length (l.map tA) = l.map tA := List.take_of_length_le (by simp)
theorem wait_l1 {n0 : Nat} {w0 : World} {I0 : Nat→Prop} {M0 : Nm→Nat→Prop} {m0 : Mu} {Q : Exit→Sta→Prop} {its : List WI} {vo off k : Nat} {g b : Option (Nat × Nat × List T)} {R : Rws} {ts l0 : List T} {v0 : Nat} (hts : ∀ t,t ∈ ts→wfT t) (hl : l0.length + ts.length≤1000000) (hk : 1≤k)
    (F : Nat→List T→Fam) (hF0 : ∀ v l,(F v l).F 0 [] = ⟨1,.cells [.osl [0,0] vo 14 0 its.length,if off = 1 then .osl [0,k] v 3 0 l.length else wtV 0 g,if off = 1 then wtV 0 b else .osl [0,k] v 3 0 l.length]⟩) (hoff : off = 1∨off = 2) (hFk : ∀ v l,(F v l).F 0 [k] = ⟨v,.arr 3 (l.map tA)⟩) (hFo : ∀ v l v' l' p,p ≠ []→p ≠ [k]→(F v l).F 0 p = (F v' l').F 0 p)
    (hq : ∀ H st,(∀ p,H (0 :: p) = (F (v0 + ts.length) (l0 ++ ts.map norm)).F 0 p)→Q (.exit 0) ⟨lk st,H⟩) : ∀ (m i : Nat) (H : Hp),i + m = ts.length→(∀ p,H (0 :: p) = (F (v0 + i) (l0 ++ (ts.take i).map norm)).F 0 p) →
    LoopC (cxh Try.prog w0 I0 M0 n0 m0) l1_normal_wait Q ⟨lk [(0,.pob [0] 1 off),(6,tKs ts),(7,iv ts.length),(8,iv i)],H⟩ := by
  intro m
  induction m with
  | zero =>
    intro i H hm hH
    refine loopC_once mixed l1_normal_wait.eq_1 ?_
    have : i = ts.length := by omega
    subst this
    rw [List.take_of_length_le (Nat.le_refl _)] at hH
    simp
    exact hq H _ hH
  | succ m ih =>
    intro i H hm hH
    have hi : i < ts.length := by omega
    have ew : IntKind.i64.wrap ((i : Int) + 1) = ((i + 1 : Nat) : Int) := by rw [i64_same (by omega) (by omega)]; omega
    have h0 := hH []
    rw [hF0] at h0
    have h1 := hH [k]
    rw [hFk] at h1
    have hN := tNorm_spec ts[i] (hts _ (List.getElem_mem hi))
    have hLs : l0 ++ (ts.take (i + 1)).map norm = l0 ++ (ts.take i).map norm ++ [norm ts[i]] := by rw [List.take_succ_eq_append_getElem hi,List.map_append,← List.append_assoc]; rfl
    have hLl : (l0 ++ (ts.take i).map norm).length≤1000000 := by simp; omega
    have next := ih (i + 1)
    rw [hLs,← Nat.add_assoc] at next
    generalize l0 ++ (ts.take i).map norm = L at *
    generalize v0 + i = v at *
    have hH' : ∀ (p : Nm) (H2 : Hp),p ≠ []→p ≠ [k]→H2 (0 :: p) = H (0 :: p)→H2 (0 :: p) = (F (v + 1) (L ++ [norm ts[i]])).F 0 p := fun p H2 p1 p2 he => by rw [he,hH,hFo _ _ _ _ p p1 p2]
    refine loopC_once mixed l1_normal_wait.eq_1 ?_
    rcases hoff with rfl | rfl
    all_goals
      simp at h0 h1
      simp [hi,updF_app,h0]
      refine sc_call hN (by simp [updF_app]) ?_
      simp [updF_app,h0,h1,show ¬ k = 0 by omega,show ¬ 0 = k by omega,tk_at,tk_take,ew]
      refine ⟨by omega,by omega,?_⟩
      refine next _ (by omega) (fun p => ?_)
      by_cases p1 : p = []
      · subst p1; rw [hF0]; simp [updF_app,show ¬ k = 0 by omega,show ¬ 0 = k by omega]
      · by_cases p2 : p = [k]
        · subst p2; rw [hFk]; simp [updF_app,show ¬ k = 0 by omega,show ¬ 0 = k by omega]
        · exact hH' p _ p1 p2 (by simp [updF_app,p1,p2,Ne.symm p1,Ne.symm p2])
def setR (R : Rws) (k : Nat) (v : Nat) (l : List T) : Rws := fun q => if q = k then some (v,l) else R q
theorem setR_same {R : Rws} {k v : Nat} {l : List T} (h : R k = some (v,l)) : setR R k v l = R := by
  funext q
  unfold setR
  split
  · rename_i e; rw [e,h]
  · rfl
theorem waitG_spec (its : List WI) (vo k v : Nat) (l : List T) (b : Option (Nat × Nat × List T)) (R : Rws) (hR : R k = some (v,l)) (hk : 1≤k) (hb : ∀ x,b = some x→x.1 ≠ k) {ts : List T} (hts : ∀ t,t ∈ ts→wfT t) (hl : l.length + ts.length≤1000000) :
    SpecF Try.prog 70 (fun r => [.pob [r] 1 1,tKs ts]) (wlF its vo (some (k,v,l)) b R) (fun _ => .tup []) (wlF its vo (some (k,v + ts.length,l ++ ts.map norm)) b (setR R k (v + ts.length) (l ++ ts.map norm))) := by
  refine specF_of t_normal_wait (by simp) (famL_cons famA_pob (famL_cons famA_sl famL_nil)) (famA_tup famL_nil) fun w0 I0 M0 m0 => ?_
  unfold c_normal_wait
  simp
  refine LoopC.le (le_list [(0,.pob [0] 1 1),(6,tKs ts),(7,iv ts.length),(8,iv (0 : Nat))] (by simp)) ?_
  refine wait_l1 (its := its) (vo := vo) (off := 1) (k := k) (g := none) (b := b) (R := R) (ts := ts) (l0 := l) (v0 := v) hts hl hk (fun v l => wlF its vo (some (k,v,l)) b (setR R k v l)) (fun v l => by simp [wtV]) (.inl rfl) (fun v l => by simp [rwB,setR,show ¬ k = 0 by omega]) (fun v l v' l' p p1 p2 => ?_) (fun H st hH => ?_) ts.length 0 _ (by omega) (fun p => ?_)
  · rw [wlF_F,wlF_F,if_neg p1,if_neg p1]
    split
    · rfl
    · match p with
      | [] => rfl
      | [q] => simp [setR,show ¬ q = k from fun e => p2 (by rw [e])]
      | _ :: _ :: _ => rfl
  · simp
    exact reth_famN rfl rfl hH
  · simp only [List.take_zero,List.map_nil,List.append_nil,Nat.add_zero]
    rw [setR_same hR]
    simp
theorem waitB_spec (its : List WI) (vo k v : Nat) (l : List T) (g : Option (Nat × Nat × List T)) (R : Rws) (hR : R k = some (v,l)) (hk : 1≤k) {ts : List T} (hts : ∀ t,t ∈ ts→wfT t) (hl : l.length + ts.length≤1000000) :
    SpecF Try.prog 70 (fun r => [.pob [r] 1 2,tKs ts]) (wlF its vo g (some (k,v,l)) R) (fun _ => .tup []) (wlF its vo g (some (k,v + ts.length,l ++ ts.map norm)) (setR R k (v + ts.length) (l ++ ts.map norm))) := by
  refine specF_of t_normal_wait (by simp) (famL_cons famA_pob (famL_cons famA_sl famL_nil)) (famA_tup famL_nil) fun w0 I0 M0 m0 => ?_
  unfold c_normal_wait
  simp
  refine LoopC.le (le_list [(0,.pob [0] 1 2),(6,tKs ts),(7,iv ts.length),(8,iv (0 : Nat))] (by simp)) ?_
  refine wait_l1 (its := its) (vo := vo) (off := 2) (k := k) (g := g) (b := none) (R := R) (ts := ts) (l0 := l) (v0 := v) hts hl hk (fun v l => wlF its vo g (some (k,v,l)) (setR R k v l)) (fun v l => by simp [wtV]) (.inr rfl) (fun v l => by simp [rwB,setR,show ¬ k = 0 by omega]) (fun v l v' l' p p1 p2 => ?_) (fun H st hH => ?_) ts.length 0 _ (by omega) (fun p => ?_)
  · rw [wlF_F,wlF_F,if_neg p1,if_neg p1]
    split
    · rfl
    · match p with
      | [] => rfl
      | [q] => simp [setR,show ¬ q = k from fun e => p2 (by rw [e])]
      | _ :: _ :: _ => rfl
  · simp
    exact reth_famN rfl rfl hH
  · simp only [List.take_zero,List.map_nil,List.append_nil,Nat.add_zero]
    rw [setR_same hR]
    simp
end Go.Proofs.Ytmeldaflhkiopaa

namespace Go.Proofs.Ytmeldaflhkiopaa
set_option linter.unusedVariables false
set_option linter.unusedSimpArgs false
open Go Go.G Go.Proofs Go.PL
theorem wi_at (l : List WI) (r : Nat) (x : A) : (l.map (wiA r) ++ [x])[l.length]? = some x := by rw [List.getElem?_append_right (by simp)]; simp
theorem wi_take (l : List WI) (r : Nat) : List.take l.length (l.map (wiA r)) = l.map (wiA r) := List.take_of_length_le (by simp)
theorem wi_take1 (l : List WI) (r : Nat) (x : A) : List.take (l.length + 1) (l.map (wiA r) ++ [x]) = l.map (wiA r) ++ [x] := List.take_of_length_le (by simp)
theorem delI_len : ∀ g,(delI g).length≤1
  | (a,b,c) => by
    by_cases h : c = [] <;> simp [delI,h]
theorem insI22_len : ∀ g,(insI22 g).length≤1
  | (a,b,c) => by
    by_cases h : c = [] <;> simp [insI22,h]
theorem keepM_spec (its i0 : List WI) (vo : Nat) (m n : Int) (g b : Nat × Nat × List T) (R : Rws) (hl : its.length≤1000000) (hg : R g.1 = some (g.2.1,g.2.2)) (hb : R b.1 = some (b.2.1,b.2.2)) (hg0 : 1≤g.1) (hb0 : 1≤b.1) (hi : its ++ (delI g ++ insI22 b) = i0 ++ [.keep m]) : SpecF Try.prog 69 (fun r => [wrP r,iv n]) (wlF its vo (some g) (some b) R) (fun _ => .tup []) (wlF (i0 ++ [.keep (IntKind.i64.wrap (m + n))]) (vo + (delI g ++ insI22 b).length) none none R) := by
  have F1 := flush_spec22 its vo g b R hl hg hb hg0 hb0
  rw [hi] at F1
  have hlen : i0.length≤1000002 := by
    have e := congrArg List.length hi
    have := delI_len g
    have := insI22_len b
    simp at e
    omega
  generalize vo + (delI g ++ insI22 b).length = v at *
  have e1 : IntKind.i64.wrap (i0.length : Int) = i0.length := i64_same (by omega) (by omega)
  refine specF_of t_normal_writer_keep (by simp) (famL_cons famA_pob (famL_cons famA_v famL_nil)) (famA_tup famL_nil) fun w0 I0 M0 m0 => ?_
  unfold c_normal_writer_keep
  simp
  refine sc_fam 0 F1 (fun p => by simp) (by simp) (by simp) ?_
  simp [e1,wi_at,wiA,wiC]
  refine ⟨by omega,rfl,?_⟩
  refine reth_fam rfl rfl (fun p => ?_)
  by_cases p1 : p = []
  · subst p1; simp [updF_app,wtV]
  · by_cases p2 : p = [0]
    · subst p2; simp [updF_app,wiA,wiC,rawE,A.remake,wi_take1]
    · simp [p1,p2,updF_app]
theorem keepA_spec (its : List WI) (vo : Nat) (n : Int) (g b : Nat × Nat × List T) (R : Rws) (hl : its.length≤1000000) (hg : R g.1 = some (g.2.1,g.2.2)) (hb : R b.1 = some (b.2.1,b.2.2)) (hg0 : 1≤g.1) (hb0 : 1≤b.1) (hi : its ++ (delI g ++ insI22 b) = []∨∃ i0 x,its ++ (delI g ++ insI22 b) = i0 ++ [x]∧x.op.kind ≠ 0) : SpecF Try.prog 69 (fun r => [wrP r,iv n]) (wlF its vo (some g) (some b) R) (fun _ => .tup []) (wlF (its ++ (delI g ++ insI22 b) ++ [.keep n]) (vo + (delI g ++ insI22 b).length + 1) none none R) := by
  have F1 := flush_spec22 its vo g b R hl hg hb hg0 hb0
  have hlen : (its ++ (delI g ++ insI22 b)).length≤1000002 := by
    have := delI_len g
    have := insI22_len b
    simp
    omega
  generalize vo + (delI g ++ insI22 b).length = v at *
  generalize its ++ (delI g ++ insI22 b) = J at *
  refine specF_of t_normal_writer_keep (by simp) (famL_cons famA_pob (famL_cons famA_v famL_nil)) (famA_tup famL_nil) fun w0 I0 M0 m0 => ?_
  unfold c_normal_writer_keep
  simp
  refine sc_fam 0 F1 (fun p => by simp) (by simp) (by simp) ?_
  rcases hi with rfl | ⟨i0,x,rfl,hx⟩
  · simp [updF_app,show IntKind.i64.wrap (-1) = -1 from rfl]
    refine reth_famN rfl rfl (fun p => ?_)
    by_cases p1 : p = []
    · subst p1; simp [updF_app,wtV]
    · by_cases p2 : p = [0]
      · subst p2; simp [updF_app,wiA,wiC,rawE,A.remake,wi_take1]
      · simp [p1,p2,updF_app]
  · simp at hlen
    have e1 : IntKind.i64.wrap (i0.length : Int) = i0.length := i64_same (by omega) (by omega)
    cases x with
    | keep m => exact absurd rfl hx
    | del a b c =>
      simp [e1,wi_at,wiA,wiC,updF_app]
      refine ⟨by omega,by omega,⟨by omega,by omega⟩,?_⟩
      refine reth_famN rfl rfl (fun p => ?_)
      by_cases p1 : p = []
      · subst p1; simp [updF_app,wtV]
      · by_cases p2 : p = [0]
        · subst p2; simp [updF_app,wiA,wiC,rawE,A.remake,wi_take1]
        · simp [p1,p2,updF_app]
    | ins a b c =>
      simp [e1,wi_at,wiA,wiC,updF_app]
      refine ⟨by omega,by omega,⟨by omega,by omega⟩,?_⟩
      refine reth_famN rfl rfl (fun p => ?_)
      by_cases p1 : p = []
      · subst p1; simp [updF_app,wtV]
      · by_cases p2 : p = [0]
        · subst p2; simp [updF_app,wiA,wiC,rawE,A.remake,wi_take1]
        · simp [p1,p2,updF_app]
    | desc e =>
      simp [e1,wi_at,wiA,wiC,updF_app]
      refine ⟨by omega,by omega,⟨by omega,by omega⟩,?_⟩
      refine reth_famN rfl rfl (fun p => ?_)
      by_cases p1 : p = []
      · subst p1; simp [updF_app,wtV]
      · by_cases p2 : p = [0]
        · subst p2; simp [updF_app,wiA,wiC,rawE,A.remake,wi_take1]
        · simp [p1,p2,updF_app]
end Go.Proofs.Ytmeldaflhkiopaa

namespace Go.Proofs.Ytmeldaflhkiopaa
set_option linter.unusedVariables false
set_option linter.unusedSimpArgs false
open Go Go.G Go.Proofs Go.PL
def WI.row : WI→Option (Nat × Nat × List T)
  | .del k v l => some (k,v,l)
  | .ins k v l => some (k,v,l)
  | _ => none
def ItR (R : Rws) (its : List WI) : Prop := ∀ x,x ∈ its→∀ k v l,x.row = some (k,v,l)→R k = some (v,l)∧1≤k
theorem le_wr {c : Cx} {s : Nat→A} {H : Hp} {its : List WI} {v K : Nat} {R : Rws} (hH : ∀ p,H (0 :: p) = (wlF its v none none R).F 0 p) (hK : ∀ q,K≤q→R q = none) (hK1 : 1≤K) : ∃ H',Le c ⟨s,H⟩ ⟨s,H'⟩∧(∀ p,H' (0 :: p) = (wlF its v (some (K,1,[])) (some (K + 1,1,[])) (setR (setR R K 1 []) (K + 1) 1 [])).F 0 p) := by
  have h0 := hH []
  simp [wtV] at h0
  have hK0 : H [0,K] = ⟨0,.none⟩ := by rw [hH]; simp [show ¬ K = 0 by omega,hK K (Nat.le_refl _),rwB]
  have hK2 : H [0,K + 1] = ⟨0,.none⟩ := by rw [hH]; simp [hK (K + 1) (by omega),rwB]
  have l1 := le_blankC (c := c) (s := s) (H := H) (d := [0]) (u := 1) (cs := [.osl [0,0] v 14 0 its.length,.sl true [],.sl true []]) 1 [0,K] 3 h0 rfl (by simp)
  refine ⟨_,l1.trans (le_blankC (d := [0]) (u := 1) (cs := [.osl [0,0] v 14 0 its.length,.osl [0,K] 1 3 0 0,.sl true []]) 2 [0,K + 1] 3 (by simp [updF_app,hK0]) rfl (by simp)),fun p => ?_⟩
  by_cases p1 : p = []
  · subst p1; simp [updF_app,wtV,hK0,hK2]
  · by_cases p2 : p = [0]
    · subst p2; simp [updF_app,hH,show ¬ 0 = K by omega]
    · match p,p1,p2 with
      | [q],p1,p2 =>
        have hq0 : ¬ q = 0 := fun e => p2 (by rw [e])
        by_cases e1 : q = K
        · subst e1; simp [updF_app,setR,rwB,hK0,hq0]
        · by_cases e2 : q = K + 1
          · subst e2; simp [updF_app,setR,rwB,hK2]
          · simp [updF_app,setR,hH,e1,e2,hq0]
      | _ :: _ :: _,p1,p2 => simp [updF_app,hH,rowAt]
theorem frz_wi {H : Hp} {R : Rws} {its : List WI} {v : Nat} {g b : Option (Nat × Nat × List T)} (hH : ∀ p,H (0 :: p) = (wlF its v g b R).F 0 p) (x : WI) (hx : ∀ k v l,x.row = some (k,v,l)→R k = some (v,l)∧1≤k) : FrzL H (wiC 0 x) (oA x.op).cells := by
  have key : ∀ k v' l,x.row = some (k,v',l)→Frz H (.osl [0,k] v' 3 0 l.length) (tKs l) := fun k v' l h => by
    obtain ⟨h1,h2⟩ := hx k v' l h
    have := hH [k]
    simp [show ¬ k = 0 by omega,h1,rwB] at this
    exact frz_row (f := tA) (by rw [this]; simp) rfl (by simp)
  have hraw : FrzL H rawE (eL E0) := ⟨frz_bare rfl,frz_bare rfl,frz_sl,frz_sl,frz_bare rfl,frz_sl,frz_sl,frz_sl,frz_sl,frz_bare rfl,frz_sl,trivial⟩
  rw [oA_eq]
  cases x with
  | keep n => exact ⟨frz_bare rfl,frz_bare rfl,frz_sl,hraw⟩
  | del k v' l => exact ⟨frz_bare rfl,frz_bare rfl,key k v' l rfl,hraw⟩
  | ins k v' l => exact ⟨frz_bare rfl,frz_bare rfl,key k v' l rfl,hraw⟩
  | desc e => exact ⟨frz_bare rfl,frz_bare rfl,frz_sl,frz_bare rfl,frz_bare rfl,frz_bare rfl,frz_bare rfl,frz_bare rfl,frz_bare rfl,frz_bare rfl,frz_bare rfl,frz_bare rfl,frz_bare rfl,frz_bare rfl,trivial⟩
theorem frzL_app {H : Hp} : ∀ {a b a' b' : List A},FrzL H a a'→FrzL H b b'→a.length = a'.length→FrzL H (a ++ b) (a' ++ b')
  | [],b,[],b',_,h,_ => h
  | x :: a,b,y :: a',b',h1,h,hl => ⟨h1.1,frzL_app h1.2 h (by simpa using hl)⟩
  | [],b,y :: a',b',_,_,hl => by simp at hl
  | x :: a,b,[],b',_,_,hl => by simp at hl
theorem frz_wis {H : Hp} {R : Rws} {its : List WI} {v : Nat} {g b : Option (Nat × Nat × List T)} (hH : ∀ p,H (0 :: p) = (wlF its v g b R).F 0 p) (hx : ItR R its) : Frz H (.osl [0,0] v 14 0 its.length) (oKs (its.map WI.op)) := by
  have h1 := hH [0]
  simp at h1
  refine frz_osl' (o := [0,0]) (u := v) (off := 0) (len := its.length) (sz := 14) (xs := its.map (wiA 0)) (ys := (its.map WI.op).map oA) (by rw [getR_at,h1]; simp) (by simp) (by simp) (fun y hy => by
    obtain ⟨x,_,rfl⟩ := List.mem_map.1 hy
    simp) ?_ ?_
  · have : ∀ l : List OP,A.ones ((l.map oA).flatMap A.cells) = true := fun l => by
      induction l with
      | nil => rfl
      | cons x l ih => simp [A.ones] at ih ⊢
    exact this _
  · rw [List.drop_zero,List.take_of_length_le (by simp),List.map_map]
    have : ∀ l : List WI,(∀ x,x ∈ l→x ∈ its)→FrzL H ((l.map (wiA 0)).flatMap A.cells) ((l.map (oA ∘ WI.op)).flatMap A.cells) := fun l hl => by
      induction l with
      | nil => trivial
      | cons x l ih =>
        simp only [List.map_cons,List.flatMap_cons]
        exact frzL_app (frz_wi hH x fun k v l h => hx x (hl x (by simp)) k v l h) (ih fun y hy => hl y (by simp [hy])) (by simp)
    exact this its fun x h => h
theorem idle_spec (list : Int) (e : E) (h1 : e.words.length≤100000000000000) (h2 : e.kids.length≤100000000000000) : G.Spec Try.prog 71 [iv list,eX e] (bv (idleE list e)) := by
  have e1 : IntKind.i64.wrap ((e.words.length : Int) + e.kids.length) = ((e.words.length + e.kids.length : Nat) : Int) := by rw [i64_same (by omega) (by omega)]; omega
  refine spec_of t_normal_Idle (by simp) fun w0 I0 => ?_
  unfold c_normal_Idle
  by_cases k0 : e.kind = 0
  · simp [k0,idleE]
    exact frz_bare rfl
  · by_cases k9 : list = 9
    · by_cases k2 : e.kind = 2
      · simp [k0,k9,k2,idleE,e1]
        refine frz_bool ?_
        rw [Bool.eq_iff_iff]
        simp only [decide_eq_true_eq,Bool.and_eq_true,List.isEmpty_iff]
        constructor
        · intro h
          exact ⟨List.eq_nil_of_length_eq_zero (by omega),List.eq_nil_of_length_eq_zero (by omega)⟩
        · rintro ⟨h1,h2⟩
          rw [h1,h2]; rfl
      · simp [k0,k9,k2,idleE]
        exact frz_bare rfl
    · simp [k0,k9,idleE]
      exact frz_bare rfl
theorem flO_map (its : List WI) (g b : Nat × Nat × List T) : (its ++ (delI g ++ insI22 b)).map WI.op = flO (its.map WI.op) g.2.2 b.2.2 := by
  obtain ⟨a,c,l⟩ := g
  obtain ⟨a',c',l'⟩ := b
  by_cases h1 : l = [] <;> by_cases h2 : l' = [] <;> simp [delI,insI22,flO,delO,insO,h1,h2,WI.op]
theorem last_wi (J : List WI) : (∃ i0 m,J = i0 ++ [.keep m])∨(J = []∨∃ i0 x,J = i0 ++ [x]∧x.op.kind ≠ 0) := by
  rcases List.eq_nil_or_concat J with h | ⟨i0,x,h⟩
  · exact .inr (.inl h)
  · rw [List.concat_eq_append] at h
    cases x with
    | keep m => exact .inl ⟨i0,m,h⟩
    | del a b c => exact .inr (.inr ⟨i0,.del a b c,h,by simp [WI.op]⟩)
    | ins a b c => exact .inr (.inr ⟨i0,.ins a b c,h,by simp [WI.op]⟩)
    | desc e => exact .inr (.inr ⟨i0,.desc e,h,by simp [WI.op]⟩)
theorem kpO_keep (l : List OP) (m n : Int) (t : List T) (e : E) : kpO (l ++ [.mk 0 m t e]) n = l ++ [.mk 0 (IntKind.i64.wrap (m + n)) t e] := by simp [kpO]
theorem kpO_nil (n : Int) : kpO [] n = [.mk 0 n [] E0] := rfl
theorem kpO_else (l : List OP) (x : OP) (n : Int) (h : x.kind ≠ 0) : kpO (l ++ [x]) n = l ++ [x] ++ [.mk 0 n [] E0] := by
  obtain ⟨k,m,t,e⟩ := x
  unfold kpO
  rw [List.getLast?_append]
  simp only [List.getLast?_singleton,Option.some_or]
  split
  · rename_i h2; injection h2 with h2; injection h2 with h2; exact absurd h2 h
  · rfl
structure WrI (its : List WI) (g b : Nat × Nat × List T) (R : Rws) (K : Nat) : Prop where
  g1 : 1≤g.1
  b1 : 1≤b.1
  gb : g.1 ≠ b.1
  gK : g.1 < K
  bK : b.1 < K
  Rg : R g.1 = some (g.2.1,g.2.2)
  Rb : R b.1 = some (b.2.1,b.2.2)
  rK : ∀ q,K≤q→R q = none
  it : ItR R its
  ng : ∀ x,x ∈ its→∀ k v l,x.row = some (k,v,l)→k ≠ g.1∧k ≠ b.1
theorem WrI.flushed {its : List WI} {g b : Nat × Nat × List T} {R : Rws} {K : Nat} (h : WrI its g b R K) : ItR R (its ++ (delI g ++ insI22 b)) := by
  intro x hx k v l hr
  rcases List.mem_append.1 hx with hx | hx
  · exact h.it x hx k v l hr
  · rcases List.mem_append.1 hx with hx | hx
    · obtain ⟨a,c,d⟩ := g
      by_cases e : d = [] <;> simp [delI,e] at hx
      subst hx
      simp [WI.row] at hr
      obtain ⟨rfl,rfl,rfl⟩ := hr
      exact ⟨h.Rg,h.g1⟩
    · obtain ⟨a,c,d⟩ := b
      by_cases e : d = [] <;> simp [insI22,e] at hx
      subst hx
      simp [WI.row] at hr
      obtain ⟨rfl,rfl,rfl⟩ := hr
      exact ⟨h.Rb,h.b1⟩
theorem keep_all {its : List WI} {g b : Nat × Nat × List T} {R : Rws} {K : Nat} (h : WrI its g b R K) (hl : its.length≤1000000) (vo : Nat) (n : Int) : ∃ its2 v2,SpecF Try.prog 69 (fun r => [wrP r,iv n]) (wlF its vo (some g) (some b) R) (fun _ => .tup []) (wlF its2 v2 none none R)∧its2.map WI.op = kpO (flO (its.map WI.op) g.2.2 b.2.2) n∧its2.length≤its.length + 3∧ItR R its2 := by
  have hF := h.flushed
  have d1 := delI_len g
  have d2 := insI22_len b
  rcases last_wi (its ++ (delI g ++ insI22 b)) with ⟨i0,m,hi⟩ | hi
  · have hlen := congrArg List.length hi
    simp at hlen
    refine ⟨_,_,keepM_spec its i0 vo m n g b R hl h.Rg h.Rb h.g1 h.b1 hi,?_,?_,?_⟩
    · rw [← flO_map,hi]
      simp [WI.op,kpO_keep]
    · simp; omega
    · rw [hi] at hF
      intro x hx k v l hr
      rcases List.mem_append.1 hx with hx | hx
      · exact hF x (by simp [hx]) k v l hr
      · simp at hx; subst hx; simp [WI.row] at hr
  · refine ⟨_,_,keepA_spec its vo n g b R hl h.Rg h.Rb h.g1 h.b1 hi,?_,?_,?_⟩
    · rw [← flO_map]
      rcases hi with hi | ⟨i0,x,hi,hx⟩
      · rw [hi]; simp [kpO_nil,WI.op]
      · rw [hi]
        simp only [List.map_append,List.map_cons,List.map_nil]
        rw [kpO_else _ _ _ hx]
        simp [WI.op]
    · simp; omega
    · intro x hx k v l hr
      rcases List.mem_append.1 hx with hx | hx
      · exact hF x hx k v l hr
      · simp at hx; subst hx; simp [WI.row] at hr
structure OpG (o : OP) : Prop where
  k : o.kind = 0∨o.kind = 1∨o.kind = 2∨o.kind = 3
  l : ∀ t,t ∈ o.l→wfT t
  e : o.kind = 3→G.Spec Try.prog 35 [eX o.e] (eX (nEd o.e))∧(nEd o.e).words.length≤100000000000000∧(nEd o.e).kids.length≤100000000000000
def sumO (os : List OP) : Nat := (os.map fun o => o.l.length).sum
theorem sumO_cons (o : OP) (os : List OP) : sumO (o :: os) = o.l.length + sumO os := by simp [sumO]
section
variable {n0 : Nat} {w0 : World} {I0 : Nat→Prop} {Q : Exit→Sta→Prop}
theorem ops_l1 {list : Int} {os : List OP} (hos : ∀ o,o ∈ os→OpG o) (hol : os.length≤300000) {res : List OP}
    (hq : ∀ (H : Hp) (its : List WI) (v : Nat) (g b : Nat × Nat × List T) (R : Rws) (K : Nat) st,(∀ p,H (0 :: p) = (wlF its v (some g) (some b) R).F 0 p)→WrI its g b R K→flO (its.map WI.op) g.2.2 b.2.2 = res→its.length≤1000000→Q (.exit 0) ⟨lk ([(0,iv list),(5,wrP 0)] ++ st),H⟩) : ∀ (m i : Nat) (its : List WI) (v : Nat) (g b : Nat × Nat × List T) (R : Rws) (K : Nat) (H : Hp),i + m = os.length→its.length≤3 * i→g.2.2.length + b.2.2.length + sumO (os.drop i)≤1000000→WrI its g b R K→(∀ p,H (0 :: p) = (wlF its v (some g) (some b) R).F 0 p)→opsW list ((os.drop i).map nOP) (its.map WI.op) g.2.2 b.2.2 = res →
    LoopC (cx Try.prog w0 I0 n0) l1_normal_Ops Q ⟨lk [(0,iv list),(5,wrP 0),(11,oKs os),(12,iv os.length),(13,iv i)],H⟩ := by
  intro m
  induction m with
  | zero =>
    intro i its v g b R K H hm hil hsum hW hH hres
    refine loopC_once mixed l1_normal_Ops.eq_1 ?_
    have : i = os.length := by omega
    subst this
    rw [List.drop_length,List.map_nil,opsW] at hres
    simp
    exact hq H its v g b R K [(11,oKs os),(12,iv os.length),(13,iv os.length),(14,bv false)] hH hW hres (by omega)
  | succ m ih =>
    intro i its v g b R K H hm hil hsum hW hH hres
    have hi : i < os.length := by omega
    have ew : IntKind.i64.wrap ((i : Int) + 1) = ((i + 1 : Nat) : Int) := by rw [i64_same (by omega) (by omega)]; omega
    have hd : os.drop i = os[i] :: os.drop (i + 1) := (List.getElem_cons_drop hi).symm
    have hO := hos _ (List.getElem_mem hi)
    rw [hd,List.map_cons,opsW] at hres
    rw [hd,sumO_cons] at hsum
    have hoi : (os.map oA)[i]? = some (oX os[i]) := by simp [hi]
    generalize ho : os[i] = o at *
    have hnk : (nOP o).kind = o.kind := rfl
    have hnn : (nOP o).n = o.n := rfl
    have hnl : (nOP o).l = o.l := rfl
    have hne : (nOP o).e = nEd o.e := rfl
    rw [hnk,hnn,hnl,hne] at hres
    -- what goes on when all is laid
    have next : ∀ (its2 : List WI) (v2 : Nat) (H2 : Hp),its2.length≤its.length + 3→(∀ p,H2 (0 :: p) = (wlF its2 v2 none none R).F 0 p)→ItR R its2→opsW list ((os.drop (i + 1)).map nOP) (its2.map WI.op) [] [] = res→LoopC (cx Try.prog w0 I0 n0) l1_normal_Ops Q ⟨lk [(0,iv list),(5,wrP 0),(11,oKs os),(12,iv os.length),(13,iv (i + 1 : Nat))],H2⟩ := fun its2 v2 H2 h1 h2 h3 h4 => by
      obtain ⟨H3,hle,hF⟩ := le_wr (c := cx Try.prog w0 I0 n0) (s := lk [(0,iv list),(5,wrP 0),(11,oKs os),(12,iv os.length),(13,iv (i + 1 : Nat))]) h2 hW.rK (by have := hW.gK; omega)
      refine LoopC.le hle ?_
      refine ih (i + 1) its2 v2 (K,1,[]) (K + 1,1,[]) _ (K + 2) H3 (by omega) (by omega) (by simp; omega) ?_ hF h4
      have hg := hW.g1
      have hgK := hW.gK
      refine ⟨by simp; omega,by simp,by simp,by simp,by simp,by simp [setR],by simp [setR],fun q hq => ?_,fun x hx k v' l hr => ?_,fun x hx k v' l hr => ?_⟩
      · simp [setR,show ¬ q = K + 1 by omega,show ¬ q = K by omega]
        exact hW.rK q (by omega)
      · obtain ⟨a1,a2⟩ := h3 x hx k v' l hr
        have hkK : k < K := by
          by_cases e : K≤k
          · rw [hW.rK k e] at a1; cases a1
          · omega
        exact ⟨by simp [setR,show ¬ k = K + 1 by omega,show ¬ k = K by omega,a1],a2⟩
      · obtain ⟨a1,a2⟩ := h3 x hx k v' l hr
        have hkK : k < K := by
          by_cases e : K≤k
          · rw [hW.rK k e] at a1; cases a1
          · omega
        exact ⟨by simp; omega,by simp; omega⟩
    refine loopC_once mixed l1_normal_Ops.eq_1 ?_
    rcases hO.k with h0 | h0 | h0 | h0
    · rw [if_pos h0] at hres
      obtain ⟨its2,v2,S1,S2,S3,S4⟩ := keep_all hW (by omega) v o.n
      rw [← S2] at hres
      simp [hi,ho,h0,updF_app]
      refine sc_fam 0 S1 (fun p => by simp [updF_app,hH]) (by simp) (by simp) ?_
      simp [ew]
      exact next its2 v2 _ S3 (fun p => by simp) S4 hres
    · rw [if_neg (by omega),if_pos h0] at hres
      have hF := waitG_spec its v g.1 g.2.1 g.2.2 (some b) R hW.Rg hW.g1 (fun x hx => by cases hx; exact Ne.symm hW.gb) hO.l (by omega)
      simp [hi,ho,h0,updF_app]
      refine sc_fam 0 hF (fun p => by simp [updF_app,hH]) (by simp) (by simp) ?_
      simp [ew]
      refine ih (i + 1) its v (g.1,g.2.1 + o.l.length,g.2.2 ++ o.l.map norm) b (setR R g.1 (g.2.1 + o.l.length) (g.2.2 ++ o.l.map norm)) K _ (by omega) (by omega) (by simp; omega) ?_ (fun p => by simp) hres
      have w1 := hW.g1
      have w2 := hW.gK
      refine ⟨hW.g1,hW.b1,hW.gb,hW.gK,hW.bK,by simp [setR],?_,fun q hq => ?_,fun x hx k v' l hr => ?_,fun x hx k v' l hr => hW.ng x hx k v' l hr⟩
      · simp only [setR,if_neg (Ne.symm hW.gb)]; exact hW.Rb
      · simp only [setR,if_neg (show ¬ q = g.1 by omega)]; exact hW.rK q hq
      · obtain ⟨a1,a2⟩ := hW.it x hx k v' l hr
        exact ⟨by simp only [setR,if_neg (hW.ng x hx k v' l hr).1]; exact a1,a2⟩
    · rw [if_neg (by omega),if_neg (by omega),if_pos h0] at hres
      have hF := waitB_spec its v b.1 b.2.1 b.2.2 (some g) R hW.Rb hW.b1 hO.l (by omega)
      simp [hi,ho,h0,updF_app]
      refine sc_fam 0 hF (fun p => by simp [updF_app,hH]) (by simp) (by simp) ?_
      simp [ew]
      refine ih (i + 1) its v g (b.1,b.2.1 + o.l.length,b.2.2 ++ o.l.map norm) (setR R b.1 (b.2.1 + o.l.length) (b.2.2 ++ o.l.map norm)) K _ (by omega) (by omega) (by simp; omega) ?_ (fun p => by simp) hres
      have w2 := hW.bK
      refine ⟨hW.g1,hW.b1,hW.gb,hW.gK,hW.bK,?_,by simp [setR],fun q hq => ?_,fun x hx k v' l hr => ?_,fun x hx k v' l hr => hW.ng x hx k v' l hr⟩
      · simp only [setR,if_neg hW.gb]; exact hW.Rg
      · simp only [setR,if_neg (show ¬ q = b.1 by omega)]; exact hW.rK q hq
      · obtain ⟨a1,a2⟩ := hW.it x hx k v' l hr
        exact ⟨by simp only [setR,if_neg (hW.ng x hx k v' l hr).2]; exact a1,a2⟩
    · rw [if_neg (by omega),if_neg (by omega),if_neg (by omega)] at hres
      obtain ⟨E1,E2,E3⟩ := hO.e h0
      have hI := idle_spec list (nEd o.e) E2 E3
      simp [hi,ho,h0,updF_app]
      refine sc_call E1 (by simp) ?_
      simp [updF_app]
      refine sc_call hI (by simp) ?_
      cases hid : idleE list (nEd o.e) with
      | true =>
        rw [if_pos hid] at hres
        obtain ⟨its2,v2,S1,S2,S3,S4⟩ := keep_all hW (by omega) v 1
        rw [← S2] at hres
        simp
        refine sc_fam 0 S1 (fun p => by simp [updF_app,hH]) (by simp) (by simp) ?_
        simp [ew]
        exact next its2 v2 _ S3 (fun p => by simp) S4 hres
      | false =>
        rw [if_neg (by rw [hid]; decide),← flO_map] at hres
        have F1 := flush_spec22 its v g b R (by omega) hW.Rg hW.Rb hW.g1 hW.b1
        have d1 := delI_len g
        have d2 := insI22_len b
        simp
        refine sc_fam 0 F1 (fun p => by simp [updF_app,hH]) (by simp) (by simp) ?_
        have hJl : (its ++ (delI g ++ insI22 b)).length≤its.length + 2 := by simp; omega
        have hJr := hW.flushed
        have next' := next (its ++ (delI g ++ insI22 b) ++ [.desc (nEd o.e)]) (v + (delI g ++ insI22 b).length + 1)
        generalize its ++ (delI g ++ insI22 b) = J at *
        generalize v + (delI g ++ insI22 b).length = v1 at *
        simp [updF_app,lens_wi,wi_take,wi_at,ew]
        refine ⟨by omega,by omega,?_⟩
        refine next' _ (by simp; omega) (fun p => ?_) (fun x hx k v' l hr => ?_) ?_
        · by_cases p1 : p = []
          · subst p1; simp [updF_app,wtV]
          · by_cases p2 : p = [0]
            · subst p2; simp [updF_app,wiA,wiC]
            · simp [p1,p2,updF_app]
        · rcases List.mem_append.1 hx with hx | hx
          · exact hJr x hx k v' l hr
          · simp at hx; subst hx; simp [WI.row] at hr
        · simpa [WI.op] using hres
end
theorem pOps22_spec {list : Int} {os : List OP} (hos : ∀ o,o ∈ os→OpG o) (hol : os.length≤300000) (hsum : sumO os≤1000000) : G.Spec Try.prog 51 [iv list,oKs os] (oKs (opsW list (os.map nOP) [] [] [])) := by
  refine spec_of t_normal_Ops (by simp) fun w0 I0 => ?_
  unfold c_normal_Ops
  simp
  refine LoopC.le (le_blankC (d := [0]) (u := 1) (cs := [.sl true [],.sl true [],.sl true []]) 0 [0,0] 14 rfl rfl (by simp)) ?_
  obtain ⟨H3,hle,hF⟩ := le_wr (c := cx Try.prog w0 I0 72) (s := lk [(0,iv list),(5,wrP 0),(11,oKs os),(12,iv os.length),(13,iv (0 : Nat))]) (H := updF (updF (lkH [([0],⟨1,.cells [.sl true [],.sl true [],.sl true []]⟩)]) [0,0] ⟨1,.arr 14 []⟩) [0] ⟨1,.cells [.osl [0,0] 1 14 0 0,.sl true [],.sl true []]⟩) (its := []) (v := 1) (K := 1) (R := fun _ => none) (fun p => by
    by_cases p1 : p = []
    · subst p1; simp [updF_app,wtV]
    · by_cases p2 : p = [0]
      · subst p2; simp [updF_app]
      · match p,p1,p2 with
        | [q],p1,p2 =>
          have hq0 : ¬ q = 0 := fun e => p2 (by rw [e])
          simp [updF_app,rwB,hq0,Ne.symm hq0]
        | _ :: _ :: _,p1,p2 => simp [updF_app,rowAt]) (fun q _ => rfl) (by omega)
  refine LoopC.le hle ?_
  refine ops_l1 hos hol (res := opsW list (os.map nOP) [] [] []) (fun H its v g b R K st hH hW hres hil => ?_) os.length 0 [] 1 (1,1,[]) (1 + 1,1,[]) _ 3 H3 (by omega) (by simp) (by simpa using hsum) ?_ hF (by simp)
  · have F1 := flush_spec22 its v g b R hil hW.Rg hW.Rb hW.g1 hW.b1
    have hJr := hW.flushed
    have hm := flO_map its g b
    rw [hres] at hm
    simp
    refine sc_fam 0 F1 hH (by simp) (by simp) ?_
    simp
    rw [← hm]
    have := frz_wis (H := ov 0 ((wlF (its ++ (delI g ++ insI22 b)) (v + (delI g ++ insI22 b).length) none none R).F 0) H) (its := its ++ (delI g ++ insI22 b)) (v := v + (delI g ++ insI22 b).length) (g := none) (b := none) (R := R) (fun p => by simp) hJr
    simpa using this
  · refine ⟨by simp,by simp,by simp,by simp,by simp,by simp [setR],by simp [setR],fun q hq => ?_,fun x hx => by simp at hx,fun x hx => by simp at hx⟩
    simp [setR,show ¬ q = 1 by omega,show ¬ q = 2 by omega]
end Go.Proofs.Ytmeldaflhkiopaa

namespace Go.Proofs.Ytmeldaflhkiopaa
set_option linter.unusedVariables false
set_option linter.unusedSimpArgs false
open Go Go.G Go.Proofs Go.PL
mutual
def nOk : E→Prop
  | .mk k o n ws ks l os => (k = 0∨k = 1∨k = 2∨k = 3)∧(k ≠ 3→l = 0)∧(k = 1→wfT o∧wfT n)∧ws.length≤1000000∧ks.length≤1000000∧os.length≤300000∧sumO os≤1000000∧(k = 2→nOkK ks)∧(k = 3→nOkO os)
def nOkK : List KE→Prop
  | [] => True
  | .mk a e :: l => nOk e∧nOkK l
def nOkO : List OP→Prop
  | [] => True
  | .mk k n t e :: l => ((k = 0∨k = 1∨k = 2∨k = 3)∧(∀ x,x ∈ t→wfT x)∧(k = 3→nOk e))∧nOkO l
end
theorem nOkK_all : ∀ {l : List KE},nOkK l→∀ x,x ∈ l→nOk x.e
  | [],_,x,hx => by simp at hx
  | .mk a e :: l,h,x,hx => by
    rw [nOkK] at h
    rcases List.mem_cons.1 hx with rfl | hx
    · exact h.1
    · exact nOkK_all h.2 x hx
theorem nOkO_all : ∀ {l : List OP},nOkO l→∀ x,x ∈ l→(x.kind = 0∨x.kind = 1∨x.kind = 2∨x.kind = 3)∧(∀ t,t ∈ x.l→wfT t)∧(x.kind = 3→nOk x.e)
  | [],_,x,hx => by simp at hx
  | .mk k n t e :: l,h,x,hx => by
    rw [nOkO] at h
    rcases List.mem_cons.1 hx with rfl | hx
    · exact h.1
    · exact nOkO_all h.2 x hx
theorem nEd_size (e : E) (h : nOk e) : (nEd e).words.length≤100000000000000∧(nEd e).kids.length≤100000000000000 := by
  obtain ⟨k,o,n,ws,ks,l,os⟩ := e
  rw [nOk] at h
  rw [nEd_mk]
  split
  · simp
  · split
    · simp; omega
    · split <;> simp
section
variable {n0 : Nat} {w0 : World} {I0 : Nat→Prop} {Q : Exit→Sta→Prop}
theorem nedit_l1 {ks : List KE} (hl : ks.length≤1000000) (hk : ∀ x,x ∈ ks→G.Spec Try.prog 35 [eX x.e] (eX (nEd x.e))) {v1 v3 : VOb} {W : A}
    (hq : ∀ H u st,H [1] = v1→H [3] = v3→H [2] = ⟨1,.cells [iv 2,iv 0,.sl true [],.sl true [],iv 0,.sl true [],.sl true [],W,.osl [5] u 12 0 ks.length,iv 0,.sl true []]⟩→H [5] = ⟨u,.arr 12 (ks.map (kA ∘ nKE))⟩→Q (.exit 1) ⟨lk ([(2,.pob [1] 1 0),(3,.pob [2] 1 0)] ++ st),H⟩) : ∀ (m i u : Nat) (H : Hp),i + m = ks.length→H [1] = v1→H [3] = v3→H [2] = ⟨1,.cells [iv 2,iv 0,.sl true [],.sl true [],iv 0,.sl true [],.sl true [],W,.osl [5] u 12 0 i,iv 0,.sl true []]⟩→H [5] = ⟨u,.arr 12 ((ks.take i).map (kA ∘ nKE))⟩ →
    LoopC (cx Try.prog w0 I0 n0) l1_normal_Edit Q ⟨lk [(2,.pob [1] 1 0),(3,.pob [2] 1 0),(32,kKs ks),(33,iv ks.length),(34,iv i)],H⟩ := by
  intro m
  induction m with
  | zero =>
    intro i u H hm h1 h3 h2 h5
    refine loopC_once mixed l1_normal_Edit.eq_1 ?_
    have : i = ks.length := by omega
    subst this
    rw [List.take_of_length_le (Nat.le_refl _)] at h5
    simp
    exact hq H u [(32,kKs ks),(33,iv ks.length),(34,iv ks.length),(35,bv false)] h1 h3 h2 h5
  | succ m ih =>
    intro i u H hm h1 h3 h2 h5
    have hi : i < ks.length := by omega
    have ew : IntKind.i64.wrap ((i : Int) + 1) = ((i + 1 : Nat) : Int) := by rw [i64_same (by omega) (by omega)]; omega
    have hE := hk _ (List.getElem_mem hi)
    have htk : (ks.take (i + 1)).map (kA ∘ nKE) = (ks.take i).map (kA ∘ nKE) ++ [kA (nKE ks[i])] := by rw [List.take_succ_eq_append_getElem hi,List.map_append]; rfl
    have next := ih (i + 1) (u + 1)
    rw [htk] at next
    generalize hx : ks[i] = x at *
    refine loopC_once mixed l1_normal_Edit.eq_1 ?_
    simp [hi,hx,updF_app,h2]
    refine sc_call hE (by simp [updF_app]) ?_
    simp [updF_app,h2,h5,ew]
    refine ⟨⟨by omega,by omega⟩,?_⟩
    refine next _ (by omega) (by simp [updF_app,h1]) (by simp [updF_app,h3]) (by simp [updF_app]) ?_
    simp [updF_app,List.take_take,nKE]
end
theorem pEdit_spec : ∀ e : E,nOk e→G.Spec Try.prog 35 [eX e] (eX (nEd e)) := by
  refine E.ind fun k o n ws ks l os ihk iho h => ?_
  rw [nOk] at h
  obtain ⟨hk,hl,hon,hwl,hkl,hol,hsum,hks,hos⟩ := h
  refine spec_of t_normal_Edit (by simp) fun w0 I0 => ?_
  unfold c_normal_Edit
  rw [nEd_mk]
  rcases hk with rfl | rfl | rfl | rfl
  · simp [hl (by decide)]
    exact frz_agg ⟨frz_bare rfl,frz_bare rfl,frz_sl,frz_sl,frz_bare rfl,frz_sl,frz_sl,frz_sl,frz_sl,frz_bare rfl,frz_sl,trivial⟩
  · obtain ⟨ho,hn⟩ := hon rfl
    simp [hl (by decide)]
    refine sc_call (tNorm_spec o ho) (by simp) ?_
    simp [updF_app]
    refine sc_call (tNorm_spec n hn) (by simp) ?_
    simp [updF_app]
    exact frz_agg ⟨frz_bare rfl,frz_int (norm_kind o).symm,frz_bare rfl,frz_bare rfl,frz_int (norm_kind n).symm,frz_bare rfl,frz_bare rfl,frz_sl,frz_sl,frz_bare rfl,frz_sl,trivial⟩
  · simp [hl (by decide)]
    refine ⟨by omega,?_⟩
    refine LoopC.le (le_blankC (d := [2]) (u := 1) (cs := [iv 2,iv 0,.sl true [],.sl true [],iv 0,.sl true [],.sl true [],.osl [3] 1 4 0 ws.length,.sl true [],iv 0,.sl true []]) 8 [5] 12 rfl rfl (by simp)) ?_
    refine LoopC.le (le_list [(2,.pob [1] 1 0),(3,.pob [2] 1 0),(32,kKs ks),(33,iv ks.length),(34,iv (0 : Nat))] (by simp)) ?_
    refine nedit_l1 hkl (fun x hx => ihk x hx (nOkK_all (hks rfl) x hx)) (W := .osl [3] 1 4 0 ws.length) (fun H u st h1 h3 h2 h5 => ?_) ks.length 0 1 _ (by omega) rfl rfl (by simp [updF_app]) (by simp [updF_app])
    have h3' : H [3] = ⟨1,.arr 4 (ws.map wA)⟩ := by rw [h3]; simp [updF_app]
    simp [h2,h1,updF_app]
    have fw := frz_row (H := updF H [1] ⟨1,.cells [iv 2,iv 0,.sl true [],.sl true [],iv 0,.sl true [],.sl true [],.osl [3] 1 4 0 ws.length,.osl [5] u 12 0 ks.length,iv 0,.sl true []]⟩) (o := [3]) (u := 1) (sz := 4) (l := ws) (f := wA) (n := ws.length) (by simp [updF_app,h3']) rfl (fun x => rfl)
    have fk := frz_row (H := updF H [1] ⟨1,.cells [iv 2,iv 0,.sl true [],.sl true [],iv 0,.sl true [],.sl true [],.osl [3] 1 4 0 ws.length,.osl [5] u 12 0 ks.length,iv 0,.sl true []]⟩) (o := [5]) (u := u) (sz := 12) (l := ks) (f := kA ∘ nKE) (n := ks.length) (by simp [updF_app,h5]) rfl (fun x => by simp)
    rw [← List.map_map] at fk
    exact frz_agg ⟨frz_bare rfl,frz_bare rfl,frz_sl,frz_sl,frz_bare rfl,frz_sl,frz_sl,fw,fk,frz_bare rfl,frz_sl,trivial⟩
  · have hO := pOps22_spec (list := l) (os := os) (fun x hx => by
      obtain ⟨a,b,c⟩ := nOkO_all (hos rfl) x hx
      exact ⟨a,b,fun h => ⟨iho x hx (c h),nEd_size _ (c h)⟩⟩) hol hsum
    simp
    refine sc_call hO (by simp [updF_app]) ?_
    simp [updF_app]
    exact frz_agg ⟨frz_bare rfl,frz_bare rfl,frz_sl,frz_sl,frz_bare rfl,frz_sl,frz_sl,frz_sl,frz_sl,frz_bare rfl,frz_sl,trivial⟩
end Go.Proofs.Ytmeldaflhkiopaa

namespace Go.Proofs.Ytmeldaflhkiopaa
set_option linter.unusedVariables false
set_option linter.unusedSimpArgs false
open Go Go.G Go.Proofs Go.PL
section
variable {n0 : Nat} {w0 : World} {I0 : Nat→Prop} {Q : Exit→Sta→Prop}
end
section
variable {n0 : Nat} {w0 : World} {I0 : Nat→Prop} {Q : Exit→Sta→Prop}
end
inductive RI where
  | keep (n : Int)
  | del (l : List T)
  | ins (l : List T)
  | desc (e : E)
def RI.op : RI→OP
  | .keep n => .mk 0 n [] E0
  | .del l => .mk 1 0 l E0
  | .ins l => .mk 2 0 l E0
  | .desc e => .mk 3 0 [] e
def riC : RI→List A
  | .keep n => iv 0 :: iv n :: .sl true [] :: rawE
  | .del l => iv 1 :: iv 0 :: tKs l :: rawE
  | .ins l => iv 2 :: iv 0 :: tKs l :: rawE
  | .desc e => iv 3 :: iv 0 :: .sl true [] :: eL e
@[simp] theorem riC_len {x : RI} : (riC x).length = 14 := by cases x <;> rfl
theorem frz_ri {H : Hp} (x : RI) : FrzL H (riC x) (oA x.op).cells := by
  have hraw : FrzL H rawE (eL E0) := ⟨frz_bare rfl,frz_bare rfl,frz_sl,frz_sl,frz_bare rfl,frz_sl,frz_sl,frz_sl,frz_sl,frz_bare rfl,frz_sl,trivial⟩
  rw [oA_eq]
  cases x with
  | keep n => exact ⟨frz_bare rfl,frz_bare rfl,frz_sl,hraw⟩
  | del l => exact ⟨frz_bare rfl,frz_bare rfl,frz_bare rfl,hraw⟩
  | ins l => exact ⟨frz_bare rfl,frz_bare rfl,frz_bare rfl,hraw⟩
  | desc e => exact ⟨frz_bare rfl,frz_bare rfl,frz_sl,frz_bare rfl,frz_bare rfl,frz_bare rfl,frz_bare rfl,frz_bare rfl,frz_bare rfl,frz_bare rfl,frz_bare rfl,frz_bare rfl,frz_bare rfl,frz_bare rfl,trivial⟩
end Go.Proofs.Ytmeldaflhkiopaa

namespace Go.Proofs.Ytmeldaflhkiopaa
set_option linter.unusedVariables false
set_option linter.unusedSimpArgs false
open Go Go.G Go.Proofs Go.PL
inductive IT where
  | r (x : RI)
  | got (o : OP)
def IT.op : IT→OP
  | .r x => x.op
  | .got o => o
def itC : IT→List A
  | .r x => riC x
  | .got o => (oA o).cells
def itA (x : IT) : A := .agg (itC x)
@[simp] theorem itA_cells {x : IT} : (itA x).cells = itC x := rfl
@[simp] theorem itC_len {x : IT} : (itC x).length = 14 := by
  cases x with
  | r x => simp [itC]
  | got o => simp [itC]
theorem lens_it {l : List IT} : lens 14 (l.map itA) = true := by rw [lens_all]; simp
theorem frz_it {H : Hp} (x : IT) : FrzL H (itC x) (oA x.op).cells := by
  cases x with
  | r x => exact frz_ri x
  | got o => exact frzL_bare (by simp [itC])
theorem frz_its {H : Hp} {o : Nm} {u n : Nat} {its : List IT} (h1 : H o = ⟨u,.arr 14 (its.map itA)⟩) (hn : n = its.length) : Frz H (.osl o u 14 0 n) (oKs (its.map IT.op)) := by
  subst hn
  refine frz_osl' (o := o) (u := u) (off := 0) (len := its.length) (sz := 14) (xs := its.map itA) (ys := (its.map IT.op).map oA) (by rw [getR_at,h1]; simp) (by simp) (by simp) (fun y hy => by
    obtain ⟨x,_,rfl⟩ := List.mem_map.1 hy
    simp) ?_ ?_
  · have : ∀ l : List OP,A.ones ((l.map oA).flatMap A.cells) = true := fun l => by
      induction l with
      | nil => rfl
      | cons x l ih => simp [A.ones] at ih ⊢
    exact this _
  · rw [List.drop_zero,List.take_of_length_le (by simp),List.map_map]
    have : ∀ l : List IT,FrzL H ((l.map itA).flatMap A.cells) ((l.map (oA ∘ IT.op)).flatMap A.cells) := fun l => by
      induction l with
      | nil => trivial
      | cons x l ih =>
        simp only [List.map_cons,List.flatMap_cons]
        exact frzL_app (frz_it x) ih (by simp)
    exact this its
theorem frz_oneO {H : Hp} (k : Int) (l : List T) : Frz H (.sl true [.agg (iv k :: iv 0 :: tKs l :: rawE)]) (oKs [OP.mk k 0 l E0]) := by
  have h := frz_soft (H := H) (a := .sl true [.agg (iv k :: iv 0 :: tKs l :: rawE)]) (by simp [rawE])
  have e : (A.sl true [.agg (iv k :: iv 0 :: tKs l :: rawE)]).soft = oKs [OP.mk k 0 l E0] := by simp [A.soft,A.softL,rawE,soft_tKs]
  rw [e] at h
  exact h
theorem pSome_spec (k : Int) (l : List T) : G.Spec Try.prog 99 [iv k,tKs l] (oKs (if l = [] then [] else [.mk k 0 l E0])) := by
  refine spec_of t_diff_some (by simp) fun w0 I0 => ?_
  unfold c_diff_some
  by_cases h : l = []
  · simp [h]
    exact frz_sl
  · have : ¬ l.length = 0 := by simpa using h
    simp [h,this]
    exact frz_oneO k l
theorem pRemove_spec (l : List T) : G.Spec Try.prog 91 [tKs l] (oKs (delO l)) := by
  refine spec_of t_diff_remove (by simp) fun w0 I0 => ?_
  unfold c_diff_remove
  simp
  refine sc_call (pSome_spec 1 l) (by simp) ?_
  simp
  exact frz_bare (by simp)
theorem pInsert_spec (l : List T) : G.Spec Try.prog 89 [tKs l] (oKs (insO l)) := by
  refine spec_of t_diff_insert (by simp) fun w0 I0 => ?_
  unfold c_diff_insert
  simp
  refine sc_call (pSome_spec 2 l) (by simp) ?_
  simp
  exact frz_bare (by simp)
end Go.Proofs.Ytmeldaflhkiopaa

namespace Go.Proofs.Ytmeldaflhkiopaa
set_option linter.unusedVariables false
set_option linter.unusedSimpArgs false
open Go Go.G Go.Proofs Go.PL
section
variable {n0 : Nat} {w0 : World} {I0 : Nat→Prop} {Q : Exit→Sta→Prop}
theorem gp_l1 {a b : List T} (hb : ∀ t,t ∈ b→wfT t) (hbl : b.length≤1000000) {most : Int} {x : T} (hx : wfT x) {R : A} {N i w : Nat} {H0 : Hp}
    (hq : ∀ (H' : Hp) (v : Nat),H' [2] = ⟨v,.arr 1 ((b.map fun y => (scoreT x y : Int)).map iv)⟩→(∀ o,o ≠ [1]→o ≠ [2]→H' o = H0 o)→Q (.exit 2) ⟨lk [(1,tKs a),(2,tKs b),(3,iv most),(9,R),(11,.pob [0] w 0),(12,.osl [2] v 1 0 b.length),(20,tKs a),(21,iv N),(22,iv i),(26,tKs b),(27,iv b.length),(28,iv b.length),(29,bv false)],H'⟩) :
    ∀ (m j : Nat) (v : Nat) (H : Hp),j + m = b.length→H [0] = ⟨w,.cells (tL x)⟩→H [2] = ⟨v,.arr 1 (((b.take j).map fun y => (scoreT x y : Int)).map iv)⟩→(∀ o,o ≠ [1]→o ≠ [2]→H o = H0 o) →
    LoopC (cx Try.prog w0 I0 n0) l1_diff_Gap Q ⟨lk [(1,tKs a),(2,tKs b),(3,iv most),(9,R),(11,.pob [0] w 0),(12,.osl [2] v 1 0 j),(20,tKs a),(21,iv N),(22,iv i),(26,tKs b),(27,iv b.length),(28,iv j)],H⟩ := by
  intro m
  induction m with
  | zero =>
    intro j v H hm h0 h2 hH
    have : j = b.length := by omega
    subst this
    rw [List.take_of_length_le (Nat.le_refl _)] at h2
    refine loopC_once mixed l1_diff_Gap.eq_1 ?_
    simp
    exact hq H v h2 hH
  | succ m ih =>
    intro j v H hm h0 h2 hH
    have hlt : j < b.length := by omega
    have ew : IntKind.i64.wrap ((j : Int) + 1) = ((j + 1 : Nat) : Int) := by rw [i64_same (by omega) (by omega)]; omega
    have htk : b.take (j + 1) = b.take j ++ [b[j]] := List.take_succ_eq_append_getElem hlt
    have next := ih (j + 1)
    rw [htk] at next
    refine loopC_once mixed l1_diff_Gap.eq_1 ?_
    simp [hlt,h0,updF_app]
    refine sc_call (pScore_spec hx (hb _ (List.getElem_mem hlt))) (by simp) ?_
    simp [h2,updF_app,Nat.min_eq_left (Nat.le_of_lt hlt)]
    refine ⟨by omega,?_⟩
    rw [ew]
    refine next (v + 1) _ (by omega) (by simp [updF_app,h0]) ?_ (fun o h1 h2' => by simp [updF_app,h1,h2',hH])
    simp [updF_app]
    rw [List.take_succ_eq_append_getElem (by simpa using hlt)]
    simp [List.take_take]
abbrev ivsA (r : List Int) : A := .sl false (r.map iv)
theorem gp_l2 {a b : List T} (ha : ∀ t,t ∈ a→wfT t) (hb : ∀ t,t ∈ b→wfT t) (hal : a.length≤1000000) (hbl : b.length≤1000000) {most : Int}
    (hq : ∀ (H' : Hp),H' [3] = ⟨a.length + 1,.arr 1 ((scR a b).map ivsA)⟩→H' [5] = ⟨0,.none⟩→Q (.exit 0) ⟨lk [(1,tKs a),(2,tKs b),(3,iv most),(9,.osl [3] (a.length + 1) 1 0 a.length),(20,tKs a),(21,iv a.length),(22,iv a.length),(23,bv false)],H'⟩) :
    ∀ (m i : Nat) (H : Hp),i + m = a.length→H [3] = ⟨i + 1,.arr 1 ((scR (a.take i) b).map ivsA)⟩→H [5] = ⟨0,.none⟩ →
    LoopC (cx Try.prog w0 I0 n0) l2_diff_Gap Q ⟨lk [(1,tKs a),(2,tKs b),(3,iv most),(9,.osl [3] (i + 1) 1 0 i),(20,tKs a),(21,iv a.length),(22,iv i)],H⟩ := by
  intro m
  induction m with
  | zero =>
    intro i H hm h3 h5
    have : i = a.length := by omega
    subst this
    rw [List.take_of_length_le (Nat.le_refl _)] at h3
    refine loopC_once mixed l2_diff_Gap.eq_1 ?_
    simp
    exact hq H h3 h5
  | succ m ih =>
    intro i H hm h3 h5
    have hlt : i < a.length := by omega
    have ew : IntKind.i64.wrap ((i : Int) + 1) = ((i + 1 : Nat) : Int) := by rw [i64_same (by omega) (by omega)]; omega
    have htk : a.take (i + 1) = a.take i ++ [a[i]] := List.take_succ_eq_append_getElem hlt
    have next := ih (i + 1)
    rw [htk] at next
    have hrl : (scR (a.take i) b).length = i := by simp [scR]; omega
    refine loopC_once mixed l2_diff_Gap.eq_1 ?_
    simp [hlt]
    refine LoopC.le (le_blank 12 [2] 1 (by simp)) ?_
    refine LoopC.le (le_list [(1,tKs a),(2,tKs b),(3,iv most),(9,.osl [3] (i + 1) 1 0 i),(11,.pob [0] ((H [0]).u + 1) 0),(12,.osl [2] ((H [2]).u + 1) 1 0 0),(20,tKs a),(21,iv a.length),(22,iv i),(26,tKs b),(27,iv b.length),(28,iv (0 : Nat))] (by simp [upd,updF_app])) ?_
    refine gp_l1 (a := a) hb hbl (ha _ (List.getElem_mem hlt)) (H0 := updF H [0] ⟨(H [0]).u + 1,.cells (tL a[i])⟩) (fun H' v g2 gH => ?_) b.length 0 ((H [2]).u + 1) _ (by omega) (by simp [updF_app]) (by simp [updF_app]) (fun o h1 h2 => by simp [updF_app,h1,h2])
    simp
    refine stop_le (le_freezeD (d := [2]) (fun _ h => h) 12 (ivsA (b.map fun y => (scoreT a[i] y : Int))) fun H1 e1 => ?_) ?_
    · simp
      exact frz_row (f := iv) (l := b.map fun y => (scoreT a[i] y : Int)) (by rw [e1,g2]; simp) (by simp) (fun x => by simp)
    · refine stop_le (le_list [(1,tKs a),(2,tKs b),(3,iv most),(9,.osl [3] (i + 1) 1 0 i),(12,ivsA (b.map fun y => (scoreT a[i] y : Int))),(20,tKs a),(21,iv a.length),(22,iv i)] (by simp [upd])) (stop_go ?_)
      have g3 : H' [3] = H [3] := by rw [gH _ (by simp) (by simp)]; simp [updF_app]
      have g5 : H' [5] = H [5] := by rw [gH _ (by simp) (by simp)]; simp [updF_app]
      simp [updF_app,g3,h3,hrl]
      refine ⟨by omega,?_⟩
      rw [ew]
      refine next _ (by omega) ?_ (by simp [updF_app,g5,h5])
      have e1 : List.take i (List.map ivsA (scR (List.take i a) b)) = List.map ivsA (scR (List.take i a) b) := List.take_of_length_le (by simp [scR]; omega)
      simp [updF_app,e1,scR]
      rw [List.take_succ_eq_append_getElem (by simpa using hlt)]
      simp [List.take_take]
end
def PkOk (la lb : Nat) : Nat→Nat→List Sc→Prop
  | i,j,[] => i≤la∧j≤lb
  | i,j,x :: P => i≤x.i∧j≤x.j∧x.i < la∧x.j < lb∧PkOk la lb (x.i + 1) (x.j + 1) P
theorem pkOk_any {la lb : Nat} : ∀ (P : List Sc) (i j : Nat),i≤la→j≤lb→(∀ x,x ∈ P→i≤x.i∧j≤x.j∧x.i < la∧x.j < lb)→(P.Pairwise fun p q => p.i < q.i∧p.j < q.j)→PkOk la lb i j P
  | [],i,j,h1,h2,_,_ => ⟨h1,h2⟩
  | x :: P,i,j,h1,h2,h3,h4 => by
    obtain ⟨g1,g2,g3,g4⟩ := h3 x (by simp)
    rw [List.pairwise_cons] at h4
    refine ⟨g1,g2,g3,g4,pkOk_any P _ _ (by omega) (by omega) (fun y hy => ?_) h4.2⟩
    have := h4.1 y hy
    obtain ⟨k1,k2,k3,k4⟩ := h3 y (by simp [hy])
    omega
theorem pkG_ok (a b : List T) : PkOk a.length b.length 0 0 (pkG (scR a b)) := by
  obtain ⟨h,_⟩ := pkO_ok (scR a b)
  obtain ⟨h1,h2⟩ := picks_facts h
  obtain ⟨g1,g2⟩ := srt_ok h1
  refine pkOk_any _ 0 0 (by omega) (by omega) (fun x hx => ?_) ?_
  · obtain ⟨_,_,_,_,r,k1,k2⟩ := candS_mem (h2 x (g2.subset hx))
    have l1 := (List.getElem?_eq_some_iff.1 k1).1
    have e1 := (List.getElem?_eq_some_iff.1 k1).2
    have l2 := (List.getElem?_eq_some_iff.1 k2).1
    rw [← e1] at l2
    simp [scR] at l1 l2
    omega
  · have hp : (pkG (scR a b)).Pairwise fun p q => par p q = true := by
      refine (List.Perm.pairwise_iff (fun {p q} h => ?_) g2).2 h1
      unfold par at h ⊢
      simp at h ⊢
      omega
    have hr : (pkG (scR a b)).Pairwise fun p q => p.i < q.i := g1
    refine (hp.and hr).imp fun {p q} h => ?_
    obtain ⟨h1,h2⟩ := h
    unfold par at h1
    simp at h1
    omega
section
variable {n0 : Nat} {w0 : World} {I0 : Nat→Prop} {Q : Exit→Sta→Prop}
theorem gp_l3 {one : T→T→E} {a b : List T} (hal : a.length≤1000000) (hbl : b.length≤1000000) {most : Int} (hone : ∀ x,x ∈ a→∀ y,y ∈ b→G.Spec Try.prog 36 [tX x,tX y,iv most] (eX (one x y))) {P : List Sc} (hP : P.length≤1000) {R : List OP}
    (hq : ∀ (H' : Hp) (its : List IT) (v i j : Nat),i≤a.length→j≤b.length→its.length≤3 * P.length→R = gapO one a b [] i j (its.map IT.op)→H' [5] = ⟨v,.arr 14 (its.map itA)⟩→Q (.exit 4) ⟨lk [(1,tKs a),(2,tKs b),(3,iv most),(15,.osl [5] v 14 0 its.length),(16,iv i),(17,iv j),(45,prs P),(46,iv P.length),(47,iv P.length),(48,bv false)],H'⟩) :
    ∀ (m k i j v : Nat) (its : List IT) (H : Hp),k + m = P.length→PkOk a.length b.length i j (P.drop k)→its.length≤3 * k→R = gapO one a b (P.drop k) i j (its.map IT.op)→H [5] = ⟨v,.arr 14 (its.map itA)⟩ →
    LoopC (cx Try.prog w0 I0 n0) l3_diff_Gap Q ⟨lk [(1,tKs a),(2,tKs b),(3,iv most),(15,.osl [5] v 14 0 its.length),(16,iv i),(17,iv j),(45,prs P),(46,iv P.length),(47,iv k)],H⟩ := by
  intro m
  induction m with
  | zero =>
    intro k i j v its H hm hk hl hR h5
    have : k = P.length := by omega
    subst this
    rw [List.drop_length] at hk hR
    refine loopC_once mixed l3_diff_Gap.eq_1 ?_
    simp
    exact hq H its v i j hk.1 hk.2 hl hR h5
  | succ m ih =>
    intro k i j v its H hm hk hl hR h5
    have hlt : k < P.length := by omega
    have ew : IntKind.i64.wrap ((k : Int) + 1) = ((k + 1 : Nat) : Int) := by rw [i64_same (by omega) (by omega)]; omega
    have hd : P.drop k = P[k] :: P.drop (k + 1) := (List.getElem_cons_drop hlt).symm
    rw [hd] at hk hR
    have next := ih (k + 1)
    generalize hx : P[k] = x at *
    obtain ⟨k1,k2,k3,k4,k5⟩ := hk
    rw [gapO] at hR
    have ei : IntKind.i64.wrap ((x.i : Int) + 1) = ((x.i + 1 : Nat) : Int) := by rw [i64_same (by omega) (by omega)]; omega
    have ej : IntKind.i64.wrap ((x.j : Int) + 1) = ((x.j + 1 : Nat) : Int) := by rw [i64_same (by omega) (by omega)]; omega
    have hO := hone _ (List.getElem_mem k3) _ (List.getElem_mem k4)
    have D1 := pRemove_spec ((a.take x.i).drop i)
    have D2 := pInsert_spec ((b.take x.j).drop j)
    refine loopC_once mixed l3_diff_Gap.eq_1 ?_
    have f1 : x.i≤a.length := by omega
    have f2 : x.j≤b.length := by omega
    have dl : ∀ l,(delO l).length≤1 := fun l => by unfold delO; split <;> simp
    have il : ∀ l,(insO l).length≤1 := fun l => by unfold insO; split <;> simp
    have d1 := dl ((a.take x.i).drop i)
    have d2 := il ((b.take x.j).drop j)
    simp [hlt,hx,prA,prC,updF_app,k1,k2,f1,f2,h5]
    simp only [← List.map_drop,← List.map_take]
    simp only [List.drop_take] at D1 D2 hR d1 d2
    refine sc_call D1 (by simp) ?_
    generalize delO ((a.drop i).take (x.i - i)) = D at *
    generalize hI : insO ((b.drop j).take (x.j - j)) = I at *
    simp [k1,k2,f1,f2,h5,updF_app,lens_it]
    have hgot : ∀ D : List OP,D.map oA = (D.map IT.got).map itA := fun D => by
      rw [List.map_map]
      refine List.map_congr_left fun o _ => ?_
      simp [itA,itC]
    refine ⟨by omega,?_⟩
    simp only [← List.map_drop,← List.map_take]
    refine sc_call D2 (by simp) ?_
    simp [k3,k4,updF_app,lens_it]
    refine ⟨by omega,?_⟩
    refine sc_call hO (by simp) ?_
    simp [ei,ej,ew,updF_app,lens_it]
    refine ⟨by omega,?_⟩
    have e1 : a.getD x.i T0 = a[x.i] := by simp [k3]
    have e2 : b.getD x.j T0 = b[x.j] := by simp [k4]
    rw [e1,e2] at hR
    have hop : ∀ D : List OP,(D.map IT.got).map IT.op = D := fun D => by
      rw [List.map_map]
      exact List.map_id' _
    have hrow : List.take (its.length + D.length + I.length) (List.take (its.length + D.length) (List.map itA its ++ List.map oA D) ++ List.map oA I) ++ [A.agg (A.v (Value.int IntKind.i64 3) :: A.v (Value.int IntKind.i64 0) :: A.sl true [] :: eL (one a[x.i] b[x.j]))] = (its ++ D.map IT.got ++ I.map IT.got ++ [IT.r (.desc (one a[x.i] b[x.j]))]).map itA := by
      rw [List.take_of_length_le (by simp),List.take_of_length_le (by simp),hgot D,hgot I]
      simp [itA,itC,riC]
    rw [hrow]
    have nx := next (x.i + 1) (x.j + 1) (v + 1 + 1 + 1) (its ++ D.map IT.got ++ I.map IT.got ++ [IT.r (.desc (one a[x.i] b[x.j]))]) (updF (updF H [4] ⟨(H [4]).u + 1,.cells [iv x.i,iv x.j]⟩) [5] ⟨v + 1 + 1 + 1,.arr 14 ((its ++ D.map IT.got ++ I.map IT.got ++ [IT.r (.desc (one a[x.i] b[x.j]))]).map itA)⟩) (by omega) k5 (by simp; omega) (by rw [hR]; congr 1; simp [hop,IT.op,RI.op]) (by simp [updF_app])
    have hlen : (its ++ D.map IT.got ++ I.map IT.got ++ [IT.r (.desc (one a[x.i] b[x.j]))]).length = its.length + D.length + I.length + 1 := by simp; omega
    rw [hlen] at nx
    simpa using nx
end
theorem pGap_spec {one : T→T→E} {a b : List T} (ha : ∀ t,t ∈ a→wfT t) (hb : ∀ t,t ∈ b→wfT t) (hal : a.length≤1000000) (hbl : b.length≤1000000) {most q : Int} (hone : ∀ x,x ∈ a→∀ y,y ∈ b→G.Spec Try.prog 36 [tX x,tX y,iv most] (eX (one x y))) :
    G.Spec Try.prog 90 [iv q,tKs a,tKs b,iv most] (oKs (gapE one a b)) := by
  obtain ⟨hpk,hp16⟩ := pkO_ok (scR a b)
  have hPl : (pkG (scR a b)).length≤16 := by
    have := (srt_ok (picks_facts hpk).1).2.length_eq
    unfold pkG
    omega
  have hPick := pick_spec (scR a b) (by simp [scR]; omega) (fun r hr => by
    obtain ⟨x,_,rfl⟩ := List.mem_map.1 hr
    simp; omega) hpk hp16
  refine spec_of t_diff_Gap (by simp) fun w0 I0 => ?_
  unfold c_diff_Gap
  simp
  refine LoopC.le (le_blank 9 [3] 1 (by simp)) ?_
  refine LoopC.le (le_list [(1,tKs a),(2,tKs b),(3,iv most),(9,.osl [3] (0 + 1) 1 0 0),(20,tKs a),(21,iv a.length),(22,iv (0 : Nat))] (by simp [upd])) ?_
  refine gp_l2 ha hb hal hbl (fun H' h3 h5 => ?_) a.length 0 _ (by omega) (by simp [scR]) (by simp [updF_app])
  simp
  refine stop_le (le_freezeD (d := [3]) (fun _ h => h) 9 (ivss (scR a b)) fun H1 e1 => ?_) ?_
  · simp
    exact frz_row (f := ivsA) (l := scR a b) (by rw [e1,h3]; simp) (by simp [scR]) (fun x => by simp)
  · refine stop_le (le_list [(1,tKs a),(2,tKs b),(3,iv most),(9,ivss (scR a b)),(15,.sl true []),(16,iv 0),(17,iv 0)] (by simp [upd])) (stop_go ?_)
    simp
    refine sc_call hPick (by simp) ?_
    simp
    refine LoopC.le (le_blank 15 [5] 14 (by simp)) ?_
    refine LoopC.le (le_list [(1,tKs a),(2,tKs b),(3,iv most),(15,.osl [5] 1 14 0 ([] : List IT).length),(16,iv (0 : Nat)),(17,iv (0 : Nat)),(45,prs (pkG (scR a b))),(46,iv (pkG (scR a b)).length),(47,iv (0 : Nat))] (by simp [upd,updF_app,h5,pkG])) ?_
    refine gp_l3 (one := one) (a := a) (b := b) hal hbl hone (P := pkG (scR a b)) (by omega) (R := gapE one a b) (fun H2 its v i j hi hj hl hR k5 => ?_) _ 0 0 0 1 [] _ (Nat.zero_add _) (pkG_ok a b) (by simp) rfl (by simp [updF_app,h5])
    have D1 := pRemove_spec ((a.drop i).take (a.length - i))
    have D2 := pInsert_spec ((b.drop j).take (b.length - j))
    have dl : ∀ l,(delO l).length≤1 := fun l => by unfold delO; split <;> simp
    have il : ∀ l,(insO l).length≤1 := fun l => by unfold insO; split <;> simp
    have d1 := dl ((a.drop i).take (a.length - i))
    have d2 := il ((b.drop j).take (b.length - j))
    have ea : (a.drop i).take (a.length - i) = a.drop i := List.take_of_length_le (by simp)
    have eb : (b.drop j).take (b.length - j) = b.drop j := List.take_of_length_le (by simp)
    have hR2 : gapE one a b = its.map IT.op ++ delO ((a.drop i).take (a.length - i)) ++ insO ((b.drop j).take (b.length - j)) := by rw [ea,eb,hR,gapO]
    clear ea eb
    rw [hR2]
    have hgot : ∀ D : List OP,D.map oA = (D.map IT.got).map itA := fun D => by
      rw [List.map_map]
      refine List.map_congr_left fun o _ => ?_
      simp [itA,itC]
    have hop : ∀ D : List OP,(D.map IT.got).map IT.op = D := fun D => by
      rw [List.map_map]
      exact List.map_id' _
    clear hR2
    generalize delO ((a.drop i).take (a.length - i)) = D at *
    generalize insO ((b.drop j).take (b.length - j)) = I at *
    simp [hi,hj]
    simp only [← List.map_drop,← List.map_take]
    refine sc_call D1 (by simp) ?_
    simp [hj,k5,updF_app,lens_it]
    refine ⟨by omega,?_⟩
    simp only [← List.map_drop,← List.map_take]
    refine sc_call D2 (by simp) ?_
    simp [updF_app,lens_it]
    refine ⟨by omega,?_⟩
    have hf : ∀ H : Hp,H [5] = ⟨v + 1 + 1,.arr 14 ((its ++ D.map IT.got ++ I.map IT.got).map itA)⟩→Frz H (.osl [5] (v + 1 + 1) 14 0 (its.length + D.length + I.length)) (oKs (its.map IT.op ++ (D ++ I))) := fun H hH => by
      have := frz_its hH (n := its.length + D.length + I.length) (by simp; omega)
      simpa [hop] using this
    refine hf _ ?_
    rw [hgot D,hgot I,List.take_of_length_le (by simp)]
    simp [updF_app]
end Go.Proofs.Ytmeldaflhkiopaa

namespace Go.Proofs.Ytmeldaflhkiopaa
set_option linter.unusedVariables false
set_option linter.unusedSimpArgs false
open Go Go.G Go.Proofs Go.PL
theorem opsG_keep {gap : List T→List T→List OP} {s : Sp} (h : s.k = 0) (ss : List Sp) (a b : List T) (out : List OP) : opsG gap (s :: ss) a b out = opsG gap ss (a.drop s.n) (b.drop s.n) (out ++ [.mk 0 s.n [] E0]) := by
  cases ss with
  | nil => simp [opsG,h]
  | cons s2 ss => simp [opsG,h]
theorem opsG_ins {gap : List T→List T→List OP} {s : Sp} (h : s.k = 2) (ss : List Sp) (a b : List T) (out : List OP) : opsG gap (s :: ss) a b out = opsG gap ss a (b.drop s.n) (out ++ insO (b.take s.n)) := by
  cases ss with
  | nil => simp [opsG,h]
  | cons s2 ss => simp [opsG,h]
theorem opsG_gap {gap : List T→List T→List OP} {s s2 : Sp} (h : s.k = 1) (h2 : s2.k = 2) (ss : List Sp) (a b : List T) (out : List OP) : opsG gap (s :: s2 :: ss) a b out = opsG gap ss (a.drop s.n) (b.drop s2.n) (out ++ gap (a.take s.n) (b.take s2.n)) := by
  simp [opsG,h,h2]
theorem opsG_del {gap : List T→List T→List OP} {s : Sp} (h : s.k = 1) {ss : List Sp} (h2 : ∀ s2 r,ss = s2 :: r→s2.k ≠ 2) (a b : List T) (out : List OP) : opsG gap (s :: ss) a b out = opsG gap ss (a.drop s.n) b (out ++ delO (a.take s.n)) := by
  cases ss with
  | nil => simp [opsG,h]
  | cons s2 ss => simp [opsG,h,h2 s2 ss rfl]
theorem gapO_len (one : T→T→E) (a b : List T) : ∀ (P : List Sc) (i j : Nat) (out : List OP),(gapO one a b P i j out).length≤out.length + 3 * P.length + 2
  | [],i,j,out => by
    have d1 : (delO (a.drop i)).length≤1 := by unfold delO; split <;> simp
    have d2 : (insO (b.drop j)).length≤1 := by unfold insO; split <;> simp
    simp [gapO]
    omega
  | x :: P,i,j,out => by
    have d1 : (delO ((a.take x.i).drop i)).length≤1 := by unfold delO; split <;> simp
    have d2 : (insO ((b.take x.j).drop j)).length≤1 := by unfold insO; split <;> simp
    have := gapO_len one a b P (x.i + 1) (x.j + 1) (out ++ delO ((a.take x.i).drop i) ++ insO ((b.take x.j).drop j) ++ [.mk 3 0 [] (one (a.getD x.i T0) (b.getD x.j T0))])
    rw [gapO]
    simp only [List.length_append,List.length_singleton] at this
    simp only [List.length_cons]
    omega
theorem gapE_len (one : T→T→E) (a b : List T) : (gapE one a b).length≤50 := by
  obtain ⟨hpk,hp16⟩ := pkO_ok (scR a b)
  have hPl : (pkG (scR a b)).length≤16 := by
    have := (srt_ok (picks_facts hpk).1).2.length_eq
    unfold pkG
    omega
  have := gapO_len one a b (pkG (scR a b)) 0 0 []
  simp at this
  unfold gapE
  omega
theorem hgot26 (D : List OP) : D.map oA = (D.map IT.got).map itA := by
  rw [List.map_map]
  refine List.map_congr_left fun o _ => ?_
  simp [itA,itC]
theorem hop26 (D : List OP) : (D.map IT.got).map IT.op = D := by
  rw [List.map_map]
  exact List.map_id' _
section
variable {n0 : Nat} {w0 : World} {I0 : Nat→Prop} {Q : Exit→Sta→Prop}
theorem dops_l1 {one : T→T→E} {a b : T} (ha : ∀ t,t ∈ a.kids→wfT t) (hb : ∀ t,t ∈ b.kids→wfT t) (hal : a.kids.length≤1000000) (hbl : b.kids.length≤1000000) {most : Int} (hone : ∀ x,x ∈ a.kids→∀ y,y ∈ b.kids→G.Spec Try.prog 36 [tX x,tX y,iv most] (eX (one x y))) {S : List Sp} (hS : S.length≤10000000) (hS2 : ∀ s,s ∈ S→s.k≤2) {R : List OP}
    (hq : ∀ (H' : Hp) (its : List IT) (v : Nat) (st : List (Nat × A)),its.map IT.op = R→H' [2] = ⟨v,.arr 14 (its.map itA)⟩→Q (.exit 0) ⟨lk ([(0,sps S),(3,iv most),(5,.pob [0] 1 0),(9,.osl [2] v 14 0 its.length)] ++ st),H'⟩) :
    ∀ (m k v : Nat) (x y : List T) (its : List IT) (H : Hp),k + m = S.length→(∀ t,t ∈ x→t ∈ a.kids)→(∀ t,t ∈ y→t ∈ b.kids)→x.length≤1000000→y.length≤1000000→dA (unitsS (S.drop k))≤x.length→dB (unitsS (S.drop k))≤y.length→its.length≤50 * k→R = opsG (gapE one) (S.drop k) x y (its.map IT.op)→H [0] = ⟨1,.cells (tL a)⟩→H [2] = ⟨v,.arr 14 (its.map itA)⟩ →
    LoopC (cx Try.prog w0 I0 n0) l1_diff_ops Q ⟨lk [(0,sps S),(3,iv most),(5,.pob [0] 1 0),(9,.osl [2] v 14 0 its.length),(10,tKs x),(11,tKs y),(12,iv k)],H⟩ := by
  have tk : ∀ (l : List T) (n : Nat),(l.drop n).take (l.length - n) = l.drop n := fun l n => List.take_of_length_le (by simp)
  intro m
  induction m using Nat.strongRecOn with
  | _ m ih =>
  intro k v x y its H hm hx hy hxl hyl hA hB hl hR h0 h2
  cases m with
  | zero =>
    have : k = S.length := by omega
    subst this
    rw [List.drop_length] at hR
    refine loopC_once mixed l1_diff_ops.eq_1 ?_
    simp
    exact hq H its v [(10,tKs x),(11,tKs y),(12,iv S.length),(22,bv false)] hR.symm h2
  | succ m =>
    have hlt : k < S.length := by omega
    have ew : IntKind.i64.wrap ((k : Int) + 1) = ((k + 1 : Nat) : Int) := by rw [i64_same (by omega) (by omega)]; omega
    have hd : S.drop k = S[k] :: S.drop (k + 1) := (List.getElem_cons_drop hlt).symm
    have hk := hS2 _ (List.getElem_mem hlt)
    rw [hd] at hR hA hB
    rw [units_cons,dA_app,dA_rep] at hA
    rw [units_cons,dB_app,dB_rep] at hB
    have hg : (S.map spA)[k]? = some (spA S[k]) := by simp [hlt]
    generalize hs : S[k] = s at *
    have hk3 : s.k = 0∨s.k = 1∨s.k = 2 := by omega
    rcases hk3 with h | h | h
    · rw [opsG_keep h] at hR
      rw [if_neg (by omega)] at hA hB
      have f1 : s.n≤x.length := by omega
      have f2 : s.n≤y.length := by omega
      refine loopC_once mixed l1_diff_ops.eq_1 ?_
      simp [hlt,hs,spA,spC,h,f1,f2,h2,lens_it,ew]
      refine ⟨by omega,?_⟩
      simp only [← List.map_drop,← List.map_take,tk]
      have nx := ih m (by omega) (k + 1) (v + 1) (x.drop s.n) (y.drop s.n) (its ++ [IT.r (RI.keep (s.n : Int))]) (updF H [2] ⟨v + 1,.arr 14 ((its ++ [IT.r (RI.keep (s.n : Int))]).map itA)⟩) (by omega) (fun t ht => hx t (List.mem_of_mem_drop ht)) (fun t ht => hy t (List.mem_of_mem_drop ht)) (by simp; omega) (by simp; omega) (by simp; omega) (by simp; omega) (by simp; omega) (by rw [hR]; simp [IT.op,RI.op]) (by simp [updF_app,h0]) (by simp [updF_app])
      rw [List.take_of_length_le (by simp)]
      rw [Int.natCast_add] at nx
      simp only [List.length_append,List.length_map,List.length_singleton,List.length_cons,List.length_nil,List.map_append,List.map_cons,List.map_nil] at nx ⊢
      exact nx
    · rw [h] at hA hB
      simp at hA hB
      have f1 : s.n≤x.length := by omega
      by_cases hg2 : ∃ h3 : k + 1 < S.length,S[k + 1].k = 2
      · obtain ⟨h3,h4⟩ := hg2
        have hd2 : S.drop (k + 1) = S[k + 1] :: S.drop (k + 1 + 1) := (List.getElem_cons_drop h3).symm
        rw [hd2] at hR hA hB
        rw [units_cons,dA_app,dA_rep] at hA
        rw [units_cons,dB_app,dB_rep] at hB
        generalize hs2 : S[k + 1] = s2 at *
        rw [opsG_gap h h4] at hR
        rw [h4] at hA hB
        simp at hA hB
        have f2 : s2.n≤y.length := by omega
        have ew2 : IntKind.i64.wrap ((k : Int) + 1 + 1) = ((k + 1 + 1 : Nat) : Int) := by rw [i64_same (by omega) (by omega)]; omega
        have G := pGap_spec (one := one) (a := x.take s.n) (b := y.take s2.n) (q := a.kind) (fun t ht => ha t (hx t (List.mem_of_mem_take ht))) (fun t ht => hb t (hy t (List.mem_of_mem_take ht))) (by simp; omega) (by simp; omega) (most := most) (fun p hp q hq => hone p (hx p (List.mem_of_mem_take hp)) q (hy q (List.mem_of_mem_take hq)))
        have gl := gapE_len one (x.take s.n) (y.take s2.n)
        have i1 : (k : Int) + 1 < S.length := by omega
        have i2 : (0 : Int)≤(k : Int) + 1 := by omega
        have i3 : ((k : Int) + 1).toNat = k + 1 := by omega
        have i4 : IntKind.i64.wrap ((k : Int) + 1) = (k : Int) + 1 := by rw [ew]; omega
        refine loopC_once mixed l1_diff_ops.eq_1 ?_
        generalize gapE one (x.take s.n) (y.take s2.n) = I at *
        simp [hlt,hs,spA,spC,h,f1,f2,h2,lens_it,i4,h3,hs2,h4,h0,i1,i2,i3]
        simp only [← List.map_drop,← List.map_take,tk]
        refine sc_call G (by simp) ?_
        simp [f1,f2,h2,lens_it,i4,h0,ew2]
        refine ⟨by omega,?_⟩
        simp only [← List.map_drop,← List.map_take,tk]
        cases m with
        | zero => omega
        | succ m =>
          have nx := ih m (by omega) (k + 1 + 1) (v + 1) (x.drop s.n) (y.drop s2.n) (its ++ I.map IT.got) (updF H [2] ⟨v + 1,.arr 14 ((its ++ I.map IT.got).map itA)⟩) (by omega) (fun t ht => hx t (List.mem_of_mem_drop ht)) (fun t ht => hy t (List.mem_of_mem_drop ht)) (by simp; omega) (by simp; omega) (by simp; omega) (by simp; omega) (by simp; omega) (by rw [hR,List.map_append,hop26]) (by simp [updF_app,h0]) (by simp [updF_app])
          rw [List.take_of_length_le (by simp),hgot26,← List.map_append]
          rw [Int.natCast_add,Int.natCast_add] at nx
          simp only [List.length_append,List.length_map,List.length_singleton,List.length_cons,List.length_nil,List.map_append,List.map_cons,List.map_nil] at nx ⊢
          exact nx
      · have hnd : ∀ s2 r,S.drop (k + 1) = s2 :: r→s2.k ≠ 2 := fun s2 r e h4 => by
          have h3 : k + 1 < S.length := by
            have := congrArg List.length e
            simp at this
            omega
          have hd2 : S.drop (k + 1) = S[k + 1] :: S.drop (k + 1 + 1) := (List.getElem_cons_drop h3).symm
          rw [hd2] at e
          injection e with e1 _
          exact hg2 ⟨h3,by rw [e1]; exact h4⟩
        rw [opsG_del h hnd] at hR
        have D := pRemove_spec (x.take s.n)
        have dl : (delO (x.take s.n)).length≤1 := by unfold delO; split <;> simp
        generalize delO (x.take s.n) = I at *
        refine loopC_once mixed l1_diff_ops.eq_1 ?_
        by_cases h3 : k + 1 < S.length
        · have h4 : ¬ (S[k + 1].k : Int) = 2 := fun e => hg2 ⟨h3,by omega⟩
          have h4' : ¬ S[k + 1].k = 2 := fun e => hg2 ⟨h3,e⟩
          have i1 : (k : Int) + 1 < S.length := by omega
          have i2 : (0 : Int)≤(k : Int) + 1 := by omega
          have i3 : ((k : Int) + 1).toNat = k + 1 := by omega
          have i4 : IntKind.i64.wrap ((k : Int) + 1) = (k : Int) + 1 := by rw [ew]; omega
          simp [hlt,hs,spA,spC,h,f1,h2,lens_it,i4,h3,h4,h4',i1,i2,i3]
          simp only [← List.map_drop,← List.map_take,tk]
          refine sc_call D (by simp) ?_
          simp [f1,h2,lens_it,i4]
          refine ⟨by omega,?_⟩
          simp only [← List.map_drop,← List.map_take,tk]
          have nx := ih m (by omega) (k + 1) (v + 1) (x.drop s.n) y (its ++ I.map IT.got) (updF H [2] ⟨v + 1,.arr 14 ((its ++ I.map IT.got).map itA)⟩) (by omega) (fun t ht => hx t (List.mem_of_mem_drop ht)) hy (by simp; omega) (by omega) (by simp; omega) (by omega) (by simp; omega) (by rw [hR,List.map_append,hop26]) (by simp [updF_app,h0]) (by simp [updF_app])
          rw [List.take_of_length_le (by simp),hgot26,← List.map_append]
          rw [Int.natCast_add] at nx
          simp only [List.length_append,List.length_map,List.length_singleton,List.length_cons,List.length_nil,List.map_append,List.map_cons,List.map_nil] at nx ⊢
          exact nx
        · have i1 : ¬ (k : Int) + 1 < S.length := by omega
          have i4 : IntKind.i64.wrap ((k : Int) + 1) = (k : Int) + 1 := by rw [ew]; omega
          simp [hlt,hs,spA,spC,h,f1,h2,lens_it,i4,i1]
          simp only [← List.map_drop,← List.map_take,tk]
          refine sc_call D (by simp) ?_
          simp [f1,h2,lens_it,i4]
          refine ⟨by omega,?_⟩
          simp only [← List.map_drop,← List.map_take,tk]
          have nx := ih m (by omega) (k + 1) (v + 1) (x.drop s.n) y (its ++ I.map IT.got) (updF H [2] ⟨v + 1,.arr 14 ((its ++ I.map IT.got).map itA)⟩) (by omega) (fun t ht => hx t (List.mem_of_mem_drop ht)) hy (by simp; omega) (by omega) (by simp; omega) (by omega) (by simp; omega) (by rw [hR,List.map_append,hop26]) (by simp [updF_app,h0]) (by simp [updF_app])
          rw [List.take_of_length_le (by simp),hgot26,← List.map_append]
          rw [Int.natCast_add] at nx
          simp only [List.length_append,List.length_map,List.length_singleton,List.length_cons,List.length_nil,List.map_append,List.map_cons,List.map_nil] at nx ⊢
          exact nx
    · rw [opsG_ins h] at hR
      rw [h] at hA hB
      simp at hA hB
      have f2 : s.n≤y.length := by omega
      have D := pInsert_spec (y.take s.n)
      have dl : (insO (y.take s.n)).length≤1 := by unfold insO; split <;> simp
      generalize insO (y.take s.n) = I at *
      refine loopC_once mixed l1_diff_ops.eq_1 ?_
      simp [hlt,hs,spA,spC,h,f2,h2,lens_it,ew]
      simp only [← List.map_drop,← List.map_take,tk]
      refine sc_call D (by simp) ?_
      simp [f2,h2,lens_it,ew]
      refine ⟨by omega,?_⟩
      simp only [← List.map_drop,← List.map_take,tk]
      have nx := ih m (by omega) (k + 1) (v + 1) x (y.drop s.n) (its ++ I.map IT.got) (updF H [2] ⟨v + 1,.arr 14 ((its ++ I.map IT.got).map itA)⟩) (by omega) hx (fun t ht => hy t (List.mem_of_mem_drop ht)) (by omega) (by simp; omega) (by omega) (by simp; omega) (by simp; omega) (by rw [hR,List.map_append,hop26]) (by simp [updF_app,h0]) (by simp [updF_app])
      rw [List.take_of_length_le (by simp),hgot26,← List.map_append]
      rw [Int.natCast_add] at nx
      simp only [List.length_append,List.length_map,List.length_singleton,List.length_cons,List.length_nil,List.map_append,List.map_cons,List.map_nil] at nx ⊢
      exact nx
end
theorem dOps26_spec {one : T→T→E} {a b : T} (ha : ∀ t,t ∈ a.kids→wfT t) (hb : ∀ t,t ∈ b.kids→wfT t) (hal : a.kids.length≤1000000) (hbl : b.kids.length≤1000000) {most : Int} (hone : ∀ x,x ∈ a.kids→∀ y,y ∈ b.kids→G.Spec Try.prog 36 [tX x,tX y,iv most] (eX (one x y))) {S : List Sp} (hS : S.length≤10000000) (hS2 : ∀ s,s ∈ S→s.k≤2) (hA : dA (unitsS S)≤a.kids.length) (hB : dB (unitsS S)≤b.kids.length) :
    G.Spec Try.prog 77 [sps S,tX a,tX b,iv most] (oKs (opsG (gapE one) S a.kids b.kids [])) := by
  refine spec_of t_diff_ops (by simp) fun w0 I0 => ?_
  unfold c_diff_ops
  simp
  refine LoopC.le (le_blank 9 [2] 14 (by simp)) ?_
  refine LoopC.le (le_list [(0,sps S),(3,iv most),(5,.pob [0] 1 0),(9,.osl [2] 1 14 0 ([] : List IT).length),(10,tKs a.kids),(11,tKs b.kids),(12,iv (0 : Nat))] (by simp [upd])) ?_
  refine dops_l1 (a := a) (b := b) ha hb hal hbl hone hS hS2 (R := opsG (gapE one) S a.kids b.kids []) (fun H' its v st hR k2 => ?_) S.length 0 1 a.kids b.kids [] _ (Nat.zero_add _) (fun t h => h) (fun t h => h) hal hbl (by simpa using hA) (by simpa using hB) (by simp) (by simp) (by simp [updF_app]) (by simp [updF_app])
  simp
  rw [← hR]
  exact frz_its k2 rfl
end Go.Proofs.Ytmeldaflhkiopaa

namespace Go.Proofs.Ytmeldaflhkiopaa
set_option linter.unusedVariables false
set_option linter.unusedSimpArgs false
open Go Go.G Go.Proofs Go.PL
theorem zsN_nv (l : List Nat) : (zsN l).map iv = l.map nv := by
  simp [zsN]
theorem nrm_k {us : List Nat} (h : ∀ x,x ∈ us→x≤2) : ∀ s,s ∈ nrmS us→s.k≤2∧1≤s.n := goU_ok us 0 0 0 h
theorem steps_len : ∀ (l : List Sp),(∀ s,s ∈ l→s.k≤2∧1≤s.n)→l.length≤dA (unitsS l) + dB (unitsS l)
  | [],_ => by simp
  | s :: l,h => by
    have ih := steps_len l fun x hx => h x (by simp [hx])
    have hs := h s (by simp)
    rw [units_cons,dA_app,dB_app,dA_rep,dB_rep,List.length_cons]
    split <;> split <;> omega
theorem pkG_nil (a b : List T) (h : a = []∨b = []) : pkG (scR a b) = [] := by
  have hP := pkG_ok a b
  cases hp : pkG (scR a b) with
  | nil => rfl
  | cons x P =>
    rw [hp] at hP
    have h1 := hP.2.2.1
    have h2 := hP.2.2.2.1
    rcases h with rfl | rfl <;> simp at h1 h2
theorem gapE_nil (one : T→T→E) (b : List T) : gapE one [] b = insO b := by
  unfold gapE
  rw [pkG_nil _ _ (.inl rfl),gapO]
  simp [delO]
theorem gapE_nil' (one : T→T→E) (a : List T) : gapE one a [] = delO a := by
  unfold gapE
  rw [pkG_nil _ _ (.inr rfl),gapO]
  simp [insO]
theorem opsG_all (one : T→T→E) (a b : List T) : opsG (gapE one) (nrmS (unitsS [⟨1,a.length⟩,⟨2,b.length⟩])) a b [] = gapE one a b := by
  have e : nrmS (unitsS [⟨1,a.length⟩,⟨2,b.length⟩]) = fl 1 a.length ++ fl 2 b.length := by
    unfold nrmS
    rw [units_cons,units_cons,units_nil]
    by_cases h1 : a.length = 0
    · by_cases h2 : b.length = 0
      · simp [h1,h2,goU]
      · rw [h1]
        simp only [List.replicate_zero,List.nil_append]
        rw [goU_ins b.length [] 0 0 0 (by omega)]
        simp [goU]
    · rw [goU_del a.length _ 0 0 0 (by omega)]
      by_cases h2 : b.length = 0
      · simp [h2,goU]
      · rw [goU_ins b.length [] 0 _ 0 (by omega)]
        simp [goU]
  rw [e]
  by_cases h1 : a.length = 0
  · have h1' : a = [] := by simpa using h1
    subst h1'
    by_cases h2 : b.length = 0
    · have h2' : b = [] := by simpa using h2
      subst h2'
      simp [opsG,gapE_nil,insO]
    · rw [fl_pos (k := 2) (n := b.length) (by omega)]
      simp [opsG,gapE_nil]
  · rw [fl_pos (k := 1) (n := a.length) (by omega)]
    by_cases h2 : b.length = 0
    · have h2' : b = [] := by simpa using h2
      subst h2'
      simp [opsG,gapE_nil']
    · rw [fl_pos (k := 2) (n := b.length) (by omega)]
      simp [opsG]
theorem pList26_spec {one : T→T→E} {a b : T} (ha : wfT a) (hb : wfT b) (hna : ∀ t,t ∈ a.kids→norm t = t) (hnb : ∀ t,t ∈ b.kids→norm t = t) (hal : a.kids.length≤30000) (hbl : b.kids.length≤30000) {most : Int} (hm : i64R most) (hone : ∀ x,x ∈ a.kids→∀ y,y ∈ b.kids→G.Spec Try.prog 36 [tX x,tX y,iv most] (eX (one x y))) :
    G.Spec Try.prog 54 [tX a,tX b,iv most] (eX (listE one most a b)) := by
  have hka := (wfT_iff.1 ha).ks
  have hkb := (wfT_iff.1 hb).ks
  have C1 := clsOf_spec (ks := []) (ts := a.kids) (by simp) (by simp) hka hna (by simp; omega) 1
  have hl1 := clsL_len a.kids []
  simp at hl1
  have C2 := clsOf_spec (ks := (clsL [] a.kids).1) (ts := b.kids) (clsL_wf (l := a.kids) (by simp) hka) (clsL_nrm (l := a.kids) (by simp)) hkb hnb (by omega) (ofVs 1 [] a.kids)
  have e1 : (caL a).length = a.kids.length := by simp [caL,zsN,clsL_length]
  have e2 : (cbL a b).length = b.kids.length := by simp [cbL,zsN,clsL_length]
  have hD := diffL_spec (a := caL a) (b := cbL a b) (by omega) (by omega) hm
  have z1 : (caL a).map iv = (clsL [] a.kids).2.map nv := zsN_nv _
  have z2 : (cbL a b).map iv = (clsL (clsL [] a.kids).1 b.kids).2.map nv := zsN_nv _
  simp only [ivs,z1,z2] at hD
  have key : ∀ (w0 : World) (I0 : Nat→Prop) (S : List Sp) (H : Hp),S.length≤10000000→(∀ s,s ∈ S→s.k≤2)→dA (unitsS S)≤a.kids.length→dB (unitsS S)≤b.kids.length→H [0] = ⟨1,.cells (tL a)⟩→H [1] = ⟨1,.cells (tL b)⟩→H [2] = ⟨1,.cells rawE⟩ →
      WPC (cx Try.prog w0 I0 47) k1_diff_list (RetC Try.prog [ResultVar.cell 6 47] (eX (.mk 3 T0 T0 [] [] a.kind (opsG (gapE one) S a.kids b.kids [])))) ⟨lk [(2,iv most),(3,.pob [0] 1 0),(4,.pob [1] 1 0),(6,.pob [2] 1 0),(9,sps S)],H⟩ := by
    intro w0 I0 S H s1 s2 s3 s4 h0 h1 h2
    have O := dOps26_spec hka hkb (by omega) (by omega) hone s1 s2 s3 s4
    rw [k1_diff_list.eq_1]
    simp [h0,h1]
    refine sc_call O (by simp) ?_
    simp [h0,h2,updF_app,rawE]
    exact frz_agg ⟨frz_bare rfl,frz_bare rfl,frz_sl,frz_sl,frz_bare rfl,frz_sl,frz_sl,frz_sl,frz_sl,frz_bare rfl,frz_sl,trivial⟩
  have wd := wayU_d (caL a) (cbL a b)
  have wi := wayU_in (caL a) (cbL a b)
  have wn := nrmS_d _ wi
  refine spec_of t_diff_list (by simp) fun w0 I0 => ?_
  unfold c_diff_list
  simp
  refine stop_le (le_blankC (d := [3]) (u := 1) (cs := [.sl true []]) 0 [3,0] 3 (by simp [updF_app]) rfl (by simp)) (stop_go ?_)
  simp
  refine sc_fam 3 C1 (fun p => ?_) (by simp) (by simp) ?_
  · by_cases h1 : p = []
    · subst h1; simp [updF_app]
    · by_cases h2 : p = [0]
      · subst h2; simp [updF_app]
      · simp [h1,h2,Ne.symm h1,Ne.symm h2,updF_app]
  · simp
    refine sc_fam 3 C2 (fun p => by simp) (by simp) (by simp) ?_
    simp
    refine sc_call hD (by simp) ?_
    by_cases hd : (distL (caL a) (cbL a b) : Int)≤most
    · have hL : listE one most a b = .mk 3 T0 T0 [] [] a.kind (opsG (gapE one) (nrmS (wayU (caL a) (cbL a b))) a.kids b.kids []) := by unfold listE; rw [if_pos hd]
      rw [hL]
      simp [hd]
      refine key _ _ _ _ ?_ (fun s hs => (nrm_k wi s hs).1) (by omega) (by omega) (by simp) (by simp) (by simp [rawE])
      have := steps_len _ (nrm_k wi)
      omega
    · have hL : listE one most a b = .mk 3 T0 T0 [] [] a.kind (opsG (gapE one) (nrmS (unitsS [⟨1,a.kids.length⟩,⟨2,b.kids.length⟩])) a.kids b.kids []) := by unfold listE; rw [if_neg hd,opsG_all]
      have N := pNrm_spec (all := [⟨1,a.kids.length⟩,⟨2,b.kids.length⟩]) (fun s hs => by
        simp at hs
        rcases hs with rfl | rfl
        · exact ⟨by simp,by simp; omega⟩
        · exact ⟨by simp,by simp; omega⟩) (by simp)
      have ui : ∀ x,x ∈ unitsS [⟨1,a.kids.length⟩,⟨2,b.kids.length⟩]→x≤2 := fun x hx => by
        rw [units_cons,units_cons,units_nil,List.append_nil] at hx
        rcases List.mem_append.1 hx with h | h <;> (have h' := List.eq_of_mem_replicate h; simp at h'; omega)
      have ud := nrmS_d _ ui
      have ua : dA (unitsS [⟨1,a.kids.length⟩,⟨2,b.kids.length⟩]) = a.kids.length := by
        rw [units_cons,units_cons,units_nil,dA_app,dA_app,dA_rep,dA_rep]; simp [dA]
      have ub : dB (unitsS [⟨1,a.kids.length⟩,⟨2,b.kids.length⟩]) = b.kids.length := by
        rw [units_cons,units_cons,units_nil,dB_app,dB_app,dB_rep,dB_rep]; simp [dB]
      have ul := steps_len _ (nrm_k ui)
      have N2 : G.Spec Try.prog 76 [.sl true [.agg [iv 1,iv a.kids.length],.agg [iv 2,iv b.kids.length]]] (sps (nrmS (unitsS [⟨1,a.kids.length⟩,⟨2,b.kids.length⟩]))) := N.soft (by simp [A.softL,A.soft,spA,spC])
      clear N
      rw [hL]
      clear hL
      generalize unitsS [⟨1,a.kids.length⟩,⟨2,b.kids.length⟩] = us at *
      simp [hd]
      refine sc_call N2 (by simp) ?_
      simp
      refine key _ _ _ _ (by omega) (fun s hs => (nrm_k ui s hs).1) (by omega) (by omega) (by simp) (by simp) (by simp [rawE])
end Go.Proofs.Ytmeldaflhkiopaa

namespace Go.Proofs.Ytmeldaflhkiopaa
set_option linter.unusedVariables false
set_option linter.unusedSimpArgs false
open Go Go.G Go.Proofs Go.PL
theorem frz_nv {H : Hp} {o : Nm} {u : Nat} {l : List Nat} {n : Nat} (h : vr (H o) u = some (1,l.map nv)) (hn : n = l.length) : Frz H (.osl o u 1 0 n) (.sl false (l.map nv)) := frz_row (f := nv) h hn fun x => by simp
section
variable {n0 : Nat} {w0 : World} {I0 : Nat→Prop} {Q : Exit→Sta→Prop}
end
end Go.Proofs.Ytmeldaflhkiopaa

namespace Go.Proofs.Ytmeldaflhkiopaa
set_option linter.unusedVariables false
set_option linter.unusedSimpArgs false
open Go Go.G Go.Proofs Go.PL
theorem clsK_prefix (ks : List T) (n : T) : ks <+: clsK ks n := by
  unfold clsK
  split
  · exact List.prefix_rfl
  · exact List.prefix_append _ _
theorem clsL_prefix : ∀ (l ks : List T),ks <+: (clsL ks l).1
  | [],ks => List.prefix_rfl
  | t :: l,ks => (clsK_prefix ks (norm t)).trans (clsL_prefix l _)
theorem clsL_nodup : ∀ {l ks : List T},ks.Nodup→(clsL ks l).1.Nodup
  | [],ks,h => h
  | t :: l,ks,h => clsL_nodup (l := l) (clsK_nodup h)
theorem clsK_at (ks : List T) (n : T) : (clsK ks n)[clsI ks n]? = some n := by
  unfold clsK
  have hle := clsI_le ks n
  split
  · rename_i h
    rw [List.getElem?_eq_getElem h]
    congr 1
    exact sameB_iff.1 (List.findIdx_getElem (p := fun k => sameB k n) (w := h))
  · rename_i h
    have : clsI ks n = ks.length := by omega
    rw [this]
    simp
theorem clsI_stays {ks ks' : List T} {n : T} (h : clsK ks n <+: ks') (hd : ks'.Nodup) : clsI ks' n = clsI ks n := by
  have h1 := clsK_at ks n
  obtain ⟨hl,e⟩ := List.getElem?_eq_some_iff.1 h1
  have hl2 : clsI ks n < ks'.length := Nat.lt_of_lt_of_le hl h.length_le
  refine clsI_at hl2 ?_ hd
  obtain ⟨m,rfl⟩ := h
  rw [List.getElem_append_left hl]
  exact e
theorem clsK_stays {ks ks' : List T} {n : T} (h : clsK ks n <+: ks') (hd : ks'.Nodup) : clsK ks' n = ks' := by
  have h1 := clsI_stays h hd
  have h2 := clsK_at ks n
  obtain ⟨hl,e⟩ := List.getElem?_eq_some_iff.1 h2
  have hl2 : clsI ks n < ks'.length := Nat.lt_of_lt_of_le hl h.length_le
  unfold clsK
  rw [if_pos (by omega)]
theorem clsL_stays : ∀ {l ks ks' : List T},(clsL ks l).1 <+: ks'→ks'.Nodup→clsL ks' l = (ks',(clsL ks l).2)
  | [],ks,ks',_,_ => rfl
  | t :: l,ks,ks',h,hd => by
    have h1 : clsK ks (norm t) <+: ks' := (clsL_prefix l _).trans h
    simp only [clsL]
    rw [clsI_stays h1 hd,clsK_stays h1 hd,clsL_stays (l := l) (ks := clsK ks (norm t)) h hd]
section
variable {n0 : Nat} {w0 : World} {I0 : Nat→Prop} {Q : Exit→Sta→Prop}
end
section
variable {n0 : Nat} {w0 : World} {I0 : Nat→Prop}
end
end Go.Proofs.Ytmeldaflhkiopaa

namespace Go.Proofs.Ytmeldaflhkiopaa
set_option linter.unusedVariables false
set_option linter.unusedSimpArgs false
open Go Go.G Go.Proofs Go.PL
theorem wrdL_succ (a b : T) (i : Nat) : wrdL a b (i + 1) = wrdL a b i ++ (if unlZ (a.words.getD i 0) (b.words.getD i 0) = 0 then [] else [wdE i (a.words.getD i 0) (b.words.getD i 0)]) := by
  unfold wrdL
  rw [List.range_succ,List.filterMap_append]
  congr 1
  by_cases h : unlZ (a.words.getD i 0) (b.words.getD i 0) = 0
  · simp only [List.filterMap_cons,List.filterMap_nil,h,if_true]
  · simp only [List.filterMap_cons,List.filterMap_nil,h,if_false]
theorem wrdL_len (a b : T) : ∀ i,(wrdL a b i).length≤i
  | 0 => by simp [wrdL]
  | i + 1 => by
    have := wrdL_len a b i
    rw [wrdL_succ]
    split <;> simp <;> omega
theorem kidL26_succ (one : T→T→E) (a b : T) (i : Nat) : kidL26 one a b (i + 1) = kidL26 one a b i ++ (if (one (a.kids.getD i T0) (b.kids.getD i T0)).kind = 0 then [] else [.mk i (one (a.kids.getD i T0) (b.kids.getD i T0))]) := by
  unfold kidL26
  rw [List.range_succ,List.filterMap_append]
  congr 1
  by_cases h : (one (a.kids.getD i T0) (b.kids.getD i T0)).kind = 0
  · simp only [List.filterMap_cons,List.filterMap_nil,h,if_true]
  · simp only [List.filterMap_cons,List.filterMap_nil,h,if_false]
theorem kidL26_len (one : T→T→E) (a b : T) : ∀ i,(kidL26 one a b i).length≤i
  | 0 => by simp [kidL26]
  | i + 1 => by
    have := kidL26_len one a b i
    rw [kidL26_succ]
    split <;> simp <;> omega
def stC (u n : Nat) (k : A) : List A := [iv 2,iv 0,.sl true [],.sl true [],iv 0,.sl true [],.sl true [],.osl [5] u 4 0 n,k,iv 0,.sl true []]
section
variable {n0 : Nat} {w0 : World} {I0 : Nat→Prop} {Q : Exit→Sta→Prop}
theorem st_l1 {a b : T} (ha : wfT a) (hb : wfT b) {most : A} {N : Nat} (hN : N≤1000000)
    (hq : ∀ (H' : Hp) (u : Nat),H' [0] = ⟨1,.cells (tL a)⟩→H' [1] = ⟨1,.cells (tL b)⟩→H' [2] = ⟨1,.cells rawE⟩→H' [3] = ⟨1,.cells (stC u (wrdL a b N).length (.sl true []))⟩→H' [5] = ⟨u,.arr 4 ((wrdL a b N).map wA)⟩→H' [6] = ⟨0,.none⟩→H' [7] = ⟨0,.none⟩ →
      Q (.exit 0) ⟨lk [(2,most),(3,.pob [0] 1 0),(4,.pob [1] 1 0),(6,.pob [2] 1 0),(7,.pob [3] 1 0),(20,iv N),(21,iv N),(22,bv false)],H'⟩) :
    ∀ (m i : Nat) (u : Nat) (H : Hp),i + m = N→H [0] = ⟨1,.cells (tL a)⟩→H [1] = ⟨1,.cells (tL b)⟩→H [2] = ⟨1,.cells rawE⟩→H [3] = ⟨1,.cells (stC u (wrdL a b i).length (.sl true []))⟩→H [5] = ⟨u,.arr 4 ((wrdL a b i).map wA)⟩→H [6] = ⟨0,.none⟩→H [7] = ⟨0,.none⟩ →
    LoopC (cx Try.prog w0 I0 n0) l1_diff_structure Q ⟨lk [(2,most),(3,.pob [0] 1 0),(4,.pob [1] 1 0),(6,.pob [2] 1 0),(7,.pob [3] 1 0),(20,iv N),(21,iv i)],H⟩ := by
  intro m
  induction m with
  | zero =>
    intro i u H hm h0 h1 h2 h3 h5 h6 h7
    have : i = N := by omega
    subst this
    refine loopC_once mixed l1_diff_structure.eq_1 ?_
    simp
    exact hq H u h0 h1 h2 h3 h5 h6 h7
  | succ m ih =>
    intro i u H hm h0 h1 h2 h3 h5 h6 h7
    have hlt : i < N := by omega
    have ew : IntKind.i64.wrap ((i : Int) + 1) = ((i + 1 : Nat) : Int) := by rw [i64_same (by omega) (by omega)]; omega
    have hwa : u64R (a.words.getD i 0) := wd_in ha i
    have hwb : u64R (b.words.getD i 0) := wd_in hb i
    have hW := pWord_spec (i := i) hwa hwb
    have hwl := wrdL_len a b i
    have next := ih (i + 1)
    rw [wrdL_succ] at next
    refine loopC_once mixed l1_diff_structure.eq_1 ?_
    simp [hlt,h0,h1]
    refine sc_call (treeWord_spec a i) (by simp) ?_
    simp [h0,h1]
    refine sc_call (treeWord_spec b i) (by simp) ?_
    simp
    refine sc_call hW (by simp) ?_
    generalize a.words.getD i 0 = x at *
    generalize b.words.getD i 0 = y at *
    by_cases hz : unlZ x y = 0
    · rw [if_pos hz] at next
      simp [hz,updF_app]
      rw [ew]
      refine next u _ (by omega) (by simp [updF_app,h0]) (by simp [updF_app,h1]) (by simp [updF_app,h2]) (by simp [updF_app,h3]) (by simp [updF_app,h5]) (by simp [updF_app,h6]) (by simp [updF_app,h7])
    · rw [if_neg hz] at next
      simp [hz,updF_app,h3,h5,stC]
      refine ⟨by omega,?_⟩
      rw [ew]
      refine next (u + 1) _ (by omega) (by simp [updF_app,h0]) (by simp [updF_app,h1]) (by simp [updF_app,h2]) (by simp [updF_app,stC]) (by simp [updF_app,List.take_of_length_le]) (by simp [updF_app,h6]) (by simp [updF_app,h7])
theorem st_l2 {one : T→T→E} {a b : T} {most : Int} {N : Nat} (hN : N≤1000000) (hone : ∀ i : Nat,G.Spec Try.prog 36 [tX (a.kids.getD i T0),tX (b.kids.getD i T0),iv most] (eX (one (a.kids.getD i T0) (b.kids.getD i T0)))) {u n : Nat} {ws : List WE}
    (hq : ∀ (H' : Hp) (v : Nat),H' [3] = ⟨1,.cells (stC u n (.osl [7] v 12 0 (kidL26 one a b N).length))⟩→H' [5] = ⟨u,.arr 4 (ws.map wA)⟩→H' [7] = ⟨v,.arr 12 ((kidL26 one a b N).map kA)⟩→H' [2] = ⟨1,.cells rawE⟩ →
      Q (.exit 2) ⟨lk [(2,iv most),(3,.pob [0] 1 0),(4,.pob [1] 1 0),(6,.pob [2] 1 0),(7,.pob [3] 1 0),(49,iv N),(50,iv N),(51,bv false)],H'⟩) :
    ∀ (m i : Nat) (v : Nat) (H : Hp),i + m = N→H [0] = ⟨1,.cells (tL a)⟩→H [1] = ⟨1,.cells (tL b)⟩→H [2] = ⟨1,.cells rawE⟩→H [3] = ⟨1,.cells (stC u n (.osl [7] v 12 0 (kidL26 one a b i).length))⟩→H [5] = ⟨u,.arr 4 (ws.map wA)⟩→H [7] = ⟨v,.arr 12 ((kidL26 one a b i).map kA)⟩ →
    LoopC (cx Try.prog w0 I0 n0) l2_diff_structure Q ⟨lk [(2,iv most),(3,.pob [0] 1 0),(4,.pob [1] 1 0),(6,.pob [2] 1 0),(7,.pob [3] 1 0),(49,iv N),(50,iv i)],H⟩ := by
  intro m
  induction m with
  | zero =>
    intro i v H hm h0 h1 h2 h3 h5 h7
    have : i = N := by omega
    subst this
    refine loopC_once mixed l2_diff_structure.eq_1 ?_
    simp
    exact hq H v h3 h5 h7 h2
  | succ m ih =>
    intro i v H hm h0 h1 h2 h3 h5 h7
    have hlt : i < N := by omega
    have ew : IntKind.i64.wrap ((i : Int) + 1) = ((i + 1 : Nat) : Int) := by rw [i64_same (by omega) (by omega)]; omega
    have hO := hone i
    have hkl := kidL26_len one a b i
    have next := ih (i + 1)
    rw [kidL26_succ] at next
    have K1 := treeKid_spec a i
    have K2 := treeKid_spec b i
    generalize a.kids.getD i T0 = x at *
    generalize b.kids.getD i T0 = y at *
    generalize one x y = e at *
    refine loopC_once mixed l2_diff_structure.eq_1 ?_
    simp [hlt,h0,h1]
    refine sc_call K1 (by simp) ?_
    simp [h0,h1]
    refine sc_call K2 (by simp) ?_
    simp
    refine sc_call hO (by simp) ?_
    by_cases hz : e.kind = 0
    · rw [if_pos hz] at next
      simp [hz,updF_app]
      rw [ew]
      refine next v _ (by omega) (by simp [updF_app,h0]) (by simp [updF_app,h1]) (by simp [updF_app,h2]) (by simp [updF_app,h3]) (by simp [updF_app,h5]) (by simp [updF_app,h7])
    · rw [if_neg hz] at next
      simp [hz,updF_app,h3,h7,stC]
      refine ⟨by omega,?_⟩
      rw [ew]
      refine next (v + 1) _ (by omega) (by simp [updF_app,h0]) (by simp [updF_app,h1]) (by simp [updF_app,h2]) (by simp [updF_app,stC]) (by simp [updF_app,h5]) (by simp [updF_app,List.take_of_length_le])
end
theorem pStruct26_spec {one : T→T→E} {a b : T} (ha : wfT a) (hb : wfT b) (h1 : a.words.length≤1000000) (h2 : b.words.length≤1000000) (h3 : a.kids.length≤1000000) (h4 : b.kids.length≤1000000) {most : Int} (hone : ∀ i : Nat,G.Spec Try.prog 36 [tX (a.kids.getD i T0),tX (b.kids.getD i T0),iv most] (eX (one (a.kids.getD i T0) (b.kids.getD i T0)))) :
    G.Spec Try.prog 52 [tX a,tX b,iv most] (eX (strE one a b)) := by
  refine spec_of t_diff_structure (by simp) fun w0 I0 => ?_
  unfold c_diff_structure
  simp
  refine LoopC.le (le_blankC (d := [3]) (u := 1) (cs := [iv 2,iv 0,.sl true [],.sl true [],iv 0,.sl true [],.sl true [],.sl true [],.sl true [],iv 0,.sl true []]) 7 [5] 4 (by simp [updF_app]) rfl (by simp)) ?_
  refine LoopC.le (le_list [(2,iv most),(3,.pob [0] 1 0),(4,.pob [1] 1 0),(6,.pob [2] 1 0),(7,.pob [3] 1 0),(20,iv (max a.words.length b.words.length : Nat)),(21,iv (0 : Nat))] (by simp; omega)) ?_
  refine st_l1 ha hb (N := max a.words.length b.words.length) (by omega) (fun H' u g0 g1 g2 g3 g5 g6 g7 => ?_) (max a.words.length b.words.length) 0 1 _ (by omega) (by simp [updF_app]) (by simp [updF_app]) (by simp [updF_app,rawE]) (by simp [updF_app,stC,wrdL]) (by simp [updF_app,wrdL]) (by simp [updF_app]) (by simp [updF_app])
  simp [g0,g1]
  refine LoopC.le (le_blankC (d := [3]) (u := 1) (cs := stC u (wrdL a b (max a.words.length b.words.length)).length (.sl true [])) 8 [7] 12 g3 rfl (by simp)) ?_
  refine LoopC.le (le_list [(2,iv most),(3,.pob [0] 1 0),(4,.pob [1] 1 0),(6,.pob [2] 1 0),(7,.pob [3] 1 0),(49,iv (max a.kids.length b.kids.length : Nat)),(50,iv (0 : Nat))] (by simp; omega)) ?_
  refine st_l2 (one := one) (a := a) (b := b) (N := max a.kids.length b.kids.length) (by omega) hone (ws := wrdL a b (max a.words.length b.words.length)) (u := u) (n := (wrdL a b (max a.words.length b.words.length)).length) (fun H2 v k3 k5 k7 k2 => ?_) (max a.kids.length b.kids.length) 0 1 _ (by omega) (by simp [updF_app,g0]) (by simp [updF_app,g1]) (by simp [updF_app,g2]) (by simp [updF_app,stC,kidL26,g7]) (by simp [updF_app,g5]) (by simp [updF_app,kidL26,g7])
  simp [k3,k2,updF_app,stC]
  refine ⟨by simp [rawE],?_⟩
  refine frz_agg ⟨frz_bare rfl,frz_bare rfl,frz_sl,frz_sl,frz_bare rfl,frz_sl,frz_sl,?_,?_,frz_bare rfl,frz_sl,trivial⟩
  · exact frz_row (f := wA) (l := wrdL a b (max a.words.length b.words.length)) (by rw [updF_ne (by simp),k5]; simp) rfl (fun x => by simp)
  · exact frz_row (f := kA) (l := kidL26 one a b (max a.kids.length b.kids.length)) (by rw [updF_ne (by simp),k7]; simp) rfl (fun x => by simp)
end Go.Proofs.Ytmeldaflhkiopaa

namespace Go.Proofs.Ytmeldaflhkiopaa
set_option linter.unusedVariables false
set_option linter.unusedSimpArgs false
open Go Go.G Go.Proofs Go.PL
theorem one_step {a b : T} (ha : wfT a) (hb : wfT b) {X Y : E} {most : Int} (hs : a.kind = 1→b.kind = 1→G.Spec Try.prog 52 [tX a,tX b,iv most] (eX X)) (hl : a.kind = b.kind→2≤a.kind→a.kind≤9→G.Spec Try.prog 54 [tX a,tX b,iv most] (eX Y)) :
    G.Spec Try.prog 36 [tX a,tX b,iv most] (eX (if eqT a b = true then E0 else if a.kind = 1∧b.kind = 1 then X else if a.kind = b.kind∧2≤a.kind∧a.kind≤9 then Y else .mk 1 a b [] [] 0 [])) := by
  have hE := eqG_spec ha hb
  have hraw : ∀ H : Hp,Frz H (.agg rawE) (eX E0) := fun H => frz_agg ⟨frz_bare rfl,frz_bare rfl,frz_sl,frz_sl,frz_bare rfl,frz_sl,frz_sl,frz_sl,frz_sl,frz_bare rfl,frz_sl,trivial⟩
  have hfr : ∀ (H : Hp) (k : Int),k = a.kind→Frz H (.agg [iv 1,iv k,uws a.words,tKs a.kids,iv b.kind,uws b.words,tKs b.kids,.sl true [],.sl true [],iv 0,.sl true []]) (eX (.mk 1 a b [] [] 0 [])) := fun H k hk => by
    subst hk
    exact frz_agg ⟨frz_bare rfl,frz_bare rfl,frz_bare rfl,frz_bare rfl,frz_bare rfl,frz_bare rfl,frz_bare rfl,frz_sl,frz_sl,frz_bare rfl,frz_sl,trivial⟩
  refine spec_of t_diff_one (by simp) fun w0 I0 => ?_
  unfold c_diff_one
  simp
  refine sc_call hE (by simp) ?_
  cases he : eqT a b with
  | true =>
    simp
    exact hraw _
  | false =>
    by_cases h1 : a.kind = 1
    · by_cases h2 : b.kind = 1
      · have S := hs h1 h2
        have S' : G.Spec Try.prog 52 [.agg [iv 1,uws a.words,tKs a.kids],.agg [iv 1,uws b.words,tKs b.kids],iv most] (eX X) := by
          rw [← h1]
          have e : ([A.agg [iv a.kind,uws a.words,tKs a.kids],.agg [iv a.kind,uws b.words,tKs b.kids],iv most] : List A) = [tX a,tX b,iv most] := by
            show [A.agg [iv a.kind,uws a.words,tKs a.kids],.agg [iv a.kind,uws b.words,tKs b.kids],iv most] = [A.agg [iv a.kind,uws a.words,tKs a.kids],.agg [iv b.kind,uws b.words,tKs b.kids],iv most]
            rw [h1,h2]
          rw [e]
          exact S
        simp [h1,h2]
        refine sc_call S' (by simp) ?_
        simp
        exact frz_bare (by simp)
      · have hne : ¬ (1 : Int) = b.kind := fun e => h2 e.symm
        simp [h1,h2,hne]
        refine sc_call_off rfl ?_
        simp
        exact hfr _ 1 h1.symm
    · by_cases h3 : a.kind = b.kind
      · have h2 : ¬ b.kind = 1 := fun e => h1 (h3.trans e)
        simp [h1,h3,h2]
        rw [sc_guard]
        simp
        refine sc_call (tList_spec b.kind) (by simp) ?_
        by_cases h5 : 2≤b.kind∧b.kind≤9
        · have S := hl h3 (by omega) (by omega)
          have S' : G.Spec Try.prog 54 [.agg [iv b.kind,uws a.words,tKs a.kids],.agg [iv b.kind,uws b.words,tKs b.kids],iv most] (eX Y) := by
            rw [← h3]
            have e : ([A.agg [iv a.kind,uws a.words,tKs a.kids],.agg [iv a.kind,uws b.words,tKs b.kids],iv most] : List A) = [tX a,tX b,iv most] := by
              show [A.agg [iv a.kind,uws a.words,tKs a.kids],.agg [iv a.kind,uws b.words,tKs b.kids],iv most] = [A.agg [iv a.kind,uws a.words,tKs a.kids],.agg [iv b.kind,uws b.words,tKs b.kids],iv most]
              rw [h3]
            rw [e]
            exact S
          simp [h5.1,h5.2]
          refine sc_call S' (by simp) ?_
          simp
          exact frz_bare (by simp)
        · have h6 : (decide (2≤b.kind) && decide (b.kind≤9)) = false := by
            rw [Bool.eq_false_iff]; simpa using h5
          rw [h6]
          simp [h5]
          exact hfr _ _ h3.symm
      · simp [h1,h3]
        refine sc_call_off rfl ?_
        simp
        exact hfr _ _ rfl
end Go.Proofs.Ytmeldaflhkiopaa

namespace Go.Proofs.Ytmeldaflhkiopaa
set_option linter.unusedVariables false
set_option linter.unusedSimpArgs false
open Go Go.G Go.Proofs Go.PL
def okT : Nat→T→Prop
  | 0,t => t = T0
  | f + 1,t => t = T0∨(wfT t∧norm t = t∧t.words.length≤1000∧t.kids.length≤1000∧∀ k,k ∈ t.kids→okT f k)
theorem okT_T0 (f : Nat) : okT f T0 := by cases f with
  | zero => rfl
  | succ f => exact .inl rfl
theorem wf_T026 : wfT T0 := wfT_iff.2 ⟨by simp [i64R],by simp,by simp,by simp,by simp⟩
theorem norm_T026 : norm T0 = T0 := by simp [norm,T0,trimW,trimK]
theorem okT_facts {f : Nat} {t : T} (h : okT f t) : wfT t∧norm t = t∧t.words.length≤1000∧t.kids.length≤1000 := by
  have z : wfT T0∧norm T0 = T0∧T0.words.length≤1000∧T0.kids.length≤1000 := ⟨wf_T026,norm_T026,by decide,by decide⟩
  cases f with
  | zero => cases h; exact z
  | succ f =>
    rcases h with rfl | h
    · exact z
    · exact ⟨h.1,h.2.1,h.2.2.1,h.2.2.2.1⟩
theorem okT_kids {f : Nat} {t : T} (h : okT f t) : ∀ k,k ∈ t.kids→okT (f - 1) k := by
  cases f with
  | zero => cases h; intro k hk; simp [T0] at hk
  | succ f =>
    rcases h with rfl | h
    · intro k hk; simp [T0] at hk
    · exact h.2.2.2.2
theorem okT_at {f : Nat} {t : T} (h : okT f t) (i : Nat) : okT (f - 1) (t.kids.getD i T0) := by
  by_cases hi : i < t.kids.length
  · have e : t.kids.getD i T0 = t.kids[i] := by simp [hi]
    rw [e]
    exact okT_kids h _ (List.getElem_mem hi)
  · have e : t.kids.getD i T0 = T0 := by simp [List.getElem?_eq_none (Nat.le_of_not_lt hi)]
    rw [e]
    exact okT_T0 _
theorem pOne_spec {most : Int} (hm : i64R most) : ∀ (f g : Nat) (a b : T),okT f a→okT g b→G.Spec Try.prog 36 [tX a,tX b,iv most] (eX (oneE most f a b))
  | 0,g,a,b,ha,hb => by
    obtain ⟨a1,a2,a3,a4⟩ := okT_facts ha
    obtain ⟨b1,b2,b3,b4⟩ := okT_facts hb
    have hk : a.kind = 0 := by cases ha; rfl
    have := one_step a1 b1 (X := E0) (Y := E0) (most := most) (fun h => by omega) (fun _ h => by omega)
    rw [if_neg (show ¬ (a.kind = 1∧b.kind = 1) by omega),if_neg (show ¬ (a.kind = b.kind∧2≤a.kind∧a.kind≤9) by omega)] at this
    exact this
  | f + 1,g,a,b,ha,hb => by
    obtain ⟨a1,a2,a3,a4⟩ := okT_facts ha
    obtain ⟨b1,b2,b3,b4⟩ := okT_facts hb
    refine one_step a1 b1 (fun h1 h2 => ?_) (fun h1 h2 h3 => ?_)
    · exact pStruct26_spec a1 b1 (by omega) (by omega) (by omega) (by omega) fun i => pOne_spec hm f (g - 1) _ _ (okT_at ha i) (okT_at hb i)
    · exact pList26_spec a1 b1 (fun t ht => (okT_facts (okT_kids ha t ht)).2.1) (fun t ht => (okT_facts (okT_kids hb t ht)).2.1) (by omega) (by omega) hm fun x hx y hy => pOne_spec hm f (g - 1) _ _ (okT_kids ha x hx) (okT_kids hb y hy)
end Go.Proofs.Ytmeldaflhkiopaa

namespace Go.PL
set_option linter.unusedVariables false
set_option linter.unusedSimpArgs false
mutual
def partsT : T→Int
  | .mk _ w l => 1 + w.length + partsL l
def partsL : List T→Int
  | [] => 0
  | t :: l => partsT t + partsL l
end
@[simp] theorem partsT_mk (k : Int) (w : List Int) (l : List T) : partsT (.mk k w l) = 1 + w.length + partsL l := by rw [partsT]
@[simp] theorem partsL_nil : partsL [] = 0 := by rw [partsL]
@[simp] theorem partsL_cons (t : T) (l : List T) : partsL (t :: l) = partsT t + partsL l := by rw [partsL]
theorem partsL_len {l : List T} (h : ∀ t,t ∈ l→1≤partsT t) : (l.length : Int)≤partsL l := by
  induction l with
  | nil => simp
  | cons t l ih =>
    have := h t (by simp)
    have := ih fun u hu => h u (by simp [hu])
    simp
    omega
theorem partsT_pos : ∀ t : T,1≤partsT t := by
  refine T.ind fun k w l ih => ?_
  have := partsL_len ih
  simp
  omega
theorem partsL_pos (l : List T) : (l.length : Int)≤partsL l := partsL_len fun t _ => partsT_pos t
theorem parts_shallow : ∀ (t : T) (d : Nat) (n : Int),0≤shallow d n t→partsT t≤n - shallow d n t := by
  refine T.ind fun k w l ih d n h => ?_
  have hl : ∀ (m : List T) (d : Nat) (n : Int),(∀ t,t ∈ m→t ∈ l)→0≤shallowL d n m→partsL m≤n - shallowL d n m := by
    intro m
    induction m with
    | nil => intro d n _ _; simp
    | cons t m ihm =>
      intro d n hin h
      rw [shallowL_cons] at h ⊢
      split at h
      · omega
      · rename_i hc
        rw [if_neg hc]
        have h1 := ihm d (shallow d n t) (fun u hu => hin u (by simp [hu])) h
        have h3 : 0≤shallow d n t := by
          cases m with
          | nil => simpa using h
          | cons u m =>
            rw [shallowL_cons] at h
            split at h <;> omega
        have := ih t (hin t (by simp)) d n h3
        simp
        omega
  rw [shallow_mk] at h ⊢
  split at h
  · omega
  rename_i hc
  rw [if_neg hc]
  have := hl l (d - 1) _ (fun t ht => ht) h
  simp
  omega
end Go.PL

namespace Go.Proofs.Ytmeldaflhkiopaa
set_option linter.unusedVariables false
set_option linter.unusedSimpArgs false
open Go Go.G Go.Proofs Go.PL
theorem sumO_app (a b : List OP) : sumO (a ++ b) = sumO a + sumO b := by simp [sumO]
theorem sum_del26 (l : List T) : sumO (delO l) = l.length := by
  unfold delO
  split
  · rename_i h; subst h; rfl
  · simp [sumO]
theorem sum_ins26 (l : List T) : sumO (insO l) = l.length := by
  unfold insO
  split
  · rename_i h; subst h; rfl
  · simp [sumO]
theorem gapO_sum (one : T→T→E) (a b : List T) : ∀ (P : List Sc) (i j : Nat) (out : List OP),PkOk a.length b.length i j P→sumO (gapO one a b P i j out)≤sumO out + (a.length - i) + (b.length - j)
  | [],i,j,out,h => by
    rw [gapO,sumO_app,sumO_app,sum_del26,sum_ins26]
    simp
  | x :: P,i,j,out,h => by
    obtain ⟨k1,k2,k3,k4,k5⟩ := h
    have := gapO_sum one a b P _ _ (out ++ delO ((a.take x.i).drop i) ++ insO ((b.take x.j).drop j) ++ [.mk 3 0 [] (one (a.getD x.i T0) (b.getD x.j T0))]) k5
    rw [gapO]
    rw [sumO_app,sumO_app,sumO_app,sum_del26,sum_ins26,show sumO [OP.mk 3 0 [] (one (a.getD x.i T0) (b.getD x.j T0))] = 0 from rfl,List.length_drop,List.length_take,List.length_drop,List.length_take] at this
    omega
theorem gapE_sum (one : T→T→E) (a b : List T) : sumO (gapE one a b)≤a.length + b.length := by
  have := gapO_sum one a b (pkG (scR a b)) 0 0 [] (pkG_ok a b)
  rw [show sumO [] = 0 from rfl] at this
  unfold gapE
  omega
inductive GOp (one : T→T→E) (A B : List T) (N : Nat) : OP→Prop
  | keep (n : Nat) (h : n≤N) : GOp one A B N (.mk 0 n [] E0)
  | del (l : List T) (h : l ≠ []) (g : ∀ t,t ∈ l→t ∈ A) (k : l.length≤A.length) : GOp one A B N (.mk 1 0 l E0)
  | ins (l : List T) (h : l ≠ []) (g : ∀ t,t ∈ l→t ∈ B) (k : l.length≤B.length) : GOp one A B N (.mk 2 0 l E0)
  | desc (x y : T) (hx : x ∈ A) (hy : y ∈ B) : GOp one A B N (.mk 3 0 [] (one x y))
theorem gOp_mono {one : T→T→E} {A B A' B' : List T} {N : Nat} (hA : ∀ t,t ∈ A→t ∈ A') (hB : ∀ t,t ∈ B→t ∈ B') (lA : A.length≤A'.length) (lB : B.length≤B'.length) {o : OP} (h : GOp one A B N o) : GOp one A' B' N o := by
  cases h with
  | keep n h => exact .keep n h
  | del l h g k => exact .del l h (fun t ht => hA t (g t ht)) (by omega)
  | ins l h g k => exact .ins l h (fun t ht => hB t (g t ht)) (by omega)
  | desc x y hx hy => exact .desc x y (hA x hx) (hB y hy)
theorem gOp_del {one : T→T→E} {A B l : List T} {N : Nat} (h : ∀ t,t ∈ l→t ∈ A) (hl : l.length≤A.length) : ∀ o,o ∈ delO l→GOp one A B N o := by
  intro o ho
  unfold delO at ho
  split at ho
  · simp at ho
  · rename_i hne
    simp at ho
    subst ho
    exact .del l hne h hl
theorem gOp_ins {one : T→T→E} {A B l : List T} {N : Nat} (h : ∀ t,t ∈ l→t ∈ B) (hl : l.length≤B.length) : ∀ o,o ∈ insO l→GOp one A B N o := by
  intro o ho
  unfold insO at ho
  split at ho
  · simp at ho
  · rename_i hne
    simp at ho
    subst ho
    exact .ins l hne h hl
theorem gapO_mem (one : T→T→E) (a b : List T) (N : Nat) : ∀ (P : List Sc) (i j : Nat) (out : List OP),PkOk a.length b.length i j P→(∀ o,o ∈ out→GOp one a b N o)→∀ o,o ∈ gapO one a b P i j out→GOp one a b N o
  | [],i,j,out,h,g => by
    intro o ho
    rw [gapO] at ho
    rcases List.mem_append.1 ho with ho | ho
    · rcases List.mem_append.1 ho with ho | ho
      · exact g o ho
      · exact gOp_del (fun t ht => List.mem_of_mem_drop ht) (by simp) o ho
    · exact gOp_ins (fun t ht => List.mem_of_mem_drop ht) (by simp) o ho
  | x :: P,i,j,out,h,g => by
    obtain ⟨k1,k2,k3,k4,k5⟩ := h
    rw [gapO]
    refine gapO_mem one a b N P _ _ _ k5 fun o ho => ?_
    rcases List.mem_append.1 ho with ho | ho
    · rcases List.mem_append.1 ho with ho | ho
      · rcases List.mem_append.1 ho with ho | ho
        · exact g o ho
        · exact gOp_del (fun t ht => List.mem_of_mem_take (List.mem_of_mem_drop ht)) (by simp; omega) o ho
      · exact gOp_ins (fun t ht => List.mem_of_mem_take (List.mem_of_mem_drop ht)) (by simp; omega) o ho
    · rw [List.mem_singleton] at ho
      subst ho
      have e1 : a.getD x.i T0 = a[x.i] := by simp [k3]
      have e2 : b.getD x.j T0 = b[x.j] := by simp [k4]
      rw [e1,e2]
      exact .desc _ _ (List.getElem_mem k3) (List.getElem_mem k4)
theorem gapE_mem (one : T→T→E) (a b : List T) (N : Nat) : ∀ o,o ∈ gapE one a b→GOp one a b N o := gapO_mem one a b N _ 0 0 [] (pkG_ok a b) (by simp)
theorem opsG_inv {gap : List T→List T→List OP} {I : List T→List T→List OP→Prop} {S0 : List Sp} (h0 : ∀ s,s ∈ S0→∀ a b out,I a b out→I (a.drop s.n) (b.drop s.n) (out ++ [.mk 0 s.n [] E0])) (h1 : ∀ n a b out,I a b out→I (a.drop n) b (out ++ delO (a.take n))) (h2 : ∀ n a b out,I a b out→I a (b.drop n) (out ++ insO (b.take n))) (h3 : ∀ n m a b out,I a b out→I (a.drop n) (b.drop m) (out ++ gap (a.take n) (b.take m))) : ∀ (S : List Sp) (a b : List T) (out : List OP),(∀ s,s ∈ S→s ∈ S0)→I a b out→∃ a' b',I a' b' (opsG gap S a b out)
  | [],a,b,out,hS,h => ⟨a,b,by rw [opsG]; exact h⟩
  | [s],a,b,out,hS,h => by
    have hs := hS s (by simp)
    rw [opsG]
    split
    · exact ⟨_,_,h0 s hs a b out h⟩
    · split
      · exact ⟨_,_,h2 s.n a b out h⟩
      · exact ⟨_,_,h1 s.n a b out h⟩
  | s :: s2 :: ss,a,b,out,hS,h => by
    have hs := hS s (by simp)
    have hS1 : ∀ x,x ∈ s2 :: ss→x ∈ S0 := fun x hx => hS x (List.mem_cons_of_mem _ hx)
    have hS2 : ∀ x,x ∈ ss→x ∈ S0 := fun x hx => hS1 x (List.mem_cons_of_mem _ hx)
    rw [opsG]
    split
    · exact opsG_inv h0 h1 h2 h3 (s2 :: ss) _ _ _ hS1 (h0 s hs a b out h)
    · split
      · exact opsG_inv h0 h1 h2 h3 (s2 :: ss) _ _ _ hS1 (h2 s.n a b out h)
      · split
        · exact opsG_inv h0 h1 h2 h3 ss _ _ _ hS2 (h3 s.n s2.n a b out h)
        · exact opsG_inv h0 h1 h2 h3 (s2 :: ss) _ _ _ hS1 (h1 s.n a b out h)
theorem opsG_sum {gap : List T→List T→List OP} (hg : ∀ x y,sumO (gap x y)≤x.length + y.length) (S : List Sp) (a b : List T) : sumO (opsG gap S a b [])≤a.length + b.length := by
  obtain ⟨a',b',h⟩ := opsG_inv (gap := gap) (S0 := S) (I := fun a' b' out => sumO out + a'.length + b'.length≤a.length + b.length) (fun s hs a b out h => by
    rw [sumO_app,show sumO [OP.mk 0 (s.n : Nat) [] E0] = 0 from rfl,List.length_drop,List.length_drop]; omega) (fun n a b out h => by
    rw [sumO_app,sum_del26,List.length_drop,List.length_take]; omega) (fun n a b out h => by
    rw [sumO_app,sum_ins26,List.length_drop,List.length_take]; omega) (fun n m a b out h => by
    have := hg (a.take n) (b.take m)
    rw [List.length_take,List.length_take] at this
    rw [sumO_app,List.length_drop,List.length_drop]; omega) S a b [] (fun s hs => hs) (by rw [show sumO [] = 0 from rfl]; omega)
  omega
theorem opsG_mem {one : T→T→E} {gap : List T→List T→List OP} {N : Nat} (hg : ∀ x y,∀ o,o ∈ gap x y→GOp one x y N o) (S : List Sp) (hS : ∀ s,s ∈ S→s.n≤N) (a b : List T) : ∀ o,o ∈ opsG gap S a b []→GOp one a b N o := by
  have app : ∀ {out l : List OP},(∀ o,o ∈ out→GOp one a b N o)→(∀ o,o ∈ l→GOp one a b N o)→∀ o,o ∈ out ++ l→GOp one a b N o := fun h1 h2 o ho => by
    rcases List.mem_append.1 ho with ho | ho
    · exact h1 o ho
    · exact h2 o ho
  have dr : ∀ {x y : List T} (n : Nat),((∀ t,t ∈ x→t ∈ y)∧x.length≤y.length)→(∀ t,t ∈ x.drop n→t ∈ y)∧(x.drop n).length≤y.length := fun n h => ⟨fun t ht => h.1 t (List.mem_of_mem_drop ht),by rw [List.length_drop]; omega⟩
  have tk : ∀ {x y : List T} (n : Nat),((∀ t,t ∈ x→t ∈ y)∧x.length≤y.length)→(∀ t,t ∈ x.take n→t ∈ y)∧(x.take n).length≤y.length := fun n h => ⟨fun t ht => h.1 t (List.mem_of_mem_take ht),by rw [List.length_take]; omega⟩
  obtain ⟨a',b',_,_,h⟩ := opsG_inv (gap := gap) (S0 := S) (I := fun a' b' out => ((∀ t,t ∈ a'→t ∈ a)∧a'.length≤a.length)∧((∀ t,t ∈ b'→t ∈ b)∧b'.length≤b.length)∧∀ o,o ∈ out→GOp one a b N o) (fun s hs x y out h => ⟨dr _ h.1,dr _ h.2.1,app h.2.2 fun o ho => by
      simp at ho; subst ho; exact .keep s.n (hS s hs)⟩) (fun n x y out h => ⟨dr _ h.1,h.2.1,app h.2.2 (gOp_del (tk n h.1).1 (tk n h.1).2)⟩) (fun n x y out h => ⟨h.1,dr _ h.2.1,app h.2.2 (gOp_ins (tk n h.2.1).1 (tk n h.2.1).2)⟩) (fun n m x y out h => ⟨dr _ h.1,dr _ h.2.1,app h.2.2 fun o ho => gOp_mono (tk n h.1).1 (tk m h.2.1).1 (tk n h.1).2 (tk m h.2.1).2 (hg _ _ o ho)⟩) S a b [] (fun s hs => hs) ⟨⟨fun t ht => ht,Nat.le_refl _⟩,⟨fun t ht => ht,Nat.le_refl _⟩,by simp⟩
  exact h
theorem opsG_len {gap : List T→List T→List OP} (hg : ∀ x y,(gap x y).length≤50) : ∀ (S : List Sp) (a b : List T) (out : List OP),(opsG gap S a b out).length≤out.length + 50 * S.length
  | [],a,b,out => by rw [opsG]; omega
  | [s],a,b,out => by
    have d1 : (delO (a.take s.n)).length≤1 := by unfold delO; split <;> simp
    have d2 : (insO (b.take s.n)).length≤1 := by unfold insO; split <;> simp
    rw [opsG]
    split
    · simp
    · split <;> (rw [List.length_append]; simp only [List.length_cons,List.length_nil]; omega)
  | s :: s2 :: ss,a,b,out => by
    have d1 : (delO (a.take s.n)).length≤1 := by unfold delO; split <;> simp
    have d2 : (insO (b.take s.n)).length≤1 := by unfold insO; split <;> simp
    rw [opsG]
    split
    · have := opsG_len hg (s2 :: ss) (a.drop s.n) (b.drop s.n) (out ++ [.mk 0 s.n [] E0])
      simp only [List.length_append,List.length_cons,List.length_nil] at this ⊢
      omega
    · split
      · have := opsG_len hg (s2 :: ss) a (b.drop s.n) (out ++ insO (b.take s.n))
        simp only [List.length_append,List.length_cons,List.length_nil] at this ⊢
        omega
      · split
        · have := opsG_len hg ss (a.drop s.n) (b.drop s2.n) (out ++ gap (a.take s.n) (b.take s2.n))
          have := hg (a.take s.n) (b.take s2.n)
          simp only [List.length_append,List.length_cons,List.length_nil] at this ⊢
          simp only [List.length_append] at *
          omega
        · have := opsG_len hg (s2 :: ss) (a.drop s.n) b (out ++ delO (a.take s.n))
          simp only [List.length_append,List.length_cons,List.length_nil] at this ⊢
          omega
noncomputable def lstO (one : T→T→E) (most : Int) (a b : T) : List OP := if (distL (caL a) (cbL a b) : Int)≤most then opsG (gapE one) (nrmS (wayU (caL a) (cbL a b))) a.kids b.kids [] else gapE one a.kids b.kids
theorem listE_eq (one : T→T→E) (most : Int) (a b : T) : listE one most a b = .mk 3 T0 T0 [] [] a.kind (lstO one most a b) := rfl
theorem caL_len (a : T) : (caL a).length = a.kids.length := by simp [caL,zsN,clsL_length]
theorem cbL_len (a b : T) : (cbL a b).length = b.kids.length := by simp [cbL,zsN,clsL_length]
theorem units_mem_n : ∀ {l : List Sp} {s : Sp},s ∈ l→s.k ≠ 2→s.n≤dA (unitsS l)
  | x :: l,s,h,hk => by
    rw [units_cons,dA_app,dA_rep]
    rcases List.mem_cons.1 h with rfl | h
    · rw [if_neg hk]; omega
    · have := units_mem_n h hk; omega
theorem units_mem_n' : ∀ {l : List Sp} {s : Sp},s ∈ l→s.k ≠ 1→s.n≤dB (unitsS l)
  | x :: l,s,h,hk => by
    rw [units_cons,dB_app,dB_rep]
    rcases List.mem_cons.1 h with rfl | h
    · rw [if_neg hk]; omega
    · have := units_mem_n' h hk; omega
theorem nrm_n (a b : T) {s : Sp} (h : s ∈ nrmS (wayU (caL a) (cbL a b))) : s.n≤a.kids.length + b.kids.length := by
  have wd := wayU_d (caL a) (cbL a b)
  have wi := wayU_in (caL a) (cbL a b)
  have wn := nrmS_d _ wi
  rw [caL_len,cbL_len] at wd
  by_cases hk : s.k = 2
  · have := units_mem_n' h (by omega); omega
  · have := units_mem_n h hk; omega
theorem lstO_mem (one : T→T→E) (most : Int) (a b : T) : ∀ o,o ∈ lstO one most a b→GOp one a.kids b.kids (a.kids.length + b.kids.length) o := by
  unfold lstO
  split
  · exact opsG_mem (fun x y => gapE_mem one x y _) _ (fun s hs => nrm_n a b hs) _ _
  · exact gapE_mem one _ _ _
theorem lstO_sum (one : T→T→E) (most : Int) (a b : T) : sumO (lstO one most a b)≤a.kids.length + b.kids.length := by
  unfold lstO
  split
  · exact opsG_sum (fun x y => gapE_sum one x y) _ _ _
  · exact gapE_sum one _ _
theorem lstO_len (one : T→T→E) (most : Int) (a b : T) : (lstO one most a b).length≤50 * (a.kids.length + b.kids.length) + 50 := by
  unfold lstO
  split
  · have wd := wayU_d (caL a) (cbL a b)
    have wi := wayU_in (caL a) (cbL a b)
    have wn := nrmS_d _ wi
    have := steps_len _ (nrm_k wi)
    have h := opsG_len (gapE_len one) (nrmS (wayU (caL a) (cbL a b))) a.kids b.kids []
    rw [caL_len,cbL_len] at wd
    simp only [List.length_nil] at h
    omega
  · have := gapE_len one a.kids b.kids
    omega
theorem nOkK_of : ∀ {l : List KE},(∀ x,x ∈ l→nOk x.e)→nOkK l
  | [],_ => by rw [nOkK]; trivial
  | .mk a e :: l,h => by
    rw [nOkK]
    exact ⟨h _ (List.mem_cons_self ..),nOkK_of fun x hx => h x (List.mem_cons_of_mem _ hx)⟩
theorem nOkO_of : ∀ {l : List OP},(∀ x,x ∈ l→(x.kind = 0∨x.kind = 1∨x.kind = 2∨x.kind = 3)∧(∀ t,t ∈ x.l→wfT t)∧(x.kind = 3→nOk x.e))→nOkO l
  | [],_ => by rw [nOkO]; trivial
  | .mk k n t e :: l,h => by
    rw [nOkO]
    exact ⟨h _ (List.mem_cons_self ..),nOkO_of fun x hx => h x (List.mem_cons_of_mem _ hx)⟩
theorem nOk_E0 : nOk E0 := by
  unfold E0
  rw [nOk]
  exact ⟨.inl rfl,fun _ => rfl,fun h => absurd h (by decide),by simp,by simp,by simp,by simp [sumO],fun h => absurd h (by decide),fun h => absurd h (by decide)⟩
theorem nOk_rep {a b : T} (ha : wfT a) (hb : wfT b) : nOk (.mk 1 a b [] [] 0 []) := by
  rw [nOk]
  exact ⟨.inr (.inl rfl),fun _ => rfl,fun _ => ⟨ha,hb⟩,by simp,by simp,by simp,by simp [sumO],fun h => absurd h (by decide),fun h => absurd h (by decide)⟩
theorem kidL26_mem {one : T→T→E} {a b : T} {m : Nat} {x : KE} (h : x ∈ kidL26 one a b m) : ∃ i : Nat,i < m∧x = .mk i (one (a.kids.getD i T0) (b.kids.getD i T0))∧(one (a.kids.getD i T0) (b.kids.getD i T0)).kind ≠ 0 := by
  unfold kidL26 at h
  rw [List.mem_filterMap] at h
  obtain ⟨i,hi,e⟩ := h
  split at e
  · cases e
  · rename_i hk
    simp only [Option.some.injEq] at e
    exact ⟨i,by simpa using hi,e.symm,hk⟩
theorem nOk_str {one : T→T→E} {a b : T} (ha : a.words.length≤1000) (hb : b.words.length≤1000) (ha2 : a.kids.length≤1000) (hb2 : b.kids.length≤1000) (h : ∀ i,nOk (one (a.kids.getD i T0) (b.kids.getD i T0))) : nOk (strE one a b) := by
  have h1 := wrdL_len a b (max a.words.length b.words.length)
  have h2 := kidL26_len one a b (max a.kids.length b.kids.length)
  unfold strE
  rw [nOk]
  refine ⟨.inr (.inr (.inl rfl)),fun _ => rfl,fun h => absurd h (by decide),by omega,by omega,by simp,by simp [sumO],fun _ => nOkK_of fun x hx => ?_,fun h => absurd h (by decide)⟩
  obtain ⟨i,_,e,_⟩ := kidL26_mem hx
  subst e
  exact h i
theorem nOk_list {one : T→T→E} {most : Int} {a b : T} (ha : a.kids.length≤1000) (hb : b.kids.length≤1000) (wa : ∀ t,t ∈ a.kids→wfT t) (wb : ∀ t,t ∈ b.kids→wfT t) (h : ∀ x,x ∈ a.kids→∀ y,y ∈ b.kids→nOk (one x y)) : nOk (listE one most a b) := by
  have h1 := lstO_len one most a b
  have h2 := lstO_sum one most a b
  rw [listE_eq,nOk]
  refine ⟨.inr (.inr (.inr rfl)),fun h => absurd rfl h,fun h => absurd h (by decide),by simp,by simp,by omega,by omega,fun h => absurd h (by decide),fun _ => nOkO_of fun x hx => ?_⟩
  cases lstO_mem one most a b x hx with
  | keep n h => exact ⟨.inl rfl,fun t (ht : t ∈ ([] : List T)) => by simp at ht,fun h => absurd h (by show ¬ (0 : Int) = 3; decide)⟩
  | del l h g k => exact ⟨.inr (.inl rfl),fun t ht => wa t (g t ht),fun h => absurd h (by show ¬ (1 : Int) = 3; decide)⟩
  | ins l h g k => exact ⟨.inr (.inr (.inl rfl)),fun t ht => wb t (g t ht),fun h => absurd h (by show ¬ (2 : Int) = 3; decide)⟩
  | desc p q hp hq => exact ⟨.inr (.inr (.inr rfl)),fun t (ht : t ∈ ([] : List T)) => by simp at ht,fun _ => h p hp q hq⟩
theorem nOk_one (most : Int) : ∀ (f g : Nat) (a b : T),okT f a→okT g b→nOk (oneE most f a b)
  | 0,g,a,b,ha,hb => by
    rw [oneE]
    split
    · exact nOk_E0
    · exact nOk_rep (okT_facts ha).1 (okT_facts hb).1
  | f + 1,g,a,b,ha,hb => by
    obtain ⟨a1,a2,a3,a4⟩ := okT_facts ha
    obtain ⟨b1,b2,b3,b4⟩ := okT_facts hb
    rw [oneE]
    split
    · exact nOk_E0
    · split
      · exact nOk_str a3 b3 a4 b4 fun i => nOk_one most f (g - 1) _ _ (okT_at ha i) (okT_at hb i)
      · split
        · exact nOk_list a4 b4 (fun t ht => (okT_facts (okT_kids ha t ht)).1) (fun t ht => (okT_facts (okT_kids hb t ht)).1) fun x hx y hy => nOk_one most f (g - 1) x y (okT_kids ha x hx) (okT_kids hb y hy)
        · exact nOk_rep a1 b1
theorem partsL_mem {l : List T} {t : T} (h : t ∈ l) : partsT t≤partsL l := by
  induction l with
  | nil => simp at h
  | cons x l ih =>
    rw [partsL_cons]
    have hp := partsT_pos x
    have hl := partsL_pos l
    rcases List.mem_cons.1 h with rfl | h
    · omega
    · have := ih h; omega
theorem okT_norm26 : ∀ (t : T),wfT t→partsT t≤1000→∀ f : Nat,partsT t≤f→okT f (norm t) := by
  refine T.ind fun k w l ih hw hp f hf => ?_
  rw [partsT_mk] at hp hf
  have hl := partsL_pos l
  have hks := (wfT_iff.1 hw).ks
  cases f with
  | zero => omega
  | succ f =>
    have hk : ∀ t,t ∈ l→okT f (norm t) := fun t ht => by
      have := partsL_mem ht
      exact ih t ht (hks t ht) (by omega) f (by omega)
    rw [okT]
    refine .inr ⟨wf_norm _ hw,norm_norm _,?_,?_,?_⟩
    · rw [norm_mk]
      split
      · simp
      · split
        · have := trimW_le w
          show (trimW w).length≤1000
          omega
        · show w.length≤1000
          omega
    · rw [norm_mk]
      split
      · simp
      · split
        · have := trimK_le (l.map norm)
          rw [List.length_map] at this
          show (trimK (l.map norm)).length≤1000
          omega
        · show (l.map norm).length≤1000
          rw [List.length_map]
          omega
    · intro x hx
      have hx' : x ∈ l.map norm := by
        rw [norm_mk] at hx
        split at hx
        · simp at hx
        · split at hx
          · have hx2 : x ∈ trimK (l.map norm) := hx
            rw [trimK_take] at hx2
            exact List.mem_of_mem_take hx2
          · exact hx
      obtain ⟨t,ht,rfl⟩ := List.mem_map.1 hx'
      exact hk t ht
end Go.Proofs.Ytmeldaflhkiopaa

namespace Go.Proofs.Ytmeldaflhkiopaa
set_option linter.unusedVariables false
set_option linter.unusedSimpArgs false
open Go Go.G Go.Proofs Go.PL
noncomputable def dfE (most : Int) (a b : T) : E := nEd (oneE most 1000 (norm a) (norm b))
theorem pTrees_spec {a b : T} (ha : wfT a) (hb : wfT b) (pa : partsT a≤1000) (pb : partsT b≤1000) {most : Int} (hm : i64R most) : G.Spec Try.prog 18 [tX a,tX b,iv most] (eX (dfE most a b)) := by
  have oa := okT_norm26 a ha pa 1000 pa
  have ob := okT_norm26 b hb pb 1000 pb
  have h1 := pOne_spec hm 1000 1000 _ _ oa ob
  have h2 := pEdit_spec _ (nOk_one most 1000 1000 _ _ oa ob)
  refine spec_of t_diff_Trees (by simp) fun w0 I0 => ?_
  unfold c_diff_Trees
  simp
  refine sc_call (tNorm_spec a ha) (by simp) ?_
  simp
  refine sc_call (tNorm_spec b hb) (by simp) ?_
  simp
  refine sc_call h1 (by simp) ?_
  simp
  refine sc_call h2 (by simp) ?_
  simp
  exact frz_bare (by simp)
def good26 (t : T) : Bool := decide (0≤shallow 70 400 t) && rightT 64 t && decide (t.kind ≠ 10)
theorem good26_spec {t : T} (h : wfT t) : G.Spec Try.prog 14 [tX t] (bv (good26 t)) := by
  refine spec_of t_centolaw26_Good (by simp) fun w0 I0 => ?_
  unfold c_centolaw26_Good
  simp
  refine sc_call (shallow_spec t h 70 400 (by omega) (by omega) (by omega)) (by simp) ?_
  unfold good26
  by_cases hs : 0≤shallow 70 400 t
  · simp [hs]
    refine sc_call_gt rfl (fun _ => rRight_spec t h 64 (by omega)) (fun _ => by simp) (by simp) ?_
    cases hr : rightT 64 t with
    | true =>
      simp
      exact frz_is rfl (by simp)
    | false =>
      simp
      exact frz_is rfl (by simp)
  · simp [hs]
    refine sc_call_off rfl ?_
    simp
    exact frz_is rfl (by simp)
theorem good26_parts {t : T} (h : good26 t = true) : partsT t≤400∧rightT 64 t = true∧t.kind ≠ 10 := by
  unfold good26 at h
  simp only [Bool.and_eq_true,decide_eq_true_eq] at h
  obtain ⟨⟨h1,h2⟩,h3⟩ := h
  have := parts_shallow t 70 400 h1
  exact ⟨by omega,h2,h3⟩
end Go.Proofs.Ytmeldaflhkiopaa

namespace Go.Proofs.Ytmeldaflhkiopaa
set_option linter.unusedVariables false
set_option linter.unusedSimpArgs false
open Go Go.G Go.Proofs Go.PL
def wds (tw : List Int) : Nat→Nat→List WE→Option (List Int)
  | 0,_,_ => some []
  | m + 1,i,[] => (wds tw m (i + 1) []).map (tw.getD i 0 :: ·)
  | m + 1,i,x :: xs => if x.at_ = (i : Int) then (if mixZ 0 (tw.getD i 0) x.mask = x.old then (wds tw m (i + 1) xs).map (mixZ (tw.getD i 0) x.new x.mask :: ·) else none) else (wds tw m (i + 1) (x :: xs)).map (tw.getD i 0 :: ·)
def kds (tk : List T) : Nat→Nat→List (Int × (T→Option T))→Option (List T)
  | 0,_,_ => some []
  | m + 1,i,[] => (kds tk m (i + 1) []).map (tk.getD i T0 :: ·)
  | m + 1,i,x :: xs => if x.1 = (i : Int) then (match x.2 (tk.getD i T0) with | none => none | some u => (kds tk m (i + 1) xs).map (u :: ·)) else (kds tk m (i + 1) (x :: xs)).map (tk.getD i T0 :: ·)
noncomputable def opsR (tk : List T) : Nat→List (Int × Int × List T × (T→Option T))→Option (List T × Nat)
  | a,[] => some ([],a)
  | a,(k,n,l,f) :: os =>
    if k = 0 then (if a + n.toNat≤tk.length then (opsR tk (a + n.toNat) os).map (fun r => ((tk.drop a).take n.toNat ++ r.1,r.2)) else none)
    else if k = 1 then (if a + l.length≤tk.length∧(((tk.drop a).take l.length).zip l).all (fun p => eqT p.1 p.2) = true then opsR tk (a + l.length) os else none)
    else if k = 2 then (opsR tk a os).map (fun r => (l ++ r.1,r.2))
    else match tk[a]? with
      | none => none
      | some x => match f x with
        | none => none
        | some u => (opsR tk (a + 1) os).map (fun r => (u :: r.1,r.2))
def lastW (ws : List WE) (n : Nat) : Nat := match ws.getLast? with | none => n | some x => max n (x.at_ + 1).toNat
def lastK {β : Type} (ks : List (Int × β)) (n : Nat) : Nat := match ks.getLast? with | none => n | some x => max n (x.1 + 1).toNat
noncomputable def stepE (k : Int) (o n : T) (ws : List WE) (ks : List (Int × (T→Option T))) (list : Int) (os : List (Int × Int × List T × (T→Option T))) (t : T) : Option T :=
  if k = 0 then some (norm t)
  else if k = 1 then (if eqT o t = true then some (norm n) else none)
  else if k = 2 then (if t.kind = 1 then (match wds t.words (lastW ws t.words.length) 0 ws,kds t.kids (lastK ks t.kids.length) 0 ks with
    | some w,some l => some (norm (.mk 1 w l))
    | _,_ => none) else none)
  else if k = 3 then (if t.kind = list then (match opsR t.kids 0 os with
    | some (l,a) => if a = t.kids.length then some (norm (.mk t.kind [] l)) else none
    | none => none) else none)
  else none
mutual
noncomputable def apE : E→T→Option T
  | .mk k o n ws ks l os,t => stepE k o n ws (apKs ks) l (apOs os) t
noncomputable def apKs : List KE→List (Int × (T→Option T))
  | [] => []
  | .mk a e :: r => (a,apE e) :: apKs r
noncomputable def apOs : List OP→List (Int × Int × List T × (T→Option T))
  | [] => []
  | .mk k n t e :: r => (k,n,t,apE e) :: apOs r
end
section
variable {n0 : Nat} {w0 : World} {I0 : Nat→Prop} {Q : Exit→Sta→Prop}
end
section
variable {n0 : Nat} {w0 : World} {I0 : Nat→Prop} {Q : Exit→Sta→Prop}
end
theorem mixZ_in (a b mask : Int) : u64R (mixZ a b mask) := by
  have h := ofZ_range (mixL (bytesZ a) (bytesZ b) mask 8) mixL_range
  rw [mixL_length (by rw [bytesZ_length]; exact Nat.le_refl _),bytesZ_length] at h
  have e : (256 : Int) ^ 8 = 18446744073709551616 := by decide
  rw [e] at h
  exact ⟨h.1,h.2⟩
section
variable {n0 : Nat} {w0 : World} {I0 : Nat→Prop}
noncomputable def strO (e : E) (t : T) (n m : Nat) : Option T := match wds t.words n 0 e.words,kds t.kids m 0 (apKs e.kids) with
  | some w,some l => some (.mk 1 w l)
  | _,_ => none
end
noncomputable def strA (e : E) (t : T) : Option T := if t.kind = 1 then strO e t (lastW e.words t.words.length) (lastK (apKs e.kids) t.kids.length) else none
end Go.Proofs.Ytmeldaflhkiopaa

namespace Go.Proofs.Ytmeldaflhkiopaa
set_option linter.unusedVariables false
set_option linter.unusedSimpArgs false
open Go Go.G Go.Proofs Go.PL
theorem wf_E026 : wfE E0 := wfE_iff.2 ⟨by simp [i64R],by simp [i64R],wf_T026,wf_T026,by simp,by simp,by simp,by simp,by simp,by simp⟩
theorem i64R_small {n : Int} (h1 : -1000000000≤n) (h2 : n≤1000000000) : i64R n := ⟨by omega,by omega⟩
theorem wd_wf26 {i : Nat} (hi : i≤1000000) (a b : Int) : WE.wf (wdE i a b) :=
  ⟨i64R_small (by show (-1000000000 : Int)≤i; omega) (by show (i : Int)≤1000000000; omega),unlZ_in a b,mixZ_in _ _ _,mixZ_in _ _ _⟩
theorem wf_str26 {one : T→T→E} {a b : T} (ha : a.words.length≤1000) (hb : b.words.length≤1000) (ha2 : a.kids.length≤1000) (hb2 : b.kids.length≤1000) (h : ∀ i,wfE (one (a.kids.getD i T0) (b.kids.getD i T0))) : wfE (strE one a b) := by
  have h1 := wrdL_len a b (max a.words.length b.words.length)
  have h2 := kidL26_len one a b (max a.kids.length b.kids.length)
  unfold strE
  refine wfE_iff.2 ⟨by simp [i64R],by simp [i64R],wf_T026,wf_T026,fun x hx => ?_,by show (wrdL a b _).length * 32≤_; omega,by show (kidL26 one a b _).length * 208≤_; omega,by simp,fun x hx => ?_,by simp⟩
  · have hx' : x ∈ wrdL a b (max a.words.length b.words.length) := hx
    unfold wrdL at hx'
    rw [List.mem_filterMap] at hx'
    obtain ⟨i,hi,e⟩ := hx'
    split at e
    · cases e
    · simp only [Option.some.injEq] at e
      subst e
      have : i < max a.words.length b.words.length := by simpa using hi
      exact wd_wf26 (by omega) _ _
  · obtain ⟨i,hi,e,_⟩ := kidL26_mem (show x ∈ kidL26 one a b _ from hx)
    subst e
    exact ⟨i64R_small (by show (-1000000000 : Int)≤i; omega) (by show (i : Int)≤1000000000; omega),h i⟩
theorem wfO_gop {one : T→T→E} {A B : List T} {N : Nat} (hN : N≤1000000) (lA : A.length≤1000000) (lB : B.length≤1000000) (hA : ∀ t,t ∈ A→wfT t) (hB : ∀ t,t ∈ B→wfT t) (h1 : ∀ x,x ∈ A→∀ y,y ∈ B→wfE (one x y)) {o : OP} (h : GOp one A B N o) : WfO o := by
  cases h with
  | keep n h => exact ⟨by simp [i64R],i64R_small (by show (-1000000000 : Int)≤n; omega) (by show (n : Int)≤1000000000; omega),by simp,by simp,wf_E026⟩
  | del l h g k => exact ⟨by simp [i64R],by simp [i64R],fun t ht => hA t (g t ht),by show l.length * 56≤_; omega,wf_E026⟩
  | ins l h g k => exact ⟨by simp [i64R],by simp [i64R],fun t ht => hB t (g t ht),by show l.length * 56≤_; omega,wf_E026⟩
  | desc x y hx hy => exact ⟨by simp [i64R],by simp [i64R],by simp,by simp,h1 x hx y hy⟩
theorem wf_rep26 {a b : T} (ha : wfT a) (hb : wfT b) : wfE (.mk 1 a b [] [] 0 []) := wfE_iff.2 ⟨by simp [i64R],by simp [i64R],ha,hb,by simp,by simp,by simp,by simp,by simp,by simp⟩
theorem wf_list26 {one : T→T→E} {most : Int} {a b : T} (wfa : wfT a) (ha : a.kids.length≤1000) (hb : b.kids.length≤1000) (wa : ∀ t,t ∈ a.kids→wfT t) (wb : ∀ t,t ∈ b.kids→wfT t) (h : ∀ x,x ∈ a.kids→∀ y,y ∈ b.kids→wfE (one x y)) : wfE (listE one most a b) := by
  have h1 := lstO_len one most a b
  rw [listE_eq]
  exact wfE_iff.2 ⟨by simp [i64R],(wfT_iff.1 wfa).k,wf_T026,wf_T026,by simp,by simp,by simp,by show (lstO one most a b).length * 240≤_; omega,by simp,fun x hx => wfO_gop (by omega) (by omega) (by omega) wa wb h (lstO_mem one most a b x hx)⟩
theorem wf_one26 (most : Int) : ∀ (f g : Nat) (a b : T),okT f a→okT g b→wfE (oneE most f a b)
  | 0,g,a,b,ha,hb => by
    rw [oneE]
    split
    · exact wf_E026
    · exact wf_rep26 (okT_facts ha).1 (okT_facts hb).1
  | f + 1,g,a,b,ha,hb => by
    obtain ⟨a1,a2,a3,a4⟩ := okT_facts ha
    obtain ⟨b1,b2,b3,b4⟩ := okT_facts hb
    rw [oneE]
    split
    · exact wf_E026
    · split
      · exact wf_str26 a3 b3 a4 b4 fun i => wf_one26 most f (g - 1) _ _ (okT_at ha i) (okT_at hb i)
      · split
        · exact wf_list26 a1 a4 b4 (fun t ht => (okT_facts (okT_kids ha t ht)).1) (fun t ht => (okT_facts (okT_kids hb t ht)).1) fun x hx y hy => wf_one26 most f (g - 1) x y (okT_kids ha x hx) (okT_kids hb y hy)
        · exact wf_rep26 a1 b1
theorem wrap_in26 (n : Int) : i64R (IntKind.i64.wrap n) := by
  rw [IntKind.wrap_i64]
  exact ⟨by omega,by omega⟩
theorem wfO_kp {out : List OP} {n : Int} (h : ∀ o,o ∈ out→WfO o) (hn : i64R n) : ∀ o,o ∈ kpO out n→WfO o := by
  unfold kpO
  split
  · rename_i m l e he
    intro o ho
    have hm := List.mem_of_getLast? he
    rcases List.mem_append.1 ho with ho | ho
    · exact h o (List.dropLast_subset _ ho)
    · rw [List.mem_singleton] at ho
      subst ho
      have := h _ hm
      exact ⟨this.k,wrap_in26 _,this.l,this.ll,this.e⟩
  · intro o ho
    rcases List.mem_append.1 ho with ho | ho
    · exact h o ho
    · rw [List.mem_singleton] at ho
      subst ho
      exact ⟨by simp [i64R],hn,by simp,by simp,wf_E026⟩
theorem wfO_fl {out : List OP} {g b : List T} (h : ∀ o,o ∈ out→WfO o) (hg : ∀ t,t ∈ g→wfT t) (hb : ∀ t,t ∈ b→wfT t) (lg : g.length≤1000000) (lb : b.length≤1000000) : ∀ o,o ∈ flO out g b→WfO o := by
  intro o ho
  unfold flO delO insO at ho
  rcases List.mem_append.1 ho with ho | ho
  · exact h o ho
  · rcases List.mem_append.1 ho with ho | ho
    · split at ho
      · simp at ho
      · rw [List.mem_singleton] at ho
        subst ho
        exact ⟨by simp [i64R],by simp [i64R],hg,by show g.length * 56≤_; omega,wf_E026⟩
    · split at ho
      · simp at ho
      · rw [List.mem_singleton] at ho
        subst ho
        exact ⟨by simp [i64R],by simp [i64R],hb,by show b.length * 56≤_; omega,wf_E026⟩
def WfS (o : OP) : Prop := i64R o.n∧(∀ t,t ∈ o.l→wfT t)∧(o.kind = 0∨o.kind = 1∨o.kind = 2∨o.kind = 3)∧(o.kind = 3→wfE o.e)
theorem opsW_wf (list : Int) : ∀ (os out : List OP) (g b : List T),(∀ o,o ∈ os→WfS o)→(∀ o,o ∈ out→WfO o)→(∀ t,t ∈ g→wfT t)→(∀ t,t ∈ b→wfT t)→g.length + b.length + sumO os≤1000000→∀ o,o ∈ opsW list os out g b→WfO o
  | [],out,g,b,h1,h2,h3,h4,h5 => by
    rw [opsW]
    exact wfO_fl h2 h3 h4 (by omega) (by omega)
  | x :: os,out,g,b,h1,h2,h3,h4,h5 => by
    rw [sumO_cons] at h5
    have hx := h1 x (by simp)
    have hos : ∀ o,o ∈ os→WfS o := fun o ho => h1 o (List.mem_cons_of_mem _ ho)
    have fl := wfO_fl h2 h3 h4 (by omega) (by omega)
    have nn : ∀ (l : List T),(∀ t,t ∈ l→wfT t)→∀ t,t ∈ l ++ x.l.map norm→wfT t := fun l hl t ht => by
      rcases List.mem_append.1 ht with ht | ht
      · exact hl t ht
      · obtain ⟨u,hu,rfl⟩ := List.mem_map.1 ht
        exact wf_norm _ (hx.2.1 u hu)
    have z : ∀ t : T,t ∈ ([] : List T)→wfT t := by simp
    rw [opsW]
    split
    · exact opsW_wf list os _ _ _ hos (wfO_kp fl hx.1) z z (by simp; omega)
    · split
      · exact opsW_wf list os _ _ _ hos h2 (nn g h3) h4 (by simp; omega)
      · split
        · exact opsW_wf list os _ _ _ hos h2 h3 (nn b h4) (by simp; omega)
        · split
          · exact opsW_wf list os _ _ _ hos (wfO_kp fl (by simp [i64R])) z z (by simp; omega)
          · refine opsW_wf list os _ _ _ hos (fun o ho => ?_) z z (by simp; omega)
            rcases List.mem_append.1 ho with ho | ho
            · exact fl o ho
            · rw [List.mem_singleton] at ho
              subst ho
              exact ⟨by simp [i64R],by simp [i64R],by simp,by simp,hx.2.2.2 (by have := hx.2.2.1; omega)⟩
theorem kpO_len (out : List OP) (n : Int) : (kpO out n).length≤out.length + 1 := by
  unfold kpO
  split
  · simp
    try omega
  · simp
theorem flO_len (out : List OP) (g b : List T) : (flO out g b).length≤out.length + 2 := by
  unfold flO delO insO
  split <;> split <;> simp
theorem opsW_len (list : Int) : ∀ (os out : List OP) (g b : List T),(opsW list os out g b).length≤out.length + 3 * os.length + 2
  | [],out,g,b => by
    rw [opsW]
    have := flO_len out g b
    simp; omega
  | x :: os,out,g,b => by
    have h1 := flO_len out g b
    have h2 := kpO_len (flO out g b)
    rw [opsW,List.length_cons]
    split
    · have := opsW_len list os (kpO (flO out g b) x.n) [] []
      have := h2 x.n
      omega
    · split
      · have := opsW_len list os out (g ++ x.l.map norm) b
        omega
      · split
        · have := opsW_len list os out g (b ++ x.l.map norm)
          omega
        · split
          · have := opsW_len list os (kpO (flO out g b) 1) [] []
            have := h2 1
            omega
          · have := opsW_len list os (flO out g b ++ [.mk 3 0 [] x.e]) [] []
            simp at this
            omega
theorem sumO_nOP (os : List OP) : sumO (os.map nOP) = sumO os := by
  unfold sumO
  rw [List.map_map]
  rfl
theorem wf_nEd : ∀ e : E,wfE e→nOk e→wfE (nEd e) := by
  refine E.ind fun k o n ws ks l os ihk iho hw h => ?_
  rw [nOk] at h
  obtain ⟨hk,hl,hon,hwl,hkl,hol,hsum,hks,hos⟩ := h
  have w := wfE_iff.1 hw
  rw [nEd_mk]
  split
  · exact wf_rep26 (wf_norm _ w.o) (wf_norm _ w.n)
  · split
    · rename_i h1 h2
      refine wfE_iff.2 ⟨by simp [i64R],by simp [i64R],wf_T026,wf_T026,w.w,w.wl,by show (ks.map nKE).length * 208≤_; simp; omega,by simp,fun x hx => ?_,by simp⟩
      obtain ⟨y,hy,rfl⟩ := List.mem_map.1 (show x ∈ ks.map nKE from hx)
      have := w.ks y hy
      exact ⟨this.1,ihk y hy this.2 (nOkK_all (hks h2) y hy)⟩
    · split
      · rename_i h1 h2 h3
        have hO : ∀ o,o ∈ os.map nOP→WfS o := fun o ho => by
          obtain ⟨y,hy,rfl⟩ := List.mem_map.1 ho
          have g1 := w.os y hy
          obtain ⟨g2,g3,g4⟩ := nOkO_all (hos h3) y hy
          exact ⟨g1.n,g3,g2,fun e => iho y hy g1.e (g4 e)⟩
        have hlen := opsW_len l (os.map nOP) [] [] []
        simp at hlen
        refine wfE_iff.2 ⟨by simp [i64R],w.l,wf_T026,wf_T026,by simp,by simp,by simp,by show (opsW l (os.map nOP) [] [] []).length * 240≤_; omega,by simp,fun x hx => opsW_wf l _ _ _ _ hO (by simp) (by simp) (by simp) (by rw [sumO_nOP]; simpa using hsum) x hx⟩
      · exact wf_E026
theorem wf_df {a b : T} (ha : wfT a) (hb : wfT b) (pa : partsT a≤1000) (pb : partsT b≤1000) {most : Int} : wfE (dfE most a b) := by
  have oa := okT_norm26 a ha pa 1000 pa
  have ob := okT_norm26 b hb pb 1000 pb
  exact wf_nEd _ (wf_one26 most 1000 1000 _ _ oa ob) (nOk_one most 1000 1000 _ _ oa ob)
end Go.Proofs.Ytmeldaflhkiopaa

namespace Go.Proofs.Ytmeldaflhkiopaa
set_option linter.unusedVariables false
set_option linter.unusedSimpArgs false
open Go Go.G Go.Proofs Go.PL
theorem kp_app {out : List OP} {n : Int} (h : ∀ m l e,out.getLast? ≠ some (.mk 0 m l e)) : kpO out n = out ++ [.mk 0 n [] E0] := by
  unfold kpO
  split
  · rename_i m l e he
    exact absurd he (h m l e)
  · rfl
theorem norm_maps (l : List T) : (l.map norm).map norm = l.map norm := by
  rw [List.map_map]
  exact List.map_congr_left fun x _ => norm_norm x
theorem nEd_E0 : nEd E0 = E0 := by unfold E0; rw [nEd_mk]; simp
end Go.Proofs.Ytmeldaflhkiopaa

namespace Go.Proofs.Ytmeldaflhkiopaa
set_option linter.unusedVariables false
set_option linter.unusedSimpArgs false
open Go Go.G Go.Proofs Go.PL
inductive WOk {α β : Type} (R : α→β→Prop) : List Nat→List α→List β→Prop
  | nil : WOk R [] [] []
  | keep {us : List Nat} {a : List α} {b : List β} (x : α) (y : β) (h : R x y) : WOk R us a b→WOk R (0 :: us) (x :: a) (y :: b)
  | del {us : List Nat} {a : List α} {b : List β} (x : α) : WOk R us a b→WOk R (1 :: us) (x :: a) b
  | ins {us : List Nat} {a : List α} {b : List β} (y : β) : WOk R us a b→WOk R (2 :: us) a (y :: b)
section
variable {α β : Type} {R : α→β→Prop}
theorem wok_app {us vs : List Nat} {a c : List α} {b d : List β} (h : WOk R us a b) (g : WOk R vs c d) : WOk R (us ++ vs) (a ++ c) (b ++ d) := by
  induction h with
  | nil => exact g
  | keep x y h _ ih => exact .keep x y h ih
  | del x _ ih => exact .del x ih
  | ins y _ ih => exact .ins y ih
theorem wok_split : ∀ {us vs : List Nat} {a : List α} {b : List β},WOk R (us ++ vs) a b→∃ a1 a2 b1 b2,a = a1 ++ a2∧b = b1 ++ b2∧WOk R us a1 b1∧WOk R vs a2 b2
  | [],vs,a,b,h => ⟨[],a,[],b,rfl,rfl,.nil,h⟩
  | u :: us,vs,a,b,h => by
    cases h with
    | keep x y r h =>
      obtain ⟨a1,a2,b1,b2,rfl,rfl,h1,h2⟩ := wok_split h
      exact ⟨x :: a1,a2,y :: b1,b2,rfl,rfl,.keep x y r h1,h2⟩
    | del x h =>
      obtain ⟨a1,a2,b1,b2,rfl,rfl,h1,h2⟩ := wok_split h
      exact ⟨x :: a1,a2,b1,b2,rfl,rfl,.del x h1,h2⟩
    | ins y h =>
      obtain ⟨a1,a2,b1,b2,rfl,rfl,h1,h2⟩ := wok_split h
      exact ⟨a1,a2,y :: b1,b2,rfl,rfl,.ins y h1,h2⟩
theorem wok_ins : ∀ (b : List β),WOk R (List.replicate b.length 2) [] b
  | [] => .nil
  | y :: b => .ins y (wok_ins b)
theorem wok_dels : ∀ (a : List α),WOk R (List.replicate a.length 1) a []
  | [] => .nil
  | x :: a => .del x (wok_dels a)
theorem wok_comm : ∀ (i : Nat) {us : List Nat} {a : List α} {b : List β},WOk R (List.replicate i 2 ++ 1 :: us) a b→WOk R (1 :: (List.replicate i 2 ++ us)) a b
  | 0,us,a,b,h => h
  | i + 1,us,a,b,h => by
    cases h with
    | ins y h =>
      cases wok_comm i h with
      | del x h => exact .del x (.ins y h)
theorem wok_ins_inv : ∀ (n : Nat) {a : List α} {b : List β},WOk R (List.replicate n 2) a b→a = []∧b.length = n
  | 0,a,b,h => by cases h; exact ⟨rfl,rfl⟩
  | n + 1,a,b,h => by
    cases h with
    | ins y h =>
      obtain ⟨h1,h2⟩ := wok_ins_inv n h
      exact ⟨h1,by simp [h2]⟩
theorem wok_del_inv : ∀ (n : Nat) {a : List α} {b : List β},WOk R (List.replicate n 1) a b→b = []∧a.length = n
  | 0,a,b,h => by cases h; exact ⟨rfl,rfl⟩
  | n + 1,a,b,h => by
    cases h with
    | del y h =>
      obtain ⟨h1,h2⟩ := wok_del_inv n h
      exact ⟨h1,by simp [h2]⟩
theorem wok_goU : ∀ (us : List Nat) (k d i : Nat) {a : List α} {b : List β},(k = 0∨(d = 0∧i = 0))→WOk R (List.replicate k 0 ++ (List.replicate d 1 ++ (List.replicate i 2 ++ us))) a b→WOk R (unitsS (goU us k d i)) a b
  | [],k,d,i,a,b,hc,h => by
    simp only [goU,units_app,units_fl]
    simpa using h
  | x :: us,k,d,i,a,b,hc,h => by
    rw [goU]
    by_cases h0 : x = 0
    · subst h0
      rw [if_pos rfl]
      simp only [units_app,units_fl]
      have e : List.replicate k 0 ++ (List.replicate d 1 ++ (List.replicate i 2 ++ 0 :: us)) = (List.replicate d 1 ++ List.replicate i 2) ++ (List.replicate (k + 1) 0 ++ us) := by
        rcases hc with rfl | ⟨rfl,rfl⟩
        · simp
        · simp [List.replicate_succ']
      rw [e] at h
      obtain ⟨a1,a2,b1,b2,rfl,rfl,h1,h2⟩ := wok_split h
      rw [← List.append_assoc]
      exact wok_app h1 (wok_goU us (k + 1) 0 0 (.inr ⟨rfl,rfl⟩) (by simpa using h2))
    · rw [if_neg h0]
      simp only [units_app,units_fl]
      obtain ⟨a1,a2,b1,b2,rfl,rfl,h1,h2⟩ := wok_split h
      refine wok_app h1 ?_
      by_cases h3 : x = 1
      · subst h3
        rw [if_pos rfl]
        refine wok_goU us 0 (d + 1) i (.inl rfl) ?_
        obtain ⟨a3,a4,b3,b4,rfl,rfl,h4,h5⟩ := wok_split h2
        have := wok_app h4 (wok_comm i h5)
        have e : List.replicate d 1 ++ (1 :: (List.replicate i 2 ++ us)) = List.replicate (d + 1) 1 ++ (List.replicate i 2 ++ us) := by simp [List.replicate_succ']
        rw [e] at this
        simpa using this
      · rw [if_neg h3]
        obtain ⟨a3,a4,b3,b4,rfl,rfl,h4,h5⟩ := wok_split h2
        obtain ⟨a5,a6,b5,b6,rfl,rfl,h6,h7⟩ := wok_split h5
        clear h h2 h5
        cases h7 with
        | keep x y r w => exact absurd rfl h0
        | del x w => exact absurd rfl h3
        | ins y w =>
          refine wok_goU us 0 d (i + 1) (.inl rfl) ?_
          have := wok_app h4 (wok_app h6 (.ins y w))
          have e : List.replicate d 1 ++ (List.replicate i 2 ++ 2 :: us) = List.replicate d 1 ++ (List.replicate (i + 1) 2 ++ us) := by simp [List.replicate_succ']
          rw [e] at this
          simpa using this
theorem wok_nrm {us : List Nat} {a : List α} {b : List β} (h : WOk R us a b) : WOk R (unitsS (nrmS us)) a b := wok_goU us 0 0 0 (.inl rfl) (by simpa using h)
end
theorem wok_map {α β : Type} {f : α→β} : ∀ {us : List Nat} {a b : List α},WOk (fun x y : β => x = y) us (a.map f) (b.map f)→WOk (fun x y => f x = f y) us a b
  | us,[],[],h => by cases h; exact .nil
  | us,x :: a,[],h => by
    cases h with
    | del x h => exact .del _ (wok_map (b := []) h)
  | us,[],y :: b,h => by
    cases h with
    | ins x h => exact .ins _ (wok_map (a := []) h)
  | us,x :: a,y :: b,h => by
    cases h with
    | keep x y r h => exact .keep _ _ r (wok_map h)
    | del x h => exact .del _ (wok_map (b := y :: b) h)
    | ins x h => exact .ins _ (wok_map (a := x :: a) h)
theorem wok_imp {α β : Type} {R R' : α→β→Prop} {us : List Nat} {a : List α} {b : List β} (h : ∀ x,x ∈ a→∀ y,y ∈ b→R x y→R' x y) (w : WOk R us a b) : WOk R' us a b := by
  induction w with
  | nil => exact .nil
  | keep x y r _ ih => exact .keep x y (h x (by simp) y (by simp) r) (ih fun p hp q hq => h p (List.mem_cons_of_mem _ hp) q (List.mem_cons_of_mem _ hq))
  | del x _ ih => exact .del x (ih fun p hp q hq => h p (List.mem_cons_of_mem _ hp) q hq)
  | ins y _ ih => exact .ins y (ih fun p hp q hq => h p hp q (List.mem_cons_of_mem _ hq))
def cK (us : List Nat) : Nat := us.countP fun x => x == 0
theorem cK_app (a b : List Nat) : cK (a ++ b) = cK a + cK b := List.countP_append
theorem cK_rep (n k : Nat) : cK (List.replicate n k) = if k = 0 then n else 0 := by unfold cK; rw [List.countP_replicate]; by_cases h : k = 0 <;> simp [h]
theorem cK_cons (x : Nat) (us : List Nat) : cK (x :: us) = (if x = 0 then 1 else 0) + cK us := by
  unfold cK
  rw [List.countP_cons]
  by_cases h : x = 0 <;> simp [h]
  omega
theorem goU_cK : ∀ (us : List Nat) (k d i : Nat),cK (unitsS (goU us k d i)) = k + cK us
  | [],k,d,i => by
    simp only [goU,units_app,units_fl,cK_app,cK_rep]
    simp [cK]
  | x :: us,k,d,i => by
    rw [goU,cK_cons]
    by_cases h : x = 0
    · rw [if_pos h,if_pos h]
      simp only [units_app,units_fl,cK_app,cK_rep,goU_cK us]
      simp
      omega
    · rw [if_neg h,if_neg h]
      by_cases h1 : x = 1
      · rw [if_pos h1]
        simp only [units_app,units_fl,cK_app,cK_rep,goU_cK us]
        simp
      · rw [if_neg h1]
        simp only [units_app,units_fl,cK_app,cK_rep,goU_cK us]
        simp
theorem nrm_cK (us : List Nat) : cK (unitsS (nrmS us)) = cK us := by
  have := goU_cK us 0 0 0
  unfold nrmS
  omega
theorem fstI_has (x : Int) : ∀ b : List Int,fstI x b < b.length ↔ x ∈ b := by
  intro b
  constructor
  · intro h
    have := fstI_at x h
    rw [← this]
    exact List.getElem_mem h
  · intro h
    apply Classical.byContradiction
    intro hn
    have hle := fstI_le x b
    have he : fstI x b = b.length := by omega
    have := fstI_not x (b := b) (j := b.length) (by omega)
    rw [List.take_of_length_le (Nat.le_refl _)] at this
    exact this h
theorem wok_one (x : Int) (b : List Int) : WOk (fun x y : Int => x = y) (wayU [x] b) [x] b := by
  rw [wayU_one]
  split
  · rename_i h
    have e : b = b.take (fstI x b) ++ (b[fstI x b] :: b.drop (fstI x b + 1)) := by
      conv => lhs; rw [← List.take_append_drop (fstI x b) b]
      rw [List.getElem_cons_drop]
    have h1 := wok_ins (R := fun x y : Int => x = y) (b.take (fstI x b))
    have h2 := wok_ins (R := fun x y : Int => x = y) (b.drop (fstI x b + 1))
    rw [List.length_take,Nat.min_eq_left (by omega)] at h1
    rw [List.length_drop,show b.length - (fstI x b + 1) = b.length - fstI x b - 1 by omega] at h2
    have := wok_app h1 (.keep x b[fstI x b] (fstI_at x h).symm h2)
    rw [← e] at this
    exact this
  · exact .del x (wok_ins b)
theorem cK_one (x : Int) (b : List Int) : cK (wayU [x] b) = lcsL [x] b := by
  rw [wayU_one,lcs_one]
  have := fstI_has x b
  split
  · rename_i h
    rw [if_pos (this.1 h),cK_app,cK_cons,cK_rep,cK_rep]
    simp
  · rename_i h
    rw [if_neg (fun hx => h (this.2 hx)),cK_cons,cK_rep]
    simp
theorem wok_way : ∀ (a b : List Int),WOk (fun x y : Int => x = y) (wayU a b) a b∧cK (wayU a b) = lcsL a b
  | [],b => by
    rw [wayU_nil]
    exact ⟨wok_ins b,by rw [cK_rep]; simp⟩
  | x :: a,b => by
    have hw := way_on (a := x :: a) (b := b) (i := 1) (by simp)
    rw [wayU_half (x :: a) b (h := 1) (by simp)]
    generalize wayN (x :: a) b 1 = w at *
    have e1 : (x :: a).take 1 = [x] := by simp
    have e2 : (x :: a).drop 1 = a := by simp
    rw [e1,e2]
    obtain ⟨g1,g2⟩ := wok_way a (b.drop w)
    constructor
    · have := wok_app (wok_one x (b.take w)) g1
      rw [List.take_append_drop] at this
      exact this
    · rw [cK_app,cK_one,g2]
      have h := hw.1
      unfold onW at h
      have h := of_decide_eq_true h
      unfold cmn at h
      rw [sg_zero,sg_zero,sg_end,sg_end,e1,e2] at h
      exact h
theorem wok_sub {us : List Nat} {a b : List Int} (w : WOk (fun x y : Int => x = y) us a b) : ∃ s : List Int,List.Sublist s a∧List.Sublist s b∧s.length = cK us := by
  induction w with
  | nil => exact ⟨[],List.Sublist.refl _,List.Sublist.refl _,rfl⟩
  | keep x y r _ ih =>
    obtain ⟨s,h1,h2,h3⟩ := ih
    have r' : x = y := r
    subst r'
    exact ⟨x :: s,h1.cons_cons x,h2.cons_cons x,by rw [cK_cons]; simp; omega⟩
  | del x _ ih =>
    obtain ⟨s,h1,h2,h3⟩ := ih
    exact ⟨s,h1.cons x,h2,by rw [cK_cons]; simp; omega⟩
  | ins y _ ih =>
    obtain ⟨s,h1,h2,h3⟩ := ih
    exact ⟨s,h1,h2.cons y,by rw [cK_cons]; simp; omega⟩
theorem wok_le {us : List Nat} {a b : List Int} (h : WOk (fun x y : Int => x = y) us a b) : cK us≤lcsL a b := by
  obtain ⟨s,h1,h2,h3⟩ := wok_sub h
  have := lcs_max h1 h2
  omega
theorem clsK_mem {ks : List T} {n : T} (h : n ∈ ks) : clsK ks n = ks∧ks[clsI ks n]? = some n := by
  have h1 : clsI ks n < ks.length := by
    unfold clsI
    exact List.findIdx_lt_length_of_exists ⟨n,h,sameB_iff.2 rfl⟩
  have e : clsK ks n = ks := by unfold clsK; rw [if_pos h1]
  have := clsK_at ks n
  rw [e] at this
  exact ⟨e,this⟩
theorem clsL_all : ∀ (l K : List T),(∀ t,t ∈ l→norm t ∈ K)→clsL K l = (K,l.map fun t => clsI K (norm t))
  | [],K,_ => rfl
  | t :: l,K,h => by
    rw [clsL,(clsK_mem (h t (by simp))).1,clsL_all l K fun x hx => h x (List.mem_cons_of_mem _ hx)]
    rfl
theorem clsL_mem : ∀ (l ks : List T),∀ t,t ∈ l→norm t ∈ (clsL ks l).1
  | x :: l,ks,t,h => by
    rw [clsL]
    rcases List.mem_cons.1 h with rfl | h
    · have h1 := clsL_prefix l (clsK ks (norm t))
      have h2 := clsK_at ks (norm t)
      exact h1.subset (List.mem_of_getElem? h2)
    · exact clsL_mem l _ t h
theorem clsI_inj {K : List T} {s t : T} (hs : norm s ∈ K) (ht : norm t ∈ K) (h : clsI K (norm s) = clsI K (norm t)) : norm s = norm t := by
  have h1 := (clsK_mem hs).2
  have h2 := (clsK_mem ht).2
  rw [h,h2] at h1
  exact (Option.some.inj h1).symm
noncomputable def kAB (a b : List T) : List T := (clsL (clsL [] a).1 b).1
noncomputable def clZ (a b : List T) (t : T) : Int := (clsI (kAB a b) (norm t) : Nat)
theorem kAB_nodup (a b : List T) : (kAB a b).Nodup := clsL_nodup (clsL_nodup List.nodup_nil)
theorem kAB_a (a b : List T) : ∀ t,t ∈ a→norm t ∈ kAB a b := fun t ht => (clsL_prefix b (clsL [] a).1).subset (clsL_mem a [] t ht)
theorem kAB_b (a b : List T) : ∀ t,t ∈ b→norm t ∈ kAB a b := clsL_mem b _
theorem ca_map (a b : T) : caL a = a.kids.map (clZ a.kids b.kids) := by
  have h1 := clsL_stays (l := a.kids) (ks := []) (ks' := kAB a.kids b.kids) (clsL_prefix b.kids _) (kAB_nodup _ _)
  rw [clsL_all _ _ (kAB_a a.kids b.kids)] at h1
  have h2 : (clsL [] a.kids).2 = a.kids.map fun t => clsI (kAB a.kids b.kids) (norm t) := (Prod.mk.inj h1).2.symm
  unfold caL zsN
  rw [h2,List.map_map]
  rfl
theorem cb_map (a b : T) : cbL a b = b.kids.map (clZ a.kids b.kids) := by
  have h1 := clsL_stays (l := b.kids) (ks := (clsL [] a.kids).1) (ks' := kAB a.kids b.kids) List.prefix_rfl (kAB_nodup _ _)
  rw [clsL_all _ _ (kAB_b a.kids b.kids)] at h1
  have h2 : (clsL (clsL [] a.kids).1 b.kids).2 = b.kids.map fun t => clsI (kAB a.kids b.kids) (norm t) := (Prod.mk.inj h1).2.symm
  unfold cbL zsN
  rw [h2,List.map_map]
  rfl
theorem clZ_eq {a b : List T} {s t : T} (hs : norm s ∈ kAB a b) (ht : norm t ∈ kAB a b) : clZ a b s = clZ a b t ↔ norm s = norm t := by
  constructor
  · intro h
    unfold clZ at h
    exact clsI_inj hs ht (by omega)
  · intro h
    unfold clZ
    rw [h]
theorem wok_kids (a b : T) : WOk (fun x y => norm x = norm y) (unitsS (nrmS (wayU (caL a) (cbL a b)))) a.kids b.kids := by
  have h := (wok_way (caL a) (cbL a b)).1
  have h := wok_nrm h
  rw [ca_map a b,cb_map a b] at h ⊢
  refine wok_imp (fun x hx y hy e => ?_) (wok_map h)
  exact (clZ_eq (kAB_a _ _ x hx) (kAB_b _ _ y hy)).1 e
end Go.Proofs.Ytmeldaflhkiopaa
