/-
  Texts, merged, without what is not reached.
-/
import Derived.Test.YtmeldaflhkiopaaGreatKLf
namespace Go.Proofs.YtmeldaflhkiopaaGreat
set_option linter.unusedVariables false
set_option linter.unusedSimpArgs false
open Go Go.G Go.Proofs Go.PL
theorem right_zero {c : T} (h : rightT 0 c = true) (hk : c.kind ≠ 10) : c = T0 := by
  obtain ⟨k,w,l⟩ := c
  have hk : k ≠ 10 := hk
  rw [rightT_mk] at h
  by_cases h0 : k = 0
  · rw [if_pos h0] at h
    simp at h
    rw [h0,h.1,h.2]
  · rw [if_neg h0,if_neg hk,if_pos (by simp [tooBig])] at h
    cases h
theorem kid_no10 {k : Int} {c : T} (h : kidOk k c = true) (h2 : ¬ (2≤k∧k≤7)) : c.kind ≠ 10 := by
  intro e
  unfold kidOk at h
  have : isData k = false := by unfold isData; simp; omega
  rw [this] at h
  simp [e] at h
theorem kid_10 {k : Int} {c : T} (h : kidOk k c = true) (h2 : 2≤k∧k≤7) : c.kind = 10 := by
  unfold kidOk at h
  have : isData k = true := by unfold isData; simp; omega
  rw [this] at h
  simp at h
  exact h.1.1
theorem kid_9 {c : T} (h : kidOk 9 c = true) : c.kind = 1 := by
  unfold kidOk at h
  simp at h
  exact h.1.2
theorem right_kidAt {d : Nat} {t : T} (h : rightT d t = true) (hk : t.kind = 1) (i : Nat) : rightT (d - 1) (t.kids.getD i T0) = true∧(t.kids.getD i T0).kind ≠ 10 := by
  rw [List.getD_eq_getElem?_getD]
  cases e : t.kids[i]? with
  | none => exact ⟨right_null _,by simp⟩
  | some z =>
    obtain ⟨k,w,l⟩ := t
    have hk : k = 1 := hk
    subst hk
    have := rightT_struct h z (List.mem_of_getElem? e)
    exact ⟨this.1,kid_no10 this.2 (by omega)⟩
theorem right_one26 (most : Int) : ∀ (f g d : Nat) (a b : T),okT f a→okT g b→rightT d a = true→rightT d b = true→d≤64→d ≠ 0→a.kind ≠ 10→b.kind ≠ 10→rightE d (nEd (oneE most f a b)) = true := by
  intro f
  have rep : ∀ {d : Nat} {a b : T},rightT d a = true→rightT d b = true→d≤64→d ≠ 0→a.kind ≠ 10→b.kind ≠ 10→rightE d (nEd (.mk 1 a b [] [] 0 [])) = true := fun {d a b} ra rb hd h0 ka kb => by
    rw [nEd_mk,if_pos rfl]
    exact right_rep h0 (right_norm a 64 (rightT_mono a d 64 hd ra)) (right_norm b 64 (rightT_mono b d 64 hd rb)) (by rw [norm_kind]; exact ka) (by rw [norm_kind]; exact kb)
  induction f with
  | zero =>
    intro g d a b oa ob ra rb hd h0 ka kb
    rw [oneE]
    split
    · rw [nEd_E0]; exact right_E0 h0
    · exact rep ra rb hd h0 ka kb
  | succ f ih =>
    intro g d a b oa ob ra rb hd h0 ka kb
    obtain ⟨a1,a2,a3,a4⟩ := okT_facts oa
    obtain ⟨b1,b2,b3,b4⟩ := okT_facts ob
    have na := nW_right (f + 1) d a ra
    have nb := nW_right (f + 1) d b rb
    rw [oneE]
    split
    · rw [nEd_E0]; exact right_E0 h0
    · split
      · rename_i hne hk
        unfold strE
        rw [nEd_mk,if_neg (by decide),if_pos rfl]
        have hkind : ∀ i,(nEd (oneE most f (a.kids.getD i T0) (b.kids.getD i T0))).kind = (oneE most f (a.kids.getD i T0) (b.kids.getD i T0)).kind := fun i => nEd_kind (ld_one most f (g - 1) _ _ (okT_at oa i) (okT_at ob i) (nW_at na i) (nW_at nb i))
        have W := wordsOk_wrd (a := a) (b := b) (max a.words.length b.words.length) 0 (-1) (by omega) (by omega)
        rw [← List.range_eq_range'] at W
        have K := rightKs_kid (one := oneE most f) (a := a) (b := b) (d := d - 1) hkind (fun i hi hc => by
          obtain ⟨q1,q2⟩ := right_kidAt ra hk.1 i
          obtain ⟨q3,q4⟩ := right_kidAt rb hk.2 i
          refine ih (g - 1) (d - 1) _ _ (okT_at oa i) (okT_at ob i) q1 q3 (by omega) (fun hz => hc ?_) q2 q4
          rw [hz] at q1 q3
          rw [right_zero q1 q2,right_zero q3 q4]
          have : eqT T0 T0 = true := eqT_iff.2 rfl
          cases f with
          | zero => rw [oneE,if_pos this]; rfl
          | succ f => rw [oneE,if_pos this]; rfl) (max a.kids.length b.kids.length) 0 (-1) (by omega) (by omega) (by omega)
        rw [← List.range_eq_range'] at K
        exact rightE_iff.2 ⟨h0,by omega,by omega,fun _ => ⟨rfl,rfl⟩,fun h => absurd rfl h,fun _ => ⟨rfl,rfl⟩,fun h => absurd h (by decide),W,K,fun h => absurd h (by decide),by simp,by simp [lengths]⟩
      · split
        · rename_i hne hns hk
          rw [listE_eq,nEd_mk,if_neg (by decide),if_neg (by decide),if_pos rfl]
          have hl2 := hk.2.1
          have hl9 := hk.2.2
          obtain ⟨kd,wa,la⟩ := a
          obtain ⟨kd2,wb,lb⟩ := b
          have hkk : kd = kd2 := hk.1
          subst hkk
          have hl2 : 2≤kd := hl2
          have hl9 : kd≤9 := hl9
          have Ra := rightT_struct ra
          have Rb := rightT_struct rb
          have hFew : ∀ t,t ∈ la→FewK f t := fun t ht => by
            have key : ∀ (f g : Nat) (t : T),okT g t→FewK f t := fun f => by
              induction f with
              | zero => exact fun g t _ => trivial
              | succ f ih => exact fun g t h => ⟨by have := (okT_facts h).2.2.2; omega,fun k hk => ih (g - 1) k (okT_kids h k hk)⟩
            exact key f f t (okT_kids oa t ht)
          have hone := fun x (hx : x ∈ la) y (hy : y ∈ lb) => ld_one most f (g - 1) x y (okT_kids oa x hx) (okT_kids ob y hy) (na.2 x hx) (nb.2 y hy)
          have a4' : la.length≤1000 := a4
          have b4' : lb.length≤1000 := b4
          have L := ldO_W (list := kd) (P := FewK f) (fun e x y hx r => ld_nEd f e x y hx r) (ldO_lst (R := Ld f) (one := oneE most f) (most := most) (a := .mk kd wa la) (b := .mk kd wb lb) hone) hFew [] [] [] [] [] [] [] .nil rfl rfl (by show 0 + 0 + la.length≤_; omega)
          simp only [List.nil_append] at L
          have hWr := wr_out (list := kd) ((lstO (oneE most f) most (.mk kd wa la) (.mk kd wb lb)).map nOP) [] [] [] (fun x hx e0 e1 e2 => by
            obtain ⟨y,hy,rfl⟩ := List.mem_map.1 hx
            cases lstO_mem (oneE most f) most _ _ y hy with
            | keep n h => exact absurd rfl e0
            | del l h g k => exact absurd rfl e1
            | ins l h g k => exact absurd rfl e2
            | desc p q hp hq => exact nEd_nEd _ (nOk_one most f (g - 1) p q (okT_kids oa p hp) (okT_kids ob q hq))) trivial (by show (4 : Int) ≠ 1∧(4 : Int) ≠ 2; decide) rfl rfl
          have hGt : ∀ t,(t ∈ la∨t ∈ lb)→norm t = t∧rightT 64 (.mk kd [] [t]) = true := fun t ht => by
            have h1 : norm t = t := by
              rcases ht with ht | ht
              · exact (okT_facts (okT_kids oa t ht)).2.1
              · exact (okT_facts (okT_kids ob t ht)).2.1
            have h2 : rightT (d - 1) t = true∧kidOk kd t = true := by
              rcases ht with ht | ht
              · exact Ra t ht
              · exact Rb t ht
            refine ⟨h1,right_to (by omega) (by omega) (by simp [tooBig]; omega) fun x hx => ?_⟩
            rw [List.mem_singleton] at hx
            subst hx
            exact ⟨rightT_mono x (d - 1) 63 (by omega) h2.1,h2.2⟩
          have hAll := opsW_allG (list := kd) (G := fun t => norm t = t∧rightT 64 (.mk kd [] [t]) = true) (P := fun o => (o.kind = 1∨o.kind = 2→∀ t,t ∈ o.l→rightT 64 (.mk kd [] [t]) = true)∧(o.kind = 3→∃ x y,x ∈ la∧y ∈ lb∧scoreT x y ≠ 0∧o.e = nEd (oneE most f x y))) (fun t ht => by rw [ht.1]; exact ht) (fun n l e => ⟨fun h => absurd h (by show ¬ ((0 : Int) = 1∨(0 : Int) = 2); decide),fun h => absurd h (by show ¬ (0 : Int) = 3; decide)⟩) (fun l h => ⟨fun _ t ht => (h t ht).2,fun h => absurd h (by show ¬ (1 : Int) = 3; decide)⟩) (fun l h => ⟨fun _ t ht => (h t ht).2,fun h => absurd h (by show ¬ (2 : Int) = 3; decide)⟩) ((lstO (oneE most f) most (.mk kd wa la) (.mk kd wb lb)).map nOP) [] [] [] (fun o ho => by
            obtain ⟨y,hy,rfl⟩ := List.mem_map.1 ho
            have hsc := lstO_sc (oneE most f) most _ _ y hy
            cases lstO_mem (oneE most f) most _ _ y hy with
            | keep n h => exact ⟨fun h => absurd h (by show ¬ ((0 : Int) = 1∨(0 : Int) = 2); decide),fun h => absurd rfl h⟩
            | del l h g k => exact ⟨fun _ t ht => hGt t (.inl (g t ht)),fun _ h => absurd rfl h⟩
            | ins l h g k => exact ⟨fun _ t ht => hGt t (.inr (g t ht)),fun _ _ h => absurd rfl h⟩
            | desc p q hp hq =>
              obtain ⟨x,y,hx,hy2,hs,e⟩ := hsc rfl
              refine ⟨fun h => absurd h (by show ¬ ((3 : Int) = 1∨(3 : Int) = 2); decide),fun _ _ _ => ⟨fun h => absurd h (by show ¬ ((3 : Int) = 1∨(3 : Int) = 2); decide),fun _ => ⟨x,y,hx,hy2,hs,?_⟩⟩⟩
              show nEd (oneE most f p q) = _
              have e' : oneE most f p q = oneE most f x y := e
              rw [e']) (by simp) (by simp) (by simp)
          have hlen := ldO_lens L 0 0 (by show 0 + la.length≤_; omega) (by show 0 + lb.length≤_; omega)
          refine rightE_iff.2 ⟨h0,by omega,by omega,fun _ => ⟨rfl,rfl⟩,fun _ => ⟨rfl,rfl⟩,fun h => absurd rfl h,fun h => absurd h (by decide),rfl,by simp,fun _ => ⟨hl2,hl9⟩,?_,?_⟩
          · rw [rightOs_all]
            intro o ho
            refine rightO_to ?_
            have hkeep := ldO_keep L o ho
            obtain ⟨p1,p2⟩ := hAll o ho
            cases wr_mem hWr o ho with
            | keep n =>
              obtain ⟨n1,n2⟩ := hkeep rfl
              have n1 : 1≤n := n1
              have n2 : n≤(la.length : Nat) := n2
              exact ⟨by show (0 : Int)≤0; omega,by show (0 : Int)≤3; omega,fun _ => ⟨n1,by show n≤1048576; omega,rfl⟩,fun h => absurd rfl h,fun _ => rfl,fun h => absurd h (by show ¬ ((0 : Int) = 1∨(0 : Int) = 2); decide),fun h => absurd h (by show ¬ (0 : Int) = 3; decide)⟩
            | del l h g => exact ⟨by show (0 : Int)≤1; omega,by show (1 : Int)≤3; omega,fun h => absurd h (by show ¬ (1 : Int) = 0; decide),fun _ => rfl,fun _ => rfl,fun h' => ⟨h,p1 h'⟩,fun h => absurd h (by show ¬ (1 : Int) = 3; decide)⟩
            | ins l h g => exact ⟨by show (0 : Int)≤2; omega,by show (2 : Int)≤3; omega,fun h => absurd h (by show ¬ (2 : Int) = 0; decide),fun _ => rfl,fun _ => rfl,fun h' => ⟨h,p1 h'⟩,fun h => absurd h (by show ¬ (2 : Int) = 3; decide)⟩
            | desc e hi hn =>
              obtain ⟨x,y,hx,hy,hs,he⟩ := p2 rfl
              have he : e = nEd (oneE most f x y) := he
              have r1 := Ra x hx
              have r2 := Rb y hy
              have hek : e.kind ≠ 0 := fun h => by unfold idleE at hi; simp [h] at hi
              have hxk : x.kind = y.kind∧x.kind ≠ 0∧x.kind ≠ 10 := by
                unfold scoreT at hs
                split at hs
                · exact absurd rfl hs
                · rename_i hc
                  simp only [not_or] at hc
                  exact ⟨by omega,hc.2.1,hc.2.2⟩
              have h8 : 8≤kd := by
                apply Classical.byContradiction
                intro hc
                exact hxk.2.2 (kid_10 r1.2 ⟨hl2,by omega⟩)
              have hd1 : d - 1 ≠ 0 := fun hz => by
                have q1 := r1.1
                rw [hz] at q1
                have := right_zero q1 hxk.2.2
                exact hxk.2.1 (by rw [this]; rfl)
              have R1 := ih (g - 1) (d - 1) x y (okT_kids oa x hx) (okT_kids ob y hy) r1.1 r2.1 (by omega) hd1 hxk.2.2 (by rw [← hxk.1]; exact hxk.2.2)
              refine ⟨by show (0 : Int)≤3; omega,by show (3 : Int)≤3; omega,fun h => absurd h (by show ¬ (3 : Int) = 0; decide),fun _ => rfl,fun h => absurd rfl h,fun h => absurd h (by show ¬ ((3 : Int) = 1∨(3 : Int) = 2); decide),fun _ => ⟨rfl,hek,h8,by rw [he] at *; exact R1,?_⟩⟩
              unfold opFit
              by_cases e8 : kd = 8
              · simp [e8]
              · have e9 : kd = 9 := by omega
                subst e9
                have x1 := kid_9 r1.2
                have y1 := kid_9 r2.2
                have Lf := ld_nEd f _ _ _ (hFew x hx) (hone x hx y hy)
                rw [← he] at Lf
                have base : LdB e x y→(e.kind = 1∧e.old.kind = 1∧e.new.kind = 1) := fun h => by
                  rcases h with ⟨h,_⟩ | ⟨o,n,h,h1,h2⟩
                  · rw [h] at hek; exact absurd rfl hek
                  · rw [h]
                    have k1 := congrArg T.kind h1
                    have k2 := congrArg T.kind h2
                    rw [norm_kind,norm_kind] at k1 k2
                    exact ⟨rfl,by show o.kind = 1; omega,by show n.kind = 1; omega⟩
                have : (e.kind = 1∧e.old.kind = 1∧e.new.kind = 1)∨e.kind = 2 := by
                  cases f with
                  | zero => exact .inl (base Lf)
                  | succ f =>
                    rcases Lf with h | ⟨ws,ks,h,_⟩ | ⟨os,h,_,h2,_⟩
                    · exact .inl (base h)
                    · exact .inr (by rw [h]; rfl)
                    · omega
                rcases this with ⟨t1,t2,t3⟩ | t1
                · simp [t1,t2,t3]
                · simp [t1]
          · have e1 := congrArg Prod.fst hlen
            have e2 := congrArg Prod.snd hlen
            exact ⟨Int.lt_of_le_of_lt (Int.le_of_eq e1) (by show ((0 + la.length : Nat) : Int) < 1048576; omega),Int.lt_of_le_of_lt (Int.le_of_eq e2) (by show ((0 + lb.length : Nat) : Int) < 1048576; omega)⟩
        · exact rep ra rb hd h0 ka kb
theorem right_df {a b : T} (ha : wfT a) (hb : wfT b) (pa : partsT a≤1000) (pb : partsT b≤1000) (ra : rightT 64 a = true) (rb : rightT 64 b = true) (ka : a.kind ≠ 10) (kb : b.kind ≠ 10) {most : Int} : rightE 64 (dfE most a b) = true :=
  right_one26 most 1000 1000 64 _ _ (okT_norm26 a ha pa 1000 pa) (okT_norm26 b hb pb 1000 pb) (right_norm a 64 ra) (right_norm b 64 rb) (by omega) (by omega) (by rw [norm_kind]; exact ka) (by rw [norm_kind]; exact kb)
theorem apEdit_spec {e : E} {a u : T} (h : OneS e a u) : G.Spec Tryz.prog 15 [eX e,tX a] (.tup [tX (norm u),bv true]) := by
  refine spec_of t_apply_Edit (by simp) fun w0 I0 => ?_
  unfold c_apply_Edit
  simp
  refine sc_call h.2 (by simp) ?_
  simp
  refine sc_call (tNorm_spec u h.1) (by simp) ?_
  have e1 : tX (norm u) = .agg [iv u.kind,uws (norm u).words,tKs (norm u).kids] := by
    show A.agg [iv (norm u).kind,uws (norm u).words,tKs (norm u).kids] = _
    rw [norm_kind]
  simp
  rw [e1]
  exact frz_tup ⟨frz_bare (by simp),frz_bare rfl,trivial⟩
theorem wf_trn : ∀ e : E,wfE e→wfE (trn e) := by
  refine E.ind fun k o n ws ks l os ihk iho h => ?_
  have W := wfE_iff.1 h
  rw [trn_mk]
  refine wfE_iff.2 ⟨W.k,W.l,W.n,W.o,fun x hx => ?_,by have := W.wl; show (ws.map trW).length * 32≤_; rw [List.length_map]; exact this,by have := W.kl; show (ks.map trKE).length * 208≤_; rw [List.length_map]; exact this,by have := W.ol; show (os.map trOP).length * 240≤_; rw [List.length_map]; exact this,fun x hx => ?_,fun x hx => ?_⟩
  · obtain ⟨y,hy,rfl⟩ := List.mem_map.1 (show x ∈ ws.map trW from hx)
    have := W.w y hy
    exact ⟨this.1,this.2.1,this.2.2.2,this.2.2.1⟩
  · obtain ⟨y,hy,rfl⟩ := List.mem_map.1 (show x ∈ ks.map trKE from hx)
    have := W.ks y hy
    exact ⟨this.1,ihk y hy this.2⟩
  · obtain ⟨y,hy,rfl⟩ := List.mem_map.1 (show x ∈ os.map trOP from hx)
    have O := W.os y hy
    unfold trOP
    split
    · exact ⟨by show i64R 2; simp [i64R],O.n,O.l,O.ll,O.e⟩
    · split
      · exact ⟨by show i64R 1; simp [i64R],O.n,O.l,O.ll,O.e⟩
      · split
        · exact ⟨by show i64R 3; simp [i64R],O.n,O.l,O.ll,iho y hy O.e⟩
        · exact O
theorem trOP_l (x : OP) : (trOP x).l = x.l := by
  unfold trOP
  split
  · rfl
  · split
    · rfl
    · split <;> rfl
theorem sumO_trn (os : List OP) : sumO (os.map trOP) = sumO os := by
  unfold sumO
  rw [List.map_map]
  congr 1
  exact List.map_congr_left fun x _ => by show (trOP x).l.length = x.l.length; rw [trOP_l]
theorem nOk_trn : ∀ e : E,nOk e→nOk (trn e) := by
  refine E.ind fun k o n ws ks l os ihk iho h => ?_
  rw [nOk] at h
  obtain ⟨hk,hl,hon,hwl,hkl,hol,hsum,hks,hos⟩ := h
  rw [trn_mk,nOk]
  refine ⟨hk,hl,fun e => ⟨(hon e).2,(hon e).1⟩,by rw [List.length_map]; exact hwl,by rw [List.length_map]; exact hkl,by rw [List.length_map]; exact hol,by rw [sumO_trn]; exact hsum,fun e => nOkK_of fun x hx => ?_,fun e => nOkO_of fun x hx => ?_⟩
  · obtain ⟨y,hy,rfl⟩ := List.mem_map.1 hx
    exact ihk y hy (nOkK_all (hks e) y hy)
  · obtain ⟨y,hy,rfl⟩ := List.mem_map.1 hx
    obtain ⟨g1,g2,g3⟩ := nOkO_all (hos e) y hy
    rw [trOP_l]
    refine ⟨?_,g2,?_⟩
    · unfold trOP
      split
      · exact .inr (.inr (.inl rfl))
      · split
        · exact .inr (.inl rfl)
        · split
          · exact .inr (.inr (.inr rfl))
          · exact g1
    · unfold trOP
      split
      · intro h; exact absurd h (by show ¬ (2 : Int) = 3; decide)
      · split
        · intro h; exact absurd h (by show ¬ (1 : Int) = 3; decide)
        · split
          · rename_i h3
            intro _
            exact iho y hy (g3 h3)
          · rename_i h3
            intro h; exact absurd h h3
theorem partsL_take (l : List T) (n : Nat) : partsL (l.take n)≤partsL l := by
  induction l generalizing n with
  | nil => simp
  | cons x l ih =>
    cases n with
    | zero =>
      have h1 := partsT_pos x
      have h2 := partsL_pos l
      rw [List.take_zero,partsL_cons]
      simp
      omega
    | succ n =>
      rw [List.take_succ_cons,partsL_cons,partsL_cons]
      have := ih n
      omega
theorem parts_norm : ∀ t : T,partsT (norm t)≤partsT t := by
  refine T.ind fun k w l ih => ?_
  have hm : ∀ m : List T,(∀ t,t ∈ m→partsT (norm t)≤partsT t)→partsL (m.map norm)≤partsL m := fun m => by
    induction m with
    | nil => intro _; simp
    | cons x m ihm =>
      intro h
      rw [List.map_cons,partsL_cons,partsL_cons]
      have h1 := h x (by simp)
      have h2 := ihm fun t ht => h t (List.mem_cons_of_mem _ ht)
      omega
  have h1 := hm l ih
  have h2 := partsL_pos l
  rw [norm_mk,partsT_mk]
  split
  · simp
    omega
  · split
    · have h3 := trimW_le w
      have h4 := partsL_take (l.map norm) (trimK (l.map norm)).length
      rw [← trimK_take] at h4
      rw [partsT_mk]
      omega
    · rw [partsT_mk]
      omega
theorem df_kind {a b : T} (ha : wfT a) (hb : wfT b) (pa : partsT a≤1000) (pb : partsT b≤1000) {da db : Nat} (ra : rightT da a = true) (rb : rightT db b = true) {most : Int} : (dfE most a b).kind = 0 ↔ eqT a b = true := by
  have oa := okT_norm26 a ha pa 1000 pa
  have ob := okT_norm26 b hb pb 1000 pb
  have L := ld_one most 1000 1000 _ _ oa ob (nW_right 1000 da _ (right_norm a da ra)) (nW_right 1000 db _ (right_norm b db rb))
  have hk := nEd_kind L
  unfold dfE
  rw [hk]
  have e : eqT (norm a) (norm b) = eqT a b := by
    rw [Bool.eq_iff_iff,eqT_iff,eqT_iff,norm_norm,norm_norm]
  rw [show (1000 : Nat) = 999 + 1 from rfl,oneE,e]
  constructor
  · intro h
    apply Classical.byContradiction
    intro hn
    rw [if_neg hn] at h
    split at h
    · cases h
    · split at h
      · cases h
      · cases h
  · intro h
    rw [if_pos h]
    rfl
theorem few_norm {t : T} (ht : wfT t) (pt : partsT t≤1000) : FewK 1000 (norm t)∧Sz 1000 (norm t) := by
  have := parts_norm t
  exact ⟨fewK_parts 1000 _ (by omega),sz_parts 1000 _ (by omega)⟩
theorem DiffLeads_spec {a b : T} (ha : wfT a) (hb : wfT b) {most : Int} (hm : i64R most) : G.Spec Tryz.prog 5 [tX a,tX b,iv most] (bv true) := by
  refine spec_of t_centolaw26_DiffLeads (by simp) fun w0 I0 => ?_
  unfold c_centolaw26_DiffLeads
  simp
  refine sc_call (good26_spec ha) (by simp) ?_
  cases h1 : good26 a with
  | false =>
    simp
    refine sc_call_off rfl ?_
    simp
    refine sc_call awake26_spec (by simp) ?_
    simp
    exact frz_bare rfl
  | true =>
    simp
    refine sc_call_gf rfl (fun _ => good26_spec hb) (fun _ => by simp) (by simp) ?_
    cases h2 : good26 b with
    | false =>
      simp
      refine sc_call awake26_spec (by simp) ?_
      simp
      exact frz_bare rfl
    | true =>
      obtain ⟨pa,ra,ka⟩ := good26_parts h1
      obtain ⟨pb,rb,kb⟩ := good26_parts h2
      have wna := wf_norm _ ha
      have wnb := wf_norm _ hb
      have fa := few_norm ha (by omega)
      have fb := few_norm hb (by omega)
      have pna := parts_norm a
      have T1 := pTrees_spec ha hb (by omega) (by omega) hm
      have T2 := pTrees_spec ha wna (by omega) (by omega) hm
      have K1 := df_kind ha hb (by omega) (by omega) ra rb (most := most)
      have K2 := (df_kind ha wna (by omega) (by omega) ra (right_norm a 64 ra) (most := most)).2 (by rw [eqT_iff,norm_norm])
      have WD := wf_df ha hb (by omega) (by omega) (most := most)
      have OD := (df_once ha hb (by omega) (by omega) (most := most)).1
      have L1 := ld_df ha hb (by omega) (by omega) ra rb (most := most)
      have R1 := right_df ha hb (by omega) (by omega) ra rb ka kb (most := most)
      have RS := peRight_spec WD
      rw [R1] at RS
      generalize dfE most a b = D at *
      generalize dfE most a (norm a) = D2 at *
      have L2 := ld_nEd 1000 _ _ _ fb.1 (ld_trn 1000 _ _ _ L1)
      have OT := nOk_trn _ OD
      have WT := wf_nEd _ (wf_trn _ WD) OT
      obtain ⟨u,U1,U2⟩ := apOne 1000 D a (norm b) WD ha wnb (sz_parts 1000 a (by omega)) fb.2 (ld_un 1000 _ _ _ (nW_right 1000 64 a ra) L1)
      obtain ⟨v,V1,V2⟩ := apOne 1000 (nEd (trn D)) b (norm a) WT hb wna (sz_parts 1000 b (by omega)) fa.2 (ld_un 1000 _ _ _ (nW_right 1000 64 b rb) L2)
      have A1 := apEdit_spec U1
      have A2 := apEdit_spec V1
      rw [U2,norm_norm] at A1
      rw [V2,norm_norm] at A2
      have I1 := invert_spec WD OT
      have N1 := rNorm_spec a ha
      have N2 := rNorm_spec b hb
      have S1 := rTSame_spec (norm b) wnb (norm b)
      have S2 := rTSame_spec (norm a) wna (norm a)
      rw [show sameB (norm b) (norm b) = true from sameB_iff.2 rfl] at S1
      rw [show sameB (norm a) (norm a) = true from sameB_iff.2 rfl] at S2
      have E1 := rEqual_spec ha hb wna
      simp
      refine sc_call T1 (by simp) ?_
      simp
      refine sc_call A1 (by simp) ?_
      simp
      refine sc_call I1 (by simp) ?_
      simp
      refine sc_call A2 (by simp) ?_
      simp
      refine sc_call N1 (by simp) ?_
      simp
      refine sc_call T2 (by simp) ?_
      simp
      refine sc_call RS (by simp) ?_
      simp
      refine sc_call_gf rfl (fun _ => N2) (fun _ => by simp) (by simp) ?_
      simp
      refine sc_call_gf rfl (fun _ => S1) (fun _ => by simp) (by simp) ?_
      simp
      refine sc_call_gf rfl (fun _ => N1) (fun _ => by simp) (by simp) ?_
      simp
      refine sc_call_gf rfl (fun _ => S2) (fun _ => by simp) (by simp) ?_
      simp [K2]
      refine sc_call E1 (by simp) ?_
      cases he : eqT a b with
      | true =>
        have k0 := K1.2 he
        simp [k0]
        refine sc_call_gt rfl (fun _ => awake26_spec) (fun _ => rfl) rfl ?_
        simp
        exact frz_bare rfl
      | false =>
        have k0 : ¬ D.kind = 0 := fun h => by rw [K1.1 h] at he; cases he
        simp [k0]
        refine sc_call_gt rfl (fun _ => awake26_spec) (fun _ => rfl) rfl ?_
        simp
        exact frz_bare rfl
end Go.Proofs.YtmeldaflhkiopaaGreat
namespace Go.Proofs.YtmeldaflhkiopaaGreat
set_option linter.unusedVariables false
set_option linter.unusedSimpArgs false
open Go Go.G Go.Proofs Go.PL Go.RowKit
theorem lit_i64 {m : Int} (h : (Lit.int .i64 m).wf = true) : i64R m := by
  simp [Lit.wf,IntKind.min,IntKind.max,IntKind.bits,IntKind.signed] at h
  unfold i64R; omega
theorem lit_u64 {m : Int} (h : (Lit.int .u64 m).wf = true) : u64R m := by
  simp [Lit.wf,IntKind.min,IntKind.max,IntKind.bits,IntKind.signed] at h
  unfold u64R; omega
theorem und_int' : Tryz.prog.underlying 3 = some (.int .i64) := by kernel_rfl
theorem und_u64' : Tryz.prog.underlying 36 = some (.int .u64) := by kernel_rfl
theorem hasI {n : Nat} {b : List A} (h : Has Tryz.prog n 3 b) : ∃ m,i64R m∧b = [iv m] := by
  cases n with
  | zero => exact h.elim
  | succ n =>
    unfold Has at h
    rw [und_int'] at h
    obtain ⟨m,hm,rfl⟩ := h
    exact ⟨m,lit_i64 hm,rfl⟩
theorem hasU {n : Nat} {b : List A} (h : Has Tryz.prog n 36 b) : ∃ m,u64R m∧b = [uv m] := by
  cases n with
  | zero => exact h.elim
  | succ n =>
    unfold Has at h
    rw [und_u64'] at h
    obtain ⟨m,hm,rfl⟩ := h
    exact ⟨m,lit_u64 hm,rfl⟩
theorem rowOf {α : Type} {xs : List A} {g : α→A} {R : α→Prop} (h : ∀ x,x ∈ xs→∃ y,R y∧x.soft = g y) : ∃ l : List α,A.softL xs = l.map g∧l.length = xs.length∧∀ y,y ∈ l→R y := by
  induction xs with
  | nil => exact ⟨[],rfl,rfl,fun y h => nomatch h⟩
  | cons x xs ih =>
    obtain ⟨y,hy,e⟩ := h x (by simp)
    obtain ⟨l,e2,e3,hl⟩ := ih fun z hz => h z (by simp [hz])
    refine ⟨y :: l,by simp [A.softL,e,e2],by simp [e3],fun z hz => ?_⟩
    rcases List.mem_cons.1 hz with rfl | hz
    · exact hy
    · exact hl z hz
theorem hasSl {P : Program} {t e : TypeId} {m : Nat} (u : P.underlying t = some (.slice e)) (hb : P.bytesOf e = m) {n : Nat} {b : List A} (h : Has P n t b) {α : Type} {g : α→A} {R : α→Prop} (hx : ∀ k b,k < n→Has P k e b→∃ y,R y∧(mk P e b).soft = g y) :
    ∃ (f : Bool) (xs : List A) (l : List α),b = [.sl f xs]∧A.softL xs = l.map g∧l.length * m≤140737488355328∧∀ y,y ∈ l→R y := by
  cases n with
  | zero => exact h.elim
  | succ n =>
    unfold Has at h
    rw [u] at h
    obtain ⟨f,xs,rfl,_,hz,hf,hx'⟩ := h
    rw [hb] at hz
    obtain ⟨l,e1,e2,hl⟩ := rowOf (g := g) (R := R) (xs := xs) fun x hxx => by
      obtain ⟨b,hb',rfl⟩ := hx' x hxx
      exact hx n b (by omega) hb'
    exact ⟨f,xs,l,rfl,e1,by rw [e2]; exact Nat.le_trans hz (by decide),hl⟩
theorem mk_int (b : List A) : mk Tryz.prog 3 b = b.headD .any := by unfold mk; rw [und_int']
theorem mk_u64 (b : List A) : mk Tryz.prog 36 b = b.headD .any := by unfold mk; rw [und_u64']
theorem hasWs {n : Nat} {b : List A} (h : Has Tryz.prog n 22 b) : ∃ (f : Bool) (xs : List A) (l : List Int),b = [.sl f xs]∧A.softL xs = l.map uv∧l.length * 8≤140737488355328∧∀ y,y ∈ l→u64R y :=
  hasSl (e := 36) (by kernel_rfl) (by kernel_rfl) h fun k b _ hb => by
    obtain ⟨m,h1,rfl⟩ := hasU hb
    exact ⟨m,h1,by rw [mk_u64]; rfl⟩
theorem und_tree : Tryz.prog.underlying 25 = some (.struct (Tryz.prog.fieldsOf 25)) := by kernel_rfl
theorem fld_tree : (Tryz.prog.fieldsOf 25).toList.map Field.type = [3,22,23] := by kernel_rfl
theorem mk_tree (b : List A) : mk Tryz.prog 25 b = .agg b := by unfold mk; rw [und_tree]
theorem hasTree : ∀ (n : Nat) (b : List A),Has Tryz.prog n 25 b→∃ t,wfT t∧A.softL b = [iv t.kind,uws t.words,tKs t.kids] := by
  intro n
  induction n using Nat.strongRecOn with
  | ind n ih =>
    intro b h
    cases n with
    | zero => exact h.elim
    | succ n =>
      unfold Has at h
      rw [und_tree] at h
      simp only at h
      rw [hasL_types,fld_tree] at h
      obtain ⟨_,_,rfl,h1,_,_,rfl,h2,_,_,rfl,h3,rfl⟩ := h
      obtain ⟨k,hk,rfl⟩ := hasI h1
      obtain ⟨f,xs,w,rfl,e2,l2,r2⟩ := hasWs h2
      obtain ⟨f3,ys,l,rfl,e3,l3,r3⟩ := hasSl (m := 56) (e := 25) (g := tA) (R := wfT) (by kernel_rfl) (by kernel_rfl) h3 fun j b hj hb => by
        obtain ⟨t,ht,e⟩ := ih j (by omega) b hb
        exact ⟨t,ht,by rw [mk_tree]; simp only [A.soft,e]; rw [tA_eq]⟩
      refine ⟨.mk k w l,wfT_iff.2 ⟨hk,r2,l2,l3,r3⟩,?_⟩
      simp only [List.cons_append,List.nil_append,List.append_nil,A.softL,A.soft,e2,e3]
      rfl
end Go.Proofs.YtmeldaflhkiopaaGreat
namespace Go.Proofs.YtmeldaflhkiopaaGreat
set_option linter.unusedVariables false
set_option linter.unusedSimpArgs false
open Go Go.G Go.Proofs Go.PL Go.RowKit
set_option maxRecDepth 100000 in
theorem said_diffLeads (xs : List A) (h : ArgsHas Tryz.prog Tryz.f5.params.toList xs) : G.Spec Tryz.prog 5 xs (.v (.bool true)) := by
  have h : ArgsHas Tryz.prog [25,25,3] xs := h
  match xs,h with
  | [a,a2,a3],⟨⟨n,b,h1,h2⟩,⟨n2,b2,h12,h22⟩,⟨n3,b3,h13,h23⟩,_⟩ =>
    obtain ⟨t,ht,et⟩ := hasTree _ _ h1
    obtain ⟨t2,ht2,et2⟩ := hasTree _ _ h12
    obtain ⟨m,hm,rfl⟩ := hasI h13
    rw [h2,mk_tree,h22,mk_tree,h23,mk_int]
    exact (DiffLeads_spec ht ht2 hm).soft (by simp only [A.softL,A.soft,et,et2]; rfl)
end Go.Proofs.YtmeldaflhkiopaaGreat
namespace Go.G
set_option linter.unusedVariables false
set_option linter.unusedSimpArgs false
open Go.RowKit Go.ChangeShapes Go.WideShapes
section
variable {H : Type} {enc : TypeId × Value→H} {P : Program}
def rowsRead (P : Program) (ts : List TypeId) : Bool := ts.all fun t => P.readableRec t && decide (t < P.types.size)
theorem trodAll_below (hl : laidOutB P = true) {W W' : World} (hb : Below W.heap.size W W') (sp : Nat→Bool) : ∀ {ts : List TypeId} {vs : List Value} {ds : List (DataW H)} {ps : List MemPlace},rowsRead P ts = true →
    DataW.TrodAll enc P W 0 (fun _ => true) true ts vs ds ps→(∀ x ∈ ps,x.block < W.heap.size)→(∀ x ∈ ps,sp x.block = true)→DataW.TrodAll enc P W' 0 sp true ts vs ds ps
  | [],_,_,_,_,h,_,_ => by
    obtain ⟨rfl,rfl,rfl⟩ := trodAll_nil h
    exact trodAll_mk0
  | t :: ts,_,_,_,hr,h,hlt,hsp => by
    obtain ⟨v,vs,d,ds,p,q,rfl,rfl,rfl,h1,h2⟩ := trodAll_cons h
    simp only [rowsRead,List.all_cons,Bool.and_eq_true,decide_eq_true_eq] at hr
    exact ⟨p,q,WideElems.Trod_stays hl hr.1.1 hr.1.2 h1 (fun x hx => hb.same (hlt x (by simp [hx]))) (fun x hx => hsp x (by simp [hx])),
      trodAll_below hl hb sp (by simpa [rowsRead] using hr.2) h2 (fun x hx => hlt x (by simp [hx])) (fun x hx => hsp x (by simp [hx])),rfl⟩
theorem trodAll_length {w : World} {base : Nat} {spare : Nat→Bool} {held : Bool} : ∀ {ts : List TypeId} {vs : List Value} {ds : List (DataW H)} {ps : List MemPlace},DataW.TrodAll enc P w base spare held ts vs ds ps→ds.length = ts.length∧vs.length = ts.length
  | [],_,_,_,h => by
    obtain ⟨rfl,rfl,rfl⟩ := trodAll_nil h
    exact ⟨rfl,rfl⟩
  | t :: ts,_,_,_,h => by
    obtain ⟨v,vs,d,ds,p,q,rfl,rfl,rfl,h1,h2⟩ := trodAll_cons h
    have := trodAll_length h2
    simp [this]
theorem post_law {f : Func} {s : ChangeSpec} {apart fresh handsOn again : Bool} {W W' : World} {args : Array Value} {ds gs : List (DataW H)} {before : List MemPlace} {t : TypeId}
    (hl : laidOutB P = true) (hp : rowsRead P f.params.toList = true) (hsv : s.vars = []) (hW : DataW.Whole enc P f.params.toList s.vars apart W args.toList ds gs before) (hB : Below W.heap.size W W')
    (hrt : f.resultTypes = #[t]) (ht : P.underlying t = some .bool) (hfn : ∀ ds' : List (DataW H),ds'.length = f.params.size→s.fn H ds' = { results := [.lit (.bool true)],args := ds' }) :
    s.post enc P f apart fresh handsOn again W args (.bool true) W' := by
  have hlt := hW.lt
  have hW' := hW
  obtain ⟨p,q,hA,hV,rfl,hz,hn⟩ := hW'
  rw [hsv] at hV
  obtain ⟨rfl,rfl⟩ := trodVars_none hV
  have hfn := hfn ds (by have := (trodAll_length hA).1; simpa using this)
  simp only [List.append_nil] at hlt hz hn
  have hA' := fun sp => trodAll_below hl hB sp hp hA hlt
  have hr : ∀ (b : Nat) (sp : Nat→Bool) (hd : Bool),DataW.TrodAll enc P W' b sp hd f.resultTypes.toList ((Value.bool true).resultList f.resultTypes.size) [.lit (.bool true)] [] := fun b sp hd => by
    rw [hrt]
    exact trodAll_cons_mk (shut_bool ht _) trodAll_mk0
  refine ⟨ds,[],p ++ [],[],p,[],hW,?_,?_,?_,Below.frame hB _,fun _ => ?_⟩
  · simp only [List.append_nil,hfn]; exact hr _ _ _
  · simp only [List.append_nil,hfn]; exact hA' _ (fun x hx => by simpa using hlt x hx)
  · simp only [List.append_nil,hfn,hsv]; exact rfl
  · refine ⟨ok_one hrt rfl (okWide_bool_mk ht _),_,[],([] ++ p) ++ [],⟨[] ++ p,[],trodAll_append (hA' (fun _ => true) (fun _ _ => rfl)) (hr _ _ _),by rw [hsv]; rfl,rfl,?_,?_⟩,?_⟩
    · intro b off hx
      have hx : MemPlace.cell b off ∈ p := by simpa using hx
      rw [Below.frozen hB (hlt _ hx)]
      exact hz b off hx
    · intro ha
      have := hn ha
      simpa using this
    · intro x hx _
      simpa using hx
theorem law_calls {f : Func} {fid : FuncId} {s : ChangeSpec} {apart fresh handsOn again : Bool} {W : World} {base : Nat} {args : Array Value} {ds gs : List (DataW H)} {before : List MemPlace} {t : TypeId} (S : List TypeId)
    (hl : laidOutB P = true) (hp : rowsRead P f.params.toList = true) (hS : plainT P S = true) (hts : f.params.toList.all S.contains = true) (hsv : s.vars = []) (hrt : f.resultTypes = #[t]) (ht : P.underlying t = some .bool)
    (hfn : ∀ ds' : List (DataW H),ds'.length = f.params.size→s.fn H ds' = { results := [.lit (.bool true)],args := ds' })
    (hspec : ∀ as',ArgsHas P f.params.toList as'→Spec P fid as' (.v (.bool true))) (htb : Tabs P W (Old W))
    (hval : ∀ (j : Nat) t v,f.params[j]? = some t→args[j]? = some v→Value.okWide P W .any base t v) (hW : DataW.Whole enc P f.params.toList s.vars apart W args.toList ds gs before)
    (hwt : (DataW.weightsEach P (f.params.toList ++ s.plain.varTypes P) (ds ++ gs)).all (·≤reachBytes) = true) :
    Calls P fid args W fun e W' => ∃ v,e = .returned v∧s.post enc P f apart fresh handsOn again W args v W' := by
  have hW' := hW
  obtain ⟨p,q,hA,hV,rfl,hz,hn⟩ := hW
  have hV' := hV
  rw [hsv] at hV'
  obtain ⟨rfl,_⟩ := trodVars_none hV'
  have hwt' : ∀ m,m ∈ DataW.weightsEach P f.params.toList ds→m≤reachBytes := by
    have e : s.plain.varTypes P = [] := by simp [ChangeSpec.plain,DataSpec.varTypes,hsv]
    rw [e,List.append_nil,List.append_nil,List.all_eq_true] at hwt
    exact fun m hm => by simpa using hwt m hm
  obtain ⟨as',h1,h2,h3⟩ := args_of_trod hS (fun t ht => by rw [List.all_eq_true] at hts; simpa using hts t ht) hwt' hA (fun j u v hj hv => hval j u v (by simpa using hj) (by simpa using hv))
  refine ((hspec as' h2).2 W (Old W) args (fun _ h => h) htb (by simpa using h1.symm) (fun k y hk => ?_)).mono fun e W' ⟨v,he,hB,hr⟩ => ?_
  · have := h3 k y hk
    simpa [List.getD,Array.getD_eq_getD_getElem?] using this
  · cases hr
    exact ⟨_,he,post_law hl hp hsv hW' hB hrt ht hfn⟩
end
end Go.G
