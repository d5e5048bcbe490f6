/-
  Texts, merged, without what is not reached.
-/
import Derived.Test.YtmeldaflhkiopaaGreatKWe
namespace Go.Proofs.YtmeldaflhkiopaaGreat
set_option linter.unusedVariables false
set_option linter.unusedSimpArgs false
open Go Go.G Go.Proofs Go.PL
def wds (tw : List Int) : Nat→Nat→List WE→Option (List Int)
  | 0,_,_ => some []
  | m + 1,i,[] => (wds tw m (i + 1) []).map (tw.getD i 0 :: ·)
  | m + 1,i,x :: xs => if x.at_ = (i : Int) then (if mixZ 0 (tw.getD i 0) x.mask = x.old then (wds tw m (i + 1) xs).map (mixZ (tw.getD i 0) x.new x.mask :: ·) else none) else (wds tw m (i + 1) (x :: xs)).map (tw.getD i 0 :: ·)
def kds (tk : List T) : Nat→Nat→List (Int × (T→Option T))→Option (List T)
  | 0,_,_ => some []
  | m + 1,i,[] => (kds tk m (i + 1) []).map (tk.getD i T0 :: ·)
  | m + 1,i,x :: xs => if x.1 = (i : Int) then (match x.2 (tk.getD i T0) with | none => none | some u => (kds tk m (i + 1) xs).map (u :: ·)) else (kds tk m (i + 1) (x :: xs)).map (tk.getD i T0 :: ·)
noncomputable def opsR (tk : List T) : Nat→List (Int × Int × List T × (T→Option T))→Option (List T × Nat)
  | a,[] => some ([],a)
  | a,(k,n,l,f) :: os =>
    if k = 0 then (if a + n.toNat≤tk.length then (opsR tk (a + n.toNat) os).map (fun r => ((tk.drop a).take n.toNat ++ r.1,r.2)) else none)
    else if k = 1 then (if a + l.length≤tk.length∧(((tk.drop a).take l.length).zip l).all (fun p => eqT p.1 p.2) = true then opsR tk (a + l.length) os else none)
    else if k = 2 then (opsR tk a os).map (fun r => (l ++ r.1,r.2))
    else match tk[a]? with
      | none => none
      | some x => match f x with
        | none => none
        | some u => (opsR tk (a + 1) os).map (fun r => (u :: r.1,r.2))
def lastW (ws : List WE) (n : Nat) : Nat := match ws.getLast? with | none => n | some x => max n (x.at_ + 1).toNat
def lastK {β : Type} (ks : List (Int × β)) (n : Nat) : Nat := match ks.getLast? with | none => n | some x => max n (x.1 + 1).toNat
noncomputable def stepE (k : Int) (o n : T) (ws : List WE) (ks : List (Int × (T→Option T))) (list : Int) (os : List (Int × Int × List T × (T→Option T))) (t : T) : Option T :=
  if k = 0 then some (norm t)
  else if k = 1 then (if eqT o t = true then some (norm n) else none)
  else if k = 2 then (if t.kind = 1 then (match wds t.words (lastW ws t.words.length) 0 ws,kds t.kids (lastK ks t.kids.length) 0 ks with
    | some w,some l => some (norm (.mk 1 w l))
    | _,_ => none) else none)
  else if k = 3 then (if t.kind = list then (match opsR t.kids 0 os with
    | some (l,a) => if a = t.kids.length then some (norm (.mk t.kind [] l)) else none
    | none => none) else none)
  else none
mutual
noncomputable def apE : E→T→Option T
  | .mk k o n ws ks l os,t => stepE k o n ws (apKs ks) l (apOs os) t
noncomputable def apKs : List KE→List (Int × (T→Option T))
  | [] => []
  | .mk a e :: r => (a,apE e) :: apKs r
noncomputable def apOs : List OP→List (Int × Int × List T × (T→Option T))
  | [] => []
  | .mk k n t e :: r => (k,n,t,apE e) :: apOs r
end
section
variable {n0 : Nat} {w0 : World} {I0 : Nat→Prop} {Q : Exit→Sta→Prop}
end
section
variable {n0 : Nat} {w0 : World} {I0 : Nat→Prop} {Q : Exit→Sta→Prop}
end
theorem mixZ_in (a b mask : Int) : u64R (mixZ a b mask) := by
  have h := ofZ_range (mixL (bytesZ a) (bytesZ b) mask 8) mixL_range
  rw [mixL_length (by rw [bytesZ_length]; exact Nat.le_refl _),bytesZ_length] at h
  have e : (256 : Int) ^ 8 = 18446744073709551616 := by decide
  rw [e] at h
  exact ⟨h.1,h.2⟩
section
variable {n0 : Nat} {w0 : World} {I0 : Nat→Prop}
noncomputable def strO (e : E) (t : T) (n m : Nat) : Option T := match wds t.words n 0 e.words,kds t.kids m 0 (apKs e.kids) with
  | some w,some l => some (.mk 1 w l)
  | _,_ => none
end
noncomputable def strA (e : E) (t : T) : Option T := if t.kind = 1 then strO e t (lastW e.words t.words.length) (lastK (apKs e.kids) t.kids.length) else none
end Go.Proofs.YtmeldaflhkiopaaGreat

namespace Go.Proofs.YtmeldaflhkiopaaGreat
set_option linter.unusedVariables false
set_option linter.unusedSimpArgs false
open Go Go.G Go.Proofs Go.PL
theorem wf_E026 : wfE E0 := wfE_iff.2 ⟨by simp [i64R],by simp [i64R],wf_T026,wf_T026,by simp,by simp,by simp,by simp,by simp,by simp⟩
theorem i64R_small {n : Int} (h1 : -1000000000≤n) (h2 : n≤1000000000) : i64R n := ⟨by omega,by omega⟩
theorem wd_wf26 {i : Nat} (hi : i≤1000000) (a b : Int) : WE.wf (wdE i a b) :=
  ⟨i64R_small (by show (-1000000000 : Int)≤i; omega) (by show (i : Int)≤1000000000; omega),unlZ_in a b,mixZ_in _ _ _,mixZ_in _ _ _⟩
theorem wf_str26 {one : T→T→E} {a b : T} (ha : a.words.length≤1000) (hb : b.words.length≤1000) (ha2 : a.kids.length≤1000) (hb2 : b.kids.length≤1000) (h : ∀ i,wfE (one (a.kids.getD i T0) (b.kids.getD i T0))) : wfE (strE one a b) := by
  have h1 := wrdL_len a b (max a.words.length b.words.length)
  have h2 := kidL26_len one a b (max a.kids.length b.kids.length)
  unfold strE
  refine wfE_iff.2 ⟨by simp [i64R],by simp [i64R],wf_T026,wf_T026,fun x hx => ?_,by show (wrdL a b _).length * 32≤_; omega,by show (kidL26 one a b _).length * 208≤_; omega,by simp,fun x hx => ?_,by simp⟩
  · have hx' : x ∈ wrdL a b (max a.words.length b.words.length) := hx
    unfold wrdL at hx'
    rw [List.mem_filterMap] at hx'
    obtain ⟨i,hi,e⟩ := hx'
    split at e
    · cases e
    · simp only [Option.some.injEq] at e
      subst e
      have : i < max a.words.length b.words.length := by simpa using hi
      exact wd_wf26 (by omega) _ _
  · obtain ⟨i,hi,e,_⟩ := kidL26_mem (show x ∈ kidL26 one a b _ from hx)
    subst e
    exact ⟨i64R_small (by show (-1000000000 : Int)≤i; omega) (by show (i : Int)≤1000000000; omega),h i⟩
theorem wfO_gop {one : T→T→E} {A B : List T} {N : Nat} (hN : N≤1000000) (lA : A.length≤1000000) (lB : B.length≤1000000) (hA : ∀ t,t ∈ A→wfT t) (hB : ∀ t,t ∈ B→wfT t) (h1 : ∀ x,x ∈ A→∀ y,y ∈ B→wfE (one x y)) {o : OP} (h : GOp one A B N o) : WfO o := by
  cases h with
  | keep n h => exact ⟨by simp [i64R],i64R_small (by show (-1000000000 : Int)≤n; omega) (by show (n : Int)≤1000000000; omega),by simp,by simp,wf_E026⟩
  | del l h g k => exact ⟨by simp [i64R],by simp [i64R],fun t ht => hA t (g t ht),by show l.length * 56≤_; omega,wf_E026⟩
  | ins l h g k => exact ⟨by simp [i64R],by simp [i64R],fun t ht => hB t (g t ht),by show l.length * 56≤_; omega,wf_E026⟩
  | desc x y hx hy => exact ⟨by simp [i64R],by simp [i64R],by simp,by simp,h1 x hx y hy⟩
theorem wf_rep26 {a b : T} (ha : wfT a) (hb : wfT b) : wfE (.mk 1 a b [] [] 0 []) := wfE_iff.2 ⟨by simp [i64R],by simp [i64R],ha,hb,by simp,by simp,by simp,by simp,by simp,by simp⟩
theorem wf_list26 {one : T→T→E} {most : Int} {a b : T} (wfa : wfT a) (ha : a.kids.length≤1000) (hb : b.kids.length≤1000) (wa : ∀ t,t ∈ a.kids→wfT t) (wb : ∀ t,t ∈ b.kids→wfT t) (h : ∀ x,x ∈ a.kids→∀ y,y ∈ b.kids→wfE (one x y)) : wfE (listE one most a b) := by
  have h1 := lstO_len one most a b
  rw [listE_eq]
  exact wfE_iff.2 ⟨by simp [i64R],(wfT_iff.1 wfa).k,wf_T026,wf_T026,by simp,by simp,by simp,by show (lstO one most a b).length * 240≤_; omega,by simp,fun x hx => wfO_gop (by omega) (by omega) (by omega) wa wb h (lstO_mem one most a b x hx)⟩
theorem wf_one26 (most : Int) : ∀ (f g : Nat) (a b : T),okT f a→okT g b→wfE (oneE most f a b)
  | 0,g,a,b,ha,hb => by
    rw [oneE]
    split
    · exact wf_E026
    · exact wf_rep26 (okT_facts ha).1 (okT_facts hb).1
  | f + 1,g,a,b,ha,hb => by
    obtain ⟨a1,a2,a3,a4⟩ := okT_facts ha
    obtain ⟨b1,b2,b3,b4⟩ := okT_facts hb
    rw [oneE]
    split
    · exact wf_E026
    · split
      · exact wf_str26 a3 b3 a4 b4 fun i => wf_one26 most f (g - 1) _ _ (okT_at ha i) (okT_at hb i)
      · split
        · exact wf_list26 a1 a4 b4 (fun t ht => (okT_facts (okT_kids ha t ht)).1) (fun t ht => (okT_facts (okT_kids hb t ht)).1) fun x hx y hy => wf_one26 most f (g - 1) x y (okT_kids ha x hx) (okT_kids hb y hy)
        · exact wf_rep26 a1 b1
theorem wrap_in26 (n : Int) : i64R (IntKind.i64.wrap n) := by
  rw [IntKind.wrap_i64]
  exact ⟨by omega,by omega⟩
theorem wfO_kp {out : List OP} {n : Int} (h : ∀ o,o ∈ out→WfO o) (hn : i64R n) : ∀ o,o ∈ kpO out n→WfO o := by
  unfold kpO
  split
  · rename_i m l e he
    intro o ho
    have hm := List.mem_of_getLast? he
    rcases List.mem_append.1 ho with ho | ho
    · exact h o (List.dropLast_subset _ ho)
    · rw [List.mem_singleton] at ho
      subst ho
      have := h _ hm
      exact ⟨this.k,wrap_in26 _,this.l,this.ll,this.e⟩
  · intro o ho
    rcases List.mem_append.1 ho with ho | ho
    · exact h o ho
    · rw [List.mem_singleton] at ho
      subst ho
      exact ⟨by simp [i64R],hn,by simp,by simp,wf_E026⟩
theorem wfO_fl {out : List OP} {g b : List T} (h : ∀ o,o ∈ out→WfO o) (hg : ∀ t,t ∈ g→wfT t) (hb : ∀ t,t ∈ b→wfT t) (lg : g.length≤1000000) (lb : b.length≤1000000) : ∀ o,o ∈ flO out g b→WfO o := by
  intro o ho
  unfold flO delO insO at ho
  rcases List.mem_append.1 ho with ho | ho
  · exact h o ho
  · rcases List.mem_append.1 ho with ho | ho
    · split at ho
      · simp at ho
      · rw [List.mem_singleton] at ho
        subst ho
        exact ⟨by simp [i64R],by simp [i64R],hg,by show g.length * 56≤_; omega,wf_E026⟩
    · split at ho
      · simp at ho
      · rw [List.mem_singleton] at ho
        subst ho
        exact ⟨by simp [i64R],by simp [i64R],hb,by show b.length * 56≤_; omega,wf_E026⟩
def WfS (o : OP) : Prop := i64R o.n∧(∀ t,t ∈ o.l→wfT t)∧(o.kind = 0∨o.kind = 1∨o.kind = 2∨o.kind = 3)∧(o.kind = 3→wfE o.e)
theorem opsW_wf (list : Int) : ∀ (os out : List OP) (g b : List T),(∀ o,o ∈ os→WfS o)→(∀ o,o ∈ out→WfO o)→(∀ t,t ∈ g→wfT t)→(∀ t,t ∈ b→wfT t)→g.length + b.length + sumO os≤1000000→∀ o,o ∈ opsW list os out g b→WfO o
  | [],out,g,b,h1,h2,h3,h4,h5 => by
    rw [opsW]
    exact wfO_fl h2 h3 h4 (by omega) (by omega)
  | x :: os,out,g,b,h1,h2,h3,h4,h5 => by
    rw [sumO_cons] at h5
    have hx := h1 x (by simp)
    have hos : ∀ o,o ∈ os→WfS o := fun o ho => h1 o (List.mem_cons_of_mem _ ho)
    have fl := wfO_fl h2 h3 h4 (by omega) (by omega)
    have nn : ∀ (l : List T),(∀ t,t ∈ l→wfT t)→∀ t,t ∈ l ++ x.l.map norm→wfT t := fun l hl t ht => by
      rcases List.mem_append.1 ht with ht | ht
      · exact hl t ht
      · obtain ⟨u,hu,rfl⟩ := List.mem_map.1 ht
        exact wf_norm _ (hx.2.1 u hu)
    have z : ∀ t : T,t ∈ ([] : List T)→wfT t := by simp
    rw [opsW]
    split
    · exact opsW_wf list os _ _ _ hos (wfO_kp fl hx.1) z z (by simp; omega)
    · split
      · exact opsW_wf list os _ _ _ hos h2 (nn g h3) h4 (by simp; omega)
      · split
        · exact opsW_wf list os _ _ _ hos h2 h3 (nn b h4) (by simp; omega)
        · split
          · exact opsW_wf list os _ _ _ hos (wfO_kp fl (by simp [i64R])) z z (by simp; omega)
          · refine opsW_wf list os _ _ _ hos (fun o ho => ?_) z z (by simp; omega)
            rcases List.mem_append.1 ho with ho | ho
            · exact fl o ho
            · rw [List.mem_singleton] at ho
              subst ho
              exact ⟨by simp [i64R],by simp [i64R],by simp,by simp,hx.2.2.2 (by have := hx.2.2.1; omega)⟩
theorem kpO_len (out : List OP) (n : Int) : (kpO out n).length≤out.length + 1 := by
  unfold kpO
  split
  · simp
    try omega
  · simp
theorem flO_len (out : List OP) (g b : List T) : (flO out g b).length≤out.length + 2 := by
  unfold flO delO insO
  split <;> split <;> simp
theorem opsW_len (list : Int) : ∀ (os out : List OP) (g b : List T),(opsW list os out g b).length≤out.length + 3 * os.length + 2
  | [],out,g,b => by
    rw [opsW]
    have := flO_len out g b
    simp; omega
  | x :: os,out,g,b => by
    have h1 := flO_len out g b
    have h2 := kpO_len (flO out g b)
    rw [opsW,List.length_cons]
    split
    · have := opsW_len list os (kpO (flO out g b) x.n) [] []
      have := h2 x.n
      omega
    · split
      · have := opsW_len list os out (g ++ x.l.map norm) b
        omega
      · split
        · have := opsW_len list os out g (b ++ x.l.map norm)
          omega
        · split
          · have := opsW_len list os (kpO (flO out g b) 1) [] []
            have := h2 1
            omega
          · have := opsW_len list os (flO out g b ++ [.mk 3 0 [] x.e]) [] []
            simp at this
            omega
theorem sumO_nOP (os : List OP) : sumO (os.map nOP) = sumO os := by
  unfold sumO
  rw [List.map_map]
  rfl
theorem wf_nEd : ∀ e : E,wfE e→nOk e→wfE (nEd e) := by
  refine E.ind fun k o n ws ks l os ihk iho hw h => ?_
  rw [nOk] at h
  obtain ⟨hk,hl,hon,hwl,hkl,hol,hsum,hks,hos⟩ := h
  have w := wfE_iff.1 hw
  rw [nEd_mk]
  split
  · exact wf_rep26 (wf_norm _ w.o) (wf_norm _ w.n)
  · split
    · rename_i h1 h2
      refine wfE_iff.2 ⟨by simp [i64R],by simp [i64R],wf_T026,wf_T026,w.w,w.wl,by show (ks.map nKE).length * 208≤_; simp; omega,by simp,fun x hx => ?_,by simp⟩
      obtain ⟨y,hy,rfl⟩ := List.mem_map.1 (show x ∈ ks.map nKE from hx)
      have := w.ks y hy
      exact ⟨this.1,ihk y hy this.2 (nOkK_all (hks h2) y hy)⟩
    · split
      · rename_i h1 h2 h3
        have hO : ∀ o,o ∈ os.map nOP→WfS o := fun o ho => by
          obtain ⟨y,hy,rfl⟩ := List.mem_map.1 ho
          have g1 := w.os y hy
          obtain ⟨g2,g3,g4⟩ := nOkO_all (hos h3) y hy
          exact ⟨g1.n,g3,g2,fun e => iho y hy g1.e (g4 e)⟩
        have hlen := opsW_len l (os.map nOP) [] [] []
        simp at hlen
        refine wfE_iff.2 ⟨by simp [i64R],w.l,wf_T026,wf_T026,by simp,by simp,by simp,by show (opsW l (os.map nOP) [] [] []).length * 240≤_; omega,by simp,fun x hx => opsW_wf l _ _ _ _ hO (by simp) (by simp) (by simp) (by rw [sumO_nOP]; simpa using hsum) x hx⟩
      · exact wf_E026
theorem wf_df {a b : T} (ha : wfT a) (hb : wfT b) (pa : partsT a≤1000) (pb : partsT b≤1000) {most : Int} : wfE (dfE most a b) := by
  have oa := okT_norm26 a ha pa 1000 pa
  have ob := okT_norm26 b hb pb 1000 pb
  exact wf_nEd _ (wf_one26 most 1000 1000 _ _ oa ob) (nOk_one most 1000 1000 _ _ oa ob)
end Go.Proofs.YtmeldaflhkiopaaGreat

namespace Go.Proofs.YtmeldaflhkiopaaGreat
set_option linter.unusedVariables false
set_option linter.unusedSimpArgs false
open Go Go.G Go.Proofs Go.PL
inductive OkEl (list : Int) : OP→Prop
  | keep (n : Int) : OkEl list (.mk 0 n [] E0)
  | del (l : List T) (h : l ≠ []) (g : l.map norm = l) : OkEl list (.mk 1 0 l E0)
  | ins (l : List T) (h : l ≠ []) (g : l.map norm = l) : OkEl list (.mk 2 0 l E0)
  | desc (e : E) (h : idleE list e = false) (g : nEd e = e) : OkEl list (.mk 3 0 [] e)
def OkNx (s t : Int) : Prop := ¬ (s = 0∧t = 0)∧(t = 1→s ≠ 1∧s ≠ 2)∧(t = 2→s ≠ 2)
def Wr (list : Int) : Int→List OP→Prop
  | _,[] => True
  | s,o :: os => OkEl list o∧OkNx s o.kind∧Wr list o.kind os
def endK : Int→List OP→Int
  | s,[] => s
  | _,o :: os => endK o.kind os
theorem endK_snoc : ∀ (W : List OP) (s : Int) (o : OP),endK s (W ++ [o]) = o.kind
  | [],s,o => rfl
  | x :: W,s,o => endK_snoc W x.kind o
theorem wr_snoc {list : Int} : ∀ {W : List OP} {s : Int} {o : OP},Wr list s W→OkEl list o→OkNx (endK s W) o.kind→Wr list s (W ++ [o])
  | [],s,o,_,h2,h3 => ⟨h2,h3,trivial⟩
  | x :: W,s,o,h1,h2,h3 => ⟨h1.1,h1.2.1,wr_snoc h1.2.2 h2 h3⟩
theorem wr_split {list : Int} : ∀ {W : List OP} {s : Int} {o : OP},Wr list s (W ++ [o])→Wr list s W∧OkEl list o∧OkNx (endK s W) o.kind
  | [],s,o,h => ⟨trivial,h.1,h.2.1⟩
  | x :: W,s,o,h => by
    obtain ⟨h1,h2,h3⟩ := h
    obtain ⟨g1,g2,g3⟩ := wr_split h3
    exact ⟨⟨h1,h2,g1⟩,g2,g3⟩
theorem kp_app {out : List OP} {n : Int} (h : ∀ m l e,out.getLast? ≠ some (.mk 0 m l e)) : kpO out n = out ++ [.mk 0 n [] E0] := by
  unfold kpO
  split
  · rename_i m l e he
    exact absurd he (h m l e)
  · rfl
theorem flO_nil (out : List OP) : flO out [] [] = out := by simp [flO,delO,insO]
theorem flO_del {out : List OP} {l : List T} (h : l ≠ []) : flO out l [] = out ++ [.mk 1 0 l E0] := by simp [flO,delO,insO,h]
theorem flO_ins {out : List OP} (g : List T) {l : List T} (h : l ≠ []) : flO out g l = flO out g [] ++ [.mk 2 0 l E0] := by simp [flO,insO,h]
theorem flO_last {out : List OP} {g b : List T} (h : g ≠ []∨b ≠ []) : ∀ m l e,(flO out g b).getLast? ≠ some (.mk 0 m l e) := by
  intro m l e
  by_cases hb : b = []
  · subst hb
    have hg : g ≠ [] := by rcases h with h | h; exact h; exact absurd rfl h
    rw [flO_del hg]
    simp
  · rw [flO_ins g hb]
    simp
theorem wr_fix {list : Int} : ∀ (W : List OP) (s : Int) (out : List OP) (g b : List T),Wr list s W→(s = 1→g ≠ []∧b = [])→(s = 2→b ≠ [])→(s ≠ 1→s ≠ 2→g = []∧b = [])→(s ≠ 0→s ≠ 1→s ≠ 2→∀ m l e,out.getLast? ≠ some (.mk 0 m l e))→opsW list (W.map nOP) out g b = flO out g b ++ W
  | [],s,out,g,b,_,_,_,_,_ => by simp [opsW]
  | o :: W,s,out,g,b,h,c1,c2,c3,c4 => by
    obtain ⟨h1,h2,h3⟩ := h
    rw [List.map_cons,opsW]
    cases h1 with
    | keep n =>
      have hl : ∀ m l e,(flO out g b).getLast? ≠ some (.mk 0 m l e) := by
        have hs : s ≠ 0 := fun e => h2.1 ⟨e,rfl⟩
        by_cases e1 : s = 1
        · exact flO_last (.inl (c1 e1).1)
        · by_cases e2 : s = 2
          · exact flO_last (.inr (c2 e2))
          · obtain ⟨rfl,rfl⟩ := c3 e1 e2
            rw [flO_nil]
            exact c4 hs e1 e2
      rw [if_pos (show (nOP (.mk 0 n [] E0)).kind = 0 from rfl)]
      show opsW list (W.map nOP) (kpO (flO out g b) n) [] [] = _
      rw [kp_app hl,wr_fix W 0 _ [] [] h3 (fun h => absurd h (by decide)) (fun h => absurd h (by decide)) (fun _ _ => ⟨rfl,rfl⟩) (fun h => absurd rfl h),flO_nil]
      simp
    | del l hne hn =>
      obtain ⟨s1,s2⟩ := h2.2.1 rfl
      obtain ⟨rfl,rfl⟩ := c3 s1 s2
      rw [if_neg (show ¬ (nOP (.mk 1 0 l E0)).kind = 0 by show ¬ (1 : Int) = 0; decide),if_pos (show (nOP (.mk 1 0 l E0)).kind = 1 from rfl)]
      show opsW list (W.map nOP) out ([] ++ l.map norm) [] = _
      rw [List.nil_append,hn,wr_fix W 1 _ l [] h3 (fun _ => ⟨hne,rfl⟩) (fun h => absurd h (by decide)) (fun h => absurd rfl h) (fun _ h => absurd rfl h),flO_del hne,flO_nil]
      simp
    | ins l hne hn =>
      have s2 := h2.2.2 rfl
      have hb : b = [] := by
        by_cases e1 : s = 1
        · exact (c1 e1).2
        · exact (c3 e1 s2).2
      subst hb
      rw [if_neg (show ¬ (nOP (.mk 2 0 l E0)).kind = 0 by show ¬ (2 : Int) = 0; decide),if_neg (show ¬ (nOP (.mk 2 0 l E0)).kind = 1 by show ¬ (2 : Int) = 1; decide),if_pos (show (nOP (.mk 2 0 l E0)).kind = 2 from rfl)]
      show opsW list (W.map nOP) out g ([] ++ l.map norm) = _
      rw [List.nil_append,hn,wr_fix W 2 _ g l h3 (fun h => absurd h (by decide)) (fun _ => hne) (fun _ h => absurd rfl h) (fun _ _ h => absurd rfl h),flO_ins g hne]
      simp
    | desc e hi hn =>
      have hi' : idleE list (nOP (.mk 3 0 [] e)).e = false := by show idleE list (nEd e) = false; rw [hn]; exact hi
      rw [if_neg (show ¬ (nOP (.mk 3 0 [] e)).kind = 0 by show ¬ (3 : Int) = 0; decide),if_neg (show ¬ (nOP (.mk 3 0 [] e)).kind = 1 by show ¬ (3 : Int) = 1; decide),if_neg (show ¬ (nOP (.mk 3 0 [] e)).kind = 2 by show ¬ (3 : Int) = 2; decide),if_neg (by rw [hi']; decide)]
      show opsW list (W.map nOP) (flO out g b ++ [.mk 3 0 [] (nEd e)]) [] [] = _
      rw [hn,wr_fix W 3 _ [] [] h3 (fun h => absurd h (by decide)) (fun h => absurd h (by decide)) (fun _ _ => ⟨rfl,rfl⟩) (fun _ _ _ m l e => by simp),flO_nil]
      simp
theorem wr_fl {list : Int} {out : List OP} {g b : List T} (h : Wr list 4 out) (he : endK 4 out ≠ 1∧endK 4 out ≠ 2) (hg : g.map norm = g) (hb : b.map norm = b) : Wr list 4 (flO out g b) := by
  have h1 : Wr list 4 (flO out g [])∧endK 4 (flO out g []) ≠ 2 := by
    by_cases e : g = []
    · subst e; rw [flO_nil]; exact ⟨h,he.2⟩
    · rw [flO_del e]
      refine ⟨wr_snoc h (.del g e hg) ⟨fun h => absurd h.2 (by show ¬ (1 : Int) = 0; decide),fun _ => he,fun h => absurd h (by show ¬ (1 : Int) = 2; decide)⟩,?_⟩
      rw [endK_snoc]
      show ¬ (1 : Int) = 2
      decide
  by_cases e : b = []
  · subst e; exact h1.1
  · rw [flO_ins g e]
    exact wr_snoc h1.1 (.ins b e hb) ⟨fun h => absurd h.2 (by show ¬ (2 : Int) = 0; decide),fun h => absurd h (by show ¬ (2 : Int) = 1; decide),fun _ => h1.2⟩
theorem wr_kp {list : Int} {F : List OP} (n : Int) (h : Wr list 4 F) : Wr list 4 (kpO F n)∧endK 4 (kpO F n) = 0 := by
  rcases List.eq_nil_or_concat F with rfl | ⟨D,x,rfl⟩
  · exact ⟨⟨.keep n,⟨fun h => absurd h.1 (by decide),fun h => absurd h (by show ¬ (0 : Int) = 1; decide),fun h => absurd h (by show ¬ (0 : Int) = 2; decide)⟩,trivial⟩,rfl⟩
  · rw [List.concat_eq_append] at h ⊢
    obtain ⟨g1,g2,g3⟩ := wr_split h
    cases g2 with
    | keep m =>
      have e : kpO (D ++ [OP.mk 0 m [] E0]) n = D ++ [.mk 0 (IntKind.i64.wrap (m + n)) [] E0] := by
        unfold kpO
        rw [List.getLast?_concat]
        simp
      rw [e]
      exact ⟨wr_snoc g1 (.keep _) g3,endK_snoc _ _ _⟩
    | del l hne hn =>
      rw [kp_app (by simp)]
      refine ⟨wr_snoc h (.keep n) ?_,endK_snoc _ _ _⟩
      rw [endK_snoc]
      exact ⟨fun h => absurd h.1 (by show ¬ (1 : Int) = 0; decide),fun h => absurd h (by show ¬ (0 : Int) = 1; decide),fun h => absurd h (by show ¬ (0 : Int) = 2; decide)⟩
    | ins l hne hn =>
      rw [kp_app (by simp)]
      refine ⟨wr_snoc h (.keep n) ?_,endK_snoc _ _ _⟩
      rw [endK_snoc]
      exact ⟨fun h => absurd h.1 (by show ¬ (2 : Int) = 0; decide),fun h => absurd h (by show ¬ (0 : Int) = 1; decide),fun h => absurd h (by show ¬ (0 : Int) = 2; decide)⟩
    | desc e hi hn =>
      rw [kp_app (by simp)]
      refine ⟨wr_snoc h (.keep n) ?_,endK_snoc _ _ _⟩
      rw [endK_snoc]
      exact ⟨fun h => absurd h.1 (by show ¬ (3 : Int) = 0; decide),fun h => absurd h (by show ¬ (0 : Int) = 1; decide),fun h => absurd h (by show ¬ (0 : Int) = 2; decide)⟩
theorem norm_maps (l : List T) : (l.map norm).map norm = l.map norm := by
  rw [List.map_map]
  exact List.map_congr_left fun x _ => norm_norm x
theorem wr_out {list : Int} : ∀ (os out : List OP) (g b : List T),(∀ o,o ∈ os→o.kind ≠ 0→o.kind ≠ 1→o.kind ≠ 2→nEd o.e = o.e)→Wr list 4 out→(endK 4 out ≠ 1∧endK 4 out ≠ 2)→g.map norm = g→b.map norm = b→Wr list 4 (opsW list os out g b)
  | [],out,g,b,_,h,he,hg,hb => by
    rw [opsW]
    exact wr_fl h he hg hb
  | o :: os,out,g,b,ho,h,he,hg,hb => by
    have ho' : ∀ o,o ∈ os→o.kind ≠ 0→o.kind ≠ 1→o.kind ≠ 2→nEd o.e = o.e := fun x hx => ho x (List.mem_cons_of_mem _ hx)
    have hf := wr_fl h he hg hb
    have k := fun n => wr_kp n hf
    rw [opsW]
    split
    · exact wr_out os _ [] [] ho' (k o.n).1 (by rw [(k o.n).2]; decide) rfl rfl
    · split
      · exact wr_out os _ _ _ ho' h he (by rw [List.map_append,hg,norm_maps]) hb
      · split
        · exact wr_out os _ _ _ ho' h he hg (by rw [List.map_append,hb,norm_maps])
        · split
          · exact wr_out os _ [] [] ho' (k 1).1 (by rw [(k 1).2]; decide) rfl rfl
          · rename_i h0 h1 h2 hi
            have hlast : OkNx (endK 4 (flO out g b)) (OP.mk 3 0 [] o.e).kind := ⟨fun h => absurd h.2 (by show ¬ (3 : Int) = 0; decide),fun h => absurd h (by show ¬ (3 : Int) = 1; decide),fun h => absurd h (by show ¬ (3 : Int) = 2; decide)⟩
            refine wr_out os _ [] [] ho' (wr_snoc hf (.desc o.e (by simpa using hi) (ho o (by simp) h0 h1 h2)) hlast) ?_ rfl rfl
            rw [endK_snoc]
            show (3 : Int) ≠ 1∧(3 : Int) ≠ 2
            decide
theorem nEd_E0 : nEd E0 = E0 := by unfold E0; rw [nEd_mk]; simp
theorem nEd_nEd : ∀ e : E,nOk e→nEd (nEd e) = nEd e := by
  refine E.ind fun k o n ws ks l os ihk iho h => ?_
  rw [nOk] at h
  obtain ⟨hk,hl,hon,hwl,hkl,hol,hsum,hks,hos⟩ := h
  rw [nEd_mk]
  split
  · rw [nEd_mk,if_pos rfl,norm_norm,norm_norm]
  · split
    · rename_i h1 h2
      rw [nEd_mk,if_neg (by decide),if_pos rfl,List.map_map]
      congr 1
      refine List.map_congr_left fun x hx => ?_
      show KE.mk x.at_ (nEd (nEd x.e)) = nKE x
      rw [ihk x hx (nOkK_all (hks h2) x hx)]
      rfl
    · split
      · rename_i h1 h2 h3
        rw [nEd_mk,if_neg (by decide),if_neg (by decide),if_pos rfl]
        have hw := wr_out (list := l) (os.map nOP) [] [] [] (fun x hx e0 e1 e2 => by
          obtain ⟨y,hy,rfl⟩ := List.mem_map.1 hx
          obtain ⟨g1,g2,g3⟩ := nOkO_all (hos h3) y hy
          have : y.kind = 3 := by
            have e0' : y.kind ≠ 0 := e0
            have e1' : y.kind ≠ 1 := e1
            have e2' : y.kind ≠ 2 := e2
            omega
          exact iho y hy (g3 this)) trivial (by show (4 : Int) ≠ 1∧(4 : Int) ≠ 2; decide) rfl rfl
        have := wr_fix _ 4 [] [] [] hw (fun h => absurd h (by decide)) (fun h => absurd h (by decide)) (fun _ _ => ⟨rfl,rfl⟩) (fun _ _ _ m l e => by simp)
        rw [this,flO_nil,List.nil_append]
      · exact nEd_E0
def one26 (l : List T) : Nat := if l = [] then 0 else 1
theorem flO_len' (out : List OP) (g b : List T) : (flO out g b).length = out.length + one26 g + one26 b := by
  unfold flO delO insO one26
  split <;> split <;> simp
theorem one26_le (l : List T) : one26 l≤1 := by unfold one26; split <;> omega
theorem opsW_len2 (list : Int) : ∀ (os out : List OP) (g b : List T),(opsW list os out g b).length≤out.length + os.length + one26 g + one26 b
  | [],out,g,b => by
    rw [opsW,flO_len']
    simp
  | x :: os,out,g,b => by
    have h1 := flO_len' out g b
    have h2 := kpO_len (flO out g b)
    have z : one26 [] = 0 := rfl
    rw [opsW,List.length_cons]
    split
    · have := opsW_len2 list os (kpO (flO out g b) x.n) [] []
      have := h2 x.n
      omega
    · split
      · have := opsW_len2 list os out (g ++ x.l.map norm) b
        have g1 := one26_le (g ++ x.l.map norm)
        have g2 : one26 (g ++ x.l.map norm)≤one26 g + 1 := by omega
        omega
      · split
        · have := opsW_len2 list os out g (b ++ x.l.map norm)
          have g1 := one26_le (b ++ x.l.map norm)
          omega
        · split
          · have := opsW_len2 list os (kpO (flO out g b) 1) [] []
            have := h2 1
            omega
          · have := opsW_len2 list os (flO out g b ++ [.mk 3 0 [] x.e]) [] []
            rw [List.length_append,List.length_singleton] at this
            omega
theorem sumO_kp (out : List OP) (n : Int) : sumO (kpO out n) = sumO out := by
  unfold kpO
  split
  · rename_i m l e he
    rcases List.eq_nil_or_concat out with rfl | ⟨D,x,rfl⟩
    · simp at he
    · rw [List.concat_eq_append] at he ⊢
      rw [List.getLast?_concat] at he
      cases he
      rw [List.dropLast_concat,sumO_app,sumO_app]
      rfl
  · rw [sumO_app]; rfl
theorem sumO_fl (out : List OP) (g b : List T) : sumO (flO out g b) = sumO out + g.length + b.length := by
  unfold flO
  rw [sumO_app,sumO_app,sum_del26,sum_ins26]
  omega
theorem opsW_sum (list : Int) : ∀ (os out : List OP) (g b : List T),sumO (opsW list os out g b)≤sumO out + g.length + b.length + sumO os
  | [],out,g,b => by
    rw [opsW,sumO_fl]
    omega
  | x :: os,out,g,b => by
    rw [opsW,sumO_cons]
    split
    · have := opsW_sum list os (kpO (flO out g b) x.n) [] []
      rw [sumO_kp,sumO_fl] at this
      simp only [List.length_nil] at this
      omega
    · split
      · have := opsW_sum list os out (g ++ x.l.map norm) b
        rw [List.length_append,List.length_map] at this
        omega
      · split
        · have := opsW_sum list os out g (b ++ x.l.map norm)
          rw [List.length_append,List.length_map] at this
          omega
        · split
          · have := opsW_sum list os (kpO (flO out g b) 1) [] []
            rw [sumO_kp,sumO_fl] at this
            simp only [List.length_nil] at this
            omega
          · have := opsW_sum list os (flO out g b ++ [.mk 3 0 [] x.e]) [] []
            rw [sumO_app,sumO_fl,show sumO [OP.mk 3 0 [] x.e] = 0 from rfl] at this
            simp only [List.length_nil] at this
            omega
theorem opsW_all {list : Int} {P : OP→Prop} (hk : ∀ n,P (.mk 0 n [] E0)) (hk' : ∀ m n l e,P (.mk 0 m l e)→P (.mk 0 n l e)) (hd : ∀ l,(∀ t,t ∈ l→wfT t)→P (.mk 1 0 l E0)) (hi : ∀ l,(∀ t,t ∈ l→wfT t)→P (.mk 2 0 l E0)) : ∀ (os out : List OP) (g b : List T),(∀ o,o ∈ os→(∀ t,t ∈ o.l→wfT t)∧(o.kind ≠ 0→o.kind ≠ 1→o.kind ≠ 2→P (.mk 3 0 [] o.e)))→(∀ o,o ∈ out→P o)→(∀ t,t ∈ g→wfT t)→(∀ t,t ∈ b→wfT t)→∀ o,o ∈ opsW list os out g b→P o := by
  have kp : ∀ {out : List OP} (n : Int),(∀ o,o ∈ out→P o)→∀ o,o ∈ kpO out n→P o := fun {out} n h o ho => by
    unfold kpO at ho
    split at ho
    · rename_i m l e he
      rcases List.mem_append.1 ho with ho | ho
      · exact h o (List.dropLast_subset _ ho)
      · rw [List.mem_singleton] at ho
        subst ho
        exact hk' m _ l e (h _ (List.mem_of_getLast? he))
    · rcases List.mem_append.1 ho with ho | ho
      · exact h o ho
      · rw [List.mem_singleton] at ho
        subst ho
        exact hk n
  have fl : ∀ {out : List OP} {g b : List T},(∀ o,o ∈ out→P o)→(∀ t,t ∈ g→wfT t)→(∀ t,t ∈ b→wfT t)→∀ o,o ∈ flO out g b→P o := fun {out g b} h hg hb o ho => by
    unfold flO delO insO at ho
    rcases List.mem_append.1 ho with ho | ho
    · exact h o ho
    · rcases List.mem_append.1 ho with ho | ho
      · split at ho
        · simp at ho
        · rw [List.mem_singleton] at ho; subst ho; exact hd g hg
      · split at ho
        · simp at ho
        · rw [List.mem_singleton] at ho; subst ho; exact hi b hb
  have z : ∀ t : T,t ∈ ([] : List T)→wfT t := by simp
  intro os
  induction os with
  | nil =>
    intro out g b _ ho hg hb
    rw [opsW]
    exact fl ho hg hb
  | cons x os ih =>
    intro out g b hos ho hg hb
    have hos' := fun o (h : o ∈ os) => hos o (List.mem_cons_of_mem _ h)
    have hx := hos x (by simp)
    have nn : ∀ (l : List T),(∀ t,t ∈ l→wfT t)→∀ t,t ∈ l ++ x.l.map norm→wfT t := fun l hl t ht => by
      rcases List.mem_append.1 ht with ht | ht
      · exact hl t ht
      · obtain ⟨u,hu,rfl⟩ := List.mem_map.1 ht
        exact wf_norm _ (hx.1 u hu)
    rw [opsW]
    split
    · exact ih _ _ _ hos' (kp _ (fl ho hg hb)) z z
    · split
      · exact ih _ _ _ hos' ho (nn g hg) hb
      · split
        · exact ih _ _ _ hos' ho hg (nn b hb)
        · split
          · exact ih _ _ _ hos' (kp _ (fl ho hg hb)) z z
          · rename_i h0 h1 h2 _
            refine ih _ _ _ hos' (fun o h => ?_) z z
            rcases List.mem_append.1 h with h | h
            · exact fl ho hg hb o h
            · rw [List.mem_singleton] at h
              subst h
              exact hx.2 h0 h1 h2
theorem nOk_nEd : ∀ e : E,nOk e→nOk (nEd e) := by
  refine E.ind fun k o n ws ks l os ihk iho h => ?_
  rw [nOk] at h
  obtain ⟨hk,hl,hon,hwl,hkl,hol,hsum,hks,hos⟩ := h
  rw [nEd_mk]
  split
  · rename_i h1
    exact nOk_rep (wf_norm _ (hon h1).1) (wf_norm _ (hon h1).2)
  · split
    · rename_i h1 h2
      rw [nOk]
      refine ⟨.inr (.inr (.inl rfl)),fun _ => rfl,fun h => absurd h (by decide),hwl,by simpa using hkl,by simp,by simp [sumO],fun _ => nOkK_of fun x hx => ?_,fun h => absurd h (by decide)⟩
      obtain ⟨y,hy,rfl⟩ := List.mem_map.1 hx
      exact ihk y hy (nOkK_all (hks h2) y hy)
    · split
      · rename_i h1 h2 h3
        have l1 := opsW_len2 l (os.map nOP) [] [] []
        have l2 := opsW_sum l (os.map nOP) [] [] []
        rw [sumO_nOP,show sumO [] = 0 from rfl] at l2
        rw [List.length_map,show one26 [] = 0 from rfl] at l1
        simp only [List.length_nil] at l1 l2
        rw [nOk]
        refine ⟨.inr (.inr (.inr rfl)),fun h => absurd rfl h,fun h => absurd h (by decide),by simp,by simp,by omega,by omega,fun h => absurd h (by decide),fun _ => nOkO_of fun x hx => ?_⟩
        refine opsW_all (P := fun x => (x.kind = 0∨x.kind = 1∨x.kind = 2∨x.kind = 3)∧(∀ t,t ∈ x.l→wfT t)∧(x.kind = 3→nOk x.e)) (fun n => ⟨.inl rfl,fun t (h : t ∈ ([] : List T)) => by simp at h,fun h => absurd h (by show ¬ (0 : Int) = 3; decide)⟩) (fun m n l e h => ⟨.inl rfl,h.2.1,fun h => absurd h (by show ¬ (0 : Int) = 3; decide)⟩) (fun l hl => ⟨.inr (.inl rfl),hl,fun h => absurd h (by show ¬ (1 : Int) = 3; decide)⟩) (fun l hl => ⟨.inr (.inr (.inl rfl)),hl,fun h => absurd h (by show ¬ (2 : Int) = 3; decide)⟩) _ _ _ _ (fun o ho => ?_) (by simp) (by simp) (by simp) x hx
        obtain ⟨y,hy,rfl⟩ := List.mem_map.1 ho
        obtain ⟨g1,g2,g3⟩ := nOkO_all (hos h3) y hy
        refine ⟨g2,fun e0 e1 e2 => ⟨.inr (.inr (.inr rfl)),fun t (h : t ∈ ([] : List T)) => by simp at h,fun _ => ?_⟩⟩
        have : y.kind = 3 := by
          have e0' : y.kind ≠ 0 := e0
          have e1' : y.kind ≠ 1 := e1
          have e2' : y.kind ≠ 2 := e2
          omega
        exact iho y hy (g3 this)
      · exact nOk_E0
theorem df_once {a b : T} (ha : wfT a) (hb : wfT b) (pa : partsT a≤1000) (pb : partsT b≤1000) {most : Int} : nOk (dfE most a b)∧nEd (dfE most a b) = dfE most a b := by
  have h := nOk_one most 1000 1000 _ _ (okT_norm26 a ha pa 1000 pa) (okT_norm26 b hb pb 1000 pb)
  exact ⟨nOk_nEd _ h,nEd_nEd _ h⟩
end Go.Proofs.YtmeldaflhkiopaaGreat

namespace Go.Proofs.YtmeldaflhkiopaaGreat
set_option linter.unusedVariables false
set_option linter.unusedSimpArgs false
open Go Go.G Go.Proofs Go.PL
abbrev at26 (x : Int) : T := .mk 10 [x] []
abbrev ls26 (l : List Int) : T := .mk 4 [] (l.map at26)
theorem same_at26 (x y : Int) : sameB (at26 x) (at26 y) = decide (x = y) := by
  rw [Bool.eq_iff_iff,sameB_iff]
  simp
theorem norm_at26 (x : Int) : norm (at26 x) = at26 x := by simp [norm_mk]
theorem norm_ls26 (l : List Int) : norm (ls26 l) = ls26 l := by
  rw [norm_mk]
  simp [Function.comp_def,norm_at26]
theorem eq_ls26 : eqT (ls26 [1,2,3]) (ls26 [1,9,3]) = false := by
  rw [Bool.eq_false_iff]
  intro h
  rw [eqT_iff,norm_ls26,norm_ls26] at h
  simp at h
theorem cls_a26 : clsL [] [at26 1,at26 2,at26 3] = ([at26 1,at26 2,at26 3],[0,1,2]) := by
  simp [clsL,clsI,clsK,norm_at26,same_at26,List.findIdx_cons]
theorem cls_b26 : clsL [at26 1,at26 2,at26 3] [at26 1,at26 9,at26 3] = ([at26 1,at26 2,at26 3,at26 9],[0,3,2]) := by
  simp [clsL,clsI,clsK,norm_at26,same_at26,List.findIdx_cons]
theorem ca_26 : caL (ls26 [1,2,3]) = [0,1,2] := by
  show zsN (clsL [] [at26 1,at26 2,at26 3]).2 = _
  rw [cls_a26]; rfl
theorem cb_26 : cbL (ls26 [1,2,3]) (ls26 [1,9,3]) = [0,3,2] := by
  show zsN (clsL (clsL [] [at26 1,at26 2,at26 3]).1 [at26 1,at26 9,at26 3]).2 = _
  rw [cls_a26]
  show zsN (clsL [at26 1,at26 2,at26 3] [at26 1,at26 9,at26 3]).2 = _
  rw [cls_b26]; rfl
theorem dist_26 : distL [0,1,2] [0,3,2] = 2 := by decide
theorem way_26 : nrmS (wayU [0,1,2] [0,3,2]) = [⟨0,1⟩,⟨1,1⟩,⟨2,1⟩,⟨0,1⟩] := by rfl
theorem gap_26 (one : T→T→E) : gapE one [at26 2] [at26 9] = [.mk 1 0 [at26 2] E0,.mk 2 0 [at26 9] E0] := by
  have hs : scR [at26 2] [at26 9] = [[0]] := by simp [scR,scoreT]
  have hp : pkG (scR [at26 2] [at26 9]) = [] := by
    obtain ⟨h,_⟩ := pkO_ok (scR [at26 2] [at26 9])
    have h2 := (picks_facts h).2
    have : pkO (scR [at26 2] [at26 9]) = [] := by
      apply List.eq_nil_iff_forall_not_mem.2
      intro x hx
      have := h2 x hx
      rw [hs] at this
      simp [candS,candR] at this
    unfold pkG
    rw [this]; rfl
  unfold gapE
  rw [hp]
  simp [gapO,delO,insO]
theorem df_26 : dfE 9 (ls26 [1,2,3]) (ls26 [1,9,3]) = .mk 3 T0 T0 [] [] 4 [.mk 0 1 [] E0,.mk 1 0 [at26 2] E0,.mk 2 0 [at26 9] E0,.mk 0 1 [] E0] := by
  unfold dfE
  rw [norm_ls26,norm_ls26,show (1000 : Nat) = 999 + 1 from rfl,oneE,eq_ls26]
  rw [if_neg (by simp),if_neg (by simp),if_pos (by simp),listE_eq]
  unfold lstO
  rw [ca_26,cb_26,dist_26,way_26,if_pos (by omega)]
  rw [opsG_keep rfl,opsG_gap rfl rfl,opsG_keep rfl]
  have e : gapE (oneE 9 999) (((ls26 [1,2,3]).kids.drop 1).take 1) (((ls26 [1,9,3]).kids.drop 1).take 1) = [.mk 1 0 [at26 2] E0,.mk 2 0 [at26 9] E0] := gap_26 _
  show nEd (E.mk 3 T0 T0 [] [] 4 (opsG (gapE (oneE 9 999)) [] _ _ ([] ++ [OP.mk 0 ((1 : Nat) : Int) [] E0] ++ gapE (oneE 9 999) (((ls26 [1,2,3]).kids.drop 1).take 1) (((ls26 [1,9,3]).kids.drop 1).take 1) ++ [OP.mk 0 ((1 : Nat) : Int) [] E0]))) = _
  rw [e,opsG,nEd_mk]
  simp [nOP,opsW,kpO,flO,delO,insO,norm_at26,nEd_mk]
end Go.Proofs.YtmeldaflhkiopaaGreat

namespace Go.Proofs.YtmeldaflhkiopaaGreat
set_option linter.unusedVariables false
set_option linter.unusedSimpArgs false
open Go Go.G Go.Proofs Go.PL
inductive Lk (R : T→T→Prop) : E→E→Prop
  | mk (k : Int) (o n o' n' : T) (ws : List WE) (ks ks' : List KE) (l : Int) (os os' : List OP) : R o o'→R n n'→ks.length = ks'.length →
    (∀ (i : Nat) (h : i < ks.length) (h' : i < ks'.length),ks[i].at_ = ks'[i].at_)→(∀ (i : Nat) (h : i < ks.length) (h' : i < ks'.length),Lk R ks[i].e ks'[i].e)→os.length = os'.length →
    (∀ (i : Nat) (h : i < os.length) (h' : i < os'.length),os[i].kind = os'[i].kind∧os[i].n = os'[i].n∧(os[i].l.length = os'[i].l.length∧∀ (j : Nat) (g : j < os[i].l.length) (g' : j < os'[i].l.length),R (os[i].l[j]) (os'[i].l[j]))) →
    (∀ (i : Nat) (h : i < os.length) (h' : i < os'.length),Lk R os[i].e os'[i].e) →
    Lk R (.mk k o n ws ks l os) (.mk k o' n' ws ks' l os')
theorem lk_refl {R : T→T→Prop} (h : ∀ t,R t t) : ∀ e,Lk R e e := by
  refine E.ind fun k o n ws ks l os ihk iho => ?_
  exact .mk _ _ _ _ _ _ _ _ _ _ _ (h o) (h n) rfl (fun i h1 _ => rfl) (fun i h1 _ => ihk _ (List.getElem_mem h1)) rfl (fun i h1 _ => ⟨rfl,rfl,⟨rfl,fun j _ _ => h _⟩⟩) (fun i h1 _ => iho _ (List.getElem_mem h1))
section
variable {n0 : Nat} {w0 : World} {I0 : Nat→Prop} {Q : Exit→Sta→Prop}
end
section
variable {n0 : Nat} {w0 : World} {I0 : Nat→Prop} {Q : Exit→Sta→Prop}
end
section
variable {n0 : Nat} {w0 : World} {I0 : Nat→Prop} {Q : Exit→Sta→Prop}
theorem smEd_t1 {a b : List T} {H : Hp} (hl : a.length = b.length) (hb : a.length * 56≤140737488355328) (h : ∀ (i : Nat) (h1 : i < a.length) (h2 : i < b.length),G.Spec Tryz.prog 19 [tX a[i],tX b[i]] (bv true)) (hq : ∀ i q,Q (.exit 0) ⟨lk [(0,tKs a),(1,tKs b),(5,iv i),(14,bv q)],H⟩) : ∀ (m i : Nat),i + m = a.length →
    LoopC (cx Tryz.prog w0 I0 n0) l1_centoref22_sameTrees Q ⟨lk [(0,tKs a),(1,tKs b),(5,nv i)],H⟩ := by
  intro m
  induction m with
  | zero =>
    intro i hi
    have : i = a.length := by omega
    subst this
    refine loopC_once mixed l1_centoref22_sameTrees.eq_1 ?_
    simp
    exact hq _ _
  | succ m ih =>
    intro i hi
    have hlt : i < a.length := by omega
    have hlt2 : i < b.length := by omega
    have ei : IntKind.i64.wrap ((i : Int) + 1) = ((i + 1 : Nat) : Int) := i64_same (by omega) (by omega)
    refine loopC_once mixed l1_centoref22_sameTrees.eq_1 ?_
    simp [hlt,hlt2]
    refine sc_call (h i hlt hlt2) (by simp) ?_
    simp [ei]
    exact ih (i + 1) (by omega)
end
theorem smEd_trees {a b : List T} (hl : a.length = b.length) (hb : a.length * 56≤140737488355328) (h : ∀ (i : Nat) (h1 : i < a.length) (h2 : i < b.length),G.Spec Tryz.prog 19 [tX a[i],tX b[i]] (bv true)) : G.Spec Tryz.prog 24 [tKs a,tKs b] (bv true) := by
  refine spec_of t_centoref22_sameTrees (by simp) fun w0 I0 => ?_
  unfold c_centoref22_sameTrees
  simp [hl]
  refine smEd_t1 hl hb h (fun i q => ?_) a.length 0 (by omega)
  simp
  exact frz_bare rfl
section
variable {n0 : Nat} {w0 : World} {I0 : Nat→Prop} {Q : Exit→Sta→Prop}
theorem smEd_l1 {e f : E} {H : Hp} (h0 : H [0] = ⟨1,.cells (eL e)⟩) (h1 : H [1] = ⟨1,.cells (eL f)⟩) (hw : e.words = f.words) (hb : e.words.length * 32≤140737488355328) (hq : ∀ i q,Q (.exit 0) ⟨lk [(2,.pob [0] 1 0),(3,.pob [1] 1 0),(5,iv i),(69,bv q)],H⟩) : ∀ (m i : Nat),i + m = e.words.length →
    LoopC (cx Tryz.prog w0 I0 n0) l1_centoref22_Same Q ⟨lk [(2,.pob [0] 1 0),(3,.pob [1] 1 0),(5,nv i)],H⟩ := by
  intro m
  induction m with
  | zero =>
    intro i hi
    have : i = e.words.length := by omega
    subst this
    refine loopC_once mixed l1_centoref22_Same.eq_1 ?_
    simp [h0,h1]
    exact hq _ _
  | succ m ih =>
    intro i hi
    have hlt : i < e.words.length := by omega
    have hlt2 : i < f.words.length := by rw [← hw]; omega
    have ei : IntKind.i64.wrap ((i : Int) + 1) = ((i + 1 : Nat) : Int) := i64_same (by omega) (by omega)
    have hx : e.words[i] = f.words[i] := by simp only [hw]
    refine loopC_once mixed l1_centoref22_Same.eq_1 ?_
    simp [hlt,hlt2,h0,h1,hx]
    simp [ei]
    exact ih (i + 1) (by omega)
theorem smEd_l2 {e f : E} {H : Hp} (h0 : H [0] = ⟨1,.cells (eL e)⟩) (h1 : H [1] = ⟨1,.cells (eL f)⟩) (hl : e.kids.length = f.kids.length) (hb : e.kids.length * 208≤140737488355328) (hk : ∀ (i : Nat) (g : i < e.kids.length) (g' : i < f.kids.length),e.kids[i].at_ = f.kids[i].at_∧G.Spec Tryz.prog 8 [eX e.kids[i].e,eX f.kids[i].e] (bv true)) (hq : ∀ i q,Q (.exit 2) ⟨lk [(2,.pob [0] 1 0),(3,.pob [1] 1 0),(6,iv i),(87,bv q)],H⟩) : ∀ (m i : Nat),i + m = e.kids.length →
    LoopC (cx Tryz.prog w0 I0 n0) l2_centoref22_Same Q ⟨lk [(2,.pob [0] 1 0),(3,.pob [1] 1 0),(6,nv i)],H⟩ := by
  intro m
  induction m with
  | zero =>
    intro i hi
    have : i = e.kids.length := by omega
    subst this
    refine loopC_once mixed l2_centoref22_Same.eq_1 ?_
    simp [h0,h1]
    exact hq _ _
  | succ m ih =>
    intro i hi
    have hlt : i < e.kids.length := by omega
    have hlt2 : i < f.kids.length := by omega
    have ei : IntKind.i64.wrap ((i : Int) + 1) = ((i + 1 : Nat) : Int) := i64_same (by omega) (by omega)
    obtain ⟨ha,hs⟩ := hk i hlt hlt2
    refine loopC_once mixed l2_centoref22_Same.eq_1 ?_
    simp [hlt,hlt2,h0,h1,ha]
    refine sc_call_gf rfl (fun _ => hs) (fun _ => rfl) (by simp) ?_
    simp [ei]
    exact ih (i + 1) (by omega)
theorem smEd_l3 {e f : E} (hl : e.ops.length = f.ops.length) (hb : e.ops.length * 240≤140737488355328) (hk : ∀ (i : Nat) (g : i < e.ops.length) (g' : i < f.ops.length),e.ops[i].kind = f.ops[i].kind∧e.ops[i].n = f.ops[i].n∧G.Spec Tryz.prog 24 [tKs e.ops[i].l,tKs f.ops[i].l] (bv true)∧G.Spec Tryz.prog 8 [eX e.ops[i].e,eX f.ops[i].e] (bv true)) (hq : ∀ H' i q,Q (.exit 4) ⟨lk [(2,.pob [0] 1 0),(3,.pob [1] 1 0),(7,iv i),(123,bv q)],H'⟩) : ∀ (m i : Nat) (H : Hp),i + m = e.ops.length→H [0] = ⟨1,.cells (eL e)⟩→H [1] = ⟨1,.cells (eL f)⟩ →
    LoopC (cx Tryz.prog w0 I0 n0) l3_centoref22_Same Q ⟨lk [(2,.pob [0] 1 0),(3,.pob [1] 1 0),(7,nv i)],H⟩ := by
  intro m
  induction m with
  | zero =>
    intro i H hi h0 h1
    have : i = e.ops.length := by omega
    subst this
    refine loopC_once mixed l3_centoref22_Same.eq_1 ?_
    simp [h0,h1]
    exact hq _ _ _
  | succ m ih =>
    intro i H hi h0 h1
    have hlt : i < e.ops.length := by omega
    have hlt2 : i < f.ops.length := by omega
    have ei : IntKind.i64.wrap ((i : Int) + 1) = ((i + 1 : Nat) : Int) := i64_same (by omega) (by omega)
    obtain ⟨ha,hn,ht,hs⟩ := hk i hlt hlt2
    refine loopC_once mixed l3_centoref22_Same.eq_1 ?_
    simp [hlt,hlt2,h0,h1,updF_app,ha,hn]
    refine sc_call_gf rfl (fun _ => ht) (fun _ => rfl) (by simp) ?_
    simp [updF_app]
    refine sc_call_gf rfl (fun _ => hs) (fun _ => rfl) (by simp) ?_
    simp [ei]
    exact ih (i + 1) _ (by omega) (by simp [updF_app,h0]) (by simp [updF_app,h1])
end
set_option maxRecDepth 10000 in
theorem smEd_spec {R : T→T→Prop} (hR : ∀ a b,wfT a→wfT b→R a b→G.Spec Tryz.prog 19 [tX a,tX b] (bv true)) : ∀ (e f : E),wfE e→wfE f→Lk R e f→G.Spec Tryz.prog 8 [eX e,eX f] (bv true) := by
  refine E.ind fun k o nn ws ks l os ihk iho f hw hwf hl => ?_
  cases hl with
  | mk _ _ _ o' n' _ _ ks' _ _ os' r1 r2 r3 r4 r4b r5 r6 r6b =>
    have h := wfE_iff.1 hw
    have g := wfE_iff.1 hwf
    have h1 := hR _ _ h.o g.o r1
    have h2 := hR _ _ h.n g.n r2
    simp only [E.old_mk,E.new_mk] at h1 h2
    refine spec_of t_centoref22_Same (by simp) fun w0 I0 => ?_
    unfold c_centoref22_Same
    simp
    refine sc_call_gf rfl (fun _ => h1) (fun _ => rfl) (by simp) ?_
    simp
    refine sc_call_gf rfl (fun _ => h2) (fun _ => rfl) (by simp) ?_
    simp [r3,r5]
    refine smEd_l1 (e := .mk k o nn ws ks l os) (f := .mk k o' n' ws ks' l os') (by simp) (by simp) rfl h.wl (fun i q => ?_) ws.length 0 (by simp)
    simp
    refine smEd_l2 (e := .mk k o nn ws ks l os) (f := .mk k o' n' ws ks' l os') (by simp) (by simp) r3 h.kl (fun i a b => ⟨r4 i a b,ihk _ (List.getElem_mem a) _ (h.ks _ (List.getElem_mem a)).2 (g.ks _ (List.getElem_mem b)).2 (r4b i a b)⟩) (fun i q => ?_) ks.length 0 (by simp)
    simp
    refine smEd_l3 (e := .mk k o nn ws ks l os) (f := .mk k o' n' ws ks' l os') r5 h.ol (fun i a b => ?_) (fun H' i q => ?_) os.length 0 _ (by simp) (by simp) (by simp)
    · obtain ⟨q1,q2,q3,q4⟩ := r6 i a b
      have q5 := r6b i a b
      have ha := h.os _ (List.getElem_mem a)
      have hb := g.os _ (List.getElem_mem b)
      exact ⟨q1,q2,smEd_trees q3 ha.ll (fun j g1 g2 => hR _ _ (ha.l _ (List.getElem_mem g1)) (hb.l _ (List.getElem_mem g2)) (q4 j g1 g2)),iho _ (List.getElem_mem a) _ ha.e hb.e q5⟩
    · simp
      exact frz_bare rfl
end Go.Proofs.YtmeldaflhkiopaaGreat

namespace Go.Proofs.YtmeldaflhkiopaaGreat
set_option linter.unusedVariables false
set_option linter.unusedSimpArgs false
open Go Go.G Go.Proofs Go.PL
def at26R (x : Int) : A := .agg [iv 10,.sl true [uv x],.sl true []]
@[simp] theorem at26R_cells (x : Int) : (at26R x).cells = [iv 10,.sl true [uv x],.sl true []] := rfl
theorem lens_at26 {l : List Int} : lens 3 (l.map at26R) = true := by rw [lens_all]; simp
section
variable {n0 : Nat} {w0 : World} {I0 : Nat→Prop} {Q : Exit→Sta→Prop}
theorem aw26_l1 {l : List Int} (hl : l.length≤1000) (hq : ∀ (H' : Hp) (v : Nat) (st : List (Nat × A)),H' [0] = ⟨1,.cells [iv 0,.sl true [],.sl true []]⟩→H' [1] = ⟨1,.cells [iv 4,.sl true [],.osl [2] v 3 0 l.length]⟩→H' [2] = ⟨v,.arr 3 (l.map at26R)⟩→Q (.exit 0) ⟨lk ([(0,uws l),(2,.pob [0] 1 0),(3,.pob [1] 1 0)] ++ st),H'⟩) :
    ∀ (m i v : Nat) (H : Hp),i + m = l.length→H [0] = ⟨1,.cells [iv 0,.sl true [],.sl true []]⟩→H [1] = ⟨1,.cells [iv 4,.sl true [],.osl [2] v 3 0 i]⟩→H [2] = ⟨v,.arr 3 ((l.take i).map at26R)⟩ →
    LoopC (cx Tryz.prog w0 I0 n0) l1_centolaw26_awake_1 Q ⟨lk [(0,uws l),(2,.pob [0] 1 0),(3,.pob [1] 1 0),(4,iv i)],H⟩ := by
  intro m
  induction m with
  | zero =>
    intro i v H hm h0 h1 h2
    have : i = l.length := by omega
    subst this
    rw [List.take_of_length_le (Nat.le_refl _)] at h2
    refine loopC_once mixed l1_centolaw26_awake_1.eq_1 ?_
    simp
    have := hq H v [(4,iv l.length),(9,bv false)] h0 h1 h2
    simpa using this
  | succ m ih =>
    intro i v H hm h0 h1 h2
    have hlt : i < l.length := by omega
    have ew : IntKind.i64.wrap ((i : Int) + 1) = ((i + 1 : Nat) : Int) := by rw [i64_same (by omega) (by omega)]; omega
    have htk : l.take (i + 1) = l.take i ++ [l[i]] := List.take_succ_eq_append_getElem hlt
    have next := ih (i + 1) (v + 1)
    rw [htk,List.map_append] at next
    refine loopC_once mixed l1_centolaw26_awake_1.eq_1 ?_
    simp [hlt,h1,h2,ew,updF_app,lens_at26]
    refine ⟨by omega,?_⟩
    refine next _ (by omega) (by simp [updF_app,h0]) (by simp [updF_app]) ?_
    rw [List.take_of_length_le (by simp; omega)]
    simp [updF_app,at26R]
end
theorem aw26_one {l : List Int} (hl : l.length≤1000) : G.Spec Tryz.prog 23 [uws l] (tX (ls26 l)) := by
  refine spec_of t_centolaw26_awake_1 (by simp) fun w0 I0 => ?_
  unfold c_centolaw26_awake_1
  simp
  refine LoopC.le (le_blankC (d := [1]) (u := 1) 2 [2] 3 (by simp [updF_app]; rfl) rfl (by simp)) ?_
  refine LoopC.le (le_list [(0,uws l),(2,.pob [0] 1 0),(3,.pob [1] 1 0),(4,iv (0 : Nat))] (by simp [upd])) ?_
  refine aw26_l1 hl (fun H' v st h0 h1 h2 => ?_) l.length 0 1 _ (by omega) (by simp [updF_app]) (by simp [updF_app]) (by simp [updF_app])
  simp [h0,h1]
  refine frz_agg ⟨frz_bare rfl,frz_sl,?_,trivial⟩
  have := frz_rowF (H := updF H' [0] ⟨1,.cells [iv 4,.sl true [],.osl [2] v 3 0 l.length]⟩) (o := [2]) (u := v) (n := l.length) (sz := 3) (l := l) (f := at26R) (g := fun x => tA (at26 x)) (by simp [updF_app,h2]) rfl (fun x _ => by simp [A.soft,A.softL])
  show Frz _ _ (.sl false ((l.map at26).map tA))
  rw [List.map_map]
  exact this
theorem awake26_spec : G.Spec Tryz.prog 7 [] (bv true) := by
  have wf1 : ∀ x : Int,0≤x→x < 100→wfT (at26 x) := fun x h1 h2 => wfT_iff.2 ⟨by simp [i64R],by simp [u64R]; omega,by simp,by simp,by simp⟩
  have w1 : wfT (ls26 [1,2,3]) := wfT_iff.2 ⟨by simp [i64R],by simp,by simp,by simp,by simp [wf1]⟩
  have w2 : wfT (ls26 [1,9,3]) := wfT_iff.2 ⟨by simp [i64R],by simp,by simp,by simp,by simp [wf1]⟩
  have T := pTrees_spec w1 w2 (by simp) (by simp) (most := 9) (by simp [i64R])
  rw [df_26] at T
  refine spec_of t_centolaw26_awake (by simp) fun w0 I0 => ?_
  unfold c_centolaw26_awake
  simp
  refine sc_callv rfl ((aw26_one (l := [1,2,3]) (by simp)).soft (by simp [A.softL,A.soft])) (by simp) ?_
  simp
  refine sc_callv rfl ((aw26_one (l := [1,9,3]) (by simp)).soft (by simp [A.softL,A.soft])) (by simp) ?_
  simp
  refine sc_call T (by simp) ?_
  simp
  exact frz_is rfl (by simp)
theorem same26_spec {e : E} (h : wfE e) : G.Spec Tryz.prog 8 [eX e,eX e] (bv true) := by
  refine smEd_spec (R := fun a b => a = b) (fun a b ha hb e => ?_) e e h h (lk_refl (fun _ => rfl) e)
  subst e
  have := rTSame_spec a ha a
  rwa [show sameB a a = true from sameB_iff.2 rfl] at this
end Go.Proofs.YtmeldaflhkiopaaGreat

namespace Go.Proofs.YtmeldaflhkiopaaGreat
set_option linter.unusedVariables false
set_option linter.unusedSimpArgs false
open Go Go.G Go.Proofs Go.PL
theorem unlM_same (a : Int) : ∀ k,unlM a a k = 0
  | 0 => rfl
  | k + 1 => by
    unfold unlM
    rw [unlM_same a k]
    simp
theorem unlM_zero {a b : Int} : ∀ k,unlM a b k = 0→∀ i,i < k→byteZ a i = byteZ b i
  | 0,_,i,h => by omega
  | k + 1,h,i,hi => by
    unfold unlM at h
    have h1 : unlM a b k = 0 := by omega
    have h2 : (if byteZ a k ≠ byteZ b k then 2 ^ k else 0) = 0 := by omega
    by_cases e : i = k
    · subst e
      apply Classical.byContradiction
      intro hne
      rw [if_pos hne] at h2
      have := Nat.pow_pos (n := i) (show 0 < 2 by omega)
      omega
    · exact unlM_zero k h1 i (by omega)
theorem unl_zero {a b : Int} (ha : u64R a) (hb : u64R b) : unlZ a b = 0 ↔ a = b := by
  constructor
  · intro h
    have h' : unlM a b 8 = 0 := by unfold unlZ at h; omega
    have g := unlM_zero 8 h'
    have g0 := g 0 (by omega)
    have g1 := g 1 (by omega)
    have g2 := g 2 (by omega)
    have g3 := g 3 (by omega)
    have g4 := g 4 (by omega)
    have g5 := g 5 (by omega)
    have g6 := g 6 (by omega)
    have g7 := g 7 (by omega)
    clear g h h'
    unfold byteZ at g0 g1 g2 g3 g4 g5 g6 g7
    simp only [show (256 : Int) ^ 0 = 1 from rfl,show (256 : Int) ^ 1 = 256 from rfl,show (256 : Int) ^ 2 = 65536 from rfl,show (256 : Int) ^ 3 = 16777216 from rfl,show (256 : Int) ^ 4 = 4294967296 from rfl,show (256 : Int) ^ 5 = 1099511627776 from rfl,show (256 : Int) ^ 6 = 281474976710656 from rfl,show (256 : Int) ^ 7 = 72057594037927936 from rfl] at g0 g1 g2 g3 g4 g5 g6 g7
    unfold u64R at ha hb
    omega
  · rintro rfl
    unfold unlZ
    rw [unlM_same]
    rfl
theorem DiffWritten_spec {a b : T} (ha : wfT a) (hb : wfT b) {most : Int} (hm : i64R most) {x y : Int} (hx : u64R x) (hy : u64R y) : G.Spec Tryz.prog 4 [tX a,tX b,iv most,uv x,uv y] (bv true) := by
  have z0 : u64R 0 := ⟨by decide,by decide⟩
  have W := pWord_spec (i := 3) hx hy
  have uz := unl_zero hx hy
  have ui := unlZ_in x y
  have U := rUnlike_spec hx hy
  have M1 := rMix_spec z0 hx ui.1 ui.2
  have M2 := rMix_spec z0 hy ui.1 ui.2
  refine spec_of t_centolaw26_DiffWritten (by simp) fun w0 I0 => ?_
  unfold c_centolaw26_DiffWritten
  simp
  refine sc_call (good26_spec ha) (by simp) ?_
  cases h1 : good26 a with
  | false =>
    simp
    refine sc_call_off rfl ?_
    simp
    refine sc_call awake26_spec (by simp) ?_
    simp
    exact frz_bare rfl
  | true =>
    simp
    refine sc_call_gf rfl (fun _ => good26_spec hb) (fun _ => by simp) (by simp) ?_
    cases h2 : good26 b with
    | false =>
      simp
      refine sc_call awake26_spec (by simp) ?_
      simp
      exact frz_bare rfl
    | true =>
      have pa := good26_parts h1
      have pb := good26_parts h2
      have T1 := pTrees_spec ha hb (by omega) (by omega) hm
      have O := df_once ha hb (by omega) (by omega) (most := most)
      have wf := wf_df ha hb (by omega) (by omega) (most := most)
      have E1 := rEdit22_spec _ O.1
      rw [O.2] at E1
      have S := same26_spec wf
      generalize dfE most a b = D at *
      simp
      refine sc_call T1 (by simp) ?_
      simp
      refine sc_call W (by simp) ?_
      by_cases hxy : x = y
      · have hz := uz.2 hxy
        subst hxy
        rw [hz]
        simp [WE0]
        refine sc_call_off rfl ?_
        simp
        refine sc_call_off rfl ?_
        simp
        refine sc_call_off rfl ?_
        simp
        refine sc_call E1 (by simp) ?_
        simp
        refine sc_call S (by simp) ?_
        simp
        refine sc_call_gt rfl (fun _ => awake26_spec) (fun _ => rfl) rfl ?_
        simp
        exact frz_bare rfl
      · have hz : ¬ unlZ x y = 0 := fun h => hxy (uz.1 h)
        simp [hz,wdE,hxy]
        refine sc_call_gf rfl (fun _ => U) (fun _ => by simp) (by simp) ?_
        simp
        refine sc_call_gf rfl (fun _ => M1) (fun _ => by simp) (by simp) ?_
        simp
        refine sc_call_gf rfl (fun _ => M2) (fun _ => by simp) (by simp) ?_
        simp
        refine sc_call E1 (by simp) ?_
        simp
        refine sc_call S (by simp) ?_
        simp
        refine sc_call_gt rfl (fun _ => awake26_spec) (fun _ => rfl) rfl ?_
        simp
        exact frz_bare rfl
end Go.Proofs.YtmeldaflhkiopaaGreat

namespace Go.Proofs.YtmeldaflhkiopaaGreat
set_option linter.unusedVariables false
set_option linter.unusedSimpArgs false
open Go Go.G Go.Proofs Go.PL Go.RowKit
theorem lit_i64 {m : Int} (h : (Lit.int .i64 m).wf = true) : i64R m := by
  simp [Lit.wf,IntKind.min,IntKind.max,IntKind.bits,IntKind.signed] at h
  unfold i64R; omega
theorem lit_u64 {m : Int} (h : (Lit.int .u64 m).wf = true) : u64R m := by
  simp [Lit.wf,IntKind.min,IntKind.max,IntKind.bits,IntKind.signed] at h
  unfold u64R; omega
theorem und_int' : Tryz.prog.underlying 3 = some (.int .i64) := by kernel_rfl
theorem und_u64' : Tryz.prog.underlying 36 = some (.int .u64) := by kernel_rfl
theorem hasI {n : Nat} {b : List A} (h : Has Tryz.prog n 3 b) : ∃ m,i64R m∧b = [iv m] := by
  cases n with
  | zero => exact h.elim
  | succ n =>
    unfold Has at h
    rw [und_int'] at h
    obtain ⟨m,hm,rfl⟩ := h
    exact ⟨m,lit_i64 hm,rfl⟩
theorem hasU {n : Nat} {b : List A} (h : Has Tryz.prog n 36 b) : ∃ m,u64R m∧b = [uv m] := by
  cases n with
  | zero => exact h.elim
  | succ n =>
    unfold Has at h
    rw [und_u64'] at h
    obtain ⟨m,hm,rfl⟩ := h
    exact ⟨m,lit_u64 hm,rfl⟩
theorem rowOf {α : Type} {xs : List A} {g : α→A} {R : α→Prop} (h : ∀ x,x ∈ xs→∃ y,R y∧x.soft = g y) : ∃ l : List α,A.softL xs = l.map g∧l.length = xs.length∧∀ y,y ∈ l→R y := by
  induction xs with
  | nil => exact ⟨[],rfl,rfl,fun y h => nomatch h⟩
  | cons x xs ih =>
    obtain ⟨y,hy,e⟩ := h x (by simp)
    obtain ⟨l,e2,e3,hl⟩ := ih fun z hz => h z (by simp [hz])
    refine ⟨y :: l,by simp [A.softL,e,e2],by simp [e3],fun z hz => ?_⟩
    rcases List.mem_cons.1 hz with rfl | hz
    · exact hy
    · exact hl z hz
theorem hasSl {P : Program} {t e : TypeId} {m : Nat} (u : P.underlying t = some (.slice e)) (hb : P.bytesOf e = m) {n : Nat} {b : List A} (h : Has P n t b) {α : Type} {g : α→A} {R : α→Prop} (hx : ∀ k b,k < n→Has P k e b→∃ y,R y∧(mk P e b).soft = g y) :
    ∃ (f : Bool) (xs : List A) (l : List α),b = [.sl f xs]∧A.softL xs = l.map g∧l.length * m≤140737488355328∧∀ y,y ∈ l→R y := by
  cases n with
  | zero => exact h.elim
  | succ n =>
    unfold Has at h
    rw [u] at h
    obtain ⟨f,xs,rfl,_,hz,hf,hx'⟩ := h
    rw [hb] at hz
    obtain ⟨l,e1,e2,hl⟩ := rowOf (g := g) (R := R) (xs := xs) fun x hxx => by
      obtain ⟨b,hb',rfl⟩ := hx' x hxx
      exact hx n b (by omega) hb'
    exact ⟨f,xs,l,rfl,e1,by rw [e2]; exact Nat.le_trans hz (by decide),hl⟩
theorem mk_int (b : List A) : mk Tryz.prog 3 b = b.headD .any := by unfold mk; rw [und_int']
theorem mk_u64 (b : List A) : mk Tryz.prog 36 b = b.headD .any := by unfold mk; rw [und_u64']
theorem hasWs {n : Nat} {b : List A} (h : Has Tryz.prog n 22 b) : ∃ (f : Bool) (xs : List A) (l : List Int),b = [.sl f xs]∧A.softL xs = l.map uv∧l.length * 8≤140737488355328∧∀ y,y ∈ l→u64R y :=
  hasSl (e := 36) (by kernel_rfl) (by kernel_rfl) h fun k b _ hb => by
    obtain ⟨m,h1,rfl⟩ := hasU hb
    exact ⟨m,h1,by rw [mk_u64]; rfl⟩
theorem und_tree : Tryz.prog.underlying 25 = some (.struct (Tryz.prog.fieldsOf 25)) := by kernel_rfl
theorem fld_tree : (Tryz.prog.fieldsOf 25).toList.map Field.type = [3,22,23] := by kernel_rfl
theorem mk_tree (b : List A) : mk Tryz.prog 25 b = .agg b := by unfold mk; rw [und_tree]
theorem hasTree : ∀ (n : Nat) (b : List A),Has Tryz.prog n 25 b→∃ t,wfT t∧A.softL b = [iv t.kind,uws t.words,tKs t.kids] := by
  intro n
  induction n using Nat.strongRecOn with
  | ind n ih =>
    intro b h
    cases n with
    | zero => exact h.elim
    | succ n =>
      unfold Has at h
      rw [und_tree] at h
      simp only at h
      rw [hasL_types,fld_tree] at h
      obtain ⟨_,_,rfl,h1,_,_,rfl,h2,_,_,rfl,h3,rfl⟩ := h
      obtain ⟨k,hk,rfl⟩ := hasI h1
      obtain ⟨f,xs,w,rfl,e2,l2,r2⟩ := hasWs h2
      obtain ⟨f3,ys,l,rfl,e3,l3,r3⟩ := hasSl (m := 56) (e := 25) (g := tA) (R := wfT) (by kernel_rfl) (by kernel_rfl) h3 fun j b hj hb => by
        obtain ⟨t,ht,e⟩ := ih j (by omega) b hb
        exact ⟨t,ht,by rw [mk_tree]; simp only [A.soft,e]; rw [tA_eq]⟩
      refine ⟨.mk k w l,wfT_iff.2 ⟨hk,r2,l2,l3,r3⟩,?_⟩
      simp only [List.cons_append,List.nil_append,List.append_nil,A.softL,A.soft,e2,e3]
      rfl
end Go.Proofs.YtmeldaflhkiopaaGreat

namespace Go.Proofs.YtmeldaflhkiopaaGreat
set_option linter.unusedVariables false
set_option linter.unusedSimpArgs false
open Go Go.G Go.Proofs Go.PL Go.RowKit
set_option maxRecDepth 100000 in
theorem said_diffWritten (xs : List A) (h : ArgsHas Tryz.prog Tryz.f4.params.toList xs) : G.Spec Tryz.prog 4 xs (.v (.bool true)) := by
  have h : ArgsHas Tryz.prog [25,25,3,36,36] xs := h
  match xs,h with
  | [a,a2,a3,a4,a5],⟨⟨n,b,h1,h2⟩,⟨n2,b2,h12,h22⟩,⟨n3,b3,h13,h23⟩,⟨n4,b4,h14,h24⟩,⟨n5,b5,h15,h25⟩,_⟩ =>
    obtain ⟨t,ht,et⟩ := hasTree _ _ h1
    obtain ⟨t2,ht2,et2⟩ := hasTree _ _ h12
    obtain ⟨m,hm,rfl⟩ := hasI h13
    obtain ⟨x,hx,rfl⟩ := hasU h14
    obtain ⟨y,hy,rfl⟩ := hasU h15
    rw [h2,mk_tree,h22,mk_tree,h23,mk_int,h24,mk_u64,h25,mk_u64]
    exact (DiffWritten_spec ht ht2 hm hx hy).soft (by simp only [A.softL,A.soft,et,et2]; rfl)
end Go.Proofs.YtmeldaflhkiopaaGreat

namespace Go.G
set_option linter.unusedVariables false
set_option linter.unusedSimpArgs false
open Go.RowKit Go.ChangeShapes Go.WideShapes
section
variable {H : Type} {enc : TypeId × Value→H} {P : Program}
def rowsRead (P : Program) (ts : List TypeId) : Bool := ts.all fun t => P.readableRec t && decide (t < P.types.size)
theorem trodAll_below (hl : laidOutB P = true) {W W' : World} (hb : Below W.heap.size W W') (sp : Nat→Bool) : ∀ {ts : List TypeId} {vs : List Value} {ds : List (DataW H)} {ps : List MemPlace},rowsRead P ts = true →
    DataW.TrodAll enc P W 0 (fun _ => true) true ts vs ds ps→(∀ x ∈ ps,x.block < W.heap.size)→(∀ x ∈ ps,sp x.block = true)→DataW.TrodAll enc P W' 0 sp true ts vs ds ps
  | [],_,_,_,_,h,_,_ => by
    obtain ⟨rfl,rfl,rfl⟩ := trodAll_nil h
    exact trodAll_mk0
  | t :: ts,_,_,_,hr,h,hlt,hsp => by
    obtain ⟨v,vs,d,ds,p,q,rfl,rfl,rfl,h1,h2⟩ := trodAll_cons h
    simp only [rowsRead,List.all_cons,Bool.and_eq_true,decide_eq_true_eq] at hr
    exact ⟨p,q,WideElems.Trod_stays hl hr.1.1 hr.1.2 h1 (fun x hx => hb.same (hlt x (by simp [hx]))) (fun x hx => hsp x (by simp [hx])),
      trodAll_below hl hb sp (by simpa [rowsRead] using hr.2) h2 (fun x hx => hlt x (by simp [hx])) (fun x hx => hsp x (by simp [hx])),rfl⟩
theorem trodAll_length {w : World} {base : Nat} {spare : Nat→Bool} {held : Bool} : ∀ {ts : List TypeId} {vs : List Value} {ds : List (DataW H)} {ps : List MemPlace},DataW.TrodAll enc P w base spare held ts vs ds ps→ds.length = ts.length∧vs.length = ts.length
  | [],_,_,_,h => by
    obtain ⟨rfl,rfl,rfl⟩ := trodAll_nil h
    exact ⟨rfl,rfl⟩
  | t :: ts,_,_,_,h => by
    obtain ⟨v,vs,d,ds,p,q,rfl,rfl,rfl,h1,h2⟩ := trodAll_cons h
    have := trodAll_length h2
    simp [this]
theorem post_law {f : Func} {s : ChangeSpec} {apart fresh handsOn again : Bool} {W W' : World} {args : Array Value} {ds gs : List (DataW H)} {before : List MemPlace} {t : TypeId}
    (hl : laidOutB P = true) (hp : rowsRead P f.params.toList = true) (hsv : s.vars = []) (hW : DataW.Whole enc P f.params.toList s.vars apart W args.toList ds gs before) (hB : Below W.heap.size W W')
    (hrt : f.resultTypes = #[t]) (ht : P.underlying t = some .bool) (hfn : ∀ ds' : List (DataW H),ds'.length = f.params.size→s.fn H ds' = { results := [.lit (.bool true)],args := ds' }) :
    s.post enc P f apart fresh handsOn again W args (.bool true) W' := by
  have hlt := hW.lt
  have hW' := hW
  obtain ⟨p,q,hA,hV,rfl,hz,hn⟩ := hW'
  rw [hsv] at hV
  obtain ⟨rfl,rfl⟩ := trodVars_none hV
  have hfn := hfn ds (by have := (trodAll_length hA).1; simpa using this)
  simp only [List.append_nil] at hlt hz hn
  have hA' := fun sp => trodAll_below hl hB sp hp hA hlt
  have hr : ∀ (b : Nat) (sp : Nat→Bool) (hd : Bool),DataW.TrodAll enc P W' b sp hd f.resultTypes.toList ((Value.bool true).resultList f.resultTypes.size) [.lit (.bool true)] [] := fun b sp hd => by
    rw [hrt]
    exact trodAll_cons_mk (shut_bool ht _) trodAll_mk0
  refine ⟨ds,[],p ++ [],[],p,[],hW,?_,?_,?_,Below.frame hB _,fun _ => ?_⟩
  · simp only [List.append_nil,hfn]; exact hr _ _ _
  · simp only [List.append_nil,hfn]; exact hA' _ (fun x hx => by simpa using hlt x hx)
  · simp only [List.append_nil,hfn,hsv]; exact rfl
  · refine ⟨ok_one hrt rfl (okWide_bool_mk ht _),_,[],([] ++ p) ++ [],⟨[] ++ p,[],trodAll_append (hA' (fun _ => true) (fun _ _ => rfl)) (hr _ _ _),by rw [hsv]; rfl,rfl,?_,?_⟩,?_⟩
    · intro b off hx
      have hx : MemPlace.cell b off ∈ p := by simpa using hx
      rw [Below.frozen hB (hlt _ hx)]
      exact hz b off hx
    · intro ha
      have := hn ha
      simpa using this
    · intro x hx _
      simpa using hx
theorem law_calls {f : Func} {fid : FuncId} {s : ChangeSpec} {apart fresh handsOn again : Bool} {W : World} {base : Nat} {args : Array Value} {ds gs : List (DataW H)} {before : List MemPlace} {t : TypeId} (S : List TypeId)
    (hl : laidOutB P = true) (hp : rowsRead P f.params.toList = true) (hS : plainT P S = true) (hts : f.params.toList.all S.contains = true) (hsv : s.vars = []) (hrt : f.resultTypes = #[t]) (ht : P.underlying t = some .bool)
    (hfn : ∀ ds' : List (DataW H),ds'.length = f.params.size→s.fn H ds' = { results := [.lit (.bool true)],args := ds' })
    (hspec : ∀ as',ArgsHas P f.params.toList as'→Spec P fid as' (.v (.bool true))) (htb : Tabs P W (Old W))
    (hval : ∀ (j : Nat) t v,f.params[j]? = some t→args[j]? = some v→Value.okWide P W .any base t v) (hW : DataW.Whole enc P f.params.toList s.vars apart W args.toList ds gs before)
    (hwt : (DataW.weightsEach P (f.params.toList ++ s.plain.varTypes P) (ds ++ gs)).all (·≤reachBytes) = true) :
    Calls P fid args W fun e W' => ∃ v,e = .returned v∧s.post enc P f apart fresh handsOn again W args v W' := by
  have hW' := hW
  obtain ⟨p,q,hA,hV,rfl,hz,hn⟩ := hW
  have hV' := hV
  rw [hsv] at hV'
  obtain ⟨rfl,_⟩ := trodVars_none hV'
  have hwt' : ∀ m,m ∈ DataW.weightsEach P f.params.toList ds→m≤reachBytes := by
    have e : s.plain.varTypes P = [] := by simp [ChangeSpec.plain,DataSpec.varTypes,hsv]
    rw [e,List.append_nil,List.append_nil,List.all_eq_true] at hwt
    exact fun m hm => by simpa using hwt m hm
  obtain ⟨as',h1,h2,h3⟩ := args_of_trod hS (fun t ht => by rw [List.all_eq_true] at hts; simpa using hts t ht) hwt' hA (fun j u v hj hv => hval j u v (by simpa using hj) (by simpa using hv))
  refine ((hspec as' h2).2 W (Old W) args (fun _ h => h) htb (by simpa using h1.symm) (fun k y hk => ?_)).mono fun e W' ⟨v,he,hB,hr⟩ => ?_
  · have := h3 k y hk
    simpa [List.getD,Array.getD_eq_getD_getElem?] using this
  · cases hr
    exact ⟨_,he,post_law hl hp hsv hW' hB hrt ht hfn⟩
end
end Go.G
